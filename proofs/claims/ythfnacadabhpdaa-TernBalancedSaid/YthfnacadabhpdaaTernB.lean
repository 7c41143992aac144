/- Pairs are parted by the byte at a place. -/
import Derived.Test.YthfnacadabhpdaaTernM
namespace Go.Proofs.Ythfnacadabhpdaa
open Go.RowKit
set_option linter.unusedVariables false
set_option linter.unusedSimpArgs false
namespace TernB

theorem flat_new {G : List Prs} {ps : Prs} {j : Nat} {p} (h : G.flatten = ps.take j) (hp : ps[j]? = some p) : (G ++ [[] ++ [p]]).flatten = ps.take (j + 1) := by
  rw [List.take_add_one, hp, List.flatten_append, h]; simp
theorem flat_new' {G : List Prs} {g : Prs} {ps : Prs} {j : Nat} {p} (hg : g = []) (h : G.flatten = ps.take j) (hp : ps[j]? = some p) : (G ++ [g ++ [p]]).flatten = ps.take (j + 1) := by subst hg; exact flat_new h hp
theorem flat_more {G' : List Prs} {g : Prs} {ps : Prs} {j : Nat} {p} (h : (G' ++ [g]).flatten = ps.take j) (hp : ps[j]? = some p) : (G' ++ [g ++ [p]]).flatten = ps.take (j + 1) := by
  rw [List.take_add_one, hp, ← h]; simp
theorem good_len {n : Nat} {G : List Prs} (h : Good n G) : G.length ≤ G.flatten.length := by
  have key : ∀ (G : List Prs), (∀ g ∈ G, g ≠ []) → G.length ≤ G.flatten.length := by
    intro G
    induction G with
    | nil => intro _; simp
    | cons g G ih =>
      intro h
      have h1 := ih (fun x hx => h x (by simp [hx]))
      have h2 := List.length_pos_iff.2 (h g (by simp))
      simp only [List.length_cons, List.flatten_cons, List.length_append]; omega
  exact key G h.ne
theorem good_empty {n : Nat} {G : List Prs} (h : Good n G) (he : G.flatten = []) : G = [] := by
  have := good_len h
  rw [he] at this
  exact List.eq_nil_of_length_eq_zero (by simpa using this)



/-- what byByte comes to -/
def ByRet (K : Nat → Prop) (w : World) (n : Nat) (ps : Prs) (e : Ending) (w' : World) : Prop := (∃ v' G, e = .returned v' ∧ G.flatten = ps ∧ Good n G ∧ RG w' (fun b => K b ∨ w.heap.size ≤ b) v' G) ∧ Ext w w'
set_option maxRecDepth 100000 in
set_option maxHeartbeats 8000000 in
theorem byByte_any {K : Nat → Prop} (w : World) (v : Value) (ps : Prs) (way : List Int) (h : RP w K v ps) (hK : ∀ b, K b → b < w.heap.size) (hon : On way ps) (hr : Rises ps) (hm : ps.length ≤ 1000000) (hwl : way.length ≤ 65535) :
    Calls Try.prog 63 #[v, .int .i64 way.length] w (ByRet K w way.length ps) := by
  obtain ⟨a, c, rfl, l1, m1, hn⟩ := h.shape
  unfold maxLen at m1
  generalize hwn : way.length = wn at *
  have H := Lib.hid h
  clear h
  have HK := Lib.hid hK
  clear hK
  have Hon := Lib.hid hon
  clear hon
  have Hr := Lib.hid hr
  clear hr
  go_enter Try.func63, Try.ntmps63
  go_wp2_with (fail)
  go_loopw [5, 10] (fun s5 s10 wr => ∃ (j : Nat) (G : List Prs) (us : List Value), j ≤ ps.length ∧ s10 = .int .i64 j ∧ OG K w wr s5 G us ∧ G.flatten = ps.take j ∧ Good wn G ∧ Ext w wr) (fun _ s10 _ => ps.length - (intOf s10).toNat)
  case atStart => exact ⟨0, [], [], by omega, rfl, OG.nil _ _ _, by simp, good_nil _, Touch.refl _ _⟩
  case round =>
    obtain ⟨j, G, us, hj, rfl, hog, hfl, hgood, ht⟩ := hrel
    obtain ⟨s5', es5⟩ : ∃ s5', s5' = u5 := ⟨_, rfl⟩
    subst es5
    by_cases hjl : j < ps.length
    · obtain ⟨b, off, rfl, _⟩ := H.out.addr (by omega)
      have hg := List.getElem?_eq_getElem hjl
      obtain ⟨kv, d0, d1, hkb0⟩ := (H.out.ext ht).get j _ hg
      have honp := Hon.out _ (List.mem_of_getElem? hg)
      have hlenp := on_len Hon.out (List.mem_of_getElem? hg)
      have hgetp := on_get Hon.out (List.mem_of_getElem? hg)
      have hgn := good_len hgood
      rw [hfl] at hgn
      simp only [List.length_take] at hgn
      generalize hpe : ps[j] = p at *
      obtain ⟨ka, kc, rfl, l2, m2, n2⟩ := hkb0.shape
      unfold maxLen at m2
      have i0 : (0 : Int) ≤ (j : Int) := by omega
      have i1 : (j : Int) < (ps.length : Int) := by omega
      obtain ⟨wx, hwx⟩ : ∃ wx, wx = wr.alloc (.cells #[.slice ka p.1.length kc, .int .u64 p.2] 33) := ⟨_, rfl⟩
      have xa : Ext wr wx := by rw [hwx]; exact (Touch.refl _ _).alloc _
      have g0 : wx.cell? ⟨wr.heap.size, 0, none⟩ = some (.slice ka p.1.length kc) := by rw [hwx]; simp
      have g1 : wx.cell? ⟨wr.heap.size, 1, none⟩ = some (.int .u64 p.2) := by rw [hwx]; simp
      have hxs : wr.heap.size < wx.heap.size := by rw [hwx]; simp
      have hsz := ht.size
      by_cases hj0 : j = 0
      · subst hj0
        have hGe := good_empty hgood (by rw [hfl]; simp)
        have hog0 := hog
        have hog := hog.ext (xa.trans' (Touch.refl _ _).drew)
        have hty := ht.trans' (xa.trans' (Touch.refl _ _).drew)
        simp only [Nat.zero_mul, Nat.add_zero] at d0 d1
        have hkb1 := hkb0.ext (xa.trans' (Touch.refl _ _).drew)
        have g0 : wx.drew.cell? ⟨wr.heap.size, 0, none⟩ = some (.slice ka p.1.length kc) := g0
        have g1 : wx.drew.cell? ⟨wr.heap.size, 1, none⟩ = some (.int .u64 p.2) := g1
        have hlw : ∀ b, s5'.ownBlock = some b → b < wr.heap.size := fun b hb => (hog0.own.lt b hb).2
        have Hg := Lib.hid hg
        clear hg
        have Hkb0 := Lib.hid hkb0
        clear hkb0
        have Honp := Lib.hid honp
        clear honp
        have Hgetp := Lib.hid hgetp
        clear hgetp
        have Hpe := Lib.hid hpe
        clear hpe
        have Hfl := Lib.hid hfl
        clear hfl
        have Hgood := Lib.hid hgood
        clear hgood
        have Ht := Lib.hid ht
        clear ht
        have Xa := Lib.hid xa
        clear xa
        have Hty := Lib.hid hty
        clear hty
        have Hkb1 := Lib.hid hkb1
        clear hkb1
        have Hog0 := Lib.hid hog0
        clear hog0
        have Hog := Lib.hid hog
        clear hog
        have Hlw := Lib.hid hlw
        clear hlw
        have HGe := Lib.hid hGe
        clear hGe
        go_wp2_with (fail)
        rw [← hwx]
        clear hwx d0 d1
        refine wp_region_plan (.take 0 (.take 1 (.take 2 (.take 3 (.take 4 (.take 5 (.take 6 (.take 7 (.take 8 (.take 9 (.take 10 (.take 11 (.take 12 (.take 13 (.take 14 (.take 15 (.take 16 (.take 17 (.take 18 .done))))))))))))))))))) (fun wy => True) (by kernel_rfl) (by kernel_rfl) (by kernel_rfl) rfl ?_ (fun KK hKK => ?_)
        · trivial
        repeat (first
          | (refine wpPlan_take (v := ?_) rfl (by rfl) (fun W hW => ?_) ?_; rotate_left; (focus ((try dsimp only at hW); go_split_ands; go_simp; (try with_reducible rfl); done)); (try simp only [Act.put, List.setIfInBounds_toArray, List.set_cons_zero, List.set_cons_succ]))
          | (refine wpPlan_skip rfl (by rfl) ?_; (try simp only [Act.put, List.setIfInBounds_toArray, List.set_cons_zero, List.set_cons_succ])))
        refine wpPlan_done (hKK.out _ _ ?_)
        clear hKK KK
        have hgm : Good wn (G ++ [[p]]) := by rw [HGe.out]; exact good_one wn p
        have Hgm := Lib.hid hgm
        clear hgm
        obtain ⟨wd, hwd⟩ : ∃ wd, wd = wx.drew := ⟨_, rfl⟩
        rw [← hwd]
        rw [← hwd] at g0 g1
        have hog := Hog.out
        have hwds : wr.heap.size < wd.heap.size := by rw [hwd]; exact hxs
        rw [← hwd] at hog
        have hty := Hty.out
        rw [← hwd] at hty
        have hkb1 := Hkb1.out
        rw [← hwd] at hkb1
        have hown := hog.own
        obtain ⟨oa, oc, hoa⟩ := own_len hown
        generalize hn6 : us.length = n6 at *
        rw [hoa] at hown
        rw [hoa]
        have hn6l : n6 ≤ 1000000 := by have h9 := hog.len; omega
        clear hwd Hog Hty Hkb1
        have Hog := Lib.hid hog
        clear hog
        have Hty := Lib.hid hty
        clear hty
        have Hkb1 := Lib.hid hkb1
        clear hkb1
        have Hown := Lib.hid hown
        clear hown
        have Hoa := Lib.hid hoa
        clear hoa
        have Hn6 := Lib.hid hn6
        clear hn6
        go_wp2_with (at_builtin; (refine wpList_push_any _ rfl _ _ 91 rfl 22 (.slice none 0 0) 1 24 Try.underlying91 info_grp rfl (by decide) (.slice oa n6 oc) n6 us rfl (own_keep Hown.out ((Touch.refl (fun _ => False) _).alloc _) (fun _ _ h => h)) (some ⟨_, 0, none⟩) 1 1 rfl (fun h => by cases h) [.slice none 0 0] (by decide) rfl (src_one _ _ _) (by simp [Value.oneCell']) (by simp [maxLen]; omega) (by omega) ?_); intro v10 wy hown10 ht10 hb10)
        have z10 : Touch (fun b => s5'.ownBlock = some b) wd wy := by rw [Hoa.out]; exact ((Touch.refl _ _).alloc _).trans' ht10
        have hb10' : v10.ownBlock = s5'.ownBlock ∨ ∃ N, v10.ownBlock = some N ∧ wd.heap.size ≤ N := by rw [Hoa.out]; exact hb10.imp id (fun h => ⟨_, h, by simp⟩)
        have hog2 := OG.push Hog.out (by have := Hty.out.size; omega) HK.out (by rw [Hn6.out]; exact hown10) z10 hb10'
        obtain ⟨us', eus⟩ : ∃ x, x = us := ⟨us, rfl⟩
        obtain ⟨G', eG⟩ : ∃ x, x = G := ⟨G, rfl⟩
        subst eus
        subst eG
        obtain ⟨u, eu⟩ : ∃ u, u = Value.slice none 0 0 := ⟨_, rfl⟩
        obtain ⟨g, eg⟩ : ∃ g : Prs, g = [] := ⟨_, rfl⟩
        rw [← eu, ← eg] at hog2
        have hgl : g.length ≤ 1000000 := by rw [eg]; simp
        have hcl : us'.length ≤ 1000000 := by rw [Hn6.out]; exact hn6l
        have hvo : ∀ b, v10.ownBlock = some b → b ≠ wr.heap.size := fun b hb => by
          rcases hb10' with h9 | ⟨N, h9, h8⟩
          · have := Hlw.out b (h9 ▸ hb); omega
          · rw [h9] at hb; cases hb; omega
        have huo : ∀ b, u.ownBlock = some b → b ≠ wr.heap.size := fun b hb => by rw [eu] at hb; cases hb
        have hkb := Hkb1.out.keep z10 (fun b hb hv => by have := HK.out b hb; have := Hog.out.bv b hv; omega)
        have g0 := keepc z10 (fun h => absurd (Hlw.out wr.heap.size h) (Nat.lt_irrefl _)) g0
        have g1 := keepc z10 (fun h => absurd (Hlw.out wr.heap.size h) (Nat.lt_irrefl _)) g1
        have hty2 := Hty.out.ext_new z10 (fun i hi => Hog.out.bv i hi)
        have hwy : w.heap.size ≤ wy.heap.size := hty2.size
        have hog := hog2
        have hty := hty2
        have hfm := flat_new' eg Hfl.out Hg.out
        have hgm := Hgm.out
        have hgm : Good wn (G' ++ [g ++ [p]]) := by rw [eg]; exact hgm
        clear hog2 hty2 z10 hb10' hb10 hown10 ht10 eu eg Hown Hoa Hn6 Hog Hty Hkb1
        have Hkb := Lib.hid hkb
        clear hkb
        have Hty := Lib.hid hty
        clear hty
        have Hfm := Lib.hid hfm
        clear hfm
        have Hgm := Lib.hid hgm
        clear hgm
        obtain ⟨es, hes, hou, hkk⟩ := hog.gr us'.length u g (by simp) (by have h9 := hog.len; simp only [List.length_append, List.length_cons, List.length_nil] at h9; rw [List.getElem?_append_right (by omega), show us'.length - G'.length = 0 by omega]; rfl)
        have hesl : es.length ≤ 1000000 := by rw [← hes] at hgl; simpa using hgl
        obtain ⟨ua, uc, rfl⟩ := own_len hou
        obtain ⟨oa, oc, rfl⟩ := own_len hog.own
        obtain ⟨bo, rfl⟩ := own_addr hog.own (by simp)
        have hown := hog.own
        have e0 : wy.cell? ⟨bo, us'.length, none⟩ = some (.slice ua es.length uc) := by rw [hown.cellAt _ (by simp)]; simp
        have ef := hown.frozenAt us'.length
        have hub : ∀ b, (Value.slice ua es.length uc).ownBlock = some b → b ≠ bo := fun b hb e => (hog.bu _ (by simp) b hb).2 (by subst e; rfl)
        have hbn : bo ≠ wr.heap.size := hvo bo rfl
        have hll : (us' ++ [(Value.slice ua es.length uc)]).length = us'.length + 1 := by simp
        have hogx := hog
        rw [hll]
        generalize hm7 : us'.length = m at *
        have m1 : IntKind.i64.wrap (m : Int) = (m : Int) := by rw [IntKind.wrap_i64]; omega
        have m2 : (0 : Int) ≤ (m : Int) := by omega
        have m3 : (m : Int) < (m : Int) + 1 := by omega
        have Hog := Lib.hid hog
        clear hog
        have Hes := Lib.hid hes
        clear hes
        have Hou := Lib.hid hou
        clear hou
        have Hkk := Lib.hid hkk
        clear hkk
        have Hown := Lib.hid hown
        clear hown
        have Hub := Lib.hid hub
        clear hub
        have Hll := Lib.hid hll
        clear hll
        have Hm7 := Lib.hid hm7
        clear hm7
        have Hogx := Lib.hid hogx
        clear hogx
        have Hvo := Lib.hid hvo
        clear hvo
        have Huo := Lib.hid huo
        clear huo
        go_wp2_with (fail)
        refine wp_region_plan (.take 0 (.take 1 (.take 2 (.take 3 (.take 4 (.take 5 (.take 6 (.take 7 (.take 8 (.take 9 (.take 10 (.must 11 (.must 12 (.take 13 (.last 14 .done))))))))))))))) (fun wz => wz.cell? ⟨bo, m, none⟩ = some (.slice ua es.length uc) ∧ wz.cell? ⟨wr.heap.size, 0, none⟩ = some (.slice ka p.1.length kc) ∧ wz.cell? ⟨wr.heap.size, 1, none⟩ = some (.int .u64 p.2)) (by kernel_rfl) (by kernel_rfl) (by kernel_rfl) rfl ?_ (fun KK hKK => ?_)
        · exact ⟨e0, g0, g1⟩
        repeat (first
          | (refine wpPlan_take (v := ?_) rfl (by rfl) (fun W hW => ?_) ?_; rotate_left; (focus ((try dsimp only at hW); go_split_ands; go_simp; (try with_reducible rfl); done)); (try simp only [Act.put, List.setIfInBounds_toArray, List.set_cons_zero, List.set_cons_succ]))
          | (refine wpPlan_skip rfl (by rfl) ?_; (try simp only [Act.put, List.setIfInBounds_toArray, List.set_cons_zero, List.set_cons_succ])))
        refine wpPlan_must rfl (by rfl) (fun K hK => ?_)
        go_simp
        have x3 : Ext wy (wy.drew.alloc (.cells #[.slice ka p.1.length kc, .int .u64 p.2] 33)) := (Touch.refl _ _).drew.alloc _
        have e3 := keepc x3 id e0
        have f3 := keepf (p := ⟨bo, m, none⟩) x3 (World.block_lt_of_cell? _ _ e0) id ef
        refine hK.out _ _ ?_ ?_
        · exact ⟨e3, keepc x3 id g0, keepc x3 id g1⟩
        clear hK K
        (try simp only [Act.put, List.setIfInBounds_toArray, List.set_cons_zero, List.set_cons_succ])
        refine wpPlan_must rfl (by rfl) (fun K hK => ?_)
        refine wp_push_any _ _ _ 22 rfl 33 _ 2 32 Try.underlying22 info_pair rfl (by decide) (.slice ua es.length uc) es.length (flat es) rfl (own_keep Hou.out x3 (fun _ _ h => h)) (some ⟨wy.heap.size, 0, none⟩) 1 1 rfl (fun h => by cases h) [.slice ka p.1.length kc, .int .u64 p.2] (by omega) rfl (src_pair wy.drew _ _ _) (by intro u hu; simp only [List.mem_cons, List.not_mem_nil, or_false] at hu; rcases hu with rfl | rfl <;> rfl) (by simp [maxLen]; omega) (by omega) ?_
        intro v5 w5 hown5 ht5 hb5
        obtain ⟨va, vc, rfl⟩ := own_len hown5
        have e5 := keepc ht5 (fun h => Hub.out bo h rfl) e3
        have f5 := keepf (p := ⟨bo, m, none⟩) ht5 (World.block_lt_of_cell? _ _ e3) (fun h => Hub.out bo h rfl) f3
        have zz : Touch (fun b => (Value.slice ua es.length uc).ownBlock = some b) wy w5 := x3.ext_trans ht5
        have hb5' : (Value.slice va (es.length + 1) vc).ownBlock = (Value.slice ua es.length uc).ownBlock ∨ ∃ N, (Value.slice va (es.length + 1) vc).ownBlock = some N ∧ wy.heap.size ≤ N := hb5.imp id (fun h => ⟨_, h, by simp⟩)
        have k0 := keepc zz (fun h => Huo.out _ h rfl) g0
        have k1 := keepc zz (fun h => Huo.out _ h rfl) g1
        clear ht5 hb5 x3 e3 f3
        have Hown5 := Lib.hid hown5
        clear hown5
        have Zz := Lib.hid zz
        clear zz
        have Hb5' := Lib.hid hb5'
        clear hb5'
        refine hK.out _ _ ?_ ?_
        · exact ⟨e5, k0, k1⟩
        clear hK K
        (try simp only [Act.put, List.setIfInBounds_toArray, List.set_cons_zero, List.set_cons_succ])
        repeat (first
          | (refine wpPlan_take (v := ?_) rfl (by rfl) (fun W hW => ?_) ?_; rotate_left; (focus ((try dsimp only at hW); go_split_ands; go_simp; (try with_reducible rfl); done)); (try simp only [Act.put, List.setIfInBounds_toArray, List.set_cons_zero, List.set_cons_succ]))
          | (refine wpPlan_skip rfl (by rfl) ?_; (try simp only [Act.put, List.setIfInBounds_toArray, List.set_cons_zero, List.set_cons_succ])))
        refine wpPlan_last rfl (by rfl) (fun K hK => ?_)
        go_simp
        obtain ⟨hs1, hs2⟩ := World.ownsRow.stored (own_keep Hown.out Zz.out (fun b hb h => by cases hb; exact Hub.out bo h rfl)) m (.slice va (es.length + 1) vc)
        have z2 : Touch (fun b => b = bo) w5 (w5.setCell ⟨bo, m, none⟩ (.slice va (es.length + 1) vc)) := (Touch.grown hs2).mono (fun i hi _ => by cases hi; rfl)
        have hog2 := OG.more (e := (.slice ka p.1.length kc, p)) Hogx.out hwy HK.out Hes.out Hkk.out Hkb.out Hown5.out Zz.out Hb5'.out (by rw [Hm7.out]; exact hs1) z2
        have t2 : Ext w (w5.setCell ⟨bo, m, none⟩ (.slice va (es.length + 1) vc)) := (Hty.out.ext_new Zz.out (fun i hi => (Hog.out.bu _ (by simp) i hi).1)).ext_new z2 (fun i hi => by subst hi; exact Hog.out.bv _ rfl)
        rw [Hll.out] at hog2
        have Hog2 := Lib.hid hog2
        clear hog2
        have T2 := Lib.hid t2
        clear t2
        clear hs1 hs2 z2 e5 f5 k0 k1 e0 ef g0 g1
        refine hK.out _ _ ?_
        clear hK K
        (try simp only [Act.put, List.setIfInBounds_toArray, List.set_cons_zero, List.set_cons_succ])
        refine wpPlan_done (hKK.out _ _ ?_)
        clear hKK KK
        clear m1
        go_wp2_with (fail)
        go_roundw
        case rel => exact ⟨0 + 1, _, _, by omega, by go_num, Hog2.out, Hfm.out, Hgm.out, T2.out⟩
        case measure => simp [intOf]; omega
      · obtain ⟨i, rfl⟩ : ∃ i, j = i + 1 := ⟨j - 1, by omega⟩
        have hil : i < ps.length := by omega
        have hgi := List.getElem?_eq_getElem hil
        obtain ⟨kw, e0, e1, hkw0⟩ := (H.out.ext ht).get i _ hgi
        have hlenq := on_len Hon.out (List.mem_of_getElem? hgi)
        have hgetq := on_get Hon.out (List.mem_of_getElem? hgi)
        generalize hqe : ps[i] = q at *
        obtain ⟨qa, qc, rfl, l3, m3, n3⟩ := hkw0.shape
        obtain ⟨qb, qo, rfl, _⟩ := hkw0.addr (by omega)
        obtain ⟨kb, ko, rfl, _⟩ := hkb0.addr (by omega)
        have f0 := hkw0.cell wn (by omega)
        have f1 := hkb0.cell wn (by omega)
        have hb0 : q.1[wn]'(by omega) = bAt wn q := by have h9 := hgetq; rw [hwn, List.getElem?_eq_getElem (by omega)] at h9; exact Option.some.inj h9
        have hb1 : p.1[wn]'(by omega) = bAt wn p := by have h9 := hgetp; rw [hwn, List.getElem?_eq_getElem (by omega)] at h9; exact Option.some.inj h9
        rw [hb0] at f0
        rw [hb1] at f1
        have e0 := keepc (xa.trans' (Touch.refl _ _).drew) id e0
        have f0 := keepc (xa.trans' (Touch.refl _ _).drew) id f0
        have f1 := keepc (xa.trans' (Touch.refl _ _).drew) id f1
        obtain ⟨G', g, hGg, hqg⟩ := last_group hgood hfl hgi
        have hlw : ∀ b, s5'.ownBlock = some b → b < wr.heap.size := fun b hb => (hog.own.lt b hb).2
        have hlu := hog.lt
        have hog0 := hog
        have hog := hog.ext (xa.trans' (Touch.refl _ _).drew)
        have hty := ht.trans' (xa.trans' (Touch.refl _ _).drew)
        have hkb1 := hkb0.ext (xa.trans' (Touch.refl _ _).drew)
        have g0 : wx.drew.cell? ⟨wr.heap.size, 0, none⟩ = some (.slice (some ⟨kb, ko, none⟩) p.1.length kc) := g0
        have g1 : wx.drew.cell? ⟨wr.heap.size, 1, none⟩ = some (.int .u64 p.2) := g1
        have w1 : IntKind.i64.wrap (i : Int) = (i : Int) := by rw [IntKind.wrap_i64]; omega
        have w2 : (0 : Int) ≤ (i : Int) := by omega
        have w3 : (i : Int) < (ps.length : Int) := by omega
        have w4 : ((i : Int) + 1 == 0) = false := by simp; omega
        have w5' : (((i + 1 : Nat) : Int) == 0) = false := by simp; omega
        have w6 : (0 : Int) ≤ (wn : Int) := by omega
        have w7 : (wn : Int) < (q.1.length : Int) := by omega
        have w8 : (wn : Int) < (p.1.length : Int) := by omega
        rw [hwn] at hlenp hlenq hgetp hgetq
        generalize hbq : bAt wn q = bq at *
        generalize hbp : bAt wn p = bp at *
        by_cases hbb : bq = bp
        · have hne : (bq != bp) = false := by simp [hbb]
          obtain ⟨us', u, hus⟩ : ∃ us' u, us = us' ++ [u] := by
            rcases List.eq_nil_or_concat us with h9 | ⟨us', u, h9⟩
            · have h8 := hog.len; rw [h9, hGg] at h8; simp at h8
            · exact ⟨us', u, by rw [h9]; simp⟩
          subst hus
          subst hGg
          have hgl : g.length ≤ 1000000 := by have h9 := congrArg List.length hfl; simp only [List.flatten_append, List.length_append, List.flatten_cons, List.flatten_nil, List.append_nil, List.length_take] at h9; omega
          have hcl : us'.length ≤ 1000000 := by have h9 := hog.len; simp only [List.length_append, List.length_cons, List.length_nil] at h9 hgn; omega
          have hvo : ∀ b, s5'.ownBlock = some b → b ≠ wr.heap.size := fun b hb => by have := hlw b hb; omega
          have huo : ∀ b, u.ownBlock = some b → b ≠ wr.heap.size := fun b hb => by have := hlu u (by simp) b hb; omega
          have hgm := good_more hgood (p := p) hqg (by rw [hbq, hbp, hbb])
          have hfm := flat_more hfl hg
          have hwy : w.heap.size ≤ wx.drew.heap.size := hty.size
          have hkb := hkb1
          have Hg := Lib.hid hg
          clear hg
          have Hkb0 := Lib.hid hkb0
          clear hkb0
          have Honp := Lib.hid honp
          clear honp
          have Hgetp := Lib.hid hgetp
          clear hgetp
          have Hgetq := Lib.hid hgetq
          clear hgetq
          have Hpe := Lib.hid hpe
          clear hpe
          have Hfl := Lib.hid hfl
          clear hfl
          have Hgood := Lib.hid hgood
          clear hgood
          have Ht := Lib.hid ht
          clear ht
          have Xa := Lib.hid xa
          clear xa
          have Hty := Lib.hid hty
          clear hty
          have Hkb1 := Lib.hid hkb1
          clear hkb1
          have Hog0 := Lib.hid hog0
          clear hog0
          have Hqe := Lib.hid hqe
          clear hqe
          have Hbq := Lib.hid hbq
          clear hbq
          have Hbp := Lib.hid hbp
          clear hbp
          have Hb0 := Lib.hid hb0
          clear hb0
          have Hb1 := Lib.hid hb1
          clear hb1
          have Hgm := Lib.hid hgm
          clear hgm
          have Hfm := Lib.hid hfm
          clear hfm
          have Hkb := Lib.hid hkb
          clear hkb
          have Hkw0 := Lib.hid hkw0
          clear hkw0
          have Hgi := Lib.hid hgi
          clear hgi
          have Hlw := Lib.hid hlw
          clear hlw
          have Hlu := Lib.hid hlu
          clear hlu
          have Hqg := Lib.hid hqg
          clear hqg
          have Hog := Lib.hid hog
          clear hog
          have Hvo := Lib.hid hvo
          clear hvo
          have Huo := Lib.hid huo
          clear huo
          have Hbb := Lib.hid hbb
          clear hbb
          clear e1
          go_wp2_with (fail)
          rw [← hwx]
          clear hwx d0 d1
          refine wp_region_plan (.take 0 (.take 1 (.take 2 (.take 3 (.take 4 (.take 5 (.take 6 (.take 7 (.take 8 (.take 9 (.take 10 (.take 11 (.take 12 (.take 13 (.take 14 (.take 15 (.take 16 (.take 17 (.take 18 .done))))))))))))))))))) (fun wy => wy.cell? ⟨b, off + i * 2, none⟩ = some (.slice (some ⟨qb, qo, none⟩) q.1.length qc) ∧ wy.cell? ⟨wr.heap.size, 0, none⟩ = some (.slice (some ⟨kb, ko, none⟩) p.1.length kc) ∧ wy.cell? ⟨qb, qo + wn, none⟩ = some (.int .u8 bq) ∧ wy.cell? ⟨kb, ko + wn, none⟩ = some (.int .u8 bp)) (by kernel_rfl) (by kernel_rfl) (by kernel_rfl) rfl ?_ (fun KK hKK => ?_)
          · exact ⟨e0, g0, f0, f1⟩
          repeat (first
            | (refine wpPlan_take (v := ?_) rfl (by rfl) (fun W hW => ?_) ?_; rotate_left; (focus ((try dsimp only at hW); go_split_ands; go_simp; (try with_reducible rfl); done)); (try simp only [Act.put, List.setIfInBounds_toArray, List.set_cons_zero, List.set_cons_succ]))
            | (refine wpPlan_skip rfl (by rfl) ?_; (try simp only [Act.put, List.setIfInBounds_toArray, List.set_cons_zero, List.set_cons_succ])))
          refine wpPlan_done (hKK.out _ _ ?_)
          clear hKK KK
          clear w1 e0 f0 f1
          generalize wx.drew = wy at *
          have hog := Hog.out
          have hvo := Hvo.out
          have huo := Huo.out
          clear Hog Hvo Huo
          obtain ⟨es, hes, hou, hkk⟩ := hog.gr us'.length u g (by simp) (by have h9 := hog.len; simp only [List.length_append, List.length_cons, List.length_nil] at h9; rw [List.getElem?_append_right (by omega), show us'.length - G'.length = 0 by omega]; rfl)
          have hesl : es.length ≤ 1000000 := by rw [← hes] at hgl; simpa using hgl
          obtain ⟨ua, uc, rfl⟩ := own_len hou
          obtain ⟨oa, oc, rfl⟩ := own_len hog.own
          obtain ⟨bo, rfl⟩ := own_addr hog.own (by simp)
          have hown := hog.own
          have e0 : wy.cell? ⟨bo, us'.length, none⟩ = some (.slice ua es.length uc) := by rw [hown.cellAt _ (by simp)]; simp
          have ef := hown.frozenAt us'.length
          have hub : ∀ b, (Value.slice ua es.length uc).ownBlock = some b → b ≠ bo := fun b hb e => (hog.bu _ (by simp) b hb).2 (by subst e; rfl)
          have hbn : bo ≠ wr.heap.size := hvo bo rfl
          have hll : (us' ++ [(Value.slice ua es.length uc)]).length = us'.length + 1 := by simp
          have hogx := hog
          rw [hll]
          generalize hm7 : us'.length = m at *
          have m1 : IntKind.i64.wrap (m : Int) = (m : Int) := by rw [IntKind.wrap_i64]; omega
          have m2 : (0 : Int) ≤ (m : Int) := by omega
          have m3 : (m : Int) < (m : Int) + 1 := by omega
          have Hog := Lib.hid hog
          clear hog
          have Hes := Lib.hid hes
          clear hes
          have Hou := Lib.hid hou
          clear hou
          have Hkk := Lib.hid hkk
          clear hkk
          have Hown := Lib.hid hown
          clear hown
          have Hub := Lib.hid hub
          clear hub
          have Hll := Lib.hid hll
          clear hll
          have Hm7 := Lib.hid hm7
          clear hm7
          have Hogx := Lib.hid hogx
          clear hogx
          have Hvo := Lib.hid hvo
          clear hvo
          have Huo := Lib.hid huo
          clear huo
          go_wp2_with (fail)
          refine wp_region_plan (.take 0 (.take 1 (.take 2 (.take 3 (.take 4 (.take 5 (.take 6 (.take 7 (.take 8 (.take 9 (.take 10 (.must 11 (.must 12 (.take 13 (.last 14 .done))))))))))))))) (fun wz => wz.cell? ⟨bo, m, none⟩ = some (.slice ua es.length uc) ∧ wz.cell? ⟨wr.heap.size, 0, none⟩ = some (.slice (some ⟨kb, ko, none⟩) p.1.length kc) ∧ wz.cell? ⟨wr.heap.size, 1, none⟩ = some (.int .u64 p.2)) (by kernel_rfl) (by kernel_rfl) (by kernel_rfl) rfl ?_ (fun KK hKK => ?_)
          · exact ⟨e0, g0, g1⟩
          repeat (first
            | (refine wpPlan_take (v := ?_) rfl (by rfl) (fun W hW => ?_) ?_; rotate_left; (focus ((try dsimp only at hW); go_split_ands; go_simp; (try with_reducible rfl); done)); (try simp only [Act.put, List.setIfInBounds_toArray, List.set_cons_zero, List.set_cons_succ]))
            | (refine wpPlan_skip rfl (by rfl) ?_; (try simp only [Act.put, List.setIfInBounds_toArray, List.set_cons_zero, List.set_cons_succ])))
          refine wpPlan_must rfl (by rfl) (fun K hK => ?_)
          go_simp
          have x3 : Ext wy (wy.drew.alloc (.cells #[.slice (some ⟨kb, ko, none⟩) p.1.length kc, .int .u64 p.2] 33)) := (Touch.refl _ _).drew.alloc _
          have e3 := keepc x3 id e0
          have f3 := keepf (p := ⟨bo, m, none⟩) x3 (World.block_lt_of_cell? _ _ e0) id ef
          refine hK.out _ _ ?_ ?_
          · exact ⟨e3, keepc x3 id g0, keepc x3 id g1⟩
          clear hK K
          (try simp only [Act.put, List.setIfInBounds_toArray, List.set_cons_zero, List.set_cons_succ])
          refine wpPlan_must rfl (by rfl) (fun K hK => ?_)
          refine wp_push_any _ _ _ 22 rfl 33 _ 2 32 Try.underlying22 info_pair rfl (by decide) (.slice ua es.length uc) es.length (flat es) rfl (own_keep Hou.out x3 (fun _ _ h => h)) (some ⟨wy.heap.size, 0, none⟩) 1 1 rfl (fun h => by cases h) [.slice (some ⟨kb, ko, none⟩) p.1.length kc, .int .u64 p.2] (by omega) rfl (src_pair wy.drew _ _ _) (by intro u hu; simp only [List.mem_cons, List.not_mem_nil, or_false] at hu; rcases hu with rfl | rfl <;> rfl) (by simp [maxLen]; omega) (by omega) ?_
          intro v5 w5 hown5 ht5 hb5
          obtain ⟨va, vc, rfl⟩ := own_len hown5
          have e5 := keepc ht5 (fun h => Hub.out bo h rfl) e3
          have f5 := keepf (p := ⟨bo, m, none⟩) ht5 (World.block_lt_of_cell? _ _ e3) (fun h => Hub.out bo h rfl) f3
          have zz : Touch (fun b => (Value.slice ua es.length uc).ownBlock = some b) wy w5 := x3.ext_trans ht5
          have hb5' : (Value.slice va (es.length + 1) vc).ownBlock = (Value.slice ua es.length uc).ownBlock ∨ ∃ N, (Value.slice va (es.length + 1) vc).ownBlock = some N ∧ wy.heap.size ≤ N := hb5.imp id (fun h => ⟨_, h, by simp⟩)
          have k0 := keepc zz (fun h => Huo.out _ h rfl) g0
          have k1 := keepc zz (fun h => Huo.out _ h rfl) g1
          clear ht5 hb5 x3 e3 f3
          have Hown5 := Lib.hid hown5
          clear hown5
          have Zz := Lib.hid zz
          clear zz
          have Hb5' := Lib.hid hb5'
          clear hb5'
          refine hK.out _ _ ?_ ?_
          · exact ⟨e5, k0, k1⟩
          clear hK K
          (try simp only [Act.put, List.setIfInBounds_toArray, List.set_cons_zero, List.set_cons_succ])
          repeat (first
            | (refine wpPlan_take (v := ?_) rfl (by rfl) (fun W hW => ?_) ?_; rotate_left; (focus ((try dsimp only at hW); go_split_ands; go_simp; (try with_reducible rfl); done)); (try simp only [Act.put, List.setIfInBounds_toArray, List.set_cons_zero, List.set_cons_succ]))
            | (refine wpPlan_skip rfl (by rfl) ?_; (try simp only [Act.put, List.setIfInBounds_toArray, List.set_cons_zero, List.set_cons_succ])))
          refine wpPlan_last rfl (by rfl) (fun K hK => ?_)
          go_simp
          obtain ⟨hs1, hs2⟩ := World.ownsRow.stored (own_keep Hown.out Zz.out (fun b hb h => by cases hb; exact Hub.out bo h rfl)) m (.slice va (es.length + 1) vc)
          have z2 : Touch (fun b => b = bo) w5 (w5.setCell ⟨bo, m, none⟩ (.slice va (es.length + 1) vc)) := (Touch.grown hs2).mono (fun i hi _ => by cases hi; rfl)
          have hog2 := OG.more (e := (.slice (some ⟨kb, ko, none⟩) p.1.length kc, p)) Hogx.out hwy HK.out Hes.out Hkk.out Hkb.out Hown5.out Zz.out Hb5'.out (by rw [Hm7.out]; exact hs1) z2
          have t2 : Ext w (w5.setCell ⟨bo, m, none⟩ (.slice va (es.length + 1) vc)) := (Hty.out.ext_new Zz.out (fun i hi => (Hog.out.bu _ (by simp) i hi).1)).ext_new z2 (fun i hi => by subst hi; exact Hog.out.bv _ rfl)
          rw [Hll.out] at hog2
          have Hog2 := Lib.hid hog2
          clear hog2
          have T2 := Lib.hid t2
          clear t2
          clear hs1 hs2 z2 e5 f5 k0 k1 e0 ef g0 g1
          refine hK.out _ _ ?_
          clear hK K
          (try simp only [Act.put, List.setIfInBounds_toArray, List.set_cons_zero, List.set_cons_succ])
          refine wpPlan_done (hKK.out _ _ ?_)
          clear hKK KK
          clear m1
          go_wp2_with (fail)
          go_roundw
          case rel => exact ⟨i + 1 + 1, _, _, by omega, by go_num, Hog2.out, Hfm.out, Hgm.out, T2.out⟩
          case measure => simp [intOf]; omega
        · have hne : (bq != bp) = true := by simp [hbb]
          have hgm := good_new (p := p) (way := way) (by rw [hwn]; exact hgood) Hr.out Hon.out hfl hgi hg (by rw [hwn, hbq, hbp]; exact hbb)
          rw [hwn] at hgm
          have Hg := Lib.hid hg
          clear hg
          have Hkb0 := Lib.hid hkb0
          clear hkb0
          have Honp := Lib.hid honp
          clear honp
          have Hgetp := Lib.hid hgetp
          clear hgetp
          have Hgetq := Lib.hid hgetq
          clear hgetq
          have Hpe := Lib.hid hpe
          clear hpe
          have Hfl := Lib.hid hfl
          clear hfl
          have Hgood := Lib.hid hgood
          clear hgood
          have Ht := Lib.hid ht
          clear ht
          have Xa := Lib.hid xa
          clear xa
          have Hty := Lib.hid hty
          clear hty
          have Hkb1 := Lib.hid hkb1
          clear hkb1
          have Hog0 := Lib.hid hog0
          clear hog0
          have Hqe := Lib.hid hqe
          clear hqe
          have Hbq := Lib.hid hbq
          clear hbq
          have Hbp := Lib.hid hbp
          clear hbp
          have Hb0 := Lib.hid hb0
          clear hb0
          have Hb1 := Lib.hid hb1
          clear hb1
          have Hkw0 := Lib.hid hkw0
          clear hkw0
          have Hgi := Lib.hid hgi
          clear hgi
          have Hqg := Lib.hid hqg
          clear hqg
          have Hbb := Lib.hid hbb
          clear hbb
          have Hgm := Lib.hid hgm
          clear hgm
          have HGg := Lib.hid hGg
          clear hGg
          have Hlw := Lib.hid hlw
          clear hlw
          have Hlu := Lib.hid hlu
          clear hlu
          have Hog := Lib.hid hog
          clear hog
          clear e1
          go_wp2_with (fail)
          rw [← hwx]
          clear hwx d0 d1
          refine wp_region_plan (.take 0 (.take 1 (.take 2 (.take 3 (.take 4 (.take 5 (.take 6 (.take 7 (.take 8 (.take 9 (.take 10 (.take 11 (.take 12 (.take 13 (.take 14 (.take 15 (.take 16 (.take 17 (.take 18 .done))))))))))))))))))) (fun wy => wy.cell? ⟨b, off + i * 2, none⟩ = some (.slice (some ⟨qb, qo, none⟩) q.1.length qc) ∧ wy.cell? ⟨wr.heap.size, 0, none⟩ = some (.slice (some ⟨kb, ko, none⟩) p.1.length kc) ∧ wy.cell? ⟨qb, qo + wn, none⟩ = some (.int .u8 bq) ∧ wy.cell? ⟨kb, ko + wn, none⟩ = some (.int .u8 bp)) (by kernel_rfl) (by kernel_rfl) (by kernel_rfl) rfl ?_ (fun KK hKK => ?_)
          · exact ⟨e0, g0, f0, f1⟩
          repeat (first
            | (refine wpPlan_take (v := ?_) rfl (by rfl) (fun W hW => ?_) ?_; rotate_left; (focus ((try dsimp only at hW); go_split_ands; go_simp; (try with_reducible rfl); done)); (try simp only [Act.put, List.setIfInBounds_toArray, List.set_cons_zero, List.set_cons_succ]))
            | (refine wpPlan_skip rfl (by rfl) ?_; (try simp only [Act.put, List.setIfInBounds_toArray, List.set_cons_zero, List.set_cons_succ])))
          refine wpPlan_done (hKK.out _ _ ?_)
          clear hKK KK
          clear w1 e0 f0 f1
          obtain ⟨wd, hwd⟩ : ∃ wd, wd = wx.drew := ⟨_, rfl⟩
          rw [← hwd]
          rw [← hwd] at g0 g1
          have hog := Hog.out
          have hwds : wr.heap.size < wd.heap.size := by rw [hwd]; exact hxs
          rw [← hwd] at hog
          have hty := Hty.out
          rw [← hwd] at hty
          have hkb1 := Hkb1.out
          rw [← hwd] at hkb1
          have hown := hog.own
          obtain ⟨oa, oc, hoa⟩ := own_len hown
          generalize hn6 : us.length = n6 at *
          rw [hoa] at hown
          rw [hoa]
          have hn6l : n6 ≤ 1000000 := by have h9 := hog.len; omega
          clear hwd Hog Hty Hkb1
          have Hog := Lib.hid hog
          clear hog
          have Hty := Lib.hid hty
          clear hty
          have Hkb1 := Lib.hid hkb1
          clear hkb1
          have Hown := Lib.hid hown
          clear hown
          have Hoa := Lib.hid hoa
          clear hoa
          have Hn6 := Lib.hid hn6
          clear hn6
          go_wp2_with (at_builtin; (refine wpList_push_any _ rfl _ _ 91 rfl 22 (.slice none 0 0) 1 24 Try.underlying91 info_grp rfl (by decide) (.slice oa n6 oc) n6 us rfl (own_keep Hown.out ((Touch.refl (fun _ => False) _).alloc _) (fun _ _ h => h)) (some ⟨_, 0, none⟩) 1 1 rfl (fun h => by cases h) [.slice none 0 0] (by decide) rfl (src_one _ _ _) (by simp [Value.oneCell']) (by simp [maxLen]; omega) (by omega) ?_); intro v10 wy hown10 ht10 hb10)
          have z10 : Touch (fun b => s5'.ownBlock = some b) wd wy := by rw [Hoa.out]; exact ((Touch.refl _ _).alloc _).trans' ht10
          have hb10' : v10.ownBlock = s5'.ownBlock ∨ ∃ N, v10.ownBlock = some N ∧ wd.heap.size ≤ N := by rw [Hoa.out]; exact hb10.imp id (fun h => ⟨_, h, by simp⟩)
          have hog2 := OG.push Hog.out (by have := Hty.out.size; omega) HK.out (by rw [Hn6.out]; exact hown10) z10 hb10'
          obtain ⟨us', eus⟩ : ∃ x, x = us := ⟨us, rfl⟩
          obtain ⟨G', eG⟩ : ∃ x, x = G := ⟨G, rfl⟩
          subst eus
          subst eG
          obtain ⟨u, eu⟩ : ∃ u, u = Value.slice none 0 0 := ⟨_, rfl⟩
          obtain ⟨g, eg⟩ : ∃ g : Prs, g = [] := ⟨_, rfl⟩
          rw [← eu, ← eg] at hog2
          have hgl : g.length ≤ 1000000 := by rw [eg]; simp
          have hcl : us'.length ≤ 1000000 := by rw [Hn6.out]; exact hn6l
          have hvo : ∀ b, v10.ownBlock = some b → b ≠ wr.heap.size := fun b hb => by
            rcases hb10' with h9 | ⟨N, h9, h8⟩
            · have := Hlw.out b (h9 ▸ hb); omega
            · rw [h9] at hb; cases hb; omega
          have huo : ∀ b, u.ownBlock = some b → b ≠ wr.heap.size := fun b hb => by rw [eu] at hb; cases hb
          have hkb := Hkb1.out.keep z10 (fun b hb hv => by have := HK.out b hb; have := Hog.out.bv b hv; omega)
          have g0 := keepc z10 (fun h => absurd (Hlw.out wr.heap.size h) (Nat.lt_irrefl _)) g0
          have g1 := keepc z10 (fun h => absurd (Hlw.out wr.heap.size h) (Nat.lt_irrefl _)) g1
          have hty2 := Hty.out.ext_new z10 (fun i hi => Hog.out.bv i hi)
          have hwy : w.heap.size ≤ wy.heap.size := hty2.size
          have hog := hog2
          have hty := hty2
          have hfm := flat_new' eg Hfl.out Hg.out
          have hgm := Hgm.out
          have hgm : Good wn (G' ++ [g ++ [p]]) := by rw [eg]; exact hgm
          clear hog2 hty2 z10 hb10' hb10 hown10 ht10 eu eg Hown Hoa Hn6 Hog Hty Hkb1
          have Hkb := Lib.hid hkb
          clear hkb
          have Hty := Lib.hid hty
          clear hty
          have Hfm := Lib.hid hfm
          clear hfm
          have Hgm := Lib.hid hgm
          clear hgm
          obtain ⟨es, hes, hou, hkk⟩ := hog.gr us'.length u g (by simp) (by have h9 := hog.len; simp only [List.length_append, List.length_cons, List.length_nil] at h9; rw [List.getElem?_append_right (by omega), show us'.length - G'.length = 0 by omega]; rfl)
          have hesl : es.length ≤ 1000000 := by rw [← hes] at hgl; simpa using hgl
          obtain ⟨ua, uc, rfl⟩ := own_len hou
          obtain ⟨oa, oc, rfl⟩ := own_len hog.own
          obtain ⟨bo, rfl⟩ := own_addr hog.own (by simp)
          have hown := hog.own
          have e0 : wy.cell? ⟨bo, us'.length, none⟩ = some (.slice ua es.length uc) := by rw [hown.cellAt _ (by simp)]; simp
          have ef := hown.frozenAt us'.length
          have hub : ∀ b, (Value.slice ua es.length uc).ownBlock = some b → b ≠ bo := fun b hb e => (hog.bu _ (by simp) b hb).2 (by subst e; rfl)
          have hbn : bo ≠ wr.heap.size := hvo bo rfl
          have hll : (us' ++ [(Value.slice ua es.length uc)]).length = us'.length + 1 := by simp
          have hogx := hog
          rw [hll]
          generalize hm7 : us'.length = m at *
          have m1 : IntKind.i64.wrap (m : Int) = (m : Int) := by rw [IntKind.wrap_i64]; omega
          have m2 : (0 : Int) ≤ (m : Int) := by omega
          have m3 : (m : Int) < (m : Int) + 1 := by omega
          have Hog := Lib.hid hog
          clear hog
          have Hes := Lib.hid hes
          clear hes
          have Hou := Lib.hid hou
          clear hou
          have Hkk := Lib.hid hkk
          clear hkk
          have Hown := Lib.hid hown
          clear hown
          have Hub := Lib.hid hub
          clear hub
          have Hll := Lib.hid hll
          clear hll
          have Hm7 := Lib.hid hm7
          clear hm7
          have Hogx := Lib.hid hogx
          clear hogx
          have Hvo := Lib.hid hvo
          clear hvo
          have Huo := Lib.hid huo
          clear huo
          go_wp2_with (fail)
          refine wp_region_plan (.take 0 (.take 1 (.take 2 (.take 3 (.take 4 (.take 5 (.take 6 (.take 7 (.take 8 (.take 9 (.take 10 (.must 11 (.must 12 (.take 13 (.last 14 .done))))))))))))))) (fun wz => wz.cell? ⟨bo, m, none⟩ = some (.slice ua es.length uc) ∧ wz.cell? ⟨wr.heap.size, 0, none⟩ = some (.slice (some ⟨kb, ko, none⟩) p.1.length kc) ∧ wz.cell? ⟨wr.heap.size, 1, none⟩ = some (.int .u64 p.2)) (by kernel_rfl) (by kernel_rfl) (by kernel_rfl) rfl ?_ (fun KK hKK => ?_)
          · exact ⟨e0, g0, g1⟩
          repeat (first
            | (refine wpPlan_take (v := ?_) rfl (by rfl) (fun W hW => ?_) ?_; rotate_left; (focus ((try dsimp only at hW); go_split_ands; go_simp; (try with_reducible rfl); done)); (try simp only [Act.put, List.setIfInBounds_toArray, List.set_cons_zero, List.set_cons_succ]))
            | (refine wpPlan_skip rfl (by rfl) ?_; (try simp only [Act.put, List.setIfInBounds_toArray, List.set_cons_zero, List.set_cons_succ])))
          refine wpPlan_must rfl (by rfl) (fun K hK => ?_)
          go_simp
          have x3 : Ext wy (wy.drew.alloc (.cells #[.slice (some ⟨kb, ko, none⟩) p.1.length kc, .int .u64 p.2] 33)) := (Touch.refl _ _).drew.alloc _
          have e3 := keepc x3 id e0
          have f3 := keepf (p := ⟨bo, m, none⟩) x3 (World.block_lt_of_cell? _ _ e0) id ef
          refine hK.out _ _ ?_ ?_
          · exact ⟨e3, keepc x3 id g0, keepc x3 id g1⟩
          clear hK K
          (try simp only [Act.put, List.setIfInBounds_toArray, List.set_cons_zero, List.set_cons_succ])
          refine wpPlan_must rfl (by rfl) (fun K hK => ?_)
          refine wp_push_any _ _ _ 22 rfl 33 _ 2 32 Try.underlying22 info_pair rfl (by decide) (.slice ua es.length uc) es.length (flat es) rfl (own_keep Hou.out x3 (fun _ _ h => h)) (some ⟨wy.heap.size, 0, none⟩) 1 1 rfl (fun h => by cases h) [.slice (some ⟨kb, ko, none⟩) p.1.length kc, .int .u64 p.2] (by omega) rfl (src_pair wy.drew _ _ _) (by intro u hu; simp only [List.mem_cons, List.not_mem_nil, or_false] at hu; rcases hu with rfl | rfl <;> rfl) (by simp [maxLen]; omega) (by omega) ?_
          intro v5 w5 hown5 ht5 hb5
          obtain ⟨va, vc, rfl⟩ := own_len hown5
          have e5 := keepc ht5 (fun h => Hub.out bo h rfl) e3
          have f5 := keepf (p := ⟨bo, m, none⟩) ht5 (World.block_lt_of_cell? _ _ e3) (fun h => Hub.out bo h rfl) f3
          have zz : Touch (fun b => (Value.slice ua es.length uc).ownBlock = some b) wy w5 := x3.ext_trans ht5
          have hb5' : (Value.slice va (es.length + 1) vc).ownBlock = (Value.slice ua es.length uc).ownBlock ∨ ∃ N, (Value.slice va (es.length + 1) vc).ownBlock = some N ∧ wy.heap.size ≤ N := hb5.imp id (fun h => ⟨_, h, by simp⟩)
          have k0 := keepc zz (fun h => Huo.out _ h rfl) g0
          have k1 := keepc zz (fun h => Huo.out _ h rfl) g1
          clear ht5 hb5 x3 e3 f3
          have Hown5 := Lib.hid hown5
          clear hown5
          have Zz := Lib.hid zz
          clear zz
          have Hb5' := Lib.hid hb5'
          clear hb5'
          refine hK.out _ _ ?_ ?_
          · exact ⟨e5, k0, k1⟩
          clear hK K
          (try simp only [Act.put, List.setIfInBounds_toArray, List.set_cons_zero, List.set_cons_succ])
          repeat (first
            | (refine wpPlan_take (v := ?_) rfl (by rfl) (fun W hW => ?_) ?_; rotate_left; (focus ((try dsimp only at hW); go_split_ands; go_simp; (try with_reducible rfl); done)); (try simp only [Act.put, List.setIfInBounds_toArray, List.set_cons_zero, List.set_cons_succ]))
            | (refine wpPlan_skip rfl (by rfl) ?_; (try simp only [Act.put, List.setIfInBounds_toArray, List.set_cons_zero, List.set_cons_succ])))
          refine wpPlan_last rfl (by rfl) (fun K hK => ?_)
          go_simp
          obtain ⟨hs1, hs2⟩ := World.ownsRow.stored (own_keep Hown.out Zz.out (fun b hb h => by cases hb; exact Hub.out bo h rfl)) m (.slice va (es.length + 1) vc)
          have z2 : Touch (fun b => b = bo) w5 (w5.setCell ⟨bo, m, none⟩ (.slice va (es.length + 1) vc)) := (Touch.grown hs2).mono (fun i hi _ => by cases hi; rfl)
          have hog2 := OG.more (e := (.slice (some ⟨kb, ko, none⟩) p.1.length kc, p)) Hogx.out hwy HK.out Hes.out Hkk.out Hkb.out Hown5.out Zz.out Hb5'.out (by rw [Hm7.out]; exact hs1) z2
          have t2 : Ext w (w5.setCell ⟨bo, m, none⟩ (.slice va (es.length + 1) vc)) := (Hty.out.ext_new Zz.out (fun i hi => (Hog.out.bu _ (by simp) i hi).1)).ext_new z2 (fun i hi => by subst hi; exact Hog.out.bv _ rfl)
          rw [Hll.out] at hog2
          have Hog2 := Lib.hid hog2
          clear hog2
          have T2 := Lib.hid t2
          clear t2
          clear hs1 hs2 z2 e5 f5 k0 k1 e0 ef g0 g1
          refine hK.out _ _ ?_
          clear hK K
          (try simp only [Act.put, List.setIfInBounds_toArray, List.set_cons_zero, List.set_cons_succ])
          refine wpPlan_done (hKK.out _ _ ?_)
          clear hKK KK
          clear m1
          go_wp2_with (fail)
          go_roundw
          case rel => exact ⟨i + 1 + 1, _, _, by omega, by go_num, Hog2.out, Hfm.out, Hgm.out, T2.out⟩
          case measure => simp [intOf]; omega
    · obtain rfl : j = ps.length := by omega
      have i1 : ¬ ((ps.length : Nat) : Int) < (ps.length : Int) := by omega
      rw [List.take_length] at hfl
      have hrg := hog.rg ht.size
      have Hog := Lib.hid hog
      clear hog
      have Hfl := Lib.hid hfl
      clear hfl
      have Hgood := Lib.hid hgood
      clear hgood
      have Ht := Lib.hid ht
      clear ht
      have Hrg := Lib.hid hrg
      clear hrg
      go_wp2_with (fail)
      go_ret
      exact ⟨⟨s5', G, rfl, Hfl.out, Hgood.out, Hrg.out⟩, Ht.out⟩
end TernB
end Go.Proofs.Ythfnacadabhpdaa
