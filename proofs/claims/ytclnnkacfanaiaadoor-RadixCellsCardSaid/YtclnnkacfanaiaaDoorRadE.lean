/- A radix tree's nodes: drop. -/
import Derived.Test.YtclnnkacfanaiaaDoorRadB
import Derived.Deep.DeepCutAuto
namespace Go.Proofs.YtclnnkacfanaiaaDoor
open Go.RowKit
set_option linter.unusedVariables false
set_option linter.unusedSimpArgs false
namespace RadE
open MaskA MaskP KidA KidB RadK RadM RadA RadB

/-- what a drop asks -/
structure PreD (w : World) (K F H : Nat → Prop) (v kw : Value) (T : RT) (q k : List Int) : Prop where
  rn : Rn w K F v T
  ok : RT.Ok q T
  kw : RB w H kw k
  kl : k.length ≤ 65535
  has : ∃ x, (k, x) ∈ T.prs
  tl : ∀ p ∈ T.prs, p.1.length ≤ 65535
  kf : ∀ b, K b → ¬ F b
  fl : ∀ b, F b → b < w.heap.size
  kz : ∀ b, K b → b < w.heap.size
  tb : Tl w
  rf : ¬ F 0
def DropRet (w : World) (K F : Nat → Prop) (T : RT) (k : List Int) (e : Ending) (w' : World) : Prop :=
  ∃ v' F', e = .returned (.tuple #[v', .int .i64 ((RT.fewT T k : Nat) : Int)]) ∧ Rn w' K F' v' (RT.dropT T k) ∧ Touch F w w' ∧ ∀ b, F' b → (F b ∨ w.heap.size ≤ b) ∧ b < w'.heap.size
/-- behind the key's going: the node as it is then -/
def Mid (w : World) (K F : Nat → Prop) (g : Nat) (k0 k : List Int) (T : RT) (s6 : Value) (W : World) : Prop :=
  ∃ o' kd' f' m F1, s6 = .int .i64 ((m : Nat) : Int) ∧ m ≤ 2 ∧ Rn W K F1 (pt g) (.node k0 o' kd' f') ∧ RT.dropT T k = RT.dropN k0 0 o' kd' f' ∧ RT.fewT T k = RT.fewN m o' f' ∧ Touch F w W ∧ (∀ b, F1 b → (F b ∨ w.heap.size ≤ b) ∧ b < W.heap.size)
theorem drop_leaf (w : World) (K F : Nat → Prop) (v : Value) (a : Option Addr) (n c : Nat) (k0 k : List Int) (y : Int) (h : Rn w K F v (.leaf k0 y)) : Calls Tryd.prog 59 #[v, .slice a n c] w (DropRet w K F (.leaf k0 y) k) := by
  obtain ⟨g, kv, rfl, h1, hn, h3⟩ := h
  have c3 := hn.c3
  unfold DropRet
  have Hn := Lib.hid hn
  clear hn
  have H3 := Lib.hid h3
  clear h3
  go_enter Tryd.func59, Tryd.ntmps59
  go_wp2_with (fail)
  refine bodyPost_ret (v := .tuple #[.pointer none, .int .i64 1]) (by simp [results, Tryd.results59, go_sem]) rfl ?_
  exact ⟨_, fun _ => False, rfl, rfl, Touch.refl _ _, fun b hb => hb.elim⟩

set_option maxRecDepth 100000 in
set_option maxHeartbeats 3200000 in
theorem drop_node (w : World) (K F H : Nat → Prop) (v kw : Value) (q k0 k : List Int) (o : Option Int) (kd : Nat) (f : Nat → RT) (h : PreD w K F H v kw (.node k0 o kd f) q k)
    (ih : ∀ W F' v', PreD W K F' H v' kw (f (byteAt k k0.length)) (k0 ++ [((byteAt k k0.length : Nat) : Int)]) k → Calls Tryd.prog 59 #[v', kw] W (DropRet W K F' (f (byteAt k k0.length)) k)) :
    Calls Tryd.prog 59 #[v, kw] w (DropRet w K F (.node k0 o kd f) k) := by
  obtain ⟨x, hx⟩ := h.has
  obtain ⟨w1, w2, w3⟩ := RT.way_of h.ok hx
  have hkb := (h.ok.pre _ hx).2
  simp only at hkb
  have hfew := RT.few_le h.ok hx
  have hk0l : k0.length ≤ 65535 := h.ok.key_le h.tl
  have hkl := h.kl
  obtain ⟨ka, kc, rfl, l1, m1, z1⟩ := h.kw.shape
  unfold maxLen at m1
  obtain ⟨g, gk, gm, kv, m, G, rfl, h2, h3, h4, h5, h6, h7, h8, h9, h10, h11, h12, h13, h14⟩ := h.rn
  obtain ⟨na, nc, rfl, l2, m2, z2⟩ := h9.shape
  unfold maxLen at m2
  have hrn := h.rn
  have c0 := h8.c0
  have c1 := h8.c1
  have c2 := h8.c2
  have c3 := h8.c3
  have c4 := h8.c4
  have f1 := h8.f1
  have f2 := h8.f2
  unfold DropRet
  have H := Lib.hid h
  clear h
  have Ih := Lib.hid ih
  clear ih
  have Hx := Lib.hid hx
  clear hx
  have W1 := Lib.hid w1
  clear w1
  have W2 := Lib.hid w2
  clear w2
  have W3 := Lib.hid w3
  clear w3
  have Hkb := Lib.hid hkb
  clear hkb
  have Hfew := Lib.hid hfew
  clear hfew
  have H2 := Lib.hid h2
  clear h2
  have H3 := Lib.hid h3
  clear h3
  have H4 := Lib.hid h4
  clear h4
  have H5 := Lib.hid h5
  clear h5
  have H6 := Lib.hid h6
  clear h6
  have H7 := Lib.hid h7
  clear h7
  have H8 := Lib.hid h8
  clear h8
  have H9 := Lib.hid h9
  clear h9
  have H10 := Lib.hid h10
  clear h10
  have H11 := Lib.hid h11
  clear h11
  have H12 := Lib.hid h12
  clear h12
  have H13 := Lib.hid h13
  clear h13
  have H14 := Lib.hid h14
  clear h14
  have Hrn := Lib.hid hrn
  clear hrn
  go_enter Tryd.func59, Tryd.ntmps59
  go_upto_if 21 with (fail)
  go_cut [6] (fun s6 wx => Mid w K F g k0 k (.node k0 o kd f) s6 wx)
  case first =>
    by_cases hl : k.length = k0.length
    · have i1 : ((k.length : Int) == (k0.length : Int)) = true := by simp; omega
      have Hl := Lib.hid hl
      clear hl
      go_wp2_with (fail)
      go_meet
      have tt : Touch (fun i => i = g) w ((w.setCell ⟨g, 1, none⟩ (.bool false)).setCell ⟨g, 2, none⟩ (.int .u64 0)) := Touch.setCell (S := fun i => i = g) (Touch.setCell (S := fun i => i = g) (Touch.refl _ _) (p := ⟨g, 1, none⟩) (Or.inl rfl) _) (p := ⟨g, 2, none⟩) (Or.inl rfl) _
      have hr := rn_own none Hrn.out H.out.kf tt (fun kv kp mp h => (h.set1 false).set2 0)
      refine ⟨none, kd, f, 0, F, rfl, by omega, hr, ?_, ?_, tt.mono (fun i hi _ => hi ▸ H2.out), fun b hb => ⟨Or.inl hb, Nat.lt_of_lt_of_le (H.out.fl b hb) tt.size⟩⟩
      · rw [RT.dropT, if_pos Hl.out]
      · rw [RT.fewT, if_pos Hl.out]
    · have i1 : ((k.length : Int) == (k0.length : Int)) = false := by simp; omega
      obtain ⟨w4, w5, w6⟩ := W3.out hl
      have i3 : (0 : Int) ≤ (k0.length : Int) := by omega
      have i4 : (k0.length : Int) < (k.length : Int) := by omega
      obtain ⟨kb, ko, rfl, hkb'⟩ := H.out.kw.addr (by omega)
      have hbt := byteAt_lt Hkb.out k0.length
      have cb := H.out.kw.cell k0.length w4
      have hbyte := byteAt_int Hkb.out w4
      rw [List.getElem?_eq_getElem w4] at hbyte
      rw [Option.some.inj hbyte] at cb
      clear hbyte
      have hlook := (H11.out).look1 (i := byteAt k k0.length) hbt
      have hd1 : ∀ e, (RT.dropT (f (byteAt k k0.length)) k).is = e → RT.dropT (.node k0 o kd f) k = if e = false then RT.dropN k0 0 o (dnK kd (cnt (RT.hsT f) 256 - 1)) (RT.upd f (byteAt k k0.length) .nil) else RT.dropN k0 0 o kd (RT.upd f (byteAt k k0.length) (RT.dropT (f (byteAt k k0.length)) k)) := fun e he => by
        rw [RT.dropT, if_neg hl, he]
      have hd2 : RT.fewT (.node k0 o kd f) k = RT.fewN (RT.fewT (f (byteAt k k0.length)) k) o (RT.upd f (byteAt k k0.length) (RT.dropT (f (byteAt k k0.length)) k)) := by
        rw [RT.fewT, if_neg hl]
      have htl : ∀ p ∈ (f (byteAt k k0.length)).prs, p.1.length ≤ 65535 := fun p hp => H.out.tl p (RT.mem_node.2 (Or.inr ⟨_, hbt, hp⟩))
      have hokc := H.out.ok.2.2.2.1 _ hbt
      have hfc := RT.few_le hokc w6
      have hih := Ih.out
      have hci : (f (byteAt k k0.length)).is = true := by
        cases hc : (f (byteAt k k0.length)).is with
        | true => rfl
        | false => rw [RT.is_false hc] at w6; simp [RT.prs] at w6
      generalize hbb : byteAt k k0.length = bt at *
      obtain ⟨X, hX⟩ : ∃ X, X = RT.dropT (f bt) k := ⟨_, rfl⟩
      rw [← hX] at hd1 hd2
      have hmo : mO f m bt = some (m bt) := by unfold mO; rw [hci]; rfl
      obtain ⟨gc, hgc, hGc, _⟩ := (H12.out bt hbt).ptr hci
      rw [hgc] at hmo
      rw [hmo] at hlook
      simp only [Option.getD_some] at hlook
      have hh13 := H13.out
      have hh14 := H14.out
      have hih := hih w (G bt) (pt gc) ⟨by rw [← hgc]; exact H12.out bt hbt, hokc, H.out.kw, hkl, ⟨x, w6⟩, htl, fun b hb hg => H.out.kf b hb (hh13 bt b hg).1, fun b hb => H.out.fl b (hh13 bt b hb).1, H.out.kz, H.out.tb, fun hg => H.out.rf (hh13 bt _ hg).1⟩
      unfold DropRet at hih
      rw [← hX] at hih
      have b0 : (0 : Int) ≤ (bt : Int) := by omega
      have b1 : (bt : Int) < 256 := by omega
      have hcnt := RT.cnt_upd f hbt .nil
      rw [hci] at hcnt
      have hgm := H.out.fl gm H4.out
      have hgl := H.out.fl g H2.out
      have hgkl := H.out.fl gk H3.out
      clear Ih
      have Hl := Lib.hid hl
      clear hl
      have W4 := Lib.hid w4
      clear w4
      have W5 := Lib.hid w5
      clear w5
      have W6 := Lib.hid w6
      clear w6
      have Hkb' := Lib.hid hkb'
      clear hkb'
      have Hbt := Lib.hid hbt
      clear hbt
      have Hd1 := Lib.hid hd1
      clear hd1
      have Hd2 := Lib.hid hd2
      clear hd2
      have Htl := Lib.hid htl
      clear htl
      have Hokc := Lib.hid hokc
      clear hokc
      have Hfc := Lib.hid hfc
      clear hfc
      have Hih := Lib.hid hih
      clear hih
      have Hci := Lib.hid hci
      clear hci
      have Hbb := Lib.hid hbb
      clear hbb
      have HX := Lib.hid hX
      clear hX
      have Hmo := Lib.hid hmo
      clear hmo
      have Hgc := Lib.hid hgc
      clear hgc
      have HGc := Lib.hid hGc
      clear hGc
      have Hcnt := Lib.hid hcnt
      clear hcnt
      have Hh13 := Lib.hid hh13
      clear hh13
      have Hh14 := Lib.hid hh14
      clear hh14
      go_wp2_with (fail)
      (with_reducible refine Hih.out.mono ?_)
      rintro e w7 ⟨v', F', rfl, hr3, t3, hF3⟩
      have om3 := H11.out.keep t3 (fun hg => (Hh13.out bt _ hg).2.2.2 rfl)
      have kn3 := H10.out.keep t3 (fun hg => (Hh13.out bt _ hg).2.2.1 rfl)
      have nd3 := H8.out.keep t3 (fun hg => (Hh13.out bt _ hg).2.1 rfl)
      have c3 := nd3.c3
      have c4 := nd3.c4
      have hs3 := t3.size
      have nK3 : ∀ b, K b → ¬ G bt b := fun b hb e => H.out.kf b hb (Hh13.out bt b e).1
      cases hXi : X.is with
      | false =>
        obtain rfl : v' = .pointer none := by rw [RT.is_false hXi] at hr3; exact hr3
        have hdr := dropL kd kn3 H.out.ok.2.2.2.2.2.1 (H.out.tb.keep t3 (fun hg => H.out.rf (Hh13.out bt _ hg).1)) (fun e => H.out.rf (e ▸ H3.out)) bt Hbt.out (by unfold hI; rw [Hci.out]; decide)
        unfold KDrop at hdr
        have hse : seth (hI f) bt 0 = hI (RT.upd f bt .nil) := by
          funext i; simp only [seth, hI, RT.upd]; split <;> simp [RT.is]
        rw [hse, hs_hI] at hdr
        have hone : hI f bt = 1 := by unfold hI; rw [Hci.out]; rfl
        rw [hone] at hdr
        clear hse hone
        have Hr3 := Lib.hid hr3
        clear hr3
        have T3 := Lib.hid t3
        clear t3
        have HF3 := Lib.hid hF3
        clear hF3
        have Om3 := Lib.hid om3
        clear om3
        have Kn3 := Lib.hid kn3
        clear kn3
        have Nd3 := Lib.hid nd3
        clear nd3
        have Hdr := Lib.hid hdr
        clear hdr
        have HXi := Lib.hid hXi
        clear hXi
        have NK3 := Lib.hid nK3
        clear nK3
        go_wp2_with (fail)
        (with_reducible refine Hdr.out.mono ?_)
        rintro e w8 ⟨rfl, kn4, t4⟩
        have om4 := Om3.out.keep t4 (fun e => H7.out e.symm)
        have c4 := keepc t4 H5.out c4
        have Kn4 := Lib.hid kn4
        clear kn4
        have T4 := Lib.hid t4
        clear t4
        have Om4 := Lib.hid om4
        clear om4
        go_wp2_with (at_delete; refine wpList_mapDrop _ rfl _ _ rfl gm _ rfl Om4.out bt Hbt.out rfl ?_; intro w9 om5 t5)
        go_meet
        have hc1 : cnt (RT.hsT (RT.upd f bt .nil)) 256 = cnt (RT.hsT f) 256 - 1 := by have := Hcnt.out; simp [RT.is] at this; omega
        have tg : Touch (fun b => G bt b ∨ b = gk ∨ b = gm) w w9 := ((T3.out.mono (fun i hi _ => Or.inl hi)).trans' (T4.out.mono (fun i hi _ => Or.inr (Or.inl hi)))).trans' (t5.mono (fun i hi _ => Or.inr (Or.inr hi)))
        have nK : ∀ b, K b → ¬ (G bt b ∨ b = gk ∨ b = gm) := fun b hb e => by
          rcases e with e | e | e
          · exact NK3.out b hb e
          · exact H.out.kf b hb (e ▸ H3.out)
          · exact H.out.kf b hb (e ▸ H4.out)
        refine ⟨o, dnK kd (cnt (RT.hsT f) 256 - 1), RT.upd f bt .nil, RT.fewT (f bt) k, F, rfl, Hfc.out, ?_, ?_, ?_, tg.mono (fun i hi _ => ?_), fun b hb => ⟨Or.inl hb, Nat.lt_of_lt_of_le (H.out.fl b hb) tg.size⟩⟩
        · refine ⟨g, gk, gm, .slice na k0.length nc, fun i => if i = bt then .pointer none else m i, G, rfl, H2.out, H3.out, H4.out, H5.out, H6.out, H7.out, H8.out.keep tg (fun e => ?_), H9.out.keep tg nK, ?_, ?_, fun i hi => ?_, Hh13.out, Hh14.out⟩
          · rcases e with e | e | e
            · exact (Hh13.out bt _ e).2.1 rfl
            · exact H5.out e
            · exact H6.out e
          · rw [← hc1]; exact Kn4.out.keep t5 (fun e => H7.out e)
          · have e : setm (mO f m) bt none = mO (RT.upd f bt .nil) (fun i => if i = bt then .pointer none else m i) := by
              funext i; simp only [setm, mO, RT.upd]; split <;> simp [RT.is]
            rw [← e]; exact om5
          · by_cases e : i = bt
            · subst e; simp only [if_true, RT.upd_at]; rfl
            · simp only [e, if_false, RT.upd_ne f bt _ e]
              refine (H12.out i hi).keep tg (fun b hb e2 => ?_) nK
              rcases e2 with e2 | e2 | e2
              · exact e (Hh14.out _ _ _ hb e2)
              · exact (Hh13.out i b hb).2.2.1 e2
              · exact (Hh13.out i b hb).2.2.2 e2
        · rw [Hd1.out _ HXi.out, if_pos rfl]
        · rw [Hd2.out, RT.is_false HXi.out]
        · rcases hi with e | e | e
          · exact (Hh13.out bt _ e).1
          · exact e ▸ H3.out
          · exact e ▸ H4.out
      | true =>
        obtain ⟨gn, rfl, hgn, _⟩ := hr3.ptr hXi
        have Hr3 := Lib.hid hr3
        clear hr3
        have T3 := Lib.hid t3
        clear t3
        have HF3 := Lib.hid hF3
        clear hF3
        have Om3 := Lib.hid om3
        clear om3
        have Kn3 := Lib.hid kn3
        clear kn3
        have Nd3 := Lib.hid nd3
        clear nd3
        have HXi := Lib.hid hXi
        clear hXi
        have Hgn := Lib.hid hgn
        clear hgn
        have NK3 := Lib.hid nK3
        clear nK3
        go_wp2_with (at_mapUpdate; refine wpList_mapPut _ rfl _ _ _ rfl gm _ rfl Om3.out bt Hbt.out rfl (pt gn) rfl ?_; intro w9 om5 t5)
        go_meet
        have tg : Touch (fun b => G bt b ∨ b = gm) w w9 := (T3.out.mono (fun i hi _ => Or.inl hi)).trans' (t5.mono (fun i hi _ => Or.inr hi))
        have nK : ∀ b, K b → ¬ (G bt b ∨ b = gm) := fun b hb e => by
          rcases e with e | e
          · exact NK3.out b hb e
          · exact H.out.kf b hb (e ▸ H4.out)
        have hFn := HF3.out
        refine ⟨o, kd, RT.upd f bt X, RT.fewT (f bt) k, fun b => F b ∨ F' b, rfl, Hfc.out, ?_, ?_, Hd2.out, tg.mono (fun i hi _ => hi.elim (fun e => (Hh13.out bt i e).1) (fun e => e ▸ H4.out)), fun b hb => ?_⟩
        · refine ⟨g, gk, gm, .slice na k0.length nc, fun i => if i = bt then pt gn else m i, fun i c => if i = bt then F' c else G i c, rfl, Or.inl H2.out, Or.inl H3.out, Or.inl H4.out, H5.out, H6.out, H7.out,
            H8.out.keep tg (fun e => e.elim (fun e => (Hh13.out bt _ e).2.1 rfl) H6.out), H9.out.keep tg nK, ?_, ?_, fun i hi => ?_, fun i c hc => ?_, fun i j c hi hj => ?_⟩
          · have hk := H10.out.keep tg (fun e => e.elim (fun e => (Hh13.out bt _ e).2.2.1 rfl) H7.out)
            have e : hI (RT.upd f bt X) = hI f := by
              funext i; simp only [hI, RT.upd]; split
              · rename_i e; rw [e, HXi.out, Hci.out]
              · rfl
            rw [e]; exact hk
          · have e : setm (mO f m) bt (some (pt gn)) = mO (RT.upd f bt X) (fun i => if i = bt then pt gn else m i) := setm_upd f m bt HXi.out (pt gn)
            rw [← e]; exact om5
          · by_cases e : i = bt
            · subst e
              simp only [if_true, RT.upd_at]
              refine Hr3.out.keep t5 (fun b hb e => ?_) (fun b hb e => ?_)
              · subst e
                rcases (hFn b hb).1 with h | h
                · exact (Hh13.out i b h).2.2.2 rfl
                · omega
              · subst e
                exact H.out.kf b hb H4.out
            · simp only [e, if_false, RT.upd_ne f bt _ e]
              exact (H12.out i hi).keep tg (fun b hb e2 => e2.elim (fun e2 => e (Hh14.out _ _ _ hb e2)) (Hh13.out i b hb).2.2.2) nK
          · by_cases e : i = bt
            · simp only [e, if_true] at hc
              refine ⟨Or.inr hc, ?_⟩
              rcases (hFn c hc).1 with h | h
              · exact (Hh13.out bt c h).2
              · exact ⟨by omega, by omega, by omega⟩
            · simp only [e, if_false] at hc
              exact ⟨Or.inl (Hh13.out i c hc).1, (Hh13.out i c hc).2⟩
          · have key : ∀ i, i ≠ bt → F' c → G i c → False := fun i hn h1 h2 => by
              rcases (hFn c h1).1 with h | h
              · exact hn (Hh14.out _ _ _ h2 h)
              · have := H.out.fl c (Hh13.out i c h2).1; omega
            by_cases e : i = bt
            · by_cases e2 : j = bt
              · rw [e, e2]
              · simp only [e, if_true] at hi
                simp only [e2, if_false] at hj
                exact (key j e2 hi hj).elim
            · by_cases e2 : j = bt
              · simp only [e, if_false] at hi
                simp only [e2, if_true] at hj
                exact (key i e hj hi).elim
              · simp only [e, if_false] at hi
                simp only [e2, if_false] at hj
                exact Hh14.out i j c hi hj
        · rw [Hd1.out _ HXi.out, if_neg (by decide)]
        · rcases hb with hb | hb
          · exact ⟨Or.inl hb, Nat.lt_of_lt_of_le (H.out.fl b hb) tg.size⟩
          · exact ⟨(hFn b hb).1.imp (fun h => (Hh13.out bt b h).1) id, Nat.lt_of_lt_of_le (hFn b hb).2 t5.size⟩
  case rest =>
    obtain ⟨o', kd', f', mm, F1, rfl, hmm, hr1, hdt, hft, ht1, hF1⟩ := hcut
    obtain ⟨wr, rfl⟩ : ∃ wr, wr = wc := ⟨_, rfl⟩
    clear c0 c1 c2 c3 c4 f1 f2
    obtain ⟨g', gk', gm', kv', m', G', e1, p2, p3, p4, p5, p6, p7, p8, p9, p10, p11, p12, p13, p14⟩ := id hr1
    obtain rfl : g = g' := by simpa using e1
    obtain ⟨ba, bc, rfl, l3, m3, z3⟩ := p9.shape
    have c0 := p8.c0
    have c1 := p8.c1
    have c2 := p8.c2
    have c3 := p8.c3
    have c4 := p8.c4
    have hlen := fun W (t : Ext wr W) => len_any (kd' : Int) (p10.ext t)
    rw [hs_hI] at hlen
    have hcl := cnt_le (RT.hsT f') 256
    have hw : ∀ (W : World) (F2 : Nat → Prop), Ext wr W → (∀ b, F2 b → F1 b ∨ wr.heap.size ≤ b ∧ b < W.heap.size) → Touch F w W ∧ ∀ b, F2 b → (F b ∨ w.heap.size ≤ b) ∧ b < W.heap.size := fun W F2 t h => ⟨ht1.trans_ext t, fun b hb => by
      have hs := ht1.size
      have hs2 := t.size
      rcases h b hb with h | h
      · exact ⟨(hF1 b h).1, Nat.lt_of_lt_of_le (hF1 b h).2 hs2⟩
      · exact ⟨Or.inr (by omega), h.2⟩⟩
    have Hdt := Lib.hid hdt
    clear hdt
    have Hft := Lib.hid hft
    clear hft
    have Hr1 := Lib.hid hr1
    clear hr1
    have Ht1 := Lib.hid ht1
    clear ht1
    have HF1 := Lib.hid hF1
    clear hF1
    have E1 := Lib.hid e1
    clear e1
    have P2 := Lib.hid p2
    clear p2
    have P3 := Lib.hid p3
    clear p3
    have P4 := Lib.hid p4
    clear p4
    have P5 := Lib.hid p5
    clear p5
    have P6 := Lib.hid p6
    clear p6
    have P7 := Lib.hid p7
    clear p7
    have P8 := Lib.hid p8
    clear p8
    have P9 := Lib.hid p9
    clear p9
    have P10 := Lib.hid p10
    clear p10
    have P11 := Lib.hid p11
    clear p11
    have P12 := Lib.hid p12
    clear p12
    have P13 := Lib.hid p13
    clear p13
    have P14 := Lib.hid p14
    clear p14
    have Hw := Lib.hid hw
    clear hw
    cases o' with
    | some vv =>
      simp only [Option.isSome_some, Option.getD_some] at c1 c2
      by_cases hcz : cnt (RT.hsT f') 256 = 0
      · rw [hcz] at hlen
        have Hlen := Lib.hid hlen
        clear hlen
        have Hcz := Lib.hid hcz
        clear hcz
        go_wp2_with (fail)
        (with_reducible refine (Hlen.out _ (Touch.refl _ _)).mono ?_)
        rintro e w8 ⟨rfl, t8⟩
        have c0 := keepc t8 id c0
        have c2 := keepc t8 id c2
        have T8 := Lib.hid t8
        clear t8
        go_wp2_with (fail)
        refine wp_region_plan (.take 0 (.take 1 (.take 2 (.take 3 (.take 4 (.take 5 (.take 6 (.take 7 (.take 8 (.take 10 (.must 9 (.take 11 (.take 12 .done))))))))))))) (fun W => W.cell? ⟨g, 0, none⟩ = some (.slice ba k0.length bc) ∧ W.cell? ⟨g, 2, none⟩ = some (.int .u64 vv)) (by kernel_rfl) (by kernel_rfl) (by kernel_rfl) rfl ?_ (fun KK hKK => ?_)
        · exact ⟨c0, c2⟩
        repeat (first
          | (refine wpPlan_take (v := ?_) rfl (by rfl) (fun W hW => ?_) ?_; rotate_left; (focus ((try dsimp only at hW); go_split_ands; go_simp; (try with_reducible rfl); done)); (try simp only [Act.put, List.setIfInBounds_toArray, List.set_cons_zero, List.set_cons_succ]))
          | (refine wpPlan_skip rfl (by rfl) ?_; (try simp only [Act.put, List.setIfInBounds_toArray, List.set_cons_zero, List.set_cons_succ])))
        refine wpPlan_must rfl (by rfl) (fun K hK => ?_)
        go_simp
        obtain ⟨w9, hw9⟩ : ∃ w9, w9 = w8.alloc (.cells #[.slice ba k0.length bc, .bool true, .int .u64 vv, .pointer none, .map none] 96) := ⟨_, rfl⟩
        have t9 : Ext w8 w9 := by rw [hw9]; exact (Touch.refl _ _).alloc _
        have nd9 : Nd w9 w8.heap.size (.slice ba k0.length bc) true vv (.pointer none) (.map none) := by rw [hw9]; exact Nd.new w8 _ _ _ _ _ _
        rw [← hw9]
        clear hw9
        have c0 := keepc t9 id c0
        have c2 := keepc t9 id c2
        have hs9 := nd9.lt
        have T9 := Lib.hid t9
        clear t9
        have Nd9 := Lib.hid nd9
        clear nd9
        refine hK.out _ _ ?_ ?_
        · exact ⟨c0, c2⟩
        clear hK K
        (try simp only [Act.put, List.setIfInBounds_toArray, List.set_cons_zero, List.set_cons_succ])
        repeat (first
          | (refine wpPlan_take (v := ?_) rfl (by rfl) (fun W hW => ?_) ?_; rotate_left; (focus ((try dsimp only at hW); go_split_ands; go_simp; (try with_reducible rfl); done)); (try simp only [Act.put, List.setIfInBounds_toArray, List.set_cons_zero, List.set_cons_succ]))
          | (refine wpPlan_skip rfl (by rfl) ?_; (try simp only [Act.put, List.setIfInBounds_toArray, List.set_cons_zero, List.set_cons_succ])))
        refine wpPlan_done (hKK.out _ _ ?_)
        clear hKK KK
        go_wp2_with (fail)
        refine bodyPost_ret (v := .tuple #[pt w8.heap.size, .int .i64 (mm : Int)]) (by simp [results, Tryd.results59, go_sem]) rfl ?_
        have tx : Ext wr w9.drew := (T8.out.trans' T9.out).drew
        have e2 : RT.dropN k0 0 (some vv) kd' f' = .leaf k0 vv := by unfold RT.dropN; rw [if_pos ⟨rfl, Hcz.out⟩]; rfl
        have e3 : RT.fewN mm (some vv) f' = mm := by unfold RT.fewN; rw [if_neg (fun h => by have := h.1; simp at this)]
        rw [Hdt.out, Hft.out, e2, e3]
        exact ⟨_, fun b => b = w8.heap.size, rfl, ⟨_, _, rfl, rfl, Nd9.out.ext (Touch.refl _ _).drew, P9.out.ext tx⟩, Hw.out _ _ tx (fun b hb => Or.inr (by subst hb; exact ⟨T8.out.size, hs9⟩))⟩
      · have i2 : ((cnt (RT.hsT f') 256 : Nat) : Int) ≠ 0 := by omega
        have i3 : (((cnt (RT.hsT f') 256 : Nat) : Int) == 0) = false := beq_eq_false_iff_ne.2 i2
        have hz := hcz
        generalize hcn : cnt (RT.hsT f') 256 = cn at *
        clear hcz i2
        have hz : ¬ cnt (RT.hsT f') 256 = 0 := by rw [hcn]; exact hz
        have Hlen := Lib.hid hlen
        clear hlen
        have Hz := Lib.hid hz
        clear hz
        have Hcn := Lib.hid hcn
        clear hcn
        go_wp2_with (fail)
        (with_reducible refine (Hlen.out _ (Touch.refl _ _)).mono ?_)
        rintro e w8 ⟨rfl, t8⟩
        have c1 := keepc t8 id c1
        go_wp2_with (fail)
        refine bodyPost_ret (v := .tuple #[pt g, .int .i64 (mm : Int)]) (by simp [results, Tryd.results59, go_sem]) rfl ?_
        have tx : Ext wr w8 := t8
        have e2 : RT.dropN k0 0 (some vv) kd' f' = .node k0 (some vv) kd' f' := by unfold RT.dropN; rw [if_neg (fun h => Hz.out h.2), if_neg (fun h => by have := h.1; simp at this)]
        have e3 : RT.fewN mm (some vv) f' = mm := by unfold RT.fewN; rw [if_neg (fun h => by have := h.1; simp at this)]
        rw [Hdt.out, Hft.out, e2, e3]
        exact ⟨_, F1, rfl, Hr1.out.ext tx, Hw.out _ F1 tx (fun b hb => Or.inl hb)⟩
    | none =>
      simp only [Option.isSome_none, Option.getD_none] at c1 c2
      by_cases hcz : cnt (RT.hsT f') 256 = 1
      · rw [hcz] at hlen
        have hby := fun W (t : Ext wr W) => bytes_any (kd' : Int) (P10.out.ext t)
        unfold KBytes at hby
        rw [hs_hI] at hby
        obtain ⟨i, hi, his, hoe, hoth⟩ := RT.oneT_spec hcz
        have hal : allF (RT.hsT f') 256 = [(i : Int)] := by
          have h1 := allF_length (RT.hsT f') 256
          have h2 : (i : Int) ∈ allF (RT.hsT f') 256 := mem_allF.2 ⟨hi, his⟩
          rw [hcz] at h1
          obtain ⟨y, hy⟩ := List.length_eq_one_iff.1 h1
          rw [hy] at h2 ⊢
          rw [List.mem_singleton.1 h2]
        rw [hal] at hby
        have hlook := fun W (t : Ext wr W) => (P11.out.ext t).look1 (i := i) hi
        have hmo : mO f' m' i = some (m' i) := by unfold mO; rw [his]; rfl
        obtain ⟨gi, hgi, hGi, _⟩ := (P12.out i hi).ptr his
        rw [hgi] at hmo
        rw [hmo] at hlook
        simp only [Option.getD_some] at hlook
        have b0 : (0 : Int) ≤ (i : Int) := by omega
        have b1 : (i : Int) < 256 := by omega
        have iw : IntKind.i64.wrap ((mm : Int) + 1) = (mm : Int) + 1 := by rw [IntKind.wrap_i64]; omega
        have Hlen := Lib.hid hlen
        clear hlen
        have Hcz := Lib.hid hcz
        clear hcz
        have Hby := Lib.hid hby
        clear hby
        have Hi := Lib.hid hi
        clear hi
        have His := Lib.hid his
        clear his
        have Hoe := Lib.hid hoe
        clear hoe
        have Hoth := Lib.hid hoth
        clear hoth
        have Hal := Lib.hid hal
        clear hal
        have Hlook := Lib.hid hlook
        clear hlook
        have Hmo := Lib.hid hmo
        clear hmo
        have Hgi := Lib.hid hgi
        clear hgi
        have HGi := Lib.hid hGi
        clear hGi
        go_wp2_with (fail)
        (with_reducible refine (Hlen.out _ (Touch.refl _ _)).mono ?_)
        rintro e w8 ⟨rfl, t8⟩
        have c3 := keepc t8 id c3
        have c4 := keepc t8 id c4
        have T8 := Lib.hid t8
        clear t8
        go_wp2_with (fail)
        refine wp_region_plan (.take 0 (.take 1 (.take 2 (.take 3 (.take 4 (.take 5 (.take 6 (.take 7 (.take 12 (.take 13 (.must 8 (.must 9 (.must 10 (.must 11 (.take 14 (.take 15 .done)))))))))))))))) (fun W => W.cell? ⟨g, 3, none⟩ = some (pt gk') ∧ W.cell? ⟨g, 4, none⟩ = some (.map (some gm'))) (by kernel_rfl) (by kernel_rfl) (by kernel_rfl) rfl ?_ (fun KK hKK => ?_)
        · exact ⟨c3, c4⟩
        repeat (first
          | (refine wpPlan_take (v := ?_) rfl (by rfl) (fun W hW => ?_) ?_; rotate_left; (focus ((try dsimp only at hW); go_split_ands; go_simp; (try with_reducible rfl); done)); (try simp only [Act.put, List.setIfInBounds_toArray, List.set_cons_zero, List.set_cons_succ]))
          | (refine wpPlan_skip rfl (by rfl) ?_; (try simp only [Act.put, List.setIfInBounds_toArray, List.set_cons_zero, List.set_cons_succ])))
        refine wpPlan_must rfl (by rfl) (fun K hK => ?_)
        go_simp
        (with_reducible refine (Hby.out _ T8.out.drew).mono ?_)
        rintro e w9 ⟨v9, n9, rfl, ho9, t9⟩
        have hrd := Reads.of_own ho9
        obtain ⟨a9, c9, hv9, l9, m9⟩ := hrd.shape
        have hl1 : (ivs .u8 [(i : Int)]).length = 1 := rfl
        rw [hl1] at hv9 l9
        subst hv9
        obtain ⟨b9, o9, rfl⟩ := hrd.addr (by simp)
        have cb := hrd.cell 0 (by simp)
        simp only [ivs, List.map_cons, List.map_nil, List.getElem_cons_zero, Nat.add_zero] at cb
        have y9 := T8.out.drew.trans' t9
        have look := Hlook.out w9 y9
        have look1 := Hlook.out w9.drew y9.drew
        have c3 := keepc t9 id c3
        have c4 := keepc t9 id c4
        unfold maxLen at m9
        have l01 : (0 : Int) < 1 := by omega
        clear hl1
        have Hrd := Lib.hid hrd
        clear hrd
        have Ho9 := Lib.hid ho9
        clear ho9
        have T9 := Lib.hid t9
        clear t9
        have Y9 := Lib.hid y9
        clear y9
        refine hK.out _ _ ?_ ?_
        · exact ⟨c3, c4⟩
        clear hK K
        (try simp only [Act.put, List.setIfInBounds_toArray, List.set_cons_zero, List.set_cons_succ])
        repeat (first
          | (refine wpPlan_take (v := ?_) rfl (by rfl) (fun W hW => ?_) ?_; rotate_left; (focus ((try dsimp only at hW); go_split_ands; go_simp; (try with_reducible rfl); done)); (try simp only [Act.put, List.setIfInBounds_toArray, List.set_cons_zero, List.set_cons_succ]))
          | (refine wpPlan_skip rfl (by rfl) ?_; (try simp only [Act.put, List.setIfInBounds_toArray, List.set_cons_zero, List.set_cons_succ])))
        refine wpPlan_must rfl (by rfl) (fun K hK => ?_)
        go_simp
        refine hK.out _ _ ?_ ?_
        · exact ⟨c3, c4⟩
        clear hK K
        (try simp only [Act.put, List.setIfInBounds_toArray, List.set_cons_zero, List.set_cons_succ])
        repeat (first
          | (refine wpPlan_take (v := ?_) rfl (by rfl) (fun W hW => ?_) ?_; rotate_left; (focus ((try dsimp only at hW); go_split_ands; go_simp; (try with_reducible rfl); done)); (try simp only [Act.put, List.setIfInBounds_toArray, List.set_cons_zero, List.set_cons_succ]))
          | (refine wpPlan_skip rfl (by rfl) ?_; (try simp only [Act.put, List.setIfInBounds_toArray, List.set_cons_zero, List.set_cons_succ])))
        refine wpPlan_must rfl (by rfl) (fun K hK => ?_)
        go_simp
        refine hK.out _ _ ?_ ?_
        · exact ⟨c3, c4⟩
        clear hK K
        (try simp only [Act.put, List.setIfInBounds_toArray, List.set_cons_zero, List.set_cons_succ])
        repeat (first
          | (refine wpPlan_take (v := ?_) rfl (by rfl) (fun W hW => ?_) ?_; rotate_left; (focus ((try dsimp only at hW); go_split_ands; go_simp; (try with_reducible rfl); done)); (try simp only [Act.put, List.setIfInBounds_toArray, List.set_cons_zero, List.set_cons_succ]))
          | (refine wpPlan_skip rfl (by rfl) ?_; (try simp only [Act.put, List.setIfInBounds_toArray, List.set_cons_zero, List.set_cons_succ])))
        refine wpPlan_must rfl (by rfl) (fun K hK => ?_)
        go_simp
        refine hK.out _ _ ?_ ?_
        · exact ⟨c3, c4⟩
        clear hK K
        (try simp only [Act.put, List.setIfInBounds_toArray, List.set_cons_zero, List.set_cons_succ])
        repeat (first
          | (refine wpPlan_take (v := ?_) rfl (by rfl) (fun W hW => ?_) ?_; rotate_left; (focus ((try dsimp only at hW); go_split_ands; go_simp; (try with_reducible rfl); done)); (try simp only [Act.put, List.setIfInBounds_toArray, List.set_cons_zero, List.set_cons_succ]))
          | (refine wpPlan_skip rfl (by rfl) ?_; (try simp only [Act.put, List.setIfInBounds_toArray, List.set_cons_zero, List.set_cons_succ])))
        refine wpPlan_done (hKK.out _ _ ?_)
        clear hKK KK
        go_wp2_with (fail)
        refine bodyPost_ret (v := .tuple #[pt gi, .int .i64 ((mm : Int) + 1)]) (by simp [results, Tryd.results59, go_sem]) rfl ?_
        have tx : Ext wr w9 := Y9.out
        have e2 : RT.dropN k0 0 none kd' f' = f' i := by unfold RT.dropN; rw [if_neg (fun h => by have := h.1; simp at this), if_pos ⟨rfl, Hcz.out⟩, Hoe.out]
        have e3 : RT.fewN mm none f' = mm + 1 := by unfold RT.fewN; rw [if_pos ⟨rfl, Hcz.out⟩]
        rw [Hdt.out, Hft.out, e2, e3]
        have hri := P12.out i Hi.out
        rw [Hgi.out] at hri
        exact ⟨_, G' i, rfl, hri.ext tx, Hw.out _ _ tx (fun b hb => Or.inl (P13.out i b hb).1)⟩
      · have i2 : ((cnt (RT.hsT f') 256 : Nat) : Int) ≠ 1 := by omega
        have i3 : (((cnt (RT.hsT f') 256 : Nat) : Int) == 1) = false := beq_eq_false_iff_ne.2 i2
        have hz := hcz
        generalize hcn : cnt (RT.hsT f') 256 = cn at *
        clear hcz i2
        have hz : ¬ cnt (RT.hsT f') 256 = 1 := by rw [hcn]; exact hz
        have Hlen := Lib.hid hlen
        clear hlen
        have Hz := Lib.hid hz
        clear hz
        have Hcn := Lib.hid hcn
        clear hcn
        go_wp2_with (fail)
        (with_reducible refine (Hlen.out _ (Touch.refl _ _)).mono ?_)
        rintro e w8 ⟨rfl, t8⟩
        have c1 := keepc t8 id c1
        go_wp2_with (fail)
        refine bodyPost_ret (v := .tuple #[pt g, .int .i64 (mm : Int)]) (by simp [results, Tryd.results59, go_sem]) rfl ?_
        have tx : Ext wr w8 := t8
        have e2 : RT.dropN k0 0 none kd' f' = .node k0 none kd' f' := by unfold RT.dropN; rw [if_neg (fun h => by have := h.1; simp at this), if_neg (fun h => Hz.out h.2)]
        have e3 : RT.fewN mm none f' = mm := by unfold RT.fewN; rw [if_neg (fun h => Hz.out h.2)]
        rw [Hdt.out, Hft.out, e2, e3]
        exact ⟨_, F1, rfl, Hr1.out.ext tx, Hw.out _ F1 tx (fun b hb => Or.inl hb)⟩

theorem drop_any (T : RT) (kw : Value) (k : List Int) (H : Nat → Prop) : ∀ (w : World) (K F : Nat → Prop) (v : Value) (q : List Int), PreD w K F H v kw T q k → Calls Tryd.prog 59 #[v, kw] w (DropRet w K F T k) := by
  induction T with
  | nil => intro w K F v q h; obtain ⟨x, hx⟩ := h.has; simp [RT.prs] at hx
  | leaf k0 y =>
    intro w K F v q h
    obtain ⟨ka, kc, rfl, _⟩ := h.kw.shape
    exact drop_leaf w K F v ka k.length kc k0 k y h.rn
  | node k0 o kd f ih =>
    intro w K F v q h
    exact drop_node w K F H v kw q k0 k o kd f h (fun W F' v' hp => ih _ W K F' v' _ hp)
end RadE
end Go.Proofs.YtclnnkacfanaiaaDoor
