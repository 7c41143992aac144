/- The statement CritCells: of n keys there are 2n - 1 cells behind each put and drop; just as many go in as there is room for. Conditions: none beyond the statement's own guards. -/
import Derived.Test.YtmdgmkmddkaadaaTreeP
import Derived.Test.YtmdgmkmddkaadaaCritV
import Derived.Test.YtmdgmkmddkaadaaRefJ
import Derived.Test.YtmdgmkmddkaadaaArg
import Derived.Test.YtmdgmkmddkaadaaRows
namespace Go.Proofs.Ytmdgmkmddkaadaa
open Go.ChangeShapes Go.WideShapes Go.ChangeAt Go.RowKit Go.Deep
set_option linter.unusedVariables false
set_option linter.unusedSimpArgs false
namespace LawCritCells
open TreeB TreeP CritU CritV ModF RefF
open ModS (great_not)




abbrev In (w : World) : Nat → Prop := fun b => b < w.heap.size

set_option maxRecDepth 100000 in
set_option maxHeartbeats 8000000 in
theorem walk_small (v0 : Value) (bits most : Int) (ps : Prs) (w : World) (h0 : RP w (In w) v0 ps) (hpk : PK ps) (hg : SameP.great ps 40 20 = false) (hm : ps.length ≤ 40) (hL : ∀ p ∈ ps, p.1.length ≤ 20) (hb64 : V64 bits) (hm64 : V64 most) :
    Calls Try.prog 7 #[v0, .int .i64 bits, .int .i64 most] w fun e w' => e = .returned (.bool true) ∧ Ext w w' := by
  obtain ⟨a0, c0, rfl, l1, l2⟩ := h0.shape
  unfold maxLen at l2
  have hgr := SameP.great_any w _ _ ps 40 20 h0 (by decide) (by decide) (by decide) (by decide)
  have hlow := SameA.low_ex most 81 w hm64 (by decide) (by decide)
  rw [hg] at hgr
  have Hgr := Lib.hid hgr
  clear hgr
  have Hlow := Lib.hid hlow
  clear hlow
  have H0 := Lib.hid h0
  clear h0
  have Hpk := Lib.hid hpk
  clear hpk
  have HL := Lib.hid hL
  clear hL
  have Hb64 := Lib.hid hb64
  clear hb64
  have Hm64 := Lib.hid hm64
  clear hm64
  clear hg
  go_enter Try.func7, Try.ntmps7
  go_wp2_with (fail)
  refine Hgr.out.mono ?_
  rintro e w' ⟨rfl, rfl⟩
  go_wp2_with (fail)
  (with_reducible refine Hlow.out.mono ?_)
  rintro e w' ⟨m, hm0, hm1, rfl, rfl⟩
  have hnew := new_yes w m hm0 (by omega)
  unfold TNew at hnew
  have Hnew := Lib.hid hnew
  clear hnew
  go_wp2_with (fail)
  (with_reducible refine Hnew.out.mono ?_)
  rintro e w1 ⟨t, F, rfl, htp, hF, t1⟩
  have Htp := Lib.hid htp
  clear htp
  have HF := Lib.hid hF
  clear hF
  have T1 := Lib.hid t1
  clear t1
  go_wp2_with (fail)
  have x1 : Ext w (w1.alloc (.cells #[.slice none 0 0] 58)) := T1.out.alloc _
  have htp := Htp.out.ext ((Touch.refl _ _).alloc (.cells #[.slice none 0 0] 58))
  have hrf := RefJ.rf_new w1
  have hR0 : ∀ b, b = w1.heap.size → w.heap.size ≤ b := fun b hb => by have := T1.out.size; omega
  have hd0 : ∀ b, F b → ¬ b = w1.heap.size := fun b hb h => by have := Htp.out.lt b hb; omega
  have hF0 := HF.out
  clear Htp HF T1
  generalize w1.heap.size = r at *
  generalize w1.alloc (.cells #[.slice none 0 0] 58) = w2 at *
  have X1 := Lib.hid x1
  clear x1
  have Htp := Lib.hid htp
  clear htp
  have Hrf := Lib.hid hrf
  clear hrf
  have HR0 := Lib.hid hR0
  clear hR0
  have Hd0 := Lib.hid hd0
  clear hd0
  have HF0 := Lib.hid hF0
  clear hF0
  go_loopw [9] (fun s9 wr => ∃ (j : Nat) (M : Prs) (F R : Nat → Prop), j ≤ ps.length ∧ s9 = .int .i64 j ∧ M.length ≤ j ∧ Tp wr t F M m ∧ Rf wr r R M ∧ (∀ b, F b → w.heap.size ≤ b) ∧ (∀ b, R b → w.heap.size ≤ b) ∧ (∀ b, F b → ¬ R b) ∧ Ext w wr) (fun s9 _ => ps.length - (intOf s9).toNat)
  case atStart => exact ⟨0, [], F, _, by omega, rfl, by simp, Htp.out, Hrf.out, HF0.out, HR0.out, Hd0.out, X1.out⟩
  case round =>
    obtain ⟨j, M, F', R', hj, rfl, hMl, htp, hrf, hF, hR, hd, ht⟩ := hrel
    clear Htp Hrf HF0 HR0 Hd0 X1
    by_cases hjk : j < ps.length
    · obtain ⟨b, off, rfl, hb⟩ := H0.out.addr (by omega)
      have hgj := List.getElem?_eq_getElem hjk
      obtain ⟨kv, d0, d1, hkv⟩ := (H0.out.ext ht).get _ _ hgj
      have hpp := Hpk.out _ (List.mem_of_getElem? hgj)
      have hp20 := HL.out _ (List.mem_of_getElem? hgj)
      generalize ps[j] = p at *
      obtain ⟨ka, kc, rfl, _⟩ := hkv.shape
      have hj2 : j / 2 < ps.length := by omega
      have hgh := List.getElem?_eq_getElem hj2
      have hqq := Hpk.out _ (List.mem_of_getElem? hgh)
      generalize ps[j / 2] = q at *
      have i1 : (j : Int) < (ps.length : Int) := by omega
      have i2 : (0 : Int) ≤ (j : Int) := by omega
      have hbw : b < w.heap.size := hb
      have hbF : ¬ F' b := fun h => by have := hF b h; omega
      have hbR : ¬ R' b := fun h => by have := hR b h; omega
      have hrR := hrf.self
      have hrb : r ≠ b := fun h => hbR (h ▸ hrR)
      have hrw := hR r hrR
      have hFr : ¬ F' r := fun h => hd r h hrR
      have htr : t ≠ r := fun h => hFr (h ▸ htp.self)
      have htw := hF t htp.self
      have hkF : ∀ x, In w x → ¬ F' x := fun x hx h => by have h1 : x < w.heap.size := hx; have := hF x h; omega
      have hku := (hkv.ext (Touch.refl _ _).drew).mono (G := fun b => b ≠ t) (fun x hx h => by have h1 : x < w.heap.size := hx; omega)
      have hlp := putK_length M p.1 p.2
      have Hgj := Lib.hid hgj
      clear hgj
      have Hgh := Lib.hid hgh
      clear hgh
      have Hkv := Lib.hid hkv
      clear hkv
      have Hpp := Lib.hid hpp
      clear hpp
      have Hqq := Lib.hid hqq
      clear hqq
      have Hp20 := Lib.hid hp20
      clear hp20
      have Htp := Lib.hid htp
      clear htp
      have Hrf := Lib.hid hrf
      clear hrf
      have HF := Lib.hid hF
      clear hF
      have HR := Lib.hid hR
      clear hR
      have Hd := Lib.hid hd
      clear hd
      have Ht := Lib.hid ht
      clear ht
      have HbF := Lib.hid hbF
      clear hbF
      have HbR := Lib.hid hbR
      clear hbR
      have HkF := Lib.hid hkF
      clear hkF
      have Hku := Lib.hid hku
      clear hku
      have Hlp := Lib.hid hlp
      clear hlp
      by_cases hfull : hasK M p.1 = true ∨ (szK (putK M p.1 p.2) : Int) ≤ m
      · have hput := put_any wr.drew t (.slice ka p.1.length kc) M m p.1 p.2 (Htp.out.ext (Touch.refl _ _).drew) (by omega) Hku.out Hpp.out.1 (by have := Hp20.out; omega) hfull
        unfold TPut at hput
        have Hput := Lib.hid hput
        clear hput
        clear hfull
        go_wp2_with (fail)
        refine wp_region_plan (.take 0 (.take 1 (.take 2 (.take 3 (.take 4 (.take 5 (.take 6 (.take 7 (.take 8 (.take 9 (.take 10 (.must 11 (.take 12 (.take 13 (.take 14 (.take 15 (.take 16 (.take 17 (.take 18 .done))))))))))))))))))) (fun wy => wy.cell? ⟨b, off + j * 2, none⟩ = some (.slice ka p.1.length kc) ∧ wy.cell? ⟨b, off + j * 2 + 1, none⟩ = some (.int .u64 p.2)) (by kernel_rfl) (by kernel_rfl) (by kernel_rfl) rfl ?_ (fun KK hKK => ?_)
        · exact ⟨d0, d1⟩
        repeat (first
          | (refine wpPlan_take (v := ?_) rfl (by rfl) (fun W hW => ?_) ?_; rotate_left; (focus ((try dsimp only at hW); go_split_ands; go_simp; (try with_reducible rfl); done)); (try simp only [Act.put, List.setIfInBounds_toArray, List.set_cons_zero, List.set_cons_succ]))
          | (refine wpPlan_skip rfl (by rfl) ?_; (try simp only [Act.put, List.setIfInBounds_toArray, List.set_cons_zero, List.set_cons_succ])))
        refine wpPlan_must rfl (by rfl) (fun K hK => ?_)
        go_simp
        (with_reducible refine Hput.out.mono ?_)
        rintro e w3 ⟨rfl, F3, htp3, hu3, hsub3⟩
        have d0 := keepc hu3 HbF.out d0
        have d1 := keepc hu3 HbF.out d1
        have Htp3 := Lib.hid htp3
        clear htp3
        have Hsub3 := Lib.hid hsub3
        clear hsub3
        refine hK.out _ _ ?_ ?_
        · exact ⟨d0, d1⟩
        clear hK K
        (try simp only [Act.put, List.setIfInBounds_toArray, List.set_cons_zero, List.set_cons_succ])
        repeat (first
          | (refine wpPlan_take (v := ?_) rfl (by rfl) (fun W hW => ?_) ?_; rotate_left; (focus ((try dsimp only at hW); go_split_ands; go_simp; (try with_reducible rfl); done)); (try simp only [Act.put, List.setIfInBounds_toArray, List.set_cons_zero, List.set_cons_succ]))
          | (refine wpPlan_skip rfl (by rfl) ?_; (try simp only [Act.put, List.setIfInBounds_toArray, List.set_cons_zero, List.set_cons_succ])))
        refine wpPlan_done (hKK.out _ _ ?_)
        clear hKK KK
        have hu3' : Touch F' wr w3 := (show Ext wr wr.drew from (Touch.refl _ _).drew).ext_trans hu3
        have hrd := fun W (x : Ext w3 W) => RefJ.put_any W r (.slice ka p.1.length kc) M p.1 p.2 ((Hrf.out.keep hu3' (fun b hb h => Hd.out b h hb)).ext x) ((Hkv.out.keep hu3' HkF.out).ext x) Hpp.out.1 (by have := Hp20.out; omega) (by omega)
        unfold RefJ.RPut at hrd
        have Hrd := Lib.hid hrd
        clear hrd
        go_wp2_with (fail)
        refine wp_region_plan (.take 0 (.take 1 (.take 2 (.take 3 (.take 4 (.take 5 (.take 6 (.take 7 (.take 8 (.take 9 (.take 10 (.must 11 .done)))))))))))) (fun wy => wy.cell? ⟨b, off + j * 2, none⟩ = some (.slice ka p.1.length kc) ∧ wy.cell? ⟨b, off + j * 2 + 1, none⟩ = some (.int .u64 p.2)) (by kernel_rfl) (by kernel_rfl) (by kernel_rfl) rfl ?_ (fun KK hKK => ?_)
        · exact ⟨d0, d1⟩
        repeat (first
          | (refine wpPlan_take (v := ?_) rfl (by rfl) (fun W hW => ?_) ?_; rotate_left; (focus ((try dsimp only at hW); go_split_ands; go_simp; (try with_reducible rfl); done)); (try simp only [Act.put, List.setIfInBounds_toArray, List.set_cons_zero, List.set_cons_succ]))
          | (refine wpPlan_skip rfl (by rfl) ?_; (try simp only [Act.put, List.setIfInBounds_toArray, List.set_cons_zero, List.set_cons_succ])))
        refine wpPlan_must rfl (by rfl) (fun K hK => ?_)
        go_simp
        (with_reducible refine (Hrd.out _ (Touch.refl _ _).drew).mono ?_)
        rintro e w4 ⟨rfl, R4, hrf4, hu4, hsub4⟩
        have d01 := And.intro (keepc hu4 (fun h => hrb h.symm) d0) (keepc hu4 (fun h => hrb h.symm) d1)
        clear d0 d1
        have hs3 := hu3'.size
        have hu4' : Touch (fun b => b = r) w3 w4 := (show Ext w3 w3.drew from (Touch.refl _ _).drew).ext_trans hu4
        have htp1 : Tp w4 t F3 (putK M p.1 p.2) m := Htp3.out.keep hu4' (fun b hb h => by
          rcases Hsub3.out b hb with h3 | h3
          · exact hFr (by rw [← (show b = r from h)]; exact h3)
          · have h4 : r < wr.heap.size := Hrf.out.lt _ Hrf.out.self
            have h5 : wr.drew.heap.size = wr.heap.size := rfl
            have h6 : b = r := h
            omega)
        have hF1 : ∀ b, F3 b → w.heap.size ≤ b := fun b hb => (Hsub3.out b hb).elim (HF.out b) (fun h => by have h5 : wr.drew.heap.size = wr.heap.size := rfl; have := Ht.out.size; omega)
        have hR1 : ∀ b, R4 b → w.heap.size ≤ b := fun b hb => (hsub4 b hb).elim (HR.out b) (fun h => by have h5 : w3.drew.heap.size = w3.heap.size := rfl; have := Ht.out.size; omega)
        have hd1 : ∀ b, F3 b → ¬ R4 b := fun b hb h => by
          have h1 := Htp3.out.lt b hb
          rcases hsub4 b h with h2 | h2
          · rcases Hsub3.out b hb with h3 | h3
            · exact Hd.out b h3 h2
            · have := Hrf.out.lt b h2
              have h5 : wr.drew.heap.size = wr.heap.size := rfl
              omega
          · have h5 : w3.drew.heap.size = w3.heap.size := rfl
            omega
        have x1 : Ext w w4 := (Ht.out.ext_new hu3' (fun i hi => HF.out i hi)).ext_new hu4' (fun i hi => by subst hi; exact hrw)
        have hl1 : (putK M p.1 p.2).length ≤ j + 1 := by have := Hlp.out; split at this <;> omega
        have hz1 : True := trivial
        have Htp1 := Lib.hid htp1
        clear htp1
        have Hrf4 := Lib.hid hrf4
        clear hrf4
        have HF1 := Lib.hid hF1
        clear hF1
        have HR1 := Lib.hid hR1
        clear hR1
        have Hd1 := Lib.hid hd1
        clear hd1
        have X1 := Lib.hid x1
        clear x1
        refine hK.out _ _ ?_ ?_
        · exact d01
        clear hK K
        (try simp only [Act.put, List.setIfInBounds_toArray, List.set_cons_zero, List.set_cons_succ])
        refine wpPlan_done (hKK.out _ _ ?_)
        clear hKK KK
        have htp1 := Htp1.out
        have hrf1 := Hrf4.out
        have hF1 := HF1.out
        have hR1 := HR1.out
        have hd1 := Hd1.out
        have x1 := X1.out
        generalize putK M p.1 p.2 = M1 at *
        obtain ⟨wc, e9⟩ : ∃ wc, wc = w4 := ⟨_, rfl⟩
        subst e9
        obtain ⟨F1, e9⟩ : ∃ F1, F1 = F3 := ⟨_, rfl⟩
        subst e9
        obtain ⟨R1, e9⟩ : ∃ R1, R1 = R4 := ⟨_, rfl⟩
        subst e9
        clear Htp1 Hrf4 HF1 HR1 Hd1 X1 hu3 hu3' hu4 hu4' hsub4 Htp3 Hsub3 Hrd Hput Htp Hrf HF HR Hd Hlp
        cases hdb : (Go.bits BinOp.and IntKind.i64 (bits / 2 ^ (j % 60)) 1 == 1) with
        | false =>
          obtain ⟨M2, e2⟩ : ∃ M2, M2 = M1 := ⟨_, rfl⟩
          obtain ⟨wd, e3⟩ : ∃ wd, wd = wc := ⟨_, rfl⟩
          subst e2
          subst e3
          obtain ⟨F2, e2⟩ : ∃ F2, F2 = F1 := ⟨_, rfl⟩
          obtain ⟨R2, e3⟩ : ∃ R2, R2 = R1 := ⟨_, rfl⟩
          subst e2
          subst e3
          have htp2 := htp1
          have hrf2 := hrf1
          have hF2 := hF1
          have hR2 := hR1
          have hd2 := hd1
          have x2 := x1
          have hl2 := hl1
          clear htp1 hrf1 hF1 hR1 hd1 x1 hl1
          have hs2 : szK M2 = 2 * M2.length - 1 := rfl
          have hfit := htp2.fits
          have hcl := crit_length _ M2 (Nat.le_refl _) htp2.rises htp2.kb
          rw [← hs2] at hcl
          obtain ⟨va, q0, hrow⟩ := hrf2.row
          obtain ⟨ra, rc, rfl, _⟩ := hrow.shape
          have hln := fun W (x : Ext wd W) => TreeA.len_any W _ M2 (htp2.ext x).tq
          have hli := fun W (x : Ext wd W) => live_tp W t M2 m (htp2.ext x)
          have hsh := fun W (x : Ext wd W) => CritS.shape_any W t M2 m (htp2.ext x)
          have j6 : IntKind.i64.wrap (2 * (M2.length : Int)) = 2 * (M2.length : Int) := by rw [IntKind.wrap_i64]; omega
          have j7 : IntKind.i64.wrap (2 * (M2.length : Int) - 1) = 2 * (M2.length : Int) - 1 := by rw [IntKind.wrap_i64]; omega
          have j8 : ¬ (m < (szK M2 : Int)) := by omega
          have j9 : decide (m < (szK M2 : Int)) = false := by simp; omega
          have Hs2 := Lib.hid hs2
          clear hs2
          have Hfit := Lib.hid hfit
          clear hfit
          have Hcl := Lib.hid hcl
          clear hcl
          have Htp2 := Lib.hid htp2
          clear htp2
          have Hrf2 := Lib.hid hrf2
          clear hrf2
          have HF2 := Lib.hid hF2
          clear hF2
          have HR2 := Lib.hid hR2
          clear hR2
          have Hd2 := Lib.hid hd2
          clear hd2
          have X2 := Lib.hid x2
          clear x2
          have Hrow := Lib.hid hrow
          clear hrow
          have Hln := Lib.hid hln
          clear hln
          have Hli := Lib.hid hli
          clear hli
          have Hsh := Lib.hid hsh
          clear hsh
          go_wp2_with (fail)
          (with_reducible refine (Hln.out _ (Touch.refl _ _)).mono ?_)
          rintro e w9 ⟨rfl, rfl⟩
          go_wp2_with (fail)
          (with_reducible refine (Hli.out _ (Touch.refl _ _)).mono ?_)
          rintro e w9 ⟨rfl, rfl⟩
          go_wp2_with (fail)
          all_goals try (exfalso; have := Hs2.out; omega)
          all_goals
            (with_reducible refine (Hsh.out _ (Touch.refl _ _)).mono ?_)
            rintro e w10 ⟨⟨v1, rfl, hrc, hnil⟩, t10⟩
            obtain ⟨sa, sc, rfl, s1, s2, _⟩ := hrc.shape
            unfold maxLen at s2
            rw [Hcl.out] at s1 ⊢
            have Hrc := Lib.hid hrc
            clear hrc
            have Hnil := Lib.hid hnil
            clear hnil
            go_wp2_with (fail)
            (with_reducible refine (Hli.out _ t10).mono ?_)
            rintro e w11 ⟨rfl, rfl⟩
            go_wp2_with (fail)
            (with_reducible refine (Hli.out _ t10).mono ?_)
            rintro e w11 ⟨rfl, rfl⟩
            go_wp2_with (fail)
            first
              | ((with_reducible refine (Hli.out _ t10).mono ?_)
                 rintro e w11 ⟨rfl, rfl⟩
                 have k1 : IntKind.i64.wrap (m - (szK M2 : Int)) = m - (szK M2 : Int) := by rw [IntKind.wrap_i64]; omega
                 go_wp2_with (fail)
                 all_goals try (exfalso; omega))
              | skip
            all_goals
              go_roundw
              case rel => exact ⟨j + 1, M2, F2, R2, by omega, by go_num, hl2, Htp2.out.ext t10, Hrf2.out.ext t10, HF2.out, HR2.out, Hd2.out, X2.out.trans' t10⟩
              case measure => simp [intOf]; omega
        | true =>
          have hx1 : Go.bits BinOp.and IntKind.i64 (bits / 2 ^ (j % 60)) 1 = 1 := by simpa using hdb
          clear hdb
          obtain ⟨hv, f0, _, hhv⟩ := (H0.out.ext x1).get _ _ Hgh.out
          obtain ⟨ha, hc, rfl, _⟩ := hhv.shape
          have hqk : q.1.length ≤ 20 := HL.out _ (List.mem_of_getElem? Hgh.out)
          have hF1r : ¬ F1 r := fun h => hd1 r h hrf1.self
          have hsz1 := x1.size
          have hdr := TreeB.drop_any wc t (.slice ha q.1.length hc) M1 m q.1 htp1 (hhv.mono (G := fun b => b ≠ t) (fun x hx h => by have h1 : x < w.heap.size := hx; omega)) Hqq.out.1 (by omega)
          unfold TDrop at hdr
          have Hdr := Lib.hid hdr
          clear hdr
          have Hhv := Lib.hid hhv
          clear hhv
          have Htp1 := Lib.hid htp1
          clear htp1
          have Hrf1 := Lib.hid hrf1
          clear hrf1
          have HF1 := Lib.hid hF1
          clear hF1
          have HR1 := Lib.hid hR1
          clear hR1
          have Hd1 := Lib.hid hd1
          clear hd1
          have X1 := Lib.hid x1
          clear x1
          have Hz1 := Lib.hid hz1
          clear hz1
          have HF1r := Lib.hid hF1r
          clear hF1r
          go_wp2_with (fail)
          (with_reducible refine Hdr.out.mono ?_)
          rintro e w5 ⟨rfl, F2, htp5, hu5, hsub5⟩
          have hrd := RefJ.drop_any w5 r (.slice ha q.1.length hc) M1 q.1 (Hrf1.out.keep hu5 (fun b hb h => Hd1.out b h hb)) (Hhv.out.keep hu5 (fun b hb h => by have h1 : b < w.heap.size := hb; have := HF1.out b h; omega)) Hqq.out.1 (by omega)
          unfold RefJ.RDrop at hrd
          have f0 := keepc hu5 (fun h => by have := HF1.out b h; omega) f0
          have Hrd := Lib.hid hrd
          clear hrd
          have Htp5 := Lib.hid htp5
          clear htp5
          have Hsub5 := Lib.hid hsub5
          clear hsub5
          go_wp2_with (fail)
          (with_reducible refine Hrd.out.mono ?_)
          rintro e w6 ⟨rfl, R2, hrf2, hu6, hsub6⟩
          have hs5 := hu5.size
          have htp2 := Htp5.out.keep hu6 (fun b hb h => by
            have h6 : b = r := h
            rcases Hsub5.out b hb with h3 | h3
            · exact HF1r.out (by rw [← h6]; exact h3)
            · have := Hrf1.out.lt _ Hrf1.out.self
              omega)
          have hF2 : ∀ b, F2 b → w.heap.size ≤ b := fun b hb => (Hsub5.out b hb).elim (HF1.out b) (fun h => by omega)
          have hR2 : ∀ b, R2 b → w.heap.size ≤ b := fun b hb => (hsub6 b hb).elim (HR1.out b) (fun h => by omega)
          have hd2 : ∀ b, F2 b → ¬ R2 b := fun b hb h => by
            have h1 := Htp5.out.lt b hb
            rcases hsub6 b h with h2 | h2
            · rcases Hsub5.out b hb with h3 | h3
              · exact Hd1.out b h3 h2
              · have := Hrf1.out.lt b h2
                omega
            · omega
          have x2 : Ext w w6 := (X1.out.ext_new hu5 (fun i hi => HF1.out i hi)).ext_new hu6 (fun i hi => by subst hi; exact hrw)
          have hl2 : (dropK M1 q.1).length ≤ j + 1 := by rw [dropK_length]; omega
          clear hu5 hu6 hsub6 Hsub5 Htp5 Hrd Hdr Htp1 Hrf1 HF1 HR1 Hd1 X1 hl1 Hhv f0
          generalize dropK M1 q.1 = M2 at *
          obtain ⟨wd, e3⟩ : ∃ wd, wd = w6 := ⟨_, rfl⟩
          subst e3
          have hs2 : szK M2 = 2 * M2.length - 1 := rfl
          have hfit := htp2.fits
          have hcl := crit_length _ M2 (Nat.le_refl _) htp2.rises htp2.kb
          rw [← hs2] at hcl
          obtain ⟨va, q0, hrow⟩ := hrf2.row
          obtain ⟨ra, rc, rfl, _⟩ := hrow.shape
          have hln := fun W (x : Ext wd W) => TreeA.len_any W _ M2 (htp2.ext x).tq
          have hli := fun W (x : Ext wd W) => live_tp W t M2 m (htp2.ext x)
          have hsh := fun W (x : Ext wd W) => CritS.shape_any W t M2 m (htp2.ext x)
          have j6 : IntKind.i64.wrap (2 * (M2.length : Int)) = 2 * (M2.length : Int) := by rw [IntKind.wrap_i64]; omega
          have j7 : IntKind.i64.wrap (2 * (M2.length : Int) - 1) = 2 * (M2.length : Int) - 1 := by rw [IntKind.wrap_i64]; omega
          have j8 : ¬ (m < (szK M2 : Int)) := by omega
          have j9 : decide (m < (szK M2 : Int)) = false := by simp; omega
          have Hs2 := Lib.hid hs2
          clear hs2
          have Hfit := Lib.hid hfit
          clear hfit
          have Hcl := Lib.hid hcl
          clear hcl
          have Htp2 := Lib.hid htp2
          clear htp2
          have Hrf2 := Lib.hid hrf2
          clear hrf2
          have HF2 := Lib.hid hF2
          clear hF2
          have HR2 := Lib.hid hR2
          clear hR2
          have Hd2 := Lib.hid hd2
          clear hd2
          have X2 := Lib.hid x2
          clear x2
          have Hrow := Lib.hid hrow
          clear hrow
          have Hln := Lib.hid hln
          clear hln
          have Hli := Lib.hid hli
          clear hli
          have Hsh := Lib.hid hsh
          clear hsh
          go_wp2_with (fail)
          (with_reducible refine (Hln.out _ (Touch.refl _ _)).mono ?_)
          rintro e w9 ⟨rfl, rfl⟩
          go_wp2_with (fail)
          (with_reducible refine (Hli.out _ (Touch.refl _ _)).mono ?_)
          rintro e w9 ⟨rfl, rfl⟩
          go_wp2_with (fail)
          all_goals try (exfalso; have := Hs2.out; omega)
          all_goals
            (with_reducible refine (Hsh.out _ (Touch.refl _ _)).mono ?_)
            rintro e w10 ⟨⟨v1, rfl, hrc, hnil⟩, t10⟩
            obtain ⟨sa, sc, rfl, s1, s2, _⟩ := hrc.shape
            unfold maxLen at s2
            rw [Hcl.out] at s1 ⊢
            have Hrc := Lib.hid hrc
            clear hrc
            have Hnil := Lib.hid hnil
            clear hnil
            go_wp2_with (fail)
            (with_reducible refine (Hli.out _ t10).mono ?_)
            rintro e w11 ⟨rfl, rfl⟩
            go_wp2_with (fail)
            (with_reducible refine (Hli.out _ t10).mono ?_)
            rintro e w11 ⟨rfl, rfl⟩
            go_wp2_with (fail)
            first
              | ((with_reducible refine (Hli.out _ t10).mono ?_)
                 rintro e w11 ⟨rfl, rfl⟩
                 have k1 : IntKind.i64.wrap (m - (szK M2 : Int)) = m - (szK M2 : Int) := by rw [IntKind.wrap_i64]; omega
                 go_wp2_with (fail)
                 all_goals try (exfalso; omega))
              | skip
            all_goals
              go_roundw
              case rel => exact ⟨j + 1, M2, F2, R2, by omega, by go_num, hl2, Htp2.out.ext t10, Hrf2.out.ext t10, HF2.out, HR2.out, Hd2.out, X2.out.trans' t10⟩
              case measure => simp [intOf]; omega
      · have hh : hasK M p.1 = false := by cases h : hasK M p.1 with | true => exact absurd (Or.inl h) hfull | false => rfl
        have hroom : m < (szK (putK M p.1 p.2) : Int) := by have : ¬ (szK (putK M p.1 p.2) : Int) ≤ m := fun h => hfull (Or.inr h); omega
        have hz1 : m - (szK M : Int) < 2 := by have h1 := Hlp.out; rw [hh] at h1; simp at h1; unfold szK at hroom ⊢; omega
        have hput := put_full wr.drew t (.slice ka p.1.length kc) M m p.1 p.2 (Htp.out.ext (Touch.refl _ _).drew) (by omega) Hku.out Hpp.out.1 (by have := Hp20.out; omega) hh hroom
        have Hput := Lib.hid hput
        clear hput
        have Hz1 := Lib.hid hz1
        clear hz1
        clear hfull hroom hh
        go_wp2_with (fail)
        refine wp_region_plan (.take 0 (.take 1 (.take 2 (.take 3 (.take 4 (.take 5 (.take 6 (.take 7 (.take 8 (.take 9 (.take 10 (.must 11 (.take 12 (.take 13 (.take 14 (.take 15 (.take 16 (.take 17 (.take 18 .done))))))))))))))))))) (fun wy => wy.cell? ⟨b, off + j * 2, none⟩ = some (.slice ka p.1.length kc) ∧ wy.cell? ⟨b, off + j * 2 + 1, none⟩ = some (.int .u64 p.2)) (by kernel_rfl) (by kernel_rfl) (by kernel_rfl) rfl ?_ (fun KK hKK => ?_)
        · exact ⟨d0, d1⟩
        repeat (first
          | (refine wpPlan_take (v := ?_) rfl (by rfl) (fun W hW => ?_) ?_; rotate_left; (focus ((try dsimp only at hW); go_split_ands; go_simp; (try with_reducible rfl); done)); (try simp only [Act.put, List.setIfInBounds_toArray, List.set_cons_zero, List.set_cons_succ]))
          | (refine wpPlan_skip rfl (by rfl) ?_; (try simp only [Act.put, List.setIfInBounds_toArray, List.set_cons_zero, List.set_cons_succ])))
        refine wpPlan_must rfl (by rfl) (fun K hK => ?_)
        go_simp
        (with_reducible refine Hput.out.mono ?_)
        rintro e w3 ⟨rfl, hx3⟩
        have hx3' := (show Ext wr wr.drew from (Touch.refl _ _).drew).trans' hx3
        have d01 := And.intro (keepc hx3 id d0) (keepc hx3 id d1)
        clear d0 d1
        have htp1 := Htp.out.ext hx3'
        have hrf1 := Hrf.out.ext hx3'
        have x1 := Ht.out.trans' hx3'
        have hl1 : M.length ≤ j + 1 := by omega
        have hF1 := HF.out
        have hR1 := HR.out
        have hd1 := Hd.out
        have Htp1 := Lib.hid htp1
        clear htp1
        have Hrf1 := Lib.hid hrf1
        clear hrf1
        have HF1 := Lib.hid hF1
        clear hF1
        have HR1 := Lib.hid hR1
        clear hR1
        have Hd1 := Lib.hid hd1
        clear hd1
        have X1 := Lib.hid x1
        clear x1
        refine hK.out _ _ ?_ ?_
        · exact d01
        clear hK K
        (try simp only [Act.put, List.setIfInBounds_toArray, List.set_cons_zero, List.set_cons_succ])
        repeat (first
          | (refine wpPlan_take (v := ?_) rfl (by rfl) (fun W hW => ?_) ?_; rotate_left; (focus ((try dsimp only at hW); go_split_ands; go_simp; (try with_reducible rfl); done)); (try simp only [Act.put, List.setIfInBounds_toArray, List.set_cons_zero, List.set_cons_succ]))
          | (refine wpPlan_skip rfl (by rfl) ?_; (try simp only [Act.put, List.setIfInBounds_toArray, List.set_cons_zero, List.set_cons_succ])))
        refine wpPlan_done (hKK.out _ _ ?_)
        clear hKK KK
        have htp1 := Htp1.out
        have hrf1 := Hrf1.out
        have hF1 := HF1.out
        have hR1 := HR1.out
        have hd1 := Hd1.out
        have x1 := X1.out
        have hz1 := Hz1.out
        obtain ⟨M1, e9⟩ : ∃ M1, M1 = M := ⟨_, rfl⟩
        subst e9
        obtain ⟨wc, e9⟩ : ∃ wc, wc = w3 := ⟨_, rfl⟩
        subst e9
        obtain ⟨F1, e9⟩ : ∃ F1, F1 = F' := ⟨_, rfl⟩
        subst e9
        obtain ⟨R1, e9⟩ : ∃ R1, R1 = R' := ⟨_, rfl⟩
        subst e9
        clear Htp1 Hrf1 HF1 HR1 Hd1 X1 Hz1 hx3 hx3' Hput Htp Hrf HF HR Hd Hlp
        cases hdb : (Go.bits BinOp.and IntKind.i64 (bits / 2 ^ (j % 60)) 1 == 1) with
        | false =>
          obtain ⟨M2, e2⟩ : ∃ M2, M2 = M1 := ⟨_, rfl⟩
          obtain ⟨wd, e3⟩ : ∃ wd, wd = wc := ⟨_, rfl⟩
          subst e2
          subst e3
          obtain ⟨F2, e2⟩ : ∃ F2, F2 = F1 := ⟨_, rfl⟩
          obtain ⟨R2, e3⟩ : ∃ R2, R2 = R1 := ⟨_, rfl⟩
          subst e2
          subst e3
          have htp2 := htp1
          have hrf2 := hrf1
          have hF2 := hF1
          have hR2 := hR1
          have hd2 := hd1
          have x2 := x1
          have hl2 := hl1
          clear htp1 hrf1 hF1 hR1 hd1 x1 hl1
          have hs2 : szK M2 = 2 * M2.length - 1 := rfl
          have hfit := htp2.fits
          have hcl := crit_length _ M2 (Nat.le_refl _) htp2.rises htp2.kb
          rw [← hs2] at hcl
          obtain ⟨va, q0, hrow⟩ := hrf2.row
          obtain ⟨ra, rc, rfl, _⟩ := hrow.shape
          have hln := fun W (x : Ext wd W) => TreeA.len_any W _ M2 (htp2.ext x).tq
          have hli := fun W (x : Ext wd W) => live_tp W t M2 m (htp2.ext x)
          have hsh := fun W (x : Ext wd W) => CritS.shape_any W t M2 m (htp2.ext x)
          have j6 : IntKind.i64.wrap (2 * (M2.length : Int)) = 2 * (M2.length : Int) := by rw [IntKind.wrap_i64]; omega
          have j7 : IntKind.i64.wrap (2 * (M2.length : Int) - 1) = 2 * (M2.length : Int) - 1 := by rw [IntKind.wrap_i64]; omega
          have j8 : ¬ (m < (szK M2 : Int)) := by omega
          have j9 : decide (m < (szK M2 : Int)) = false := by simp; omega
          have Hs2 := Lib.hid hs2
          clear hs2
          have Hfit := Lib.hid hfit
          clear hfit
          have Hcl := Lib.hid hcl
          clear hcl
          have Htp2 := Lib.hid htp2
          clear htp2
          have Hrf2 := Lib.hid hrf2
          clear hrf2
          have HF2 := Lib.hid hF2
          clear hF2
          have HR2 := Lib.hid hR2
          clear hR2
          have Hd2 := Lib.hid hd2
          clear hd2
          have X2 := Lib.hid x2
          clear x2
          have Hrow := Lib.hid hrow
          clear hrow
          have Hln := Lib.hid hln
          clear hln
          have Hli := Lib.hid hli
          clear hli
          have Hsh := Lib.hid hsh
          clear hsh
          go_wp2_with (fail)
          (with_reducible refine (Hln.out _ (Touch.refl _ _)).mono ?_)
          rintro e w9 ⟨rfl, rfl⟩
          go_wp2_with (fail)
          (with_reducible refine (Hli.out _ (Touch.refl _ _)).mono ?_)
          rintro e w9 ⟨rfl, rfl⟩
          go_wp2_with (fail)
          all_goals try (exfalso; have := Hs2.out; omega)
          all_goals
            (with_reducible refine (Hsh.out _ (Touch.refl _ _)).mono ?_)
            rintro e w10 ⟨⟨v1, rfl, hrc, hnil⟩, t10⟩
            obtain ⟨sa, sc, rfl, s1, s2, _⟩ := hrc.shape
            unfold maxLen at s2
            rw [Hcl.out] at s1 ⊢
            have Hrc := Lib.hid hrc
            clear hrc
            have Hnil := Lib.hid hnil
            clear hnil
            go_wp2_with (fail)
            (with_reducible refine (Hli.out _ t10).mono ?_)
            rintro e w11 ⟨rfl, rfl⟩
            go_wp2_with (fail)
            (with_reducible refine (Hli.out _ t10).mono ?_)
            rintro e w11 ⟨rfl, rfl⟩
            go_wp2_with (fail)
            first
              | ((with_reducible refine (Hli.out _ t10).mono ?_)
                 rintro e w11 ⟨rfl, rfl⟩
                 have k1 : IntKind.i64.wrap (m - (szK M2 : Int)) = m - (szK M2 : Int) := by rw [IntKind.wrap_i64]; omega
                 go_wp2_with (fail)
                 all_goals try (exfalso; omega))
              | skip
            all_goals
              go_roundw
              case rel => exact ⟨j + 1, M2, F2, R2, by omega, by go_num, hl2, Htp2.out.ext t10, Hrf2.out.ext t10, HF2.out, HR2.out, Hd2.out, X2.out.trans' t10⟩
              case measure => simp [intOf]; omega
        | true =>
          have hx1 : Go.bits BinOp.and IntKind.i64 (bits / 2 ^ (j % 60)) 1 = 1 := by simpa using hdb
          clear hdb
          obtain ⟨hv, f0, _, hhv⟩ := (H0.out.ext x1).get _ _ Hgh.out
          obtain ⟨ha, hc, rfl, _⟩ := hhv.shape
          have hqk : q.1.length ≤ 20 := HL.out _ (List.mem_of_getElem? Hgh.out)
          have hF1r : ¬ F1 r := fun h => hd1 r h hrf1.self
          have hsz1 := x1.size
          have hdr := TreeB.drop_any wc t (.slice ha q.1.length hc) M1 m q.1 htp1 (hhv.mono (G := fun b => b ≠ t) (fun x hx h => by have h1 : x < w.heap.size := hx; omega)) Hqq.out.1 (by omega)
          unfold TDrop at hdr
          have Hdr := Lib.hid hdr
          clear hdr
          have Hhv := Lib.hid hhv
          clear hhv
          have Htp1 := Lib.hid htp1
          clear htp1
          have Hrf1 := Lib.hid hrf1
          clear hrf1
          have HF1 := Lib.hid hF1
          clear hF1
          have HR1 := Lib.hid hR1
          clear hR1
          have Hd1 := Lib.hid hd1
          clear hd1
          have X1 := Lib.hid x1
          clear x1
          have Hz1 := Lib.hid hz1
          clear hz1
          have HF1r := Lib.hid hF1r
          clear hF1r
          go_wp2_with (fail)
          (with_reducible refine Hdr.out.mono ?_)
          rintro e w5 ⟨rfl, F2, htp5, hu5, hsub5⟩
          have hrd := RefJ.drop_any w5 r (.slice ha q.1.length hc) M1 q.1 (Hrf1.out.keep hu5 (fun b hb h => Hd1.out b h hb)) (Hhv.out.keep hu5 (fun b hb h => by have h1 : b < w.heap.size := hb; have := HF1.out b h; omega)) Hqq.out.1 (by omega)
          unfold RefJ.RDrop at hrd
          have f0 := keepc hu5 (fun h => by have := HF1.out b h; omega) f0
          have Hrd := Lib.hid hrd
          clear hrd
          have Htp5 := Lib.hid htp5
          clear htp5
          have Hsub5 := Lib.hid hsub5
          clear hsub5
          go_wp2_with (fail)
          (with_reducible refine Hrd.out.mono ?_)
          rintro e w6 ⟨rfl, R2, hrf2, hu6, hsub6⟩
          have hs5 := hu5.size
          have htp2 := Htp5.out.keep hu6 (fun b hb h => by
            have h6 : b = r := h
            rcases Hsub5.out b hb with h3 | h3
            · exact HF1r.out (by rw [← h6]; exact h3)
            · have := Hrf1.out.lt _ Hrf1.out.self
              omega)
          have hF2 : ∀ b, F2 b → w.heap.size ≤ b := fun b hb => (Hsub5.out b hb).elim (HF1.out b) (fun h => by omega)
          have hR2 : ∀ b, R2 b → w.heap.size ≤ b := fun b hb => (hsub6 b hb).elim (HR1.out b) (fun h => by omega)
          have hd2 : ∀ b, F2 b → ¬ R2 b := fun b hb h => by
            have h1 := Htp5.out.lt b hb
            rcases hsub6 b h with h2 | h2
            · rcases Hsub5.out b hb with h3 | h3
              · exact Hd1.out b h3 h2
              · have := Hrf1.out.lt b h2
                omega
            · omega
          have x2 : Ext w w6 := (X1.out.ext_new hu5 (fun i hi => HF1.out i hi)).ext_new hu6 (fun i hi => by subst hi; exact hrw)
          have hl2 : (dropK M1 q.1).length ≤ j + 1 := by rw [dropK_length]; omega
          clear hu5 hu6 hsub6 Hsub5 Htp5 Hrd Hdr Htp1 Hrf1 HF1 HR1 Hd1 X1 hl1 Hhv f0
          generalize dropK M1 q.1 = M2 at *
          obtain ⟨wd, e3⟩ : ∃ wd, wd = w6 := ⟨_, rfl⟩
          subst e3
          have hs2 : szK M2 = 2 * M2.length - 1 := rfl
          have hfit := htp2.fits
          have hcl := crit_length _ M2 (Nat.le_refl _) htp2.rises htp2.kb
          rw [← hs2] at hcl
          obtain ⟨va, q0, hrow⟩ := hrf2.row
          obtain ⟨ra, rc, rfl, _⟩ := hrow.shape
          have hln := fun W (x : Ext wd W) => TreeA.len_any W _ M2 (htp2.ext x).tq
          have hli := fun W (x : Ext wd W) => live_tp W t M2 m (htp2.ext x)
          have hsh := fun W (x : Ext wd W) => CritS.shape_any W t M2 m (htp2.ext x)
          have j6 : IntKind.i64.wrap (2 * (M2.length : Int)) = 2 * (M2.length : Int) := by rw [IntKind.wrap_i64]; omega
          have j7 : IntKind.i64.wrap (2 * (M2.length : Int) - 1) = 2 * (M2.length : Int) - 1 := by rw [IntKind.wrap_i64]; omega
          have j8 : ¬ (m < (szK M2 : Int)) := by omega
          have j9 : decide (m < (szK M2 : Int)) = false := by simp; omega
          have Hs2 := Lib.hid hs2
          clear hs2
          have Hfit := Lib.hid hfit
          clear hfit
          have Hcl := Lib.hid hcl
          clear hcl
          have Htp2 := Lib.hid htp2
          clear htp2
          have Hrf2 := Lib.hid hrf2
          clear hrf2
          have HF2 := Lib.hid hF2
          clear hF2
          have HR2 := Lib.hid hR2
          clear hR2
          have Hd2 := Lib.hid hd2
          clear hd2
          have X2 := Lib.hid x2
          clear x2
          have Hrow := Lib.hid hrow
          clear hrow
          have Hln := Lib.hid hln
          clear hln
          have Hli := Lib.hid hli
          clear hli
          have Hsh := Lib.hid hsh
          clear hsh
          go_wp2_with (fail)
          (with_reducible refine (Hln.out _ (Touch.refl _ _)).mono ?_)
          rintro e w9 ⟨rfl, rfl⟩
          go_wp2_with (fail)
          (with_reducible refine (Hli.out _ (Touch.refl _ _)).mono ?_)
          rintro e w9 ⟨rfl, rfl⟩
          go_wp2_with (fail)
          all_goals try (exfalso; have := Hs2.out; omega)
          all_goals
            (with_reducible refine (Hsh.out _ (Touch.refl _ _)).mono ?_)
            rintro e w10 ⟨⟨v1, rfl, hrc, hnil⟩, t10⟩
            obtain ⟨sa, sc, rfl, s1, s2, _⟩ := hrc.shape
            unfold maxLen at s2
            rw [Hcl.out] at s1 ⊢
            have Hrc := Lib.hid hrc
            clear hrc
            have Hnil := Lib.hid hnil
            clear hnil
            go_wp2_with (fail)
            (with_reducible refine (Hli.out _ t10).mono ?_)
            rintro e w11 ⟨rfl, rfl⟩
            go_wp2_with (fail)
            (with_reducible refine (Hli.out _ t10).mono ?_)
            rintro e w11 ⟨rfl, rfl⟩
            go_wp2_with (fail)
            first
              | ((with_reducible refine (Hli.out _ t10).mono ?_)
                 rintro e w11 ⟨rfl, rfl⟩
                 have k1 : IntKind.i64.wrap (m - (szK M2 : Int)) = m - (szK M2 : Int) := by rw [IntKind.wrap_i64]; omega
                 go_wp2_with (fail)
                 all_goals try (exfalso; omega))
              | skip
            all_goals
              go_roundw
              case rel => exact ⟨j + 1, M2, F2, R2, by omega, by go_num, hl2, Htp2.out.ext t10, Hrf2.out.ext t10, HF2.out, HR2.out, Hd2.out, X2.out.trans' t10⟩
              case measure => simp [intOf]; omega
    · obtain rfl : j = ps.length := by omega
      have i1 : ¬ ((ps.length : Nat) : Int) < (ps.length : Int) := by omega
      have Ht := Lib.hid ht
      clear ht
      have Htp := Lib.hid htp
      clear htp
      have Hrf := Lib.hid hrf
      clear hrf
      have HF := Lib.hid hF
      clear hF
      have HR := Lib.hid hR
      clear hR
      have Hd := Lib.hid hd
      clear hd
      go_wp2_with (fail)
      refine (TreeW.awake_any _).mono ?_
      rintro e w7 ⟨rfl, t7⟩
      go_wp2_with (fail)
      go_ret
      exact ⟨rfl, Ht.out.trans' t7⟩

set_option maxRecDepth 100000 in
set_option maxHeartbeats 400000 in
theorem walk_great (v0 : Value) (bits most : Int) (ps : Prs) (F : Nat → Prop) (w : World) (h0 : RP w F v0 ps) (hg : SameP.great ps 40 20 = true) :
    Calls Try.prog 7 #[v0, .int .i64 bits, .int .i64 most] w fun e w' => e = .returned (.bool true) ∧ Ext w w' := by
  obtain ⟨a0, c0, rfl, l1, l2⟩ := h0.shape
  unfold maxLen at l2
  have hgr := SameP.great_any w F _ ps 40 20 h0 (by decide) (by decide) (by decide) (by decide)
  rw [hg] at hgr
  have Hgr := Lib.hid hgr
  clear hgr
  have Hg := Lib.hid hg
  clear hg
  go_enter Try.func7, Try.ntmps7
  go_wp2_with (fail)
  refine Hgr.out.mono ?_
  rintro e w' ⟨rfl, rfl⟩
  go_wp2_with (fail)
  refine (TreeW.awake_any _).mono ?_
  rintro e w' ⟨rfl, ht⟩
  go_wp2_with (fail)
  go_ret
  exact ⟨rfl, ht⟩

set_option maxRecDepth 100000 in
theorem lifted (os : Os) (started : os.Started) (H : Type) (enc : TypeId × Value → H) :
    ReturnsInHanded {} Try.checked os 7 .any (Rows.critCellsSpec.pre6 enc Try.prog Try.f7 Rows.critCellsRow.domain false) (Rows.critCellsSpec.post enc Try.prog Try.f7 false true false false) := by
  refine returnsInHanded_of_change (C := Try.checked) Try.own started (by kernel_rfl) Try.func7
    (ChangeSpec.witness6 (enc := enc) (C := Try.checked) false ⟨#[], #[.slice none 0 0, .int .i64 0, .int .i64 0], []⟩ 8 (by kernel_rfl) (by kernel_rfl) (by kernel_rfl) (by kernel_rfl)) ?_
  intro W base args ds gs before hval0 hW hcnd _
  have hval : ∀ (j : Nat) t v, Try.f7.params[j]? = some t → args[j]? = some v → Value.okWide Try.prog W .any base t v := hval0
  have hW' := hW
  obtain ⟨p, q, hA0, hV, rfl, hfz, hnd⟩ := hW
  have hA : DataW.TrodAll enc Try.prog W 0 (fun _ => true) true Try.f7.params.toList args.toList ds p := hA0
  rw [Try.params7] at hA hval
  obtain ⟨v0, v1, v2, d0, d1, d2, p0, p1, p2, rfl, rfl, rfl, h0, h1, h2⟩ := trodAll_three hA
  obtain ⟨rfl, rfl⟩ := trodVars_none hV
  refine Calls.mono (R := fun e w' => e = .returned (.bool true) ∧ Touch (fun _ => False) W w') ?_ fun e W' ⟨he, hw⟩ => (by subst he; exact ⟨_, rfl, law_post Try.laidOut (by kernel_rfl) rfl Try.underlying4 rfl rfl ⟨rfl, rfl, rfl⟩ hW' (hw.below fun _ h _ => h)⟩)
  obtain ⟨ps, hps, hpp⟩ := rp_of_arg (hval 0 22 v0 rfl rfl) h0
  obtain ⟨n1, rfl, rfl, rfl, hV1⟩ := open_int Try.underlying3 (hval 1 3 v1 rfl rfl) h1
  obtain ⟨n2, rfl, rfl, rfl, hV2⟩ := open_int Try.underlying3 (hval 2 3 v2 rfl rfl) h2
  by_cases hg : SameP.great ps 40 20 = true
  · exact walk_great v0 n1 n2 ps _ W hps hg
  · have hg : SameP.great ps 40 20 = false := by simpa using hg
    have hgn := great_not (most := 40) (long := 20) hg
    exact walk_small v0 n1 n2 ps W hps (fun p hp => ⟨(hpp p hp).1, by have := hgn.2 p hp; omega⟩) hg hgn.1 hgn.2 (v64_wf hV1) (v64_wf hV2)
theorem critCells_holds : Rows.CritCellsSaid :=
  OpenClaim.holds_of_wide 7 Try.f7 rfl rfl rfl rfl rfl rfl rfl ⟨rfl, rfl, rfl, rfl, rfl⟩ rfl rfl rfl rfl rfl (by kernel_rfl) Try.func7 (by kernel_rfl)
    (of_decide_eq_true (by kernel_rfl)) (by unfold Func.isWrapper; first | (rw [if_pos (by decide +kernel)]; kernel_rfl) | (rw [if_neg (by decide +kernel)]; exact ⟨rfl, rfl⟩))
    (fun os started H enc _ => lifted os started H enc)
end LawCritCells
end Go.Proofs.Ytmdgmkmddkaadaa
