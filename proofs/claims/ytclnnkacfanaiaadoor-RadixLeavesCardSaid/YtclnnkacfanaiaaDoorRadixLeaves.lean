/- The statement RadixLeaves: as many cells are leaves, or full, as there are keys; each leaf's key is one of them, whole; each node's keys begin with what it shows. Conditions: none beyond the card's own; the table is tied to the program's text. -/
import Derived.Test.YtclnnkacfanaiaaDoorTreeP
import Derived.Test.YtclnnkacfanaiaaDoorRadV
import Derived.Test.YtclnnkacfanaiaaDoorRadL
import Derived.Test.YtclnnkacfanaiaaDoorRefX
import Derived.Test.YtclnnkacfanaiaaDoorArg
import Derived.Test.YtclnnkacfanaiaaDoorRows
import Derived.Test.YtclnnkacfanaiaaDoorKidL
import Derived.Test.YtclnnkacfanaiaaDoorCards
import Derived.Test.YtclnnkacfanaiaaDoorTie
namespace Go.Proofs.YtclnnkacfanaiaaDoor
open Go.ChangeShapes Go.WideShapes Go.ChangeAt Go.RowKit Go.Deep
set_option linter.unusedVariables false
set_option linter.unusedSimpArgs false
namespace LawRadixLeaves
open TreeB TreeP RadL RadV
open ModS (great_not)

abbrev In (w : World) : Nat → Prop := fun b => b < w.heap.size
theorem rk_fine {M : Prs} {cs : Cls} (h : RK M cs) (hL : ∀ p ∈ M, p.1.length ≤ 20) : (∀ c ∈ cs, Tells M c ∧ KB c.key ∧ c.key.length ≤ 20) ∧ cs.countP isLF = M.length := by
  obtain ⟨T, h1, rfl, rfl⟩ := h
  exact ⟨fun c hc => ⟨ck_tells h1 c hc, (ck_pre h1 c hc).2, ck_len h1 hL c hc⟩, ck_many T⟩
theorem one_lf (c : Cl) : [c].countP isLF = if isLF c then 1 else 0 := by cases h : isLF c <;> simp [h]

set_option maxRecDepth 100000 in
set_option maxHeartbeats 8000000 in
theorem walk_small (v0 : Value) (ps : Prs) (w : World) (htr : KidA.Tr w) (h0 : RP w (In w) v0 ps) (hpk : PK ps) (hg : SameP.great ps 30 20 = false) (hm : ps.length ≤ 30) (hL : ∀ p ∈ ps, p.1.length ≤ 20) :
    Calls Tryd.prog 5 #[v0] w fun e w' => e = .returned (.bool true) ∧ Ext w w' := by
  have hrn := fun W (x : Ext w W) => RefJ.new_any W v0 ps (h0.ext x) (by omega) hpk
  unfold RefJ.RNew at hrn
  obtain ⟨a0, c0, rfl, l1, l2, _⟩ := h0.shape
  unfold maxLen at l2
  have hgr := SameP.great_any w _ _ ps 30 20 h0 (by decide) (by decide) (by decide) (by decide)
  have hnew := new_yes w htr 1000 (by decide) (by decide)
  unfold TNew at hnew
  rw [hg] at hgr
  have hroom := fun j => sz_mk (m := 1000) hm hL (by decide) j
  have hstep := fun j p (h : ps[j]? = some p) => mkK_take ps j p h
  have hml : (mkK ps).length ≤ 1000000 := Nat.le_trans (mkK_length _) (by omega)
  have hr := mkK_rises ps
  have Htr := Lib.hid htr
  clear htr
  have Hgr := Lib.hid hgr
  clear hgr
  have Hnew := Lib.hid hnew
  clear hnew
  have H0 := Lib.hid h0
  clear h0
  have Hpk := Lib.hid hpk
  clear hpk
  have Hroom := Lib.hid hroom
  clear hroom
  have Hstep := Lib.hid hstep
  clear hstep
  have HL := Lib.hid hL
  clear hL
  have Hr := Lib.hid hr
  clear hr
  have Hrn := Lib.hid hrn
  clear hrn
  clear hg
  go_enter Tryd.func5, Tryd.ntmps5
  go_wp2_with (fail)
  refine Hgr.out.mono ?_
  rintro e w' ⟨rfl, rfl⟩
  go_wp2_with (fail)
  (with_reducible refine Hnew.out.mono ?_)
  rintro e w1 ⟨t, F, rfl, htp, hF, t1⟩
  have hrn := Hrn.out w1 t1
  have Htp := Lib.hid htp
  clear htp
  have HF := Lib.hid hF
  clear hF
  have T1 := Lib.hid t1
  clear t1
  have Hrn := Lib.hid hrn
  clear hrn
  go_wp2_with (fail)
  (with_reducible refine Hrn.out.mono ?_)
  rintro e w2 ⟨r, R, rfl, hrf, hR, t2⟩
  have htp := Htp.out.ext t2
  have x2 := T1.out.trans' t2
  have hF := HF.out
  have hdr : ∀ b, F b → ¬ R b := fun b hb h => by have h1 := Htp.out.lt b hb; have h2 := hR b h; omega
  have hRw : ∀ b, R b → w.heap.size ≤ b := fun b hb => Nat.le_trans T1.out.size (hR b hb)
  clear Htp T1 HF hR
  have Htp := Lib.hid htp
  clear htp
  have X2 := Lib.hid x2
  clear x2
  have HF := Lib.hid hF
  clear hF
  have Hdr := Lib.hid hdr
  clear hdr
  have Hrf := Lib.hid hrf
  clear hrf
  have HRw := Lib.hid hRw
  clear hRw
  have T2 := Lib.hid t2
  clear t2
  go_wp2_with (fail)
  go_loopw [5] (fun s5 wr => ∃ (j : Nat) (F : Nat → Prop), j ≤ ps.length ∧ s5 = .int .i64 j ∧ Tp wr t F (mkK (ps.take j)) 1000 ∧ Rf wr r R (mkK ps) ∧ (∀ b, F b → w.heap.size ≤ b) ∧ (∀ b, F b → ¬ R b) ∧ Ext w wr) (fun s5 _ => ps.length - (intOf s5).toNat)
  case atStart => exact ⟨0, F, by omega, rfl, Htp.out, Hrf.out, HF.out, Hdr.out, X2.out⟩
  case round =>
    obtain ⟨j, F', hj, rfl, htp, hrf, hF, hdr, ht⟩ := hrel
    clear Htp HF X2 Hdr Hrf
    by_cases hjk : j < ps.length
    · obtain ⟨b, off, rfl, hb⟩ := H0.out.addr (by omega)
      have hgj := List.getElem?_eq_getElem hjk
      obtain ⟨kv, d0, d1', hkv⟩ := (H0.out.ext ht).get _ _ hgj
      have hpp := Hpk.out _ (List.mem_of_getElem? hgj)
      have hst := Hstep.out j _ hgj
      generalize ps[j] = p at *
      obtain ⟨ka, kc, rfl, _⟩ := hkv.shape
      have i1 : (j : Int) < (ps.length : Int) := by omega
      have i2 : (0 : Int) ≤ (j : Int) := by omega
      have hbF : ¬ F' b := fun h => by have h1 : b < w.heap.size := hb; have := hF b h; omega
      have hput := put_any wr.drew t (.slice ka p.1.length kc) (mkK (ps.take j)) 1000 p.1 p.2 (htp.ext (Touch.refl _ _).drew) (by have := mkK_length (ps.take j); simp at this; omega) ((hkv.ext (Touch.refl _ _).drew).mono (fun b hb => aw htp (fun h => by have h1 : b < w.heap.size := hb; have := hF b h; omega))) hpp.1 hpp.2 (Or.inr (by rw [← hst]; exact Hroom.out (j + 1)))
      unfold TPut at hput
      rw [← hst] at hput
      have Hput := Lib.hid hput
      clear hput
      have Hst := Lib.hid hst
      clear hst
      have Hkv := Lib.hid hkv
      clear hkv
      have HF := Lib.hid hF
      clear hF
      have Ht := Lib.hid ht
      clear ht
      have Htp := Lib.hid htp
      clear htp
      have HbF := Lib.hid hbF
      clear hbF
      have Hrf := Lib.hid hrf
      clear hrf
      have Hdr := Lib.hid hdr
      clear hdr
      have Hgj := Lib.hid hgj
      clear hgj
      go_wp2_with (fail)
      refine wp_region_plan (.take 0 (.take 1 (.take 2 (.take 3 (.take 4 (.take 5 (.take 6 (.take 7 (.take 8 (.take 9 (.take 10 (.must 11 .done)))))))))))) (fun wy => wy.cell? ⟨b, off + j * 2, none⟩ = some (.slice ka p.1.length kc) ∧ wy.cell? ⟨b, off + j * 2 + 1, none⟩ = some (.int .u64 p.2)) (by kernel_rfl) (by kernel_rfl) (by kernel_rfl) rfl ?_ (fun KK hKK => ?_)
      · exact ⟨d0, d1'⟩
      repeat (first
        | (refine wpPlan_take (v := ?_) rfl (by rfl) (fun W hW => ?_) ?_; rotate_left; (focus ((try dsimp only at hW); go_split_ands; go_simp; (try with_reducible rfl); done)); (try simp only [Act.put, List.setIfInBounds_toArray, List.set_cons_zero, List.set_cons_succ]))
        | (refine wpPlan_skip rfl (by rfl) ?_; (try simp only [Act.put, List.setIfInBounds_toArray, List.set_cons_zero, List.set_cons_succ])))
      refine wpPlan_must rfl (by rfl) (fun K hK => ?_)
      go_simp
      (with_reducible refine Hput.out.mono ?_)
      rintro e w3 ⟨rfl, F2, htp2, hu, hsub⟩
      have Htp2 := Lib.hid htp2
      clear htp2
      have Hsub := Lib.hid hsub
      clear hsub
      refine hK.out _ _ ?_ ?_
      · exact ⟨keepc hu HbF.out d0, keepc hu HbF.out d1'⟩
      clear hK K
      (try simp only [Act.put, List.setIfInBounds_toArray, List.set_cons_zero, List.set_cons_succ])
      refine wpPlan_done (hKK.out _ _ ?_)
      clear hKK KK
      have y0 := keepc hu HbF.out d0
      go_wp2_with (fail)
      go_roundw
      case rel =>
        refine ⟨j + 1, F2, by omega, by go_num, Htp2.out, ?_, fun b hb => (Hsub.out b hb).elim (HF.out b) (fun h => Nat.le_trans Ht.out.size h), fun b hb h => ?_, (Ht.out.drew).ext_new hu (fun i hi => HF.out i hi)⟩
        · exact (Hrf.out.ext (Touch.refl _ _).drew).keep hu (fun b hb h => Hdr.out b h hb)
        · rcases Hsub.out b hb with h1 | h1
          · exact Hdr.out b h1 h
          · have h2 := Hrf.out.lt b h
            have h5 : wr.drew.heap.size = wr.heap.size := rfl
            omega
      case measure => simp [intOf]; omega
    · obtain rfl : j = ps.length := by omega
      have i1 : ¬ ((ps.length : Nat) : Int) < (ps.length : Int) := by omega
      rw [List.take_length] at htp
      have hmL : ∀ p ∈ mkK ps, p.1.length ≤ 20 := fun p hp => HL.out p (mkK_mem hp)
      have hml2 := mkK_length ps
      generalize hMe : mkK ps = M at *
      clear hMe
      have hfine := fun cs (h : RK M cs) => rk_fine h hmL
      have hsh := RadV.shape_any wr t F' M 1000 htp
      obtain ⟨va, q0, hrow⟩ := hrf.row
      obtain ⟨ra, rc, rfl, _⟩ := hrow.shape
      have hget := fun W (x : Ext wr W) (kw : Value) (k : List Int) (G : Nat → Prop) (hk : RB W G kw k) (kb : KB k) => RefA.get_any W r kw M k (hrf.ext x) hk kb (by omega)
      have Htp := Lib.hid htp
      clear htp
      have HF := Lib.hid hF
      clear hF
      have Ht := Lib.hid ht
      clear ht
      have HmL := Lib.hid hmL
      clear hmL
      have Hfine := Lib.hid hfine
      clear hfine
      have Hsh := Lib.hid hsh
      clear hsh
      have Hget := Lib.hid hget
      clear hget
      have Hrf := Lib.hid hrf
      clear hrf
      have Hdr := Lib.hid hdr
      clear hdr
      go_wp2_with (fail)
      (with_reducible refine Hsh.out.mono ?_)
      rintro e w1' ⟨⟨v1, cs, rfl, htk, hrc, _⟩, t1⟩
      obtain ⟨hfi, hsum⟩ := Hfine.out cs htk
      have hszl : cs.length ≤ 1000 := by
        have h1 := htk.length
        have h2 := Htp.out.fits
        omega
      obtain ⟨sa, sc, rfl, s1, s2, _⟩ := hrc.shape
      unfold maxLen at s2
      have q0 := keepc t1 id q0
      have hrow1 := hrow.ext t1
      have Hrc := Lib.hid hrc
      clear hrc
      have Htk := Lib.hid htk
      clear htk
      have T1 := Lib.hid t1
      clear t1
      have Hfi := Lib.hid hfi
      clear hfi
      have Hsum := Lib.hid hsum
      clear hsum
      have Hrow := Lib.hid hrow
      clear hrow
      have Hrow1 := Lib.hid hrow1
      clear hrow1
      go_wp2_with (fail)
      go_loopw [7, 8] (fun s7 s8 wx => ∃ j : Nat, j ≤ cs.length ∧ s8 = .int .i64 j ∧ s7 = .int .i64 ((cs.take j).countP isLF : Nat) ∧ Ext w1' wx) (fun _ s8 _ => cs.length - (intOf s8).toNat)
      case atStart => exact ⟨0, by omega, rfl, rfl, Touch.refl _ _⟩
      case round =>
        obtain ⟨j, hj, rfl, rfl, hx⟩ := hrel
        obtain ⟨wx, rfl⟩ : ∃ wx, wx = wr := ⟨_, rfl⟩
        have hcl : (cs.take j).countP isLF ≤ j := Nat.le_trans List.countP_le_length (by simp; omega)
        have q0x := keepc hx id q0
        by_cases hjk : j < cs.length
        · obtain ⟨b, off, rfl⟩ := Hrc.out.addr (by omega)
          have hgj := List.getElem?_eq_getElem hjk
          obtain ⟨kv, hkv, c0, c1, c2, c3, _, c5, c6, c7, _⟩ := (Hrc.out.ext hx).get j _ hgj
          obtain ⟨htl, hkb, hkl⟩ := Hfi.out _ (List.mem_of_getElem? hgj)
          have htk2 : cs.take (j + 1) = cs.take j ++ [cs[j]] := by rw [List.take_add_one, hgj]; rfl
          have hcF : (cs.take (j + 1)).countP isLF = (cs.take j).countP isLF + if isLF cs[j] then 1 else 0 := by rw [htk2, List.countP_append, one_lf]
          generalize cs[j] = c at *
          obtain ⟨kd, ca, cn, cc, cb, cf, cv, ck⟩ := c
          simp only at c0 c1 c2 c3 c5 c6 c7 hkv hkb hkl
          obtain ⟨ka, kc, rfl, _⟩ := hkv.shape
          generalize (cs.take j).countP isLF = m at *
          have j0 : (0 : Int) ≤ (j : Int) := by omega
          have j1 : (j : Int) < (cs.length : Int) := by omega
          have hgt := Hget.out _ (T1.out.trans' hx) _ _ _ hkv hkb
          cases hlf : isLF ⟨kd, ca, cn, cc, cb, cf, cv, ck⟩ with
          | true =>
            have hmem := htl.1 hlf
            obtain ⟨g1, g2⟩ := ModP.has_of Hr.out hmem
            simp only at g1 g2
            rw [g1, g2] at hgt
            rw [hlf, if_pos rfl] at hcF
            have hvv : (cv != cv) = false := by simp
            have hcc : kd = 5 ∨ (kd == 5) = false ∧ cf = true := by
              by_cases h : kd = 5
              · exact Or.inl h
              · exact Or.inr ⟨by simpa using h, by simpa [isLF, h] using hlf⟩
            clear hlf htl hmem g1 g2 htk2
            rcases hcc with rfl | ⟨hk5, rfl⟩
            · have Hgt := Lib.hid hgt
              clear hgt
              have HcF := Lib.hid hcF
              clear hcF
              have Hkv := Lib.hid hkv
              clear hkv
              have Hgj := Lib.hid hgj
              clear hgj
              have Hkb := Lib.hid hkb
              clear hkb
              go_wp2_with (fail)
              (with_reducible refine Hgt.out.mono ?_)
              rintro e w8 ⟨rfl, t8⟩
              have c0 := keepc t8 id c0
              have c5 := keepc t8 id c5
              have c6 := keepc t8 id c6
              go_wp2_with (fail)
              go_roundw
              case rel => exact ⟨j + 1, by omega, by go_num, by rw [HcF.out]; go_num, hx.trans' t8⟩
              case measure => simp [intOf]; omega
            · have Hgt := Lib.hid hgt
              clear hgt
              have HcF := Lib.hid hcF
              clear hcF
              have Hkv := Lib.hid hkv
              clear hkv
              have Hgj := Lib.hid hgj
              clear hgj
              have Hkb := Lib.hid hkb
              clear hkb
              go_wp2_with (fail)
              (with_reducible refine Hgt.out.mono ?_)
              rintro e w8 ⟨rfl, t8⟩
              have c0 := keepc t8 id c0
              have c5 := keepc t8 id c5
              have c6 := keepc t8 id c6
              go_wp2_with (fail)
              go_roundw
              case rel => exact ⟨j + 1, by omega, by go_num, by rw [HcF.out]; go_num, hx.trans' t8⟩
              case measure => simp [intOf]; omega
          | false =>
            obtain ⟨u1, u2, u3⟩ := htl.2 hlf
            simp only at u1 u2 u3
            rw [hlf] at hcF
            have hno : hasK M ck = false := by
              cases hh : hasK M ck with
              | false => rfl
              | true => exact absurd (ModP.of_has hh) (u1 _)
            rw [hno] at hgt
            have hk5 : (kd == 5) = false := by cases h : kd == 5 with | false => rfl | true => simp [isLF, h] at hlf
            obtain rfl : cf = false := by cases h : cf with | false => rfl | true => rw [h] at hlf; simp [isLF] at hlf
            have j5 : ¬ cc < 2 := by omega
            generalize valK M ck = ov at *
            clear hlf htl u1 hno htk2
            have Hgt := Lib.hid hgt
            clear hgt
            have HcF := Lib.hid hcF
            clear hcF
            have Hkv := Lib.hid hkv
            clear hkv
            have Hgj := Lib.hid hgj
            clear hgj
            have Hkb := Lib.hid hkb
            clear hkb
            have U2 := Lib.hid u2
            clear u2
            have U3 := Lib.hid u3
            clear u3
            go_wp2_with (fail)
            (with_reducible refine Hgt.out.mono ?_)
            rintro e w8 ⟨rfl, t8⟩
            have c0 := keepc t8 id c0
            have c5 := keepc t8 id c5
            have x8 := hx.trans' t8
            have X8 := Lib.hid x8
            clear x8
            go_wp2_with (fail)
            go_loopw [11, 12] (fun s11 s12 wy => ∃ n : Nat, n ≤ M.length ∧ s12 = .int .i64 n ∧ s11 = .int .i64 ((M.take n).countP (fun p => begK p.1 ck) : Nat) ∧ Ext w8 wy) (fun _ s12 _ => M.length - (intOf s12).toNat)
            case atStart => exact ⟨0, by omega, rfl, rfl, Touch.refl _ _⟩
            case round =>
              obtain ⟨n, hn, rfl, rfl, hy⟩ := hrel
              obtain ⟨wy, rfl⟩ : ∃ wy, wy = wr := ⟨_, rfl⟩
              have xy := X8.out.trans' hy
              have q0y := keepc xy id q0
              have hcb : (M.take n).countP (fun p => begK p.1 ck) ≤ n := Nat.le_trans List.countP_le_length (by simp; omega)
              by_cases hnk : n < M.length
              · obtain ⟨mb, mo, rfl, _⟩ := Hrow1.out.addr (by omega)
                have hgn := List.getElem?_eq_getElem hnk
                obtain ⟨mv, z0, z1, hmk⟩ := (Hrow1.out.ext xy).get _ _ hgn
                have hml20 := HmL.out _ (List.mem_of_getElem? hgn)
                have htk3 : M.take (n + 1) = M.take n ++ [M[n]] := by rw [List.take_add_one, hgn]; rfl
                have hcG : (M.take (n + 1)).countP (fun p => begK p.1 ck) = (M.take n).countP (fun p => begK p.1 ck) + if begK M[n].1 ck then 1 else 0 := by rw [htk3, List.countP_append, List.countP_cons, List.countP_nil]; simp
                generalize M[n] = p at *
                obtain ⟨ma, mc, rfl, _⟩ := hmk.shape
                have c7y := keepc (t8.trans' hy) id c7
                have hkv2 := Hkv.out.ext (t8.trans' hy)
                have hbg := RefC.rbegins_any wy.drew _ _ p.1 ck (hmk.ext (Touch.refl _ _).drew) (hkv2.ext (Touch.refl _ _).drew) (by omega) (by omega)
                have n0 : (0 : Int) ≤ (n : Int) := by omega
                have n1 : (n : Int) < (M.length : Int) := by omega
                generalize (M.take n).countP (fun p => begK p.1 ck) = nb at *
                clear htk3
                cases hbk : begK p.1 ck with
                | true =>
                  rw [hbk, if_pos rfl] at hcG
                  rw [hbk] at hbg
                  clear hbk
                  have HcG := Lib.hid hcG
                  clear hcG
                  have Hbg := Lib.hid hbg
                  clear hbg
                  have Hgn := Lib.hid hgn
                  clear hgn
                  have Hmk := Lib.hid hmk
                  clear hmk
                  have Hkv2 := Lib.hid hkv2
                  clear hkv2
                  go_wp2_with (fail)
                  refine wp_region_plan (.take 0 (.take 1 (.take 2 (.take 3 (.take 4 (.take 5 (.take 6 (.take 7 (.take 8 (.take 9 (.take 10 (.take 11 (.take 12 (.must 13 .done)))))))))))))) (fun W => W.cell? ⟨r, 0, none⟩ = some (.slice (some ⟨mb, mo, none⟩) M.length rc) ∧ W.cell? ⟨mb, mo + n * 2, none⟩ = some (.slice ma p.1.length mc) ∧ W.cell? ⟨b, off + j * 9 + 7, none⟩ = some (.slice ka ck.length kc)) (by kernel_rfl) (by kernel_rfl) (by kernel_rfl) rfl ?_ (fun KK hKK => ?_)
                  · exact ⟨q0y, z0, c7y⟩
                  repeat (first
                    | (refine wpPlan_take (v := ?_) rfl (by rfl) (fun W hW => ?_) ?_; rotate_left; (focus ((try dsimp only at hW); go_split_ands; go_simp; (try with_reducible rfl); done)); (try simp only [Act.put, List.setIfInBounds_toArray, List.set_cons_zero, List.set_cons_succ]))
                    | (refine wpPlan_skip rfl (by rfl) ?_; (try simp only [Act.put, List.setIfInBounds_toArray, List.set_cons_zero, List.set_cons_succ])))
                  refine wpPlan_must rfl (by rfl) (fun K hK => ?_)
                  go_simp
                  (with_reducible refine Hbg.out.mono ?_)
                  rintro e w9 ⟨rfl, t9⟩
                  have y9 : Ext wy w9 := (Touch.refl _ _).drew.trans' t9
                  refine hK.out _ _ ?_ ?_
                  · exact ⟨keepc y9 id q0y, keepc y9 id z0, keepc y9 id c7y⟩
                  clear hK K
                  (try simp only [Act.put, List.setIfInBounds_toArray, List.set_cons_zero, List.set_cons_succ])
                  refine wpPlan_done (hKK.out _ _ ?_)
                  clear hKK KK
                  go_wp2_with (fail)
                  go_roundw
                  case rel => exact ⟨n + 1, by omega, by go_num, by rw [HcG.out]; go_num, hy.trans' y9⟩
                  case measure => simp [intOf]; omega
                | false =>
                  rw [hbk] at hcG
                  rw [hbk] at hbg
                  clear hbk
                  have HcG := Lib.hid hcG
                  clear hcG
                  have Hbg := Lib.hid hbg
                  clear hbg
                  have Hgn := Lib.hid hgn
                  clear hgn
                  have Hmk := Lib.hid hmk
                  clear hmk
                  have Hkv2 := Lib.hid hkv2
                  clear hkv2
                  go_wp2_with (fail)
                  refine wp_region_plan (.take 0 (.take 1 (.take 2 (.take 3 (.take 4 (.take 5 (.take 6 (.take 7 (.take 8 (.take 9 (.take 10 (.take 11 (.take 12 (.must 13 .done)))))))))))))) (fun W => W.cell? ⟨r, 0, none⟩ = some (.slice (some ⟨mb, mo, none⟩) M.length rc) ∧ W.cell? ⟨mb, mo + n * 2, none⟩ = some (.slice ma p.1.length mc) ∧ W.cell? ⟨b, off + j * 9 + 7, none⟩ = some (.slice ka ck.length kc)) (by kernel_rfl) (by kernel_rfl) (by kernel_rfl) rfl ?_ (fun KK hKK => ?_)
                  · exact ⟨q0y, z0, c7y⟩
                  repeat (first
                    | (refine wpPlan_take (v := ?_) rfl (by rfl) (fun W hW => ?_) ?_; rotate_left; (focus ((try dsimp only at hW); go_split_ands; go_simp; (try with_reducible rfl); done)); (try simp only [Act.put, List.setIfInBounds_toArray, List.set_cons_zero, List.set_cons_succ]))
                    | (refine wpPlan_skip rfl (by rfl) ?_; (try simp only [Act.put, List.setIfInBounds_toArray, List.set_cons_zero, List.set_cons_succ])))
                  refine wpPlan_must rfl (by rfl) (fun K hK => ?_)
                  go_simp
                  (with_reducible refine Hbg.out.mono ?_)
                  rintro e w9 ⟨rfl, t9⟩
                  have y9 : Ext wy w9 := (Touch.refl _ _).drew.trans' t9
                  refine hK.out _ _ ?_ ?_
                  · exact ⟨keepc y9 id q0y, keepc y9 id z0, keepc y9 id c7y⟩
                  clear hK K
                  (try simp only [Act.put, List.setIfInBounds_toArray, List.set_cons_zero, List.set_cons_succ])
                  refine wpPlan_done (hKK.out _ _ ?_)
                  clear hKK KK
                  go_wp2_with (fail)
                  go_roundw
                  case rel => exact ⟨n + 1, by omega, by go_num, by rw [HcG.out]; go_num, hy.trans' y9⟩
                  case measure => simp [intOf]; omega
              · obtain rfl : n = M.length := by omega
                have n1 : ¬ ((M.length : Nat) : Int) < (M.length : Int) := by omega
                rw [List.take_length] at hcb ⊢
                have hcnt : cn = ((M.countP (fun p => begK p.1 ck) : Nat) : Int) := by rw [U2.out, List.countP_eq_length_filter]
                generalize M.countP (fun p => begK p.1 ck) = nb at *
                subst hcnt
                have hnn : ((nb : Int) != (nb : Int)) = false := by simp
                have c2y := keepc (t8.trans' hy) id c2
                have c3y := keepc (t8.trans' hy) id c3
                go_wp2_with (fail)
                go_roundw
                case rel => exact ⟨j + 1, by omega, by go_num, by rw [HcF.out]; rfl, xy⟩
                case measure => simp [intOf]; omega
        · obtain rfl : j = cs.length := by omega
          have j1 : ¬ ((cs.length : Nat) : Int) < (cs.length : Int) := by omega
          rw [List.take_length] at hcl ⊢
          rw [Hsum.out] at hcl ⊢
          have haw := TreeW.awake_any wx (Htr.out.ext (Ht.out.trans' (T1.out.trans' hx)))
          have Haw := Lib.hid haw
          clear haw
          go_wp2_with (fail)
          refine Haw.out.mono ?_
          rintro e w9 ⟨rfl, t9⟩
          go_wp2_with (fail)
          go_ret
          exact ⟨rfl, Ht.out.trans' (T1.out.trans' (hx.trans' t9))⟩

set_option maxRecDepth 100000 in
set_option maxHeartbeats 400000 in
theorem walk_great (v0 : Value) (ps : Prs) (F : Nat → Prop) (w : World) (htr : KidA.Tr w) (h0 : RP w F v0 ps) (hg : SameP.great ps 30 20 = true) :
    Calls Tryd.prog 5 #[v0] w fun e w' => e = .returned (.bool true) ∧ Ext w w' := by
  obtain ⟨a0, c0, rfl, l1, l2, _⟩ := h0.shape
  unfold maxLen at l2
  have hgr := SameP.great_any w F _ ps 30 20 h0 (by decide) (by decide) (by decide) (by decide)
  rw [hg] at hgr
  have Hgr := Lib.hid hgr
  clear hgr
  have Hg := Lib.hid hg
  clear hg
  go_enter Tryd.func5, Tryd.ntmps5
  go_wp2_with (fail)
  refine Hgr.out.mono ?_
  rintro e w' ⟨rfl, rfl⟩
  go_wp2_with (fail)
  refine (TreeW.awake_any _ htr).mono ?_
  rintro e w' ⟨rfl, ht⟩
  go_wp2_with (fail)
  go_ret
  exact ⟨rfl, ht⟩

set_option maxRecDepth 100000 in
theorem lifted (os : Os) (started : os.Started) (H : Type) (enc : TypeId × Value → H) :
    ReturnsInHanded {} Tryd.checked os 5 .any (fun w args => (Rows.radixLeavesSpec.pre enc Tryd.prog Tryd.f5 [] false w args ∧ laidMetH Tryd.prog KidL.laidR w) ∧ sizedMet enc Tryd.prog Tryd.f5 (OpenSpec.ofChange Rows.radixLeavesSpec) false w args) (Rows.radixLeavesSpec.post enc Tryd.prog Tryd.f5 false true false false) := by
  refine returnsInHanded_of_change_and (C := Tryd.checked) (X := fun w _ => laidMetH Tryd.prog KidL.laidR w) (fun _ _ _ hh h => h.of_heap hh) Tryd.own started (by kernel_rfl) Tryd.func5
    (ChangeSpec.witness_shaped (enc := enc) (C := Tryd.checked) (os := os) (X := fun w _ => laidMetH Tryd.prog KidL.laidR w) false (World.doorLaid Tryd.prog 400 os) #[.slice none 0 0] 8 rfl (World.shaped_of_RefB (by kernel_rfl) (by kernel_rfl)) (by kernel_rfl) (by kernel_rfl) (by kernel_rfl) (KidL.door_metR os _)) ?_
  intro W base args ds gs before hval0 hW _ _ hL _
  have hval : ∀ (j : Nat) t v, Tryd.f5.params[j]? = some t → args[j]? = some v → Value.okWide Tryd.prog W .any base t v := hval0
  have hW' := hW
  obtain ⟨p, q, hA0, hV, rfl, hfz, hnd⟩ := hW
  have hA : DataW.TrodAll enc Tryd.prog W 0 (fun _ => true) true Tryd.f5.params.toList args.toList ds p := hA0
  rw [Tryd.params5] at hA hval
  obtain ⟨v0, d0, rfl, rfl, h0⟩ := trodAll_one hA
  obtain ⟨rfl, rfl⟩ := trodVars_none hV
  have htr := KidL.of_laidR hL
  refine Calls.mono (R := fun e w' => e = .returned (.bool true) ∧ Touch (fun _ => False) W w') ?_ fun e W' ⟨he, hw⟩ => (by subst he; exact ⟨_, rfl, law_post Tryd.laidOut (by kernel_rfl) rfl Tryd.underlying4 rfl rfl ⟨rfl, rfl, rfl⟩ hW' (hw.below fun _ h _ => h)⟩)
  obtain ⟨ps, hps, hpp⟩ := rp_of_arg (hval 0 22 v0 rfl rfl) h0
  by_cases hg : SameP.great ps 30 20 = true
  · exact walk_great v0 ps _ W htr hps hg
  · have hg : SameP.great ps 30 20 = false := by simpa using hg
    have hgn := great_not (most := 30) (long := 20) hg
    exact walk_small v0 ps W htr hps (fun p hp => ⟨(hpp p hp).1, by have := hgn.2 p hp; omega⟩) hg hgn.1 hgn.2
theorem radixLeaves_row : Rows.RadixLeavesSaid :=
  OpenClaim.holds_of_wide 5 Tryd.f5 rfl rfl rfl rfl rfl rfl rfl ⟨rfl, rfl, rfl, rfl, rfl⟩ rfl rfl rfl rfl rfl (by kernel_rfl) Tryd.func5 (by kernel_rfl)
    (of_decide_eq_true (by kernel_rfl)) (by unfold Func.isWrapper; first | (rw [if_pos (by decide +kernel)]; kernel_rfl) | (rw [if_neg (by decide +kernel)]; exact ⟨rfl, rfl⟩))
    (fun os started H enc _ => lifted os started H enc)
theorem radixLeaves_holds : Rows.RadixLeavesCardSaid :=
  Claim7.holds_tied_plain_at .later [] [.data] true (true, "ecce178eaad04459afb8ccc92e4d2a22b1e163e47b87319aec7ce6fc9ad3f62b") false
    radixLeaves_row (fun _ h => by cases h) (by kernel_rfl) (fun _ h => by cases h) radixLeaves_row_tie rfl ⟨rfl, rfl⟩ (by kernel_rfl) rfl
    (fun f fn hf hfn => by
      obtain rfl : f = 5 := Option.some.inj ((show Tryd.prog.funcNamed "bramble/bramblelaw14.RadixLeaves" = some 5 by kernel_rfl).symm.trans hf) |>.symm
      obtain rfl : fn = Tryd.f5 := (Option.some.inj (Tryd.func5.symm.trans hfn)).symm
      exact ⟨by kernel_rfl, fun j t ht => by
        rw [Tryd.params5] at ht
        have hm : t ∈ [22] := by simpa using Array.mem_of_getElem? ht
        have hall : ([22].all fun u => !Tryd.prog.wantsStandIn u) = true := by kernel_rfl
        exact (show Tryd.prog.wantsStandIn t = false by simpa using List.all_eq_true.1 hall t hm)⟩)
    (by kernel_rfl)
end LawRadixLeaves
end Go.Proofs.YtclnnkacfanaiaaDoor
