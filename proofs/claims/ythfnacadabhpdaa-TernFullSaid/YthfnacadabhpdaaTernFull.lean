/- The statement TernFull: as many cells are full as there are keys, the key without bytes in a cell of its own; each key is spelled by the bytes on the way to its cell. Conditions: none beyond the statement's own guards. -/
import Derived.Test.YthfnacadabhpdaaTreeP
import Derived.Test.YthfnacadabhpdaaTernT
import Derived.Test.YthfnacadabhpdaaRefJ
import Derived.Test.YthfnacadabhpdaaArg
import Derived.Test.YthfnacadabhpdaaRows
namespace Go.Proofs.Ythfnacadabhpdaa
open Go.ChangeShapes Go.WideShapes Go.ChangeAt Go.RowKit Go.Deep
set_option linter.unusedVariables false
set_option linter.unusedSimpArgs false
namespace LawTernFull
open TreeB TreeP TernT TernS TernB
open ModS (great_not)

abbrev In (w : World) : Nat → Prop := fun b => b < w.heap.size
def isFull (c : Cl) : Bool := c.full
def isEmp (c : Cl) : Bool := c.kind == 3
theorem one_full (c : Cl) : [c].countP isFull = if c.full then 1 else 0 := by cases h : c.full <;> simp [isFull, h]
theorem one_emp (c : Cl) : [c].countP isEmp = if c.kind == 3 then 1 else 0 := by cases h : c.kind == 3 <;> simp [isEmp, h]
/-- what is asked of a cell -/
def Fine (N : Nat) (c : Cl) : Prop := c.at_ ≤ 19 ∧ 1 ≤ c.count ∧ c.count ≤ (N : Int)
theorem tt_fine {way : List Int} {l : List Prs} {cs : Cls} {d : Nat} (h : TT way l cs d) : ∀ N, (∀ p ∈ l.flatten, p.1.length ≤ 20) → l.flatten.length ≤ N → (∀ c ∈ cs, Fine N c ∧ c.kind = 4) ∧ cs.countP isFull = l.flatten.length := by
  induction h with
  | nil way => intro N _ _; exact ⟨fun c hc => by simp at hc, rfl⟩
  | node way l1 l2 G2 b f v ps cs1 cs2 cs3 d1 d2 d3 h1 h2 hG h3 hf hv lo hi hb bal on1 on2 on3 ih1 ih2 ih3 =>
    intro N hk hN
    have e := flat_parts l1 ((if f then [(way ++ [b], v)] else []) ++ ps) l2
    rw [e] at hk hN ⊢
    have hlen : (l1.flatten ++ (((if f then [(way ++ [b], v)] else []) ++ ps) ++ l2.flatten)).length = l1.flatten.length + (if f then 1 else 0) + ps.length + l2.flatten.length := by cases f <;> simp <;> omega
    rw [hlen] at hN ⊢
    have hne : ((if f then [(way ++ [b], v)] else []) ++ ps) ≠ [] := by
      intro h
      rcases hf with rfl | hf
      · simp at h
      · exact hf (List.append_eq_nil_iff.1 h).2
    obtain ⟨p0, hp0⟩ := List.exists_mem_of_ne_nil _ hne
    have hl0 := hk p0 (List.mem_append.2 (Or.inr (List.mem_append.2 (Or.inl hp0))))
    have hw0 := on_len (on_mid (f := f) (v := v) on2) hp0
    have hpos : 1 ≤ (if f then 1 else 0) + ps.length := by
      have := List.length_pos_iff.2 hne
      cases f <;> simp at this ⊢ <;> omega
    obtain ⟨a1, c1⟩ := ih1 N (fun p hp => hk p (List.mem_append.2 (Or.inl hp))) (by omega)
    obtain ⟨a2, c2⟩ := ih2 N (fun p hp => hk p (List.mem_append.2 (Or.inr (List.mem_append.2 (Or.inl (List.mem_append.2 (Or.inr (hG ▸ hp)))))))) (by rw [hG]; omega)
    obtain ⟨a3, c3⟩ := ih3 N (fun p hp => hk p (List.mem_append.2 (Or.inr (List.mem_append.2 (Or.inr hp))))) (by omega)
    rw [hG] at c2
    refine ⟨fun c hc => ?_, ?_⟩
    · rcases List.mem_cons.1 hc with rfl | hc
      · exact ⟨⟨by simp only [nodeC]; omega, by simp only [nodeC]; omega, by simp only [nodeC]; omega⟩, rfl⟩
      · rcases List.mem_append.1 hc with h | h
        · exact a1 c h
        · rcases List.mem_append.1 h with h | h
          · exact a2 c h
          · exact a3 c h
    · rw [List.countP_cons, List.countP_append, List.countP_append, c1, c2, c3]
      cases f <;> simp [isFull, nodeC] <;> omega
theorem tk_fine {ps : Prs} {cs : Cls} {d : Nat} (h : TK ps cs d) (hr : Rises ps) (hk : ∀ p ∈ ps, p.1.length ≤ 20) :
    (∀ c ∈ cs, Fine ps.length c) ∧ ((cs.countP isFull : Nat) : Int) + (cs.countP isEmp : Nat) = ps.length ∧ ((cs.countP isEmp = 1 ∧ hasK ps [] = true) ∨ (cs.countP isEmp = 0 ∧ hasK ps [] = false)) := by
  have noEmp : ∀ {l : Cls}, (∀ c ∈ l, c.kind = 4) → l.countP isEmp = 0 := fun h => List.countP_eq_zero.2 fun c hc => by simp [isEmp, h c hc]
  rcases h with ⟨x, qs, G, cs', rfl, hG, hon, htt, rfl⟩ | ⟨hon, G, hG, htt⟩
  · obtain ⟨a, c⟩ := tt_fine htt (qs.length + 1) (fun p hp => hk p (by rw [hG] at hp; simp [hp])) (by rw [hG]; omega)
    rw [hG] at c
    have h0 := noEmp (fun c hc => (a c hc).2)
    have hh : hasK (([], x) :: qs) [] = true := (ModP.has_of hr (p := ([], x)) (by simp)).1
    refine ⟨fun c hc => ?_, ?_, Or.inl ⟨?_, hh⟩⟩
    · rcases List.mem_cons.1 hc with rfl | hc
      · refine ⟨by simp [emptyC], by simp [emptyC], by simp [emptyC]; omega⟩
      · exact (a c hc).1
    · rw [List.countP_cons, List.countP_cons, c, h0]
      simp [isFull, isEmp, emptyC]
    · rw [List.countP_cons, h0]; simp [isEmp, emptyC]
  · obtain ⟨a, c⟩ := tt_fine htt ps.length (fun p hp => hk p (by rw [hG] at hp; exact hp)) (by rw [hG]; exact Nat.le_refl _)
    rw [hG] at c
    have h0 := noEmp (fun c hc => (a c hc).2)
    refine ⟨fun c hc => (a c hc).1, by rw [c, h0]; omega, Or.inr ⟨h0, ?_⟩⟩
    cases hh : hasK ps [] with
    | false => rfl
    | true => exact absurd rfl (on_ne hon _ (ModP.of_has hh))

set_option maxRecDepth 100000 in
set_option maxHeartbeats 8000000 in
theorem walk_small (v0 : Value) (ps : Prs) (w : World) (h0 : RP w (In w) v0 ps) (hpk : PK ps) (hg : SameP.great ps 30 20 = false) (hm : ps.length ≤ 30) (hL : ∀ p ∈ ps, p.1.length ≤ 20) :
    Calls Try.prog 5 #[v0] w fun e w' => e = .returned (.bool true) ∧ Ext w w' := by
  have hrn := fun W (x : Ext w W) => RefJ.new_any W v0 ps (h0.ext x) (by omega) hpk
  unfold RefJ.RNew at hrn
  obtain ⟨a0, c0, rfl, l1, l2, _⟩ := h0.shape
  unfold maxLen at l2
  have hgr := SameP.great_any w _ _ ps 30 20 h0 (by decide) (by decide) (by decide) (by decide)
  have hnew := new_yes w 1000 (by decide) (by decide)
  unfold TNew at hnew
  rw [hg] at hgr
  have hroom := fun j => sz_mk (m := 1000) hm hL (by decide) j
  have hstep := fun j p (h : ps[j]? = some p) => mkK_take ps j p h
  have hml : (mkK ps).length ≤ 1000000 := Nat.le_trans (mkK_length _) (by omega)
  have hr := mkK_rises ps
  have Hgr := Lib.hid hgr
  clear hgr
  have Hnew := Lib.hid hnew
  clear hnew
  have H0 := Lib.hid h0
  clear h0
  have Hpk := Lib.hid hpk
  clear hpk
  have Hroom := Lib.hid hroom
  clear hroom
  have Hstep := Lib.hid hstep
  clear hstep
  have HL := Lib.hid hL
  clear hL
  have Hr := Lib.hid hr
  clear hr
  have Hrn := Lib.hid hrn
  clear hrn
  clear hg
  go_enter Try.func5, Try.ntmps5
  go_wp2_with (fail)
  refine Hgr.out.mono ?_
  rintro e w' ⟨rfl, rfl⟩
  go_wp2_with (fail)
  (with_reducible refine Hnew.out.mono ?_)
  rintro e w1 ⟨t, F, rfl, htp, hF, t1⟩
  have hrn := Hrn.out w1 t1
  have Htp := Lib.hid htp
  clear htp
  have HF := Lib.hid hF
  clear hF
  have T1 := Lib.hid t1
  clear t1
  have Hrn := Lib.hid hrn
  clear hrn
  go_wp2_with (fail)
  (with_reducible refine Hrn.out.mono ?_)
  rintro e w2 ⟨r, R, rfl, hrf, hR, t2⟩
  have htp := Htp.out.ext t2
  have x2 := T1.out.trans' t2
  have hF := HF.out
  have hdr : ∀ b, F b → ¬ R b := fun b hb h => by have h1 := Htp.out.lt b hb; have h2 := hR b h; omega
  have hRw : ∀ b, R b → w.heap.size ≤ b := fun b hb => Nat.le_trans T1.out.size (hR b hb)
  clear Htp T1 HF hR
  have Htp := Lib.hid htp
  clear htp
  have X2 := Lib.hid x2
  clear x2
  have HF := Lib.hid hF
  clear hF
  have Hdr := Lib.hid hdr
  clear hdr
  have Hrf := Lib.hid hrf
  clear hrf
  have HRw := Lib.hid hRw
  clear hRw
  have T2 := Lib.hid t2
  clear t2
  go_wp2_with (fail)
  go_loopw [5] (fun s5 wr => ∃ (j : Nat) (F : Nat → Prop), j ≤ ps.length ∧ s5 = .int .i64 j ∧ Tp wr t F (mkK (ps.take j)) 1000 ∧ Rf wr r R (mkK ps) ∧ (∀ b, F b → w.heap.size ≤ b) ∧ (∀ b, F b → ¬ R b) ∧ Ext w wr) (fun s5 _ => ps.length - (intOf s5).toNat)
  case atStart => exact ⟨0, F, by omega, rfl, Htp.out, Hrf.out, HF.out, Hdr.out, X2.out⟩
  case round =>
    obtain ⟨j, F', hj, rfl, htp, hrf, hF, hdr, ht⟩ := hrel
    clear Htp HF X2 Hdr Hrf
    by_cases hjk : j < ps.length
    · obtain ⟨b, off, rfl, hb⟩ := H0.out.addr (by omega)
      have hgj := List.getElem?_eq_getElem hjk
      obtain ⟨kv, d0, d1', hkv⟩ := (H0.out.ext ht).get _ _ hgj
      have hpp := Hpk.out _ (List.mem_of_getElem? hgj)
      have hst := Hstep.out j _ hgj
      generalize ps[j] = p at *
      obtain ⟨ka, kc, rfl, _⟩ := hkv.shape
      have i1 : (j : Int) < (ps.length : Int) := by omega
      have i2 : (0 : Int) ≤ (j : Int) := by omega
      have hbF : ¬ F' b := fun h => by have h1 : b < w.heap.size := hb; have := hF b h; omega
      have hput := put_any wr.drew t (.slice ka p.1.length kc) (mkK (ps.take j)) 1000 p.1 p.2 (htp.ext (Touch.refl _ _).drew) (by have := mkK_length (ps.take j); simp at this; omega) ((hkv.ext (Touch.refl _ _).drew).mono (fun b hb h => by have h1 : b < w.heap.size := hb; have := hF b (by rw [h]; exact htp.self); omega)) hpp.1 hpp.2 (Or.inr (by rw [← hst]; exact Hroom.out (j + 1)))
      unfold TPut at hput
      rw [← hst] at hput
      have Hput := Lib.hid hput
      clear hput
      have Hst := Lib.hid hst
      clear hst
      have Hkv := Lib.hid hkv
      clear hkv
      have HF := Lib.hid hF
      clear hF
      have Ht := Lib.hid ht
      clear ht
      have Htp := Lib.hid htp
      clear htp
      have HbF := Lib.hid hbF
      clear hbF
      have Hrf := Lib.hid hrf
      clear hrf
      have Hdr := Lib.hid hdr
      clear hdr
      have Hgj := Lib.hid hgj
      clear hgj
      go_wp2_with (fail)
      refine wp_region_plan (.take 0 (.take 1 (.take 2 (.take 3 (.take 4 (.take 5 (.take 6 (.take 7 (.take 8 (.take 9 (.take 10 (.must 11 .done)))))))))))) (fun wy => wy.cell? ⟨b, off + j * 2, none⟩ = some (.slice ka p.1.length kc) ∧ wy.cell? ⟨b, off + j * 2 + 1, none⟩ = some (.int .u64 p.2)) (by kernel_rfl) (by kernel_rfl) (by kernel_rfl) rfl ?_ (fun KK hKK => ?_)
      · exact ⟨d0, d1'⟩
      repeat (first
        | (refine wpPlan_take (v := ?_) rfl (by rfl) (fun W hW => ?_) ?_; rotate_left; (focus ((try dsimp only at hW); go_split_ands; go_simp; (try with_reducible rfl); done)); (try simp only [Act.put, List.setIfInBounds_toArray, List.set_cons_zero, List.set_cons_succ]))
        | (refine wpPlan_skip rfl (by rfl) ?_; (try simp only [Act.put, List.setIfInBounds_toArray, List.set_cons_zero, List.set_cons_succ])))
      refine wpPlan_must rfl (by rfl) (fun K hK => ?_)
      go_simp
      (with_reducible refine Hput.out.mono ?_)
      rintro e w3 ⟨rfl, F2, htp2, hu, hsub⟩
      have Htp2 := Lib.hid htp2
      clear htp2
      have Hsub := Lib.hid hsub
      clear hsub
      refine hK.out _ _ ?_ ?_
      · exact ⟨keepc hu HbF.out d0, keepc hu HbF.out d1'⟩
      clear hK K
      (try simp only [Act.put, List.setIfInBounds_toArray, List.set_cons_zero, List.set_cons_succ])
      refine wpPlan_done (hKK.out _ _ ?_)
      clear hKK KK
      have y0 := keepc hu HbF.out d0
      go_wp2_with (fail)
      go_roundw
      case rel =>
        refine ⟨j + 1, F2, by omega, by go_num, Htp2.out, ?_, fun b hb => (Hsub.out b hb).elim (HF.out b) (fun h => Nat.le_trans Ht.out.size h), fun b hb h => ?_, (Ht.out.drew).ext_new hu (fun i hi => HF.out i hi)⟩
        · exact (Hrf.out.ext (Touch.refl _ _).drew).keep hu (fun b hb h => Hdr.out b h hb)
        · rcases Hsub.out b hb with h1 | h1
          · exact Hdr.out b h1 h
          · have h2 := Hrf.out.lt b h
            have h5 : wr.drew.heap.size = wr.heap.size := rfl
            omega
      case measure => simp [intOf]; omega
    · obtain rfl : j = ps.length := by omega
      have i1 : ¬ ((ps.length : Nat) : Int) < (ps.length : Int) := by omega
      rw [List.take_length] at htp
      have hmL : ∀ p ∈ mkK ps, p.1.length ≤ 20 := fun p hp => HL.out p (mkK_mem hp)
      have hml2 := mkK_length ps
      generalize hMe : mkK ps = M at *
      clear hMe
      have hfine := fun cs d (h : TK M cs d) => tk_fine h Hr.out hmL
      have hsh := TernT.shape_any wr t M 1000 htp
      unfold ShapeRet at hsh
      obtain ⟨va, q0, hrow⟩ := hrf.row
      obtain ⟨ra, rc, rfl, _⟩ := hrow.shape
      have hget := fun W (x : Ext wr W) => RefA.get_any W r (.slice none 0 0) M [] (hrf.ext x) (RB.nil W (fun _ => True)) KB.nil (by omega)
      have Htp := Lib.hid htp
      clear htp
      have HF := Lib.hid hF
      clear hF
      have Ht := Lib.hid ht
      clear ht
      have HmL := Lib.hid hmL
      clear hmL
      have Hfine := Lib.hid hfine
      clear hfine
      have Hsh := Lib.hid hsh
      clear hsh
      have Hget := Lib.hid hget
      clear hget
      have Hrow := Lib.hid hrow
      clear hrow
      have Hrf := Lib.hid hrf
      clear hrf
      have Hdr := Lib.hid hdr
      clear hdr
      go_wp2_with (fail)
      (with_reducible refine Hsh.out.mono ?_)
      rintro e w1' ⟨⟨v1, cs, d, rfl, htk, hrc⟩, t1⟩
      obtain ⟨hfi, hsum, hown⟩ := Hfine.out cs d htk
      have hszl : cs.length ≤ 1000 := by
        have h1 := htk.length
        have h2 := Htp.out.fits
        omega
      obtain ⟨sa, sc, rfl, s1, s2, _⟩ := hrc.shape
      unfold maxLen at s2
      have q0 := keepc t1 id q0
      have Hrc := Lib.hid hrc
      clear hrc
      have Htk := Lib.hid htk
      clear htk
      have T1 := Lib.hid t1
      clear t1
      have Hfi := Lib.hid hfi
      clear hfi
      have Hsum := Lib.hid hsum
      clear hsum
      have Hown := Lib.hid hown
      clear hown
      go_wp2_with (fail)
      go_loopw [7, 8, 9] (fun s7 s8 s9 wx => ∃ j : Nat, j ≤ cs.length ∧ s9 = .int .i64 j ∧ s7 = .int .i64 ((cs.take j).countP isFull : Nat) ∧ s8 = .int .i64 ((cs.take j).countP isEmp : Nat) ∧ Ext w1' wx) (fun _ _ s9 _ => cs.length - (intOf s9).toNat)
      case atStart => exact ⟨0, by omega, rfl, rfl, rfl, Touch.refl _ _⟩
      case round =>
        obtain ⟨j, hj, rfl, rfl, rfl, hx⟩ := hrel
        have hcl : (cs.take j).countP isFull ≤ j := Nat.le_trans List.countP_le_length (by simp; omega)
        have hcm : (cs.take j).countP isEmp ≤ j := Nat.le_trans List.countP_le_length (by simp; omega)
        have q0x := keepc hx id q0
        by_cases hjk : j < cs.length
        · obtain ⟨b, off, rfl⟩ := Hrc.out.addr (by omega)
          have hgj := List.getElem?_eq_getElem hjk
          obtain ⟨kv, _, c0, c1, c2, _, _, c5, _⟩ := (Hrc.out.ext hx).get j _ hgj
          obtain ⟨ha, hc1, hc2⟩ := Hfi.out _ (List.mem_of_getElem? hgj)
          have htk : cs.take (j + 1) = cs.take j ++ [cs[j]] := by rw [List.take_add_one, hgj]; rfl
          have hcF : (cs.take (j + 1)).countP isFull = (cs.take j).countP isFull + if cs[j].full then 1 else 0 := by rw [htk, List.countP_append, one_full]
          have hcE : (cs.take (j + 1)).countP isEmp = (cs.take j).countP isEmp + if cs[j].kind == 3 then 1 else 0 := by rw [htk, List.countP_append, one_emp]
          generalize cs[j] = c at *
          obtain ⟨kd, ca, cn, cc, cb, cf, cv, ck⟩ := c
          simp only at c0 c1 c2 c5 ha hc1 hc2 hcF hcE
          generalize (cs.take j).countP isFull = m at *
          generalize (cs.take j).countP isEmp = n at *
          have j0 : (0 : Int) ≤ (j : Int) := by omega
          have j1 : (j : Int) < (cs.length : Int) := by omega
          have j2 : decide ((19 : Int) < ca) = false := by simp; omega
          have j4 : decide (cn < 1) = false := by simp; omega
          have j5 : decide ((M.length : Int) < cn) = false := by simp; omega
          have kk : ∀ K : Int, K = 3 ∨ (K == 3) = false := fun K => by by_cases h : K = 3; exact Or.inl h; exact Or.inr (by simpa using h)
          rcases kk kd with rfl | hk3
          · cases cf with
            | true =>
              have Htk := Lib.hid htk
              clear htk
              have Hgj := Lib.hid hgj
              clear hgj
              have HcF := Lib.hid hcF
              clear hcF
              have HcE := Lib.hid hcE
              clear hcE
              go_wp2_with (fail)
              refine wp_region_plan (.take 0 (.take 1 (.take 2 (.take 3 (.take 4 (.take 5 (.take 6 (.take 7 (.take 8 (.take 9 (.take 10 (.take 11 (.take 12 (.take 13 (.take 14 (.take 15 (.take 16 (.take 17 (.take 18 (.take 19 (.take 20 (.take 21 (.take 22 (.take 23 (.take 24 (.take 25 (.take 26 .done))))))))))))))))))))))))))) (fun wy => wy.cell? ⟨b, off + j * 9 + 1, none⟩ = some (.int .i64 ca) ∧ wy.cell? ⟨b, off + j * 9 + 2, none⟩ = some (.int .i64 cn) ∧ wy.cell? ⟨r, 0, none⟩ = some (.slice ra M.length rc)) (by kernel_rfl) (by kernel_rfl) (by kernel_rfl) rfl ?_ (fun KK hKK => ?_)
              · exact ⟨c1, c2, q0x⟩
              repeat (first
                | (refine wpPlan_take (v := ?_) rfl (by rfl) (fun W hW => ?_) ?_; rotate_left; (focus ((try dsimp only at hW); go_split_ands; go_simp; (try with_reducible rfl); done)); (try simp only [Act.put, List.setIfInBounds_toArray, List.set_cons_zero, List.set_cons_succ]))
                | (refine wpPlan_skip rfl (by rfl) ?_; (try simp only [Act.put, List.setIfInBounds_toArray, List.set_cons_zero, List.set_cons_succ])))
              refine wpPlan_done (hKK.out _ _ ?_)
              clear hKK KK
              go_wp2_with (fail)
              go_roundw
              case rel => exact ⟨j + 1, by omega, by go_num, congrArg (Value.int .i64) (by have h1 := HcF.out; simp at h1; omega), congrArg (Value.int .i64) (by have h1 := HcE.out; simp at h1; omega), hx.drew⟩
              case measure => simp [intOf]; omega
            | false =>
              have Htk := Lib.hid htk
              clear htk
              have Hgj := Lib.hid hgj
              clear hgj
              have HcF := Lib.hid hcF
              clear hcF
              have HcE := Lib.hid hcE
              clear hcE
              go_wp2_with (fail)
              refine wp_region_plan (.take 0 (.take 1 (.take 2 (.take 3 (.take 4 (.take 5 (.take 6 (.take 7 (.take 8 (.take 9 (.take 10 (.take 11 (.take 12 (.take 13 (.take 14 (.take 15 (.take 16 (.take 17 (.take 18 (.take 19 (.take 20 (.take 21 (.take 22 (.take 23 (.take 24 (.take 25 (.take 26 .done))))))))))))))))))))))))))) (fun wy => wy.cell? ⟨b, off + j * 9 + 1, none⟩ = some (.int .i64 ca) ∧ wy.cell? ⟨b, off + j * 9 + 2, none⟩ = some (.int .i64 cn) ∧ wy.cell? ⟨r, 0, none⟩ = some (.slice ra M.length rc)) (by kernel_rfl) (by kernel_rfl) (by kernel_rfl) rfl ?_ (fun KK hKK => ?_)
              · exact ⟨c1, c2, q0x⟩
              repeat (first
                | (refine wpPlan_take (v := ?_) rfl (by rfl) (fun W hW => ?_) ?_; rotate_left; (focus ((try dsimp only at hW); go_split_ands; go_simp; (try with_reducible rfl); done)); (try simp only [Act.put, List.setIfInBounds_toArray, List.set_cons_zero, List.set_cons_succ]))
                | (refine wpPlan_skip rfl (by rfl) ?_; (try simp only [Act.put, List.setIfInBounds_toArray, List.set_cons_zero, List.set_cons_succ])))
              refine wpPlan_done (hKK.out _ _ ?_)
              clear hKK KK
              go_wp2_with (fail)
              go_roundw
              case rel => exact ⟨j + 1, by omega, by go_num, congrArg (Value.int .i64) (by have h1 := HcF.out; simp at h1; omega), congrArg (Value.int .i64) (by have h1 := HcE.out; simp at h1; omega), hx.drew⟩
              case measure => simp [intOf]; omega
          · rw [hk3] at hcE
            cases cf with
            | true =>
              have Htk := Lib.hid htk
              clear htk
              have Hgj := Lib.hid hgj
              clear hgj
              have HcF := Lib.hid hcF
              clear hcF
              have HcE := Lib.hid hcE
              clear hcE
              go_wp2_with (fail)
              refine wp_region_plan (.take 0 (.take 1 (.take 2 (.take 3 (.take 4 (.take 5 (.take 6 (.take 7 (.take 8 (.take 9 (.take 10 (.take 11 (.take 12 (.take 13 (.take 14 (.take 15 (.take 16 (.take 17 (.take 18 (.take 19 (.take 20 (.take 21 (.take 22 (.take 23 (.take 24 (.take 25 (.take 26 .done))))))))))))))))))))))))))) (fun wy => wy.cell? ⟨b, off + j * 9 + 1, none⟩ = some (.int .i64 ca) ∧ wy.cell? ⟨b, off + j * 9 + 2, none⟩ = some (.int .i64 cn) ∧ wy.cell? ⟨r, 0, none⟩ = some (.slice ra M.length rc)) (by kernel_rfl) (by kernel_rfl) (by kernel_rfl) rfl ?_ (fun KK hKK => ?_)
              · exact ⟨c1, c2, q0x⟩
              repeat (first
                | (refine wpPlan_take (v := ?_) rfl (by rfl) (fun W hW => ?_) ?_; rotate_left; (focus ((try dsimp only at hW); go_split_ands; go_simp; (try with_reducible rfl); done)); (try simp only [Act.put, List.setIfInBounds_toArray, List.set_cons_zero, List.set_cons_succ]))
                | (refine wpPlan_skip rfl (by rfl) ?_; (try simp only [Act.put, List.setIfInBounds_toArray, List.set_cons_zero, List.set_cons_succ])))
              refine wpPlan_done (hKK.out _ _ ?_)
              clear hKK KK
              go_wp2_with (fail)
              go_roundw
              case rel => exact ⟨j + 1, by omega, by go_num, congrArg (Value.int .i64) (by have h1 := HcF.out; simp at h1; omega), congrArg (Value.int .i64) (by have h1 := HcE.out; simp at h1; omega), hx.drew⟩
              case measure => simp [intOf]; omega
            | false =>
              have Htk := Lib.hid htk
              clear htk
              have Hgj := Lib.hid hgj
              clear hgj
              have HcF := Lib.hid hcF
              clear hcF
              have HcE := Lib.hid hcE
              clear hcE
              go_wp2_with (fail)
              refine wp_region_plan (.take 0 (.take 1 (.take 2 (.take 3 (.take 4 (.take 5 (.take 6 (.take 7 (.take 8 (.take 9 (.take 10 (.take 11 (.take 12 (.take 13 (.take 14 (.take 15 (.take 16 (.take 17 (.take 18 (.take 19 (.take 20 (.take 21 (.take 22 (.take 23 (.take 24 (.take 25 (.take 26 .done))))))))))))))))))))))))))) (fun wy => wy.cell? ⟨b, off + j * 9 + 1, none⟩ = some (.int .i64 ca) ∧ wy.cell? ⟨b, off + j * 9 + 2, none⟩ = some (.int .i64 cn) ∧ wy.cell? ⟨r, 0, none⟩ = some (.slice ra M.length rc)) (by kernel_rfl) (by kernel_rfl) (by kernel_rfl) rfl ?_ (fun KK hKK => ?_)
              · exact ⟨c1, c2, q0x⟩
              repeat (first
                | (refine wpPlan_take (v := ?_) rfl (by rfl) (fun W hW => ?_) ?_; rotate_left; (focus ((try dsimp only at hW); go_split_ands; go_simp; (try with_reducible rfl); done)); (try simp only [Act.put, List.setIfInBounds_toArray, List.set_cons_zero, List.set_cons_succ]))
                | (refine wpPlan_skip rfl (by rfl) ?_; (try simp only [Act.put, List.setIfInBounds_toArray, List.set_cons_zero, List.set_cons_succ])))
              refine wpPlan_done (hKK.out _ _ ?_)
              clear hKK KK
              go_wp2_with (fail)
              go_roundw
              case rel => exact ⟨j + 1, by omega, by go_num, congrArg (Value.int .i64) (by have h1 := HcF.out; simp at h1; omega), congrArg (Value.int .i64) (by have h1 := HcE.out; simp at h1; omega), hx.drew⟩
              case measure => simp [intOf]; omega
        · obtain rfl : j = cs.length := by omega
          have j1 : ¬ ((cs.length : Nat) : Int) < (cs.length : Int) := by omega
          rw [List.take_length] at hcl hcm ⊢
          have hsum := Hsum.out
          have hown := Hown.out
          have haw := fun W => TreeW.awake_any W
          have hgt := Hget.out _ (T1.out.trans' hx)
          generalize cs.countP isFull = m at *
          generalize cs.countP isEmp = n at *
          have k1 : IntKind.i64.wrap ((m : Int) + (n : Int)) = (M.length : Int) := by rw [IntKind.wrap_i64]; omega
          have k2 : ((m : Int) + (n : Int) == (M.length : Int)) = true := by simp; omega
          rcases hown with ⟨rfl, ho⟩ | ⟨rfl, ho⟩
          · rw [ho] at hgt
            clear ho
            have Hsum := Lib.hid hsum
            clear hsum
            have Haw := Lib.hid haw
            clear haw
            have Hgt := Lib.hid hgt
            clear hgt
            go_wp2_with (fail)
            (with_reducible refine Hgt.out.mono ?_)
            rintro e w8 ⟨rfl, t8⟩
            have q0y := keepc t8 id q0x
            go_wp2_with (fail)
            refine (Haw.out _).mono ?_
            rintro e w9 ⟨rfl, t9⟩
            go_wp2_with (fail)
            go_ret
            exact ⟨rfl, Ht.out.trans' (T1.out.trans' (hx.trans' (t8.trans' t9)))⟩
          · rw [ho] at hgt
            clear ho
            have Hsum := Lib.hid hsum
            clear hsum
            have Haw := Lib.hid haw
            clear haw
            have Hgt := Lib.hid hgt
            clear hgt
            go_wp2_with (fail)
            (with_reducible refine Hgt.out.mono ?_)
            rintro e w8 ⟨rfl, t8⟩
            have q0y := keepc t8 id q0x
            go_wp2_with (fail)
            refine (Haw.out _).mono ?_
            rintro e w9 ⟨rfl, t9⟩
            go_wp2_with (fail)
            go_ret
            exact ⟨rfl, Ht.out.trans' (T1.out.trans' (hx.trans' (t8.trans' t9)))⟩

set_option maxRecDepth 100000 in
set_option maxHeartbeats 400000 in
theorem walk_great (v0 : Value) (ps : Prs) (F : Nat → Prop) (w : World) (h0 : RP w F v0 ps) (hg : SameP.great ps 30 20 = true) :
    Calls Try.prog 5 #[v0] w fun e w' => e = .returned (.bool true) ∧ Ext w w' := by
  obtain ⟨a0, c0, rfl, l1, l2, _⟩ := h0.shape
  unfold maxLen at l2
  have hgr := SameP.great_any w F _ ps 30 20 h0 (by decide) (by decide) (by decide) (by decide)
  rw [hg] at hgr
  have Hgr := Lib.hid hgr
  clear hgr
  have Hg := Lib.hid hg
  clear hg
  go_enter Try.func5, Try.ntmps5
  go_wp2_with (fail)
  refine Hgr.out.mono ?_
  rintro e w' ⟨rfl, rfl⟩
  go_wp2_with (fail)
  refine (TreeW.awake_any _).mono ?_
  rintro e w' ⟨rfl, ht⟩
  go_wp2_with (fail)
  go_ret
  exact ⟨rfl, ht⟩

set_option maxRecDepth 100000 in
theorem lifted (os : Os) (started : os.Started) (H : Type) (enc : TypeId × Value → H) :
    ReturnsInHanded {} Try.checked os 5 .any (Rows.ternFullSpec.pre6 enc Try.prog Try.f5 Rows.ternFullRow.domain false) (Rows.ternFullSpec.post enc Try.prog Try.f5 false true false false) := by
  refine returnsInHanded_of_change (C := Try.checked) Try.own started (by kernel_rfl) Try.func5
    (ChangeSpec.witness6 (enc := enc) (C := Try.checked) false ⟨#[], #[.slice none 0 0], []⟩ 8 (by kernel_rfl) (by kernel_rfl) (by kernel_rfl) (by kernel_rfl)) ?_
  intro W base args ds gs before hval0 hW hcnd _
  have hval : ∀ (j : Nat) t v, Try.f5.params[j]? = some t → args[j]? = some v → Value.okWide Try.prog W .any base t v := hval0
  have hW' := hW
  obtain ⟨p, q, hA0, hV, rfl, hfz, hnd⟩ := hW
  have hA : DataW.TrodAll enc Try.prog W 0 (fun _ => true) true Try.f5.params.toList args.toList ds p := hA0
  rw [Try.params5] at hA hval
  obtain ⟨v0, d0, rfl, rfl, h0⟩ := trodAll_one hA
  obtain ⟨rfl, rfl⟩ := trodVars_none hV
  refine Calls.mono (R := fun e w' => e = .returned (.bool true) ∧ Touch (fun _ => False) W w') ?_ fun e W' ⟨he, hw⟩ => (by subst he; exact ⟨_, rfl, law_post Try.laidOut (by kernel_rfl) rfl Try.underlying4 rfl rfl ⟨rfl, rfl, rfl⟩ hW' (hw.below fun _ h _ => h)⟩)
  obtain ⟨ps, hps, hpp⟩ := rp_of_arg (hval 0 22 v0 rfl rfl) h0
  by_cases hg : SameP.great ps 30 20 = true
  · exact walk_great v0 ps _ W hps hg
  · have hg : SameP.great ps 30 20 = false := by simpa using hg
    have hgn := great_not (most := 30) (long := 20) hg
    exact walk_small v0 ps W hps (fun p hp => ⟨(hpp p hp).1, by have := hgn.2 p hp; omega⟩) hg hgn.1 hgn.2
theorem ternFull_holds : Rows.TernFullSaid :=
  OpenClaim.holds_of_wide 5 Try.f5 rfl rfl rfl rfl rfl rfl rfl ⟨rfl, rfl, rfl, rfl, rfl⟩ rfl rfl rfl rfl rfl (by kernel_rfl) Try.func5 (by kernel_rfl)
    (of_decide_eq_true (by kernel_rfl)) (by unfold Func.isWrapper; first | (rw [if_pos (by decide +kernel)]; kernel_rfl) | (rw [if_neg (by decide +kernel)]; exact ⟨rfl, rfl⟩))
    (fun os started H enc _ => lifted os started H enc)
end LawTernFull
end Go.Proofs.Ythfnacadabhpdaa
