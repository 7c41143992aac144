/- The statement ModelScript: whatever is put into a model's map and dropped, each call answers as the document's map does, and leaves the same pairs; so does each question. Conditions: none beyond the statement's own guards. -/
import Derived.Test.YthannllagabclaaAskB
import Derived.Test.YthannllagabclaaActA
import Derived.Test.YthannllagabclaaModS
import Derived.Test.YthannllagabclaaRows
namespace Go.Proofs.Ythannllagabclaa
open Go.ChangeShapes Go.WideShapes Go.ChangeAt Go.RowKit Go.Deep
set_option linter.unusedVariables false
set_option linter.unusedSimpArgs false
namespace LawModelScript
open ModA ModB ModF ModI ModL ModP ModR ModS AskA AskB



abbrev In (w : World) : Nat → Prop := fun b => b < w.heap.size

set_option maxRecDepth 100000 in
set_option maxHeartbeats 8000000 in
theorem walk_small (v0 v1 v2 : Value) (n : Int) (ps : Prs) (xs : Acts) (k : List Int) (w : World) (h0 : RP w (In w) v0 ps) (h1 : RAct w (In w) v1 xs) (h2 : RB w (In w) v2 k) (hpk : PK ps) (kb : KB k) (hxs : ∀ x ∈ xs, KB x.1 ∧ 0 ≤ x.2.1 ∧ x.2.1 < 18446744073709551616)
    (hg : SameP.great ps 20 40 = false) (hm : ps.length ≤ 20) (hx : xs.length ≤ 60) (hk : k.length ≤ 40) (hV : V64 n) :
    Calls Try.prog 6 #[v0, v1, v2, .int .i64 n] w fun e w' => e = .returned (.bool true) ∧ Ext w w' := by
  obtain ⟨a0, c0, rfl, l1, l2⟩ := h0.shape
  obtain ⟨a1, c1, rfl, l3, l4⟩ := h1.shape
  obtain ⟨a2, c2, rfl, l5, l6⟩ := h2.shape
  unfold maxLen at l2 l4 l6
  have hgr := SameP.great_any w _ _ ps 20 40 h0 (by decide) (by decide) (by decide) (by decide)
  rw [hg] at hgr
  have hcp := SameP.copied_any w _ _ ps h0 (by omega) (fun p hp => by have := (hpk p hp).2; omega)
  have d1 : decide ((60 : Int) < (xs.length : Int)) = false := by simp; omega
  have d2 : decide ((40 : Int) < (k.length : Int)) = false := by simp; omega
  have hml := mkK_length ps
  have Hgr := Lib.hid hgr
  clear hgr
  have H0 := Lib.hid h0
  clear h0
  have H1 := Lib.hid h1
  clear h1
  have H2 := Lib.hid h2
  clear h2
  have Hpk := Lib.hid hpk
  clear hpk
  have Kb := Lib.hid kb
  clear kb
  have Hxs := Lib.hid hxs
  clear hxs
  have Hcp := Lib.hid hcp
  clear hcp
  have Hml := Lib.hid hml
  clear hml
  clear hg
  go_enter Try.func6, Try.ntmps6
  go_wp2_with (fail)
  refine Hgr.out.mono ?_
  rintro e w' ⟨rfl, rfl⟩
  go_wp2_with (fail)
  (with_reducible refine Hcp.out.mono ?_)
  rintro e w1 ⟨⟨vi, rfl, hop⟩, t1⟩
  have hop := hop.bound
  obtain ⟨ia, ic, rfl, _⟩ := hop.rp.shape
  have hnew := new_any w1 _ ps hop.rp (by omega) Hpk.out
  unfold NewRet at hnew
  have Hnew := Lib.hid hnew
  clear hnew
  have Hop := Lib.hid hop
  clear hop
  have T1 := Lib.hid t1
  clear t1
  go_wp2_with (fail)
  (with_reducible refine Hnew.out.mono ?_)
  rintro e w2 ⟨g, F, rfl, hmp, hF, t2⟩
  have hrn := RefJ.new_any w2 _ ps (H0.out.ext (T1.out.trans' t2)) (by omega) Hpk.out
  unfold RefJ.RNew at hrn
  have Hrn := Lib.hid hrn
  clear hrn
  have Hmp := Lib.hid hmp
  clear hmp
  have HF := Lib.hid hF
  clear hF
  have T2 := Lib.hid t2
  clear t2
  go_wp2_with (fail)
  (with_reducible refine Hrn.out.mono ?_)
  rintro e w3 ⟨r, R, rfl, hrf, hR, t3⟩
  have hri := rises_any w3 _ ps (Hop.out.rp.ext (T2.out.trans' t3)) (by omega) (fun p hp => (Hpk.out p hp).1)
  have hrr := fun W (t : Ext w3 W) => RefI.rises_any W _ ps (H0.out.ext (T1.out.trans' (T2.out.trans' (t3.trans' t)))) (by omega) (fun p hp => (Hpk.out p hp).1)
  have hbb : (risesB ps != risesB ps) = false := by simp
  have Hrf := Lib.hid hrf
  clear hrf
  have HR := Lib.hid hR
  clear hR
  have T3 := Lib.hid t3
  clear t3
  have Hri := Lib.hid hri
  clear hri
  have Hrr := Lib.hid hrr
  clear hrr
  go_wp2_with (fail)
  (with_reducible refine Hri.out.mono ?_)
  rintro e w4 ⟨rfl, t4⟩
  have T4 := Lib.hid t4
  clear t4
  go_wp2_with (fail)
  (with_reducible refine (Hrr.out _ T4.out).mono ?_)
  rintro e w5 ⟨rfl, t5⟩
  have t25 := T2.out.trans' (T3.out.trans' (T4.out.trans' t5))
  have hov := SameP.over_pairs w5 _ ps (Hop.out.ext t25) (by omega) (fun p hp => by have := (Hpk.out p hp).2; omega)
  have t15 := T1.out.trans' t25
  have T5 := Lib.hid t5
  clear t5
  have T25 := Lib.hid t25
  clear t25
  have Hov := Lib.hid hov
  clear hov
  have T15 := Lib.hid t15
  clear t15
  go_wp2_with (fail)
  (with_reducible refine Hov.out.mono ?_)
  rintro e w6 ⟨rfl, t6⟩
  go_wp2_with (fail)
  have x6 : Ext w w6 := T15.out.ext_new t6 (fun i hi => hi.1)
  have hmp := (Hmp.out.ext (T3.out.trans' (T4.out.trans' T5.out))).keep t6 (fun b hb h => by have := HF.out b hb; omega)
  have hrf := (Hrf.out.ext (T4.out.trans' T5.out)).keep t6 (fun b hb h => by have := HR.out b hb; have := T2.out.size; omega)
  have hR2 : ∀ b, R b → w1.heap.size ≤ b := fun b hb => Nat.le_trans T2.out.size (HR.out b hb)
  have hd0 : ∀ b, F b → ¬ R b := fun b hb h => by have := Hmp.out.lt b hb; have := HR.out b h; omega
  have hF0 := HF.out
  have hs1 := T1.out.size
  generalize hMe : mkK ps = M0 at *
  have hM0 : M0.length ≤ 20 := by have := Hml.out; omega
  clear hMe Hml Hmp Hrf HF HR T1 T2 T3 T4 T5 T15 T25 Hov Hrr Hri Hrn Hnew Hop Hcp Hgr t6
  have Hmp := Lib.hid hmp
  clear hmp
  have Hrf := Lib.hid hrf
  clear hrf
  have HR2 := Lib.hid hR2
  clear hR2
  have Hd0 := Lib.hid hd0
  clear hd0
  have HF0 := Lib.hid hF0
  clear hF0
  have X6 := Lib.hid x6
  clear x6
  go_loopw [12] (fun s12 wr => ∃ (j : Nat) (M : Prs) (F R : Nat → Prop), j ≤ xs.length ∧ s12 = .int .i64 j ∧ Mp wr g F M ∧ Rf wr r R M ∧ (∀ b, F b → w1.heap.size ≤ b) ∧ (∀ b, R b → w1.heap.size ≤ b) ∧ (∀ b, F b → ¬ R b) ∧ M.length ≤ 20 + j ∧ Ext w wr) (fun s12 _ => xs.length - (intOf s12).toNat)
  case atStart => exact ⟨0, M0, F, R, by omega, rfl, Hmp.out, Hrf.out, HF0.out, HR2.out, Hd0.out, by omega, X6.out⟩
  case round =>
    obtain ⟨j, M, F', R', hj, rfl, hmp, hrf, hF, hR, hd, hl, ht⟩ := hrel
    clear Hmp Hrf HF0 HR2 Hd0 X6 hM0
    by_cases hjk : j < xs.length
    · obtain ⟨b, off, rfl⟩ := H1.out.addr (by omega)
      have hgj := List.getElem?_eq_getElem hjk
      have hxx := Hxs.out _ (List.mem_of_getElem? hgj)
      obtain ⟨kv, z0, z1, z2, hkv⟩ := (H1.out.ext ht).get _ _ hgj
      generalize xs[j] = x at *
      obtain ⟨xk, xv, xd⟩ := x
      simp only at hxx z1 z2 hkv
      obtain ⟨ka, kc, rfl, y1, y2, y3⟩ := hkv.shape
      unfold maxLen at y2
      have i1 : (j : Int) < (xs.length : Int) := by omega
      have i2 : (0 : Int) ≤ (j : Int) := by omega
      have hsz := ht.size
      have Hgj := Lib.hid hgj
      clear hgj
      have Hxx := Lib.hid hxx
      clear hxx
      have Hkv := Lib.hid hkv
      clear hkv
      have Hmp := Lib.hid hmp
      clear hmp
      have Hrf := Lib.hid hrf
      clear hrf
      have HF := Lib.hid hF
      clear hF
      have HR := Lib.hid hR
      clear hR
      have Hd := Lib.hid hd
      clear hd
      have Ht := Lib.hid ht
      clear ht
      by_cases h40 : xk.length ≤ 40
      · have d3 : decide ((40 : Int) < (xk.length : Int)) = false := by simp; omega
        cases xd with
        | true =>

          have tx : Ext wr (wr.alloc (.cells #[.slice ka xk.length kc, .int .u64 xv, .bool true] 57)) := (Touch.refl _ _).alloc _
          have e0 : (wr.alloc (.cells #[.slice ka xk.length kc, .int .u64 xv, .bool true] 57)).cell? ⟨wr.heap.size, 0, none⟩ = some (.slice ka xk.length kc) := by simp
          have e1 : (wr.alloc (.cells #[.slice ka xk.length kc, .int .u64 xv, .bool true] 57)).cell? ⟨wr.heap.size, 1, none⟩ = some (.int .u64 xv) := by simp
          have hsx : wr.heap.size < (wr.alloc (.cells #[.slice ka xk.length kc, .int .u64 xv, .bool true] 57)).heap.size := by simp
          have hnx : ¬ F' wr.heap.size := fun h => by have := Hmp.out.lt _ h; omega
          have hnr : r < wr.heap.size := Hrf.out.lt _ Hrf.out.self
          have hnin : ∀ b, In w b → ¬ F' b := fun b hb h => by have h1 : b < w.heap.size := hb; have := HF.out b h; omega
          have hrr : ¬ F' r := fun h => Hd.out r h Hrf.out.self
          have hw1 : w1.heap.size ≤ wr.heap.size := by have := HF.out g Hmp.out.self; have := Hmp.out.lt g Hmp.out.self; omega
          have Hnx := Lib.hid hnx
          clear hnx
          have Hrr := Lib.hid hrr
          clear hrr
          have Hnin := Lib.hid hnin
          clear hnin
          have hdr := fun W (t : Ext wr W) => drop_any W g (.slice ka xk.length kc) M xk (Hmp.out.ext t) (Hkv.out.ext t) Hxx.out.1 (by omega)
          unfold DropRet at hdr
          have hrd := fun W (t : Touch F' wr W) => RefJ.drop_any W r (.slice ka xk.length kc) M xk (Hrf.out.keep t (fun b hb h => Hd.out b h hb)) (Hkv.out.keep t Hnin.out) Hxx.out.1 (by omega)
          unfold RefJ.RDrop at hrd
          have hvv : (valK M xk != valK M xk) = false := by simp
          have hbb : (hasK M xk != hasK M xk) = false := by simp
          have hml := dropK_length M xk
          have Hdr := Lib.hid hdr
          clear hdr
          have Hrd := Lib.hid hrd
          clear hrd
          have Hml := Lib.hid hml
          clear hml
          go_wp2_with (fail)
          generalize wr.alloc (.cells #[.slice ka xk.length kc, .int .u64 xv, .bool true] 57) = wx at *
          (with_reducible refine (Hdr.out _ tx).mono ?_)
          rintro e w7 ⟨rfl, F8, hmp7, ht7, hF7⟩
          have e0 := keepc ht7 Hnx.out e0
          have hT7 : Touch F' wr w7 := tx.ext_trans ht7
          clear e1
          have Hmp7 := Lib.hid hmp7
          clear hmp7
          have HF7 := Lib.hid hF7
          clear hF7
          go_wp2_with (fail)
          (with_reducible refine (Hrd.out _ hT7).mono ?_)
          rintro e w8 ⟨rfl, R8, hrf8, ht8, hRR⟩
          have e0 := keepc ht8 (fun h => by simp only at h; omega) e0
          have hs7 := ht7.size
          have hF8 : ∀ b, F8 b → w1.heap.size ≤ b := fun b hb => (HF7.out b hb).elim (HF.out b) (fun h => by omega)
          have hR8 : ∀ b, R8 b → w1.heap.size ≤ b := fun b hb => (hRR b hb).elim (HR.out b) (fun h => by omega)
          have hd8 : ∀ b, F8 b → ¬ R8 b := fun b hb h => by
            have h1 := Hmp7.out.lt b hb
            rcases hRR b h with h2 | h2
            · rcases HF7.out b hb with h3 | h3
              · exact Hd.out b h3 h2
              · have := Hrf.out.lt b h2; omega
            · omega
          have hmp8 := Hmp7.out.keep ht8 (fun b hb h => by
            subst h
            rcases HF7.out b hb with h3 | h3
            · exact Hrr.out h3
            · omega)
          have x8 : Ext w w8 := ((Ht.out.trans' tx).ext_new ht7 (fun i hi => by have := HF.out i hi; omega)).ext_new ht8 (fun i hi => by subst hi; have := HR.out _ Hrf.out.self; omega)
          have hkv8 := (Hkv.out.keep hT7 Hnin.out).keep ht8 (fun b hb h => by subst h; have h1 : b < w.heap.size := hb; have := HR.out _ Hrf.out.self; omega)
          have hl8 : (dropK M xk).length ≤ 20 + (j + 1) := by have := Hml.out; omega
          generalize dropK M xk = M8 at *
          clear Hmp Hrf HF HR Hd Ht Hdr Hrd Hml Hnx Hrr Hnin HF7 Hmp7 Hkv hRR ht7 ht8 hT7 tx
          have hq1 := fun W (t : Ext w8 W) => asked_any W _ r (.slice a2 k.length c2) M8 k n (Mq.of (hmp8.ext t)) (hrf8.ext t) (H2.out.ext (x8.trans' t)) Kb.out (by omega) (by omega) (fun p hp => hmp8.long p hp) hV
          have hq2 := fun W (t : Ext w8 W) => asked_any W _ r (.slice ka xk.length kc) M8 xk j (Mq.of (hmp8.ext t)) (hrf8.ext t) (hkv8.ext t) Hxx.out.1 (by omega) (by omega) (fun p hp => hmp8.long p hp) (by unfold V64; omega)
          have Hq1 := Lib.hid hq1
          clear hq1
          have Hq2 := Lib.hid hq2
          clear hq2
          have Hmp8 := Lib.hid hmp8
          clear hmp8
          have Hrf8 := Lib.hid hrf8
          clear hrf8
          have HF8 := Lib.hid hF8
          clear hF8
          have HR8 := Lib.hid hR8
          clear hR8
          have Hd8 := Lib.hid hd8
          clear hd8
          have X8 := Lib.hid x8
          clear x8
          have Hkv8 := Lib.hid hkv8
          clear hkv8
          go_wp2_with (fail)
          (with_reducible refine (Hq1.out _ (Touch.refl _ _)).mono ?_)
          rintro e w9 ⟨rfl, t9⟩
          have e0 := keepc t9 id e0
          go_wp2_with (fail)
          (with_reducible refine (Hq2.out _ t9).mono ?_)
          rintro e w10 ⟨rfl, t10⟩
          go_wp2_with (fail)
          go_roundw
          case rel => exact ⟨j + 1, M8, F8, R8, by omega, by go_num, Hmp8.out.ext (t9.trans' t10), Hrf8.out.ext (t9.trans' t10), HF8.out, HR8.out, Hd8.out, by omega, X8.out.trans' (t9.trans' t10)⟩
          case measure => simp [intOf]; omega
        | false =>
          have tx : Ext wr (wr.alloc (.cells #[.slice ka xk.length kc, .int .u64 xv, .bool false] 57)) := (Touch.refl _ _).alloc _
          have e0 : (wr.alloc (.cells #[.slice ka xk.length kc, .int .u64 xv, .bool false] 57)).cell? ⟨wr.heap.size, 0, none⟩ = some (.slice ka xk.length kc) := by simp
          have e1 : (wr.alloc (.cells #[.slice ka xk.length kc, .int .u64 xv, .bool false] 57)).cell? ⟨wr.heap.size, 1, none⟩ = some (.int .u64 xv) := by simp
          have hsx : wr.heap.size < (wr.alloc (.cells #[.slice ka xk.length kc, .int .u64 xv, .bool false] 57)).heap.size := by simp
          have hnx : ¬ F' wr.heap.size := fun h => by have := Hmp.out.lt _ h; omega
          have hnr : r < wr.heap.size := Hrf.out.lt _ Hrf.out.self
          have hnin : ∀ b, In w b → ¬ F' b := fun b hb h => by have h1 : b < w.heap.size := hb; have := HF.out b h; omega
          have hrr : ¬ F' r := fun h => Hd.out r h Hrf.out.self
          have hw1 : w1.heap.size ≤ wr.heap.size := by have := HF.out g Hmp.out.self; have := Hmp.out.lt g Hmp.out.self; omega
          have Hnx := Lib.hid hnx
          clear hnx
          have Hrr := Lib.hid hrr
          clear hrr
          have Hnin := Lib.hid hnin
          clear hnin
          have hle := fun W (t : Ext wr W) => SameP.lend_any W _ (.slice ka xk.length kc) xk (Hkv.out.ext t) (by omega)
          have hvv : (valK M xk != valK M xk) = false := by simp
          have hbb : (hasK M xk != hasK M xk) = false := by simp
          have hml := putK_length_le M xk xv
          have Hml := Lib.hid hml
          clear hml
          have Hle := Lib.hid hle
          clear hle
          go_wp2_with (fail)
          generalize wr.alloc (.cells #[.slice ka xk.length kc, .int .u64 xv, .bool false] 57) = wx at *
          (with_reducible refine (Hle.out _ tx).mono ?_)
          rintro e w3' ⟨⟨gk, rfl, hle, hgk⟩, t3⟩
          have tx := tx.trans' t3
          have e0 := keepc t3 id e0
          have e1 := keepc t3 id e1
          have hpu := ModF.put_any w3' g _ M xk xv (Hmp.out.ext tx) hle.rb Hxx.out.1 (by omega) (by omega)
          unfold PutRet at hpu
          have hgl := hle.ob.lt gk rfl
          have hnk : ¬ F' gk := fun h => by have := Hmp.out.lt _ h; omega
          have hs3 := t3.size
          clear t3
          have Hpu := Lib.hid hpu
          clear hpu
          have Hle := Lib.hid hle
          clear hle
          have Hnk := Lib.hid hnk
          clear hnk
          go_wp2_with (fail)
          (with_reducible refine Hpu.out.mono ?_)
          rintro e w7 ⟨rfl, F8, hmp7, ht7, hF7⟩
          have e0 := keepc ht7 Hnx.out e0
          have e1 := keepc ht7 Hnx.out e1
          have hov := SameP.over_bytes w7 _ xk ((Hle.out.keep ht7 Hnk.out).ob) (by omega)
          have hs7' := ht7.size
          have Hov := Lib.hid hov
          clear hov
          have hF7' := hF7
          have Hmp7 := Lib.hid hmp7
          clear hmp7
          have HF7 := Lib.hid hF7
          clear hF7
          go_wp2_with (fail)
          (with_reducible refine Hov.out.mono ?_)
          rintro e w7' ⟨rfl, hto⟩
          have hto : Touch (fun b => b = gk) w7 w7' := hto.mono (fun i hi _ => by cases hi; rfl)
          have e0 := keepc hto (fun h => by simp only at h; omega) e0
          have e1 := keepc hto (fun h => by simp only at h; omega) e1
          have hmp7 := Hmp7.out.keep hto (fun b hb h => by
            subst h
            rcases hF7' b hb with h3 | h3
            · exact Hnk.out h3
            · omega)
          have hT7 : Touch (fun b => F' b ∨ wr.heap.size ≤ b) wr w7' := ((tx.ext_trans ht7).mono (T := fun b => F' b ∨ wr.heap.size ≤ b) (fun i hi _ => Or.inl hi)).trans hto (fun i hi _ => by subst hi; exact Or.inr (by omega))
          have hrd := RefJ.put_any w7' r (.slice ka xk.length kc) M xk xv (Hrf.out.keep hT7 (fun b hb h => by
            rcases h with h | h
            · exact Hd.out b h hb
            · have := Hrf.out.lt b hb; omega)) (Hkv.out.keep hT7 (fun b hb h => by
            rcases h with h | h
            · exact Hnin.out b hb h
            · have h1 : b < w.heap.size := hb; omega)) Hxx.out.1 (by omega) (by omega)
          unfold RefJ.RPut at hrd
          have hso := hto.size
          clear Hmp7 hF7'
          have Hrd := Lib.hid hrd
          clear hrd
          have Hmp7 := Lib.hid hmp7
          clear hmp7
          go_wp2_with (fail)
          (with_reducible refine Hrd.out.mono ?_)
          rintro e w8 ⟨rfl, R8, hrf8, ht8, hRR⟩
          have e0 := keepc ht8 (fun h => by simp only at h; omega) e0
          clear e1
          have hs7 := hs7'
          have hF8 : ∀ b, F8 b → w1.heap.size ≤ b := fun b hb => (HF7.out b hb).elim (HF.out b) (fun h => by omega)
          have hR8 : ∀ b, R8 b → w1.heap.size ≤ b := fun b hb => (hRR b hb).elim (HR.out b) (fun h => by omega)
          have hd8 : ∀ b, F8 b → ¬ R8 b := fun b hb h => by
            have h1 := Hmp7.out.lt b hb
            rcases hRR b h with h2 | h2
            · rcases HF7.out b hb with h3 | h3
              · exact Hd.out b h3 h2
              · have := Hrf.out.lt b h2; omega
            · omega
          have hmp8 := Hmp7.out.keep ht8 (fun b hb h => by
            subst h
            rcases HF7.out b hb with h3 | h3
            · exact Hrr.out h3
            · omega)
          have x8 : Ext w w8 := (((Ht.out.trans' tx).ext_new ht7 (fun i hi => by have := HF.out i hi; omega)).ext_new hto (fun i hi => by subst hi; omega)).ext_new ht8 (fun i hi => by subst hi; have := HR.out _ Hrf.out.self; omega)
          have hkv8 := (Hkv.out.keep hT7 (fun b hb h => by
            rcases h with h | h
            · exact Hnin.out b hb h
            · have h1 : b < w.heap.size := hb; omega)).keep ht8 (fun b hb h => by subst h; have h1 : b < w.heap.size := hb; have := HR.out _ Hrf.out.self; omega)
          have hl8 : (putK M xk xv).length ≤ 20 + (j + 1) := by have := Hml.out; omega
          generalize putK M xk xv = M8 at *
          clear Hmp Hrf HF HR Hd Ht Hrd Hml Hnx Hrr Hnin HF7 Hmp7 Hkv hRR ht7 ht8 hto hT7 tx Hov Hpu Hle Hnk
          have hq1 := fun W (t : Ext w8 W) => asked_any W _ r (.slice a2 k.length c2) M8 k n (Mq.of (hmp8.ext t)) (hrf8.ext t) (H2.out.ext (x8.trans' t)) Kb.out (by omega) (by omega) (fun p hp => hmp8.long p hp) hV
          have hq2 := fun W (t : Ext w8 W) => asked_any W _ r (.slice ka xk.length kc) M8 xk j (Mq.of (hmp8.ext t)) (hrf8.ext t) (hkv8.ext t) Hxx.out.1 (by omega) (by omega) (fun p hp => hmp8.long p hp) (by unfold V64; omega)
          have Hq1 := Lib.hid hq1
          clear hq1
          have Hq2 := Lib.hid hq2
          clear hq2
          have Hmp8 := Lib.hid hmp8
          clear hmp8
          have Hrf8 := Lib.hid hrf8
          clear hrf8
          have HF8 := Lib.hid hF8
          clear hF8
          have HR8 := Lib.hid hR8
          clear hR8
          have Hd8 := Lib.hid hd8
          clear hd8
          have X8 := Lib.hid x8
          clear x8
          have Hkv8 := Lib.hid hkv8
          clear hkv8
          go_wp2_with (fail)
          (with_reducible refine (Hq1.out _ (Touch.refl _ _)).mono ?_)
          rintro e w9 ⟨rfl, t9⟩
          have e0 := keepc t9 id e0
          go_wp2_with (fail)
          (with_reducible refine (Hq2.out _ t9).mono ?_)
          rintro e w10 ⟨rfl, t10⟩
          go_wp2_with (fail)
          go_roundw
          case rel => exact ⟨j + 1, M8, F8, R8, by omega, by go_num, Hmp8.out.ext (t9.trans' t10), Hrf8.out.ext (t9.trans' t10), HF8.out, HR8.out, Hd8.out, by omega, X8.out.trans' (t9.trans' t10)⟩
          case measure => simp [intOf]; omega
      · have d3 : decide ((40 : Int) < (xk.length : Int)) = true := by simp; omega
        go_wp2_with (fail)
        refine (awake_any _).mono ?_
        rintro e w7 ⟨rfl, t7⟩
        go_wp2_with (fail)
        go_ret
        exact ⟨rfl, (Ht.out.alloc _).trans' t7⟩
    · obtain rfl : j = xs.length := by omega
      have i1 : ¬ ((xs.length : Nat) : Int) < (xs.length : Int) := by omega
      have hpl : ∀ p ∈ M, p.1.length ≤ 1000000 := fun p hp => by have := hmp.long p hp; omega
      obtain ⟨va, q0, hrow⟩ := hrf.row
      obtain ⟨ra, rc, rfl, _⟩ := hrow.shape
      have q1 := q0
      have hall := fun W (t : Ext wr W) => all_any W _ M (Mq.of (hmp.ext t)) (by omega)
      have hcopy := fun W (t : Ext wr W) => copy_any W g M (hmp.ext t) (by omega)
      have hsp := fun W (t : Ext wr W) (v : Value) (F : Nat → Prop) (ho : OP W F v M) => SameP.same_pairs W v _ M ho.rp (hrow.ext t) (by omega) hpl
      have Q1 := Lib.hid q1
      clear q1
      have Hmp := Lib.hid hmp
      clear hmp
      have Hrf := Lib.hid hrf
      clear hrf
      have HF := Lib.hid hF
      clear hF
      have HR := Lib.hid hR
      clear hR
      have Hd := Lib.hid hd
      clear hd
      have Ht := Lib.hid ht
      clear ht
      have Hpl := Lib.hid hpl
      clear hpl
      have Hrow := Lib.hid hrow
      clear hrow
      have Hall := Lib.hid hall
      clear hall
      have Hcopy := Lib.hid hcopy
      clear hcopy
      have Hsp := Lib.hid hsp
      clear hsp
      go_wp2_with (fail)
      (with_reducible refine (Hall.out _ (Touch.refl _ _)).mono ?_)
      rintro e u1 ⟨⟨v1, rfl, ho1⟩, t1⟩
      have ho1 := ho1.bound
      obtain ⟨o1a, o1c, rfl, _⟩ := ho1.rp.shape
      have q0 := keepc t1 id q0
      have Ho1 := Lib.hid ho1
      clear ho1
      go_wp2_with (fail)
      (with_reducible refine (Hcopy.out _ t1).mono ?_)
      rintro e u2 ⟨⟨g2, rfl, hmc⟩, t2⟩
      have q0 := keepc t2 id q0
      have ho2 := Ho1.out.ext t2
      have x2 := t1.trans' t2
      have hall2 := fun W (t : Ext u2 W) => all_any W _ M (Mq.of (hmc.ext t)) (by omega)
      clear hmc Ho1
      have Ho2 := Lib.hid ho2
      clear ho2
      have Hall2 := Lib.hid hall2
      clear hall2
      go_wp2_with (fail)
      refine wp_region_plan (.take 0 (.take 1 (.take 2 (.take 3 (.take 4 (.must 5 (.take 6 (.take 7 (.take 8 (.take 9 (.take 10 (.take 11 (.take 13 (.take 14 (.take 15 (.take 16 (.must 12 (.must 17 (.take 18 (.take 19 .done)))))))))))))))))))) (fun wy => wy.cell? ⟨r, 0, none⟩ = some (.slice ra M.length rc)) (by kernel_rfl) (by kernel_rfl) (by kernel_rfl) rfl ?_ (fun KK hKK => ?_)
      · exact q0
      repeat (first
        | (refine wpPlan_take (v := ?_) rfl (by rfl) (fun W hW => ?_) ?_; rotate_left; (focus ((try dsimp only at hW); go_split_ands; go_simp; (try with_reducible rfl); done)); (try simp only [Act.put, List.setIfInBounds_toArray, List.set_cons_zero, List.set_cons_succ]))
        | (refine wpPlan_skip rfl (by rfl) ?_; (try simp only [Act.put, List.setIfInBounds_toArray, List.set_cons_zero, List.set_cons_succ])))
      refine wpPlan_must rfl (by rfl) (fun K hK => ?_)
      go_simp
      (with_reducible refine (Hsp.out _ x2.drew _ _ (Ho2.out.ext (Touch.refl _ _).drew)).mono ?_)
      rintro e u3 ⟨rfl, t3⟩
      have t23 : Ext u2 u3 := (Touch.refl _ _).drew.trans' t3
      refine hK.out _ _ ?_ ?_
      · exact keepc t23 id q0
      clear hK K
      (try simp only [Act.put, List.setIfInBounds_toArray, List.set_cons_zero, List.set_cons_succ])
      repeat (first
        | (refine wpPlan_take (v := ?_) rfl (by rfl) (fun W hW => ?_) ?_; rotate_left; (focus ((try dsimp only at hW); go_split_ands; go_simp; (try with_reducible rfl); done)); (try simp only [Act.put, List.setIfInBounds_toArray, List.set_cons_zero, List.set_cons_succ]))
        | (refine wpPlan_skip rfl (by rfl) ?_; (try simp only [Act.put, List.setIfInBounds_toArray, List.set_cons_zero, List.set_cons_succ])))
      refine wpPlan_must rfl (by rfl) (fun K hK => ?_)
      go_simp
      (with_reducible refine (Hall2.out _ t23).mono ?_)
      rintro e u4 ⟨⟨v4, rfl, ho4⟩, t4⟩
      obtain ⟨o4a, o4c, rfl, _⟩ := ho4.rp.shape
      have t24 := t23.trans' t4
      have Ho4 := Lib.hid ho4
      clear ho4
      refine hK.out _ _ ?_ ?_
      · exact keepc t24 id q0
      clear hK K
      (try simp only [Act.put, List.setIfInBounds_toArray, List.set_cons_zero, List.set_cons_succ])
      repeat (first
        | (refine wpPlan_take (v := ?_) rfl (by rfl) (fun W hW => ?_) ?_; rotate_left; (focus ((try dsimp only at hW); go_split_ands; go_simp; (try with_reducible rfl); done)); (try simp only [Act.put, List.setIfInBounds_toArray, List.set_cons_zero, List.set_cons_succ]))
        | (refine wpPlan_skip rfl (by rfl) ?_; (try simp only [Act.put, List.setIfInBounds_toArray, List.set_cons_zero, List.set_cons_succ])))
      refine wpPlan_must rfl (by rfl) (fun K hK => ?_)
      go_simp
      (with_reducible refine (Hsp.out _ (x2.trans' t24) _ _ Ho4.out).mono ?_)
      rintro e u5 ⟨rfl, t5⟩
      have t25 := t24.trans' t5
      refine hK.out _ _ ?_ ?_
      · exact keepc t25 id q0
      clear hK K
      (try simp only [Act.put, List.setIfInBounds_toArray, List.set_cons_zero, List.set_cons_succ])
      repeat (first
        | (refine wpPlan_take (v := ?_) rfl (by rfl) (fun W hW => ?_) ?_; rotate_left; (focus ((try dsimp only at hW); go_split_ands; go_simp; (try with_reducible rfl); done)); (try simp only [Act.put, List.setIfInBounds_toArray, List.set_cons_zero, List.set_cons_succ]))
        | (refine wpPlan_skip rfl (by rfl) ?_; (try simp only [Act.put, List.setIfInBounds_toArray, List.set_cons_zero, List.set_cons_succ])))
      refine wpPlan_done (hKK.out _ _ ?_)
      clear hKK KK
      have hov := SameP.over_pairs u5 _ M (Ho2.out.ext t25) (by omega) Hpl.out
      have Hov := Lib.hid hov
      clear hov
      go_wp2_with (fail)
      (with_reducible refine Hov.out.mono ?_)
      rintro e u6 ⟨rfl, t6⟩
      have x6 : Ext wr u6 := (x2.trans' t25).ext_new t6 (fun i hi => hi.1)
      have q0 := keepc x6 id Q1.out
      go_wp2_with (fail)
      refine wp_region_plan (.take 0 (.take 1 (.take 2 (.take 4 (.take 5 (.take 6 (.take 7 (.must 3 (.must 8 (.take 9 (.take 10 (.must 11 (.take 12 (.take 13 .done)))))))))))))) (fun wy => wy.cell? ⟨r, 0, none⟩ = some (.slice ra M.length rc)) (by kernel_rfl) (by kernel_rfl) (by kernel_rfl) rfl ?_ (fun KK hKK => ?_)
      · exact q0
      repeat (first
        | (refine wpPlan_take (v := ?_) rfl (by rfl) (fun W hW => ?_) ?_; rotate_left; (focus ((try dsimp only at hW); go_split_ands; go_simp; (try with_reducible rfl); done)); (try simp only [Act.put, List.setIfInBounds_toArray, List.set_cons_zero, List.set_cons_succ]))
        | (refine wpPlan_skip rfl (by rfl) ?_; (try simp only [Act.put, List.setIfInBounds_toArray, List.set_cons_zero, List.set_cons_succ])))
      refine wpPlan_must rfl (by rfl) (fun K hK => ?_)
      go_simp
      (with_reducible refine (Hall.out _ x6.drew).mono ?_)
      rintro e u7 ⟨⟨v7, rfl, ho7⟩, t7⟩
      obtain ⟨o7a, o7c, rfl, _⟩ := ho7.rp.shape
      have t67 : Ext u6 u7 := (Touch.refl _ _).drew.trans' t7
      have Ho7 := Lib.hid ho7
      clear ho7
      refine hK.out _ _ ?_ ?_
      · exact keepc t67 id q0
      clear hK K
      (try simp only [Act.put, List.setIfInBounds_toArray, List.set_cons_zero, List.set_cons_succ])
      repeat (first
        | (refine wpPlan_take (v := ?_) rfl (by rfl) (fun W hW => ?_) ?_; rotate_left; (focus ((try dsimp only at hW); go_split_ands; go_simp; (try with_reducible rfl); done)); (try simp only [Act.put, List.setIfInBounds_toArray, List.set_cons_zero, List.set_cons_succ]))
        | (refine wpPlan_skip rfl (by rfl) ?_; (try simp only [Act.put, List.setIfInBounds_toArray, List.set_cons_zero, List.set_cons_succ])))
      refine wpPlan_must rfl (by rfl) (fun K hK => ?_)
      go_simp
      (with_reducible refine (Hsp.out _ (x6.trans' t67) _ _ Ho7.out).mono ?_)
      rintro e u8 ⟨rfl, t8⟩
      have t68 := t67.trans' t8
      refine hK.out _ _ ?_ ?_
      · exact keepc t68 id q0
      clear hK K
      (try simp only [Act.put, List.setIfInBounds_toArray, List.set_cons_zero, List.set_cons_succ])
      repeat (first
        | (refine wpPlan_take (v := ?_) rfl (by rfl) (fun W hW => ?_) ?_; rotate_left; (focus ((try dsimp only at hW); go_split_ands; go_simp; (try with_reducible rfl); done)); (try simp only [Act.put, List.setIfInBounds_toArray, List.set_cons_zero, List.set_cons_succ]))
        | (refine wpPlan_skip rfl (by rfl) ?_; (try simp only [Act.put, List.setIfInBounds_toArray, List.set_cons_zero, List.set_cons_succ])))
      refine wpPlan_must rfl (by rfl) (fun K hK => ?_)
      go_simp
      refine (awake_any _).mono ?_
      rintro e u9 ⟨rfl, t9⟩
      have t69 := t68.trans' t9
      refine hK.out _ _ ?_ ?_
      · exact keepc t69 id q0
      clear hK K
      (try simp only [Act.put, List.setIfInBounds_toArray, List.set_cons_zero, List.set_cons_succ])
      repeat (first
        | (refine wpPlan_take (v := ?_) rfl (by rfl) (fun W hW => ?_) ?_; rotate_left; (focus ((try dsimp only at hW); go_split_ands; go_simp; (try with_reducible rfl); done)); (try simp only [Act.put, List.setIfInBounds_toArray, List.set_cons_zero, List.set_cons_succ]))
        | (refine wpPlan_skip rfl (by rfl) ?_; (try simp only [Act.put, List.setIfInBounds_toArray, List.set_cons_zero, List.set_cons_succ])))
      refine wpPlan_done (hKK.out _ _ ?_)
      clear hKK KK
      go_wp2_with (fail)
      go_ret
      exact ⟨rfl, Ht.out.trans' (x6.trans' t69)⟩

set_option maxRecDepth 100000 in
set_option maxHeartbeats 400000 in
theorem walk_great (v0 v1 v2 : Value) (n : Int) (ps : Prs) (xs : Acts) (k : List Int) (F : Nat → Prop) (w : World) (h0 : RP w F v0 ps) (h1 : RAct w F v1 xs) (h2 : RB w F v2 k)
    (h : SameP.great ps 20 40 = true ∨ SameP.great ps 20 40 = false ∧ 60 < xs.length ∨ SameP.great ps 20 40 = false ∧ xs.length ≤ 60 ∧ 40 < k.length) :
    Calls Try.prog 6 #[v0, v1, v2, .int .i64 n] w fun e w' => e = .returned (.bool true) ∧ Ext w w' := by
  obtain ⟨a0, c0, rfl, l1, l2⟩ := h0.shape
  obtain ⟨a1, c1, rfl, l3, l4⟩ := h1.shape
  obtain ⟨a2, c2, rfl, l5, l6⟩ := h2.shape
  unfold maxLen at l2 l4 l6
  have hgr := SameP.great_any w F _ ps 20 40 h0 (by decide) (by decide) (by decide) (by decide)
  rcases h with hg | ⟨hg, hk⟩ | ⟨hg, hx, hk⟩
  · rw [hg] at hgr
    clear hg
    have Hgr := Lib.hid hgr
    clear hgr
    go_enter Try.func6, Try.ntmps6
    go_wp2_with (fail)
    refine Hgr.out.mono ?_
    rintro e w' ⟨rfl, rfl⟩
    go_wp2_with (fail)
    refine (awake_any _).mono ?_
    rintro e w' ⟨rfl, ht⟩
    go_wp2_with (fail)
    go_ret
    exact ⟨rfl, ht⟩
  · rw [hg] at hgr
    have dk : decide ((60 : Int) < (xs.length : Int)) = true := by simp; omega
    clear hg
    have Hgr := Lib.hid hgr
    clear hgr
    go_enter Try.func6, Try.ntmps6
    go_wp2_with (fail)
    refine Hgr.out.mono ?_
    rintro e w' ⟨rfl, rfl⟩
    go_wp2_with (fail)
    refine (awake_any _).mono ?_
    rintro e w' ⟨rfl, ht⟩
    go_wp2_with (fail)
    go_ret
    exact ⟨rfl, ht⟩
  · rw [hg] at hgr
    have dx : decide ((60 : Int) < (xs.length : Int)) = false := by simp; omega
    have dk : decide ((40 : Int) < (k.length : Int)) = true := by simp; omega
    clear hg
    have Hgr := Lib.hid hgr
    clear hgr
    go_enter Try.func6, Try.ntmps6
    go_wp2_with (fail)
    refine Hgr.out.mono ?_
    rintro e w' ⟨rfl, rfl⟩
    go_wp2_with (fail)
    refine (awake_any _).mono ?_
    rintro e w' ⟨rfl, ht⟩
    go_wp2_with (fail)
    go_ret
    exact ⟨rfl, ht⟩

set_option maxRecDepth 100000 in
theorem lifted (os : Os) (started : os.Started) (H : Type) (enc : TypeId × Value → H) :
    ReturnsInHanded {} Try.checked os 6 .any (Rows.modelScriptSpec.pre6 enc Try.prog Try.f6 Rows.modelScriptRow.domain false) (Rows.modelScriptSpec.post enc Try.prog Try.f6 false true false false) := by
  refine returnsInHanded_of_change (C := Try.checked) Try.own started (by kernel_rfl) Try.func6
    (ChangeSpec.witness6 (enc := enc) (C := Try.checked) false ⟨#[], #[.slice none 0 0, .slice none 0 0, .slice none 0 0, .int .i64 0], []⟩ 8 (by kernel_rfl) (by kernel_rfl) (by kernel_rfl) (by kernel_rfl)) ?_
  intro W base args ds gs before hval0 hW hcnd _
  have hval : ∀ (j : Nat) t v, Try.f6.params[j]? = some t → args[j]? = some v → Value.okWide Try.prog W .any base t v := hval0
  have hW' := hW
  obtain ⟨p, q, hA0, hV, rfl, hfz, hnd⟩ := hW
  have hA : DataW.TrodAll enc Try.prog W 0 (fun _ => true) true Try.f6.params.toList args.toList ds p := hA0
  rw [Try.params6] at hA hval
  obtain ⟨v0, v1, v2, v3, d0, d1, d2, d3, p0, p1, p2, p3, rfl, rfl, rfl, h0, h1, h2, h3⟩ := trodAll_four hA
  obtain ⟨rfl, rfl⟩ := trodVars_none hV
  refine Calls.mono (R := fun e w' => e = .returned (.bool true) ∧ Touch (fun _ => False) W w') ?_ fun e W' ⟨he, hw⟩ => (by subst he; exact ⟨_, rfl, law_post Try.laidOut (by kernel_rfl) rfl Try.underlying4 rfl rfl ⟨rfl, rfl, rfl⟩ hW' (hw.below fun _ h _ => h)⟩)
  obtain ⟨ps, hps, hpp⟩ := rp_of_arg (hval 0 22 v0 rfl rfl) h0
  obtain ⟨xs, hxs, hxp⟩ := racts_of_arg (hval 1 50 v1 rfl rfl) h1
  obtain ⟨k, hk, hkb⟩ := rb_of_arg (hval 2 23 v2 rfl rfl) h2
  obtain ⟨x, rfl, rfl, rfl, hwx⟩ := open_int Try.underlying3 (hval 3 3 v3 rfl rfl) h3
  by_cases hg : SameP.great ps 20 40 = true
  · exact walk_great v0 v1 v2 x ps xs k _ W hps hxs hk (Or.inl hg)
  · have hg : SameP.great ps 20 40 = false := by simpa using hg
    have hgn := great_not (most := 20) (long := 40) hg
    by_cases hx : xs.length ≤ 60
    · by_cases hl : k.length ≤ 40
      · exact walk_small v0 v1 v2 x ps xs k W hps hxs hk (fun p hp => ⟨(hpp p hp).1, by have := hgn.2 p hp; omega⟩) hkb hxp hg hgn.1 hx hl (v64_wf hwx)
      · exact walk_great v0 v1 v2 x ps xs k _ W hps hxs hk (Or.inr (Or.inr ⟨hg, hx, by omega⟩))
    · exact walk_great v0 v1 v2 x ps xs k _ W hps hxs hk (Or.inr (Or.inl ⟨hg, by omega⟩))
theorem modelScript_holds : Rows.ModelScriptSaid :=
  OpenClaim.holds_of_wide 6 Try.f6 rfl rfl rfl rfl rfl rfl rfl ⟨rfl, rfl, rfl, rfl, rfl⟩ rfl rfl rfl rfl rfl (by kernel_rfl) Try.func6 (by kernel_rfl)
    (of_decide_eq_true (by kernel_rfl)) (by unfold Func.isWrapper; first | (rw [if_pos (by decide +kernel)]; kernel_rfl) | (rw [if_neg (by decide +kernel)]; exact ⟨rfl, rfl⟩))
    (fun os started H enc _ => lifted os started H enc)
end LawModelScript
end Go.Proofs.Ythannllagabclaa
