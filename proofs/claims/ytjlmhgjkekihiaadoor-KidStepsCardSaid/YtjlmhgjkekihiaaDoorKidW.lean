/- Package kid: plain laws; awake. -/
import Derived.Test.YtjlmhgjkekihiaaDoorKidB
import Derived.Test.YtjlmhgjkekihiaaDoorSameA
namespace Go.Proofs.YtjlmhgjkekihiaaDoor
open Go.RowKit
set_option linter.unusedVariables false
set_option linter.unusedSimpArgs false
namespace KidW
open MaskA MaskP KidA KidB
theorem cnt_setb (f : Nat → Bool) (b : Nat) (v : Bool) : ∀ n, b < n → cnt (setb f b v) n + (f b).toNat = cnt f n + v.toNat := by
  intro n
  induction n with
  | zero => intro h; omega
  | succ n ih =>
    intro h
    simp only [cnt]
    rcases Nat.eq_or_lt_of_le (Nat.le_of_lt_succ h) with e | e
    · subst e
      have h1 : cnt (setb f b v) b = cnt f b := cnt_congr fun i hi => by simp [setb, show ¬ i = b by omega]
      have h2 : setb f b v b = v := by simp [setb]
      rw [h1, h2]; omega
    · have h2 : setb f b v n = f n := by simp [setb, show ¬ n = b by omega]
      have := ih e
      rw [h2]; omega
theorem cnt_put (h : Nat → Int) {b : Nat} (hb : b < 256) {x : Int} (hx : x ≠ 0) (hz : h b = 0) : cnt (hs (seth h b x)) 256 = cnt (hs h) 256 + 1 := by
  have h1 := cnt_setb (hs h) b true 256 hb
  have h2 : hs h b = false := by simp [hs, hz]
  rw [hs_put h b hx]
  rw [h2] at h1
  simpa using h1
theorem cnt_again (h : Nat → Int) {b : Nat} (hb : b < 256) {x : Int} (hx : x ≠ 0) (hz : h b ≠ 0) : cnt (hs (seth h b x)) 256 = cnt (hs h) 256 := by
  have h1 := cnt_setb (hs h) b true 256 hb
  have h2 : hs h b = true := by simp [hs, hz]
  rw [hs_put h b hx]
  rw [h2] at h1
  simpa using h1
theorem cnt_drop (h : Nat → Int) {b : Nat} (hb : b < 256) (hz : h b ≠ 0) : cnt (hs (seth h b 0)) 256 + 1 = cnt (hs h) 256 := by
  have h1 := cnt_setb (hs h) b false 256 hb
  have h2 : hs h b = true := by simp [hs, hz]
  rw [hs_drop h b]
  rw [h2] at h1
  simpa using h1

def fives (j : Nat) : Nat → Int := fun i => if i < j then 7 else 0
theorem fives_put (j : Nat) : seth (fives j) j 7 = fives (j + 1) := by
  funext i; simp only [seth, fives]
  by_cases h : i = j
  · simp [h]
  · by_cases h2 : i < j
    · rw [if_neg h, if_pos h2, if_pos (by omega)]
    · rw [if_neg h, if_neg h2, if_neg (by omega)]
theorem fives_drop (j : Nat) : seth (fives (j + 1)) j 0 = fives j := by
  funext i; simp only [seth, fives]
  by_cases h : i = j
  · simp [h]
  · by_cases h2 : i < j
    · rw [if_neg h, if_pos (by omega), if_pos h2]
    · rw [if_neg h, if_neg (by omega), if_neg h2]
theorem fives_cnt (j : Nat) : j ≤ 5 → cnt (hs (fives j)) 256 = j := by
  induction j with
  | zero => intro _; exact cnt_none 256
  | succ j ih =>
    intro hj
    rw [← fives_put, cnt_put _ (by omega) (by omega) (by simp [fives]), ih (by omega)]
theorem tb_lt {w : World} (t : Tb w) : 1 < w.heap.size := World.block_lt_of_cell? _ ⟨1, 0, none⟩ t.l0

set_option maxRecDepth 100000 in
set_option maxHeartbeats 1600000 in
theorem awake_any (w : World) (htb : Tb w) : Calls Tryd.prog 14 #[] w fun e w' => e = .returned (.bool true) ∧ Ext w w' := by
  have hnw := KidA.new_any w
  unfold KNew at hnw
  have hlt := tb_lt htb
  obtain ⟨g, hg⟩ : ∃ g, g = w.heap.size := ⟨_, rfl⟩
  rw [← hg] at hnw
  have hgg : g ≠ 0 ∧ g ≠ 1 := by omega
  have hgw : w.heap.size ≤ g := by omega
  have Hnw := Lib.hid hnw
  clear hnw
  have Htb := Lib.hid htb
  clear htb
  have Hg := Lib.hid hg
  clear hg
  go_enter Tryd.func14, Tryd.ntmps14
  go_wp2_with (fail)
  (with_reducible refine Hnw.out.mono ?_)
  rintro e w1 ⟨rfl, hk0, t1⟩
  have Hk0 := Lib.hid hk0
  clear hk0
  have T1 := Lib.hid t1
  clear t1
  go_wp2_with (fail)
  go_loopw [2] (fun s2 wr => ∃ j : Nat, j ≤ 5 ∧ s2 = .int .i64 j ∧ Kn wr g ((if j = 5 then 1 else 0 : Nat) : Int) (fives j) ∧ Ext w wr) (fun s2 _ => 5 - (intOf s2).toNat)
  case atStart => exact ⟨0, by omega, rfl, by have h := Hk0.out; exact h, T1.out⟩
  case round =>
    obtain ⟨j, hj, rfl, hkn, ht⟩ := hrel
    clear Hk0 T1
    by_cases hj5 : j < 5
    · rw [if_neg (by omega)] at hkn
      have hpt := put_any (w := wr) 0 hkn (by omega) (Htb.out.ext ht) hgg j (by omega) 7 (by decide)
      unfold KPut at hpt
      rw [fives_put, fives_cnt (j + 1) (by omega)] at hpt
      have hup : upK 0 (j + 1) = if j + 1 = 5 then 1 else 0 := by
        have hr : roomI 0 = 4 := rfl
        unfold upK
        rw [hr]
        by_cases h : j + 1 = 5
        · rw [if_pos h, if_pos (by omega)]
        · rw [if_neg h, if_neg (by omega)]
      rw [hup] at hpt
      have hwr : IntKind.u8.wrap (j : Int) = j := wrap_u8 (by omega)
      have j5 : (j : Int) < 5 := by omega
      have Hkn := Lib.hid hkn
      clear hkn
      have Ht := Lib.hid ht
      clear ht
      have Hpt := Lib.hid hpt
      clear hpt
      have Hup := Lib.hid hup
      clear hup
      go_wp2_with (fail)
      (with_reducible refine Hpt.out.mono ?_)
      rintro e w2 ⟨rfl, hk2, t2⟩
      have Hk2 := Lib.hid hk2
      clear hk2
      have T2 := Lib.hid t2
      clear t2
      go_wp2_with (fail)
      go_roundw
      case rel => exact ⟨j + 1, by omega, by go_num, Hk2.out, Ht.out.ext_new T2.out (fun i hi => by omega)⟩
      case measure => simp [intOf]; omega
    · obtain rfl : j = 5 := by omega
      rw [if_pos rfl] at hkn
      have h5 : ¬ ((5 : Nat) : Int) < 5 := by omega
      obtain ⟨wa, rfl⟩ : ∃ wa, wa = wr := ⟨_, rfl⟩
      have hkd := kind_any (w := wa) 1 hkn (by omega)
      have hdr := drop_any (w := wa) 1 hkn (by omega) (Htb.out.ext ht) hgg 4 (by omega) (by decide)
      unfold KDrop at hdr
      rw [fives_drop 4, fives_cnt 4 (by omega), show dnK 1 4 = 1 from rfl, show fives 5 4 = 7 from rfl, show ((4 : Nat) : Int) = 4 from rfl] at hdr
      have Hkn := Lib.hid hkn
      clear hkn
      have Ht := Lib.hid ht
      clear ht
      have Hkd := Lib.hid hkd
      clear hkd
      have Hdr := Lib.hid hdr
      clear hdr
      go_wp2_with (fail)
      (with_reducible refine Hkd.out.mono ?_)
      rintro e w2 ⟨rfl, rfl⟩
      go_wp2_with (fail)
      (with_reducible refine Hdr.out.mono ?_)
      rintro e w2 ⟨rfl, hk2, t2⟩
      have x2 := Ht.out.ext_new t2 (fun i hi => by omega)
      have hnx := next_any (w := w2) _ hk2 2 (by unfold V64; omega)
      have hn2 : nextF (hs (fives 4)) 2 = 2 := next_self (hs (fives 4)) (i := 2) (by omega) (by decide)
      rw [hn2, show oneI (fives 4) 2 = 7 from rfl] at hnx
      have hkd2 := fun W (x : Ext w2 W) => kind_any (w := W) 1 (hk2.ext x) (by omega)
      have hln2 := fun W (x : Ext w2 W) => len_any (w := W) _ (hk2.ext x)
      rw [fives_cnt 4 (by omega)] at hln2
      have Hk2 := Lib.hid hk2
      clear hk2
      have T2 := Lib.hid t2
      clear t2
      have X2 := Lib.hid x2
      clear x2
      have Hnx := Lib.hid hnx
      clear hnx
      have Hn2 := Lib.hid hn2
      clear hn2
      have Hkd2 := Lib.hid hkd2
      clear hkd2
      have Hln2 := Lib.hid hln2
      clear hln2
      go_wp2_with (fail)
      (with_reducible refine Hnx.out.mono ?_)
      rintro e w3 ⟨rfl, t3⟩
      go_wp2_with (fail)
      (with_reducible refine (Hkd2.out _ t3).mono ?_)
      rintro e w4 ⟨rfl, rfl⟩
      go_wp2_with (fail)
      (with_reducible refine (Hln2.out _ t3).mono ?_)
      rintro e w4 ⟨rfl, t4⟩
      go_wp2_with (fail)
      (with_reducible refine (put_zero _ g 1).mono ?_)
      rintro e w5 ⟨rfl, rfl⟩
      go_wp2_with (fail)
      go_ret
      exact ⟨rfl, X2.out.trans' (t3.trans' t4)⟩
end KidW
end Go.Proofs.YtjlmhgjkekihiaaDoor
