/- The statement KidOrders: put in any order children make the same node; put again, with another handle, the kind does not change. Conditions: none beyond the card's own; the two tables are tied to the program's text. -/
import Derived.Test.YtjlmhgjkekihiaaDoorKidBands
import Derived.Test.YtjlmhgjkekihiaaDoorSameBytes
namespace Go.Proofs.YtjlmhgjkekihiaaDoor
open Go.ChangeShapes Go.WideShapes Go.ChangeAt Go.RowKit
set_option linter.unusedVariables false
set_option linter.unusedSimpArgs false
namespace LawKidOrders
open MaskA MaskP KidA KidB KidW LawKidBands

/-! ### plain laws -/
def bO (n : Int) (i : Nat) : Nat := ((n + i * 13) % 256).toNat
theorem bO_lt (n : Int) (i : Nat) : bO n i < 256 := by unfold bO; omega
theorem bO_val (n : Int) (i : Nat) : ((bO n i : Nat) : Int) = (n + i * 13) % 256 := by unfold bO; omega
theorem bO_ne (n : Int) {i j : Nat} (hi : i < 256) (hj : j < 256) (h : i ≠ j) : bO n i ≠ bO n j := fun e => by
  have h1 := bO_val n i
  have h2 := bO_val n j
  rw [e, h2] at h1
  omega
theorem byteO (n : Int) (i : Nat) : wrap64 (n + (i : Int) * 13) % 256 = ((bO n i : Nat) : Int) := by
  rw [bO_val]; unfold wrap64; omega
/-- children put in an order ks -/
def hO (n : Int) (ks : Nat → Nat) : Nat → Nat → Int
  | 0 => fun _ => 0
  | j + 1 => seth (hO n ks j) (bO n (ks j)) ((ks j : Int) + 1)
structure Ord (m : Nat) (ks : Nat → Nat) : Prop where
  lt : ∀ t, t < m → ks t < m
  inj : ∀ t u, t < m → u < m → ks t = ks u → t = u
  sur : ∀ k, k < m → ∃ t, t < m ∧ ks t = k
theorem hO_none (n : Int) (ks : Nat → Nat) (c : Nat) : ∀ j, (∀ t, t < j → bO n (ks t) ≠ c) → hO n ks j c = 0
  | 0, _ => rfl
  | j + 1, h => by
    simp only [hO, seth]
    rw [if_neg (fun e => h j (by omega) e.symm)]
    exact hO_none n ks c j (fun t ht => h t (by omega))
theorem hO_some (n : Int) {m : Nat} {ks : Nat → Nat} (o : Ord m ks) (hm : m ≤ 256) : ∀ j, j ≤ m → ∀ t, t < j → hO n ks j (bO n (ks t)) = (ks t : Int) + 1
  | 0, _, t, ht => by omega
  | j + 1, hj, t, ht => by
    simp only [hO, seth]
    by_cases e : t = j
    · subst e; rw [if_pos rfl]
    · have h1 := o.lt t (by omega)
      have h2 := o.lt j (by omega)
      rw [if_neg (bO_ne n (by omega) (by omega) (fun h => e (o.inj t j (by omega) (by omega) h)))]
      exact hO_some n o hm j (by omega) t (by omega)
theorem hO_new (n : Int) {m : Nat} {ks : Nat → Nat} (o : Ord m ks) (hm : m ≤ 256) (j : Nat) (hj : j < m) : hO n ks j (bO n (ks j)) = 0 :=
  hO_none n ks _ j (fun t ht => by
    have h1 := o.lt t (by omega)
    have h2 := o.lt j hj
    exact bO_ne n (by omega) (by omega) (fun h => by have := o.inj t j (by omega) hj h; omega))
theorem hO_cnt (n : Int) {m : Nat} {ks : Nat → Nat} (o : Ord m ks) (hm : m ≤ 256) : ∀ j, j ≤ m → cnt (hs (hO n ks j)) 256 = j
  | 0, _ => cnt_none 256
  | j + 1, hj => by
    show cnt (hs (seth (hO n ks j) (bO n (ks j)) ((ks j : Int) + 1))) 256 = j + 1
    rw [cnt_put _ (bO_lt n (ks j)) (by omega) (hO_new n o hm j (by omega)), hO_cnt n o hm j (by omega)]
theorem ord_id (m : Nat) : Ord m (fun t => t) := ⟨fun t h => h, fun t u _ _ h => h, fun k h => ⟨k, h, rfl⟩⟩
theorem hO_at (n : Int) {m : Nat} {ks : Nat → Nat} (o : Ord m ks) (hm : m ≤ 256) (k : Nat) (hk : k < m) : hO n ks m (bO n k) = (k : Int) + 1 := by
  obtain ⟨t, ht, rfl⟩ := o.sur k hk
  exact hO_some n o hm m (Nat.le_refl _) t ht
theorem hO_same (n : Int) {m : Nat} {ks : Nat → Nat} (o : Ord m ks) (hm : m ≤ 256) (c : Nat) : hO n ks m c = hO n (fun t => t) m c := by
  by_cases h : ∃ k, k < m ∧ bO n k = c
  · obtain ⟨k, hk, rfl⟩ := h
    rw [hO_at n o hm k hk, hO_at n (ord_id m) hm k hk]
  · rw [hO_none n ks c m (fun t ht e => h ⟨ks t, o.lt t ht, e⟩), hO_none n _ c m (fun t ht e => h ⟨t, ht, e⟩)]
def ksF (m r t : Nat) : Nat := if t + r < m then t + r else t + r - m
theorem ord_ks (m r : Nat) (hr : r < m) : Ord m (ksF m r) := by
  refine ⟨fun t h => ?_, fun t u h1 h2 h => ?_, fun k hk => ?_⟩
  · unfold ksF; split <;> omega
  · unfold ksF at h; split at h <;> split at h <;> omega
  · by_cases h : r ≤ k
    · exact ⟨k - r, by omega, by unfold ksF; rw [if_pos (by omega)]; omega⟩
    · exact ⟨k + m - r, by omega, by unfold ksF; rw [if_neg (by omega)]; omega⟩
theorem ks_eq {m s t : Nat} (ht : t < m) : (t + s) % m = ksF m (s % m) t := by
  have hr : s % m < m := Nat.mod_lt _ (by omega)
  rw [Nat.add_mod, Nat.mod_eq_of_lt ht]
  unfold ksF
  split
  · exact Nat.mod_eq_of_lt (by assumption)
  · rw [Nat.mod_eq_sub_mod (by omega), Nat.mod_eq_of_lt (by omega)]
theorem kdN_same (m : Nat) (hm : m ≤ 256) : upK (kdN m) m = kdN m := by
  unfold upK
  rw [if_neg]
  unfold kdN
  split
  · show ¬ (4 : Int) < _; omega
  · split
    · show ¬ (16 : Int) < _; omega
    · split
      · show ¬ (48 : Int) < _; omega
      · show ¬ (256 : Int) < _; omega
/-- other handles -/
def gO (n : Int) (m : Nat) : Nat → Nat → Int
  | 0 => hO n (fun t => t) m
  | j + 1 => seth (gO n m j) (bO n j) (1000 + (j : Int))
theorem gO_at (n : Int) {m : Nat} (hm : m ≤ 256) : ∀ (j i : Nat), j ≤ m → i < m → gO n m j (bO n i) = if i < j then 1000 + (i : Int) else (i : Int) + 1
  | 0, i, _, hi => by show hO n (fun t => t) m (bO n i) = _; rw [hO_at n (ord_id m) hm i hi, if_neg (by omega)]
  | j + 1, i, hj, hi => by
    have ih := gO_at n hm j i (by omega) hi
    simp only [gO, seth]
    by_cases e : i = j
    · subst e; rw [if_pos rfl, if_pos (by omega)]
    · rw [if_neg (bO_ne n (by omega) (by omega) e), ih]
      by_cases h : i < j
      · rw [if_pos h, if_pos (by omega)]
      · rw [if_neg h, if_neg (by omega)]
theorem gO_cnt (n : Int) {m : Nat} (hm : m ≤ 256) : ∀ j, j ≤ m → cnt (hs (gO n m j)) 256 = m
  | 0, _ => hO_cnt n (ord_id m) hm m (Nat.le_refl _)
  | j + 1, hj => by
    show cnt (hs (seth (gO n m j) (bO n j) (1000 + (j : Int)))) 256 = m
    rw [cnt_again _ (bO_lt n j) (by omega) (by rw [gO_at n hm j j (by omega) (by omega), if_neg (by omega)]; omega), gO_cnt n hm j (by omega)]

set_option maxRecDepth 100000 in
set_option maxHeartbeats 3200000 in
theorem walk (many turn n : Int) (w : World) (htb : Tb w) (hV0 : V64 many) (hV1 : V64 turn) (hV2 : V64 n) :
    Calls Tryd.prog 4 #[.int .i64 many, .int .i64 turn, .int .i64 n] w fun e w' => e = .returned (.bool true) ∧ Ext w w' := by
  have hl1 := SameA.low_ex many 257 w hV0 (by decide) (by decide)
  have hl2 := fun W => SameA.low_any turn 256 W hV1 (by decide) (by decide)
  obtain ⟨s, hs0⟩ : ∃ s : Nat, SameA.low turn 256 = (s : Int) ∧ s < 256 := by
    have := SameA.low_lt turn (show (0 : Int) < 256 by decide)
    exact ⟨(SameA.low turn 256).toNat, by omega, by omega⟩
  rw [hs0.1] at hl2
  have hs256 := hs0.2
  have hnw := KidA.new_any w
  unfold KNew at hnw
  have hlt := tb_lt htb
  obtain ⟨g, hg⟩ : ∃ g, g = w.heap.size := ⟨_, rfl⟩
  rw [← hg] at hnw
  have hgg : g ≠ 0 ∧ g ≠ 1 := by omega
  have hgw : w.heap.size ≤ g := by omega
  have Hnw := Lib.hid hnw
  clear hnw
  have Htb := Lib.hid htb
  clear htb
  have Hg := Lib.hid hg
  clear hg
  have Hl1 := Lib.hid hl1
  clear hl1
  have Hl2 := Lib.hid hl2
  clear hl2
  have HV0 := Lib.hid hV0
  clear hV0
  have HV1 := Lib.hid hV1
  clear hV1
  have HV2 := Lib.hid hV2
  clear hV2
  have Hs0 := Lib.hid hs0
  clear hs0
  go_enter Tryd.func4, Tryd.ntmps4
  go_wp2_with (fail)
  (with_reducible refine Hl1.out.mono ?_)
  rintro e w0 ⟨m, hm0, hm1, rfl, rfl⟩
  obtain ⟨m, rfl⟩ : ∃ k : Nat, m = (k : Int) := ⟨m.toNat, by omega⟩
  go_wp2_with (fail)
  (with_reducible refine Hnw.out.mono ?_)
  rintro e w1 ⟨rfl, hk0, t1⟩
  have hnw1 := KidA.new_any w1
  unfold KNew at hnw1
  obtain ⟨g2, hg2⟩ : ∃ g2, g2 = w1.heap.size := ⟨_, rfl⟩
  rw [← hg2] at hnw1
  have hgl := hk0.lt
  have hs1 := t1.size
  have hgg2 : g2 ≠ 0 ∧ g2 ≠ 1 := by omega
  have hgw2 : w.heap.size ≤ g2 := by omega
  have hne : g ≠ g2 := by omega
  have Hk0 := Lib.hid hk0
  clear hk0
  have T1 := Lib.hid t1
  clear t1
  have Hnw1 := Lib.hid hnw1
  clear hnw1
  have Hg2 := Lib.hid hg2
  clear hg2
  go_wp2_with (fail)
  (with_reducible refine Hnw1.out.mono ?_)
  rintro e w2 ⟨rfl, hk2, t2⟩
  have hk0 := Hk0.out.ext t2
  have t12 := T1.out.trans' t2
  clear Hk0 T1 Hnw Hnw1
  have Hk0 := Lib.hid hk0
  clear hk0
  have Hk2 := Lib.hid hk2
  clear hk2
  have T12 := Lib.hid t12
  clear t12
  have T2 := Lib.hid t2
  clear t2
  go_wp2_with (fail)
  obtain ⟨ks, hks⟩ : ∃ ks, ks = ksF m (s % m) := ⟨_, rfl⟩
  go_loopw [9] (fun s9 wr => ∃ j : Nat, j ≤ m ∧ s9 = .int .i64 j ∧ Kn wr g ((kdN j : Nat) : Int) (hO n (fun t => t) j) ∧ Kn wr g2 ((kdN j : Nat) : Int) (hO n ks j) ∧ Ext w wr) (fun s9 _ => m - (intOf s9).toNat)
  case atStart => exact ⟨0, by omega, rfl, Hk0.out, Hk2.out, T12.out⟩
  case round =>
    obtain ⟨j, hj, rfl, hka, hkb, ht⟩ := hrel
    clear Hk0 Hk2 T12 T2
    have hkl := kdN_lt j
    by_cases hjm : j < m
    · have hor := ord_ks m (s % m) (Nat.mod_lt _ (by omega))
      rw [← hks] at hor
      have hkj := hor.lt j hjm
      have hke := ks_eq (s := s) hjm
      rw [← hks] at hke
      have hpa := put_any (w := wr) (kdN j) hka hkl (Htb.out.ext ht) hgg (bO n j) (bO_lt n j) ((j : Int) + 1) (by omega)
      unfold KPut at hpa
      rw [show seth (hO n (fun t => t) j) (bO n j) ((j : Int) + 1) = hO n (fun t => t) (j + 1) from rfl, hO_cnt n (ord_id m) (by omega) (j + 1) (by omega), kdN_up j (by omega)] at hpa
      have hboj := byteO n j
      have hbok := byteO n (ks j)
      have hcb := hO_cnt n hor (by omega) (j + 1) (by omega)
      generalize hkk : ks j = k at *
      have hm1 : ((j : Int) + (s : Int)) % (m : Int) = (k : Int) := by
        have : (((j + s) % m : Nat) : Int) = (k : Int) := by rw [hke]
        simpa using this
      have hm2 : Int.tmod ((j : Int) + (s : Int)) (m : Int) = (k : Int) := by rw [Int.tmod_eq_emod_of_nonneg (by omega)]; exact hm1
      have jm : (j : Int) < (m : Int) := by omega
      have mz : ((m : Int) == 0) = false := by simp; omega
      have j32 : ((j : Int) + 1) % 4294967296 = (j : Int) + 1 := by omega
      have k32 : ((k : Int) + 1) % 4294967296 = (k : Int) + 1 := by omega
      have Hka := Lib.hid hka
      clear hka
      have Hkb := Lib.hid hkb
      clear hkb
      have Ht := Lib.hid ht
      clear ht
      have Hpa := Lib.hid hpa
      clear hpa
      have Hks := Lib.hid hks
      clear hks
      have Hor := Lib.hid hor
      clear hor
      have Hke := Lib.hid hke
      clear hke
      have Hcb := Lib.hid hcb
      clear hcb
      have Hkk := Lib.hid hkk
      clear hkk
      go_wp2_with (fail)
      (with_reducible refine (Hl2.out _).mono ?_)
      rintro e w3 ⟨rfl, rfl⟩
      go_wp2_with (fail)
      (with_reducible refine Hpa.out.mono ?_)
      rintro e w4 ⟨rfl, hka4, t4⟩
      have hkb4 := Hkb.out.keep t4 (fun h => hne h.symm)
      have htb4 := (Htb.out.ext Ht.out).keep t4 (fun h => hgg.1 h.symm) (fun h => hgg.2 h.symm)
      have hpb := put_any (w := w4) (kdN j) hkb4 hkl htb4 hgg2 (bO n k) (bO_lt n k) ((k : Int) + 1) (by omega)
      unfold KPut at hpb
      have hsh : seth (hO n ks j) (bO n k) ((k : Int) + 1) = hO n ks (j + 1) := by simp only [hO]; rw [Hkk.out]
      rw [hsh, Hcb.out, kdN_up j (by omega)] at hpb
      have x4 := Ht.out.ext_new t4 (fun i hi => by omega)
      have Hka4 := Lib.hid hka4
      clear hka4
      have T4 := Lib.hid t4
      clear t4
      have Hkb4 := Lib.hid hkb4
      clear hkb4
      have Htb4 := Lib.hid htb4
      clear htb4
      have Hpb := Lib.hid hpb
      clear hpb
      have Hsh := Lib.hid hsh
      clear hsh
      have X4 := Lib.hid x4
      clear x4
      go_wp2_with (fail)
      (with_reducible refine Hpb.out.mono ?_)
      rintro e w5 ⟨rfl, hkb5, t5⟩
      have Hkb5 := Lib.hid hkb5
      clear hkb5
      have T5 := Lib.hid t5
      clear t5
      go_wp2_with (fail)
      go_roundw
      case rel => exact ⟨j + 1, by omega, by go_num, Hka4.out.keep T5.out (fun h => hne h), Hkb5.out, X4.out.ext_new T5.out (fun i hi => by omega)⟩
      case measure => simp [intOf]; omega
    · obtain rfl : j = m := by omega
      have jm : ¬ ((j : Nat) : Int) < (j : Int) := by omega
      obtain ⟨wa, rfl⟩ : ∃ wa, wa = wr := ⟨_, rfl⟩
      have hss : ∀ c, hO n ks j c = hO n (fun t => t) j c := fun c => by
        rcases Nat.eq_zero_or_pos j with h | h
        · subst h; rfl
        · exact hO_same n (by rw [hks]; exact ord_ks j (s % j) (Nat.mod_lt _ h)) (by omega) c
      have hhe : hO n ks j = hO n (fun t => t) j := funext hss
      rw [hhe] at hkb
      have hca := hO_cnt n (ord_id j) (by omega) j (Nat.le_refl _)
      have hkda := fun W (x : Ext wa W) => kind_any (w := W) (kdN j) (hka.ext x) hkl
      have hkdb := fun W (x : Ext wa W) => kind_any (w := W) (kdN j) (hkb.ext x) hkl
      have hlna := fun W (x : Ext wa W) => len_any (w := W) _ (hka.ext x)
      have hlnb := fun W (x : Ext wa W) => len_any (w := W) _ (hkb.ext x)
      rw [hca] at hlna hlnb
      have hbya := fun W (x : Ext wa W) => bytes_any (w := W) _ (hka.ext x)
      have hbyb := fun W (x : Ext wa W) => bytes_any (w := W) _ (hkb.ext x)
      unfold KBytes at hbya hbyb
      have hal := allF_length (hs (hO n (fun t => t) j)) 256
      rw [hca] at hal
      have d6 : decide (6 + ((kdN j : Nat) : Int) < 6) = false := decide_eq_false (by omega)
      have d9 : decide ((9 : Int) < 6 + ((kdN j : Nat) : Int)) = false := decide_eq_false (by omega)
      have l6 : ¬ 6 + ((kdN j : Nat) : Int) < 6 := by omega
      have l9 : ¬ (9 : Int) < 6 + ((kdN j : Nat) : Int) := by omega
      have Hka := Lib.hid hka
      clear hka
      have Hkb := Lib.hid hkb
      clear hkb
      have Ht := Lib.hid ht
      clear ht
      have Hss := Lib.hid hss
      clear hss
      have Hhe := Lib.hid hhe
      clear hhe
      have Hca := Lib.hid hca
      clear hca
      have Hkda := Lib.hid hkda
      clear hkda
      have Hkdb := Lib.hid hkdb
      clear hkdb
      have Hlna := Lib.hid hlna
      clear hlna
      have Hlnb := Lib.hid hlnb
      clear hlnb
      have Hbya := Lib.hid hbya
      clear hbya
      have Hbyb := Lib.hid hbyb
      clear hbyb
      have Hal := Lib.hid hal
      clear hal
      have Hks := Lib.hid hks
      clear hks
      go_wp2_with (fail)
      (with_reducible refine (Hkda.out _ (Touch.refl _ _)).mono ?_)
      rintro e w3 ⟨rfl, rfl⟩
      go_wp2_with (fail)
      (with_reducible refine (Hkdb.out _ (Touch.refl _ _)).mono ?_)
      rintro e w3 ⟨rfl, rfl⟩
      go_wp2_with (fail)
      (with_reducible refine (Hlna.out _ (Touch.refl _ _)).mono ?_)
      rintro e w3 ⟨rfl, x3⟩
      go_wp2_with (fail)
      (with_reducible refine (Hlnb.out _ x3).mono ?_)
      rintro e w4 ⟨rfl, x4⟩
      have x4 := x3.trans' x4
      go_wp2_with (fail)
      (with_reducible refine (Hbya.out _ x4).mono ?_)
      rintro e w5 ⟨v5, n5, rfl, ho5, t5⟩
      have x5 := x4.trans' t5
      go_wp2_with (fail)
      (with_reducible refine (Hbyb.out _ x5).mono ?_)
      rintro e w6 ⟨v6, n6, rfl, ho6, t6⟩
      have x6 := x5.trans' t6
      have hsb := SameA.sameBytes_same _ _ _ w6 ((Reads.of_own ho5).keep t6 (fun _ _ h => h)) (Reads.of_own ho6) (by rw [Hal.out]; omega)
      clear ho5 ho6 t5 t6 x3 x4 x5
      have Hsb := Lib.hid hsb
      clear hsb
      have X6 := Lib.hid x6
      clear x6
      go_wp2_with (fail)
      (with_reducible refine Hsb.out.mono ?_)
      rintro e w7 ⟨rfl, t7⟩
      have x7 := X6.out.trans' t7
      clear t7
      have X7 := Lib.hid x7
      clear x7
      go_wp2_with (fail)
      go_loopw [12] (fun s12 wr => ∃ i : Nat, i ≤ j ∧ s12 = .int .i64 i ∧ Kn wr g ((kdN j : Nat) : Int) (gO n j i) ∧ Kn wr g2 ((kdN j : Nat) : Int) (hO n (fun t => t) j) ∧ Ext w wr) (fun s12 _ => j - (intOf s12).toNat)
      case atStart => exact ⟨0, by omega, rfl, Hka.out.ext X7.out, Hkb.out.ext X7.out, Ht.out.trans' X7.out⟩
      case round =>
        obtain ⟨i, hi, rfl, hka, hkb, ht⟩ := hrel
        clear Hka Hkb Ht X6 X7 Hkda Hkdb Hlna Hlnb Hbya Hbyb
        by_cases hij : i < j
        · have hga := get_any (w := wr) _ hka (bO n i) (bO_lt n i)
          have hgb := get_any (w := wr) _ hkb (bO n i) (bO_lt n i)
          rw [gO_at n (by omega) i i hi hij, if_neg (by omega)] at hga
          rw [hO_at n (ord_id j) (by omega) i hij] at hgb
          have hpa := put_any (w := wr) (kdN j) hka hkl (Htb.out.ext ht) hgg (bO n i) (bO_lt n i) (1000 + (i : Int)) (by omega)
          unfold KPut at hpa
          rw [show seth (gO n j i) (bO n i) (1000 + (i : Int)) = gO n j (i + 1) from rfl, gO_cnt n (by omega) (i + 1) (by omega), kdN_same j (by omega)] at hpa
          have hbo := byteO n i
          have q1 : (i : Int) < (j : Int) := by omega
          have i32 : (1000 + (i : Int)) % 4294967296 = 1000 + (i : Int) := by omega
          have Hka := Lib.hid hka
          clear hka
          have Hkb := Lib.hid hkb
          clear hkb
          have Ht := Lib.hid ht
          clear ht
          have Hga := Lib.hid hga
          clear hga
          have Hgb := Lib.hid hgb
          clear hgb
          have Hpa := Lib.hid hpa
          clear hpa
          clear jm
          go_wp2_with (fail)
          (with_reducible refine Hga.out.mono ?_)
          rintro e w3 ⟨rfl, rfl⟩
          go_wp2_with (fail)
          (with_reducible refine Hgb.out.mono ?_)
          rintro e w3 ⟨rfl, rfl⟩
          go_wp2_with (fail)
          (with_reducible refine Hpa.out.mono ?_)
          rintro e w4 ⟨rfl, hka4, t4⟩
          have hga4 := get_any (w := w4) _ hka4 (bO n i) (bO_lt n i)
          rw [gO_at n (by omega) (i + 1) i (by omega) hij, if_pos (by omega)] at hga4
          have Hka4 := Lib.hid hka4
          clear hka4
          have T4 := Lib.hid t4
          clear t4
          have Hga4 := Lib.hid hga4
          clear hga4
          go_wp2_with (fail)
          (with_reducible refine Hga4.out.mono ?_)
          rintro e w5 ⟨rfl, rfl⟩
          go_wp2_with (fail)
          go_roundw
          case rel => exact ⟨i + 1, by omega, by go_num, Hka4.out, Hkb.out.keep T4.out (fun h => hne h.symm), Ht.out.ext_new T4.out (fun i hi => by omega)⟩
          case measure => simp [intOf]; omega
        · obtain rfl : i = j := by omega
          obtain ⟨wz, rfl⟩ : ∃ wz, wz = wr := ⟨_, rfl⟩
          have hkd := kind_any (w := wz) (kdN i) hka hkl
          have hln := len_any (w := wz) _ hka
          rw [gO_cnt n (by omega) i (Nat.le_refl _)] at hln
          have haw := fun W (x : Ext wz W) => awake_any W (Htb.out.ext (ht.trans' x))
          have Hka := Lib.hid hka
          clear hka
          have Hkb := Lib.hid hkb
          clear hkb
          have Ht := Lib.hid ht
          clear ht
          have Hkd := Lib.hid hkd
          clear hkd
          have Hln := Lib.hid hln
          clear hln
          have Haw := Lib.hid haw
          clear haw
          go_wp2_with (fail)
          (with_reducible refine Hkd.out.mono ?_)
          rintro e w3 ⟨rfl, rfl⟩
          go_wp2_with (fail)
          (with_reducible refine Hln.out.mono ?_)
          rintro e w3 ⟨rfl, x3⟩
          go_wp2_with (fail)
          (with_reducible refine (Haw.out _ x3).mono ?_)
          rintro e w4 ⟨rfl, t4⟩
          go_wp2_with (fail)
          go_ret
          exact ⟨rfl, Ht.out.trans' (x3.trans' t4)⟩

set_option maxRecDepth 100000 in
theorem lifted (os : Os) (started : os.Started) (H : Type) (enc : TypeId × Value → H) :
    ReturnsInHanded {} Tryd.checked os 4 .any (fun w args => (Rows.kidOrdersSpec.pre enc Tryd.prog Tryd.f4 [] false w args ∧ laidMetH Tryd.prog KidL.laidK w) ∧ sizedMet enc Tryd.prog Tryd.f4 (OpenSpec.ofChange Rows.kidOrdersSpec) false w args) (Rows.kidOrdersSpec.post enc Tryd.prog Tryd.f4 false true false false) := by
  refine returnsInHanded_of_change_and (C := Tryd.checked) (X := fun w _ => laidMetH Tryd.prog KidL.laidK w) (fun _ _ _ hh h => h.of_heap hh) Tryd.own started (by kernel_rfl) Tryd.func4
    (ChangeSpec.witness_shaped (enc := enc) (C := Tryd.checked) (os := os) (X := fun w _ => laidMetH Tryd.prog KidL.laidK w) false (World.doorLaid Tryd.prog 400 os) #[.int .i64 0, .int .i64 0, .int .i64 0] 8 rfl (World.shaped_of_RefB (by kernel_rfl) (by kernel_rfl)) (by kernel_rfl) (by kernel_rfl) (by kernel_rfl) (KidL.door_met os _)) ?_
  intro W base args ds gs before hval0 hW _ _ hL _
  have hval : ∀ (j : Nat) t v, Tryd.f4.params[j]? = some t → args[j]? = some v → Value.okWide Tryd.prog W .any base t v := hval0
  have hW' := hW
  obtain ⟨p, q, hA0, hV, rfl, hfz, hnd⟩ := hW
  have hA : DataW.TrodAll enc Tryd.prog W 0 (fun _ => true) true Tryd.f4.params.toList args.toList ds p := hA0
  rw [Tryd.params4] at hA hval
  obtain ⟨v0, v1, v2, d0, d1, d2, p0, p1, p2, rfl, rfl, rfl, h0, h1, h2⟩ := trodAll_three hA
  obtain ⟨rfl, rfl⟩ := trodVars_none hV
  have tb := KidL.of_laid hL
  refine Calls.mono (R := fun e w' => e = .returned (.bool true) ∧ Touch (fun _ => False) W w') ?_ fun e W' ⟨he, hw⟩ => (by subst he; exact ⟨_, rfl, law_post Tryd.laidOut (by kernel_rfl) rfl Tryd.underlying4 rfl rfl ⟨rfl, rfl, rfl⟩ hW' (hw.below fun _ h _ => h)⟩)
  obtain ⟨n0, rfl, rfl, rfl, hV0⟩ := open_int Tryd.underlying3 (hval 0 3 v0 rfl rfl) h0
  obtain ⟨n1, rfl, rfl, rfl, hV1⟩ := open_int Tryd.underlying3 (hval 1 3 v1 rfl rfl) h1
  obtain ⟨n2, rfl, rfl, rfl, hV2⟩ := open_int Tryd.underlying3 (hval 2 3 v2 rfl rfl) h2
  exact walk n0 n1 n2 W tb (v64_wf hV0) (v64_wf hV1) (v64_wf hV2)
theorem kidOrders_row : Rows.KidOrdersSaid :=
  OpenClaim.holds_of_wide 4 Tryd.f4 rfl rfl rfl rfl rfl rfl rfl ⟨rfl, rfl, rfl, rfl, rfl⟩ rfl rfl rfl rfl rfl (by kernel_rfl) Tryd.func4 (by kernel_rfl)
    (of_decide_eq_true (by kernel_rfl)) (by unfold Func.isWrapper; first | (rw [if_pos (by decide +kernel)]; kernel_rfl) | (rw [if_neg (by decide +kernel)]; exact ⟨rfl, rfl⟩))
    (fun os started H enc _ => lifted os started H enc)
theorem kidOrders_holds : Rows.KidOrdersCardSaid :=
  Claim7.holds_tied_plain_at .later [] [.data, .data] true (true, "87a464e409c581a973f1c0aad2f21b76b9b581620a480f47bcfcd5e8305205f3") false
    kidOrders_row (fun _ h => by cases h) (by kernel_rfl) (fun _ h => by cases h) kidOrders_row_tie rfl ⟨rfl, rfl⟩ (by kernel_rfl) rfl
    (fun f fn hf hfn => by
      obtain rfl : f = 4 := Option.some.inj ((show Tryd.prog.funcNamed "bramble/bramblelaw9.KidOrders" = some 4 by kernel_rfl).symm.trans hf) |>.symm
      obtain rfl : fn = Tryd.f4 := (Option.some.inj (Tryd.func4.symm.trans hfn)).symm
      exact ⟨by kernel_rfl, fun j t ht => by
        rw [Tryd.params4] at ht
        have hm : t ∈ [3, 3, 3] := by simpa using Array.mem_of_getElem? ht
        have hall : ([3, 3, 3].all fun u => !Tryd.prog.wantsStandIn u) = true := by kernel_rfl
        exact (show Tryd.prog.wantsStandIn t = false by simpa using List.all_eq_true.1 hall t hm)⟩)
    (by kernel_rfl)
end LawKidOrders
end Go.Proofs.YtjlmhgjkekihiaaDoor
