/- The statement KidBands: with more and more children, and fewer and fewer again, the kind lies in its bands: upwards it turns at 5, 17, 49, downwards at 40, 12, 3. Conditions: none beyond the card's own; the two tables are tied to the program's text. -/
import Derived.Test.YtjlmhgjkekihiaaDoorKidW
import Derived.Test.YtjlmhgjkekihiaaDoorKidL
import Derived.Test.YtjlmhgjkekihiaaDoorCards
import Derived.Test.YtjlmhgjkekihiaaDoorTie
namespace Go.Proofs.YtjlmhgjkekihiaaDoor
open Go.ChangeShapes Go.WideShapes Go.ChangeAt Go.RowKit
set_option linter.unusedVariables false
set_option linter.unusedSimpArgs false
namespace LawKidBands
open MaskA MaskP KidA KidB KidW

/-! ### plain laws -/
def bI (n : Int) (i : Nat) : Nat := ((n + i * 7) % 256).toNat
theorem bI_lt (n : Int) (i : Nat) : bI n i < 256 := by unfold bI; omega
theorem bI_val (n : Int) (i : Nat) : ((bI n i : Nat) : Int) = (n + i * 7) % 256 := by unfold bI; omega
theorem bI_ne (n : Int) {i j : Nat} (hi : i < 256) (hj : j < 256) (h : i ≠ j) : bI n i ≠ bI n j := fun e => by
  have h1 := bI_val n i
  have h2 := bI_val n j
  rw [e, h2] at h1
  omega
def hN (n : Int) : Nat → Nat → Int
  | 0 => fun _ => 0
  | j + 1 => seth (hN n j) (bI n j) (j + 1)
theorem hN_at (n : Int) : ∀ (j i : Nat), j ≤ 256 → i < 256 → hN n j (bI n i) = if i < j then (i : Int) + 1 else 0
  | 0, i, _, _ => by simp [hN]
  | j + 1, i, hj, hi => by
    have ih := hN_at n j i (by omega) hi
    simp only [hN, seth]
    by_cases e : i = j
    · subst e; rw [if_pos rfl, if_pos (by omega)]
    · rw [if_neg (bI_ne n hi (by omega) e), ih]
      by_cases h : i < j
      · rw [if_pos h, if_pos (by omega)]
      · rw [if_neg h, if_neg (by omega)]
theorem hN_cnt (n : Int) : ∀ j : Nat, j ≤ 256 → cnt (hs (hN n j)) 256 = j
  | 0, _ => cnt_none 256
  | j + 1, hj => by
    show cnt (hs (seth (hN n j) (bI n j) (j + 1))) 256 = j + 1
    rw [cnt_put _ (bI_lt n j) (by omega) (by rw [hN_at n j j (by omega) (by omega), if_neg (by omega)]), hN_cnt n j (by omega)]
def kdN (j : Nat) : Nat := if j < 5 then 0 else if j < 17 then 1 else if j < 49 then 2 else 3
theorem kdN_lt (j : Nat) : kdN j < 4 := by unfold kdN; split; omega; split; omega; split <;> omega
theorem kdN_up (j : Nat) (hj : j < 256) : upK (kdN j) (j + 1) = kdN (j + 1) := by
  unfold upK
  by_cases h1 : j < 5
  · rw [show kdN j = 0 by unfold kdN; rw [if_pos h1], show roomI 0 = 4 from rfl]
    by_cases h2 : j = 4
    · subst h2; rfl
    · rw [if_neg (by omega)]; unfold kdN; rw [if_pos (by omega)]
  · by_cases h2 : j < 17
    · rw [show kdN j = 1 by unfold kdN; rw [if_neg h1, if_pos h2], show roomI 1 = 16 from rfl]
      by_cases h3 : j = 16
      · subst h3; rfl
      · rw [if_neg (by omega)]; unfold kdN; rw [if_neg (by omega), if_pos (by omega)]
    · by_cases h3 : j < 49
      · rw [show kdN j = 2 by unfold kdN; rw [if_neg h1, if_neg h2, if_pos h3], show roomI 2 = 48 from rfl]
        by_cases h4 : j = 48
        · subst h4; rfl
        · rw [if_neg (by omega)]; unfold kdN; rw [if_neg (by omega), if_neg (by omega), if_pos (by omega)]
      · rw [show kdN j = 3 by unfold kdN; rw [if_neg h1, if_neg h2, if_neg h3], show roomI 3 = 256 from rfl, if_neg (by omega)]
        unfold kdN; rw [if_neg (by omega), if_neg (by omega), if_neg (by omega)]
theorem kdN_step (j : Nat) : kdN (j + 1) = if j + 1 = 5 ∨ j + 1 = 17 ∨ j + 1 = 49 then kdN j + 1 else kdN j := by
  by_cases h : j + 1 = 5 ∨ j + 1 = 17 ∨ j + 1 = 49
  · rw [if_pos h]
    rcases h with h | h | h
    · obtain rfl : j = 4 := by omega
      rfl
    · obtain rfl : j = 16 := by omega
      rfl
    · obtain rfl : j = 48 := by omega
      rfl
  · rw [if_neg h]
    unfold kdN
    have a1 : (j + 1 < 5) = (j < 5) := propext ⟨fun _ => by omega, fun _ => by omega⟩
    have a2 : (j + 1 < 17) = (j < 17) := propext ⟨fun _ => by omega, fun _ => by omega⟩
    have a3 : (j + 1 < 49) = (j < 49) := propext ⟨fun _ => by omega, fun _ => by omega⟩
    simp only [a1, a2, a3]
theorem kdN_left (m : Nat) (h0 : 0 < m) : leftI (kdN m) < (m : Int) := by
  unfold kdN
  split
  · show (-1 : Int) < _; omega
  · split
    · show (3 : Int) < _; omega
    · split
      · show (12 : Int) < _; omega
      · show (40 : Int) < _; omega
/-- what is left behind j drops -/
def dN (n : Int) (m : Nat) : Nat → Nat → Int
  | 0 => hN n m
  | j + 1 => seth (dN n m j) (bI n j) 0
theorem dN_at (n : Int) (m : Nat) (hm : m ≤ 256) : ∀ (j i : Nat), j ≤ m → i < 256 → dN n m j (bI n i) = if j ≤ i ∧ i < m then (i : Int) + 1 else 0
  | 0, i, _, hi => by
    show hN n m (bI n i) = _
    rw [hN_at n m i hm hi]
    by_cases h : i < m
    · rw [if_pos h, if_pos ⟨by omega, h⟩]
    · rw [if_neg h, if_neg (fun h2 => h h2.2)]
  | j + 1, i, hj, hi => by
    have ih := dN_at n m hm j i (by omega) hi
    simp only [dN, seth]
    by_cases e : i = j
    · subst e; rw [if_pos rfl, if_neg (by omega)]
    · rw [if_neg (bI_ne n hi (by omega) e), ih]
      by_cases h : j ≤ i ∧ i < m
      · rw [if_pos h, if_pos ⟨by omega, h.2⟩]
      · rw [if_neg h, if_neg (fun h2 => h ⟨by omega, h2.2⟩)]
theorem dN_cnt (n : Int) (m : Nat) (hm : m ≤ 256) : ∀ j : Nat, j ≤ m → cnt (hs (dN n m j)) 256 = m - j
  | 0, _ => hN_cnt n m hm
  | j + 1, hj => by
    have h1 := cnt_drop (dN n m j) (b := bI n j) (bI_lt n j) (by rw [dN_at n m hm j j (by omega) (by omega), if_pos ⟨by omega, by omega⟩]; omega)
    have h2 := dN_cnt n m hm j (by omega)
    show cnt (hs (seth (dN n m j) (bI n j) 0)) 256 = _
    omega
theorem dn_step {kd c : Nat} (hk : kd < 4) (h : leftI kd < (c : Int) + 1) :
    dnK kd c = (if kd = 3 ∧ c = 40 ∨ kd = 2 ∧ c = 12 ∨ kd = 1 ∧ c = 3 then kd - 1 else kd) ∧ (0 < c → leftI (dnK kd c) < (c : Int)) := by
  unfold dnK
  rcases (show kd = 0 ∨ kd = 1 ∨ kd = 2 ∨ kd = 3 by omega) with rfl | rfl | rfl | rfl
  · rw [show leftI 0 = -1 from rfl, if_neg (by omega), if_neg (by omega)]
    exact ⟨rfl, fun _ => by rw [show leftI 0 = -1 from rfl]; omega⟩
  · rw [show leftI 1 = 3 from rfl] at h ⊢
    by_cases e : c = 3
    · subst e; exact ⟨rfl, fun _ => by decide⟩
    · rw [if_neg (by omega), if_neg (by omega)]
      exact ⟨rfl, fun _ => by rw [show leftI 1 = 3 from rfl]; omega⟩
  · rw [show leftI 2 = 12 from rfl] at h ⊢
    by_cases e : c = 12
    · subst e; exact ⟨rfl, fun _ => by decide⟩
    · rw [if_neg (by omega), if_neg (by omega)]
      exact ⟨rfl, fun _ => by rw [show leftI 2 = 12 from rfl]; omega⟩
  · rw [show leftI 3 = 40 from rfl] at h ⊢
    by_cases e : c = 40
    · subst e; exact ⟨rfl, fun _ => by decide⟩
    · rw [if_neg (by omega), if_neg (by omega)]
      exact ⟨rfl, fun _ => by rw [show leftI 3 = 40 from rfl]; omega⟩
theorem byte_of (n : Int) (i : Nat) : wrap64 (n + (i : Int) * 7) % 256 = ((bI n i : Nat) : Int) := by
  rw [bI_val]; unfold wrap64; omega

set_option maxRecDepth 100000 in
set_option maxHeartbeats 3200000 in
theorem walk (many n take : Int) (w : World) (htb : Tb w) (hV0 : V64 many) (hV1 : V64 n) (hV2 : V64 take) :
    Calls Tryd.prog 3 #[.int .i64 many, .int .i64 n, .int .i64 take] w fun e w' => e = .returned (.bool true) ∧ Ext w w' := by
  have hl1 := SameA.low_ex many 257 w hV0 (by decide) (by decide)
  have hl2 := SameA.low_ex take 257 w hV2 (by decide) (by decide)
  have hnw := KidA.new_any w
  unfold KNew at hnw
  have hlt := tb_lt htb
  obtain ⟨g, hg⟩ : ∃ g, g = w.heap.size := ⟨_, rfl⟩
  rw [← hg] at hnw
  have hgg : g ≠ 0 ∧ g ≠ 1 := by omega
  have hgw : w.heap.size ≤ g := by omega
  have Hnw := Lib.hid hnw
  clear hnw
  have Htb := Lib.hid htb
  clear htb
  have Hg := Lib.hid hg
  clear hg
  have Hl1 := Lib.hid hl1
  clear hl1
  have Hl2 := Lib.hid hl2
  clear hl2
  have HV0 := Lib.hid hV0
  clear hV0
  have HV1 := Lib.hid hV1
  clear hV1
  have HV2 := Lib.hid hV2
  clear hV2
  go_enter Tryd.func3, Tryd.ntmps3
  go_wp2_with (fail)
  (with_reducible refine Hl1.out.mono ?_)
  rintro e w0 ⟨m, hm0, hm1, rfl, rfl⟩
  obtain ⟨m, rfl⟩ : ∃ k : Nat, m = (k : Int) := ⟨m.toNat, by omega⟩
  go_wp2_with (fail)
  (with_reducible refine Hl2.out.mono ?_)
  rintro e w0 ⟨tk, ht0, ht1, rfl, rfl⟩
  obtain ⟨tk, rfl⟩ : ∃ k : Nat, tk = (k : Int) := ⟨tk.toNat, by omega⟩
  go_wp2_with (fail)
  (with_reducible refine Hnw.out.mono ?_)
  rintro e w1 ⟨rfl, hk0, t1⟩
  have Hk0 := Lib.hid hk0
  clear hk0
  have T1 := Lib.hid t1
  clear t1
  go_wp2_with (fail)
  go_loopw [8, 9] (fun s8 s9 wr => ∃ j : Nat, j ≤ m ∧ s9 = .int .i64 j ∧ s8 = .int .i64 (6 + (kdN j : Nat)) ∧ Kn wr g ((kdN j : Nat) : Int) (hN n j) ∧ Ext w wr) (fun _ s9 _ => m - (intOf s9).toNat)
  case atStart => exact ⟨0, by omega, rfl, rfl, Hk0.out, T1.out⟩
  case round =>
    obtain ⟨j, hj, rfl, rfl, hkn, ht⟩ := hrel
    clear Hk0 T1
    have hkl := kdN_lt j
    by_cases hjm : j < m
    · have hpt := put_any (w := wr) (kdN j) hkn hkl (Htb.out.ext ht) hgg (bI n j) (bI_lt n j) ((j : Int) + 1) (by omega)
      unfold KPut at hpt
      rw [show seth (hN n j) (bI n j) ((j : Int) + 1) = hN n (j + 1) from rfl, hN_cnt n (j + 1) (by omega), kdN_up j (by omega)] at hpt
      have hbo := byte_of n j
      have hst := kdN_step j
      have jm : (j : Int) < (m : Int) := by omega
      have j32 : ((j : Int) + 1) % 4294967296 = (j : Int) + 1 := by omega
      have Hkn := Lib.hid hkn
      clear hkn
      have Ht := Lib.hid ht
      clear ht
      have Hpt := Lib.hid hpt
      clear hpt
      have Hst := Lib.hid hst
      clear hst
      go_wp2_with (fail)
      (with_reducible refine Hpt.out.mono ?_)
      rintro e w2 ⟨rfl, hk2, t2⟩
      have x2 := Ht.out.ext_new t2 (fun i hi => by omega)
      have hkl2 := kdN_lt (j + 1)
      have hkd := kind_any (w := w2) (kdN (j + 1)) hk2 hkl2
      have hln := len_any (w := w2) _ hk2
      rw [hN_cnt n (j + 1) (by omega)] at hln
      clear hbo
      have hkk : Kn w2 g ((kdN (j + 1) : Nat) : Int) (hN n (j + 1)) := hk2
      clear Hpt Hkn
      by_cases h5 : j + 1 = 5 ∨ j + 1 = 17 ∨ j + 1 = 49
      · have hst := Hst.out
        rw [if_pos h5] at hst
        clear Hst
        rw [show 6 + ((kdN (j + 1) : Nat) : Int) = 6 + ((kdN j : Nat) : Int) + 1 by omega] at hkd
        have Hst := Lib.hid hst
        clear hst
        have h55 := h5
        rcases h55 with h | h | h
        · have e5 : ((j : Int) + 1 == 5) = true := by simp; omega
          clear h
          have Hk2 := Lib.hid hk2
          clear hk2
          have T2 := Lib.hid t2
          clear t2
          have X2 := Lib.hid x2
          clear x2
          have Hkd := Lib.hid hkd
          clear hkd
          have Hln := Lib.hid hln
          clear hln
          have Hkk := Lib.hid hkk
          clear hkk
          have H5 := Lib.hid h5
          clear h5
          go_wp2_with (fail)
          (with_reducible refine Hkd.out.mono ?_)
          rintro e w3 ⟨rfl, rfl⟩
          go_wp2_with (fail)
          (with_reducible refine Hln.out.mono ?_)
          rintro e w3 ⟨rfl, t3⟩
          go_wp2_with (fail)
          go_roundw
          case rel => exact ⟨j + 1, by omega, by go_num, congrArg (Value.int .i64) (by have h1 := Hst.out; omega), Hkk.out.ext t3, X2.out.trans' t3⟩
          case measure => simp [intOf]; omega
        · have e5 : ((j : Int) + 1 == 5) = false := by simp; omega
          have e17 : ((j : Int) + 1 == 17) = true := by simp; omega
          clear h
          have Hk2 := Lib.hid hk2
          clear hk2
          have T2 := Lib.hid t2
          clear t2
          have X2 := Lib.hid x2
          clear x2
          have Hkd := Lib.hid hkd
          clear hkd
          have Hln := Lib.hid hln
          clear hln
          have Hkk := Lib.hid hkk
          clear hkk
          have H5 := Lib.hid h5
          clear h5
          go_wp2_with (fail)
          (with_reducible refine Hkd.out.mono ?_)
          rintro e w3 ⟨rfl, rfl⟩
          go_wp2_with (fail)
          (with_reducible refine Hln.out.mono ?_)
          rintro e w3 ⟨rfl, t3⟩
          go_wp2_with (fail)
          go_roundw
          case rel => exact ⟨j + 1, by omega, by go_num, congrArg (Value.int .i64) (by have h1 := Hst.out; omega), Hkk.out.ext t3, X2.out.trans' t3⟩
          case measure => simp [intOf]; omega
        · have e5 : ((j : Int) + 1 == 5) = false := by simp; omega
          have e17 : ((j : Int) + 1 == 17) = false := by simp; omega
          have e49 : ((j : Int) + 1 == 49) = true := by simp; omega
          clear h
          have Hk2 := Lib.hid hk2
          clear hk2
          have T2 := Lib.hid t2
          clear t2
          have X2 := Lib.hid x2
          clear x2
          have Hkd := Lib.hid hkd
          clear hkd
          have Hln := Lib.hid hln
          clear hln
          have Hkk := Lib.hid hkk
          clear hkk
          have H5 := Lib.hid h5
          clear h5
          go_wp2_with (fail)
          (with_reducible refine Hkd.out.mono ?_)
          rintro e w3 ⟨rfl, rfl⟩
          go_wp2_with (fail)
          (with_reducible refine Hln.out.mono ?_)
          rintro e w3 ⟨rfl, t3⟩
          go_wp2_with (fail)
          go_roundw
          case rel => exact ⟨j + 1, by omega, by go_num, congrArg (Value.int .i64) (by have h1 := Hst.out; omega), Hkk.out.ext t3, X2.out.trans' t3⟩
          case measure => simp [intOf]; omega
      · have hst := Hst.out
        rw [if_neg h5] at hst
        rw [hst] at hkd
        have e5 : ((j : Int) + 1 == 5) = false := by simp; omega
        have e17 : ((j : Int) + 1 == 17) = false := by simp; omega
        have e49 : ((j : Int) + 1 == 49) = false := by simp; omega
        clear Hst
        have Hst := Lib.hid hst
        clear hst
        have Hk2 := Lib.hid hk2
        clear hk2
        have T2 := Lib.hid t2
        clear t2
        have X2 := Lib.hid x2
        clear x2
        have Hkd := Lib.hid hkd
        clear hkd
        have Hln := Lib.hid hln
        clear hln
        have Hkk := Lib.hid hkk
        clear hkk
        have H5 := Lib.hid h5
        clear h5
        go_wp2_with (fail)
        (with_reducible refine Hkd.out.mono ?_)
        rintro e w3 ⟨rfl, rfl⟩
        go_wp2_with (fail)
        (with_reducible refine Hln.out.mono ?_)
        rintro e w3 ⟨rfl, t3⟩
        go_wp2_with (fail)
        go_roundw
        case rel => exact ⟨j + 1, by omega, by go_num, congrArg (Value.int .i64) (by have h1 := Hst.out; omega), Hkk.out.ext t3, X2.out.trans' t3⟩
        case measure => simp [intOf]; omega
    · obtain rfl : j = m := by omega
      have jm : ¬ ((j : Nat) : Int) < (j : Int) := by omega
      obtain ⟨wa, rfl⟩ : ∃ wa, wa = wr := ⟨_, rfl⟩
      have Hkn := Lib.hid hkn
      clear hkn
      have Ht := Lib.hid ht
      clear ht
      go_wp2_with (fail)
      go_loopw [8, 10] (fun s8 s10 wr => ∃ (i kd : Nat), i ≤ j ∧ s10 = .int .i64 i ∧ s8 = .int .i64 (6 + (kd : Int)) ∧ kd < 4 ∧ (i < j → leftI kd < ((j - i : Nat) : Int)) ∧ Kn wr g (kd : Int) (dN n j i) ∧ Ext w wr) (fun _ s10 _ => j - (intOf s10).toNat)
      case atStart => exact ⟨0, kdN j, by omega, rfl, rfl, hkl, fun h => by have := kdN_left j h; omega, Hkn.out, Ht.out⟩
      case round =>
        obtain ⟨i, kd, hi, rfl, rfl, hk4, hlf, hkn, ht⟩ := hrel
        clear Hkn Ht
        have im1 : ((i : Int) < (j : Int)) = (i < j) := by simp
        by_cases hgo : i < j ∧ i < tk
        · have hb := dN_at n j (by omega) i i hi (by omega)
          rw [if_pos ⟨by omega, hgo.1⟩] at hb
          have hdr := drop_any (w := wr) kd hkn hk4 (Htb.out.ext ht) hgg (bI n i) (bI_lt n i) (by rw [hb]; omega)
          unfold KDrop at hdr
          rw [show seth (dN n j i) (bI n i) 0 = dN n j (i + 1) from rfl, dN_cnt n j (by omega) (i + 1) (by omega), hb] at hdr
          have hds := dn_step (kd := kd) (c := j - (i + 1)) hk4 (by have := hlf hgo.1; omega)
          have hdl := dn_lt (kd := kd) (n := j - (i + 1)) hk4
          have hbo := byte_of n i
          have jm1 : (i : Int) < (j : Int) := by omega
          have jm2 : (i : Int) < (tk : Int) := by omega
          have j32 : ((i : Int) + 1) % 4294967296 = (i : Int) + 1 := by omega
          generalize hk9 : dnK kd (j - (i + 1)) = kb at *
          have Hkn := Lib.hid hkn
          clear hkn
          have Ht := Lib.hid ht
          clear ht
          have Hdr := Lib.hid hdr
          clear hdr
          have Hds := Lib.hid hds
          clear hds
          have Hlf := Lib.hid hlf
          clear hlf
          have Hb := Lib.hid hb
          clear hb
          have Hk9 := Lib.hid hk9
          clear hk9
          have Hgo := Lib.hid hgo
          clear hgo
          clear im1 jm
          go_wp2_with (fail)
          (with_reducible refine Hdr.out.mono ?_)
          rintro e w2 ⟨rfl, hk2, t2⟩
          have x2 := Ht.out.ext_new t2 (fun i hi => by omega)
          have hkd := kind_any (w := w2) kb hk2 hdl
          have hln := len_any (w := w2) _ hk2
          rw [dN_cnt n j (by omega) (i + 1) (by omega)] at hln
          obtain ⟨c, hc⟩ : ∃ c : Nat, c = j - (i + 1) := ⟨_, rfl⟩
          have hci : (j : Int) - 1 - (i : Int) = (c : Int) := by omega
          rw [← hc] at hln
          have hds := Hds.out
          rw [← hc] at hds
          clear hbo Hds Hk9 Hdr
          have hkp := hds.2
          have hkb := hds.1
          clear hds
          rcases (show kd = 0 ∨ kd = 1 ∨ kd = 2 ∨ kd = 3 by omega) with rfl | rfl | rfl | rfl
          · rw [if_neg (by omega)] at hkb
            subst hkb
            have Hk2 := Lib.hid hk2
            clear hk2
            have T2 := Lib.hid t2
            clear t2
            have X2 := Lib.hid x2
            clear x2
            have Hkd := Lib.hid hkd
            clear hkd
            have Hln := Lib.hid hln
            clear hln
            have Hkp := Lib.hid hkp
            clear hkp
            have Hc := Lib.hid hc
            clear hc
            go_wp2_with (fail)
            (with_reducible refine Hln.out.mono ?_)
            rintro e w3 ⟨rfl, t3⟩
            have hkd3 := kind_any (w := w3) _ (Hk2.out.ext t3) (by omega)
            have Hkd3 := Lib.hid hkd3
            clear hkd3
            have T3 := Lib.hid t3
            clear t3
            go_wp2_with (fail)
            (with_reducible refine Hkd3.out.mono ?_)
            rintro e w4 ⟨rfl, rfl⟩
            go_wp2_with (fail)
            go_roundw
            case rel => exact ⟨i + 1, _, by omega, by go_num, rfl, by omega, fun h => by have h1 := Hkp.out; have h2 := Hc.out; omega, Hk2.out.ext T3.out, X2.out.trans' T3.out⟩
            case measure => simp [intOf]; omega
          · by_cases e : c = 3
            · rw [if_pos (by omega)] at hkb
              have ec : ((c : Int) == 3) = true := by simp; omega
              clear e
              subst hkb
              have Hk2 := Lib.hid hk2
              clear hk2
              have T2 := Lib.hid t2
              clear t2
              have X2 := Lib.hid x2
              clear x2
              have Hkd := Lib.hid hkd
              clear hkd
              have Hln := Lib.hid hln
              clear hln
              have Hkp := Lib.hid hkp
              clear hkp
              have Hc := Lib.hid hc
              clear hc
              go_wp2_with (fail)
              (with_reducible refine Hln.out.mono ?_)
              rintro e w3 ⟨rfl, t3⟩
              have hkd3 := kind_any (w := w3) _ (Hk2.out.ext t3) (by omega)
              have Hkd3 := Lib.hid hkd3
              clear hkd3
              have T3 := Lib.hid t3
              clear t3
              go_wp2_with (fail)
              (with_reducible refine Hkd3.out.mono ?_)
              rintro e w4 ⟨rfl, rfl⟩
              go_wp2_with (fail)
              go_roundw
              case rel => exact ⟨i + 1, _, by omega, by go_num, rfl, by omega, fun h => by have h1 := Hkp.out; have h2 := Hc.out; omega, Hk2.out.ext T3.out, X2.out.trans' T3.out⟩
              case measure => simp [intOf]; omega
            · rw [if_neg (by omega)] at hkb
              have ec : ((c : Int) == 3) = false := by simp; omega
              clear e
              subst hkb
              have Hk2 := Lib.hid hk2
              clear hk2
              have T2 := Lib.hid t2
              clear t2
              have X2 := Lib.hid x2
              clear x2
              have Hkd := Lib.hid hkd
              clear hkd
              have Hln := Lib.hid hln
              clear hln
              have Hkp := Lib.hid hkp
              clear hkp
              have Hc := Lib.hid hc
              clear hc
              go_wp2_with (fail)
              (with_reducible refine Hln.out.mono ?_)
              rintro e w3 ⟨rfl, t3⟩
              have hkd3 := kind_any (w := w3) _ (Hk2.out.ext t3) (by omega)
              have Hkd3 := Lib.hid hkd3
              clear hkd3
              have T3 := Lib.hid t3
              clear t3
              go_wp2_with (fail)
              (with_reducible refine Hkd3.out.mono ?_)
              rintro e w4 ⟨rfl, rfl⟩
              go_wp2_with (fail)
              go_roundw
              case rel => exact ⟨i + 1, _, by omega, by go_num, rfl, by omega, fun h => by have h1 := Hkp.out; have h2 := Hc.out; omega, Hk2.out.ext T3.out, X2.out.trans' T3.out⟩
              case measure => simp [intOf]; omega
          · by_cases e : c = 12
            · rw [if_pos (by omega)] at hkb
              have ec : ((c : Int) == 12) = true := by simp; omega
              clear e
              subst hkb
              have Hk2 := Lib.hid hk2
              clear hk2
              have T2 := Lib.hid t2
              clear t2
              have X2 := Lib.hid x2
              clear x2
              have Hkd := Lib.hid hkd
              clear hkd
              have Hln := Lib.hid hln
              clear hln
              have Hkp := Lib.hid hkp
              clear hkp
              have Hc := Lib.hid hc
              clear hc
              go_wp2_with (fail)
              (with_reducible refine Hln.out.mono ?_)
              rintro e w3 ⟨rfl, t3⟩
              have hkd3 := kind_any (w := w3) _ (Hk2.out.ext t3) (by omega)
              have Hkd3 := Lib.hid hkd3
              clear hkd3
              have T3 := Lib.hid t3
              clear t3
              go_wp2_with (fail)
              (with_reducible refine Hkd3.out.mono ?_)
              rintro e w4 ⟨rfl, rfl⟩
              go_wp2_with (fail)
              go_roundw
              case rel => exact ⟨i + 1, _, by omega, by go_num, rfl, by omega, fun h => by have h1 := Hkp.out; have h2 := Hc.out; omega, Hk2.out.ext T3.out, X2.out.trans' T3.out⟩
              case measure => simp [intOf]; omega
            · rw [if_neg (by omega)] at hkb
              have ec : ((c : Int) == 12) = false := by simp; omega
              clear e
              subst hkb
              have Hk2 := Lib.hid hk2
              clear hk2
              have T2 := Lib.hid t2
              clear t2
              have X2 := Lib.hid x2
              clear x2
              have Hkd := Lib.hid hkd
              clear hkd
              have Hln := Lib.hid hln
              clear hln
              have Hkp := Lib.hid hkp
              clear hkp
              have Hc := Lib.hid hc
              clear hc
              go_wp2_with (fail)
              (with_reducible refine Hln.out.mono ?_)
              rintro e w3 ⟨rfl, t3⟩
              have hkd3 := kind_any (w := w3) _ (Hk2.out.ext t3) (by omega)
              have Hkd3 := Lib.hid hkd3
              clear hkd3
              have T3 := Lib.hid t3
              clear t3
              go_wp2_with (fail)
              (with_reducible refine Hkd3.out.mono ?_)
              rintro e w4 ⟨rfl, rfl⟩
              go_wp2_with (fail)
              go_roundw
              case rel => exact ⟨i + 1, _, by omega, by go_num, rfl, by omega, fun h => by have h1 := Hkp.out; have h2 := Hc.out; omega, Hk2.out.ext T3.out, X2.out.trans' T3.out⟩
              case measure => simp [intOf]; omega
          · by_cases e : c = 40
            · rw [if_pos (by omega)] at hkb
              have ec : ((c : Int) == 40) = true := by simp; omega
              clear e
              subst hkb
              have Hk2 := Lib.hid hk2
              clear hk2
              have T2 := Lib.hid t2
              clear t2
              have X2 := Lib.hid x2
              clear x2
              have Hkd := Lib.hid hkd
              clear hkd
              have Hln := Lib.hid hln
              clear hln
              have Hkp := Lib.hid hkp
              clear hkp
              have Hc := Lib.hid hc
              clear hc
              go_wp2_with (fail)
              (with_reducible refine Hln.out.mono ?_)
              rintro e w3 ⟨rfl, t3⟩
              have hkd3 := kind_any (w := w3) _ (Hk2.out.ext t3) (by omega)
              have Hkd3 := Lib.hid hkd3
              clear hkd3
              have T3 := Lib.hid t3
              clear t3
              go_wp2_with (fail)
              (with_reducible refine Hkd3.out.mono ?_)
              rintro e w4 ⟨rfl, rfl⟩
              go_wp2_with (fail)
              go_roundw
              case rel => exact ⟨i + 1, _, by omega, by go_num, rfl, by omega, fun h => by have h1 := Hkp.out; have h2 := Hc.out; omega, Hk2.out.ext T3.out, X2.out.trans' T3.out⟩
              case measure => simp [intOf]; omega
            · rw [if_neg (by omega)] at hkb
              have ec : ((c : Int) == 40) = false := by simp; omega
              clear e
              subst hkb
              have Hk2 := Lib.hid hk2
              clear hk2
              have T2 := Lib.hid t2
              clear t2
              have X2 := Lib.hid x2
              clear x2
              have Hkd := Lib.hid hkd
              clear hkd
              have Hln := Lib.hid hln
              clear hln
              have Hkp := Lib.hid hkp
              clear hkp
              have Hc := Lib.hid hc
              clear hc
              go_wp2_with (fail)
              (with_reducible refine Hln.out.mono ?_)
              rintro e w3 ⟨rfl, t3⟩
              have hkd3 := kind_any (w := w3) _ (Hk2.out.ext t3) (by omega)
              have Hkd3 := Lib.hid hkd3
              clear hkd3
              have T3 := Lib.hid t3
              clear t3
              go_wp2_with (fail)
              (with_reducible refine Hkd3.out.mono ?_)
              rintro e w4 ⟨rfl, rfl⟩
              go_wp2_with (fail)
              go_roundw
              case rel => exact ⟨i + 1, _, by omega, by go_num, rfl, by omega, fun h => by have h1 := Hkp.out; have h2 := Hc.out; omega, Hk2.out.ext T3.out, X2.out.trans' T3.out⟩
              case measure => simp [intOf]; omega
        · obtain ⟨wz, rfl⟩ : ∃ wz, wz = wr := ⟨_, rfl⟩
          have hdn := drop_nil wz 1
          have hpn := put_nil wz 1 1
          have hln := len_nil wz
          have hkd := kind_nil wz
          have hby := bytes_nil wz
          have haw := awake_any wz (Htb.out.ext ht)
          by_cases hij : i < j
          · have q1 : (i : Int) < (j : Int) := by omega
            have q2 : ¬ (i : Int) < (tk : Int) := by omega
            clear hgo
            have Hkn := Lib.hid hkn
            clear hkn
            have Ht := Lib.hid ht
            clear ht
            have Hlf := Lib.hid hlf
            clear hlf
            have Hdn := Lib.hid hdn
            clear hdn
            have Hpn := Lib.hid hpn
            clear hpn
            have Hln := Lib.hid hln
            clear hln
            have Hkd := Lib.hid hkd
            clear hkd
            have Hby := Lib.hid hby
            clear hby
            have Haw := Lib.hid haw
            clear haw
            clear im1 jm
            go_wp2_with (fail)
            (with_reducible refine Hdn.out.mono ?_)
            rintro e w3 ⟨rfl, rfl⟩
            go_wp2_with (fail)
            (with_reducible refine Hpn.out.mono ?_)
            rintro e w3 ⟨rfl, rfl⟩
            go_wp2_with (fail)
            (with_reducible refine Hln.out.mono ?_)
            rintro e w3 ⟨rfl, rfl⟩
            go_wp2_with (fail)
            (with_reducible refine Hkd.out.mono ?_)
            rintro e w3 ⟨rfl, rfl⟩
            go_wp2_with (fail)
            (with_reducible refine Hby.out.mono ?_)
            rintro e w3 ⟨rfl, rfl⟩
            go_wp2_with (fail)
            (with_reducible refine Haw.out.mono ?_)
            rintro e w3 ⟨rfl, t3⟩
            go_wp2_with (fail)
            go_ret
            exact ⟨rfl, Ht.out.trans' t3⟩
          · have q1 : ¬ (i : Int) < (j : Int) := by omega
            clear hgo
            have Hkn := Lib.hid hkn
            clear hkn
            have Ht := Lib.hid ht
            clear ht
            have Hlf := Lib.hid hlf
            clear hlf
            have Hdn := Lib.hid hdn
            clear hdn
            have Hpn := Lib.hid hpn
            clear hpn
            have Hln := Lib.hid hln
            clear hln
            have Hkd := Lib.hid hkd
            clear hkd
            have Hby := Lib.hid hby
            clear hby
            have Haw := Lib.hid haw
            clear haw
            clear im1 jm
            go_wp2_with (fail)
            (with_reducible refine Hdn.out.mono ?_)
            rintro e w3 ⟨rfl, rfl⟩
            go_wp2_with (fail)
            (with_reducible refine Hpn.out.mono ?_)
            rintro e w3 ⟨rfl, rfl⟩
            go_wp2_with (fail)
            (with_reducible refine Hln.out.mono ?_)
            rintro e w3 ⟨rfl, rfl⟩
            go_wp2_with (fail)
            (with_reducible refine Hkd.out.mono ?_)
            rintro e w3 ⟨rfl, rfl⟩
            go_wp2_with (fail)
            (with_reducible refine Hby.out.mono ?_)
            rintro e w3 ⟨rfl, rfl⟩
            go_wp2_with (fail)
            (with_reducible refine Haw.out.mono ?_)
            rintro e w3 ⟨rfl, t3⟩
            go_wp2_with (fail)
            go_ret
            exact ⟨rfl, Ht.out.trans' t3⟩

set_option maxRecDepth 100000 in
theorem lifted (os : Os) (started : os.Started) (H : Type) (enc : TypeId × Value → H) :
    ReturnsInHanded {} Tryd.checked os 3 .any (fun w args => (Rows.kidBandsSpec.pre enc Tryd.prog Tryd.f3 [] false w args ∧ laidMetH Tryd.prog KidL.laidK w) ∧ sizedMet enc Tryd.prog Tryd.f3 (OpenSpec.ofChange Rows.kidBandsSpec) false w args) (Rows.kidBandsSpec.post enc Tryd.prog Tryd.f3 false true false false) := by
  refine returnsInHanded_of_change_and (C := Tryd.checked) (X := fun w _ => laidMetH Tryd.prog KidL.laidK w) (fun _ _ _ hh h => h.of_heap hh) Tryd.own started (by kernel_rfl) Tryd.func3
    (ChangeSpec.witness_shaped (enc := enc) (C := Tryd.checked) (os := os) (X := fun w _ => laidMetH Tryd.prog KidL.laidK w) false (World.doorLaid Tryd.prog 400 os) #[.int .i64 0, .int .i64 0, .int .i64 0] 8 rfl (World.shaped_of_RefB (by kernel_rfl) (by kernel_rfl)) (by kernel_rfl) (by kernel_rfl) (by kernel_rfl) (KidL.door_met os _)) ?_
  intro W base args ds gs before hval0 hW _ _ hL _
  have hval : ∀ (j : Nat) t v, Tryd.f3.params[j]? = some t → args[j]? = some v → Value.okWide Tryd.prog W .any base t v := hval0
  have hW' := hW
  obtain ⟨p, q, hA0, hV, rfl, hfz, hnd⟩ := hW
  have hA : DataW.TrodAll enc Tryd.prog W 0 (fun _ => true) true Tryd.f3.params.toList args.toList ds p := hA0
  rw [Tryd.params3] at hA hval
  obtain ⟨v0, v1, v2, d0, d1, d2, p0, p1, p2, rfl, rfl, rfl, h0, h1, h2⟩ := trodAll_three hA
  obtain ⟨rfl, rfl⟩ := trodVars_none hV
  have tb := KidL.of_laid hL
  refine Calls.mono (R := fun e w' => e = .returned (.bool true) ∧ Touch (fun _ => False) W w') ?_ fun e W' ⟨he, hw⟩ => (by subst he; exact ⟨_, rfl, law_post Tryd.laidOut (by kernel_rfl) rfl Tryd.underlying4 rfl rfl ⟨rfl, rfl, rfl⟩ hW' (hw.below fun _ h _ => h)⟩)
  obtain ⟨n0, rfl, rfl, rfl, hV0⟩ := open_int Tryd.underlying3 (hval 0 3 v0 rfl rfl) h0
  obtain ⟨n1, rfl, rfl, rfl, hV1⟩ := open_int Tryd.underlying3 (hval 1 3 v1 rfl rfl) h1
  obtain ⟨n2, rfl, rfl, rfl, hV2⟩ := open_int Tryd.underlying3 (hval 2 3 v2 rfl rfl) h2
  exact walk n0 n1 n2 W tb (v64_wf hV0) (v64_wf hV1) (v64_wf hV2)
theorem kidBands_row : Rows.KidBandsSaid :=
  OpenClaim.holds_of_wide 3 Tryd.f3 rfl rfl rfl rfl rfl rfl rfl ⟨rfl, rfl, rfl, rfl, rfl⟩ rfl rfl rfl rfl rfl (by kernel_rfl) Tryd.func3 (by kernel_rfl)
    (of_decide_eq_true (by kernel_rfl)) (by unfold Func.isWrapper; first | (rw [if_pos (by decide +kernel)]; kernel_rfl) | (rw [if_neg (by decide +kernel)]; exact ⟨rfl, rfl⟩))
    (fun os started H enc _ => lifted os started H enc)
theorem kidBands_holds : Rows.KidBandsCardSaid :=
  Claim7.holds_tied_plain_at .later [] [.data, .data] true (true, "87a464e409c581a973f1c0aad2f21b76b9b581620a480f47bcfcd5e8305205f3") false
    kidBands_row (fun _ h => by cases h) (by kernel_rfl) (fun _ h => by cases h) kidBands_row_tie rfl ⟨rfl, rfl⟩ (by kernel_rfl) rfl
    (fun f fn hf hfn => by
      obtain rfl : f = 3 := Option.some.inj ((show Tryd.prog.funcNamed "bramble/bramblelaw9.KidBands" = some 3 by kernel_rfl).symm.trans hf) |>.symm
      obtain rfl : fn = Tryd.f3 := (Option.some.inj (Tryd.func3.symm.trans hfn)).symm
      exact ⟨by kernel_rfl, fun j t ht => by
        rw [Tryd.params3] at ht
        have hm : t ∈ [3, 3, 3] := by simpa using Array.mem_of_getElem? ht
        have hall : ([3, 3, 3].all fun u => !Tryd.prog.wantsStandIn u) = true := by kernel_rfl
        exact (show Tryd.prog.wantsStandIn t = false by simpa using List.all_eq_true.1 hall t hm)⟩)
    (by kernel_rfl)
end LawKidBands
end Go.Proofs.YtjlmhgjkekihiaaDoor
