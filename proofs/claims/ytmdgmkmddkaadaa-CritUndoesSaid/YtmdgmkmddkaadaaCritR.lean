/- The document's chapter 1: Bit, Differ. -/
import Derived.Test.YtmdgmkmddkaadaaCritK
namespace Go.Proofs.Ytmdgmkmddkaadaa
open Go.RowKit
set_option linter.unusedVariables false
set_option linter.unusedSimpArgs false
namespace CritR
open CritK
variable {F G : Nat → Prop}
theorem and_one8_nat : ∀ z, z < 256 → wrap64 (bits .and .u8 ((z : Nat) : Int) 1) = ((z % 2 : Nat) : Int) := by decide +kernel
theorem and_one8 (z : Int) (h0 : 0 ≤ z) (h1 : z < 256) : wrap64 (bits .and .u8 z 1) = z % 2 := by
  obtain ⟨n, rfl⟩ : ∃ n : Nat, z = n := ⟨z.toNat, by omega⟩
  rw [and_one8_nat n (by omega)]; omega
set_option maxRecDepth 100000 in
set_option maxHeartbeats 400000 in
theorem rbit_any (w : World) (v : Value) (k : List Int) (i : Nat) (h : RB w F v k) (kb : KB k) (hi : i ≤ 10000000) :
    Calls Try.prog 84 #[v, .int .i64 i] w fun e w' => e = .returned (.int .i64 (bK k i)) ∧ w = w' := by
  obtain ⟨a, c, rfl, l1, m1, _⟩ := h.shape
  unfold maxLen at m1
  have b0 : decide ((i : Int) < 0) = false := by simp
  by_cases hl : i / 9 < k.length
  · obtain ⟨b, off, rfl, _⟩ := h.addr (by omega)
    have c0 := h.cell (i / 9) hl
    have hk := kb _ (List.getElem_mem hl)
    have hb : bK k i = if i % 9 = 0 then 1 else k[i / 9] / 2 ^ (8 - i % 9) % 2 := by unfold bK; rw [List.getElem?_eq_getElem hl]
    generalize k[i / 9] = x at *
    have hl2 : (i : Int) / 9 < (k.length : Int) := by omega
    have b2 : decide ((k.length : Int) ≤ (i : Int) / 9) = false := decide_eq_false (by omega)
    have e9 : ((i : Int) / 9).toNat = i / 9 := by omega
    have e8 : (0 : Int) ≤ (i : Int) / 9 := by omega
    by_cases hm : i % 9 = 0
    · rw [if_pos hm] at hb
      have b3 : ((i : Int) % 9 == 0) = true := by simp; omega
      have H := Lib.hid h
      clear h
      have Hb := Lib.hid hb
      clear hb
      have Kb := Lib.hid kb
      clear kb
      have Hk := Lib.hid hk
      clear hk
      go_enter Try.func84, Try.ntmps84
      go_wp2_with (fail)
      go_ret
      rw [Hb.out]
      exact ⟨rfl, rfl⟩
    · rw [if_neg hm] at hb
      have b3 : ((i : Int) % 9 == 0) = false := by simp; omega
      have H := Lib.hid h
      clear h
      have Hb := Lib.hid hb
      clear hb
      have Kb := Lib.hid kb
      clear kb
      have Hk := Lib.hid hk
      clear hk
      go_enter Try.func84, Try.ntmps84
      go_wp2_with (fail)
      go_ret
      rw [Hb.out]
      exact ⟨congrArg (fun z => Ending.returned (.int .i64 z)) (and_one8 _ (Int.ediv_nonneg Hk.out.1 (by exact Int.le_of_lt (Int.pow_pos (by decide)))) (Int.lt_of_le_of_lt (Int.ediv_le_self _ Hk.out.1) Hk.out.2)), rfl⟩
  · have hb : bK k i = 0 := bK_far k i (by omega)
    have b2 : decide ((k.length : Int) ≤ (i : Int) / 9) = true := decide_eq_true (by omega)
    have H := Lib.hid h
    clear h
    have Hb := Lib.hid hb
    clear hb
    have Kb := Lib.hid kb
    clear kb
    go_enter Try.func84, Try.ntmps84
    go_wp2_with (fail)
    go_ret
    rw [Hb.out]
    exact ⟨rfl, rfl⟩

set_option maxRecDepth 100000 in
set_option maxHeartbeats 1600000 in
theorem rdiffer_any (w : World) (va vb : Value) (a b : List Int) (ha : RB w F va a) (hb : RB w G vb b) (ka : KB a) (kb : KB b) (hm : a.length ≤ 1000000) (hn : b.length ≤ 1000000) :
    Calls Try.prog 83 #[va, vb] w fun e w' => e = .returned (.int .i64 (dI a b)) ∧ Ext w w' := by
  obtain ⟨aa, ac, rfl, l1, m1, _⟩ := ha.shape
  obtain ⟨ba, bc, rfl, l2, m2, _⟩ := hb.shape
  unfold maxLen at m1 m2
  have hc1 := conv_any w F aa a.length ac a ha
  have hc2 := conv_any w G ba b.length bc b hb
  have hss := same_str ka kb
  have hle := comK_le a b
  by_cases he : a = b
  · have hd := dI_none.2 he
    rw [beq_iff_eq.2 he] at hss
    have Hd := Lib.hid hd
    clear hd
    have Ha := Lib.hid ha
    clear ha
    have Hb := Lib.hid hb
    clear hb
    have Ka := Lib.hid ka
    clear ka
    have Kb := Lib.hid kb
    clear kb
    have He := Lib.hid he
    clear he
    go_enter Try.func83, Try.ntmps83
    go_wp2_with (fail)
    go_ret
    rw [Hd.out]
    exact ⟨rfl, Touch.refl _ _⟩
  · obtain ⟨d, hd, hcd, hbel, hat⟩ := dI_spec ka kb he
    rw [beq_eq_false_iff_ne.2 he] at hss
    have hdn : bK a d ≠ bK b d := by rcases hat with ⟨_, h1, h2⟩ | ⟨_, h1, h2⟩ <;> omega
    have hdl : d < 9 * a.length ∨ d < 9 * b.length := by
      rcases Nat.lt_or_ge d (9 * a.length) with h | h
      · exact Or.inl h
      · rcases Nat.lt_or_ge d (9 * b.length) with h' | h'
        · exact Or.inr h'
        · rw [bK_far a d h, bK_far b d h'] at hdn; exact absurd rfl hdn
    have hco := RefC.common_any w _ _ a b ha hb hm hn
    have hba := fun W (t : Ext w W) (i : Nat) (hi : i ≤ 10000000) => rbit_any W _ a i (ha.ext t) ka hi
    have hbb := fun W (t : Ext w W) (i : Nat) (hi : i ≤ 10000000) => rbit_any W _ b i (hb.ext t) kb hi
    generalize hcn : comK a b = n at *
    rw [hd]
    have Hd := Lib.hid hd
    clear hd
    have Ha := Lib.hid ha
    clear ha
    have Hb := Lib.hid hb
    clear hb
    have Ka := Lib.hid ka
    clear ka
    have Kb := Lib.hid kb
    clear kb
    have He := Lib.hid he
    clear he
    have Hbel := Lib.hid hbel
    clear hbel
    have Hat := Lib.hid hat
    clear hat
    have Hdn := Lib.hid hdn
    clear hdn
    have Hco := Lib.hid hco
    clear hco
    have Hba := Lib.hid hba
    clear hba
    have Hbb := Lib.hid hbb
    clear hbb
    have Hcn := Lib.hid hcn
    clear hcn
    go_enter Try.func83, Try.ntmps83
    go_wp2_with (fail)
    (with_reducible refine Hco.out.mono ?_)
    rintro e w1 ⟨rfl, t1⟩
    go_wp2_with (fail)
    go_loopw [5] (fun s3 wr => ∃ j : Nat, 9 * n ≤ j ∧ j ≤ d ∧ s3 = .int .i64 j ∧ Ext w wr) (fun s3 _ => d - (intOf s3).toNat)
    case atStart => exact ⟨9 * n, by omega, by omega, by go_num, t1⟩
    case round =>
      obtain ⟨j, hj1, hj2, rfl, ht⟩ := hrel
      have hb1 := Hba.out _ ht j (by omega)
      have hb2 := Hbb.out _ ht j (by omega)
      by_cases hjd : j < d
      · have heq : (bK a j == bK b j) = true := by simp [Hbel.out j hjd]
        generalize bK a j = x at *
        generalize bK b j = y at *
        have Hb1 := Lib.hid hb1
        clear hb1
        have Hb2 := Lib.hid hb2
        clear hb2
        go_wp2_with (fail)
        (with_reducible refine Hb1.out.mono ?_)
        rintro e w2 ⟨rfl, rfl⟩
        go_wp2_with (fail)
        (with_reducible refine Hb2.out.mono ?_)
        rintro e w2 ⟨rfl, rfl⟩
        go_wp2_with (fail)
        go_roundw
        case rel => exact ⟨j + 1, by omega, by omega, by go_num, ht⟩
        case measure => simp [intOf]; omega
      · obtain rfl : j = d := by omega
        have hne : (bK a j == bK b j) = false := by simpa using Hdn.out
        have hdn2 := Hdn.out
        generalize bK a j = x at *
        generalize bK b j = y at *
        have Hb1 := Lib.hid hb1
        clear hb1
        have Hb2 := Lib.hid hb2
        clear hb2
        have Hdn2 := Lib.hid hdn2
        clear hdn2
        go_wp2_with (fail)
        (with_reducible refine Hb1.out.mono ?_)
        rintro e w2 ⟨rfl, rfl⟩
        go_wp2_with (fail)
        (with_reducible refine Hb2.out.mono ?_)
        rintro e w2 ⟨rfl, rfl⟩
        go_wp2_with (fail)
        go_ret
        exact ⟨rfl, ht⟩
end CritR
end Go.Proofs.Ytmdgmkmddkaadaa
