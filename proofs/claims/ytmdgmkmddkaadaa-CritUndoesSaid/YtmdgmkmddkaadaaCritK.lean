/- Package key and the document's chapter 1: Bit, Differ. -/
import Derived.Test.YtmdgmkmddkaadaaCritP
import Derived.Test.YtmdgmkmddkaadaaKeyC
import Derived.Test.YtmdgmkmddkaadaaRefA
namespace Go.Proofs.Ytmdgmkmddkaadaa
open Go.RowKit
set_option linter.unusedVariables false
set_option linter.unusedSimpArgs false
namespace CritK
variable {F G : Nat → Prop}
set_option maxRecDepth 100000 in
set_option maxHeartbeats 400000 in
theorem len8_any (x : Nat) (hx : x < 256) (w : World) : Calls Try.prog 114 #[.int .u8 x] w fun e w' => e = .returned (.int .i64 (8 - lz8 x : Nat)) ∧ w = w' := by
  go_enter Try.func114, Try.ntmps114
  go_wp2_with (fail)
  go_ret
  refine ⟨congrArg (fun z => Ending.returned (.int .i64 z)) ?_, rfl⟩
  revert x
  decide +kernel
theorem and_one_nat : ∀ z, z < 256 → bits .and .i64 (wrap64 ((z : Nat) : Int)) 1 = ((z % 2 : Nat) : Int) := by decide +kernel
theorem and_one (z : Int) (h0 : 0 ≤ z) (h1 : z < 256) : bits .and .i64 (wrap64 z) 1 = z % 2 := by
  obtain ⟨n, rfl⟩ : ∃ n : Nat, z = n := ⟨z.toNat, by omega⟩
  rw [and_one_nat n (by omega)]; omega
set_option maxRecDepth 100000 in
set_option maxHeartbeats 400000 in
theorem bit_any (w : World) (v : Value) (k : List Int) (i : Nat) (h : RB w F v k) (kb : KB k) (hi : i ≤ 10000000) :
    Calls Try.prog 92 #[v, .int .i64 i] w fun e w' => e = .returned (.int .i64 (bK k i)) ∧ w = w' := by
  obtain ⟨a, c, rfl, l1, m1, _⟩ := h.shape
  unfold maxLen at m1
  have b0 : decide ((i : Int) < 0) = false := by simp
  by_cases hl : i / 9 < k.length
  · obtain ⟨b, off, rfl, _⟩ := h.addr (by omega)
    have c0 := h.cell (i / 9) hl
    have hk := kb _ (List.getElem_mem hl)
    have hb : bK k i = if i % 9 = 0 then 1 else k[i / 9] / 2 ^ (8 - i % 9) % 2 := by unfold bK; rw [List.getElem?_eq_getElem hl]
    generalize k[i / 9] = x at *
    have hl2 : (i : Int) / 9 < (k.length : Int) := by omega
    have b2 : decide ((k.length : Int) ≤ (i : Int) / 9) = false := decide_eq_false (by omega)
    have e9 : ((i : Int) / 9).toNat = i / 9 := by omega
    have e8 : (0 : Int) ≤ (i : Int) / 9 := by omega
    by_cases hm : i % 9 = 0
    · rw [if_pos hm] at hb
      have b3 : ((i : Int) % 9 == 0) = true := by simp; omega
      have H := Lib.hid h
      clear h
      have Hb := Lib.hid hb
      clear hb
      have Kb := Lib.hid kb
      clear kb
      have Hk := Lib.hid hk
      clear hk
      go_enter Try.func92, Try.ntmps92
      go_wp2_with (fail)
      go_ret
      rw [Hb.out]
      exact ⟨rfl, rfl⟩
    · rw [if_neg hm] at hb
      have b3 : ((i : Int) % 9 == 0) = false := by simp; omega
      have H := Lib.hid h
      clear h
      have Hb := Lib.hid hb
      clear hb
      have Kb := Lib.hid kb
      clear kb
      have Hk := Lib.hid hk
      clear hk
      go_enter Try.func92, Try.ntmps92
      go_wp2_with (fail)
      go_ret
      rw [Hb.out]
      exact ⟨congrArg (fun z => Ending.returned (.int .i64 z)) (and_one _ (Int.ediv_nonneg Hk.out.1 (by exact Int.le_of_lt (Int.pow_pos (by decide)))) (Int.lt_of_le_of_lt (Int.ediv_le_self _ Hk.out.1) Hk.out.2)), rfl⟩
  · have hb : bK k i = 0 := bK_far k i (by omega)
    have b2 : decide ((k.length : Int) ≤ (i : Int) / 9) = true := decide_eq_true (by omega)
    have H := Lib.hid h
    clear h
    have Hb := Lib.hid hb
    clear hb
    have Kb := Lib.hid kb
    clear kb
    go_enter Try.func92, Try.ntmps92
    go_wp2_with (fail)
    go_ret
    rw [Hb.out]
    exact ⟨rfl, rfl⟩
theorem lz_any (x : Nat) (hx : x < 256) (w : World) : Calls Try.prog 110 #[.int .u8 x] w fun e w' => e = .returned (.int .i64 (lz8 x)) ∧ w = w' := by
  have hl : lz8 x ≤ 8 := by unfold lz8; split <;> omega
  have h8 := len8_any x hx w
  have H8 := Lib.hid h8
  clear h8
  go_enter Try.func110, Try.ntmps110
  go_wp2_with (fail)
  (with_reducible refine H8.out.mono ?_)
  rintro e w' ⟨rfl, rfl⟩
  go_wp2_with (fail)
  go_ret
  exact ⟨congrArg (fun z => Ending.returned (.int .i64 z)) (by omega), rfl⟩

theorem xor_lt {m k : Nat} (hm : m < 256) (hk : k < 256) : m ^^^ k < 256 := Nat.xor_lt_two_pow (n := 8) hm hk
theorem xor_u8 (m k : Nat) (hm : m < 256) (hk : k < 256) : bits .xor .u8 (m : Int) (k : Int) = ((m ^^^ k : Nat) : Int) := by
  have hl := xor_lt hm hk
  have h1 : (BitVec.ofInt 8 (m : Int)).toNat = m := by
    rw [BitVec.ofInt_natCast, BitVec.toNat_ofNat]; exact Nat.mod_eq_of_lt (by omega)
  have h2 : (BitVec.ofInt 8 (k : Int)).toNat = k := by
    rw [BitVec.ofInt_natCast, BitVec.toNat_ofNat]; exact Nat.mod_eq_of_lt (by omega)
  show IntKind.u8.wrap ((BitVec.ofInt 8 (m : Int) ^^^ BitVec.ofInt 8 (k : Int)).toNat : Int) = _
  rw [BitVec.toNat_xor, h1, h2, IntKind.wrap_u8]
  omega
set_option maxRecDepth 100000 in
set_option maxHeartbeats 1600000 in
theorem differ_any (w : World) (va vb : Value) (a b : List Int) (ha : RB w F va a) (hb : RB w G vb b) (ka : KB a) (kb : KB b) (hm : a.length ≤ 1000000) (hn : b.length ≤ 1000000) :
    Calls Try.prog 91 #[va, vb] w fun e w' => e = .returned (.int .i64 (dI a b)) ∧ Ext w w' := by
  obtain ⟨aa, ac, rfl, l1, m1, _⟩ := ha.shape
  obtain ⟨ba, bc, rfl, l2, m2, _⟩ := hb.shape
  unfold maxLen at m1 m2
  have hc := KeyC.common_any w _ _ a b ha hb hm hn
  have hle := comK_le a b
  obtain ⟨D, hdd⟩ : ∃ D, dI a b = D := ⟨_, rfl⟩
  have hd := hdd
  rw [hdd]
  unfold dI at hd
  generalize hcn : comK a b = n at *
  clear hcn
  by_cases h1 : n = a.length ∧ n = b.length
  · rw [if_pos h1] at hd
    have b1 : ((n : Int) == (a.length : Int)) = true := by simp; omega
    have b2 : ((n : Int) == (b.length : Int)) = true := by simp; omega
    have Hc := Lib.hid hc
    clear hc
    have Ha := Lib.hid ha
    clear ha
    have Hb := Lib.hid hb
    clear hb
    have Hd := Lib.hid hd
    clear hd
    have Hdd := Lib.hid hdd
    clear hdd
    go_enter Try.func91, Try.ntmps91
    go_wp2_with (fail)
    (with_reducible refine Hc.out.mono ?_)
    rintro e w1 ⟨rfl, t1⟩
    go_wp2_with (fail)
    go_ret
    rw [← Hd.out]
    exact ⟨rfl, t1⟩
  · rw [if_neg h1] at hd
    by_cases h2 : n = a.length
    · have h3 : n ≠ b.length := fun e => h1 ⟨h2, e⟩
      rw [if_pos (Or.inl h2)] at hd
      have b1 : ((n : Int) == (a.length : Int)) = true := by simp; omega
      have b2 : ((n : Int) == (b.length : Int)) = false := by simp; omega
      have Hc := Lib.hid hc
      clear hc
      have Ha := Lib.hid ha
      clear ha
      have Hb := Lib.hid hb
      clear hb
      have Hd := Lib.hid hd
      clear hd
      have Hdd := Lib.hid hdd
      clear hdd
      clear h1 h2 h3
      go_enter Try.func91, Try.ntmps91
      go_wp2_with (fail)
      (with_reducible refine Hc.out.mono ?_)
      rintro e w1 ⟨rfl, t1⟩
      go_wp2_with (fail)
      go_ret
      rw [← Hd.out]
      exact ⟨rfl, t1⟩
    · have b1 : ((n : Int) == (a.length : Int)) = false := by simp; omega
      by_cases h3 : n = b.length
      · rw [if_pos (Or.inr h3)] at hd
        have b2 : ((n : Int) == (b.length : Int)) = true := by simp; omega
        have Hc := Lib.hid hc
        clear hc
        have Ha := Lib.hid ha
        clear ha
        have Hb := Lib.hid hb
        clear hb
        have Hd := Lib.hid hd
        clear hd
        have Hdd := Lib.hid hdd
        clear hdd
        clear h1 h2 h3
        go_enter Try.func91, Try.ntmps91
        go_wp2_with (fail)
        (with_reducible refine Hc.out.mono ?_)
        rintro e w1 ⟨rfl, t1⟩
        go_wp2_with (fail)
        go_ret
        rw [← Hd.out]
        exact ⟨rfl, t1⟩
      · have hna : n < a.length := by omega
        have hnb : n < b.length := by omega
        rw [if_neg (by omega)] at hd
        have b2 : ((n : Int) == (b.length : Int)) = false := by simp; omega
        obtain ⟨ab, ao, rfl, _⟩ := ha.addr (by omega)
        obtain ⟨bb, bo, rfl, _⟩ := hb.addr (by omega)
        have c0 := ha.cell n hna
        have c1 := hb.cell n hnb
        have hx := ka _ (List.getElem_mem hna)
        have hy := kb _ (List.getElem_mem hnb)
        have e1 : a.getD n 0 = a[n] := by rw [List.getD_eq_getElem?_getD, List.getElem?_eq_getElem hna]; rfl
        have e2 : b.getD n 0 = b[n] := by rw [List.getD_eq_getElem?_getD, List.getElem?_eq_getElem hnb]; rfl
        rw [e1, e2] at hd
        clear e1 e2 h1 h2 h3
        generalize a[n] = x at *
        generalize b[n] = y at *
        obtain ⟨m, rfl⟩ : ∃ m : Nat, x = m := ⟨x.toNat, by omega⟩
        obtain ⟨k, rfl⟩ : ∃ k : Nat, y = k := ⟨y.toNat, by omega⟩
        simp only [Int.toNat_natCast] at hd
        have hxo := xor_u8 m k (by omega) (by omega)
        have hlz := fun W => lz_any (m ^^^ k) (xor_lt (by omega) (by omega)) W
        have hz8 : lz8 (m ^^^ k) ≤ 8 := by unfold lz8; split <;> omega
        have i0 : (0 : Int) ≤ (n : Int) := by omega
        have i1 : (n : Int) < (a.length : Int) := by omega
        have i2 : (n : Int) < (b.length : Int) := by omega
        have i3 : IntKind.i64.wrap (9 * (n : Int)) = 9 * (n : Int) := by rw [IntKind.wrap_i64]; omega
        have i4 : IntKind.i64.wrap (9 * (n : Int) + 1) = 9 * (n : Int) + 1 := by rw [IntKind.wrap_i64]; omega
        have i5 : IntKind.i64.wrap (9 * (n : Int) + 1 + (lz8 (m ^^^ k) : Int)) = 9 * (n : Int) + 1 + (lz8 (m ^^^ k) : Int) := by rw [IntKind.wrap_i64]; omega
        generalize lz8 (m ^^^ k) = z at *
        have Hc := Lib.hid hc
        clear hc
        have Ha := Lib.hid ha
        clear ha
        have Hb := Lib.hid hb
        clear hb
        have Hd := Lib.hid hd
        clear hd
        have Hdd := Lib.hid hdd
        clear hdd
        have Hlz := Lib.hid hlz
        clear hlz
        have Hx := Lib.hid hx
        clear hx
        have Hy := Lib.hid hy
        clear hy
        go_enter Try.func91, Try.ntmps91
        go_wp2_with (fail)
        (with_reducible refine Hc.out.mono ?_)
        rintro e w1 ⟨rfl, t1⟩
        have d0 := keepc t1 id c0
        have d1 := keepc t1 id c1
        go_wp2_with (fail)
        refine wp_region_plan (.take 0 (.take 1 (.take 2 (.take 3 (.take 4 (.take 5 (.take 6 (.take 7 (.take 8 (.take 9 (.take 10 (.take 11 (.must 12 (.take 13 (.take 14 .done))))))))))))))) (fun wy => wy.cell? ⟨ab, ao + n, none⟩ = some (.int .u8 m) ∧ wy.cell? ⟨bb, bo + n, none⟩ = some (.int .u8 k)) (by kernel_rfl) (by kernel_rfl) (by kernel_rfl) rfl ?_ (fun KK hKK => ?_)
        · exact ⟨d0, d1⟩
        repeat (first
          | (refine wpPlan_take (v := ?_) rfl (by rfl) (fun W hW => ?_) ?_; rotate_left; (focus ((try dsimp only at hW); go_split_ands; go_simp; (try with_reducible rfl); done)); (try simp only [Act.put, List.setIfInBounds_toArray, List.set_cons_zero, List.set_cons_succ]))
          | (refine wpPlan_skip rfl (by rfl) ?_; (try simp only [Act.put, List.setIfInBounds_toArray, List.set_cons_zero, List.set_cons_succ])))
        refine wpPlan_must rfl (by rfl) (fun K hK => ?_)
        go_simp
        (with_reducible refine (Hlz.out _).mono ?_)
        rintro e w2 ⟨rfl, rfl⟩
        refine hK.out _ _ ?_ ?_
        · exact ⟨d0, d1⟩
        clear hK K
        (try simp only [Act.put, List.setIfInBounds_toArray, List.set_cons_zero, List.set_cons_succ])
        repeat (first
          | (refine wpPlan_take (v := ?_) rfl (by rfl) (fun W hW => ?_) ?_; rotate_left; (focus ((try dsimp only at hW); go_split_ands; go_simp; (try with_reducible rfl); done)); (try simp only [Act.put, List.setIfInBounds_toArray, List.set_cons_zero, List.set_cons_succ]))
          | (refine wpPlan_skip rfl (by rfl) ?_; (try simp only [Act.put, List.setIfInBounds_toArray, List.set_cons_zero, List.set_cons_succ])))
        refine wpPlan_done (hKK.out _ _ ?_)
        clear hKK KK
        clear i3 i4 i5
        go_wp2_with (fail)
        go_ret
        rw [← Hd.out]
        exact ⟨rfl, t1.drew⟩
end CritK
end Go.Proofs.Ytmdgmkmddkaadaa
