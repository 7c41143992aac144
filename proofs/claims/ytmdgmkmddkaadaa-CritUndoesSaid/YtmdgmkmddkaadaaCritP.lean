/- Plain laws: the bits of keys, and where two keys differ first. -/
import Derived.Test.YtmdgmkmddkaadaaRefC
import Derived.Test.YtmdgmkmddkaadaaModP
namespace Go.Proofs.Ytmdgmkmddkaadaa
set_option linter.unusedVariables false
set_option linter.unusedSimpArgs false

/-- bit i of a key: of nine bits of each byte the first says that there is one -/
def bK (k : List Int) (i : Nat) : Int := match k[i / 9]? with | none => 0 | some x => if i % 9 = 0 then 1 else x / 2 ^ (8 - i % 9) % 2
theorem bK_range (k : List Int) (i : Nat) : bK k i = 0 ∨ bK k i = 1 := by
  unfold bK
  split
  · exact Or.inl rfl
  · split
    · exact Or.inr rfl
    · omega
theorem bK_far (k : List Int) (i : Nat) (h : 9 * k.length ≤ i) : bK k i = 0 := by
  unfold bK
  rw [List.getElem?_eq_none (by omega)]
def lz8 (z : Nat) : Nat := if z = 0 then 8 else 7 - z.log2
/-- the first bit in which two keys differ; -1: they are the same -/
def dI (a b : List Int) : Int :=
  if comK a b = a.length ∧ comK a b = b.length then -1
  else if comK a b = a.length ∨ comK a b = b.length then 9 * comK a b
  else 9 * comK a b + 1 + lz8 ((a.getD (comK a b) 0).toNat ^^^ (b.getD (comK a b) 0).toNat)
theorem comK_eq_iff : ∀ {a b : List Int}, (comK a b = a.length ∧ comK a b = b.length) ↔ a = b
  | [], [] => by simp [comK]
  | [], _ :: _ => by simp [comK]
  | _ :: _, [] => by simp [comK]
  | x :: a, y :: b => by
    unfold comK
    by_cases h : x = y
    · subst h
      have := comK_eq_iff (a := a) (b := b)
      simp [this]
    · simp [h]
theorem dI_none {a b : List Int} : dI a b = -1 ↔ a = b := by
  unfold dI
  by_cases h : a = b
  · rw [if_pos (comK_eq_iff.2 h)]; simp [h]
  · rw [if_neg (fun e => h (comK_eq_iff.1 e))]
    simp only [h, iff_false]
    split <;> omega
theorem xor_zero {x y : Nat} (h : x ^^^ y = 0) : x = y := by
  refine Nat.eq_of_testBit_eq fun i => ?_
  have h1 : (x ^^^ y).testBit i = false := by rw [h]; simp
  rw [Nat.testBit_xor] at h1
  cases h2 : x.testBit i <;> cases h3 : y.testBit i <;> simp_all
theorem lt_of_bits {x y : Nat} (h : Nat) (hx : x.testBit h = false) (hy : y.testBit h = true) (hab : ∀ j, h < j → x.testBit j = y.testBit j) : x < y := by
  rcases Nat.lt_or_ge x y with h1 | h1
  · exact h1
  · exfalso
    have hq : x / 2 ^ (h + 1) = y / 2 ^ (h + 1) := by
      refine Nat.eq_of_testBit_eq fun i => ?_
      rw [Nat.testBit_div_two_pow, Nat.testBit_div_two_pow]
      exact hab _ (by omega)
    rw [Nat.testBit_eq_decide_div_mod_eq] at hx hy
    have e1 : x / 2 ^ (h + 1) = x / 2 ^ h / 2 := by rw [Nat.pow_succ, Nat.div_div_eq_div_mul]
    have e2 : y / 2 ^ (h + 1) = y / 2 ^ h / 2 := by rw [Nat.pow_succ, Nat.div_div_eq_div_mul]
    have h2 : y / 2 ^ h ≤ x / 2 ^ h := Nat.div_le_div_right h1
    simp at hx hy
    omega
theorem byte_bits {x y : Nat} (hx : x < 256) (hy : y < 256) (hne : x ≠ y) : ∃ h : Nat, h < 8 ∧ lz8 (x ^^^ y) = 7 - h ∧ (∀ j, h < j → x.testBit j = y.testBit j) ∧ x.testBit h ≠ y.testBit h := by
  have hz : x ^^^ y ≠ 0 := fun h => hne (xor_zero h)
  have hlt : x ^^^ y < 2 ^ 8 := Nat.xor_lt_two_pow hx hy
  have hl : (x ^^^ y).log2 < 8 := (Nat.log2_lt hz).2 hlt
  refine ⟨(x ^^^ y).log2, hl, by unfold lz8; rw [if_neg hz], fun j hj => ?_, ?_⟩
  · have h1 : (x ^^^ y).testBit j = false := by
      refine Nat.testBit_lt_two_pow ?_
      exact (Nat.log2_lt hz).1 hj
    rw [Nat.testBit_xor] at h1
    cases h2 : x.testBit j <;> cases h3 : y.testBit j <;> simp_all
  · have h1 : (x ^^^ y).testBit (x ^^^ y).log2 = true := Nat.testBit_log2 hz
    rw [Nat.testBit_xor] at h1
    intro h2
    rw [h2] at h1
    simp at h1
theorem bit_of {x : Nat} (s : Nat) : ((x : Int) / 2 ^ s % 2) = if x.testBit s then 1 else 0 := by
  rw [Nat.testBit_eq_decide_div_mod_eq]
  have : ((x : Int) / 2 ^ s % 2) = ((x / 2 ^ s % 2 : Nat) : Int) := by norm_cast
  rw [this]
  by_cases h : x / 2 ^ s % 2 = 1
  · simp [h]
  · have : x / 2 ^ s % 2 = 0 := by omega
    simp [this]
theorem cmpK_at : ∀ {a b : List Int} {x y : Int}, a[comK a b]? = some x → b[comK a b]? = some y → (x < y → cmpK a b < 0) ∧ (y < x → cmpK b a < 0)
  | [], b, x, y, h, _ => by simp at h
  | _ :: a, [], x, y, _, h => by simp at h
  | u :: a, v :: b, x, y, h1, h2 => by
    unfold comK at h1 h2
    by_cases e : u = v
    · subst e
      rw [if_pos rfl] at h1 h2
      rw [cmpK_cons, cmpK_cons]
      exact cmpK_at (a := a) (b := b) (by simpa using h1) (by simpa using h2)
    · rw [if_neg e] at h1 h2
      simp at h1 h2
      subst h1; subst h2
      constructor
      · intro h; unfold cmpK; rw [if_pos h]; omega
      · intro h; unfold cmpK; rw [if_pos h]; omega
theorem cmpK_short : ∀ {a b : List Int}, comK a b = a.length → a.length < b.length → cmpK a b < 0
  | [], [], _, h => by simp at h
  | [], _ :: _, _, _ => by simp [cmpK]
  | _ :: _, [], _, h => by simp at h
  | x :: a, y :: b, h, h2 => by
    unfold comK at h
    by_cases e : x = y
    · subst e
      rw [if_pos rfl] at h
      rw [cmpK_cons]
      exact cmpK_short (a := a) (b := b) (by simpa using h) (by simpa using h2)
    · rw [if_neg e] at h; simp at h
theorem bK_same {a b : List Int} {j : Nat} (h : a[j / 9]? = b[j / 9]?) : bK a j = bK b j := by unfold bK; rw [h]
theorem bK_below {a b : List Int} {j : Nat} (h : j < 9 * comK a b) : bK a j = bK b j := by
  obtain ⟨x, h1, h2⟩ := comK_lt (a := a) (b := b) (j := j / 9) (by omega)
  exact bK_same (by rw [h1, h2])
/-- two keys that are not the same: where they differ first -/
theorem dI_spec {a b : List Int} (ka : KB a) (kb : KB b) (hne : a ≠ b) : ∃ d : Nat, dI a b = d ∧ 9 * comK a b ≤ d ∧ (∀ j, j < d → bK a j = bK b j) ∧
    ((cmpK a b < 0 ∧ bK a d = 0 ∧ bK b d = 1) ∨ (cmpK b a < 0 ∧ bK a d = 1 ∧ bK b d = 0)) := by
  have hle := comK_le a b
  have hn : ¬ (comK a b = a.length ∧ comK a b = b.length) := fun e => hne (comK_eq_iff.1 e)
  unfold dI
  rw [if_neg hn]
  by_cases hs : comK a b = a.length ∨ comK a b = b.length
  · rw [if_pos hs]
    refine ⟨9 * comK a b, by omega, by omega, fun j hj => bK_below hj, ?_⟩
    have hd : 9 * comK a b / 9 = comK a b := by omega
    have hm : 9 * comK a b % 9 = 0 := by omega
    rcases hs with hs | hs
    · left
      have hlt : a.length < b.length := by omega
      refine ⟨cmpK_short hs hlt, ?_, ?_⟩
      · unfold bK; rw [hd, List.getElem?_eq_none (by omega)]
      · unfold bK; rw [hd, List.getElem?_eq_getElem (by omega)]; simp [hm]
    · right
      have hlt : b.length < a.length := by omega
      have hcc : comK b a = b.length := by rw [comK_comm']; exact hs
      refine ⟨cmpK_short hcc hlt, ?_, ?_⟩
      · unfold bK; rw [hd, List.getElem?_eq_getElem (by omega)]; simp [hm]
      · unfold bK; rw [hd, List.getElem?_eq_none (by omega)]
  · rw [if_neg hs]
    have h1 : comK a b < a.length := by omega
    have h2 : comK a b < b.length := by omega
    have g1 := List.getElem?_eq_getElem h1
    have g2 := List.getElem?_eq_getElem h2
    have hx := ka _ (List.getElem_mem h1)
    have hy := kb _ (List.getElem_mem h2)
    have hxy := comK_at g1 g2
    have hcm := cmpK_at g1 g2
    have e1 : a.getD (comK a b) 0 = a[comK a b] := by rw [List.getD_eq_getElem?_getD, g1]; rfl
    have e2 : b.getD (comK a b) 0 = b[comK a b] := by rw [List.getD_eq_getElem?_getD, g2]; rfl
    rw [e1, e2]
    generalize a[comK a b] = x at *
    generalize b[comK a b] = y at *
    obtain ⟨m, rfl⟩ : ∃ m : Nat, x = m := ⟨x.toNat, by omega⟩
    obtain ⟨n, rfl⟩ : ∃ n : Nat, y = n := ⟨y.toNat, by omega⟩
    simp only [Int.toNat_natCast]
    obtain ⟨h, hh, hlz, habove, hat⟩ := byte_bits (x := m) (y := n) (by omega) (by omega) (fun e => hxy (by rw [e]))
    rw [hlz]
    have hbit : ∀ t : Nat, 1 ≤ t → t ≤ 8 → bK a (9 * comK a b + t) = (if m.testBit (8 - t) then 1 else 0) ∧ bK b (9 * comK a b + t) = (if n.testBit (8 - t) then 1 else 0) := by
      intro t ht1 ht8
      have hd : (9 * comK a b + t) / 9 = comK a b ∨ t = 9 := by omega
      have hd : (9 * comK a b + t) / 9 = comK a b := by omega
      have hm : (9 * comK a b + t) % 9 = t := by omega
      unfold bK
      rw [hd, g1, g2, hm]
      simp only [show ¬ t = 0 by omega, if_false, bit_of]
      exact ⟨trivial, trivial⟩
    have hzero : bK a (9 * comK a b) = bK b (9 * comK a b) := by
      have hd : 9 * comK a b / 9 = comK a b := by omega
      have hm : 9 * comK a b % 9 = 0 := by omega
      unfold bK
      rw [hd, g1, g2, hm]; simp
    refine ⟨9 * comK a b + 1 + (7 - h), by omega, by omega, fun j hj => ?_, ?_⟩
    · rcases Nat.lt_or_ge j (9 * comK a b) with h3 | h3
      · exact bK_below h3
      · rcases Nat.eq_or_lt_of_le h3 with h4 | h4
        · rw [← h4]; exact hzero
        · obtain ⟨t, rfl⟩ : ∃ t, j = 9 * comK a b + t := ⟨j - 9 * comK a b, by omega⟩
          obtain ⟨b1, b2⟩ := hbit t (by omega) (by omega)
          rw [b1, b2, habove (8 - t) (by omega)]
    · have hb := hbit (1 + (7 - h)) (by omega) (by omega)
      rw [show 9 * comK a b + 1 + (7 - h) = 9 * comK a b + (1 + (7 - h)) by omega, hb.1, hb.2, show 8 - (1 + (7 - h)) = h by omega]
      cases h5 : m.testBit h <;> cases h6 : n.testBit h
      · rw [h5, h6] at hat; exact absurd rfl hat
      · left
        have := lt_of_bits h h5 h6 (fun j hj => habove j hj)
        exact ⟨hcm.1 (by omega), by simp, by simp⟩
      · right
        have := lt_of_bits h h6 h5 (fun j hj => (habove j hj).symm)
        exact ⟨hcm.2 (by omega), by simp, by simp⟩
      · rw [h5, h6] at hat; exact absurd rfl hat
where comK_comm' : ∀ {a b : List Int}, comK a b = comK b a
  | [], [] => rfl
  | [], _ :: _ => rfl
  | _ :: _, [] => rfl
  | x :: a, y :: b => by
    unfold comK
    by_cases h : x = y
    · subst h; simp [comK_comm' (a := a) (b := b)]
    · rw [if_neg h, if_neg (fun e => h e.symm)]
/-- the first bit in which two keys differ tells their order -/
theorem order_of {a b : List Int} (ka : KB a) (kb : KB b) {e : Nat} (hb : ∀ j, j < e → bK a j = bK b j) (h0 : bK a e = 0) (h1 : bK b e = 1) : cmpK a b < 0 := by
  have hne : a ≠ b := fun h => by rw [h] at h0; omega
  obtain ⟨d, _, _, h2, h3⟩ := dI_spec ka kb hne
  have hde : d = e := by
    rcases Nat.lt_trichotomy d e with h | h | h
    · have := hb d h; rcases h3 with ⟨_, h4, h5⟩ | ⟨_, h4, h5⟩ <;> omega
    · exact h
    · have := h2 e h; omega
  subst hde
  rcases h3 with ⟨h4, _, _⟩ | ⟨_, h4, _⟩
  · exact h4
  · omega
theorem dI_lt {a b : List Int} (ka : KB a) (kb : KB b) (h : cmpK a b < 0) : ∃ d : Nat, dI a b = d ∧ (∀ j, j < d → bK a j = bK b j) ∧ bK a d = 0 ∧ bK b d = 1 := by
  have hne : a ≠ b := fun e => by rw [e, cmpK_self] at h; omega
  obtain ⟨d, h1, _, h2, h3⟩ := dI_spec ka kb hne
  rcases h3 with ⟨_, h4, h5⟩ | ⟨h4, _, _⟩
  · exact ⟨d, h1, h2, h4, h5⟩
  · have := cmpK_neg a b; omega
/-- what lies between two keys shares what these share -/
theorem between {a x b : List Int} (ka : KB a) (kx : KB x) (kb : KB b) (h1 : a = x ∨ cmpK a x < 0) (h2 : x = b ∨ cmpK x b < 0) {d : Nat} (hd : ∀ j, j < d → bK a j = bK b j) : ∀ j, j < d → bK a j = bK x j := by
  rcases h1 with rfl | h1
  · exact fun _ _ => rfl
  rcases h2 with rfl | h2
  · exact hd
  obtain ⟨e, _, e2, e3, e4⟩ := dI_lt ka kx h1
  intro j hj
  rcases Nat.lt_or_ge e d with h | h
  · exfalso
    have h3 : bK b e = 0 := by rw [← hd e h]; exact e3
    have := order_of kb kx (e := e) (fun i hi => by rw [← hd i (by omega)]; exact e2 i hi) h3 e4
    have := cmpK_neg b x
    omega
  · exact e2 j (by omega)
end Go.Proofs.Ytmdgmkmddkaadaa
