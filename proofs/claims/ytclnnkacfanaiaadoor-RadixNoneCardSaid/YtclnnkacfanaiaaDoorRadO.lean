/- Plain laws: what a put, a drop makes of the tree of nodes. -/
import Derived.Test.YtclnnkacfanaiaaDoorRadN
namespace Go.Proofs.YtclnnkacfanaiaaDoor
set_option linter.unusedVariables false
set_option linter.unusedSimpArgs false
open ModP (cmpK_prefix)
open RadK MaskP MaskA KidB
namespace RT
def upd (f : Nat → RT) (b : Nat) (T : RT) : Nat → RT := fun i => if i = b then T else f i
theorem upd_at (f : Nat → RT) (b : Nat) (T : RT) : upd f b T b = T := by simp [upd]
theorem upd_ne (f : Nat → RT) (b : Nat) (T : RT) {i : Nat} (h : i ≠ b) : upd f b T i = f i := by simp [upd, h]
theorem hsT_upd (f : Nat → RT) (b : Nat) (T : RT) : hsT (upd f b T) = setb (hsT f) b T.is := by
  funext i; simp only [hsT, upd, setb]; split <;> rfl
theorem cnt_upd (f : Nat → RT) {b : Nat} (hb : b < 256) (T : RT) : cnt (hsT (upd f b T)) 256 + ((f b).is).toNat = cnt (hsT f) 256 + (T.is).toNat := by
  rw [hsT_upd]; exact KidW.cnt_setb (hsT f) b T.is 256 hb
def none : Nat → RT := fun _ => nil
theorem cnt_none' : cnt (hsT none) 256 = 0 := cnt_none 256
def leafO (c : Nat) : RT → Option Int
  | leaf k v => if k.length = c then some v else Option.none
  | _ => Option.none
/-- two that part at a place -/
def joinO (c : Nat) (n : RT) (k : List Int) (v : Int) : Option Int := if k.length = c then some v else leafO c n
def joinF (c : Nat) (n : RT) (k : List Int) (v : Int) : Nat → RT :=
  if k.length = c then upd none (byteAt n.key c) n else if n.key.length = c then upd none (byteAt k c) (leaf k v) else upd (upd none (byteAt n.key c) n) (byteAt k c) (leaf k v)
def join (c : Nat) (n : RT) (k : List Int) (v : Int) : RT := node (k.take c) (joinO c n k v) 0 (joinF c n k v)
def putT : RT → List Int → Int → RT
  | nil, k, v => leaf k v
  | leaf k0 v0, k, v => if k0 = k then leaf k0 v else join (comK k0 k) (leaf k0 v0) k v
  | node k0 o kd f, k, v =>
    if comK k0 k < k0.length then join (comK k0 k) (node k0 o kd f) k v
    else if k.length = k0.length then node k0 (some v) kd f
    else if (f (byteAt k k0.length)).is = false then node k0 o (upK kd (cnt (hsT f) 256 + 1)) (upd f (byteAt k k0.length) (leaf k v))
    else node k0 o kd (upd f (byteAt k k0.length) (putT (f (byteAt k k0.length)) k v))
/-- the only child -/
def oneT (f : Nat → RT) : RT := match (List.range 256).find? (hsT f) with
  | some i => f i
  | Option.none => nil
def dropN (k0 : List Int) (v0 : Int) (o : Option Int) (kd : Nat) (f : Nat → RT) : RT :=
  if o.isSome = true ∧ cnt (hsT f) 256 = 0 then leaf k0 (o.getD v0)
  else if o.isSome = false ∧ cnt (hsT f) 256 = 1 then oneT f
  else node k0 o kd f
def dropT : RT → List Int → RT
  | nil, _ => nil
  | leaf _ _, _ => nil
  | node k0 o kd f, k =>
    if k.length = k0.length then dropN k0 0 Option.none kd f
    else if (dropT (f (byteAt k k0.length)) k).is = false then dropN k0 0 o (dnK kd (cnt (hsT f) 256 - 1)) (upd f (byteAt k k0.length) nil)
    else dropN k0 0 o kd (upd f (byteAt k k0.length) (dropT (f (byteAt k k0.length)) k))

theorem join_is (c : Nat) (n : RT) (k : List Int) (v : Int) : (join c n k v).is = true := rfl
theorem putT_is (T : RT) (k : List Int) (v : Int) : (putT T k v).is = true := by
  cases T with
  | nil => rfl
  | leaf k0 v0 => unfold putT; split <;> rfl
  | node k0 o kd f => unfold putT; split; rfl; split; rfl; split <;> rfl

/-- what a node whose children one has changed -/
theorem ok_upd {q k : List Int} {o : Option Int} {kd kd' : Nat} {f : Nat → RT} (h : Ok q (node k o kd f)) {b : Nat} (hb : b < 256) {T : RT} (hT : Ok (k ++ [(b : Int)]) T) (h2 : 2 ≤ cnt (hsT (upd f b T)) 256 + one o)
    (hk : kd' < 4) (h3 : leftI kd' < (cnt (hsT (upd f b T)) 256 : Nat)) (h4 : ((cnt (hsT (upd f b T)) 256 : Nat) : Int) ≤ roomI kd') : Ok q (node k o kd' (upd f b T)) := by
  refine ⟨h.1, h.2.1, fun i hi => ?_, fun i hi => ?_, h2, hk, h3, h4⟩
  · rw [upd_ne _ _ _ (by omega)]; exact h.2.2.1 i hi
  · by_cases e : i = b
    · subst e; rw [upd_at]; exact hT
    · rw [upd_ne _ _ _ e]; exact h.2.2.2.1 i hi
theorem mem_upd {f : Nat → RT} {b : Nat} (hb : b < 256) {T : RT} {p : List Int × Int} : (∃ i, i < 256 ∧ p ∈ (upd f b T i).prs) ↔ p ∈ T.prs ∨ ∃ i, i < 256 ∧ i ≠ b ∧ p ∈ (f i).prs := by
  constructor
  · rintro ⟨i, hi, hp⟩
    by_cases e : i = b
    · subst e; rw [upd_at] at hp; exact Or.inl hp
    · rw [upd_ne _ _ _ e] at hp; exact Or.inr ⟨i, hi, e, hp⟩
  · rintro (hp | ⟨i, hi, e, hp⟩)
    · exact ⟨b, hb, by rw [upd_at]; exact hp⟩
    · exact ⟨i, hi, by rw [upd_ne _ _ _ e]; exact hp⟩
theorem up_band {kd n : Nat} (hk : kd < 4) (h1 : leftI kd < (n : Nat)) (h2 : ((n : Nat) : Int) ≤ roomI kd) (hn : n + 1 ≤ 256) : upK kd (n + 1) < 4 ∧ leftI (upK kd (n + 1)) < ((n + 1 : Nat) : Int) ∧ ((n + 1 : Nat) : Int) ≤ roomI (upK kd (n + 1)) := by
  refine ⟨up_lt hk hn, ?_⟩
  have a0 : leftI 0 = -1 := rfl
  have a1 : leftI 1 = 3 := rfl
  have a2 : leftI 2 = 12 := rfl
  have a3 : leftI 3 = 40 := rfl
  have b0 : roomI 0 = 4 := rfl
  have b1 : roomI 1 = 16 := rfl
  have b2 : roomI 2 = 48 := rfl
  have b3 : roomI 3 = 256 := rfl
  by_cases h : roomI kd < ((n + 1 : Nat) : Int)
  · have e : upK kd (n + 1) = kd + 1 := by unfold upK; rw [if_pos h]
    rw [e]
    rcases (show kd = 0 ∨ kd = 1 ∨ kd = 2 ∨ kd = 3 by omega) with rfl | rfl | rfl | rfl
    · show leftI 1 < _ ∧ _ ≤ roomI 1; omega
    · show leftI 2 < _ ∧ _ ≤ roomI 2; omega
    · show leftI 3 < _ ∧ _ ≤ roomI 3; omega
    · omega
  · have e : upK kd (n + 1) = kd := by unfold upK; rw [if_neg h]
    rw [e]
    omega
theorem dn_band {kd n : Nat} (hk : kd < 4) (h1 : leftI kd < ((n + 1 : Nat) : Int)) (h2 : ((n + 1 : Nat) : Int) ≤ roomI kd) : dnK kd n < 4 ∧ leftI (dnK kd n) < (n : Nat) ∧ ((n : Nat) : Int) ≤ roomI (dnK kd n) := by
  refine ⟨dn_lt hk, ?_⟩
  have a0 : leftI 0 = -1 := rfl
  have a1 : leftI 1 = 3 := rfl
  have a2 : leftI 2 = 12 := rfl
  have a3 : leftI 3 = 40 := rfl
  have b0 : roomI 0 = 4 := rfl
  have b1 : roomI 1 = 16 := rfl
  have b2 : roomI 2 = 48 := rfl
  have b3 : roomI 3 = 256 := rfl
  by_cases h : ((n : Nat) : Int) ≤ leftI kd
  · have e : dnK kd n = kd - 1 := by unfold dnK; rw [if_pos h]
    rw [e]
    rcases (show kd = 0 ∨ kd = 1 ∨ kd = 2 ∨ kd = 3 by omega) with rfl | rfl | rfl | rfl
    · omega
    · show leftI 0 < _ ∧ _ ≤ roomI 0; omega
    · show leftI 1 < _ ∧ _ ≤ roomI 1; omega
    · show leftI 2 < _ ∧ _ ≤ roomI 2; omega
  · have e : dnK kd n = kd := by unfold dnK; rw [if_neg h]
    rw [e]
    omega

/-! ### two that part -/
theorem join_ok {q k : List Int} {n : RT} {v : Int} {c : Nat} (hn : Ok n.key n) (hni : n.is = true) (hk : KB k) (hc : c = comK n.key k) (hne : n.key ≠ k) (hlf : (∃ k0 v0, n = leaf k0 v0) ∨ c < n.key.length) (hq : q <+: n.key) (hq2 : q <+: k) :
    Ok q (join c n k v) := by
  have hkn : KB n.key := (hn.kpre hni).2
  have hcl := comK_le n.key k
  rw [← hc] at hcl
  have htk := take_comK n.key k
  rw [← hc] at htk
  have hqc : q <+: k.take c := by
    have h1 : q.length ≤ c := by
      obtain ⟨r, hr⟩ := hq
      obtain ⟨s, hs⟩ := hq2
      rw [hc, ← hr, ← hs, comK_way]; omega
    rw [List.prefix_iff_eq_take] at hq2 ⊢
    rw [List.take_take, Nat.min_eq_left h1]
    exact hq2
  have hlen : (k.take c).length = c := by rw [List.length_take]; omega
  have hkp : c < k.length → k.take c ++ [((byteAt k c : Nat) : Int)] <+: k := fun h => by
    have := pre_byte hk (List.take_prefix c k) (by omega)
    rwa [hlen] at this
  have hnp : c < n.key.length → k.take c ++ [((byteAt n.key c : Nat) : Int)] <+: n.key := fun h => by
    have := pre_byte hkn (List.take_prefix c n.key) (by rw [List.length_take]; omega)
    rw [← htk]
    rwa [List.length_take, Nat.min_eq_left (by omega)] at this
  have hbk := byteAt_lt hk c
  have hbn := byteAt_lt hkn c
  have hnn : c < n.key.length → Ok (k.take c ++ [((byteAt n.key c : Nat) : Int)]) n := fun h => hn.less (fun _ => hnp h)
  have hll : c < k.length → Ok (k.take c ++ [((byteAt k c : Nat) : Int)]) (leaf k v) := fun h => ⟨hkp h, hk⟩
  have fin : ∀ (o : Option Int) (f : Nat → RT) (m : Nat), (∀ i : Nat, 256 ≤ i → f i = nil) → (∀ i : Nat, i < 256 → Ok (k.take c ++ [(i : Int)]) (f i)) → cnt (hsT f) 256 = m → 2 ≤ m + one o → m ≤ 2 → Ok q (node (k.take c) o 0 f) := by
    intro o f m h1 h2 h3 h4 h5
    refine ⟨hqc, hk.take c, h1, h2, by rw [h3]; exact h4, by omega, ?_, ?_⟩
    · rw [h3]; simp only [leftI]; omega
    · rw [h3]; simp only [roomI]; omega
  have hone : ∀ (b : Nat) (T : RT), b < 256 → T.is = true → cnt (hsT (upd none b T)) 256 = 1 := by
    intro b T hb hT
    have := cnt_upd none hb T
    rw [cnt_none', hT] at this
    simpa [none, is] using this
  unfold join
  by_cases hkc : k.length = c
  · have hnc : c < n.key.length := by
      rcases Nat.lt_or_ge c n.key.length with h | h
      · exact h
      · exact absurd (eq_of_com (a := n.key) (b := k) (by omega) (by omega)) hne
    have e1 : joinF c n k v = upd none (byteAt n.key c) n := by unfold joinF; rw [if_pos hkc]
    have e2 : joinO c n k v = some v := by unfold joinO; rw [if_pos hkc]
    rw [e1, e2]
    refine fin _ _ 1 (fun i hi => upd_ne _ _ _ (by omega)) (fun i hi => ?_) (hone _ _ hbn hni) (by simp [one]) (by omega)
    by_cases e : i = byteAt n.key c
    · subst e; rw [upd_at]; exact hnn hnc
    · rw [upd_ne _ _ _ e]; trivial
  · have hkl : c < k.length := by omega
    by_cases hnc : n.key.length = c
    · have e1 : joinF c n k v = upd none (byteAt k c) (leaf k v) := by unfold joinF; rw [if_neg hkc, if_pos hnc]
      have e2 : (joinO c n k v).isSome = true := by
        unfold joinO; rw [if_neg hkc]
        rcases hlf with ⟨k0, v0, rfl⟩ | h
        · have h3 : k0.length = c := hnc
          simp [leafO, h3]
        · omega
      rw [e1]
      refine fin _ _ 1 (fun i hi => upd_ne _ _ _ (by omega)) (fun i hi => ?_) (hone _ _ hbk rfl) (by simp [one, e2]) (by omega)
      by_cases e : i = byteAt k c
      · subst e; rw [upd_at]; exact hll hkl
      · rw [upd_ne _ _ _ e]; trivial
    · have hnl : c < n.key.length := by omega
      have e1 : joinF c n k v = upd (upd none (byteAt n.key c) n) (byteAt k c) (leaf k v) := by unfold joinF; rw [if_neg hkc, if_neg hnc]
      have hbb : byteAt n.key c ≠ byteAt k c := by
        have := com_bytes hkn hk (by omega) (by omega)
        rwa [← hc] at this
      rw [e1]
      refine fin _ _ 2 (fun i hi => by rw [upd_ne _ _ _ (by omega), upd_ne _ _ _ (by omega)]; rfl) (fun i hi => ?_) ?_ (by omega) (by omega)
      · by_cases e : i = byteAt k c
        · subst e; rw [upd_at]; exact hll hkl
        · rw [upd_ne _ _ _ e]
          by_cases e : i = byteAt n.key c
          · subst e; rw [upd_at]; exact hnn hnl
          · rw [upd_ne _ _ _ e]; trivial
      · have h1 := cnt_upd (upd none (byteAt n.key c) n) hbk (leaf k v)
        rw [hone _ _ hbn hni, upd_ne _ _ _ (Ne.symm hbb)] at h1
        simpa [none, is] using h1
theorem join_mem {k : List Int} {n : RT} {v : Int} {c : Nat} (hkn : KB n.key) (hk : KB k) (hc : c = comK n.key k) (hne : n.key ≠ k) (hlf : (∃ k0 v0, n = leaf k0 v0) ∨ c < n.key.length) {p : List Int × Int} :
    p ∈ (join c n k v).prs ↔ p = (k, v) ∨ p ∈ n.prs := by
  have hcl := comK_le n.key k
  rw [← hc] at hcl
  have htk := take_comK n.key k
  rw [← hc] at htk
  have hbk := byteAt_lt hk c
  have hbn := byteAt_lt hkn c
  unfold join
  rw [mem_node]
  by_cases hkc : k.length = c
  · have hnc : c < n.key.length := by
      rcases Nat.lt_or_ge c n.key.length with h | h
      · exact h
      · exact absurd (eq_of_com (a := n.key) (b := k) (by omega) (by omega)) hne
    have e1 : joinF c n k v = upd none (byteAt n.key c) n := by unfold joinF; rw [if_pos hkc]
    have e2 : joinO c n k v = some v := by unfold joinO; rw [if_pos hkc]
    rw [e1, e2, mem_upd hbn, List.take_of_length_le (by omega)]
    simp [none, prs]
  · by_cases hnc : n.key.length = c
    · have e1 : joinF c n k v = upd none (byteAt k c) (leaf k v) := by unfold joinF; rw [if_neg hkc, if_pos hnc]
      rw [e1, mem_upd hbk]
      rcases hlf with ⟨k0, v0, rfl⟩ | h
      · have h3 : k0.length = c := hnc
        have e2 : joinO c (leaf k0 v0) k v = some v0 := by unfold joinO; rw [if_neg hkc]; simp [leafO, h3]
        have e3 : k.take c = k0 := by rw [← htk]; show k0.take c = k0; rw [← h3, List.take_length]
        rw [e2, e3]
        simp [none, prs, or_comm]
      · omega
    · have e1 : joinF c n k v = upd (upd none (byteAt n.key c) n) (byteAt k c) (leaf k v) := by unfold joinF; rw [if_neg hkc, if_neg hnc]
      have e2 : joinO c n k v = Option.none := by
        unfold joinO; rw [if_neg hkc]
        rcases hlf with ⟨k0, v0, rfl⟩ | h
        · simp [leafO, show ¬ k0.length = c from hnc]
        · cases n <;> simp [leafO]
          exact fun h => absurd h (show ¬ _ from hnc)
      have hbb : byteAt n.key c ≠ byteAt k c := by
        have := com_bytes hkn hk (by omega) (by omega)
        rwa [← hc] at this
      rw [e1, e2, mem_upd hbk]
      constructor
      · rintro (⟨v', h, _⟩ | hp | ⟨i, hi, hn, hp⟩)
        · cases h
        · simp [prs] at hp; exact Or.inl hp
        · by_cases e : i = byteAt n.key c
          · subst e; rw [upd_at] at hp; exact Or.inr hp
          · rw [upd_ne _ _ _ e] at hp; simp [none, prs] at hp
      · rintro (hp | hp)
        · exact Or.inr (Or.inl (by simp [prs, hp]))
        · exact Or.inr (Or.inr ⟨_, hbn, hbb, by rw [upd_at]; exact hp⟩)

/-- one child, taken out -/
theorem cells_upd (f : Nat → RT) {b : Nat} (hb : b < 256) (T : RT) : ((List.range 256).map fun i => (upd f b T i).cells).sum + (f b).cells = ((List.range 256).map fun i => (f i).cells).sum + T.cells := by
  have key : ∀ n, b < n → ((List.range n).map fun i => (upd f b T i).cells).sum + (f b).cells = ((List.range n).map fun i => (f i).cells).sum + T.cells := by
    intro n
    induction n with
    | zero => intro h; omega
    | succ n ih =>
      intro h
      rw [List.range_succ, List.map_append, List.map_append, List.sum_append, List.sum_append]
      simp only [List.map_cons, List.map_nil, List.sum_cons, List.sum_nil, Nat.add_zero]
      rcases Nat.eq_or_lt_of_le (Nat.le_of_lt_succ h) with e | e
      · subst e
        have h1 : ((List.range b).map fun i => (upd f b T i).cells) = ((List.range b).map fun i => (f i).cells) := List.map_congr_left fun i hi => by rw [upd_ne _ _ _ (by have := List.mem_range.1 hi; omega)]
        rw [h1, upd_at]; omega
      · have := ih e
        rw [upd_ne _ _ _ (show n ≠ b by omega)]; omega
  exact key 256 hb
theorem cells_none : ((List.range 256).map fun i => (none i).cells).sum = 0 := by
  have : ∀ n, ((List.range n).map fun i => (none i).cells).sum = 0 := by
    intro n
    induction n with
    | zero => rfl
    | succ n ih => rw [List.range_succ, List.map_append, List.sum_append, ih]; rfl
  exact this 256
end RT
end Go.Proofs.YtclnnkacfanaiaaDoor
