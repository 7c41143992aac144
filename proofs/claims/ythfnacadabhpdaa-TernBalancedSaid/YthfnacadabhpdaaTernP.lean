/- Plain laws: how many cells a ternary tree of some pairs has. -/
import Derived.Test.YthfnacadabhpdaaRefC
import Derived.Test.YthfnacadabhpdaaModP
namespace Go.Proofs.Ythfnacadabhpdaa
set_option linter.unusedVariables false
set_option linter.unusedSimpArgs false

/-- cells that a key takes behind another one -/
def ownT (pr : Option (List Int)) (k : List Int) : Nat := if k = [] then 1 else k.length - (match pr with | none => 0 | some q => comK q k)
def szT : Option (List Int) → Prs → Nat
  | _, [] => 0
  | pr, p :: ps => ownT pr p.1 + szT (some p.1) ps
def lastT : Option (List Int) → Prs → Option (List Int)
  | pr, [] => pr
  | _, p :: ps => lastT (some p.1) ps
theorem szT_append : ∀ (A B : Prs) (pr), szT pr (A ++ B) = szT pr A + szT (lastT pr A) B
  | [], B, pr => by simp [szT, lastT]
  | p :: A, B, pr => by simp only [List.cons_append, szT, lastT, szT_append A B]; omega
theorem lastT_get : ∀ (A : Prs) (pr), lastT pr A = match A[A.length - 1]? with | some p => some p.1 | none => pr
  | [], pr => rfl
  | [p], pr => rfl
  | p :: q :: A, pr => by
    have := lastT_get (q :: A) (some p.1)
    simp only [lastT] at this ⊢
    rw [this]
    simp
theorem comK_comm : ∀ a b : List Int, comK a b = comK b a
  | [], [] => rfl
  | [], _ :: _ => rfl
  | _ :: _, [] => rfl
  | x :: a, y :: b => by
    unfold comK
    by_cases h : x = y
    · subst h; simp [comK_comm a b]
    · rw [if_neg h, if_neg (fun e => h e.symm)]
/-- of three that rise, the outer two share what both neighbours share -/
theorem comK_mid : ∀ {l k b : List Int}, cmpK l k < 0 → cmpK k b < 0 → comK l b = min (comK l k) (comK k b)
  | [], k, b, _, _ => by simp [comK]
  | _ :: _, [], _, h, _ => by simp [cmpK] at h
  | _ :: _, _ :: _, [], _, h => by simp [cmpK] at h
  | x :: l, y :: k, z :: b, h1, h2 => by
    unfold cmpK at h1 h2
    unfold comK
    by_cases hxy : x < y
    · rw [if_neg (by omega : ¬ x = y)]
      by_cases hyz : y < z
      · rw [if_neg (by omega : ¬ x = z)]; simp
      · rw [if_neg hyz] at h2
        have : y = z := by
          split at h2
          · omega
          · omega
        have hxz : ¬ x = z := by omega
        simp [hxz]
    · rw [if_neg hxy] at h1
      have hxy2 : ¬ y < x := fun h => by rw [if_pos h] at h1; omega
      rw [if_neg hxy2] at h1
      obtain rfl : x = y := by omega
      by_cases hyz : x < z
      · have hxz : ¬ x = z := by omega
        simp [hxz]
      · rw [if_neg hyz] at h2
        have hyz2 : ¬ z < x := fun h => by rw [if_pos h] at h2; omega
        rw [if_neg hyz2] at h2
        obtain rfl : x = z := by omega
        rw [if_pos rfl, if_pos rfl, if_pos rfl, comK_mid h1 h2]
        omega
/-- cells that a key takes between its neighbours -/
def aloneT (l : Option (List Int)) (r : Option (List Int)) (k : List Int) : Nat :=
  if k = [] then 1 else k.length - max (match l with | none => 0 | some q => comK q k) (match r with | none => 0 | some q => comK q k)
def aloneK (ps : Prs) (k : List Int) : Nat := aloneT ((selKK ps ((rk ps k : Int) - 1))) (selKK ps (rk ps k + if hasK ps k then 1 else 0)) k
where selKK (ps : Prs) (i : Int) : Option (List Int) := (if 0 ≤ i then ps[i.toNat]? else none).map (·.1)

theorem szT_insert {l : Option (List Int)} {k : List Int} {B : Prs} (hl : ∀ q, l = some q → cmpK q k < 0) (hB : ∀ b B', B = b :: B' → cmpK k b.1 < 0) :
    ownT l k + szT (some k) B = szT l B + aloneT l (B.head?.map (·.1)) k := by
  have hle := fun a b => comK_le a b
  cases B with
  | nil =>
    simp only [szT, List.head?_nil, Option.map_none, aloneT, ownT]
    by_cases hk : k = []
    · simp [hk]
    · simp only [hk, if_false]; simp
  | cons b B =>
    have hkb := hB b B rfl
    have hb0 : b.1 ≠ [] := fun h => by rw [h] at hkb; cases k <;> simp [cmpK] at hkb
    simp only [szT, List.head?_cons, Option.map_some, aloneT, ownT, hb0, if_false]
    by_cases hk : k = []
    · subst hk
      cases l with
      | none => simp [comK]; omega
      | some q =>
        have := hl q rfl
        cases q <;> simp [cmpK] at this
    · simp only [hk, if_false]
      cases l with
      | none =>
        have h1 := hle k b.1
        have h2 := comK_comm b.1 k
        simp only []
        omega
      | some q =>
        have h0 := comK_mid (hl q rfl) hkb
        have h1 := hle k b.1
        have h2 := comK_comm b.1 k
        have h3 := hle q k
        have h4 := hle q b.1
        simp only []
        omega
def szK (ps : Prs) : Nat := szT none ps
theorem rises_before {ps : Prs} (hr : Rises ps) {i j : Nat} {p q : List Int × Int} (hp : ps[i]? = some p) (hq : ps[j]? = some q) (h : i < j) : cmpK p.1 q.1 < 0 := hr.get hp hq h
theorem sz_put {ps : Prs} (hr : Rises ps) {k : List Int} {v : Int} (h : hasK ps k = false) : szK (putK ps k v) = szK ps + aloneK ps k := by
  have hle := rk_le ps k
  have hput : putK ps k v = ps.take (rk ps k) ++ (k, v) :: ps.drop (rk ps k) := by unfold putK; simp [h]
  have hsplit : szK ps = szT none (ps.take (rk ps k) ++ ps.drop (rk ps k)) := by rw [List.take_append_drop]; rfl
  rw [hput, hsplit]
  unfold szK
  rw [szT_append, szT_append]
  simp only [szT]
  have hl : lastT none (ps.take (rk ps k)) = aloneK.selKK ps ((rk ps k : Int) - 1) := by
    rw [lastT_get]
    unfold aloneK.selKK
    rcases Nat.eq_zero_or_pos (rk ps k) with h0 | h0
    · rw [h0]; simp
    · rw [if_pos (by omega), show ((rk ps k : Int) - 1).toNat = rk ps k - 1 by omega, List.length_take, Nat.min_eq_left hle, List.getElem?_take, if_pos (by omega)]
      cases ps[rk ps k - 1]? <;> rfl
  have hr2 : (ps.drop (rk ps k)).head?.map (·.1) = aloneK.selKK ps (rk ps k + if hasK ps k then 1 else 0) := by
    unfold aloneK.selKK
    rw [h, List.head?_drop]
    simp
  have hins := szT_insert (l := lastT none (ps.take (rk ps k))) (k := k) (B := ps.drop (rk ps k)) (fun q hq => by
      rw [hl] at hq
      unfold aloneK.selKK at hq
      split at hq
      · rename_i h0
        rw [Option.map_eq_some_iff] at hq
        obtain ⟨p, hp, rfl⟩ := hq
        exact ltK_iff.1 (rk_lt (by omega) hp)
      · simp at hq) (fun b B' hB => by
      have hb : ps[rk ps k]? = some b := by rw [← List.head?_drop, hB]; rfl
      have h1 := rk_ge hb
      have h2 := ltK_false.1 h1
      have h3 : cmpK b.1 k ≠ 0 := fun e => by
        have : hasK ps k = true := by unfold hasK; rw [hb]; simp [cmpK_eq e]
        rw [h] at this; cases this
      have h4 := cmpK_neg b.1 k
      omega)
  rw [hr2] at hins
  unfold aloneK
  rw [hl] at hins ⊢
  omega
theorem sz_drop {ps : Prs} (hr : Rises ps) {k : List Int} (h : hasK ps k = true) : szK ps = szK (dropK ps k) + aloneK ps k := by
  have hlt := hasK_lt h
  obtain ⟨x, hx, _⟩ := hasK_some h
  have hd : dropK ps k = ps.take (rk ps k) ++ ps.drop (rk ps k + 1) := by unfold dropK; rw [if_pos h]
  have hsplit : szK ps = szT none (ps.take (rk ps k) ++ (k, x) :: ps.drop (rk ps k + 1)) := by
    have h1 : ps = ps.take (rk ps k) ++ (k, x) :: ps.drop (rk ps k + 1) := by
      conv => lhs; rw [← List.take_append_drop (rk ps k) ps]
      rw [List.drop_eq_getElem_cons hlt]
      have := (List.getElem?_eq_some_iff.1 hx).2
      rw [this]
    unfold szK
    rw [← h1]
  rw [hd, hsplit]
  unfold szK
  rw [szT_append, szT_append]
  simp only [szT]
  have hl : lastT none (ps.take (rk ps k)) = aloneK.selKK ps ((rk ps k : Int) - 1) := by
    rw [lastT_get]
    unfold aloneK.selKK
    rcases Nat.eq_zero_or_pos (rk ps k) with h0 | h0
    · rw [h0]; simp
    · rw [if_pos (by omega), show ((rk ps k : Int) - 1).toNat = rk ps k - 1 by omega, List.length_take, Nat.min_eq_left (by omega), List.getElem?_take, if_pos (by omega)]
      cases ps[rk ps k - 1]? <;> rfl
  have hr2 : (ps.drop (rk ps k + 1)).head?.map (·.1) = aloneK.selKK ps (rk ps k + if hasK ps k then 1 else 0) := by
    unfold aloneK.selKK
    rw [h, List.head?_drop, if_pos (by simp; omega)]
    simp
  have hins := szT_insert (l := lastT none (ps.take (rk ps k))) (k := k) (B := ps.drop (rk ps k + 1)) (fun q hq => by
      rw [hl] at hq
      unfold aloneK.selKK at hq
      split at hq
      · rename_i h0
        rw [Option.map_eq_some_iff] at hq
        obtain ⟨p, hp, rfl⟩ := hq
        exact ltK_iff.1 (rk_lt (by omega) hp)
      · simp at hq) (fun b B' hB => by
      have hb : ps[rk ps k + 1]? = some b := by rw [← List.head?_drop, hB]; rfl
      exact hr.get hx hb (by omega))
  rw [hr2] at hins
  unfold aloneK
  rw [hl] at hins ⊢
  omega
theorem szT_keys : ∀ (ps qs : Prs) (pr), ps.map (·.1) = qs.map (·.1) → szT pr ps = szT pr qs
  | [], [], pr, _ => rfl
  | [], _ :: _, pr, h => by simp at h
  | _ :: _, [], pr, h => by simp at h
  | p :: ps, q :: qs, pr, h => by
    simp only [List.map_cons, List.cons.injEq] at h
    simp only [szT]
    rw [h.1, szT_keys ps qs _ h.2]
theorem split_at {ps : Prs} {k : List Int} (h : hasK ps k = true) : ∃ x, ps = ps.take (rk ps k) ++ (k, x) :: ps.drop (rk ps k + 1) := by
  have hlt := hasK_lt h
  obtain ⟨x, hx, _⟩ := hasK_some h
  refine ⟨x, ?_⟩
  conv => lhs; rw [← List.take_append_drop (rk ps k) ps]
  rw [List.drop_eq_getElem_cons hlt]
  have := (List.getElem?_eq_some_iff.1 hx).2
  rw [this]
theorem put_keys {ps : Prs} {k : List Int} {v : Int} (h : hasK ps k = true) : (putK ps k v).map (·.1) = ps.map (·.1) := by
  obtain ⟨x, hx⟩ := split_at h
  have hp : putK ps k v = ps.take (rk ps k) ++ (k, v) :: ps.drop (rk ps k + 1) := by unfold putK; rw [if_pos h]
  rw [hp]
  conv => rhs; rw [hx]
  simp
theorem sz_put_has {ps : Prs} {k : List Int} {v : Int} (h : hasK ps k = true) : szK (putK ps k v) = szK ps := szT_keys _ _ _ (put_keys h)
theorem ownT_le (pr : Option (List Int)) (k : List Int) : ownT pr k ≤ k.length + 1 := by
  unfold ownT; split
  · omega
  · omega
theorem sz_bound_aux (L : Nat) : ∀ (ps : Prs) (pr), (∀ p ∈ ps, p.1.length ≤ L) → szT pr ps ≤ ps.length * (L + 2)
  | [], pr, _ => by simp [szT]
  | p :: ps, pr, h => by
    have h1 := sz_bound_aux L ps (some p.1) (fun q hq => h q (List.mem_cons_of_mem _ hq))
    have h2 := ownT_le pr p.1
    have h3 := h p List.mem_cons_self
    simp only [szT, List.length_cons, Nat.succ_mul]
    omega
theorem alone_pos (ps : Prs) (k : List Int) : aloneK ps k ≤ k.length + 1 := by
  unfold aloneK aloneT; split <;> omega
end Go.Proofs.Ythfnacadabhpdaa
