/- Groups of pairs in memory; byByte. -/
import Derived.Test.YthfnacadabhpdaaTernN
import Derived.Test.YthfnacadabhpdaaKeyC
import Derived.Test.YthfnacadabhpdaaSameR
namespace Go.Proofs.Ythfnacadabhpdaa
open Go.RowKit
set_option linter.unusedVariables false
set_option linter.unusedSimpArgs false

/-- groups that can be read -/
def RG (w : World) (K : Nat → Prop) (v : Value) (G : List Prs) : Prop :=
  ∃ a cap, v = .slice a G.length cap ∧ G.length ≤ cap ∧ cap ≤ maxLen ∧ (a = none → cap = 0) ∧ ∀ i g, G[i]? = some g → ∃ b off u, a = some ⟨b, off, none⟩ ∧ K b ∧ w.cell? ⟨b, off + i, none⟩ = some u ∧ RP w K u g
namespace RG
variable {w w' : World} {K S F : Nat → Prop} {v : Value} {G : List Prs}
theorem keep (h : RG w K v G) (t : Touch S w w') (hd : ∀ b, K b → ¬ S b) : RG w' K v G := by
  obtain ⟨a, cap, h1, h2, h3, h4, h5⟩ := h
  refine ⟨a, cap, h1, h2, h3, h4, fun i g hg => ?_⟩
  obtain ⟨b, off, u, e1, e2, e3, e4⟩ := h5 i g hg
  exact ⟨b, off, u, e1, e2, keepc t (hd b e2) e3, e4.keep t hd⟩
theorem ext (h : RG w K v G) (t : Ext w w') : RG w' K v G := h.keep t (fun _ _ h => h)
theorem mono (h : RG w K v G) (hs : ∀ b, K b → F b) : RG w F v G := by
  obtain ⟨a, cap, h1, h2, h3, h4, h5⟩ := h
  refine ⟨a, cap, h1, h2, h3, h4, fun i g hg => ?_⟩
  obtain ⟨b, off, u, e1, e2, e3, e4⟩ := h5 i g hg
  exact ⟨b, off, u, e1, hs b e2, e3, e4.mono hs⟩
theorem shape (h : RG w K v G) : ∃ a cap, v = .slice a G.length cap ∧ G.length ≤ cap ∧ cap ≤ maxLen ∧ (a = none → cap = 0) := by
  obtain ⟨a, cap, h1, h2, h3, h4, _⟩ := h; exact ⟨a, cap, h1, h2, h3, h4⟩
theorem addr {a : Option Addr} {n cap : Nat} (h : RG w K (.slice a n cap) G) (hn : 0 < G.length) : ∃ b off, a = some ⟨b, off, none⟩ := by
  obtain ⟨a', cap', h1, _, _, _, h5⟩ := h
  simp only [Value.slice.injEq] at h1
  obtain ⟨rfl, _, _⟩ := h1
  obtain ⟨b, off, u, e1, _⟩ := h5 0 _ (List.getElem?_eq_getElem hn)
  exact ⟨b, off, e1⟩
theorem get {b off n cap : Nat} (h : RG w K (.slice (some ⟨b, off, none⟩) n cap) G) (i : Nat) (g : Prs) (hg : G[i]? = some g) : ∃ u, w.cell? ⟨b, off + i, none⟩ = some u ∧ RP w K u g ∧ K b := by
  obtain ⟨a', cap', h1, _, _, _, h5⟩ := h
  simp only [Value.slice.injEq] at h1
  obtain ⟨rfl, _, _⟩ := h1
  obtain ⟨b', off', u, e1, e2, e3, e4⟩ := h5 i g hg
  simp only [Option.some.injEq, Addr.mk.injEq, and_true] at e1
  obtain ⟨rfl, rfl⟩ := e1
  exact ⟨u, e3, e4, e2⟩
theorem nil (w : World) (K : Nat → Prop) (a : Option Addr) (c : Nat) (hc : c ≤ maxLen) (hn : a = none → c = 0) : RG w K (.slice a 0 c) [] := ⟨a, c, rfl, by simp, hc, hn, fun i g h => by simp at h⟩
theorem take {a : Option Addr} {n cap : Nat} (h : RG w K (.slice a n cap) G) (m : Nat) (hm : m ≤ G.length) : RG w K (.slice a m cap) (G.take m) := by
  obtain ⟨a', cap', h1, h2, h3, h4, h5⟩ := h
  simp only [Value.slice.injEq] at h1
  obtain ⟨rfl, rfl, rfl⟩ := h1
  have hl : (G.take m).length = m := by simp; omega
  refine ⟨a, cap, by rw [hl], by omega, h3, h4, fun i g hg => h5 i g ?_⟩
  rw [List.getElem?_take] at hg
  split at hg
  · exact hg
  · cases hg
theorem drop {b off n cap : Nat} (h : RG w K (.slice (some ⟨b, off, none⟩) n cap) G) (m : Nat) (hm : m ≤ G.length) : RG w K (.slice (some ⟨b, off + m, none⟩) (n - m) (cap - m)) (G.drop m) := by
  obtain ⟨a', cap', h1, h2, h3, h4, h5⟩ := h
  simp only [Value.slice.injEq] at h1
  obtain ⟨rfl, rfl, rfl⟩ := h1
  have hl : (G.drop m).length = G.length - m := by simp
  refine ⟨_, _, by rw [hl], by omega, by omega, (fun h => by cases h), fun i g hg => ?_⟩
  rw [List.getElem?_drop] at hg
  obtain ⟨b', off', u, e1, e2, e3, e4⟩ := h5 _ _ hg
  simp only [Option.some.injEq, Addr.mk.injEq, and_true] at e1
  obtain ⟨rfl, rfl⟩ := e1
  exact ⟨b, off + m, u, rfl, e2, by rw [Nat.add_assoc]; exact e3, e4⟩
end RG

theorem RP.drop1 {w : World} {K : Nat → Prop} {b off n cap : Nat} {p : List Int × Int} {ps : Prs} (h : RP w K (.slice (some ⟨b, off, none⟩) n cap) (p :: ps)) : RP w K (.slice (some ⟨b, off + 2, none⟩) (n - 1) (cap - 1)) ps := by
  have := h.drop 1 (by simp)
  simpa using this

/-- groups that are made: the row, each group's own row -/
structure OG (K : Nat → Prop) (w0 wr : World) (v : Value) (G : List Prs) (us : List Value) : Prop where
  len : us.length = G.length
  own : wr.ownsRow 0 22 1 v us.length us
  bv : ∀ b, v.ownBlock = some b → w0.heap.size ≤ b
  gr : ∀ (i : Nat) u g, us[i]? = some u → G[i]? = some g → ∃ es : List El, es.map (·.2) = g ∧ wr.ownsRow 0 33 2 u es.length (flat es) ∧ ∀ e ∈ es, RB wr K e.1 e.2.1
  bu : ∀ u ∈ us, ∀ b, u.ownBlock = some b → w0.heap.size ≤ b ∧ v.ownBlock ≠ some b
  dj : ∀ (i j : Nat) u u', i ≠ j → us[i]? = some u → us[j]? = some u' → ∀ b, u.ownBlock = some b → u'.ownBlock ≠ some b
namespace OG
variable {K S : Nat → Prop} {w0 w w' : World} {v v' : Value} {G : List Prs} {us : List Value}
theorem nil (K : Nat → Prop) (w0 w : World) : OG K w0 w (.slice none 0 0) [] [] := ⟨rfl, World.ownsRow_nil _ _ _ _, (fun b h => by cases h), (fun i u g h => by simp at h), (fun u h => by simp at h), (fun i j u u' _ h => by simp at h)⟩
theorem keep (h : OG K w0 w v G us) (t : Touch S w w') (hK : ∀ b, S b → ¬ K b) (hv : ∀ b, S b → v.ownBlock ≠ some b) (hu : ∀ b, S b → ∀ u ∈ us, u.ownBlock ≠ some b) : OG K w0 w' v G us :=
  ⟨h.len, own_keep h.own t (fun b hb hs => hv b hs hb), h.bv, fun i u g h1 h2 => by
    obtain ⟨es, e1, e2, e3⟩ := h.gr i u g h1 h2
    exact ⟨es, e1, own_keep e2 t (fun b hb hs => hu b hs u (List.mem_of_getElem? h1) hb), fun e he => (e3 e he).keep t (fun b hb hs => hK b hs hb)⟩, h.bu, h.dj⟩
theorem ext (h : OG K w0 w v G us) (t : Ext w w') : OG K w0 w' v G us := h.keep t (fun _ h => h.elim) (fun _ h => h.elim) (fun _ h => h.elim)
theorem lt (h : OG K w0 w v G us) : ∀ u ∈ us, ∀ b, u.ownBlock = some b → b < w.heap.size := fun u hu b hb => by
  obtain ⟨i, hi⟩ := List.mem_iff_getElem?.1 hu
  have hil := (List.getElem?_eq_some_iff.1 hi).1
  obtain ⟨es, _, e2, _⟩ := h.gr i u _ hi (List.getElem?_eq_getElem (by rw [← h.len]; exact hil))
  exact (e2.lt b hb).2
/-- a new group, empty -/
theorem push (h : OG K w0 w v G us) (hw : w0.heap.size ≤ w.heap.size) (hK : ∀ b, K b → b < w0.heap.size) (hown : w'.ownsRow 0 22 1 v' (us.length + 1) (us ++ [.slice none 0 0])) (t : Touch (fun b => v.ownBlock = some b) w w') (hb : v'.ownBlock = v.ownBlock ∨ ∃ N, v'.ownBlock = some N ∧ w.heap.size ≤ N) :
    OG K w0 w' v' (G ++ [[]]) (us ++ [.slice none 0 0]) := by
  have hlt := h.lt
  refine ⟨by simp [h.len], by simpa using hown, fun b hb' => ?_, fun i u g h1 h2 => ?_, fun u hu b hb' => ?_, fun i j u u' hij h1 h2 b hb' => ?_⟩
  · rcases hb with h1 | ⟨N, h1, h2⟩
    · exact h.bv b (h1 ▸ hb')
    · rw [h1] at hb'; cases hb'; omega
  · rcases Nat.lt_or_ge i us.length with hi | hi
    · rw [List.getElem?_append_left hi] at h1
      rw [List.getElem?_append_left (by rw [← h.len]; exact hi)] at h2
      obtain ⟨es, e1, e2, e3⟩ := h.gr i u g h1 h2
      exact ⟨es, e1, own_keep e2 t (fun b hb' hv => (h.bu u (List.mem_of_getElem? h1) b hb').2 hv), fun e he => (e3 e he).keep t (fun b hb' hv => by have := hK b hb'; have := h.bv b hv; omega)⟩
    · rw [List.getElem?_append_right hi] at h1
      rw [List.getElem?_append_right (by rw [← h.len]; exact hi)] at h2
      have hi0 : i - us.length = 0 := by have := (List.getElem?_eq_some_iff.1 h1).1; simp at this; omega
      rw [hi0] at h1
      rw [← h.len, hi0] at h2
      simp at h1 h2
      subst h1; subst h2
      exact ⟨[], rfl, World.ownsRow_nil _ _ _ _, fun e he => by simp at he⟩
  · rcases List.mem_append.1 hu with h1 | h1
    · obtain ⟨h2, h3⟩ := h.bu u h1 b hb'
      refine ⟨h2, fun hv => ?_⟩
      rcases hb with h4 | ⟨N, h4, h5⟩
      · exact h3 (h4 ▸ hv)
      · rw [h4] at hv; cases hv; have := hlt u h1 _ hb'; omega
    · simp at h1; subst h1; cases hb'
  · rcases Nat.lt_or_ge i us.length with hi | hi
    · rw [List.getElem?_append_left hi] at h1
      rcases Nat.lt_or_ge j us.length with hj | hj
      · rw [List.getElem?_append_left hj] at h2
        exact h.dj i j u u' hij h1 h2 b hb'
      · rw [List.getElem?_append_right hj] at h2
        have : u' = .slice none 0 0 := by have := List.mem_of_getElem? h2; simpa using this
        subst this; intro h; cases h
    · rw [List.getElem?_append_right hi] at h1
      have : u = .slice none 0 0 := by have := List.mem_of_getElem? h1; simpa using this
      subst this; cases hb'
/-- a pair more in the last group -/
theorem more {us' : List Value} {G' : List Prs} {g : Prs} {u u' : Value} {es : List El} {e : El} {w1 : World} {bo cap : Nat} (h : OG K w0 w (.slice (some ⟨bo, 0, none⟩) (us' ++ [u]).length cap) (G' ++ [g]) (us' ++ [u])) (hw : w0.heap.size ≤ w.heap.size) (hK : ∀ b, K b → b < w0.heap.size) (hes : es.map (·.2) = g) (hk : ∀ x ∈ es, RB w K x.1 x.2.1) (he : RB w K e.1 e.2.1)
    (hown : w1.ownsRow 0 33 2 u' (es.length + 1) (flat es ++ flat [e])) (t : Touch (fun b => u.ownBlock = some b) w w1) (hb : u'.ownBlock = u.ownBlock ∨ ∃ N, u'.ownBlock = some N ∧ w.heap.size ≤ N)
    (ho : w'.ownsRow 0 22 1 (.slice (some ⟨bo, 0, none⟩) (us' ++ [u]).length cap) (us' ++ [u]).length ((us' ++ [u]).set us'.length u')) (t' : Touch (fun b => b = bo) w1 w') :
    OG K w0 w' (.slice (some ⟨bo, 0, none⟩) (us' ++ [u]).length cap) (G' ++ [g ++ [e.2]]) (us' ++ [u']) := by
  have hlt := h.lt
  have hset : (us' ++ [u]).set us'.length u' = us' ++ [u'] := by rw [List.set_append_right _ _ (Nat.le_refl _)]; simp
  rw [hset] at ho
  have hll : us'.length = G'.length := by have := h.len; simp at this; exact this
  have hlast : (us' ++ [u])[us'.length]? = some u := by simp
  have hbo : ∀ b, u.ownBlock = some b → w0.heap.size ≤ b ∧ b ≠ bo := fun b hb' => by
    obtain ⟨h1, h2⟩ := h.bu u (by simp) b hb'
    exact ⟨h1, fun e => h2 (by subst e; rfl)⟩
  have hob : bo < w.heap.size := (h.own.lt bo rfl).2
  have hu' : ∀ b, u'.ownBlock = some b → w0.heap.size ≤ b ∧ b ≠ bo := fun b hb' => by
    rcases hb with h1 | ⟨N, h1, h2⟩
    · exact hbo b (h1 ▸ hb')
    · rw [h1] at hb'; cases hb'; exact ⟨by omega, by omega⟩
  refine ⟨by simp [hll], by simpa using ho, h.bv, fun i x g' h1 h2 => ?_, fun x hx b hb' => ?_, fun i j x x' hij h1 h2 b hb' => ?_⟩
  · rcases Nat.lt_or_ge i us'.length with hi | hi
    · rw [List.getElem?_append_left hi] at h1
      rw [List.getElem?_append_left (by omega)] at h2
      have h1' : (us' ++ [u])[i]? = some x := by rw [List.getElem?_append_left hi]; exact h1
      obtain ⟨es', e1, e2, e3⟩ := h.gr i x g' h1' (by rw [List.getElem?_append_left (by omega)]; exact h2)
      have hxm : x ∈ us' ++ [u] := List.mem_of_getElem? h1'
      refine ⟨es', e1, own_keep (own_keep e2 t (fun b hb' hu => h.dj i us'.length x u (by omega) h1' hlast b hb' hu)) t' (fun b hb' hbb => (h.bu x hxm b hb').2 (by subst hbb; rfl)), fun y hy => ((e3 y hy).keep t (fun b hb' hu => by have := hK b hb'; have := (hbo b hu).1; omega)).keep t' (fun b hb' hbb => by have := hK b hb'; have := h.bv bo rfl; omega)⟩
    · have hi0 : i = us'.length := by have := (List.getElem?_eq_some_iff.1 h1).1; simp at this; omega
      subst hi0
      rw [List.getElem?_append_right (Nat.le_refl _)] at h1
      rw [hll, List.getElem?_append_right (Nat.le_refl _)] at h2
      simp at h1 h2
      subst h1; subst h2
      refine ⟨es ++ [e], by simp [hes], by rw [List.length_append, flat_append]; exact own_keep hown t' (fun b hb' hbb => (hu' b hb').2 hbb), fun y hy => ?_⟩
      have hy' : RB w K y.1 y.2.1 := by
        rcases List.mem_append.1 hy with h3 | h3
        · exact hk y h3
        · simp at h3; subst h3; exact he
      exact (hy'.keep t (fun b hb' hu => by have := hK b hb'; have := (hbo b hu).1; omega)).keep t' (fun b hb' hbb => by have := hK b hb'; have := h.bv bo rfl; omega)
  · rcases List.mem_append.1 hx with h1 | h1
    · exact h.bu x (by simp [h1]) b hb'
    · simp at h1; subst h1
      obtain ⟨h2, h3⟩ := hu' b hb'
      exact ⟨h2, fun h4 => h3 (by cases h4; rfl)⟩
  · have hside : ∀ (i : Nat) x, us'[i]? = some x → ∀ b, x.ownBlock = some b → u'.ownBlock ≠ some b := fun i x hx b hxb hub => by
      have hi := (List.getElem?_eq_some_iff.1 hx).1
      have hx' : (us' ++ [u])[i]? = some x := by rw [List.getElem?_append_left hi]; exact hx
      rcases hb with h3 | ⟨N, h3, h4⟩
      · exact h.dj i us'.length x u (by omega) hx' hlast b hxb (h3 ▸ hub)
      · rw [h3] at hub; cases hub; have := hlt x (List.mem_of_getElem? hx') _ hxb; omega
    rcases Nat.lt_or_ge i us'.length with hi | hi
    · rw [List.getElem?_append_left hi] at h1
      rcases Nat.lt_or_ge j us'.length with hj | hj
      · rw [List.getElem?_append_left hj] at h2
        exact h.dj i j x x' hij (by rw [List.getElem?_append_left hi]; exact h1) (by rw [List.getElem?_append_left hj]; exact h2) b hb'
      · rw [List.getElem?_append_right hj] at h2
        have : x' = u' := by have := List.mem_of_getElem? h2; simpa using this
        subst this
        exact hside i x h1 b hb'
    · have hi0 : i = us'.length := by have := (List.getElem?_eq_some_iff.1 h1).1; simp at this; omega
      rw [List.getElem?_append_right hi] at h1
      have : x = u' := by have := List.mem_of_getElem? h1; simpa using this
      subst this
      rcases Nat.lt_or_ge j us'.length with hj | hj
      · rw [List.getElem?_append_left hj] at h2
        exact fun h5 => hside j x' h2 b h5 hb'
      · have hj0 : j = us'.length := by have := (List.getElem?_eq_some_iff.1 h2).1; simp at this; omega
        omega
theorem rg (h : OG K w0 w v G us) (hw : w0.heap.size ≤ w.heap.size) : RG w (fun b => K b ∨ w0.heap.size ≤ b) v G := by
  have hown := h.own
  obtain ⟨a, cap, rfl⟩ := own_len hown
  obtain ⟨_, h2, h3, h4⟩ : Src w a us ∧ us.length ≤ cap ∧ (a = none → cap = 0) ∧ cap ≤ maxLen := own_src hown
  have hl := h.len
  refine ⟨a, cap, by rw [hl], by omega, h4, h3, fun i g hg => ?_⟩
  have hi := (List.getElem?_eq_some_iff.1 hg).1
  have hiu : i < us.length := by omega
  obtain ⟨bo, rfl⟩ := own_addr hown (by omega)
  have hgu := List.getElem?_eq_getElem hiu
  obtain ⟨es, e1, e2, e3⟩ := h.gr i _ g hgu hg
  refine ⟨bo, 0, us[i], rfl, Or.inr (h.bv bo rfl), ?_, es, e1, Cells2.of_own e2 (fun b hb => Or.inr (h.bu _ (List.mem_of_getElem? hgu) b hb).1), fun e he => (e3 e he).mono (fun b hb => Or.inl hb)⟩
  rw [Nat.zero_add, hown.cellAt i (by omega), hgu]
end OG

theorem info_grp : (Try.prog.info? 22).map (fun i => (i.zero, i.size, i.bytes)) = some (some (.slice none 0 0), 1, 24) := by kernel_rfl
theorem src_one (w : World) (u : Value) (t : TypeId) : Src (w.alloc (.cells #[u] t)) (some ⟨w.heap.size, 0, none⟩) [u] := by
  intro j x hj
  obtain ⟨hlt, rfl⟩ := List.getElem?_eq_some_iff.1 hj
  have : j = 0 := by simp at hlt; omega
  subst this
  exact ⟨_, _, rfl, by simp⟩
end Go.Proofs.Ythfnacadabhpdaa
