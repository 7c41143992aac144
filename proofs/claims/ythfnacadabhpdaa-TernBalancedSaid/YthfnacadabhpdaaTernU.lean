/- The document reads all cells of a ternary tree: it finds its pairs. -/
import Derived.Test.YthfnacadabhpdaaTernR
import Derived.Test.YthfnacadabhpdaaSameP
import Derived.Test.YthfnacadabhpdaaRefJ
import Derived.Outline
namespace Go.Proofs.Ythfnacadabhpdaa
open Go.RowKit
set_option linter.unusedVariables false
set_option linter.unusedSimpArgs false
namespace TernU
open TernB TernS TernT TernR
variable {F G : Nat → Prop}
theorem TT.mid_ne {f : Bool} {way : List Int} {b v : Int} {ps : Prs} (hf : f = true ∨ ps ≠ []) : ((if f then [(way ++ [b], v)] else []) ++ ps) ≠ [] := by
  intro h
  rcases hf with rfl | hf
  · simp at h
  · exact hf (List.append_eq_nil_iff.1 h).2
theorem TT.flat_ne {way : List Int} {l : List Prs} {cs : Cls} {d : Nat} (h : TT way l cs d) (hl : l.flatten = []) : l = [] := by
  induction h with
  | nil way => rfl
  | node way l1 l2 G2 b f v ps cs1 cs2 cs3 d1 d2 d3 h1 h2 hG h3 hf hv lo hi hb bal on1 on2 on3 ih1 ih2 ih3 =>
    exfalso
    rw [flat_parts] at hl
    exact TT.mid_ne hf (List.append_eq_nil_iff.1 (List.append_eq_nil_iff.1 hl).2).1
theorem TT.deep {way : List Int} {l : List Prs} {cs : Cls} {d : Nat} (h : TT way l cs d) : d ≤ cs.length := by
  induction h with
  | nil way => simp
  | node way l1 l2 G2 b f v ps cs1 cs2 cs3 d1 d2 d3 h1 h2 hG h3 hf hv lo hi hb bal on1 on2 on3 ih1 ih2 ih3 =>
    simp only [List.length_cons, List.length_append]; omega

set_option maxRecDepth 100000 in
set_option maxHeartbeats 1600000 in
theorem read_any {way : List Int} {l : List Prs} {cs' : Cls} {d : Nat} (h : TT way l cs' d) : ∀ (w : World) (N : Nat) (v wv : Value) (K : Nat → Prop) (cs pre post : Cls) (lo hi : Int), l ≠ [] → RC w (fun b => b < N) v cs → cs = pre ++ cs' ++ post → RB w K wv way →
    (∀ p ∈ l.flatten, lo < bAt way.length p ∧ bAt way.length p < hi) → -1 ≤ lo → hi ≤ 256 → (∀ p ∈ l.flatten, KB p.1 ∧ p.1.length ≤ 65535) → cs.length ≤ 100000000000 → l.flatten.length ≤ 1000000 →
    Calls Try.prog 105 #[v, .int .i64 (pre.length : Int), wv, .int .i64 lo, .int .i64 hi] w (TRead w ((pre.length : Int) + (cs'.length : Int)) d l.flatten) := by
  induction h with
  | nil way => intro w N v wv K cs pre post lo hi hl; exact absurd rfl hl
  | node way l1 l2 G2 b f x ps cs1 cs2 cs3 d1 d2 d3 h1 h2 hG h3 hf hv lo1 hi1 hb bal on1 on2 on3 ih1 ih2 ih3 =>
    intro w N v wv K cs pre post lo hi _ hrc hcs hw hbd hlo hhi hpp hm hpm
    have e := flat_parts l1 ((if f then [(way ++ [b], x)] else []) ++ ps) l2
    have hne : ((if f then [(way ++ [b], x)] else []) ++ ps) ≠ [] := TT.mid_ne hf
    obtain ⟨p0, hp0⟩ := List.exists_mem_of_ne_nil _ hne
    have hm0 : p0 ∈ (l1 ++ ((if f then [(way ++ [b], x)] else []) ++ ps) :: l2).flatten := by rw [e]; exact List.mem_append.2 (Or.inr (List.mem_append.2 (Or.inl hp0)))
    have hb0 := hbd p0 hm0
    rw [mid_at on2 hp0] at hb0
    have hon0 := on_len (on_mid (f := f) (v := x) on2) hp0
    have hl0 := (hpp p0 hm0).2
    have hcl : cs.length = pre.length + (1 + (cs1.length + (cs2.length + cs3.length))) + post.length := by rw [hcs]; simp; omega
    have hd1 := TT.deep h1
    have hd2 := TT.deep h2
    have hd3 := TT.deep h3
    have hsub1 : ∀ p ∈ l1.flatten, p ∈ (l1 ++ ((if f then [(way ++ [b], x)] else []) ++ ps) :: l2).flatten := fun p hp => by rw [e]; exact List.mem_append.2 (Or.inl hp)
    have hsub2 : ∀ p ∈ ps, p ∈ (l1 ++ ((if f then [(way ++ [b], x)] else []) ++ ps) :: l2).flatten := fun p hp => by rw [e]; exact List.mem_append.2 (Or.inr (List.mem_append.2 (Or.inl (List.mem_append.2 (Or.inr hp)))))
    have hsub3 : ∀ p ∈ l2.flatten, p ∈ (l1 ++ ((if f then [(way ++ [b], x)] else []) ++ ps) :: l2).flatten := fun p hp => by rw [e]; exact List.mem_append.2 (Or.inr (List.mem_append.2 (Or.inr hp)))
    have htot : (l1 ++ ((if f then [(way ++ [b], x)] else []) ++ ps) :: l2).flatten.length = l1.flatten.length + (if f then 1 else 0) + ps.length + l2.flatten.length := by rw [e]; cases f <;> simp <;> omega
    have hi0 : cs[pre.length]? = some (nodeC b way.length (l1 ++ ((if f then [(way ++ [b], x)] else []) ++ ps) :: l2).flatten.length (kidsOf l1 ps l2) f x) := by rw [hcs]; simp
    have hlen : (((nodeC b way.length (l1 ++ ((if f then [(way ++ [b], x)] else []) ++ ps) :: l2).flatten.length (kidsOf l1 ps l2) f x :: (cs1 ++ (cs2 ++ cs3))).length : Nat) : Int) = 1 + (cs1.length : Int) + (cs2.length : Int) + (cs3.length : Int) := by simp; omega
    rw [hlen]
    rw [show (pre.length : Int) + (1 + (cs1.length : Int) + (cs2.length : Int) + (cs3.length : Int)) = (pre.length : Int) + 1 + cs1.length + cs2.length + cs3.length by omega]
    have hml1 : l1.flatten.length ≤ 1000000 := by omega
    have hml2 : ps.length ≤ 1000000 := by omega
    have hml3 : l2.flatten.length ≤ 1000000 := by omega
    refine read_node w N v wv cs pre.length way lo hi K hrc hw l1 l2 l1.flatten l2.flatten _ _ b f x ps cs1.length cs2.length cs3.length d1 d2 d3 _ hi0 hf hv hb hb0.1 hb0.2 hlo hhi (by omega) hm (by omega) ⟨by omega, by omega, by omega⟩ htot hpm e rfl (fun hz => ?_) (fun hz => ?_) (fun hz => ?_) (fun hz W t => ?_) (fun hz W wv2 K2 t hK2 hw2 => ?_) (fun hz W K2 t hK2 => ?_)
    · obtain rfl := List.eq_nil_of_length_eq_zero hz
      obtain ⟨rfl, rfl⟩ := TT.nil_cs h1
      exact ⟨rfl, rfl, rfl⟩
    · have hz2 : G2 = [] := TT.flat_ne h2 (by rw [hG]; exact List.eq_nil_of_length_eq_zero hz)
      subst hz2
      obtain ⟨rfl, rfl⟩ := TT.nil_cs h2
      exact ⟨rfl, rfl⟩
    · obtain rfl := List.eq_nil_of_length_eq_zero hz
      obtain ⟨rfl, rfl⟩ := TT.nil_cs h3
      exact ⟨rfl, rfl, rfl⟩
    · have hne1 : l1 ≠ [] := fun h => hz (by rw [h]; rfl)
      have := ih1 W N v wv K cs (pre ++ [nodeC b way.length (l1 ++ ((if f then [(way ++ [b], x)] else []) ++ ps) :: l2).flatten.length (kidsOf l1 ps l2) f x]) (cs2 ++ cs3 ++ post) lo b hne1 (hrc.ext t) (by rw [hcs]; simp) (hw.ext t) (fun p hp => ⟨(hbd p (hsub1 p hp)).1, lo1 p hp⟩) hlo (by omega) (fun p hp => hpp p (hsub1 p hp)) hm hml1
      rw [show (((pre ++ [nodeC b way.length (l1 ++ ((if f then [(way ++ [b], x)] else []) ++ ps) :: l2).flatten.length (kidsOf l1 ps l2) f x]).length : Nat) : Int) = (pre.length : Int) + 1 by simp] at this
      exact this
    · have hne2 : G2 ≠ [] := fun h => hz (by rw [← hG, h]; rfl)
      have x2 := t.new hK2
      have := ih2 W N v wv2 (fun _ => True) cs (pre ++ nodeC b way.length (l1 ++ ((if f then [(way ++ [b], x)] else []) ++ ps) :: l2).flatten.length (kidsOf l1 ps l2) f x :: cs1) (cs3 ++ post) (-1) 256 hne2 (hrc.ext x2) (by rw [hcs]; simp) hw2 (fun p hp => by
        rw [hG] at hp
        have hg := on_get on2 hp
        have := (hpp p (hsub2 p hp)).1 _ (List.mem_of_getElem? hg)
        omega) (by omega) (by omega) (fun p hp => by rw [hG] at hp; exact hpp p (hsub2 p hp)) hm (by rw [hG]; exact hml2)
      rw [show (((pre ++ nodeC b way.length (l1 ++ ((if f then [(way ++ [b], x)] else []) ++ ps) :: l2).flatten.length (kidsOf l1 ps l2) f x :: cs1).length : Nat) : Int) = (pre.length : Int) + 1 + (cs1.length : Int) by simp; omega, hG] at this
      exact this
    · have hne3 : l2 ≠ [] := fun h => hz (by rw [h]; rfl)
      have x2 := t.new hK2
      have := ih3 W N v wv K cs (pre ++ nodeC b way.length (l1 ++ ((if f then [(way ++ [b], x)] else []) ++ ps) :: l2).flatten.length (kidsOf l1 ps l2) f x :: (cs1 ++ cs2)) post b hi hne3 (hrc.ext x2) (by rw [hcs]; simp) (hw.ext x2) (fun p hp => ⟨hi1 p hp, (hbd p (hsub3 p hp)).2⟩) (by omega) hhi (fun p hp => hpp p (hsub3 p hp)) hm hml3
      rw [show (((pre ++ nodeC b way.length (l1 ++ ((if f then [(way ++ [b], x)] else []) ++ ps) :: l2).flatten.length (kidsOf l1 ps l2) f x :: (cs1 ++ cs2)).length : Nat) : Int) = (pre.length : Int) + 1 + (cs1.length : Int) + (cs2.length : Int) by simp; omega] at this
      exact this

theorem TT.first {way : List Int} {l : List Prs} {cs : Cls} {d : Nat} (h : TT way l cs d) (hl : l ≠ []) : ∃ b n k f x, cs[0]? = some (nodeC b way.length n k f x) := by
  cases h with
  | nil => exact absurd rfl hl
  | node l1 l2 G2 b f v ps cs1 cs2 cs3 d1 d2 d3 => exact ⟨_, _, _, _, _, rfl⟩
def TAll (w : World) (n : Int) (ps : Prs) (e : Ending) (w' : World) : Prop := ∃ d : Nat, TRead w n d ps e w'
theorem on_byte {ps : Prs} (hon : On [] ps) (hpp : ∀ p ∈ ps, KB p.1 ∧ p.1.length ≤ 65535) : ∀ p ∈ ps, (-1 : Int) < bAt ([] : List Int).length p ∧ bAt ([] : List Int).length p < 256 := fun p hp => by
  have hg := on_get hon hp
  have := (hpp p hp).1 _ (List.mem_of_getElem? hg)
  omega

set_option maxRecDepth 100000 in
set_option maxHeartbeats 3200000 in
theorem tern_node (w : World) (v : Value) (ps : Prs) (cs : Cls) (G : List Prs) (d : Nat) (h : RC w (fun b => b < w.heap.size) v cs) (hon : On [] ps) (hG : G.flatten = ps) (htt : TT [] G cs d) (h1 : 1 ≤ ps.length) (hpp : ∀ p ∈ ps, KB p.1 ∧ p.1.length ≤ 65535) (hpm : ps.length ≤ 1000000) (hcm : cs.length ≤ 90000000000) :
    Calls Try.prog 88 #[v] w (TAll w (cs.length : Int) ps) := by
  have hne : G ≠ [] := fun e => by rw [e] at hG; simp at hG; rw [hG] at h1; simp at h1
  obtain ⟨b, tot, k, f, x, hi0⟩ := TT.first htt hne
  have hil := (List.getElem?_eq_some_iff.1 hi0).1
  have hrd := fun W (t : Ext w W) => read_any htt W w.heap.size v (.slice none 0 0) (fun _ => True) cs [] [] (-1) 256 hne (h.ext t) (by simp) (RB.nil _ _) (by rw [hG]; exact on_byte hon hpp) (by omega) (by omega) (by rw [hG]; exact hpp) (by omega) (by rw [hG]; exact hpm)
  simp only [List.length_nil, Int.natCast_zero, Int.zero_add, hG] at hrd
  obtain ⟨a, c, rfl, l1, m1, _⟩ := h.shape
  unfold maxLen at m1
  obtain ⟨cb, co, rfl⟩ := h.addr (by omega)
  obtain ⟨kv, hkv, c0, c1, c2, c3, c4, c5, c6, c7, c8⟩ := h.get 0 _ hi0
  obtain ⟨ka, kc, rfl, _⟩ := hkv.shape
  simp only [nodeC, Nat.zero_mul, Nat.add_zero, List.length_nil] at hkv c0 c1 c2 c3 c4 c5 c6 c7 c8
  have hlt := World.block_lt_of_cell? _ _ c0
  have hn0 : (0 : Int) < (cs.length : Int) := by omega
  obtain ⟨W2, hW2⟩ : ∃ W2, W2 = (w.alloc (.cells #[.slice none 0 0, .int .i64 0, .int .i64 0, .bool false] 96)).alloc (.cells #[.int .i64 4, .int .i64 0, .int .i64 tot, .int .i64 k, .int .u8 b, .bool f, .int .u64 x, .slice ka 0 kc, .slice none 0 0] 53) := ⟨_, rfl⟩
  have x2 : Ext w W2 := by rw [hW2]; exact ((Touch.refl _ _).alloc _).alloc _
  have hcR : Cb W2 w.heap.size [.slice none 0 0, .int .i64 0, .int .i64 0, .bool false] := by rw [hW2]; exact (Cb.new w [.slice none 0 0, .int .i64 0, .int .i64 0, .bool false] _).keep ((Touch.refl (fun _ => False) _).alloc _) id
  have hcC : Cb W2 (w.heap.size + 1) [.int .i64 4, .int .i64 0, .int .i64 tot, .int .i64 k, .int .u8 b, .bool f, .int .u64 x, .slice ka 0 kc, .slice none 0 0] := by
    rw [hW2]
    have h9 := Cb.new (w.alloc (.cells #[.slice none 0 0, .int .i64 0, .int .i64 0, .bool false] 96)) [.int .i64 4, .int .i64 0, .int .i64 tot, .int .i64 k, .int .u8 b, .bool f, .int .u64 x, .slice ka 0 kc, .slice none 0 0] 53
    simpa using h9
  obtain ⟨e0, _⟩ := hcC 0 _ rfl
  have hsz2 : w.heap.size + 1 < W2.heap.size := by rw [hW2]; simp
  unfold TAll
  have H := Lib.hid h
  clear h
  have Hon := Lib.hid hon
  clear hon
  have HG := Lib.hid hG
  clear hG
  have Hpp := Lib.hid hpp
  clear hpp
  have Hi0 := Lib.hid hi0
  clear hi0
  have Hkv := Lib.hid hkv
  clear hkv
  have HcC := Lib.hid hcC
  clear hcC
  have HcR := Lib.hid hcR
  clear hcR
  have X2 := Lib.hid x2
  clear x2
  have Hrd := Lib.hid hrd
  clear hrd
  go_enter Try.func88, Try.ntmps88
  go_upto_region 2 with (fail)
  rw [← hW2]
  clear hW2 c0 c1 c2 c3 c4 c5 c6 c7 c8
  go_wp2_with (fail)
  (with_reducible refine (Hrd.out _ X2.out).mono ?_)
  intro e w1 hp
  unfold TRead at hp
  obtain ⟨⟨pa, pc, rfl, hpl, hpn, hpr⟩, t1⟩ := hp
  have hcR1 := HcR.out.keep t1 id
  have hend := (((hcR1.set 0 (.slice pa ps.length pc)).set 1 (.int .i64 (cs.length : Int))).set 2 (.int .i64 (d : Int))).set 3 (.bool true)
  have tz := ((((Touch.refl (fun i => i = w.heap.size) w1).setCell (p := ⟨w.heap.size, 0, none⟩) (Or.inl rfl) (.slice pa ps.length pc)).setCell (p := ⟨w.heap.size, 1, none⟩) (Or.inl rfl) (.int .i64 (cs.length : Int))).setCell (p := ⟨w.heap.size, 2, none⟩) (Or.inl rfl) (.int .i64 (d : Int))).setCell (p := ⟨w.heap.size, 3, none⟩) (Or.inl rfl) (.bool true)
  have xz := (X2.out.trans' t1).ext_new tz (fun i hi => by have hi : i = w.heap.size := hi; omega)
  have rz := (hpr.keep tz (fun b' hb' h => by have h : b' = w.heap.size := h; omega)).mono (G := fun b' => w.heap.size ≤ b') (fun b' hb' => by omega)
  obtain ⟨r0, m0⟩ := hcR1 0 _ rfl
  obtain ⟨r1, m1⟩ := hcR1 1 _ rfl
  obtain ⟨r2, m2⟩ := hcR1 2 _ rfl
  obtain ⟨r3, m3⟩ := hcR1 3 _ rfl
  have Hpl := Lib.hid hpl
  clear hpl
  have Hpn := Lib.hid hpn
  clear hpn
  have Hpr := Lib.hid hpr
  clear hpr
  have T1 := Lib.hid t1
  clear t1
  have HcR1 := Lib.hid hcR1
  clear hcR1
  have Hend := Lib.hid hend
  clear hend
  have Tz := Lib.hid tz
  clear tz
  have Xz := Lib.hid xz
  clear xz
  have Rz := Lib.hid rz
  clear rz
  go_wp2_with (fail)
  obtain ⟨k0, _⟩ := Hend.out 0 _ rfl
  obtain ⟨k1, _⟩ := Hend.out 1 _ rfl
  obtain ⟨k2, _⟩ := Hend.out 2 _ rfl
  obtain ⟨k3, _⟩ := Hend.out 3 _ rfl
  refine bodyPost_ret (v := .agg #[.slice pa ps.length pc, .int .i64 (cs.length : Int), .int .i64 (d : Int), .bool true]) (by simp [results, Try.results88, go_sem, k0, k1, k2, k3]) rfl ⟨d, ⟨pa, pc, rfl, Hpl.out, Hpn.out, Rz.out⟩, Xz.out⟩

set_option maxRecDepth 100000 in
set_option maxHeartbeats 6400000 in
theorem tern_empty (w : World) (v : Value) (x : Int) (qs : Prs) (G : List Prs) (cs' : Cls) (d : Nat) (h : RC w (fun b => b < w.heap.size) v (emptyC x :: cs')) (hon : On [] qs) (hG : G.flatten = qs) (htt : TT [] G cs' d) (hpp : ∀ p ∈ qs, KB p.1 ∧ p.1.length ≤ 65535) (hpm : qs.length ≤ 1000000) (hcm : cs'.length ≤ 90000000000) :
    Calls Try.prog 88 #[v] w (TAll w ((cs'.length : Int) + 1) (([], x) :: qs)) := by
  have hrd : G ≠ [] → ∀ W (t : Ext w W), Calls Try.prog 105 #[v, .int .i64 1, .slice none 0 0, .int .i64 (-1), .int .i64 256] W (TRead W ((cs'.length : Int) + 1) d qs) := fun hne W t => by
    have := read_any htt W w.heap.size v (.slice none 0 0) (fun _ => True) (emptyC x :: cs') [emptyC x] [] (-1) 256 hne (h.ext t) (by simp) (RB.nil _ _) (by rw [hG]; exact on_byte hon hpp) (by omega) (by omega) (by rw [hG]; exact hpp) (by simp; omega) (by rw [hG]; exact hpm)
    rw [hG, show (([emptyC x].length : Nat) : Int) = 1 by rfl, Int.add_comm] at this
    exact this
  have hlen0 : G = [] → cs'.length = 0 ∧ qs = [] := fun e => by subst e; obtain ⟨rfl, _⟩ := TT.nil_cs htt; exact ⟨rfl, by rw [← hG]; rfl⟩
  have hlen1 : G ≠ [] → 0 < cs'.length := fun hne => List.length_pos_iff.2 (TT.ne htt hne)
  have hdd := TT.deep htt
  obtain ⟨a, c, rfl, l1, m1, _⟩ := h.shape
  unfold maxLen at m1
  obtain ⟨cb, co, rfl⟩ := h.addr (by simp)
  obtain ⟨kv, hkv, c0, c1, c2, c3, c4, c5, c6, c7, c8⟩ := h.get 0 _ rfl
  obtain ⟨ka, kc, rfl, _⟩ := hkv.shape
  simp only [emptyC, Nat.zero_mul, Nat.add_zero, List.length_nil] at hkv c0 c1 c2 c3 c4 c5 c6 c7 c8
  have hcl : (emptyC x :: cs').length = cs'.length + 1 := rfl
  simp only [List.length_cons] at hrd
  rw [hcl] at *
  clear hcl
  have hlt := World.block_lt_of_cell? _ _ c0
  have hn0 : (0 : Int) < (cs'.length : Int) + 1 := by omega
  obtain ⟨W2, hW2⟩ : ∃ W2, W2 = (w.alloc (.cells #[.slice none 0 0, .int .i64 0, .int .i64 0, .bool false] 96)).alloc (.cells #[.int .i64 3, .int .i64 0, .int .i64 1, .int .i64 0, .int .u8 0, .bool false, .int .u64 x, .slice ka 0 kc, .slice none 0 0] 53) := ⟨_, rfl⟩
  have x2 : Ext w W2 := by rw [hW2]; exact ((Touch.refl _ _).alloc _).alloc _
  have hcR : Cb W2 w.heap.size [.slice none 0 0, .int .i64 0, .int .i64 0, .bool false] := by rw [hW2]; exact (Cb.new w [.slice none 0 0, .int .i64 0, .int .i64 0, .bool false] _).keep ((Touch.refl (fun _ => False) _).alloc _) id
  have hcC : Cb W2 (w.heap.size + 1) [.int .i64 3, .int .i64 0, .int .i64 1, .int .i64 0, .int .u8 0, .bool false, .int .u64 x, .slice ka 0 kc, .slice none 0 0] := by
    rw [hW2]
    have h9 := Cb.new (w.alloc (.cells #[.slice none 0 0, .int .i64 0, .int .i64 0, .bool false] 96)) [.int .i64 3, .int .i64 0, .int .i64 1, .int .i64 0, .int .u8 0, .bool false, .int .u64 x, .slice ka 0 kc, .slice none 0 0] 53
    simpa using h9
  obtain ⟨e0, _⟩ := hcC 0 _ rfl
  obtain ⟨e1, _⟩ := hcC 1 _ rfl
  obtain ⟨e2, _⟩ := hcC 2 _ rfl
  obtain ⟨e3, _⟩ := hcC 3 _ rfl
  obtain ⟨e4, _⟩ := hcC 4 _ rfl
  obtain ⟨e5, _⟩ := hcC 5 _ rfl
  obtain ⟨e6, _⟩ := hcC 6 _ rfl
  obtain ⟨e7, _⟩ := hcC 7 _ rfl
  obtain ⟨e8, _⟩ := hcC 8 _ rfl
  have hsz2 : w.heap.size + 1 < W2.heap.size := by rw [hW2]; simp
  obtain ⟨wp, hwp⟩ : ∃ wp, wp = W2.alloc (.cells #[.slice none 0 0, .int .u64 x] 33) := ⟨_, rfl⟩
  obtain ⟨w8, hw8⟩ : ∃ w8, w8 = wp.alloc (.cells #[.slice (some ⟨W2.heap.size, 0, none⟩) 1 1, .int .i64 1, .int .i64 1, .bool true] 96) := ⟨_, rfl⟩
  obtain ⟨rb, hrb⟩ : ∃ rb, rb = W2.heap.size + 1 := ⟨_, rfl⟩
  have hpz : wp.heap.size = W2.heap.size + 1 := by rw [hwp]; simp
  have xp : Ext W2 wp := by rw [hwp]; exact (Touch.refl _ _).alloc _
  have x8 : Ext wp w8 := by rw [hw8]; exact (Touch.refl _ _).alloc _
  have hs8 : w8.heap.size = rb + 1 := by rw [hw8, hrb, ← hpz]; simp
  have hst0 : RSt (w.heap.size + 1) W2.heap.size w8 rb [([], x)] 1 1 := by
    refine ⟨some ⟨W2.heap.size, 0, none⟩, 1, [(.slice none 0 0, ([], x))], rfl, ?_, ?_, fun b hb => ?_, fun e he => ?_⟩
    · have h9 := Cb.new wp [.slice (some ⟨W2.heap.size, 0, none⟩) 1 1, .int .i64 1, .int .i64 1, .bool true] 96
      rw [hpz, ← hrb] at h9
      rw [hw8]
      exact h9
    · have h9 : wp.ownsRow 0 33 2 (.slice (some ⟨W2.heap.size, 0, none⟩) 1 1) 1 (flat [(.slice none 0 0, ([], x))]) := by
        rw [hwp]
        exact World.ownsRow_lit W2 #[.slice none 0 0, .int .u64 x] 1 (Nat.zero_le _) (by simp [maxLen]) (by simp)
      exact own_keep h9 x8 (fun _ _ h => h)
    · have hb : some W2.heap.size = some b := hb
      cases hb; exact ⟨Nat.le_refl _, by omega⟩
    · simp only [List.mem_cons, List.not_mem_nil, or_false] at he; subst he; exact RB.nil _ _
  have xw8 := x2.trans' (xp.trans' x8)
  have hcR8 := (hcR.keep xp id).keep x8 id
  have hwrb : w.heap.size + 1 < rb := by omega
  have hW2r : W2.heap.size < rb := by omega
  obtain ⟨P0, hP0⟩ : ∃ P : Prs, P = [([], x)] := ⟨_, rfl⟩
  have hlP0 : P0.length = 1 := by rw [hP0]; rfl
  have hlP1 : P0.length ≤ 1 := by omega
  rw [← hP0] at hst0
  have hst := hst0
  obtain ⟨ra, rc, es, hes, hcb0, hown0, hrlt, hrk0⟩ := hst0
  obtain ⟨q0, g0⟩ := hcb0 0 _ rfl
  obtain ⟨q1, g1⟩ := hcb0 1 _ rfl
  obtain ⟨q2, g2⟩ := hcb0 2 _ rfl
  obtain ⟨q3, g3⟩ := hcb0 3 _ rfl
  obtain ⟨r0, m0⟩ := hcR8 0 _ rfl
  obtain ⟨r1, m1'⟩ := hcR8 1 _ rfl
  obtain ⟨r2, m2⟩ := hcR8 2 _ rfl
  obtain ⟨r3, m3⟩ := hcR8 3 _ rfl
  have hesl : es.length = P0.length := by rw [← hes]; simp
  obtain ⟨_, hrc0, hrn0, _⟩ := own_src hown0
  generalize hnn : cs'.length = n at *
  unfold TAll
  have Hst := Lib.hid hst
  clear hst
  have H := Lib.hid h
  clear h
  have Hon := Lib.hid hon
  clear hon
  have HG := Lib.hid hG
  clear hG
  have Hpp := Lib.hid hpp
  clear hpp
  have Hkv := Lib.hid hkv
  clear hkv
  have HcC := Lib.hid hcC
  clear hcC
  have HcR := Lib.hid hcR
  clear hcR
  have X2 := Lib.hid x2
  clear x2
  have Hrd := Lib.hid hrd
  clear hrd
  have HP0 := Lib.hid hP0
  clear hP0
  have HlP0 := Lib.hid hlP0
  clear hlP0
  have Xp := Lib.hid xp
  clear xp
  have X8 := Lib.hid x8
  clear x8
  have Xw8 := Lib.hid xw8
  clear xw8
  have Hpz := Lib.hid hpz
  clear hpz
  have Hlen0 := Lib.hid hlen0
  clear hlen0
  have Hlen1 := Lib.hid hlen1
  clear hlen1
  have Hes := Lib.hid hes
  clear hes
  have Hcb0 := Lib.hid hcb0
  clear hcb0
  have Hown0 := Lib.hid hown0
  clear hown0
  have Hrlt := Lib.hid hrlt
  clear hrlt
  have Hrk0 := Lib.hid hrk0
  clear hrk0
  have HcR8 := Lib.hid hcR8
  clear hcR8
  have Hesl := Lib.hid hesl
  clear hesl
  have Hrc0 := Lib.hid hrc0
  clear hrc0
  have Hrn0 := Lib.hid hrn0
  clear hrn0
  have Hnn := Lib.hid hnn
  clear hnn
  go_enter Try.func88, Try.ntmps88
  go_upto_region 2 with (fail)
  rw [← hW2]
  clear hW2 c0 c1 c2 c3 c4 c5 c6 c7 c8
  go_upto_region 7 with (fail)
  rw [← hwp, ← hw8, ← hrb]
  clear hwp hw8 hrb e0 e1 e2 e3 e4 e5 e6 e7 e8
  by_cases hGn : G = []
  · obtain ⟨hn, hq⟩ := Hlen0.out hGn
    subst hq
    subst hn
    have hend := (((HcR8.out.set 0 (.slice ra P0.length rc)).set 1 (.int .i64 1)).set 2 (.int .i64 1)).set 3 (.bool true)
    have tz := ((((Touch.refl (fun i => i = w.heap.size) w8).setCell (p := ⟨w.heap.size, 0, none⟩) (Or.inl rfl) (.slice ra P0.length rc)).setCell (p := ⟨w.heap.size, 1, none⟩) (Or.inl rfl) (.int .i64 1)).setCell (p := ⟨w.heap.size, 2, none⟩) (Or.inl rfl) (.int .i64 1)).setCell (p := ⟨w.heap.size, 3, none⟩) (Or.inl rfl) (.bool true)
    have hrp : RP w8 (fun b' => w.heap.size ≤ b' ∧ b' ≠ w.heap.size) (.slice ra P0.length rc) P0 := ⟨es, Hes.out, Cells2.of_own (by rw [Hesl.out]; exact Hown0.out) (fun b' hb' => by have h8 := Hrlt.out b' hb'; omega), fun e he => (Hrk0.out e he).mono (fun b' hb' => by have h8 := hb'.1; omega)⟩
    have xz := Xw8.out.ext_new tz (fun i hi => by have hi : i = w.heap.size := hi; omega)
    have rz := (hrp.keep tz (fun b' hb' h => hb'.2 h)).mono (G := fun b' => w.heap.size ≤ b') (fun b' hb' => hb'.1)
    have hrc1 : P0.length ≤ rc := by have h1 := Hrc0.out; simpa [flat_length, Hesl.out] using h1
    have Hend := Lib.hid hend
    clear hend
    have Tz := Lib.hid tz
    clear tz
    have Hrp := Lib.hid hrp
    clear hrp
    have Xz := Lib.hid xz
    clear xz
    have Rz := Lib.hid rz
    clear rz
    have HGn := Lib.hid hGn
    clear hGn
    have Hrc1 := Lib.hid hrc1
    clear hrc1
    go_wp2_with (fail)
    obtain ⟨k0, _⟩ := Hend.out 0 _ rfl
    obtain ⟨k1, _⟩ := Hend.out 1 _ rfl
    obtain ⟨k2, _⟩ := Hend.out 2 _ rfl
    obtain ⟨k3, _⟩ := Hend.out 3 _ rfl
    refine bodyPost_ret (v := .agg #[.slice ra P0.length rc, .int .i64 1, .int .i64 1, .bool true]) (by simp [results, Try.results88, go_sem, k0, k1, k2, k3]) rfl ⟨1, ⟨ra, rc, ?_, ?_, Hrn0.out, ?_⟩, Xz.out⟩
    · rw [← HP0.out]; simp
    · rw [← HP0.out]; exact Hrc1.out
    · rw [← HP0.out]; exact Rz.out
  · have hn := Hlen1.out hGn
    have hrd := Hrd.out hGn _ Xw8.out
    have h1n : (1 : Int) < (n : Int) + 1 := by omega
    have h1n' : (0 : Int) < (n : Int) := by omega
    have h1n2 : 1 < n + 1 := by omega
    have Hrd := Lib.hid hrd
    clear hrd
    have HGn := Lib.hid hGn
    clear hGn
    go_wp2_with (fail)
    (with_reducible refine Hrd.out.mono ?_)
    intro e w5 hcall
    unfold TRead at hcall
    obtain ⟨⟨xa, xc, rfl, xl, xn, hrx⟩, tx⟩ := hcall
    obtain ⟨fs, hfs, hcx, hkx⟩ := rp_bound hrx
    have hfl : fs.length = qs.length := by rw [← hfs]; simp
    have hsx := hcx.src
    obtain ⟨wx, hwx⟩ : ∃ wx, wx = w5.alloc (.cells #[.slice xa qs.length xc, .int .i64 ((n : Int) + 1), .int .i64 (d : Int), .bool true] 96) := ⟨_, rfl⟩
    have x5 : Ext w5 wx := by rw [hwx]; exact (Touch.refl _ _).alloc _
    have y0 : wx.cell? ⟨w5.heap.size, 0, none⟩ = some (.slice xa qs.length xc) := by rw [hwx]; simp
    have y1 : wx.cell? ⟨w5.heap.size, 1, none⟩ = some (.int .i64 ((n : Int) + 1)) := by rw [hwx]; simp
    have y2 : wx.cell? ⟨w5.heap.size, 2, none⟩ = some (.int .i64 (d : Int)) := by rw [hwx]; simp
    have y3 : wx.cell? ⟨w5.heap.size, 3, none⟩ = some (.bool true) := by rw [hwx]; simp
    have xx := tx.trans' x5
    have hol : ∀ b', (Value.slice ra P0.length rc).ownBlock = some b' → b' < w8.heap.size := fun b' hb' => (Hown0.out.lt b' hb').2
    have hcb := Hcb0.out.keep xx id
    have hown := own_keep Hown0.out xx (fun _ _ h => h)
    have hcR5 := HcR8.out.keep xx id
    clear q0 q1 q2 q3 g0 g1 g2 g3 r0 r1 r2 r3 m0 m1' m2 m3
    obtain ⟨q0, g0⟩ := hcb 0 _ rfl
    obtain ⟨q1, g1⟩ := hcb 1 _ rfl
    obtain ⟨q2, g2⟩ := hcb 2 _ rfl
    obtain ⟨q3, g3⟩ := hcb 3 _ rfl
    have hxb : w5.heap.size < wx.heap.size := by rw [hwx]; simp
    have hsp5 : w8.heap.size ≤ w5.heap.size := tx.size
    have hmx : (if (1 : Int) < (d : Int) then (d : Int) else 1) = ((max 1 d : Nat) : Int) := by split <;> omega
    have Hfs := Lib.hid hfs
    clear hfs
    have Hcx := Lib.hid hcx
    clear hcx
    have Hkx := Lib.hid hkx
    clear hkx
    have Hfl := Lib.hid hfl
    clear hfl
    have Hsx := Lib.hid hsx
    clear hsx
    have Xx := Lib.hid xx
    clear xx
    have Hcb := Lib.hid hcb
    clear hcb
    have Hown := Lib.hid hown
    clear hown
    have Hrx := Lib.hid hrx
    clear hrx
    have Tx := Lib.hid tx
    clear tx
    have X5 := Lib.hid x5
    clear x5
    have Hol := Lib.hid hol
    clear hol
    have Hmx := Lib.hid hmx
    clear hmx
    have HcR5 := Lib.hid hcR5
    clear hcR5
    go_wp2_with (fail)
    rw [← hwx]
    clear hwx
    refine wp_region_plan (.take 0 (.take 1 (.take 2 (.take 3 (.take 5 (.take 6 (.take 7 (.take 8 (.take 9 (.take 10 (.take 11 (.must 4 (.take 12 (.last 13 .done)))))))))))))) (fun W => W.cell? ⟨rb, 0, none⟩ = some (.slice ra P0.length rc) ∧ W.cell? ⟨w5.heap.size, 0, none⟩ = some (.slice xa qs.length xc) ∧ W.cell? ⟨w5.heap.size, 1, none⟩ = some (.int .i64 ((n : Int) + 1)) ∧ W.cell? ⟨w5.heap.size, 2, none⟩ = some (.int .i64 (d : Int)) ∧ W.cell? ⟨w5.heap.size, 3, none⟩ = some (.bool true)) (by kernel_rfl) (by kernel_rfl) (by kernel_rfl) rfl ?_ (fun KK hKK => ?_)
    · exact ⟨q0, y0, y1, y2, y3⟩
    repeat (first
      | (refine wpPlan_take (v := ?_) rfl (by rfl) (fun W hW => ?_) ?_; rotate_left; (focus ((try dsimp only at hW); go_split_ands; go_simp; (try with_reducible rfl); done)); (try simp only [Act.put, List.setIfInBounds_toArray, List.set_cons_zero, List.set_cons_succ]))
      | (refine wpPlan_skip rfl (by rfl) ?_; (try simp only [Act.put, List.setIfInBounds_toArray, List.set_cons_zero, List.set_cons_succ])))
    refine wpPlan_must rfl (by rfl) (fun K hK => ?_)
    refine wp_push_any _ _ _ 22 rfl 33 _ 2 32 Try.underlying22 info_pair rfl (by decide) (.slice ra P0.length rc) P0.length (flat es) rfl (own_keep Hown.out (show Ext wx wx.drew from (Touch.refl _ _).drew) (fun _ _ h => h)) xa qs.length xc rfl xn (flat fs) xl (by rw [flat_length, Hfl.out]) ((Hsx.out.ext X5.out).ext (Touch.refl _ _).drew) (flat_one_cell _ (fun e he => by obtain ⟨a, c, h1, _⟩ := (Hkx.out e he).shape; rw [h1]; rfl)) (by simp [maxLen]; omega) (by omega) ?_
    intro v6 w6 hown6 ht6 hb6
    obtain ⟨va, vc, rfl⟩ := own_len hown6
    have zz : Touch (fun b' => (Value.slice ra P0.length rc).ownBlock = some b') wx w6 := (show Ext wx wx.drew from (Touch.refl _ _).drew).ext_trans ht6
    have hnr : ¬ (Value.slice ra P0.length rc).ownBlock = some rb := fun h => (Hrlt.out rb h).2 rfl
    have hnx : ¬ (Value.slice ra P0.length rc).ownBlock = some w5.heap.size := fun h => by have := Hol.out _ h; omega
    have hnw : ¬ (Value.slice ra P0.length rc).ownBlock = some w.heap.size := fun h => by have := (Hrlt.out _ h).1; omega
    have hcb6 := Hcb.out.keep zz hnr
    have hcR6 := HcR5.out.keep zz hnw
    obtain ⟨s0, t0⟩ := hcb6 0 _ rfl
    obtain ⟨s1, t1⟩ := hcb6 1 _ rfl
    obtain ⟨s2, t2⟩ := hcb6 2 _ rfl
    obtain ⟨s3, t3⟩ := hcb6 3 _ rfl
    have z0 := keepc zz hnx y0
    have z1 := keepc zz hnx y1
    have z2 := keepc zz hnx y2
    have z3 := keepc zz hnx y3
    have hb6' := hb6.imp id (fun h => (⟨_, h, Nat.le_refl _⟩ : ∃ M, (Value.slice va (P0.length + qs.length) vc).ownBlock = some M ∧ wx.heap.size ≤ M))
    clear ht6 hb6
    have Hown6 := Lib.hid hown6
    clear hown6
    have Zz := Lib.hid zz
    clear zz
    have Hcb6 := Lib.hid hcb6
    clear hcb6
    have Hb6' := Lib.hid hb6'
    clear hb6'
    have Hnr := Lib.hid hnr
    clear hnr
    have Hnx := Lib.hid hnx
    clear hnx
    have Hnw := Lib.hid hnw
    clear hnw
    have HcR6 := Lib.hid hcR6
    clear hcR6
    refine hK.out _ _ ?_ ?_
    · exact ⟨s0, z0, z1, z2, z3⟩
    clear hK K
    (try simp only [Act.put, List.setIfInBounds_toArray, List.set_cons_zero, List.set_cons_succ])
    repeat (first
      | (refine wpPlan_take (v := ?_) rfl (by rfl) (fun W hW => ?_) ?_; rotate_left; (focus ((try dsimp only at hW); go_split_ands; go_simp; (try with_reducible rfl); done)); (try simp only [Act.put, List.setIfInBounds_toArray, List.set_cons_zero, List.set_cons_succ]))
      | (refine wpPlan_skip rfl (by rfl) ?_; (try simp only [Act.put, List.setIfInBounds_toArray, List.set_cons_zero, List.set_cons_succ])))
    refine wpPlan_last rfl (by rfl) (fun K hK => ?_)
    go_simp
    obtain ⟨w9, hw9⟩ : ∃ w9, w9 = (((w6.setCell ⟨rb, 0, none⟩ (.slice va (P0.length + qs.length) vc)).setCell ⟨rb, 1, none⟩ (.int .i64 ((n : Int) + 1))).setCell ⟨rb, 2, none⟩ (.int .i64 (if (1 : Int) < (d : Int) then (d : Int) else 1))).setCell ⟨rb, 3, none⟩ (.bool true) := ⟨_, rfl⟩
    have hcb9 : Cb w9 rb [.slice va (P0.length + qs.length) vc, .int .i64 ((n : Int) + 1), .int .i64 (if (1 : Int) < (d : Int) then (d : Int) else 1), .bool true] := by
      rw [hw9]
      exact (((Hcb6.out.set 0 _).set 1 _).set 2 _).set 3 _
    have t69 : Touch (fun i => i = rb) w6 w9 := by
      rw [hw9]
      exact ((((Touch.refl (fun i => i = rb) w6).setCell (p := ⟨rb, 0, none⟩) (Or.inl rfl) _).setCell (p := ⟨rb, 1, none⟩) (Or.inl rfl) _).setCell (p := ⟨rb, 2, none⟩) (Or.inl rfl) _).setCell (p := ⟨rb, 3, none⟩) (Or.inl rfl) _
    rw [Hmx.out] at hcb9
    have hcR9 := HcR6.out.keep t69 (fun h => by have h : w.heap.size = rb := h; omega)
    have hst9b : RSt (w.heap.size + 1) W2.heap.size w9 rb (P0 ++ qs) ((n : Int) + 1) (max 1 d) := RSt.more (ps := P0) (qs := qs) (w := wx) Hes.out Hfs.out Hrlt.out (by omega) (by omega) (fun e he => (Hrk0.out e he).ext Xx.out) (fun e he => ((Hkx.out e he).ext X5.out).mono (fun b' hb' => ⟨by omega, by omega, by omega, fun h => by have := Hol.out b' h; omega⟩)) Hown6.out Zz.out Hb6'.out t69 hcb9
    have zst : Ext w w9 := ((Xw8.out.trans' Xx.out).ext_new Zz.out (fun i hi => by have := (Hrlt.out i hi).1; omega)).ext_new t69 (fun i hi => by have hi : i = rb := hi; omega)
    rw [← hw9]
    clear hw9 hcb9 t69
    have Hst9b := Lib.hid hst9b
    clear hst9b
    have Zst := Lib.hid zst
    clear zst
    have HcR9 := Lib.hid hcR9
    clear hcR9
    refine hK.out _ _ ?_
    clear hK K
    (try simp only [Act.put, List.setIfInBounds_toArray, List.set_cons_zero, List.set_cons_succ])
    refine wpPlan_done (hKK.out _ _ ?_)
    clear hKK KK
    have hst9 := Hst9b.out
    have hqq : P0 ++ qs = ([], x) :: qs := by rw [HP0.out]; rfl
    rw [hqq] at hst9
    obtain ⟨sa, sc, es9, hes9, hcb9, hown9, hrlt9, hrk9⟩ := hst9
    have hesl9 : es9.length = qs.length + 1 := by have := congrArg List.length hes9; simpa using this
    have hrp : RP w9 (fun b' => w.heap.size ≤ b' ∧ b' ≠ w.heap.size) (.slice sa (qs.length + 1) sc) (([], x) :: qs) := ⟨es9, hes9, Cells2.of_own (by rw [hesl9]; exact hown9) (fun b' hb' => by have h8 := hrlt9 b' hb'; omega), fun e he => (hrk9 e he).mono (fun b' hb' => by have h8 := hb'.1; omega)⟩
    obtain ⟨_, hrc9, hrn9, _⟩ := own_src hown9
    have hcb9 : Cb w9 rb [.slice sa (qs.length + 1) sc, .int .i64 ((n : Int) + 1), .int .i64 ((max 1 d : Nat) : Int), .bool true] := hcb9
    generalize max 1 d = dm at *
    obtain ⟨u0, _⟩ := hcb9 0 _ rfl
    obtain ⟨u1, _⟩ := hcb9 1 _ rfl
    obtain ⟨u2, _⟩ := hcb9 2 _ rfl
    obtain ⟨u3, _⟩ := hcb9 3 _ rfl
    obtain ⟨r0, m0⟩ := HcR9.out 0 _ rfl
    obtain ⟨r1, m1'⟩ := HcR9.out 1 _ rfl
    obtain ⟨r2, m2⟩ := HcR9.out 2 _ rfl
    obtain ⟨r3, m3⟩ := HcR9.out 3 _ rfl
    have hend := (((HcR9.out.set 0 (.slice sa (qs.length + 1) sc)).set 1 (.int .i64 ((n : Int) + 1))).set 2 (.int .i64 (dm : Int))).set 3 (.bool true)
    have tz := ((((Touch.refl (fun i => i = w.heap.size) w9).setCell (p := ⟨w.heap.size, 0, none⟩) (Or.inl rfl) (.slice sa (qs.length + 1) sc)).setCell (p := ⟨w.heap.size, 1, none⟩) (Or.inl rfl) (.int .i64 ((n : Int) + 1))).setCell (p := ⟨w.heap.size, 2, none⟩) (Or.inl rfl) (.int .i64 (dm : Int))).setCell (p := ⟨w.heap.size, 3, none⟩) (Or.inl rfl) (.bool true)
    have xz := Zst.out.ext_new tz (fun i hi => by have hi : i = w.heap.size := hi; omega)
    have rz := (hrp.keep tz (fun b' hb' h => hb'.2 h)).mono (G := fun b' => w.heap.size ≤ b') (fun b' hb' => hb'.1)
    have hrc1 : qs.length + 1 ≤ sc := by simpa [flat_length, hesl9] using hrc9
    clear Hst9b Hmx
    have Hqq := Lib.hid hqq
    clear hqq
    have Hes9 := Lib.hid hes9
    clear hes9
    have Hcb9 := Lib.hid hcb9
    clear hcb9
    have Hown9 := Lib.hid hown9
    clear hown9
    have Hrlt9 := Lib.hid hrlt9
    clear hrlt9
    have Hrk9 := Lib.hid hrk9
    clear hrk9
    have Hesl9 := Lib.hid hesl9
    clear hesl9
    have Hrp := Lib.hid hrp
    clear hrp
    have Hrc9 := Lib.hid hrc9
    clear hrc9
    have Hrn9 := Lib.hid hrn9
    clear hrn9
    have Hend := Lib.hid hend
    clear hend
    have Tz := Lib.hid tz
    clear tz
    have Xz := Lib.hid xz
    clear xz
    have Rz := Lib.hid rz
    clear rz
    have Hrc1 := Lib.hid hrc1
    clear hrc1
    go_wp2_with (fail)
    all_goals
      obtain ⟨k0, _⟩ := Hend.out 0 _ rfl
      obtain ⟨k1, _⟩ := Hend.out 1 _ rfl
      obtain ⟨k2, _⟩ := Hend.out 2 _ rfl
      obtain ⟨k3, _⟩ := Hend.out 3 _ rfl
      exact bodyPost_ret (v := .agg #[.slice sa (qs.length + 1) sc, .int .i64 ((n : Int) + 1), .int .i64 (dm : Int), .bool true]) (by simp [results, Try.results88, go_sem, k0, k1, k2, k3]) rfl ⟨dm, ⟨sa, sc, rfl, Hrc1.out, Hrn9.out, Rz.out⟩, Xz.out⟩

theorem ternary_any (w : World) (v : Value) (ps : Prs) (cs : Cls) (d : Nat) (h : RC w (fun b => b < w.heap.size) v cs) (hk : TK ps cs d) (h1 : cs ≠ []) (hpp : ∀ p ∈ ps, KB p.1 ∧ p.1.length ≤ 65535) (hpm : ps.length ≤ 1000000) (hcm : cs.length ≤ 90000000000) :
    Calls Try.prog 88 #[v] w (TAll w (cs.length : Int) ps) := by
  rcases hk with ⟨x, qs, G, cs', rfl, hG, hon, htt, rfl⟩ | ⟨hon, G, hG, htt⟩
  · have := tern_empty w v x qs G cs' d h hon hG htt (fun p hp => hpp p (by simp [hp])) (by simp at hpm; omega) (by simp at hcm; omega)
    rw [show (((emptyC x :: cs').length : Nat) : Int) = (cs'.length : Int) + 1 by simp]
    exact this
  · refine tern_node w v ps cs G d h hon hG htt ?_ hpp hpm hcm
    rcases Nat.eq_zero_or_pos ps.length with h0 | h0
    · exfalso
      have hG0 : G = [] := TT.flat_ne htt (by rw [hG]; exact List.eq_nil_of_length_eq_zero h0)
      subst hG0
      exact h1 (TT.nil_cs htt).1
    · exact h0
theorem tk_none {ps : Prs} {cs : Cls} {d : Nat} (h : TK ps cs d) (h0 : cs = []) : ps = [] := by
  rcases h with ⟨x, qs, G, cs', rfl, hG, hon, htt, rfl⟩ | ⟨hon, G, hG, htt⟩
  · simp at h0
  · subst h0
    rcases List.eq_nil_or_concat G with rfl | ⟨G', g, rfl⟩
    · rw [← hG]; rfl
    · exact absurd rfl (TT.ne htt (by simp))

def AllRet (w : World) (n : Int) (ps : Prs) (e : Ending) (w' : World) : Prop := (∃ v' dd, e = .returned (.agg #[v', .int .i64 n, .int .i64 dd, .bool true]) ∧ RP w' (fun _ => True) v' ps) ∧ Ext w w'
set_option maxRecDepth 100000 in
set_option maxHeartbeats 1600000 in
theorem all_some (w : World) (v : Value) (ps : Prs) (cs : Cls) (d : Nat) (h : RC w (fun b => b < w.heap.size) v cs) (hk : TK ps cs d) (h1 : cs ≠ []) (hpp : ∀ p ∈ ps, KB p.1 ∧ p.1.length ≤ 65535) (hpm : ps.length ≤ 1000000) (hcm : cs.length ≤ 90000000000) :
    Calls Try.prog 67 #[.int .i64 2, v] w (AllRet w (cs.length : Int) ps) := by
  have h0 := List.length_pos_iff.2 h1
  have hrd := fun W (t : Ext w W) => ternary_any W v ps cs d ((h.ext t).mono (fun b hb => Nat.lt_of_lt_of_le hb t.size)) hk h1 hpp hpm hcm
  obtain ⟨a, c, rfl, l1, m1, _⟩ := h.shape
  generalize cs.length = lc at *
  have b0 : ((lc : Int) == 0) = false := beq_eq_false_iff_ne.2 (by omega)
  unfold AllRet
  have H := Lib.hid h
  clear h
  have Hpp := Lib.hid hpp
  clear hpp
  have Hrd := Lib.hid hrd
  clear hrd
  have Hk := Lib.hid hk
  clear hk
  go_enter Try.func67, Try.ntmps67
  go_wp2_with (fail)
  have t0 : Ext w ((w.alloc (.cells #[.slice none 0 0, .int .i64 0, .int .i64 0, .bool false] 96)).alloc (.cells #[.slice none 0 0, .int .i64 0, .int .i64 0, .bool false] 96)) := ((Touch.refl _ _).alloc _).alloc _
  have hc0 := (Cb.new w [.slice none 0 0, .int .i64 0, .int .i64 0, .bool false] 96).keep ((Touch.refl (fun _ => False) _).alloc (.cells #[.slice none 0 0, .int .i64 0, .int .i64 0, .bool false] 96)) id
  have hc1 := Cb.new (w.alloc (.cells #[.slice none 0 0, .int .i64 0, .int .i64 0, .bool false] 96)) [.slice none 0 0, .int .i64 0, .int .i64 0, .bool false] 96
  rw [show (w.alloc (.cells #[.slice none 0 0, .int .i64 0, .int .i64 0, .bool false] 96)).heap.size = w.heap.size + 1 by simp] at hc1
  have hsz0 : w.heap.size + 1 < ((w.alloc (.cells #[.slice none 0 0, .int .i64 0, .int .i64 0, .bool false] 96)).alloc (.cells #[.slice none 0 0, .int .i64 0, .int .i64 0, .bool false] 96)).heap.size := by simp
  generalize (w.alloc (.cells #[.slice none 0 0, .int .i64 0, .int .i64 0, .bool false] 96)).alloc (.cells #[.slice none 0 0, .int .i64 0, .int .i64 0, .bool false] 96) = W2 at *
  (with_reducible refine (Hrd.out _ t0).mono ?_)
  intro e w1 hp
  unfold TAll TRead at hp
  obtain ⟨dp, ⟨pa, pc, rfl, hpl, hpn, hpr⟩, t1⟩ := hp
  have hpr := hpr.mono (G := fun b => b ≠ w.heap.size ∧ b ≠ w.heap.size + 1) (fun b hb => by omega)
  have hd0 := hc0.keep t1 id
  have hd1 := hc1.keep t1 id
  obtain ⟨y0, z0⟩ := hd0 0 _ rfl
  obtain ⟨y1, z1⟩ := hd0 1 _ rfl
  obtain ⟨y2, z2⟩ := hd0 2 _ rfl
  obtain ⟨y3, z3⟩ := hd0 3 _ rfl
  obtain ⟨r0, m0⟩ := hd1 0 _ rfl
  obtain ⟨r1, m1'⟩ := hd1 1 _ rfl
  obtain ⟨r2, m2⟩ := hd1 2 _ rfl
  obtain ⟨r3, m3⟩ := hd1 3 _ rfl
  have he1 := (((hd1.set 0 (.slice pa ps.length pc)).set 1 (.int .i64 (lc : Int))).set 2 (.int .i64 (dp : Int))).set 3 (.bool true)
  have tz := ((((Touch.refl (fun i => i = w.heap.size + 1) w1).setCell (p := ⟨w.heap.size + 1, 0, none⟩) (Or.inl rfl) (.slice pa ps.length pc)).setCell (p := ⟨w.heap.size + 1, 1, none⟩) (Or.inl rfl) (.int .i64 (lc : Int))).setCell (p := ⟨w.heap.size + 1, 2, none⟩) (Or.inl rfl) (.int .i64 (dp : Int))).setCell (p := ⟨w.heap.size + 1, 3, none⟩) (Or.inl rfl) (.bool true)
  have hd0' := hd0.keep tz (fun h => by have h : w.heap.size = w.heap.size + 1 := h; omega)
  have hend := (((hd0'.set 0 (.slice pa ps.length pc)).set 1 (.int .i64 (lc : Int))).set 2 (.int .i64 (dp : Int))).set 3 (.bool true)
  have tz2 := ((((Touch.refl (fun i => i = w.heap.size) ((((w1.setCell ⟨w.heap.size + 1, 0, none⟩ (.slice pa ps.length pc)).setCell ⟨w.heap.size + 1, 1, none⟩ (.int .i64 (lc : Int))).setCell ⟨w.heap.size + 1, 2, none⟩ (.int .i64 (dp : Int))).setCell ⟨w.heap.size + 1, 3, none⟩ (.bool true))).setCell (p := ⟨w.heap.size, 0, none⟩) (Or.inl rfl) (.slice pa ps.length pc)).setCell (p := ⟨w.heap.size, 1, none⟩) (Or.inl rfl) (.int .i64 (lc : Int))).setCell (p := ⟨w.heap.size, 2, none⟩) (Or.inl rfl) (.int .i64 (dp : Int))).setCell (p := ⟨w.heap.size, 3, none⟩) (Or.inl rfl) (.bool true)
  have xz := ((t0.trans' t1).ext_new tz (fun i hi => by have hi : i = w.heap.size + 1 := hi; omega)).ext_new tz2 (fun i hi => by have hi : i = w.heap.size := hi; omega)
  have rz := ((hpr.keep tz (fun b hb h => hb.2 h)).keep tz2 (fun b hb h => hb.1 h)).mono (G := fun _ => True) (fun _ _ => trivial)
  have Hpr := Lib.hid hpr
  clear hpr
  have Hc0 := Lib.hid hc0
  clear hc0
  have Hc1 := Lib.hid hc1
  clear hc1
  have Hd0 := Lib.hid hd0
  clear hd0
  have Hd1 := Lib.hid hd1
  clear hd1
  have He1 := Lib.hid he1
  clear he1
  have Tz := Lib.hid tz
  clear tz
  have Hpl := Lib.hid hpl
  clear hpl
  have Hpn := Lib.hid hpn
  clear hpn
  have Hd0' := Lib.hid hd0'
  clear hd0'
  have Hend := Lib.hid hend
  clear hend
  have Tz2 := Lib.hid tz2
  clear tz2
  have Xz := Lib.hid xz
  clear xz
  have Rz := Lib.hid rz
  clear rz
  go_wp2_with (fail)
  obtain ⟨k0, _⟩ := Hend.out 0 _ rfl
  obtain ⟨k1, _⟩ := Hend.out 1 _ rfl
  obtain ⟨k2, _⟩ := Hend.out 2 _ rfl
  obtain ⟨k3, _⟩ := Hend.out 3 _ rfl
  exact bodyPost_ret (v := .agg #[.slice pa ps.length pc, .int .i64 (lc : Int), .int .i64 (dp : Int), .bool true]) (by simp [results, Try.results67, go_sem, k0, k1, k2, k3]) rfl ⟨⟨_, dp, rfl, Rz.out⟩, Xz.out⟩

set_option maxRecDepth 100000 in
set_option maxHeartbeats 1600000 in
theorem all_none (w : World) (a : Option Addr) (c : Nat) : Calls Try.prog 67 #[.int .i64 2, .slice a 0 c] w (AllRet w 0 []) := by
  unfold AllRet
  go_enter Try.func67, Try.ntmps67
  go_wp2_with (fail)
  refine bodyPost_ret (v := .agg #[.slice none 0 0, .int .i64 0, .int .i64 0, .bool true]) (by simp [results, Try.results67, go_sem]) rfl ⟨⟨_, 0, rfl, RP.nil _ _⟩, ?_⟩
  exact (Touch.refl _ _).alloc _
theorem all_any (w : World) (v : Value) (ps : Prs) (cs : Cls) (d : Nat) (h : RC w (fun b => b < w.heap.size) v cs) (hk : TK ps cs d) (hpp : ∀ p ∈ ps, KB p.1 ∧ p.1.length ≤ 65535) (hpm : ps.length ≤ 1000000) (hcm : cs.length ≤ 90000000000) :
    Calls Try.prog 67 #[.int .i64 2, v] w (AllRet w (cs.length : Int) ps) := by
  by_cases h0 : cs = []
  · obtain rfl := tk_none hk h0
    subst h0
    obtain ⟨a, c, rfl, _⟩ := h.shape
    exact all_none w a c
  · exact all_some w v ps cs d h hk h0 hpp hpm hcm

set_option maxRecDepth 100000 in
set_option maxHeartbeats 1600000 in
theorem right_any (w : World) (t r : Nat) (ps : Prs) (most : Int) (h : Tp w t F ps most) (hf : Rf w r G ps) :
    Calls Try.prog 35 #[.pointer (some ⟨t, 0, none⟩), .pointer (some ⟨r, 0, none⟩)] w fun e w' => e = .returned (.bool true) ∧ Ext w w' := by
  have hm := h.few
  have hsh := TernT.shape_any w t ps most h
  unfold ShapeRet at hsh
  have hr := h.rises
  have hpp : ∀ p ∈ ps, KB p.1 ∧ p.1.length ≤ 65535 := fun p hp => ⟨h.kb p hp, h.long p hp⟩
  have hfits := h.fits
  have hli := fun W (x : Ext w W) => TreeB.live_tp W t ps most (h.ext x)
  have hmo := fun W (x : Ext w W) => TreeB.most_any W t ps most (h.ext x)
  have hln := fun W (x : Ext w W) => TreeA.len_any W _ ps (h.ext x).tq
  obtain ⟨rv, r0, hrow⟩ := hf.row
  obtain ⟨ra, rc, rfl, _⟩ := hrow.shape
  have hsp := fun W (x : Ext w W) (v : Value) (F : Nat → Prop) (hv : RP W F v ps) => SameP.same_pairs W v _ ps hv (hrow.ext x) hm (fun p hp => by have := (hpp p hp).2; omega)
  have hb : decide (((szK ps : Nat) : Int) ≤ most) = true := by simpa using hfits.1
  have hszm : szK ps ≤ 90000000000 := by
    have h1 := sz_bound_aux 65535 ps none (fun p hp => (hpp p hp).2)
    have h2 : ps.length * (65535 + 2) ≤ 1000000 * (65535 + 2) := Nat.mul_le_mul_right _ hm
    unfold szK; omega
  have hal := fun W v cs d (hrc : RC W (fun b => b < W.heap.size) v cs) (hk : TK ps cs d) => all_any W v ps cs d hrc hk hpp hm (by rw [hk.length]; exact hszm)
  unfold AllRet at hal
  generalize hlcq : szK ps = lc at *
  have Hlcq := Lib.hid hlcq
  clear hlcq
  have H := Lib.hid h
  clear h
  have Hf := Lib.hid hf
  clear hf
  have Hsh := Lib.hid hsh
  clear hsh
  have Hr := Lib.hid hr
  clear hr
  have Hpp := Lib.hid hpp
  clear hpp
  have Hfits := Lib.hid hfits
  clear hfits
  have Hli := Lib.hid hli
  clear hli
  have Hmo := Lib.hid hmo
  clear hmo
  have Hln := Lib.hid hln
  clear hln
  have Hrow := Lib.hid hrow
  clear hrow
  have Hsp := Lib.hid hsp
  clear hsp
  have Hal := Lib.hid hal
  clear hal
  have Hszm := Lib.hid hszm
  clear hszm
  go_enter Try.func35, Try.ntmps35
  go_wp2_with (fail)
  (with_reducible refine Hsh.out.mono ?_)
  rintro e w1 ⟨⟨v1, cs, d, rfl, htk, hrc⟩, t1⟩
  have hall := Hal.out w1 v1 cs d hrc htk
  obtain ⟨sa, sc, hv1, _⟩ := hrc.shape
  have hcl := htk.length
  rw [Hlcq.out] at hcl
  rw [hcl] at hv1 hall
  subst hv1
  have Hall := Lib.hid hall
  clear hall
  have Hrc := Lib.hid hrc
  clear hrc
  have Htk := Lib.hid htk
  clear htk
  have Hcl := Lib.hid hcl
  clear hcl
  go_wp2_with (fail)
  (with_reducible refine Hall.out.mono ?_)
  rintro e w2 ⟨⟨v2, dp, rfl, hp2⟩, t2⟩
  obtain ⟨pa, pc, rfl, _⟩ := hp2.shape
  have x2 := (t1.trans' t2).alloc (.cells #[.slice pa ps.length pc, .int .i64 (lc : Int), .int .i64 dp, .bool true] 96)
  have k0 : (w2.alloc (.cells #[.slice pa ps.length pc, .int .i64 (lc : Int), .int .i64 dp, .bool true] 96)).cell? ⟨w2.heap.size, 0, none⟩ = some (.slice pa ps.length pc) := by simp
  have k3 : (w2.alloc (.cells #[.slice pa ps.length pc, .int .i64 (lc : Int), .int .i64 dp, .bool true] 96)).cell? ⟨w2.heap.size, 3, none⟩ = some (.bool true) := by simp
  have hp3 := hp2.ext ((Touch.refl _ _).alloc (.cells #[.slice pa ps.length pc, .int .i64 (lc : Int), .int .i64 dp, .bool true] 96))
  have q0 := keepc x2 id r0
  clear hp2 t2
  have Hp3 := Lib.hid hp3
  clear hp3
  go_wp2_with (fail)
  generalize w2.alloc (.cells #[.slice pa ps.length pc, .int .i64 (lc : Int), .int .i64 dp, .bool true] 96) = w3 at *
  generalize w2.heap.size = br at *
  refine wp_region_plan (.take 0 (.take 1 (.take 2 (.take 3 (.take 4 (.take 5 (.take 6 (.take 7 (.take 8 (.must 9 (.take 10 (.take 11 (.take 12 (.take 14 (.take 15 (.must 13 (.take 16 (.take 17 (.take 18 (.take 19 (.take 21 (.must 20 (.must 22 (.take 23 (.take 24 (.take 25 (.take 26 (.take 28 (.take 29 (.take 30 (.take 31 (.take 32 (.must 27 (.take 33 (.take 34 (.take 35 .done)))))))))))))))))))))))))))))))))))) (fun wy => wy.cell? ⟨br, 0, none⟩ = some (.slice pa ps.length pc) ∧ wy.cell? ⟨br, 3, none⟩ = some (.bool true) ∧ wy.cell? ⟨r, 0, none⟩ = some (.slice ra ps.length rc)) (by kernel_rfl) (by kernel_rfl) (by kernel_rfl) rfl ?_ (fun KK hKK => ?_)
  · exact ⟨k0, k3, q0⟩
  repeat (first
    | (refine wpPlan_take (v := ?_) rfl (by rfl) (fun W hW => ?_) ?_; rotate_left; (focus ((try dsimp only at hW); go_split_ands; go_simp; (try with_reducible rfl); done)); (try simp only [Act.put, List.setIfInBounds_toArray, List.set_cons_zero, List.set_cons_succ]))
    | (refine wpPlan_skip rfl (by rfl) ?_; (try simp only [Act.put, List.setIfInBounds_toArray, List.set_cons_zero, List.set_cons_succ])))
  refine wpPlan_must rfl (by rfl) (fun K hK => ?_)
  go_simp
  (with_reducible refine (Hsp.out _ x2.drew _ _ (Hp3.out.ext (Touch.refl _ _).drew)).mono ?_)
  rintro e w4 ⟨rfl, t4⟩
  have y4 : Ext w3 w4 := (Touch.refl _ _).drew.trans' t4
  have x4 := x2.trans' y4
  refine hK.out _ _ ?_ ?_
  · exact ⟨keepc y4 id k0, keepc y4 id k3, keepc y4 id q0⟩
  clear hK K
  (try simp only [Act.put, List.setIfInBounds_toArray, List.set_cons_zero, List.set_cons_succ])
  repeat (first
    | (refine wpPlan_take (v := ?_) rfl (by rfl) (fun W hW => ?_) ?_; rotate_left; (focus ((try dsimp only at hW); go_split_ands; go_simp; (try with_reducible rfl); done)); (try simp only [Act.put, List.setIfInBounds_toArray, List.set_cons_zero, List.set_cons_succ]))
    | (refine wpPlan_skip rfl (by rfl) ?_; (try simp only [Act.put, List.setIfInBounds_toArray, List.set_cons_zero, List.set_cons_succ])))
  refine wpPlan_must rfl (by rfl) (fun K hK => ?_)
  go_simp
  (with_reducible refine (Hli.out _ x4).mono ?_)
  rintro e w5 ⟨rfl, rfl⟩
  refine hK.out _ _ ?_ ?_
  · exact ⟨keepc y4 id k0, keepc y4 id k3, keepc y4 id q0⟩
  clear hK K
  (try simp only [Act.put, List.setIfInBounds_toArray, List.set_cons_zero, List.set_cons_succ])
  repeat (first
    | (refine wpPlan_take (v := ?_) rfl (by rfl) (fun W hW => ?_) ?_; rotate_left; (focus ((try dsimp only at hW); go_split_ands; go_simp; (try with_reducible rfl); done)); (try simp only [Act.put, List.setIfInBounds_toArray, List.set_cons_zero, List.set_cons_succ]))
    | (refine wpPlan_skip rfl (by rfl) ?_; (try simp only [Act.put, List.setIfInBounds_toArray, List.set_cons_zero, List.set_cons_succ])))
  refine wpPlan_must rfl (by rfl) (fun K hK => ?_)
  go_simp
  (with_reducible refine (Hli.out _ x4).mono ?_)
  rintro e w5 ⟨rfl, rfl⟩
  refine hK.out _ _ ?_ ?_
  · exact ⟨keepc y4 id k0, keepc y4 id k3, keepc y4 id q0⟩
  clear hK K
  (try simp only [Act.put, List.setIfInBounds_toArray, List.set_cons_zero, List.set_cons_succ])
  repeat (first
    | (refine wpPlan_take (v := ?_) rfl (by rfl) (fun W hW => ?_) ?_; rotate_left; (focus ((try dsimp only at hW); go_split_ands; go_simp; (try with_reducible rfl); done)); (try simp only [Act.put, List.setIfInBounds_toArray, List.set_cons_zero, List.set_cons_succ]))
    | (refine wpPlan_skip rfl (by rfl) ?_; (try simp only [Act.put, List.setIfInBounds_toArray, List.set_cons_zero, List.set_cons_succ])))
  refine wpPlan_must rfl (by rfl) (fun K hK => ?_)
  go_simp
  (with_reducible refine (Hmo.out _ x4).mono ?_)
  rintro e w5 ⟨rfl, rfl⟩
  refine hK.out _ _ ?_ ?_
  · exact ⟨keepc y4 id k0, keepc y4 id k3, keepc y4 id q0⟩
  clear hK K
  (try simp only [Act.put, List.setIfInBounds_toArray, List.set_cons_zero, List.set_cons_succ])
  repeat (first
    | (refine wpPlan_take (v := ?_) rfl (by rfl) (fun W hW => ?_) ?_; rotate_left; (focus ((try dsimp only at hW); go_split_ands; go_simp; (try with_reducible rfl); done)); (try simp only [Act.put, List.setIfInBounds_toArray, List.set_cons_zero, List.set_cons_succ]))
    | (refine wpPlan_skip rfl (by rfl) ?_; (try simp only [Act.put, List.setIfInBounds_toArray, List.set_cons_zero, List.set_cons_succ])))
  refine wpPlan_must rfl (by rfl) (fun K hK => ?_)
  go_simp
  (with_reducible refine (Hln.out _ x4).mono ?_)
  rintro e w5 ⟨rfl, rfl⟩
  refine hK.out _ _ ?_ ?_
  · exact ⟨keepc y4 id k0, keepc y4 id k3, keepc y4 id q0⟩
  clear hK K
  (try simp only [Act.put, List.setIfInBounds_toArray, List.set_cons_zero, List.set_cons_succ])
  repeat (first
    | (refine wpPlan_take (v := ?_) rfl (by rfl) (fun W hW => ?_) ?_; rotate_left; (focus ((try dsimp only at hW); go_split_ands; go_simp; (try with_reducible rfl); done)); (try simp only [Act.put, List.setIfInBounds_toArray, List.set_cons_zero, List.set_cons_succ]))
    | (refine wpPlan_skip rfl (by rfl) ?_; (try simp only [Act.put, List.setIfInBounds_toArray, List.set_cons_zero, List.set_cons_succ])))
  refine wpPlan_done (hKK.out _ _ ?_)
  clear hKK KK
  go_wp2_with (fail)
  go_ret
  exact ⟨rfl, x4⟩
end TernU
end Go.Proofs.Ythfnacadabhpdaa
