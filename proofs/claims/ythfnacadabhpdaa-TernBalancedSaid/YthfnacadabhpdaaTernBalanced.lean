/- The statement TernBalanced: built at once no choice among the bytes at one place lies deeper than nine. Conditions: none beyond the statement's own guards. -/
import Derived.Test.YthfnacadabhpdaaTernU
import Derived.Test.YthfnacadabhpdaaTreeD
import Derived.Test.YthfnacadabhpdaaTreeP
import Derived.Test.YthfnacadabhpdaaArg
import Derived.Test.YthfnacadabhpdaaRows
namespace Go.Proofs.Ythfnacadabhpdaa
open Go.ChangeShapes Go.WideShapes Go.ChangeAt Go.RowKit Go.Deep
set_option linter.unusedVariables false
set_option linter.unusedSimpArgs false
namespace LawTernBalanced
open TreeB TreeP TreeD TernT TernS TernB TernU
open ModS (great_not)

abbrev In (w : World) : Nat → Prop := fun b => b < w.heap.size

/-! ### how many choices there are, how deep they lie -/
theorem tt_count {way : List Int} {l : List Prs} {cs : Cls} {d : Nat} (h : TT way l cs d) : ∀ lo hi : Int, lo < hi → (∀ p ∈ l.flatten, lo < bAt way.length p ∧ bAt way.length p < hi) → (l.length : Int) ≤ hi - lo - 1 := by
  induction h with
  | nil way => intro lo hi h _; simp; omega
  | node way l1 l2 G2 b f v ps cs1 cs2 cs3 d1 d2 d3 h1 h2 hG h3 hf hv lo1 hi1 hb bal on1 on2 on3 ih1 ih2 ih3 =>
    intro lo hi hlh hbd
    rw [flat_parts] at hbd
    obtain ⟨p0, hp0⟩ := List.exists_mem_of_ne_nil _ (TT.mid_ne (way := way) (b := b) (v := v) hf)
    have hb0 := hbd p0 (List.mem_append.2 (Or.inr (List.mem_append.2 (Or.inl hp0))))
    rw [mid_at on2 hp0] at hb0
    have i1 := ih1 lo b hb0.1 (fun p hp => ⟨(hbd p (List.mem_append.2 (Or.inl hp))).1, lo1 p hp⟩)
    have i3 := ih3 b hi hb0.2 (fun p hp => ⟨hi1 p hp, (hbd p (List.mem_append.2 (Or.inr (List.mem_append.2 (Or.inr hp))))).2⟩)
    simp only [List.length_append, List.length_cons]
    omega
def AltRet (w : World) (nx : Int) (n : Nat) (e : Ending) (w' : World) : Prop :=
  ∃ o m : Int, e = .returned (.tuple #[.int .i64 nx, .int .i64 o, .int .i64 m]) ∧ 0 ≤ o ∧ (∀ k : Nat, n < 2 ^ k → o ≤ k) ∧ 0 ≤ m ∧ m ≤ 9 ∧ w = w'


def LR (i n1 n2 n3 la lb : Nat) (w wr : World) (s8 s9 s10 s11 : Value) : Prop := wr = w ∧ ((s11 = .int .i64 1 ∧ s8 = .int .i64 ((i : Int) + 1) ∧ s9 = .int .i64 0 ∧ s10 = .int .i64 0) ∨
      (s11 = .int .i64 2 ∧ s8 = .int .i64 ((i : Int) + 1 + n1) ∧ ∃ o m : Int, s9 = .int .i64 o ∧ s10 = .int .i64 m ∧ 0 ≤ o ∧ (∀ k : Nat, la < 2 ^ k → o ≤ k) ∧ 0 ≤ m ∧ m ≤ 9) ∨
      (s11 = .int .i64 4 ∧ s8 = .int .i64 ((i : Int) + 1 + n1 + n2) ∧ ∃ o m : Int, s9 = .int .i64 o ∧ s10 = .int .i64 m ∧ 0 ≤ o ∧ (∀ k : Nat, la < 2 ^ k → o ≤ k) ∧ 0 ≤ m ∧ m ≤ 9) ∨
      (s11 = .int .i64 8 ∧ s8 = .int .i64 ((i : Int) + 1 + n1 + n2 + n3) ∧ ∃ o m : Int, s9 = .int .i64 o ∧ s10 = .int .i64 m ∧ 0 ≤ o ∧ (∀ k : Nat, la < 2 ^ k → lb < 2 ^ k → o ≤ k) ∧ 0 ≤ m ∧ m ≤ 9))
set_option maxRecDepth 100000 in
set_option maxHeartbeats 1600000 in
theorem alt_node (w : World) (N : Nat) (v : Value) (cs : Cls) (i : Nat) (h : RC w (fun b => b < N) v cs) (l1 l2 : List Prs) (ps : Prs) (b : Int) (wl tot : Nat) (f : Bool) (x : Int) (n1 n2 n3 q : Nat)
    (hi0 : cs[i]? = some (nodeC b wl tot (kidsOf l1 ps l2) f x)) (hm : cs.length ≤ 100000000000) (hfit : i + 1 + n1 + n2 + n3 ≤ cs.length) (hn : l1.length + 1 + l2.length ≤ 256) (bal : l1.length = (l1.length + 1 + l2.length) / 2)
    (hz1 : l1.length = 0 → n1 = 0) (hz2 : ps.length = 0 → n2 = 0) (hz3 : l2.length = 0 → n3 = 0)
    (h1 : l1.length ≠ 0 → Calls Try.prog 41 #[v, .int .i64 ((i : Int) + 1)] w (AltRet w ((i : Int) + 1 + n1) l1.length))
    (h2 : ps.length ≠ 0 → Calls Try.prog 41 #[v, .int .i64 ((i : Int) + 1 + n1)] w (AltRet w ((i : Int) + 1 + n1 + n2) q))
    (h3 : l2.length ≠ 0 → Calls Try.prog 41 #[v, .int .i64 ((i : Int) + 1 + n1 + n2)] w (AltRet w ((i : Int) + 1 + n1 + n2 + n3) l2.length)) :
    Calls Try.prog 41 #[v, .int .i64 i] w (AltRet w ((i : Int) + 1 + n1 + n2 + n3) (l1.length + 1 + l2.length)) := by
  obtain ⟨a, c, rfl, l1', m1, _⟩ := h.shape
  unfold maxLen at m1
  have hil := (List.getElem?_eq_some_iff.1 hi0).1
  obtain ⟨cb, co, rfl⟩ := h.addr (by omega)
  obtain ⟨kv, hkv, c0, c1, c2, c3, c4, c5, c6, c7, c8⟩ := h.get i _ hi0
  simp only [nodeC] at c0 c3
  clear c1 c2 c4 c5 c6 c7 c8 hkv
  generalize hke : kidsOf l1 ps l2 = k at *
  have hkA : Go.bits BinOp.and IntKind.i64 (k : Int) 1 = ((if l1.length = 0 then 0 else 1 : Nat) : Int) := by rw [← hke]; unfold kidsOf; split <;> split <;> split <;> rfl
  have hkB : Go.bits BinOp.and IntKind.i64 (k : Int) 2 = ((if ps.length = 0 then 0 else 2 : Nat) : Int) := by rw [← hke]; unfold kidsOf; split <;> split <;> split <;> rfl
  have hkC : Go.bits BinOp.and IntKind.i64 (k : Int) 4 = ((if l2.length = 0 then 0 else 4 : Nat) : Int) := by rw [← hke]; unfold kidsOf; split <;> split <;> split <;> rfl
  have i0 : (0 : Int) ≤ (i : Int) := by omega
  have i1 : (i : Int) < (cs.length : Int) := by omega
  have hA8 : ∀ o : Int, (∀ k : Nat, l1.length < 2 ^ k → o ≤ k) → o ≤ 8 := fun o h => h 8 (by omega)
  have hC8 : ∀ o : Int, (∀ k : Nat, l1.length < 2 ^ k → l2.length < 2 ^ k → o ≤ k) → o ≤ 8 := fun o h => h 8 (by omega) (by omega)
  have hend : ∀ o : Int, (∀ k : Nat, l1.length < 2 ^ k → l2.length < 2 ^ k → o ≤ k) → ∀ k : Nat, l1.length + 1 + l2.length < 2 ^ k → o + 1 ≤ k := fun o h k hk => by
    cases k with
    | zero => simp at hk
    | succ k =>
      rw [Nat.pow_succ] at hk
      have := h k (by omega) (by omega)
      omega
  have hkb : 0 < (k : Int) + 1 := by omega
  have H := Lib.hid h
  clear h
  have Hi0 := Lib.hid hi0
  clear hi0
  have Hke := Lib.hid hke
  clear hke
  have HkA := Lib.hid hkA
  clear hkA
  have HkB := Lib.hid hkB
  clear hkB
  have HkC := Lib.hid hkC
  clear hkC
  have H1 := Lib.hid h1
  clear h1
  have H2 := Lib.hid h2
  clear h2
  have H3 := Lib.hid h3
  clear h3
  have Hz1 := Lib.hid hz1
  clear hz1
  have Hz2 := Lib.hid hz2
  clear hz2
  have Hz3 := Lib.hid hz3
  clear hz3
  have Bal := Lib.hid bal
  clear bal
  have HA8 := Lib.hid hA8
  clear hA8
  have HC8 := Lib.hid hC8
  clear hC8
  have Hend := Lib.hid hend
  clear hend
  go_enter Try.func41, Try.ntmps41
  go_wp2_with (fail)
  go_loopw [8, 9, 10, 11] (fun s8 s9 s10 s11 wr => LR i n1 n2 n3 l1.length l2.length w wr s8 s9 s10 s11) (fun _ _ _ s11 _ => 8 - (intOf s11).toNat)
  case atStart => unfold LR; exact ⟨rfl, Or.inl ⟨by go_num, by go_num, by go_num, by go_num⟩⟩
  case round =>
    unfold LR at hrel
    obtain ⟨hwr, hrel⟩ := hrel
    subst hwr
    rcases hrel with ⟨rfl, rfl, rfl, rfl⟩ | ⟨rfl, rfl, o, m, rfl, rfl, ho0, ho, hm0, hm9⟩ | ⟨rfl, rfl, o, m, rfl, rfl, ho0, ho, hm0, hm9⟩ | ⟨rfl, rfl, o, m, rfl, rfl, ho0, ho, hm0, hm9⟩
    · have hkA := HkA.out
      by_cases hl0 : l1.length = 0
      · rw [if_pos hl0] at hkA
        have hz := Hz1.out hl0
        have Hl0 := Lib.hid hl0
        clear hl0
        have Hz := Lib.hid hz
        clear hz
        go_wp2_with (fail)
        go_roundw
        case rel => unfold LR; exact ⟨rfl, Or.inr (Or.inl ⟨by go_num, congrArg (Value.int .i64) (by have := Hz.out; omega), 0, 0, rfl, rfl, by omega, fun k _ => by omega, by omega, by omega⟩)⟩
        case measure => simp [intOf]
      · rw [if_neg hl0] at hkA
        have hc := H1.out hl0
        have Hl0 := Lib.hid hl0
        clear hl0
        have Hc := Lib.hid hc
        clear hc
        go_wp2_with (fail)
        (with_reducible refine Hc.out.mono ?_)
        rintro e w' ⟨o, m, rfl, ho0, ho, hm0, hm9, rfl⟩
        have ho8 := HA8.out o ho
        have Ho := Lib.hid ho
        clear ho
        go_wp2_with (fail)
        all_goals
          go_roundw
          case rel => refine ⟨_, _, _, _, ?_, rfl, rfl, rfl, rfl⟩; unfold LR; exact ⟨rfl, Or.inr (Or.inl ⟨by go_num, rfl, _, _, rfl, rfl, by (first | omega | (split <;> omega) | (split <;> split <;> omega)), fun k hk => by have := Ho.out k hk; (first | omega | (split <;> omega) | (split <;> split <;> omega)), by (first | omega | (split <;> omega) | (split <;> split <;> omega)), by (first | omega | (split <;> omega) | (split <;> split <;> omega))⟩)⟩
          case measure => simp [intOf]
    · have hkB := HkB.out
      have ho8 := HA8.out o ho
      by_cases hl0 : ps.length = 0
      · rw [if_pos hl0] at hkB
        have hz := Hz2.out hl0
        have Hl0 := Lib.hid hl0
        clear hl0
        have Hz := Lib.hid hz
        clear hz
        have Ho := Lib.hid ho
        clear ho
        go_wp2_with (fail)
        go_roundw
        case rel => unfold LR; exact ⟨rfl, Or.inr (Or.inr (Or.inl ⟨by go_num, congrArg (Value.int .i64) (by have := Hz.out; omega), o, m, rfl, rfl, ho0, Ho.out, hm0, hm9⟩))⟩
        case measure => simp [intOf]
      · rw [if_neg hl0] at hkB
        have hc := H2.out hl0
        have Hl0 := Lib.hid hl0
        clear hl0
        have Hc := Lib.hid hc
        clear hc
        have Ho := Lib.hid ho
        clear ho
        go_wp2_with (fail)
        (with_reducible refine Hc.out.mono ?_)
        rintro e w' ⟨o2, m2, rfl, ho20, ho2, hm20, hm29, rfl⟩
        have Ho2 := Lib.hid ho2
        clear ho2
        go_wp2_with (fail)
        all_goals
          go_roundw
          case rel => refine ⟨_, _, _, _, ?_, rfl, rfl, rfl, rfl⟩; unfold LR; exact ⟨rfl, Or.inr (Or.inr (Or.inl ⟨by go_num, rfl, o, _, rfl, rfl, ho0, Ho.out, by (first | omega | (split <;> omega) | (split <;> split <;> omega)), by (first | omega | (split <;> omega) | (split <;> split <;> omega))⟩))⟩
          case measure => simp [intOf]
    · have hkC := HkC.out
      have ho8 := HA8.out o ho
      by_cases hl0 : l2.length = 0
      · rw [if_pos hl0] at hkC
        have hz := Hz3.out hl0
        have Hl0 := Lib.hid hl0
        clear hl0
        have Hz := Lib.hid hz
        clear hz
        have Ho := Lib.hid ho
        clear ho
        go_wp2_with (fail)
        go_roundw
        case rel => unfold LR; exact ⟨rfl, Or.inr (Or.inr (Or.inr ⟨by go_num, congrArg (Value.int .i64) (by have := Hz.out; omega), o, m, rfl, rfl, ho0, fun k hk _ => Ho.out k hk, hm0, hm9⟩))⟩
        case measure => simp [intOf]
      · rw [if_neg hl0] at hkC
        have hc := H3.out hl0
        have Hl0 := Lib.hid hl0
        clear hl0
        have Hc := Lib.hid hc
        clear hc
        have Ho := Lib.hid ho
        clear ho
        go_wp2_with (fail)
        (with_reducible refine Hc.out.mono ?_)
        rintro e w' ⟨o2, m2, rfl, ho20, ho2, hm20, hm29, rfl⟩
        have ho28 : o2 ≤ 8 := ho2 8 (by omega)
        have Ho2 := Lib.hid ho2
        clear ho2
        go_wp2_with (fail)
        all_goals
          go_roundw
          case rel => refine ⟨_, _, _, _, ?_, rfl, rfl, rfl, rfl⟩; unfold LR; exact ⟨rfl, Or.inr (Or.inr (Or.inr ⟨by go_num, rfl, _, _, rfl, rfl, by (first | omega | (split <;> omega) | (split <;> split <;> omega)), fun k hk hk2 => by have := Ho.out k hk; have := Ho2.out k hk2; (first | omega | (split <;> omega) | (split <;> split <;> omega)), by (first | omega | (split <;> omega) | (split <;> split <;> omega)), by (first | omega | (split <;> omega) | (split <;> split <;> omega))⟩))⟩
          case measure => simp [intOf]
    · have ho8 := HC8.out o ho
      have hfin := Hend.out o ho
      have Ho := Lib.hid ho
      clear ho
      have Hfin := Lib.hid hfin
      clear hfin
      rcases Int.lt_or_le m (o + 1) with hmo | hmo
      · go_wp2_with (fail)
        all_goals try (exfalso; omega)
        unfold AltRet
        exact bodyPost_ret (v := .tuple #[.int .i64 ((i : Int) + 1 + n1 + n2 + n3), .int .i64 (o + 1), .int .i64 (o + 1)]) (by simp [results, Try.results41, go_sem]) rfl ⟨o + 1, o + 1, rfl, by omega, fun k hk => by have := Hfin.out k hk; omega, by omega, by omega, rfl⟩
      · go_wp2_with (fail)
        all_goals try (exfalso; omega)
        unfold AltRet
        exact bodyPost_ret (v := .tuple #[.int .i64 ((i : Int) + 1 + n1 + n2 + n3), .int .i64 (o + 1), .int .i64 m]) (by simp [results, Try.results41, go_sem]) rfl ⟨o + 1, m, rfl, by omega, fun k hk => by have := Hfin.out k hk; omega, by omega, by omega, rfl⟩

theorem alt_any {way : List Int} {l : List Prs} {cs' : Cls} {d : Nat} (h : TT way l cs' d) : ∀ (w : World) (N : Nat) (v : Value) (cs pre post : Cls) (lo hi : Int), l ≠ [] → RC w (fun b => b < N) v cs → cs = pre ++ cs' ++ post →
    (∀ p ∈ l.flatten, lo < bAt way.length p ∧ bAt way.length p < hi) → -1 ≤ lo → hi ≤ 256 → (∀ p ∈ l.flatten, KB p.1) → cs.length ≤ 100000000000 →
    Calls Try.prog 41 #[v, .int .i64 (pre.length : Int)] w (AltRet w ((pre.length : Int) + (cs'.length : Int)) l.length) := by
  induction h with
  | nil way => intro w N v cs pre post lo hi hl; exact absurd rfl hl
  | node way l1 l2 G2 b f x ps cs1 cs2 cs3 d1 d2 d3 h1 h2 hG h3 hf hv lo1 hi1 hb bal on1 on2 on3 ih1 ih2 ih3 =>
    intro w N v cs pre post lo hi _ hrc hcs hbd hlo hhi hpp hm
    have e := flat_parts l1 ((if f then [(way ++ [b], x)] else []) ++ ps) l2
    obtain ⟨p0, hp0⟩ := List.exists_mem_of_ne_nil _ (TT.mid_ne (way := way) (b := b) (v := x) hf)
    have hm0 : p0 ∈ (l1 ++ ((if f then [(way ++ [b], x)] else []) ++ ps) :: l2).flatten := by rw [e]; exact List.mem_append.2 (Or.inr (List.mem_append.2 (Or.inl hp0)))
    have hb0 := hbd p0 hm0
    rw [mid_at on2 hp0] at hb0
    have hcl : cs.length = pre.length + (1 + (cs1.length + (cs2.length + cs3.length))) + post.length := by rw [hcs]; simp; omega
    have hsub1 : ∀ p ∈ l1.flatten, p ∈ (l1 ++ ((if f then [(way ++ [b], x)] else []) ++ ps) :: l2).flatten := fun p hp => by rw [e]; exact List.mem_append.2 (Or.inl hp)
    have hsub2 : ∀ p ∈ ps, p ∈ (l1 ++ ((if f then [(way ++ [b], x)] else []) ++ ps) :: l2).flatten := fun p hp => by rw [e]; exact List.mem_append.2 (Or.inr (List.mem_append.2 (Or.inl (List.mem_append.2 (Or.inr hp)))))
    have hsub3 : ∀ p ∈ l2.flatten, p ∈ (l1 ++ ((if f then [(way ++ [b], x)] else []) ++ ps) :: l2).flatten := fun p hp => by rw [e]; exact List.mem_append.2 (Or.inr (List.mem_append.2 (Or.inr hp)))
    have hi0 : cs[pre.length]? = some (nodeC b way.length (l1 ++ ((if f then [(way ++ [b], x)] else []) ++ ps) :: l2).flatten.length (kidsOf l1 ps l2) f x) := by rw [hcs]; simp
    have c1 := tt_count h1 lo b hb0.1 (fun p hp => ⟨(hbd p (hsub1 p hp)).1, lo1 p hp⟩)
    have c3 := tt_count h3 b hi hb0.2 (fun p hp => ⟨hi1 p hp, (hbd p (hsub3 p hp)).2⟩)
    have hlen : (((nodeC b way.length (l1 ++ ((if f then [(way ++ [b], x)] else []) ++ ps) :: l2).flatten.length (kidsOf l1 ps l2) f x :: (cs1 ++ (cs2 ++ cs3))).length : Nat) : Int) = 1 + (cs1.length : Int) + (cs2.length : Int) + (cs3.length : Int) := by simp; omega
    rw [hlen]
    rw [show (pre.length : Int) + (1 + (cs1.length : Int) + (cs2.length : Int) + (cs3.length : Int)) = (pre.length : Int) + 1 + cs1.length + cs2.length + cs3.length by omega]
    rw [show (l1 ++ ((if f then [(way ++ [b], x)] else []) ++ ps) :: l2).length = l1.length + 1 + l2.length by simp; omega]
    refine alt_node w N v cs pre.length hrc l1 l2 ps b way.length _ f x cs1.length cs2.length cs3.length G2.length hi0 hm (by omega) (by omega) bal (fun hz => ?_) (fun hz => ?_) (fun hz => ?_) (fun hz => ?_) (fun hz => ?_) (fun hz => ?_)
    · obtain rfl := List.eq_nil_of_length_eq_zero hz
      rw [(TT.nil_cs h1).1]; rfl
    · have hz2 : G2 = [] := TT.flat_ne h2 (by rw [hG]; exact List.eq_nil_of_length_eq_zero hz)
      subst hz2
      rw [(TT.nil_cs h2).1]; rfl
    · obtain rfl := List.eq_nil_of_length_eq_zero hz
      rw [(TT.nil_cs h3).1]; rfl
    · have := ih1 w N v cs (pre ++ [nodeC b way.length (l1 ++ ((if f then [(way ++ [b], x)] else []) ++ ps) :: l2).flatten.length (kidsOf l1 ps l2) f x]) (cs2 ++ cs3 ++ post) lo b (fun h => hz (by rw [h]; rfl)) hrc (by rw [hcs]; simp) (fun p hp => ⟨(hbd p (hsub1 p hp)).1, lo1 p hp⟩) hlo (by omega) (fun p hp => hpp p (hsub1 p hp)) hm
      rw [show (((pre ++ [nodeC b way.length (l1 ++ ((if f then [(way ++ [b], x)] else []) ++ ps) :: l2).flatten.length (kidsOf l1 ps l2) f x]).length : Nat) : Int) = (pre.length : Int) + 1 by simp] at this
      exact this
    · have := ih2 w N v cs (pre ++ nodeC b way.length (l1 ++ ((if f then [(way ++ [b], x)] else []) ++ ps) :: l2).flatten.length (kidsOf l1 ps l2) f x :: cs1) (cs3 ++ post) (-1) 256 (fun h => hz (by rw [← hG, h]; rfl)) hrc (by rw [hcs]; simp) (fun p hp => by
        rw [hG] at hp
        have hg := on_get on2 hp
        have := hpp p (hsub2 p hp) _ (List.mem_of_getElem? hg)
        omega) (by omega) (by omega) (fun p hp => by rw [hG] at hp; exact hpp p (hsub2 p hp)) hm
      rw [show (((pre ++ nodeC b way.length (l1 ++ ((if f then [(way ++ [b], x)] else []) ++ ps) :: l2).flatten.length (kidsOf l1 ps l2) f x :: cs1).length : Nat) : Int) = (pre.length : Int) + 1 + (cs1.length : Int) by simp; omega] at this
      exact this
    · have := ih3 w N v cs (pre ++ nodeC b way.length (l1 ++ ((if f then [(way ++ [b], x)] else []) ++ ps) :: l2).flatten.length (kidsOf l1 ps l2) f x :: (cs1 ++ cs2)) post b hi (fun h => hz (by rw [h]; rfl)) hrc (by rw [hcs]; simp) (fun p hp => ⟨hi1 p hp, (hbd p (hsub3 p hp)).2⟩) (by omega) hhi (fun p hp => hpp p (hsub3 p hp)) hm
      rw [show (((pre ++ nodeC b way.length (l1 ++ ((if f then [(way ++ [b], x)] else []) ++ ps) :: l2).flatten.length (kidsOf l1 ps l2) f x :: (cs1 ++ cs2)).length : Nat) : Int) = (pre.length : Int) + 1 + (cs1.length : Int) + (cs2.length : Int) by simp; omega] at this
      exact this
def AltTop (w : World) (e : Ending) (w' : World) : Prop := ∃ nx o m : Int, e = .returned (.tuple #[.int .i64 nx, .int .i64 o, .int .i64 m]) ∧ 0 ≤ m ∧ m ≤ 9 ∧ w = w'
set_option maxRecDepth 100000 in
set_option maxHeartbeats 400000 in
theorem alt_end (w : World) (a : Option Addr) (n c : Nat) (i : Int) (hi : (n : Int) ≤ i) : Calls Try.prog 41 #[.slice a n c, .int .i64 i] w (AltTop w) := by
  have i0 : decide ((n : Int) ≤ i) = true := decide_eq_true hi
  go_enter Try.func41, Try.ntmps41
  go_wp2_with (fail)
  unfold AltTop
  exact bodyPost_ret (v := .tuple #[.int .i64 (n : Int), .int .i64 0, .int .i64 0]) (by simp [results, Try.results41, go_sem]) rfl ⟨_, 0, 0, rfl, by omega, by omega, rfl⟩
theorem alt_top {w : World} {nx : Int} {n : Nat} {v : Value} {i : Int} (h : Calls Try.prog 41 #[v, .int .i64 i] w (AltRet w nx n)) : Calls Try.prog 41 #[v, .int .i64 i] w (AltTop w) :=
  h.mono fun e w' ⟨o, m, h1, _, _, h2, h3, h4⟩ => ⟨nx, o, m, h1, h2, h3, h4⟩
theorem alt_cases (w : World) (v : Value) (ps : Prs) (cs : Cls) (d : Nat) (hrc : RC w (fun b => b < w.heap.size) v cs) (h : TK ps cs d) (hpp : ∀ p ∈ ps, KB p.1 ∧ p.1.length ≤ 65535) (hm : cs.length ≤ 90000000000) :
    (cs.length = 0 ∧ Calls Try.prog 41 #[v, .int .i64 0] w (AltTop w)) ∨ (∃ c, cs[0]? = some c ∧ c.kind = 3 ∧ Calls Try.prog 41 #[v, .int .i64 1] w (AltTop w)) ∨
    (∃ c, cs[0]? = some c ∧ c.kind = 4 ∧ Calls Try.prog 41 #[v, .int .i64 0] w (AltTop w)) := by
  rcases h with ⟨x, qs, G, cs', rfl, hG, hon, htt, rfl⟩ | ⟨hon, G, hG, htt⟩
  · refine Or.inr (Or.inl ⟨_, rfl, rfl, ?_⟩)
    by_cases hne : G = []
    · subst hne
      obtain ⟨rfl, _⟩ := TT.nil_cs htt
      obtain ⟨a, c, rfl, _⟩ := hrc.shape
      exact alt_end w a _ c 1 (by simp)
    · have := alt_any htt w w.heap.size v (emptyC x :: cs') [emptyC x] [] (-1) 256 hne hrc (by simp) (by rw [hG]; exact on_byte hon (fun p hp => hpp p (by simp [hp]))) (by omega) (by omega) (fun p hp => (hpp p (by rw [hG] at hp; simp [hp])).1) (by omega)
      exact alt_top this
  · by_cases hne : G = []
    · subst hne
      obtain ⟨rfl, _⟩ := TT.nil_cs htt
      obtain ⟨a, c, rfl, _⟩ := hrc.shape
      exact Or.inl ⟨rfl, alt_end w a _ c 0 (by simp)⟩
    · obtain ⟨b, n, k, f, x, hc⟩ := TT.first htt hne
      have := alt_any htt w w.heap.size v cs [] [] (-1) 256 hne hrc (by simp) (by rw [hG]; exact on_byte hon hpp) (by omega) (by omega) (fun p hp => (hpp p (by rw [hG] at hp; exact hp)).1) (by omega)
      exact Or.inr (Or.inr ⟨_, hc, rfl, alt_top this⟩)

theorem sz_way {M : Prs} (hr : Rises M) (k : List Int) (x : Int) (hk : k.length ≤ 11) : szK (putK M k x) ≤ szK M + 12 := by
  cases h : hasK M k with
  | true => rw [sz_put_has h]; omega
  | false =>
    rw [sz_put hr h]
    have := alone_pos M k
    omega

set_option maxRecDepth 100000 in
set_option maxHeartbeats 3200000 in
theorem walk_small (n : Int) (v1 v2 : Value) (way : List Int) (ps : Prs) (w : World) (h1 : RB w (In w) v1 way) (kw : KB way) (h2 : RP w (In w) v2 ps) (hpk : PK ps) (hV : V64 n) (hwl : way.length ≤ 10) (hg : SameP.great ps 20 20 = false) (hm : ps.length ≤ 20) (hL : ∀ p ∈ ps, p.1.length ≤ 20) :
    Calls Try.prog 8 #[.int .i64 n, v1, v2] w fun e w' => e = .returned (.bool true) ∧ Ext w w' := by
  have hgr := SameP.great_any w _ _ ps 20 20 h2 (by decide) (by decide) (by decide) (by decide)
  rw [hg] at hgr
  have hrn := RefJ.new_any w _ ps h2 (by omega) hpk
  unfold RefJ.RNew at hrn
  obtain ⟨a1, c1, rfl, l1, l2, l3⟩ := h1.shape
  obtain ⟨a2, c2, rfl, l4, l5, _⟩ := h2.shape
  unfold maxLen at l2 l5
  have hr := mkK_rises ps
  have hml := mkK_length ps
  have hmm := fun p (hp : p ∈ mkK ps) => hpk p (mkK_mem hp)
  have hsz0 := sz_mk (n := 20) (L := 20) (m := 440) hm hL (by decide) ps.length
  rw [List.take_length] at hsz0
  have w10 : decide ((10 : Int) < (way.length : Int)) = false := by simp; omega
  have Hgr := Lib.hid hgr
  clear hgr
  have Hrn := Lib.hid hrn
  clear hrn
  have H1 := Lib.hid h1
  clear h1
  have H2 := Lib.hid h2
  clear h2
  have Hpk := Lib.hid hpk
  clear hpk
  have Hr := Lib.hid hr
  clear hr
  have Hmm := Lib.hid hmm
  clear hmm
  have HL := Lib.hid hL
  clear hL
  have Kw := Lib.hid kw
  clear kw
  have HV := Lib.hid hV
  clear hV
  clear hg
  go_enter Try.func8, Try.ntmps8
  go_wp2_with (fail)
  (with_reducible refine Hgr.out.mono ?_)
  rintro e w' ⟨rfl, rfl⟩
  go_wp2_with (fail)
  (with_reducible refine Hrn.out.mono ?_)
  rintro e w1 ⟨r, R, rfl, hrf, hR, t1⟩
  have hlow := SameA.low_ex n 257 w1 HV.out (by decide) (by decide)
  have Hrf := Lib.hid hrf
  clear hrf
  have HR := Lib.hid hR
  clear hR
  have T1 := Lib.hid t1
  clear t1
  have Hlow := Lib.hid hlow
  clear hlow
  go_wp2_with (fail)
  (with_reducible refine Hlow.out.mono ?_)
  rintro e w2 ⟨m, hm0, hm1, rfl, rfl⟩
  obtain ⟨m, rfl⟩ : ∃ k : Nat, m = (k : Int) := ⟨m.toNat, by omega⟩
  go_wp2_with (fail)
  go_loopw [8] (fun s8 wr => ∃ (j : Nat) (M : Prs) (R : Nat → Prop), j ≤ m ∧ s8 = .int .i64 j ∧ Rf wr r R M ∧ (∀ b, R b → w.heap.size ≤ b) ∧ M.length ≤ 20 + j ∧ szK M ≤ 440 + 12 * j ∧ Ext w wr) (fun s8 _ => m - (intOf s8).toNat)
  case atStart => exact ⟨0, mkK ps, R, by omega, rfl, Hrf.out, HR.out, by omega, by omega, T1.out⟩
  case round =>
    obtain ⟨j, M, R', hj, rfl, hrf, hR, hMl, hMs, ht⟩ := hrel
    clear Hrf HR T1
    obtain ⟨wq, rfl⟩ : ∃ wq, wq = wr := ⟨_, rfl⟩
    have hrM := hrf.rises
    by_cases hjm : j < m
    · have hk1 := H1.out.ext ht
      have j1 : (j : Int) < (m : Int) := by omega
      have j2 : (0 : Int) ≤ (j : Int) := by omega
      have hbb : 0 ≤ (j : Int) * 7 % 256 ∧ (j : Int) * 7 % 256 < 256 := by omega
      have hrlt := hrf.lt
      have Hk1 := Lib.hid hk1
      clear hk1
      have Hrf := Lib.hid hrf
      clear hrf
      have HR := Lib.hid hR
      clear hR
      have Ht := Lib.hid ht
      clear ht
      have HrM := Lib.hid hrM
      clear hrM
      have Hrlt := Lib.hid hrlt
      clear hrlt
      go_wp2_with (first
        | (at_builtin; (refine wpList_push_any _ rfl _ _ 23 rfl 5 (.int .u8 0) 1 1 Try.underlying23 info_u8 rfl (by decide) (.slice none 0 0) 0 [] rfl (World.ownsRow_nil _ _ _ _) a1 way.length c1 rfl l3 (ivs .u8 way) l1 (by simp [ivs]) Hk1.out.src (ivs_one _ _) (by simp [maxLen]; omega) (by omega) ?_); intro v10 w10 hown10 ht10 hb10; rw [Nat.zero_add, List.nil_append] at hown10; obtain ⟨na, nc, rfl⟩ := own_len hown10)
        | (at_builtin; (refine wpList_push_any _ rfl _ _ 23 rfl 5 (.int .u8 0) 1 1 Try.underlying23 info_u8 rfl (by decide) (.slice na way.length nc) way.length (ivs .u8 way) rfl (own_keep hown10 ((Touch.refl (fun _ => False) _).alloc _) (fun _ _ h => h)) (some ⟨w10.heap.size, 0, none⟩) 1 1 rfl (fun h => by cases h) (ivs .u8 [(j : Int) * 7 % 256]) (by decide) (by simp [ivs]) (src_one _ _ _) (ivs_one _ _) (by simp [maxLen]; omega) (by omega) ?_); intro v11 w11 hown11 ht11 hb11))
      have y10 : Ext wq w10 := ht10.new (fun i hi => by simp [Value.ownBlock] at hi)
      have y11 : Ext wq w11 := (y10.alloc (.cells #[.int .u8 ((j : Int) * 7 % 256)] 5)).ext_new ht11 (fun i hi => by
        rcases hb10 with h | h
        · rw [h] at hi; simp [Value.ownBlock] at hi
        · rw [h] at hi; cases hi; exact Nat.le_refl _)
      have hob : OB w11 (fun _ => True) v11 (way ++ [(j : Int) * 7 % 256]) := ⟨by rw [List.length_append, ivs_append]; exact hown11, fun _ _ => trivial⟩
      obtain ⟨a11, c11, rfl⟩ := own_len hown11
      have hkk : KB (way ++ [(j : Int) * 7 % 256]) := Kw.out.append (fun x hx => by simp only [List.mem_cons, List.not_mem_nil, or_false] at hx; subst hx; exact hbb)
      have hpu := fun x => RefJ.put_any w11 r _ M (way ++ [(j : Int) * 7 % 256]) x (Hrf.out.ext y11) hob.rb hkk (by simp; omega) (by omega)
      unfold RefJ.RPut at hpu
      clear ht10 hb10 hown10 ht11 hb11 hown11
      have Hpu := Lib.hid hpu
      clear hpu
      have Y10 := Lib.hid y10
      clear y10
      have Y11 := Lib.hid y11
      clear y11
      have Hob := Lib.hid hob
      clear hob
      have Hkk := Lib.hid hkk
      clear hkk
      go_wp2_with (fail)
      (with_reducible refine (Hpu.out _).mono ?_)
      rintro e w12 ⟨rfl, R2, hrf2, x12, hs12⟩
      have hlp := putK_length M (way ++ [(j : Int) * 7 % 256])
      have hsp := sz_way HrM.out (way ++ [(j : Int) * 7 % 256])
      have hrw := HR.out r Hrf.out.self
      have Hlp := Lib.hid hlp
      clear hlp
      have Hsp := Lib.hid hsp
      clear hsp
      have Hrf2 := Lib.hid hrf2
      clear hrf2
      have X12 := Lib.hid x12
      clear x12
      have Hs12 := Lib.hid hs12
      clear hs12
      have Hrw := Lib.hid hrw
      clear hrw
      go_wp2_with (fail)
      go_roundw
      case rel =>
        refine ⟨j + 1, _, R2, by omega, by go_num, Hrf2.out, fun b hb => ?_, ?_, ?_, ?_⟩
        · rcases Hs12.out b hb with h | h
          · exact HR.out b h
          · exact Nat.le_trans (Nat.le_trans Ht.out.size Y11.out.size) h
        · rw [Hlp.out]; split <;> omega
        · have := Hsp.out (j : Int) (by simp; omega); omega
        · exact (Ht.out.trans' Y11.out).ext_new X12.out (fun i hi => by subst hi; exact Hrw.out)
      case measure => simp [intOf]; omega
    · obtain rfl : j = m := by omega
      have j1 : ¬ ((j : Nat) : Int) < (j : Int) := by omega
      have hnew := fun W => new_yes W 5000 (by decide) (by decide)
      unfold TNew at hnew
      have hpp : ∀ p ∈ M, KB p.1 ∧ p.1.length ≤ 65535 := fun p hp => ⟨hrf.kb p hp, hrf.long p hp⟩
      obtain ⟨rv, r0, hrow⟩ := hrf.row
      obtain ⟨ra, rc, rfl, _⟩ := hrow.shape
      have hszM : (szK M : Int) ≤ 5000 := by omega
      have Hrf := Lib.hid hrf
      clear hrf
      have HR := Lib.hid hR
      clear hR
      have Ht := Lib.hid ht
      clear ht
      have HrM := Lib.hid hrM
      clear hrM
      have Hnew := Lib.hid hnew
      clear hnew
      have Hpp := Lib.hid hpp
      clear hpp
      have Hrow := Lib.hid hrow
      clear hrow
      go_wp2_with (fail)
      (with_reducible refine (Hnew.out _).mono ?_)
      rintro e w2 ⟨t, F, rfl, htp, hF, t2⟩
      have r0 := keepc t2 id r0
      have hb := build_ok w2 t _ [] M 5000 htp (Hrow.out.ext t2) (by omega) Hpp.out HrM.out hszM
      unfold TBuild at hb
      have ht2 : t < w2.heap.size := htp.lt _ htp.self
      have ht1 : wq.heap.size ≤ t := hF _ htp.self
      have hs1 := Ht.out.size
      have hs2 := t2.size
      clear htp hF
      have Hb := Lib.hid hb
      clear hb
      have T2 := Lib.hid t2
      clear t2
      go_wp2_with (fail)
      (with_reducible refine Hb.out.mono ?_)
      rintro e w3 ⟨rfl, F3, htp3, x3, hF3⟩
      have t3 : Ext w w3 := (Ht.out.trans' T2.out).ext_new x3 (fun i hi => by subst hi; omega)
      have hrf3 : Rf w3 r R' M := (Hrf.out.ext T2.out).keep x3 (fun b hb h => by subst h; have := Hrf.out.lt b hb; omega)
      have hri := right_any w3 t r M 5000 htp3 hrf3
      have hsh := fun W (x : Ext w3 W) => TernT.shape_any W t M 5000 (htp3.ext x)
      unfold ShapeRet at hsh
      clear r0
      have Htp3 := Lib.hid htp3
      clear htp3
      have X3 := Lib.hid x3
      clear x3
      have HF3 := Lib.hid hF3
      clear hF3
      have T3 := Lib.hid t3
      clear t3
      have Hrf3 := Lib.hid hrf3
      clear hrf3
      have Hri := Lib.hid hri
      clear hri
      have Hsh := Lib.hid hsh
      clear hsh
      go_wp2_with (fail)
      (with_reducible refine Hri.out.mono ?_)
      rintro e w4 ⟨rfl, x4⟩
      go_wp2_with (fail)
      (with_reducible refine (Hsh.out _ x4).mono ?_)
      rintro e w5 ⟨⟨v5, cs, d, rfl, htk, hrc⟩, x5⟩
      have hcl := htk.length
      have hac := alt_cases w5 v5 M cs d hrc htk Hpp.out (by omega)
      obtain ⟨sa, sc, rfl, s1, s2, _⟩ := hrc.shape
      unfold maxLen at s2
      have t5 := T3.out.trans' (x4.trans' x5)
      clear x4 x5
      rcases hac with ⟨hz, hal⟩ | ⟨c, hc, hk, hal⟩ | ⟨c, hc, hk, hal⟩
      · rw [hz] at hal ⊢
        have Hz := Lib.hid hz
        clear hz
        have Hal := Lib.hid hal
        clear hal
        have Hcl := Lib.hid hcl
        clear hcl
        have Htk := Lib.hid htk
        clear htk
        have Hrc := Lib.hid hrc
        clear hrc
        have T5 := Lib.hid t5
        clear t5
        go_wp2_with (fail)
        (with_reducible refine Hal.out.mono ?_)
        rintro e w6 ⟨nx, o, q, rfl, hq0, hq9, rfl⟩
        have hq : decide (q ≤ 9) = true := decide_eq_true hq9
        go_wp2_with (fail)
        refine (TreeW.awake_any _).mono ?_
        rintro e w7 ⟨rfl, t7⟩
        go_wp2_with (fail)
        go_ret
        exact ⟨rfl, T5.out.trans' t7⟩
      · have hlt := (List.getElem?_eq_some_iff.1 hc).1
        obtain ⟨cb, co, rfl⟩ := hrc.addr hlt
        obtain ⟨kv, _, c0, _⟩ := hrc.get 0 _ hc
        rw [hk] at c0
        simp only [Nat.zero_mul, Nat.add_zero] at c0
        have k0 : (0 : Int) < (cs.length : Int) := by omega
        have Hal := Lib.hid hal
        clear hal
        have Hcl := Lib.hid hcl
        clear hcl
        have Htk := Lib.hid htk
        clear htk
        have Hrc := Lib.hid hrc
        clear hrc
        have T5 := Lib.hid t5
        clear t5
        have Hc := Lib.hid hc
        clear hc
        have Hk := Lib.hid hk
        clear hk
        go_wp2_with (fail)
        (with_reducible refine Hal.out.mono ?_)
        rintro e w6 ⟨nx, o, q, rfl, hq0, hq9, rfl⟩
        have hq : decide (q ≤ 9) = true := decide_eq_true hq9
        go_wp2_with (fail)
        refine (TreeW.awake_any _).mono ?_
        rintro e w7 ⟨rfl, t7⟩
        go_wp2_with (fail)
        go_ret
        exact ⟨rfl, T5.out.trans' t7⟩
      · have hlt := (List.getElem?_eq_some_iff.1 hc).1
        obtain ⟨cb, co, rfl⟩ := hrc.addr hlt
        obtain ⟨kv, _, c0, _⟩ := hrc.get 0 _ hc
        rw [hk] at c0
        simp only [Nat.zero_mul, Nat.add_zero] at c0
        have k0 : (0 : Int) < (cs.length : Int) := by omega
        have Hal := Lib.hid hal
        clear hal
        have Hcl := Lib.hid hcl
        clear hcl
        have Htk := Lib.hid htk
        clear htk
        have Hrc := Lib.hid hrc
        clear hrc
        have T5 := Lib.hid t5
        clear t5
        have Hc := Lib.hid hc
        clear hc
        have Hk := Lib.hid hk
        clear hk
        go_wp2_with (fail)
        (with_reducible refine Hal.out.mono ?_)
        rintro e w6 ⟨nx, o, q, rfl, hq0, hq9, rfl⟩
        have hq : decide (q ≤ 9) = true := decide_eq_true hq9
        go_wp2_with (fail)
        refine (TreeW.awake_any _).mono ?_
        rintro e w7 ⟨rfl, t7⟩
        go_wp2_with (fail)
        go_ret
        exact ⟨rfl, T5.out.trans' t7⟩

set_option maxRecDepth 100000 in
set_option maxHeartbeats 400000 in
theorem walk_far (n : Int) (v1 v2 : Value) (way : List Int) (F : Nat → Prop) (w : World) (h1 : RB w F v1 way) (hw : 10 < way.length) :
    Calls Try.prog 8 #[.int .i64 n, v1, v2] w fun e w' => e = .returned (.bool true) ∧ Ext w w' := by
  obtain ⟨a1, c1, rfl, l1, l2, _⟩ := h1.shape
  have w10 : decide ((10 : Int) < (way.length : Int)) = true := by simp; omega
  go_enter Try.func8, Try.ntmps8
  go_wp2_with (fail)
  refine (TreeW.awake_any _).mono ?_
  rintro e w' ⟨rfl, ht⟩
  go_wp2_with (fail)
  go_ret
  exact ⟨rfl, ht⟩
set_option maxRecDepth 100000 in
set_option maxHeartbeats 400000 in
theorem walk_great (n : Int) (v1 v2 : Value) (way : List Int) (ps : Prs) (F G : Nat → Prop) (w : World) (h1 : RB w F v1 way) (hw : ¬ 10 < way.length) (h0 : RP w G v2 ps) (hg : SameP.great ps 20 20 = true) :
    Calls Try.prog 8 #[.int .i64 n, v1, v2] w fun e w' => e = .returned (.bool true) ∧ Ext w w' := by
  have hgr := SameP.great_any w G _ ps 20 20 h0 (by decide) (by decide) (by decide) (by decide)
  obtain ⟨a1, c1, rfl, l1, l2, _⟩ := h1.shape
  obtain ⟨a0, c0, rfl, l4, l5, _⟩ := h0.shape
  have w10 : decide ((10 : Int) < (way.length : Int)) = false := by simp; omega
  rw [hg] at hgr
  have Hgr := Lib.hid hgr
  clear hgr
  have Hg := Lib.hid hg
  clear hg
  go_enter Try.func8, Try.ntmps8
  go_wp2_with (fail)
  refine Hgr.out.mono ?_
  rintro e w' ⟨rfl, rfl⟩
  go_wp2_with (fail)
  refine (TreeW.awake_any _).mono ?_
  rintro e w' ⟨rfl, ht⟩
  go_wp2_with (fail)
  go_ret
  exact ⟨rfl, ht⟩

set_option maxRecDepth 100000 in
theorem lifted (os : Os) (started : os.Started) (H : Type) (enc : TypeId × Value → H) :
    ReturnsInHanded {} Try.checked os 8 .any (Rows.ternBalancedSpec.pre6 enc Try.prog Try.f8 Rows.ternBalancedRow.domain false) (Rows.ternBalancedSpec.post enc Try.prog Try.f8 false true false false) := by
  refine returnsInHanded_of_change (C := Try.checked) Try.own started (by kernel_rfl) Try.func8
    (ChangeSpec.witness6 (enc := enc) (C := Try.checked) false ⟨#[], #[.int .i64 0, .slice none 0 0, .slice none 0 0], []⟩ 8 (by kernel_rfl) (by kernel_rfl) (by kernel_rfl) (by kernel_rfl)) ?_
  intro W base args ds gs before hval0 hW hcnd _
  have hval : ∀ (j : Nat) t v, Try.f8.params[j]? = some t → args[j]? = some v → Value.okWide Try.prog W .any base t v := hval0
  have hW' := hW
  obtain ⟨p, q, hA0, hV, rfl, hfz, hnd⟩ := hW
  have hA : DataW.TrodAll enc Try.prog W 0 (fun _ => true) true Try.f8.params.toList args.toList ds p := hA0
  rw [Try.params8] at hA hval
  obtain ⟨v0, v1, v2, d0, d1, d2, p0, p1, p2, rfl, rfl, rfl, h0, h1, h2⟩ := trodAll_three hA
  obtain ⟨rfl, rfl⟩ := trodVars_none hV
  refine Calls.mono (R := fun e w' => e = .returned (.bool true) ∧ Touch (fun _ => False) W w') ?_ fun e W' ⟨he, hw⟩ => (by subst he; exact ⟨_, rfl, law_post Try.laidOut (by kernel_rfl) rfl Try.underlying4 rfl rfl ⟨rfl, rfl, rfl⟩ hW' (hw.below fun _ h _ => h)⟩)
  obtain ⟨n0, rfl, rfl, rfl, hV0⟩ := open_int Try.underlying3 (hval 0 3 v0 rfl rfl) h0
  obtain ⟨way, hway, kway⟩ := rb_of_arg (hval 1 23 v1 rfl rfl) h1
  obtain ⟨ps, hps, hpp⟩ := rp_of_arg (hval 2 22 v2 rfl rfl) h2
  by_cases hw : 10 < way.length
  · exact walk_far n0 v1 v2 way _ W hway hw
  by_cases hg : SameP.great ps 20 20 = true
  · exact walk_great n0 v1 v2 way ps _ _ W hway hw hps hg
  · have hg : SameP.great ps 20 20 = false := by simpa using hg
    have hgn := great_not (most := 20) (long := 20) hg
    exact walk_small n0 v1 v2 way ps W hway kway hps (fun p hp => ⟨(hpp p hp).1, by have := hgn.2 p hp; omega⟩) (v64_wf hV0) (by omega) hg hgn.1 hgn.2
theorem ternBalanced_holds : Rows.TernBalancedSaid :=
  OpenClaim.holds_of_wide 8 Try.f8 rfl rfl rfl rfl rfl rfl rfl ⟨rfl, rfl, rfl, rfl, rfl⟩ rfl rfl rfl rfl rfl (by kernel_rfl) Try.func8 (by kernel_rfl)
    (of_decide_eq_true (by kernel_rfl)) (by unfold Func.isWrapper; first | (rw [if_pos (by decide +kernel)]; kernel_rfl) | (rw [if_neg (by decide +kernel)]; exact ⟨rfl, rfl⟩))
    (fun os started H enc _ => lifted os started H enc)
end LawTernBalanced
end Go.Proofs.Ythfnacadabhpdaa
