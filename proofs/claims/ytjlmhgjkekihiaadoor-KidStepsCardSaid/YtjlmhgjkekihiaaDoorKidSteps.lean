/- The statement KidSteps: from each child to the next one all are met, rising; the last is found from above. Conditions: none beyond the card's own; the two tables are tied to the program's text. -/
import Derived.Test.YtjlmhgjkekihiaaDoorKidBands
namespace Go.Proofs.YtjlmhgjkekihiaaDoor
open Go.ChangeShapes Go.WideShapes Go.ChangeAt Go.RowKit
set_option linter.unusedVariables false
set_option linter.unusedSimpArgs false
namespace LawKidSteps
open MaskA MaskP KidA KidB KidW LawKidBands

/-! ### plain laws -/
theorem scan_top (f : Nat → Bool) (k : Nat) (h0 : k = 0 ∨ f (k - 1) = true) : ∀ d, (∀ j, k ≤ j → j < k + d → f j = false) → scanD f (k + d) = (k : Int) - 1
  | 0, _ => by
    rcases Nat.eq_zero_or_pos k with h | h
    · subst h; rfl
    · obtain ⟨i, rfl⟩ : ∃ i, k = i + 1 := ⟨k - 1, by omega⟩
      have h1 : f i = true := by rcases h0 with h0 | h0 <;> simp_all
      show (if f i then (i : Int) else scanD f i) = _
      rw [if_pos h1]; simp
  | d + 1, h => by
    show (if f (k + d) then ((k + d : Nat) : Int) else scanD f (k + d)) = _
    rw [h (k + d) (by omega) (by omega), if_neg (by simp)]
    exact scan_top f k h0 d fun j h1 h2 => h j h1 (by omega)
theorem cnt_pos (f : Nat → Bool) (k : Nat) (h : f k = true) : 0 < cnt f (k + 1) := by simp [cnt, h]
theorem seth_same {h : Nat → Int} {b : Nat} (hz : h b = 0) : seth h b 0 = h := by
  funext i; unfold seth; split
  · subst_vars; exact hz.symm
  · rfl

/-! ### the array in memory -/
structure Ca (w : World) (p : Nat) (h : Nat → Int) : Prop where
  c : ∀ i : Nat, i < 256 → w.cell? ⟨p, i, none⟩ = some (.int .u32 (h i))
  fr : ∀ i : Nat, i < 256 → w.frozen? ⟨p, i, none⟩ = false
theorem Ca.lt {w : World} {p : Nat} {h : Nat → Int} (k : Ca w p h) : p < w.heap.size := World.block_lt_of_cell? _ _ (k.c 0 (by omega))
theorem Ca.keep {S : Nat → Prop} {w w' : World} {p : Nat} {h : Nat → Int} (k : Ca w p h) (t : Touch S w w') (hn : ¬ S p) : Ca w' p h :=
  ⟨fun i hi => keepc t hn (k.c i hi), fun o ho => keepf (p := ⟨p, o, none⟩) t k.lt hn (k.fr o ho)⟩
theorem ca_new (w : World) (t : Nat) : Ca (w.alloc (.cells (Array.replicate 256 (.int .u32 0)) t)) w.heap.size (fun _ => 0) :=
  ⟨fun i hi => by rw [World.cell?_alloc_new]; simp [hi], fun o _ => World.frozen?_alloc_new _ _ _ _⟩
theorem Ca.set {w : World} {p : Nat} {h : Nat → Int} (k : Ca w p h) (b : Nat) (hb : b < 256) (x : Int) : Ca (w.setCell ⟨p, b, none⟩ (.int .u32 x)) p (seth h b x) := by
  refine ⟨fun i hi => ?_, fun i hi => by simp only [World.frozen?_setCell]; exact k.fr i hi⟩
  by_cases e : i = b
  · subst e
    rw [World.cell?_setCell_same _ _ _ (k.c i hi)]
    simp [seth]
  · rw [World.cell?_setCell_other _ _ _ _ (fun h => e (congrArg Addr.off h).symm), k.c i hi]
    simp [seth, e]

/-! ### put and drop, whatever the kind -/
def KP (w : World) (g : Nat) (h' : Nat → Int) (e : Ending) (w' : World) : Prop := e = .returned (.int .i64 0) ∧ (∃ kd : Nat, kd < 4 ∧ Kn w' g kd h') ∧ Touch (fun b => b = g) w w'
theorem put_all {w : World} {g : Nat} {h : Nat → Int} (hkn : ∃ kd : Nat, kd < 4 ∧ Kn w g kd h) (htb : Tb w) (hg : g ≠ 0 ∧ g ≠ 1) (b : Nat) (hb : b < 256) (x : Int) (hx : x ≠ 0) :
    Calls Tryd.prog 9 #[.pointer (some ⟨g, 0, none⟩), .int .u8 b, .int .u32 x] w (KP w g (seth h b x)) := by
  obtain ⟨kd, hk, hkn⟩ := hkn
  refine (put_any kd hkn hk htb hg b hb x hx).mono ?_
  rintro e w' ⟨h1, h2, h3⟩
  exact ⟨h1, ⟨_, up_lt hk (cnt_le _ _), h2⟩, h3⟩
def KD (w : World) (g : Nat) (h' : Nat → Int) (e : Ending) (w' : World) : Prop := ∃ (y : Int) (ok : Bool), e = .returned (.tuple #[.int .u32 y, .bool ok]) ∧ (∃ kd : Nat, kd < 4 ∧ Kn w' g kd h') ∧ Touch (fun b => b = g) w w'
theorem drop_all {w : World} {g : Nat} {h : Nat → Int} (hkn : ∃ kd : Nat, kd < 4 ∧ Kn w g kd h) (htb : Tb w) (hg : g ≠ 0 ∧ g ≠ 1) (b : Nat) (hb : b < 256) :
    Calls Tryd.prog 12 #[.pointer (some ⟨g, 0, none⟩), .int .u8 b] w (KD w g (seth h b 0)) := by
  obtain ⟨kd, hk, hkn⟩ := hkn
  by_cases hz : h b = 0
  · refine (drop_not kd hkn b hb hz).mono ?_
    rintro e w' ⟨h1, h3⟩
    exact ⟨_, _, h1, ⟨_, hk, by rw [seth_same hz]; exact hkn.ext h3⟩, h3.none_to⟩
  · refine (drop_any kd hkn hk htb hg b hb hz).mono ?_
    rintro e w' ⟨h1, h2, h3⟩
    exact ⟨_, _, h1, ⟨_, dn_lt hk, h2⟩, h3⟩
theorem kn_any {w : World} {g : Nat} {h : Nat → Int} {S : Nat → Prop} {w' : World} (hkn : ∃ kd : Nat, kd < 4 ∧ Kn w g kd h) (t : Touch S w w') (hn : ¬ S g) : ∃ kd : Nat, kd < 4 ∧ Kn w' g kd h := by
  obtain ⟨kd, hk, hkn⟩ := hkn
  exact ⟨kd, hk, hkn.keep t hn⟩
theorem bool_reads {r : Reach} {W : World} {base : Nat} {H : Type} {enc : TypeId × Value → H} {v : Value} {d : DataW H} {ps : List MemPlace} (hv : Value.okWide Tryd.prog W r base 37 v) (h : DataW.Trod enc Tryd.prog W 0 (fun _ => true) true 37 v d ps) :
    ∃ ys : List Bool, Reads W v (ys.map Value.bool) := by
  obtain ⟨a, len, cap, rfl, hl, hm, hn, hb, hc⟩ := open_list Tryd.underlying37 rfl hv h
  have hc' : ∀ k, k < len → ∃ (x : Bool), ∃ b off, a = some ⟨b, off, none⟩ ∧ W.cell? ⟨b, off + k, none⟩ = some (.bool x) := by
    intro k hk
    obtain ⟨b, off, h1, h2, c, y, n, h3, h4⟩ := hc k hk
    obtain ⟨x, e1, _⟩ := DataW.trod_bool Tryd.underlying4 h4
    simp only [List.cons.injEq, and_true] at e1
    subst e1
    exact ⟨x, b, off, h1, h3⟩
  obtain ⟨f, hf⟩ := Deep.choose_lt (n := len) (p := fun k x => ∃ b off, a = some ⟨b, off, none⟩ ∧ W.cell? ⟨b, off + k, none⟩ = some (.bool x)) hc'
  refine ⟨(List.range len).map f, a, cap, by simp, by simpa using hl, hm, fun k hk => ?_⟩
  have hk' : k < len := by simpa using hk
  obtain ⟨b, off, h1, h3⟩ := hf k hk'
  exact ⟨b, off, h1, World.block_lt_of_cell? _ _ h3, by simpa using h3⟩

set_option maxRecDepth 100000 in
set_option maxHeartbeats 3200000 in
theorem walk (v0 v1 : Value) (xs : List Int) (ys : List Bool) (w : World) (htb : Tb w) (hr0 : Reads w v0 (ivs .u8 xs)) (hr1 : Reads w v1 (ys.map Value.bool)) (hx : ∀ x ∈ xs, (Lit.int .u8 x).wf = true) :
    Calls Tryd.prog 5 #[v0, v1] w fun e w' => e = .returned (.bool true) ∧ Ext w w' := by
  obtain ⟨a0, c0, rfl, hl0, hm0⟩ := hr0.shape
  obtain ⟨a1, c1, rfl, hl1, hm1⟩ := hr1.shape
  have hln0 : (ivs .u8 xs).length = xs.length := by simp [ivs]
  have hln1 : (ys.map Value.bool).length = ys.length := by simp
  rw [hln0] at hl0
  rw [hln1] at hl1
  rw [hln0, hln1]
  obtain ⟨n, hn⟩ : ∃ n, n = xs.length := ⟨_, rfl⟩
  obtain ⟨m, hm⟩ : ∃ m, m = ys.length := ⟨_, rfl⟩
  rw [← hn] at hl0 ⊢
  rw [← hm] at hl1 ⊢
  have hcl0 : ∀ j, j < n → ∃ b off, a0 = some (⟨b, off, none⟩ : Addr) ∧ ∃ x : Nat, x < 256 ∧ w.cell? ⟨b, off + j, none⟩ = some (.int .u8 x) := by
    intro j hj
    obtain ⟨b, off, rfl⟩ := hr0.addr (by rw [hln0]; omega)
    have hc := hr0.cell j (by rw [hln0]; omega)
    have hxx := hx (xs[j]'(by omega)) (List.getElem_mem _)
    have hV := u8_wf hxx
    refine ⟨b, off, rfl, (xs[j]'(by omega)).toNat, by omega, ?_⟩
    rw [hc]; simp [ivs]; omega
  have hcl1 : ∀ j, j < m → ∃ b off, a1 = some (⟨b, off, none⟩ : Addr) ∧ ∃ x : Bool, w.cell? ⟨b, off + j, none⟩ = some (.bool x) := by
    intro j hj
    obtain ⟨b, off, rfl⟩ := hr1.addr (by rw [hln1]; omega)
    have hc := hr1.cell j (by rw [hln1]; omega)
    exact ⟨b, off, rfl, ys[j]'(by omega), by rw [hc]; simp⟩
  clear hr0 hr1 hx hln0 hln1
  have haw := fun W (x : Ext w W) => awake_any W (htb.ext x)
  have hnw := KidA.new_any w
  unfold KNew at hnw
  have hlt := tb_lt htb
  obtain ⟨g, hg⟩ : ∃ g, g = w.heap.size := ⟨_, rfl⟩
  rw [← hg] at hnw
  have hgg : g ≠ 0 ∧ g ≠ 1 := by omega
  have hgw : w.heap.size ≤ g := by omega
  unfold maxLen at hm0
  by_cases hnm : n ≤ 256 ∧ m ≤ 256
  rotate_left
  · have d1 : (256 < n) ∨ (¬ 256 < n ∧ 256 < m) := by omega
    have Hnw := Lib.hid hnw
    clear hnw
    have Htb := Lib.hid htb
    clear htb
    have Hg := Lib.hid hg
    clear hg
    have Haw := Lib.hid haw
    clear haw
    have Hnm := Lib.hid hnm
    clear hnm
    have Hcl0 := Lib.hid hcl0
    clear hcl0
    have Hcl1 := Lib.hid hcl1
    clear hcl1
    have Hn := Lib.hid hn
    clear hn
    have Hm := Lib.hid hm
    clear hm
    rcases d1 with d1 | ⟨d1, d2⟩
    · have e1 : (256 : Int) < (n : Int) := by omega
      go_enter Tryd.func5, Tryd.ntmps5
      go_wp2_with (fail)
      (with_reducible refine (Haw.out _ (Touch.refl _ _)).mono ?_)
      rintro e w3 ⟨rfl, x3⟩
      go_wp2_with (fail)
      go_ret
      exact ⟨rfl, x3⟩
    · have e1 : ¬ (256 : Int) < (n : Int) := by omega
      have e2 : (256 : Int) < (m : Int) := by omega
      go_enter Tryd.func5, Tryd.ntmps5
      go_wp2_with (fail)
      (with_reducible refine (Haw.out _ (Touch.refl _ _)).mono ?_)
      rintro e w3 ⟨rfl, x3⟩
      go_wp2_with (fail)
      go_ret
      exact ⟨rfl, x3⟩
  have hn256 := hnm.1
  have hm256 := hnm.2
  have e1 : ¬ (256 : Int) < (n : Int) := by omega
  have e2 : ¬ (256 : Int) < (m : Int) := by omega
  have e3 : ¬ 256 < n := by omega
  have e4 : ¬ 256 < m := by omega
  have Hnw := Lib.hid hnw
  clear hnw
  have Htb := Lib.hid htb
  clear htb
  have Hg := Lib.hid hg
  clear hg
  have Haw := Lib.hid haw
  clear haw
  have Hnm := Lib.hid hnm
  clear hnm
  have Hcl0 := Lib.hid hcl0
  clear hcl0
  have Hcl1 := Lib.hid hcl1
  clear hcl1
  have Hn := Lib.hid hn
  clear hn
  have Hm := Lib.hid hm
  clear hm
  go_enter Tryd.func5, Tryd.ntmps5
  have hzv : ∀ W, Sem.run Tryd.prog (zeroValue 38) W = .ok (.agg (Array.replicate 256 (.int .u32 0))) W := fun _ => by kernel_rfl
  go_wp2_with (fail)
  (with_reducible refine Hnw.out.mono ?_)
  rintro e w1 ⟨rfl, hk0, t1⟩
  have hca0 := ca_new w1 38
  have hka0 := kn_any (S := fun _ => False) ⟨0, by omega, hk0⟩ ((Touch.refl _ w1).alloc (.cells (Array.replicate 256 (.int .u32 0)) 38)) id
  have tt0 : Ext w (w1.alloc (.cells (Array.replicate 256 (.int .u32 0)) 38)) := t1.alloc _
  have hgl := hk0.lt
  obtain ⟨p, hp⟩ : ∃ p, p = w1.heap.size := ⟨_, rfl⟩
  have hgp : g ≠ p := by omega
  have hs1 := t1.size
  have hpw : w.heap.size ≤ p := by omega
  have hpp : p ≠ 0 ∧ p ≠ 1 := by omega
  rw [← hp] at hca0
  clear hk0 t1 hs1 hgl Hnw
  have Hca0 := Lib.hid hca0
  clear hca0
  have Hka0 := Lib.hid hka0
  clear hka0
  have Tt0 := Lib.hid tt0
  clear tt0
  go_wp2_with (fail)
  rw [← hp]
  generalize w1.alloc (.cells (Array.replicate 256 (.int .u32 0)) 38) = w2 at *
  clear hzv hp
  go_loopw [7] (fun s7 wr => ∃ j : Nat, j ≤ n ∧ s7 = .int .i64 j ∧ ∃ h : Nat → Int, (∃ kd : Nat, kd < 4 ∧ Kn wr g kd h) ∧ Ca wr p h ∧ Ext w wr) (fun s7 _ => n - (intOf s7).toNat)
  case atStart => exact ⟨0, by omega, rfl, _, Hka0.out, Hca0.out, Tt0.out⟩
  case round =>
    obtain ⟨j, hj, rfl, h, hka, hca, ht⟩ := hrel
    clear Hka0 Hca0 Tt0
    by_cases hjn : j < n
    · obtain ⟨b0, o0, rfl, b, hb, hcb⟩ := Hcl0.out j hjn
      have hcb0 := keepc ht id hcb
      have jn : (j : Int) < (n : Int) := by omega
      have j32 : ((j : Int) + 1) % 4294967296 = (j : Int) + 1 := by omega
      have hpa := put_all (w := wr) hka (Htb.out.ext ht) hgg b hb ((j : Int) + 1) (by omega)
      have hbb : b0 < wr.heap.size := World.block_lt_of_cell? _ ⟨b0, _, none⟩ hcb0
      have hbg : w.heap.size > b0 := World.block_lt_of_cell? _ ⟨b0, _, none⟩ hcb
      have hnbg : ¬ b0 = g := by omega
      unfold KP at hpa
      obtain ⟨wa, rfl⟩ : ∃ wa, wa = wr := ⟨_, rfl⟩
      have Hka := Lib.hid hka
      clear hka
      have Hca := Lib.hid hca
      clear hca
      have Ht := Lib.hid ht
      clear ht
      have Hpa := Lib.hid hpa
      clear hpa
      have Hcb := Lib.hid hcb
      clear hcb
      have Hbg := Lib.hid hbg
      clear hbg
      go_wp2_with (fail)
      (with_reducible refine Hpa.out.mono ?_)
      rintro e w4 ⟨rfl, hka4, t4⟩
      have hca4 := Hca.out.keep t4 (fun h => hgp h.symm)
      have hcb4 := keepc t4 hnbg hcb0
      have hcp := hca4.c b hb
      have hfp := hca4.fr b hb
      have hca5 := hca4.set b hb ((j : Int) + 1)
      clear hcb0
      have x4 : Ext w w4 := Ht.out.ext_new t4 (fun i hi => by omega)
      have t5 : Ext w (w4.setCell ⟨p, b, none⟩ (.int .u32 ((j : Int) + 1))) := x4.setCell (Or.inr hpw) _
      have hka5 := kn_any hka4 ((Touch.refl (fun b => b = p) w4).setCell (p := ⟨p, b, none⟩) (Or.inl rfl) (.int .u32 ((j : Int) + 1))) hgp
      have Hka4 := Lib.hid hka4
      clear hka4
      have T4 := Lib.hid t4
      clear t4
      have Hca4 := Lib.hid hca4
      clear hca4
      have Hca5 := Lib.hid hca5
      clear hca5
      have X4 := Lib.hid x4
      clear x4
      have T5 := Lib.hid t5
      clear t5
      have Hka5 := Lib.hid hka5
      clear hka5
      go_wp2_with (fail)
      go_roundw
      case rel => exact ⟨j + 1, by omega, by go_num, _, Hka5.out, Hca5.out, T5.out⟩
      case measure => simp [intOf]; omega
    · obtain rfl : n = j := by omega
      have jn : ¬ (n : Int) < (n : Int) := by omega
      obtain ⟨wa, rfl⟩ : ∃ wa, wa = wr := ⟨_, rfl⟩
      clear hjn hj
      have Hka := Lib.hid hka
      clear hka
      have Hca := Lib.hid hca
      clear hca
      have Ht := Lib.hid ht
      clear ht
      go_wp2_with (fail)
      clear jn
      go_loopw [8] (fun s8 wr => ∃ j : Nat, j ≤ n ∧ s8 = .int .i64 j ∧ ∃ q : Nat → Int, (∃ kd : Nat, kd < 4 ∧ Kn wr g kd q) ∧ Ca wr p q ∧ Ext w wr) (fun s8 _ => n - (intOf s8).toNat)
      case atStart => exact ⟨0, by omega, rfl, _, Hka.out, Hca.out, Ht.out⟩
      case round =>
        obtain ⟨j, hj, rfl, q, hka, hca, ht⟩ := hrel
        clear Hka Hca Ht
        by_cases hjn : j < n
        · have jn : (j : Int) < (n : Int) := by omega
          by_cases hjm : j < m
          · have jm : (j : Int) < (m : Int) := by omega
            obtain ⟨b1, o1, rfl, x, hcx⟩ := Hcl1.out j hjm
            have hcx0 := keepc ht id hcx
            cases x
            · obtain ⟨wb, rfl⟩ : ∃ wb, wb = wr := ⟨_, rfl⟩
              have Hka := Lib.hid hka
              clear hka
              have Hca := Lib.hid hca
              clear hca
              have Ht := Lib.hid ht
              clear ht
              have Hcx := Lib.hid hcx
              clear hcx
              go_wp2_with (fail)
              go_roundw
              case rel => exact ⟨j + 1, by omega, by go_num, _, Hka.out, Hca.out, Ht.out⟩
              case measure => simp [intOf]; omega
            · obtain ⟨b0, o0, rfl, b, hb, hcb⟩ := Hcl0.out j hjn
              have hcb0 := keepc ht id hcb
              have hpa := drop_all (w := wr) hka (Htb.out.ext ht) hgg b hb
              have hbg : w.heap.size > b0 := World.block_lt_of_cell? _ ⟨b0, _, none⟩ hcb
              have hnbg : ¬ b0 = g := by omega
              unfold KD at hpa
              obtain ⟨wb, rfl⟩ : ∃ wb, wb = wr := ⟨_, rfl⟩
              have Hka := Lib.hid hka
              clear hka
              have Hca := Lib.hid hca
              clear hca
              have Ht := Lib.hid ht
              clear ht
              have Hpa := Lib.hid hpa
              clear hpa
              have Hcb := Lib.hid hcb
              clear hcb
              have Hbg := Lib.hid hbg
              clear hbg
              have Hcx := Lib.hid hcx
              clear hcx
              go_wp2_with (fail)
              (with_reducible refine Hpa.out.mono ?_)
              rintro e w4 ⟨y, ok, rfl, hka4, t4⟩
              have hca4 := Hca.out.keep t4 (fun h => hgp h.symm)
              have hcb4 := keepc t4 hnbg hcb0
              have hcp := hca4.c b hb
              have hfp := hca4.fr b hb
              have hca5 := hca4.set b hb 0
              clear hcb0 hcx0
              have x4 : Ext w w4 := Ht.out.ext_new t4 (fun i hi => by omega)
              have t5 : Ext w (w4.setCell ⟨p, b, none⟩ (.int .u32 0)) := x4.setCell (Or.inr hpw) _
              have hka5 := kn_any hka4 ((Touch.refl (fun b => b = p) w4).setCell (p := ⟨p, b, none⟩) (Or.inl rfl) (.int .u32 0)) hgp
              have Hka4 := Lib.hid hka4
              clear hka4
              have T4 := Lib.hid t4
              clear t4
              have Hca4 := Lib.hid hca4
              clear hca4
              have Hca5 := Lib.hid hca5
              clear hca5
              have X4 := Lib.hid x4
              clear x4
              have T5 := Lib.hid t5
              clear t5
              have Hka5 := Lib.hid hka5
              clear hka5
              go_wp2_with (fail)
              go_roundw
              case rel => exact ⟨j + 1, by omega, by go_num, _, Hka5.out, Hca5.out, T5.out⟩
              case measure => simp [intOf]; omega
          · have jm : ¬ (j : Int) < (m : Int) := by omega
            obtain ⟨wb, rfl⟩ : ∃ wb, wb = wr := ⟨_, rfl⟩
            obtain ⟨kd, hkd, hkn⟩ := hka
            have hp255 : prevF (hs q) 255 = scanD (hs q) 256 := congrArg (scanD _) (by decide : (min (255 : Int) 255 + 1).toNat = 256)
            have hpv := fun W (x : Ext wb W) => prev_any (w := W) _ (hkn.ext x) 255 (by unfold V64; omega)
            rw [hp255] at hpv
            have hln := fun W (x : Ext wb W) => len_any (w := W) _ (hkn.ext x)
            have Hca := Lib.hid hca
            clear hca
            have Ht := Lib.hid ht
            clear ht
            have Hkn := Lib.hid hkn
            clear hkn
            have Hp255 := Lib.hid hp255
            clear hp255
            have Hpv := Lib.hid hpv
            clear hpv
            have Hln := Lib.hid hln
            clear hln
            go_wp2_with (fail)
            go_loopw [9, 10, 11] (fun s9 s10 s11 wr => ∃ k : Nat, k ≤ 256 ∧ s9 = .int .i64 (cnt (hs q) k : Nat) ∧ s10 = .int .i64 ((k : Int) - 1) ∧ s11 = .int .i64 (cnt (hs q) k : Nat) ∧ (k = 0 ∨ hs q (k - 1) = true) ∧ Ext wb wr) (fun s9 s10 s11 _ => (256 - intOf s10).toNat)
            case atStart => exact ⟨0, by omega, rfl, rfl, rfl, Or.inl rfl, Touch.refl _ _⟩
            case round =>
              obtain ⟨k, hk, rfl, rfl, rfl, hk0, hx⟩ := hrel
              have hck := cnt_le (hs q) k
              have hc7 : ((cnt (hs q) k : Nat) : Int) < 257 := by omega
              obtain ⟨L, hL⟩ : ∃ L, L = (k : Int) - 1 := ⟨_, rfl⟩
              rw [← hL]
              have hL1 : L + 1 = (k : Int) := by omega
              have hLr : -1 ≤ L ∧ L ≤ 255 := by omega
              obtain ⟨wc, rfl⟩ : ∃ wc, wc = wr := ⟨_, rfl⟩
              have hkc := Hkn.out.ext hx
              rcases next_cases (hs q) hk with ⟨h1, h2⟩ | ⟨i, h1, h2, h3, h4, h5⟩
              · have hn1 : Calls Tryd.prog 17 #[.pointer (some ⟨g, 0, none⟩), .int .i64 (L + 1)] wc fun e w' => e = .returned (.tuple #[.int .i64 (-1), .int .u32 0]) ∧ Ext wc w' := by
                  rw [hL1]
                  have hh := next_any _ hkc (k : Int) (by unfold V64; omega)
                  rw [h1] at hh
                  exact hh
                obtain ⟨d, hd⟩ : ∃ d, 256 = k + d := ⟨256 - k, by omega⟩
                have hsc := scan_top (hs q) k hk0 d (fun j h6 h7 => h2 j h6 (by omega))
                have hct := (allF_gap (hs q) k d (fun j h6 h7 => h2 j h6 (by omega))).2
                rw [← hd] at hsc hct
                rw [← hL] at hsc
                rw [← hct]
                rw [← hct] at hc7 hck
                rw [hsc] at Hpv
                have hM : (k = 0 ∧ cnt (hs q) 256 = 0) ∨ (0 < k ∧ 0 < cnt (hs q) 256) := by
                  rcases hk0 with hk0 | hk0
                  · exact Or.inl ⟨hk0, by rw [hct, hk0]; rfl⟩
                  · rcases Nat.eq_zero_or_pos k with h | h
                    · exact Or.inl ⟨h, by rw [hct, h]; rfl⟩
                    · refine Or.inr ⟨h, ?_⟩
                      rw [hct, show k = (k - 1) + 1 by omega]
                      exact cnt_pos _ _ hk0
                clear h1 h2 hd hk0
                generalize hMM : cnt (hs q) 256 = M at *
                have Hn1 := Lib.hid hn1
                clear hn1
                have Hx := Lib.hid hx
                clear hx
                have HL := Lib.hid hL
                clear hL
                have HL1 := Lib.hid hL1
                clear hL1
                have Hkc := Lib.hid hkc
                clear hkc
                have Hct := Lib.hid hct
                clear hct
                have HM := Lib.hid hM
                clear hM
                have Hsc := Lib.hid hsc
                clear hsc
                have HMM := Lib.hid hMM
                clear hMM
                have Hck := Lib.hid hck
                clear hck
                go_wp2_with (fail)
                (with_reducible refine Hn1.out.mono ?_)
                rintro e w3 ⟨rfl, x3⟩
                have hx3 := Hx.out.trans' x3
                have hca3 := Hca.out.keep hx3 id
                have X3 := Lib.hid x3
                clear x3
                have Hx3 := Lib.hid hx3
                clear hx3
                have Hca3 := Lib.hid hca3
                clear hca3
                go_wp2_with (fail)
                go_loopw [14, 15] (fun s14 s15 wr => ∃ t : Nat, t ≤ 256 ∧ s14 = .int .i64 (cnt (hs q) t : Nat) ∧ s15 = .int .i64 (t : Nat) ∧ w3 = wr) (fun s14 s15 _ => 256 - (intOf s15).toNat)
                case atStart => exact ⟨0, by omega, rfl, rfl, rfl⟩
                case round =>
                  obtain ⟨t, ht, rfl, rfl, rfl⟩ := hrel
                  have hct := cnt_le (hs q) t
                  by_cases htt : t < 256
                  · have t256 : (t : Int) < 256 := by omega
                    have hcc := Hca3.out.c t htt
                    by_cases hz : q t = 0
                    · have hcs : cnt (hs q) (t + 1) = cnt (hs q) t := by simp [cnt, hs, hz]
                      rw [hz] at hcc
                      generalize hcv : cnt (hs q) t = c at *
                      have Hcs := Lib.hid hcs
                      clear hcs
                      have Hcv := Lib.hid hcv
                      clear hcv
                      have Hz := Lib.hid hz
                      clear hz
                      go_wp2_with (fail)
                      go_roundw
                      case rel => exact ⟨t + 1, by omega, by rw [Hcs.out], by go_num, trivial⟩
                      case measure => simp [intOf]; omega
                    · have hcs : cnt (hs q) (t + 1) = cnt (hs q) t + 1 := by simp [cnt, hs, hz]
                      generalize hcv : cnt (hs q) t = c at *
                      generalize hzv : q t = z at *
                      have Hcs := Lib.hid hcs
                      clear hcs
                      have Hcv := Lib.hid hcv
                      clear hcv
                      have Hzv := Lib.hid hzv
                      clear hzv
                      go_wp2_with (fail)
                      go_roundw
                      case rel => exact ⟨t + 1, by omega, by rw [Hcs.out]; go_num, by go_num, trivial⟩
                      case measure => simp [intOf]; omega
                  · obtain rfl : t = 256 := by omega
                    have hpl := Hpv.out w3 Hx3.out
                    have hl3 := Hln.out
                    rw [HMM.out]
                    have htn := Ht.out
                    clear htt ht hct
                    rcases HM.out with ⟨hk0, hM0⟩ | ⟨hk0, hM0⟩
                    · obtain rfl : L = -1 := by have := HL.out; omega
                      subst hM0
                      have Hpl := Lib.hid hpl
                      clear hpl
                      have Hl3 := Lib.hid hl3
                      clear hl3
                      have Htn := Lib.hid htn
                      clear htn
                      go_wp2_with (fail)
                      (with_reducible refine Hpl.out.mono ?_)
                      rintro e w5 ⟨rfl, x5⟩
                      have hx5 := Hx3.out.trans' x5
                      go_wp2_with (fail)
                      (with_reducible refine (Hl3.out _ hx5).mono ?_)
                      rintro e w6 ⟨rfl, x6⟩
                      have hx6 := Htn.out.trans' (hx5.trans' x6)
                      have X5 := Lib.hid x5
                      clear x5
                      have X6 := Lib.hid x6
                      clear x6
                      have Hx5 := Lib.hid hx5
                      clear hx5
                      have Hx6 := Lib.hid hx6
                      clear hx6
                      go_wp2_with (fail)
                      (with_reducible refine (Haw.out _ Hx6.out).mono ?_)
                      rintro e w7 ⟨rfl, x7⟩
                      go_wp2_with (fail)
                      go_ret
                      exact ⟨rfl, Hx6.out.trans' x7⟩
                    · obtain ⟨l, rfl⟩ : ∃ l, k = l + 1 := ⟨k - 1, by omega⟩
                      obtain rfl : L = (l : Int) := by have := HL.out; omega
                      have hon : oneI q (l : Int) = q l := by unfold oneI; rw [if_neg (by omega), Int.toNat_natCast]
                      rw [hon] at hpl
                      have hl256 : l < 256 := by omega
                      have hlM : (0 : Int) < (M : Int) := by omega
                      have hlM0 : ¬ (M : Int) = 0 := by omega
                      have hM00 : ¬ M = 0 := by omega
                      have Hpl := Lib.hid hpl
                      clear hpl
                      have Hl3 := Lib.hid hl3
                      clear hl3
                      have Htn := Lib.hid htn
                      clear htn
                      have Hon := Lib.hid hon
                      clear hon
                      go_wp2_with (fail)
                      (with_reducible refine Hpl.out.mono ?_)
                      rintro e w5 ⟨rfl, x5⟩
                      have hx5 := Hx3.out.trans' x5
                      have X5 := Lib.hid x5
                      clear x5
                      go_wp2_with (fail)
                      (with_reducible refine (Hl3.out _ hx5).mono ?_)
                      rintro e w6 ⟨rfl, x6⟩
                      have hx6 := Htn.out.trans' (hx5.trans' x6)
                      have hcl := (Hca3.out.keep X5.out id).keep x6 id |>.c l hl256
                      have hcl5 := (Hca3.out.keep X5.out id).c l hl256
                      have X6 := Lib.hid x6
                      clear x6
                      have Hx5 := Lib.hid hx5
                      clear hx5
                      have Hx6 := Lib.hid hx6
                      clear hx6
                      go_wp2_with (fail)
                      (with_reducible refine (Haw.out _ Hx6.out).mono ?_)
                      rintro e w7 ⟨rfl, x7⟩
                      go_wp2_with (fail)
                      go_ret
                      exact ⟨rfl, Hx6.out.trans' x7⟩
              · have hone : oneI q (i : Int) = q i := by unfold oneI; rw [if_neg (by omega), Int.toNat_natCast]
                have hn1 : Calls Tryd.prog 17 #[.pointer (some ⟨g, 0, none⟩), .int .i64 (L + 1)] wc fun e w' => e = .returned (.tuple #[.int .i64 (i : Int), .int .u32 (q i)]) ∧ Ext wc w' := by
                  rw [hL1]
                  have hh := next_any _ hkc (k : Int) (by unfold V64; omega)
                  rw [h3, hone] at hh
                  exact hh
                have hcs : cnt (hs q) (i + 1) = cnt (hs q) k + 1 := by
                  have := allF_next (hs q) h1 h4 h5
                  exact this.2
                have hz : ¬ q i = 0 := by intro h; simp [hs, h] at h4
                have hcc := Hca.out.c i h2
                have i1 : ¬ (i : Int) ≤ L := by omega
                have i2 : ¬ (255 : Int) < (i : Int) := by omega
                have i3 : (i : Int) % 256 = (i : Int) := by omega
                have hgt := fun W (x : Ext wb W) => get_any (w := W) _ (Hkn.out.ext x) i h2
                have hi1 : hs q (i + 1 - 1) = true := h4
                clear h3 h4 h5 hone hk0
                generalize hcv : cnt (hs q) k = c at *
                generalize hzv : q i = z at *
                have Hn1 := Lib.hid hn1
                clear hn1
                have Hx := Lib.hid hx
                clear hx
                have HL := Lib.hid hL
                clear hL
                have HL1 := Lib.hid hL1
                clear hL1
                have Hkc := Lib.hid hkc
                clear hkc
                have Hcs := Lib.hid hcs
                clear hcs
                have Hgt := Lib.hid hgt
                clear hgt
                have Hi1 := Lib.hid hi1
                clear hi1
                have Hcc := Lib.hid hcc
                clear hcc
                have Hcv := Lib.hid hcv
                clear hcv
                have Hzv := Lib.hid hzv
                clear hzv
                go_wp2_with (fail)
                (with_reducible refine Hn1.out.mono ?_)
                rintro e w3 ⟨rfl, x3⟩
                have hx3 := Hx.out.trans' x3
                have hc3 := keepc hx3 id Hcc.out
                have X3 := Lib.hid x3
                clear x3
                have Hx3 := Lib.hid hx3
                clear hx3
                go_wp2_with (fail)
                (with_reducible refine (Hgt.out _ Hx3.out).mono ?_)
                rintro e w4 ⟨rfl, rfl⟩
                go_wp2_with (fail)
                go_roundw
                case roundEnd =>
                  refine ⟨⟨i + 1, by omega, by rw [Hcs.out]; go_num, by go_num, by rw [Hcs.out]; go_num, Or.inr Hi1.out, Hx3.out⟩, ?_⟩
                  have := HL.out
                  simp [intOf]; omega
                all_goals (rename_i hbad; exfalso; rcases hbad with (hb | hb) | hb <;> first | omega | exact hz (by simpa using hb))
        · obtain rfl : n = j := by omega
          have jn : ¬ (n : Int) < (n : Int) := by omega
          obtain ⟨wb, rfl⟩ : ∃ wb, wb = wr := ⟨_, rfl⟩
          obtain ⟨kd, hkd, hkn⟩ := hka
          have hp255 : prevF (hs q) 255 = scanD (hs q) 256 := congrArg (scanD _) (by decide : (min (255 : Int) 255 + 1).toNat = 256)
          have hpv := fun W (x : Ext wb W) => prev_any (w := W) _ (hkn.ext x) 255 (by unfold V64; omega)
          rw [hp255] at hpv
          have hln := fun W (x : Ext wb W) => len_any (w := W) _ (hkn.ext x)
          have Hca := Lib.hid hca
          clear hca
          have Ht := Lib.hid ht
          clear ht
          have Hkn := Lib.hid hkn
          clear hkn
          have Hp255 := Lib.hid hp255
          clear hp255
          have Hpv := Lib.hid hpv
          clear hpv
          have Hln := Lib.hid hln
          clear hln
          go_wp2_with (fail)
          go_loopw [9, 10, 11] (fun s9 s10 s11 wr => ∃ k : Nat, k ≤ 256 ∧ s9 = .int .i64 (cnt (hs q) k : Nat) ∧ s10 = .int .i64 ((k : Int) - 1) ∧ s11 = .int .i64 (cnt (hs q) k : Nat) ∧ (k = 0 ∨ hs q (k - 1) = true) ∧ Ext wb wr) (fun s9 s10 s11 _ => (256 - intOf s10).toNat)
          case atStart => exact ⟨0, by omega, rfl, rfl, rfl, Or.inl rfl, Touch.refl _ _⟩
          case round =>
            obtain ⟨k, hk, rfl, rfl, rfl, hk0, hx⟩ := hrel
            have hck := cnt_le (hs q) k
            have hc7 : ((cnt (hs q) k : Nat) : Int) < 257 := by omega
            obtain ⟨L, hL⟩ : ∃ L, L = (k : Int) - 1 := ⟨_, rfl⟩
            rw [← hL]
            have hL1 : L + 1 = (k : Int) := by omega
            have hLr : -1 ≤ L ∧ L ≤ 255 := by omega
            obtain ⟨wc, rfl⟩ : ∃ wc, wc = wr := ⟨_, rfl⟩
            have hkc := Hkn.out.ext hx
            rcases next_cases (hs q) hk with ⟨h1, h2⟩ | ⟨i, h1, h2, h3, h4, h5⟩
            · have hn1 : Calls Tryd.prog 17 #[.pointer (some ⟨g, 0, none⟩), .int .i64 (L + 1)] wc fun e w' => e = .returned (.tuple #[.int .i64 (-1), .int .u32 0]) ∧ Ext wc w' := by
                rw [hL1]
                have hh := next_any _ hkc (k : Int) (by unfold V64; omega)
                rw [h1] at hh
                exact hh
              obtain ⟨d, hd⟩ : ∃ d, 256 = k + d := ⟨256 - k, by omega⟩
              have hsc := scan_top (hs q) k hk0 d (fun j h6 h7 => h2 j h6 (by omega))
              have hct := (allF_gap (hs q) k d (fun j h6 h7 => h2 j h6 (by omega))).2
              rw [← hd] at hsc hct
              rw [← hL] at hsc
              rw [← hct]
              rw [← hct] at hc7 hck
              rw [hsc] at Hpv
              have hM : (k = 0 ∧ cnt (hs q) 256 = 0) ∨ (0 < k ∧ 0 < cnt (hs q) 256) := by
                rcases hk0 with hk0 | hk0
                · exact Or.inl ⟨hk0, by rw [hct, hk0]; rfl⟩
                · rcases Nat.eq_zero_or_pos k with h | h
                  · exact Or.inl ⟨h, by rw [hct, h]; rfl⟩
                  · refine Or.inr ⟨h, ?_⟩
                    rw [hct, show k = (k - 1) + 1 by omega]
                    exact cnt_pos _ _ hk0
              clear h1 h2 hd hk0
              generalize hMM : cnt (hs q) 256 = M at *
              have Hn1 := Lib.hid hn1
              clear hn1
              have Hx := Lib.hid hx
              clear hx
              have HL := Lib.hid hL
              clear hL
              have HL1 := Lib.hid hL1
              clear hL1
              have Hkc := Lib.hid hkc
              clear hkc
              have Hct := Lib.hid hct
              clear hct
              have HM := Lib.hid hM
              clear hM
              have Hsc := Lib.hid hsc
              clear hsc
              have HMM := Lib.hid hMM
              clear hMM
              have Hck := Lib.hid hck
              clear hck
              go_wp2_with (fail)
              (with_reducible refine Hn1.out.mono ?_)
              rintro e w3 ⟨rfl, x3⟩
              have hx3 := Hx.out.trans' x3
              have hca3 := Hca.out.keep hx3 id
              have X3 := Lib.hid x3
              clear x3
              have Hx3 := Lib.hid hx3
              clear hx3
              have Hca3 := Lib.hid hca3
              clear hca3
              go_wp2_with (fail)
              go_loopw [14, 15] (fun s14 s15 wr => ∃ t : Nat, t ≤ 256 ∧ s14 = .int .i64 (cnt (hs q) t : Nat) ∧ s15 = .int .i64 (t : Nat) ∧ w3 = wr) (fun s14 s15 _ => 256 - (intOf s15).toNat)
              case atStart => exact ⟨0, by omega, rfl, rfl, rfl⟩
              case round =>
                obtain ⟨t, ht, rfl, rfl, rfl⟩ := hrel
                have hct := cnt_le (hs q) t
                by_cases htt : t < 256
                · have t256 : (t : Int) < 256 := by omega
                  have hcc := Hca3.out.c t htt
                  by_cases hz : q t = 0
                  · have hcs : cnt (hs q) (t + 1) = cnt (hs q) t := by simp [cnt, hs, hz]
                    rw [hz] at hcc
                    generalize hcv : cnt (hs q) t = c at *
                    have Hcs := Lib.hid hcs
                    clear hcs
                    have Hcv := Lib.hid hcv
                    clear hcv
                    have Hz := Lib.hid hz
                    clear hz
                    go_wp2_with (fail)
                    go_roundw
                    case rel => exact ⟨t + 1, by omega, by rw [Hcs.out], by go_num, trivial⟩
                    case measure => simp [intOf]; omega
                  · have hcs : cnt (hs q) (t + 1) = cnt (hs q) t + 1 := by simp [cnt, hs, hz]
                    generalize hcv : cnt (hs q) t = c at *
                    generalize hzv : q t = z at *
                    have Hcs := Lib.hid hcs
                    clear hcs
                    have Hcv := Lib.hid hcv
                    clear hcv
                    have Hzv := Lib.hid hzv
                    clear hzv
                    go_wp2_with (fail)
                    go_roundw
                    case rel => exact ⟨t + 1, by omega, by rw [Hcs.out]; go_num, by go_num, trivial⟩
                    case measure => simp [intOf]; omega
                · obtain rfl : t = 256 := by omega
                  have hpl := Hpv.out w3 Hx3.out
                  have hl3 := Hln.out
                  rw [HMM.out]
                  have htn := Ht.out
                  clear htt ht hct
                  rcases HM.out with ⟨hk0, hM0⟩ | ⟨hk0, hM0⟩
                  · obtain rfl : L = -1 := by have := HL.out; omega
                    subst hM0
                    have Hpl := Lib.hid hpl
                    clear hpl
                    have Hl3 := Lib.hid hl3
                    clear hl3
                    have Htn := Lib.hid htn
                    clear htn
                    go_wp2_with (fail)
                    (with_reducible refine Hpl.out.mono ?_)
                    rintro e w5 ⟨rfl, x5⟩
                    have hx5 := Hx3.out.trans' x5
                    go_wp2_with (fail)
                    (with_reducible refine (Hl3.out _ hx5).mono ?_)
                    rintro e w6 ⟨rfl, x6⟩
                    have hx6 := Htn.out.trans' (hx5.trans' x6)
                    have X5 := Lib.hid x5
                    clear x5
                    have X6 := Lib.hid x6
                    clear x6
                    have Hx5 := Lib.hid hx5
                    clear hx5
                    have Hx6 := Lib.hid hx6
                    clear hx6
                    go_wp2_with (fail)
                    (with_reducible refine (Haw.out _ Hx6.out).mono ?_)
                    rintro e w7 ⟨rfl, x7⟩
                    go_wp2_with (fail)
                    go_ret
                    exact ⟨rfl, Hx6.out.trans' x7⟩
                  · obtain ⟨l, rfl⟩ : ∃ l, k = l + 1 := ⟨k - 1, by omega⟩
                    obtain rfl : L = (l : Int) := by have := HL.out; omega
                    have hon : oneI q (l : Int) = q l := by unfold oneI; rw [if_neg (by omega), Int.toNat_natCast]
                    rw [hon] at hpl
                    have hl256 : l < 256 := by omega
                    have hlM : (0 : Int) < (M : Int) := by omega
                    have hlM0 : ¬ (M : Int) = 0 := by omega
                    have hM00 : ¬ M = 0 := by omega
                    have Hpl := Lib.hid hpl
                    clear hpl
                    have Hl3 := Lib.hid hl3
                    clear hl3
                    have Htn := Lib.hid htn
                    clear htn
                    have Hon := Lib.hid hon
                    clear hon
                    go_wp2_with (fail)
                    (with_reducible refine Hpl.out.mono ?_)
                    rintro e w5 ⟨rfl, x5⟩
                    have hx5 := Hx3.out.trans' x5
                    have X5 := Lib.hid x5
                    clear x5
                    go_wp2_with (fail)
                    (with_reducible refine (Hl3.out _ hx5).mono ?_)
                    rintro e w6 ⟨rfl, x6⟩
                    have hx6 := Htn.out.trans' (hx5.trans' x6)
                    have hcl := (Hca3.out.keep X5.out id).keep x6 id |>.c l hl256
                    have hcl5 := (Hca3.out.keep X5.out id).c l hl256
                    have X6 := Lib.hid x6
                    clear x6
                    have Hx5 := Lib.hid hx5
                    clear hx5
                    have Hx6 := Lib.hid hx6
                    clear hx6
                    go_wp2_with (fail)
                    (with_reducible refine (Haw.out _ Hx6.out).mono ?_)
                    rintro e w7 ⟨rfl, x7⟩
                    go_wp2_with (fail)
                    go_ret
                    exact ⟨rfl, Hx6.out.trans' x7⟩
            · have hone : oneI q (i : Int) = q i := by unfold oneI; rw [if_neg (by omega), Int.toNat_natCast]
              have hn1 : Calls Tryd.prog 17 #[.pointer (some ⟨g, 0, none⟩), .int .i64 (L + 1)] wc fun e w' => e = .returned (.tuple #[.int .i64 (i : Int), .int .u32 (q i)]) ∧ Ext wc w' := by
                rw [hL1]
                have hh := next_any _ hkc (k : Int) (by unfold V64; omega)
                rw [h3, hone] at hh
                exact hh
              have hcs : cnt (hs q) (i + 1) = cnt (hs q) k + 1 := by
                have := allF_next (hs q) h1 h4 h5
                exact this.2
              have hz : ¬ q i = 0 := by intro h; simp [hs, h] at h4
              have hcc := Hca.out.c i h2
              have i1 : ¬ (i : Int) ≤ L := by omega
              have i2 : ¬ (255 : Int) < (i : Int) := by omega
              have i3 : (i : Int) % 256 = (i : Int) := by omega
              have hgt := fun W (x : Ext wb W) => get_any (w := W) _ (Hkn.out.ext x) i h2
              have hi1 : hs q (i + 1 - 1) = true := h4
              clear h3 h4 h5 hone hk0
              generalize hcv : cnt (hs q) k = c at *
              generalize hzv : q i = z at *
              have Hn1 := Lib.hid hn1
              clear hn1
              have Hx := Lib.hid hx
              clear hx
              have HL := Lib.hid hL
              clear hL
              have HL1 := Lib.hid hL1
              clear hL1
              have Hkc := Lib.hid hkc
              clear hkc
              have Hcs := Lib.hid hcs
              clear hcs
              have Hgt := Lib.hid hgt
              clear hgt
              have Hi1 := Lib.hid hi1
              clear hi1
              have Hcc := Lib.hid hcc
              clear hcc
              have Hcv := Lib.hid hcv
              clear hcv
              have Hzv := Lib.hid hzv
              clear hzv
              go_wp2_with (fail)
              (with_reducible refine Hn1.out.mono ?_)
              rintro e w3 ⟨rfl, x3⟩
              have hx3 := Hx.out.trans' x3
              have hc3 := keepc hx3 id Hcc.out
              have X3 := Lib.hid x3
              clear x3
              have Hx3 := Lib.hid hx3
              clear hx3
              go_wp2_with (fail)
              (with_reducible refine (Hgt.out _ Hx3.out).mono ?_)
              rintro e w4 ⟨rfl, rfl⟩
              go_wp2_with (fail)
              go_roundw
              case roundEnd =>
                refine ⟨⟨i + 1, by omega, by rw [Hcs.out]; go_num, by go_num, by rw [Hcs.out]; go_num, Or.inr Hi1.out, Hx3.out⟩, ?_⟩
                have := HL.out
                simp [intOf]; omega
              all_goals (rename_i hbad; exfalso; rcases hbad with (hb | hb) | hb <;> first | omega | exact hz (by simpa using hb))

set_option maxRecDepth 100000 in
theorem lifted (os : Os) (started : os.Started) (H : Type) (enc : TypeId × Value → H) :
    ReturnsInHanded {} Tryd.checked os 5 .any (fun w args => (Rows.kidStepsSpec.pre enc Tryd.prog Tryd.f5 [] false w args ∧ laidMetH Tryd.prog KidL.laidK w) ∧ sizedMet enc Tryd.prog Tryd.f5 (OpenSpec.ofChange Rows.kidStepsSpec) false w args) (Rows.kidStepsSpec.post enc Tryd.prog Tryd.f5 false true false false) := by
  refine returnsInHanded_of_change_and (C := Tryd.checked) (X := fun w _ => laidMetH Tryd.prog KidL.laidK w) (fun _ _ _ hh h => h.of_heap hh) Tryd.own started (by kernel_rfl) Tryd.func5
    (ChangeSpec.witness_shaped (enc := enc) (C := Tryd.checked) (os := os) (X := fun w _ => laidMetH Tryd.prog KidL.laidK w) false (World.doorLaid Tryd.prog 400 os) #[.slice none 0 0, .slice none 0 0] 8 rfl (World.shaped_of_RefB (by kernel_rfl) (by kernel_rfl)) (by kernel_rfl) (by kernel_rfl) (by kernel_rfl) (KidL.door_met os _)) ?_
  intro W base args ds gs before hval0 hW _ _ hL _
  have hval : ∀ (j : Nat) t v, Tryd.f5.params[j]? = some t → args[j]? = some v → Value.okWide Tryd.prog W .any base t v := hval0
  have hW' := hW
  obtain ⟨p, q, hA0, hV, rfl, hfz, hnd⟩ := hW
  have hA : DataW.TrodAll enc Tryd.prog W 0 (fun _ => true) true Tryd.f5.params.toList args.toList ds p := hA0
  rw [Tryd.params5] at hA hval
  obtain ⟨v0, v1, d0, d1, p0, p1, rfl, rfl, rfl, h0, h1⟩ := trodAll_two hA
  obtain ⟨rfl, rfl⟩ := trodVars_none hV
  have tb := KidL.of_laid hL
  refine Calls.mono (R := fun e w' => e = .returned (.bool true) ∧ Touch (fun _ => False) W w') ?_ fun e W' ⟨he, hw⟩ => (by subst he; exact ⟨_, rfl, law_post Tryd.laidOut (by kernel_rfl) rfl Tryd.underlying4 rfl rfl ⟨rfl, rfl, rfl⟩ hW' (hw.below fun _ h _ => h)⟩)
  obtain ⟨xs, hr0, hx⟩ := reads_ints (κ := .u8) Tryd.underlying31 Tryd.underlying5 rfl (hval 0 31 v0 rfl rfl) h0
  obtain ⟨ys, hr1⟩ := bool_reads (hval 1 37 v1 rfl rfl) h1
  exact walk v0 v1 xs ys W tb hr0 hr1 hx
theorem kidSteps_row : Rows.KidStepsSaid :=
  OpenClaim.holds_of_wide 5 Tryd.f5 rfl rfl rfl rfl rfl rfl rfl ⟨rfl, rfl, rfl, rfl, rfl⟩ rfl rfl rfl rfl rfl (by kernel_rfl) Tryd.func5 (by kernel_rfl)
    (of_decide_eq_true (by kernel_rfl)) (by unfold Func.isWrapper; first | (rw [if_pos (by decide +kernel)]; kernel_rfl) | (rw [if_neg (by decide +kernel)]; exact ⟨rfl, rfl⟩))
    (fun os started H enc _ => lifted os started H enc)
theorem kidSteps_holds : Rows.KidStepsCardSaid :=
  Claim7.holds_tied_plain_at .later [] [.data, .data] true (true, "87a464e409c581a973f1c0aad2f21b76b9b581620a480f47bcfcd5e8305205f3") false
    kidSteps_row (fun _ h => by cases h) (by kernel_rfl) (fun _ h => by cases h) kidSteps_row_tie rfl ⟨rfl, rfl⟩ (by kernel_rfl) rfl
    (fun f fn hf hfn => by
      obtain rfl : f = 5 := Option.some.inj ((show Tryd.prog.funcNamed "bramble/bramblelaw9.KidSteps" = some 5 by kernel_rfl).symm.trans hf) |>.symm
      obtain rfl : fn = Tryd.f5 := (Option.some.inj (Tryd.func5.symm.trans hfn)).symm
      exact ⟨by kernel_rfl, fun j t ht => by
        rw [Tryd.params5] at ht
        have hm : t ∈ [31, 37] := by simpa using Array.mem_of_getElem? ht
        have hall : ([31, 37].all fun u => !Tryd.prog.wantsStandIn u) = true := by kernel_rfl
        exact (show Tryd.prog.wantsStandIn t = false by simpa using List.all_eq_true.1 hall t hm)⟩)
    (by kernel_rfl)
end LawKidSteps
end Go.Proofs.YtjlmhgjkekihiaaDoor
