/- The document reads all cells of a crit-bit tree: it finds its pairs. -/
import Derived.Test.YtmdgmkmddkaadaaCritT
import Derived.Outline
namespace Go.Proofs.Ytmdgmkmddkaadaa
open Go.RowKit
set_option linter.unusedVariables false
set_option linter.unusedSimpArgs false
namespace CritU
open CritT
variable {F G : Nat → Prop}
theorem firstK_eq {ps : Prs} {p} (h : ps[0]? = some p) : firstK ps = p.1 := by
  unfold firstK; cases ps with | nil => simp at h | cons q ps => simp at h; rw [h]; rfl
theorem dd_spec {ps : Prs} {d : Nat} (hd : Parts ps d) (kb : ∀ p ∈ ps, KB p.1) (k : Nat) (x) (hx : ps[k]? = some x) : dI (firstK ps) x.1 = -1 ∨ (d : Int) ≤ dI (firstK ps) x.1 := by
  obtain ⟨p, hp⟩ : ∃ p, ps[0]? = some p := ⟨_, List.getElem?_eq_getElem (by have := (List.getElem?_eq_some_iff.1 hx).1; omega)⟩
  have hbel := hd.below k x hx
  rw [firstK_eq hp] at hbel ⊢
  by_cases he : p.1 = x.1
  · exact Or.inl (dI_none.2 he)
  · obtain ⟨d', h1, _, h2, h3⟩ := dI_spec (kb _ (List.mem_of_getElem? hp)) (kb _ (List.mem_of_getElem? hx)) he
    rw [h1]
    right
    rcases Nat.lt_or_ge d' d with h | h
    · have := hbel d' h; rcases h3 with ⟨_, h4, h5⟩ | ⟨_, h4, h5⟩ <;> omega
    · omega
theorem parts_small {ps : Prs} {d : Nat} (hd : Parts ps d) (hl : ∀ p ∈ ps, p.1.length ≤ 65535) : d ≤ 1000000 := by
  obtain ⟨x, hx⟩ : ∃ x, ps[cutK ps d]? = some x := ⟨_, List.getElem?_eq_getElem hd.lt⟩
  have h1 := hd.bit _ x hx
  have h2 := hl _ (List.mem_of_getElem? hx)
  rw [if_neg (by omega)] at h1
  rcases Nat.lt_or_ge d (9 * x.1.length) with h | h
  · omega
  · rw [bK_far x.1 d h] at h1; omega

set_option maxRecDepth 100000 in
set_option maxHeartbeats 1600000 in
theorem read_any : ∀ (n : Nat) (w : World) (N : Nat) (v : Value) (cs pre post : Cls) (ps : Prs) (above : Int), ps.length ≤ n → N ≤ w.heap.size → RC w (fun b => b < N) v cs → cs = pre ++ critK ps ++ post → Rises ps → (∀ p ∈ ps, KB p.1 ∧ p.1.length ≤ 65535) → 1 ≤ ps.length → cs.length ≤ 2000000 → ps.length ≤ 1000000 →
    (∀ p ∈ ps, ∀ j : Nat, (j : Int) ≤ above → bK (firstK ps) j = bK p.1 j) →
    Calls Try.prog 64 #[v, .int .i64 (pre.length : Int), .int .i64 above] w (ReadRet N w ((pre.length : Int) + ((critK ps).length : Int)) (deepK ps) ps) := by
  intro n
  induction n with
  | zero => intro w N v cs pre post ps above h1 _ _ _ _ _ h2; omega
  | succ n ih =>
    intro w N v cs pre post ps above hn hN h hcs hr hpp h1 hm hpm hab
    by_cases h2 : ps.length = 1
    · obtain ⟨p, rfl⟩ : ∃ p, ps = [p] := by
        match ps, h2 with
        | [p], _ => exact ⟨p, rfl⟩
      have hi : cs[pre.length]? = some (leafC p) := by rw [hcs, (crit_one p).1]; simp
      refine (read_leaf w v cs pre.length p above N hN h hi (hpp p (by simp)) hm).mono ?_
      rintro e w' ⟨⟨v', rfl, hrp⟩, ht⟩
      exact ⟨⟨v', rfl, hrp⟩, ht⟩
    · have kb : ∀ p ∈ ps, KB p.1 := fun p hp => (hpp p hp).1
      obtain ⟨d, hd⟩ := parts hr kb (by omega)
      have hcp := hd.pos
      have hcl := hd.lt
      obtain ⟨hce, hde⟩ := crit_eq hr kb hd
      have hlA : (ps.take (cutK ps d)).length = cutK ps d := by simp; omega
      have hlB : (ps.drop (cutK ps d)).length = ps.length - cutK ps d := by simp
      have hrA := rises_take hr (cutK ps d)
      have hrB := rises_drop hr (cutK ps d)
      have hpA : ∀ p ∈ ps.take (cutK ps d), KB p.1 ∧ p.1.length ≤ 65535 := fun p hp => hpp p (List.mem_of_mem_take hp)
      have hpB : ∀ p ∈ ps.drop (cutK ps d), KB p.1 ∧ p.1.length ≤ 65535 := fun p hp => hpp p (List.mem_of_mem_drop hp)
      obtain ⟨p0, hp0⟩ : ∃ p, ps[0]? = some p := ⟨_, List.getElem?_eq_getElem (by omega)⟩
      obtain ⟨pc, hpc⟩ : ∃ p, ps[cutK ps d]? = some p := ⟨_, List.getElem?_eq_getElem hcl⟩
      have hfA : firstK (ps.take (cutK ps d)) = p0.1 := firstK_eq (by rw [List.getElem?_take, if_pos hcp]; exact hp0)
      have hfB : firstK (ps.drop (cutK ps d)) = pc.1 := firstK_eq (by rw [List.getElem?_drop]; exact hpc)
      have hf0 := firstK_eq hp0
      have hbit0 := hd.bit 0 p0 hp0
      have hbitc := hd.bit _ pc hpc
      rw [if_pos hcp] at hbit0
      rw [if_neg (by omega)] at hbitc
      have hai : cs[pre.length]? = some (innerC d ps.length) := by rw [hcs, hce]; simp
      have habd : above < d := by
        rcases Int.lt_or_le above d with h3 | h3
        · exact h3
        · have := hab pc (List.mem_of_getElem? hpc) d h3
          rw [hf0] at this
          omega
      have hd1 := deep_le _ (ps.take (cutK ps d)) (Nat.le_refl _) hrA (fun p hp => (hpA p hp).1)
      have hd2 := deep_le _ (ps.drop (cutK ps d)) (Nat.le_refl _) hrB (fun p hp => (hpB p hp).1)
      have hlen : (critK ps).length = 1 + (critK (ps.take (cutK ps d))).length + (critK (ps.drop (cutK ps d))).length := by rw [hce]; simp; omega
      refine read_inner w v cs pre.length ps d above N hN h (ps.take (cutK ps d)) (ps.drop (cutK ps d)) (critK (ps.take (cutK ps d))).length (deepK (ps.take (cutK ps d))) (deepK (ps.drop (cutK ps d)))
        (List.take_append_drop _ _).symm (by omega) (by omega) (fun k x hx => ⟨dd_spec hd kb k x hx, by rw [hlA]; exact hd.bit k x hx⟩) hlen hde hpp hai hm hpm habd (parts_small hd (fun p hp => (hpp p hp).2)) ⟨by omega, by omega⟩ (by rw [hcs]; simp) ?_ ?_
      · intro W t hs
        have := ih W N v cs (pre ++ [innerC d ps.length]) (critK (ps.drop (cutK ps d)) ++ post) (ps.take (cutK ps d)) d (by omega) (Nat.le_trans hN t.size) (h.ext t) (by rw [hcs, hce]; simp) hrA hpA (by omega) hm (by omega) (fun p hp j hj => by
          obtain ⟨k, hk⟩ := List.mem_iff_getElem?.1 hp
          rw [List.getElem?_take] at hk
          split at hk
          · rename_i hkc
            rw [hfA]
            rcases Nat.lt_or_ge j d with h3 | h3
            · rw [← hf0]; exact hd.below k p hk j h3
            · obtain rfl : j = d := by omega
              rw [hbit0, hd.bit k p hk, if_pos hkc]
          · cases hk)
        rw [show (((pre ++ [innerC d ps.length]).length : Nat) : Int) = (pre.length : Int) + 1 by simp] at this
        exact this
      · intro W t hs
        have := ih W N v cs (pre ++ innerC d ps.length :: critK (ps.take (cutK ps d))) post (ps.drop (cutK ps d)) d (by omega) (Nat.le_trans hN t.size) (h.ext t) (by rw [hcs, hce]; simp) hrB hpB (by omega) hm (by omega) (fun p hp j hj => by
          obtain ⟨k, hk⟩ := List.mem_iff_getElem?.1 hp
          rw [List.getElem?_drop] at hk
          rw [hfB]
          rcases Nat.lt_or_ge j d with h3 | h3
          · rw [← hd.below _ pc hpc j h3]; exact hd.below _ p hk j h3
          · obtain rfl : j = d := by omega
            rw [hbitc, hd.bit _ p hk, if_neg (by omega)])
        rw [show (((pre ++ innerC d ps.length :: critK (ps.take (cutK ps d))).length : Nat) : Int) = (pre.length : Int) + 1 + ((critK (ps.take (cutK ps d))).length : Int) by simp; omega] at this
        exact this

set_option maxRecDepth 100000 in
set_option maxHeartbeats 1600000 in
theorem all_some (w : World) (v : Value) (ps : Prs) (h : RC w (fun b => b < w.heap.size) v (critK ps)) (hr : Rises ps) (hpp : ∀ p ∈ ps, KB p.1 ∧ p.1.length ≤ 65535) (h1 : 1 ≤ ps.length) (hpm : ps.length ≤ 1000000) :
    Calls Try.prog 31 #[.int .i64 1, v] w fun e w' => (∃ v', e = .returned (.agg #[v', .int .i64 ((critK ps).length : Int), .int .i64 (deepK ps : Int), .bool true]) ∧ RP w' (fun _ => True) v' ps) ∧ Ext w w' := by
  obtain ⟨a, c, rfl, l1, m1, _⟩ := h.shape
  have hl := crit_length _ ps (Nat.le_refl _) hr (fun p hp => (hpp p hp).1)
  have hrd := fun W (t : Ext w W) => read_any _ W w.heap.size _ (critK ps) [] [] ps (-1) (Nat.le_refl _) t.size (h.ext t) (by simp) hr hpp h1 (by omega) hpm (fun p hp j hj => by omega)
  simp only [List.length_nil, Int.natCast_zero, Int.zero_add] at hrd
  generalize (critK ps).length = lc at *
  generalize deepK ps = dp at *
  have b0 : ((lc : Int) == 0) = false := beq_eq_false_iff_ne.2 (by omega)
  have H := Lib.hid h
  clear h
  have Hr := Lib.hid hr
  clear hr
  have Hpp := Lib.hid hpp
  clear hpp
  have Hrd := Lib.hid hrd
  clear hrd
  have Hl := Lib.hid hl
  clear hl
  go_enter Try.func31, Try.ntmps31
  go_wp2_with (fail)
  have t0 : Ext w ((w.alloc (.cells #[.slice none 0 0, .int .i64 0, .int .i64 0, .bool false] 53)).alloc (.cells #[.slice none 0 0, .int .i64 0, .int .i64 0, .bool false] 53)) := ((Touch.refl _ _).alloc _).alloc _
  have hK : ∀ W, Ext ((w.alloc (.cells #[.slice none 0 0, .int .i64 0, .int .i64 0, .bool false] 53)).alloc (.cells #[.slice none 0 0, .int .i64 0, .int .i64 0, .bool false] 53)) W → ∀ b, (b = w.heap.size ∨ b = w.heap.size + 1) → (W.cell? ⟨b, 0, none⟩ = some (.slice none 0 0) ∧ W.cell? ⟨b, 1, none⟩ = some (.int .i64 0) ∧ W.cell? ⟨b, 2, none⟩ = some (.int .i64 0) ∧ W.cell? ⟨b, 3, none⟩ = some (.bool false)) ∧
      W.frozen? ⟨b, 0, none⟩ = false ∧ W.frozen? ⟨b, 1, none⟩ = false ∧ W.frozen? ⟨b, 2, none⟩ = false ∧ W.frozen? ⟨b, 3, none⟩ = false := fun W t b hb => by
    rcases hb with rfl | rfl
    · exact ⟨⟨keepc t id (by simp), keepc t id (by simp), keepc t id (by simp), keepc t id (by simp)⟩, keepf t (by simp; omega) id (by simp), keepf t (by simp; omega) id (by simp), keepf t (by simp; omega) id (by simp), keepf t (by simp; omega) id (by simp)⟩
    · exact ⟨⟨keepc t id (by simp), keepc t id (by simp), keepc t id (by simp), keepc t id (by simp)⟩, keepf t (by simp) id (by simp), keepf t (by simp) id (by simp), keepf t (by simp) id (by simp), keepf t (by simp) id (by simp)⟩
  have hsz0 : w.heap.size + 1 < ((w.alloc (.cells #[.slice none 0 0, .int .i64 0, .int .i64 0, .bool false] 53)).alloc (.cells #[.slice none 0 0, .int .i64 0, .int .i64 0, .bool false] 53)).heap.size := by simp
  generalize (w.alloc (.cells #[.slice none 0 0, .int .i64 0, .int .i64 0, .bool false] 53)).alloc (.cells #[.slice none 0 0, .int .i64 0, .int .i64 0, .bool false] 53) = W2 at *
  (with_reducible refine (Hrd.out _ t0).mono ?_)
  intro e w1 hp
  obtain ⟨pa, pc, rfl, hpl, hpn, hpr, t1⟩ := read_of hp
  have hpr := hpr.mono (G := fun b => b ≠ w.heap.size ∧ b ≠ w.heap.size + 1) (fun b hb => by rcases hb with h9 | h9 <;> omega)
  obtain ⟨⟨y0, y1, y2, y3⟩, z0, z1, z2, z3⟩ := hK _ t1 _ (Or.inl rfl)
  obtain ⟨⟨r0, r1, r2, r3⟩, m0, m1', m2, m3⟩ := hK _ t1 _ (Or.inr rfl)
  clear hp hK
  have Hpr := Lib.hid hpr
  clear hpr
  go_wp2_with (fail)
  have h5 := touch_four w1 (w.heap.size + 1) (.slice pa ps.length pc) (.int .i64 (lc : Int)) (.int .i64 (dp : Int)) (.bool true)
  have u0 := keepc h5 (by simp) y0
  have u1 := keepc h5 (by simp) y1
  have u2 := keepc h5 (by simp) y2
  have u3 := keepc h5 (by simp) y3
  obtain ⟨k0, k1, k2, k3⟩ := set4_get (w := ((((w1.setCell ⟨w.heap.size + 1, 0, none⟩ (.slice pa ps.length pc)).setCell ⟨w.heap.size + 1, 1, none⟩ (.int .i64 (lc : Int))).setCell ⟨w.heap.size + 1, 2, none⟩ (.int .i64 (dp : Int))).setCell ⟨w.heap.size + 1, 3, none⟩ (.bool true))) (u0 := .slice pa ps.length pc) (u1 := .int .i64 (lc : Int)) (u2 := .int .i64 (dp : Int)) (u3 := .bool true) u0 u1 u2 u3
  have h6 := touch_four ((((w1.setCell ⟨w.heap.size + 1, 0, none⟩ (.slice pa ps.length pc)).setCell ⟨w.heap.size + 1, 1, none⟩ (.int .i64 (lc : Int))).setCell ⟨w.heap.size + 1, 2, none⟩ (.int .i64 (dp : Int))).setCell ⟨w.heap.size + 1, 3, none⟩ (.bool true)) w.heap.size (.slice pa ps.length pc) (.int .i64 (lc : Int)) (.int .i64 (dp : Int)) (.bool true)
  have hxw := ((t0.trans' t1).ext_new h5 (fun i hi => by omega)).ext_new h6 (fun i hi => by omega)
  refine bodyPost_ret (v := .agg #[.slice pa ps.length pc, .int .i64 (lc : Int), .int .i64 (dp : Int), .bool true]) (by simp [results, Try.results31, go_sem, k0, k1, k2, k3]) rfl ⟨⟨.slice pa ps.length pc, rfl, ?_⟩, hxw⟩
  exact ((Hpr.out.keep h5 (fun b hb h9 => hb.2 h9)).keep h6 (fun b hb h9 => hb.1 h9)).mono (fun _ _ => trivial)

set_option maxRecDepth 100000 in
set_option maxHeartbeats 1600000 in
theorem all_none (w : World) :
    Calls Try.prog 31 #[.int .i64 1, .slice none 0 0] w fun e w' => e = .returned (.agg #[.slice none 0 0, .int .i64 0, .int .i64 0, .bool true]) ∧ Ext w w' := by
  go_enter Try.func31, Try.ntmps31
  go_wp2_with (fail)
  refine bodyPost_ret (v := .agg #[.slice none 0 0, .int .i64 0, .int .i64 0, .bool true]) (by simp [results, Try.results31, go_sem]) rfl ⟨rfl, ?_⟩
  exact (Touch.refl _ _).alloc _

theorem all_any (w : World) (v : Value) (ps : Prs) (h : RC w (fun b => b < w.heap.size) v (critK ps)) (hnil : ps = [] → v = .slice none 0 0) (hr : Rises ps) (hpp : ∀ p ∈ ps, KB p.1 ∧ p.1.length ≤ 65535) (hpm : ps.length ≤ 1000000) :
    Calls Try.prog 31 #[.int .i64 1, v] w fun e w' => (∃ v', e = .returned (.agg #[v', .int .i64 ((critK ps).length : Int), .int .i64 (deepK ps : Int), .bool true]) ∧ RP w' (fun _ => True) v' ps) ∧ Ext w w' := by
  rcases Nat.eq_zero_or_pos ps.length with h0 | h0
  · obtain rfl := List.eq_nil_of_length_eq_zero h0
    rw [hnil rfl]
    refine (all_none w).mono ?_
    rintro e w' ⟨rfl, t⟩
    exact ⟨⟨_, rfl, RP.nil _ _⟩, t⟩
  · exact all_some w v ps h hr hpp h0 hpm

set_option maxRecDepth 100000 in
set_option maxHeartbeats 1600000 in
theorem right_any (w : World) (t r : Nat) (ps : Prs) (most : Int) (h : Tp w t F ps most) (hf : Rf w r G ps) :
    Calls Try.prog 34 #[.pointer (some ⟨t, 0, none⟩), .pointer (some ⟨r, 0, none⟩)] w fun e w' => e = .returned (.bool true) ∧ Ext w w' := by
  have hm := h.few
  have hsh := CritS.shape_any w t ps most h
  have hr := h.rises
  have hpp : ∀ p ∈ ps, KB p.1 ∧ p.1.length ≤ 65535 := fun p hp => ⟨h.kb p hp, h.long p hp⟩
  have hlc := crit_length _ ps (Nat.le_refl _) hr (fun p hp => (hpp p hp).1)
  have hfits := h.fits
  have hli := fun W (x : Ext w W) => TreeB.live_tp W t ps most (h.ext x)
  have hmo := fun W (x : Ext w W) => TreeB.most_any W t ps most (h.ext x)
  have hln := fun W (x : Ext w W) => TreeA.len_any W _ ps (h.ext x).tq
  obtain ⟨rv, r0, hrow⟩ := hf.row
  obtain ⟨ra, rc, rfl, _⟩ := hrow.shape
  have hsz : szK ps = (critK ps).length := by rw [hlc]; rfl
  rw [hsz] at hli hfits
  have hsp := fun W (x : Ext w W) (v : Value) (F : Nat → Prop) (hv : RP W F v ps) => SameP.same_pairs W v _ ps hv (hrow.ext x) hm (fun p hp => by have := (hpp p hp).2; omega)
  have hb : decide (((critK ps).length : Int) ≤ most) = true := by simpa using hfits.1
  have hal := fun W v (hrc : RC W (fun b => b < W.heap.size) v (critK ps)) hn => all_any W v ps hrc hn hr hpp hm
  generalize hlcq : (critK ps).length = lc at *
  generalize deepK ps = dp at *
  have Hlcq := Lib.hid hlcq
  clear hlcq
  have H := Lib.hid h
  clear h
  have Hf := Lib.hid hf
  clear hf
  have Hsh := Lib.hid hsh
  clear hsh
  have Hr := Lib.hid hr
  clear hr
  have Hpp := Lib.hid hpp
  clear hpp
  have Hlc := Lib.hid hlc
  clear hlc
  have Hfits := Lib.hid hfits
  clear hfits
  have Hli := Lib.hid hli
  clear hli
  have Hmo := Lib.hid hmo
  clear hmo
  have Hln := Lib.hid hln
  clear hln
  have Hrow := Lib.hid hrow
  clear hrow
  have Hsz := Lib.hid hsz
  clear hsz
  have Hsp := Lib.hid hsp
  clear hsp
  have Hal := Lib.hid hal
  clear hal
  go_enter Try.func34, Try.ntmps34
  go_wp2_with (fail)
  (with_reducible refine Hsh.out.mono ?_)
  rintro e w1 ⟨⟨v1, rfl, hrc, hnil⟩, t1⟩
  have hall := Hal.out w1 v1 hrc hnil
  obtain ⟨sa, sc, hv1, _⟩ := hrc.shape
  rw [Hlcq.out] at hv1
  subst hv1
  have Hall := Lib.hid hall
  clear hall
  have Hrc := Lib.hid hrc
  clear hrc
  have Hnil := Lib.hid hnil
  clear hnil
  go_wp2_with (fail)
  (with_reducible refine Hall.out.mono ?_)
  rintro e w2 ⟨⟨v2, rfl, hp2⟩, t2⟩
  obtain ⟨pa, pc, rfl, _⟩ := hp2.shape
  have x2 := (t1.trans' t2).alloc (.cells #[.slice pa ps.length pc, .int .i64 (lc : Int), .int .i64 (dp : Int), .bool true] 53)
  have k0 : (w2.alloc (.cells #[.slice pa ps.length pc, .int .i64 (lc : Int), .int .i64 (dp : Int), .bool true] 53)).cell? ⟨w2.heap.size, 0, none⟩ = some (.slice pa ps.length pc) := by simp
  have k3 : (w2.alloc (.cells #[.slice pa ps.length pc, .int .i64 (lc : Int), .int .i64 (dp : Int), .bool true] 53)).cell? ⟨w2.heap.size, 3, none⟩ = some (.bool true) := by simp
  have hp3 := hp2.ext ((Touch.refl _ _).alloc (.cells #[.slice pa ps.length pc, .int .i64 (lc : Int), .int .i64 (dp : Int), .bool true] 53))
  have q0 := keepc x2 id r0
  clear hp2 t2
  have Hp3 := Lib.hid hp3
  clear hp3
  go_wp2_with (fail)
  generalize w2.alloc (.cells #[.slice pa ps.length pc, .int .i64 (lc : Int), .int .i64 (dp : Int), .bool true] 53) = w3 at *
  generalize w2.heap.size = br at *
  refine wp_region_plan (.take 0 (.take 1 (.take 2 (.take 3 (.take 4 (.take 5 (.take 6 (.take 7 (.take 8 (.must 9 (.take 10 (.take 11 (.take 12 (.take 14 (.take 15 (.must 13 (.take 16 (.take 17 (.take 18 (.take 19 (.take 21 (.must 20 (.must 22 (.take 23 (.take 24 (.take 25 (.take 26 (.take 28 (.take 29 (.take 30 (.take 31 (.take 32 (.must 27 (.take 33 (.take 34 (.take 35 .done)))))))))))))))))))))))))))))))))))) (fun wy => wy.cell? ⟨br, 0, none⟩ = some (.slice pa ps.length pc) ∧ wy.cell? ⟨br, 3, none⟩ = some (.bool true) ∧ wy.cell? ⟨r, 0, none⟩ = some (.slice ra ps.length rc)) (by kernel_rfl) (by kernel_rfl) (by kernel_rfl) rfl ?_ (fun KK hKK => ?_)
  · exact ⟨k0, k3, q0⟩
  repeat (first
    | (refine wpPlan_take (v := ?_) rfl (by rfl) (fun W hW => ?_) ?_; rotate_left; (focus ((try dsimp only at hW); go_split_ands; go_simp; (try with_reducible rfl); done)); (try simp only [Act.put, List.setIfInBounds_toArray, List.set_cons_zero, List.set_cons_succ]))
    | (refine wpPlan_skip rfl (by rfl) ?_; (try simp only [Act.put, List.setIfInBounds_toArray, List.set_cons_zero, List.set_cons_succ])))
  refine wpPlan_must rfl (by rfl) (fun K hK => ?_)
  go_simp
  (with_reducible refine (Hsp.out _ x2.drew _ _ (Hp3.out.ext (Touch.refl _ _).drew)).mono ?_)
  rintro e w4 ⟨rfl, t4⟩
  have y4 : Ext w3 w4 := (Touch.refl _ _).drew.trans' t4
  have x4 := x2.trans' y4
  refine hK.out _ _ ?_ ?_
  · exact ⟨keepc y4 id k0, keepc y4 id k3, keepc y4 id q0⟩
  clear hK K
  (try simp only [Act.put, List.setIfInBounds_toArray, List.set_cons_zero, List.set_cons_succ])
  repeat (first
    | (refine wpPlan_take (v := ?_) rfl (by rfl) (fun W hW => ?_) ?_; rotate_left; (focus ((try dsimp only at hW); go_split_ands; go_simp; (try with_reducible rfl); done)); (try simp only [Act.put, List.setIfInBounds_toArray, List.set_cons_zero, List.set_cons_succ]))
    | (refine wpPlan_skip rfl (by rfl) ?_; (try simp only [Act.put, List.setIfInBounds_toArray, List.set_cons_zero, List.set_cons_succ])))
  refine wpPlan_must rfl (by rfl) (fun K hK => ?_)
  go_simp
  (with_reducible refine (Hli.out _ x4).mono ?_)
  rintro e w5 ⟨rfl, rfl⟩
  refine hK.out _ _ ?_ ?_
  · exact ⟨keepc y4 id k0, keepc y4 id k3, keepc y4 id q0⟩
  clear hK K
  (try simp only [Act.put, List.setIfInBounds_toArray, List.set_cons_zero, List.set_cons_succ])
  repeat (first
    | (refine wpPlan_take (v := ?_) rfl (by rfl) (fun W hW => ?_) ?_; rotate_left; (focus ((try dsimp only at hW); go_split_ands; go_simp; (try with_reducible rfl); done)); (try simp only [Act.put, List.setIfInBounds_toArray, List.set_cons_zero, List.set_cons_succ]))
    | (refine wpPlan_skip rfl (by rfl) ?_; (try simp only [Act.put, List.setIfInBounds_toArray, List.set_cons_zero, List.set_cons_succ])))
  refine wpPlan_must rfl (by rfl) (fun K hK => ?_)
  go_simp
  (with_reducible refine (Hli.out _ x4).mono ?_)
  rintro e w5 ⟨rfl, rfl⟩
  refine hK.out _ _ ?_ ?_
  · exact ⟨keepc y4 id k0, keepc y4 id k3, keepc y4 id q0⟩
  clear hK K
  (try simp only [Act.put, List.setIfInBounds_toArray, List.set_cons_zero, List.set_cons_succ])
  repeat (first
    | (refine wpPlan_take (v := ?_) rfl (by rfl) (fun W hW => ?_) ?_; rotate_left; (focus ((try dsimp only at hW); go_split_ands; go_simp; (try with_reducible rfl); done)); (try simp only [Act.put, List.setIfInBounds_toArray, List.set_cons_zero, List.set_cons_succ]))
    | (refine wpPlan_skip rfl (by rfl) ?_; (try simp only [Act.put, List.setIfInBounds_toArray, List.set_cons_zero, List.set_cons_succ])))
  refine wpPlan_must rfl (by rfl) (fun K hK => ?_)
  go_simp
  (with_reducible refine (Hmo.out _ x4).mono ?_)
  rintro e w5 ⟨rfl, rfl⟩
  refine hK.out _ _ ?_ ?_
  · exact ⟨keepc y4 id k0, keepc y4 id k3, keepc y4 id q0⟩
  clear hK K
  (try simp only [Act.put, List.setIfInBounds_toArray, List.set_cons_zero, List.set_cons_succ])
  repeat (first
    | (refine wpPlan_take (v := ?_) rfl (by rfl) (fun W hW => ?_) ?_; rotate_left; (focus ((try dsimp only at hW); go_split_ands; go_simp; (try with_reducible rfl); done)); (try simp only [Act.put, List.setIfInBounds_toArray, List.set_cons_zero, List.set_cons_succ]))
    | (refine wpPlan_skip rfl (by rfl) ?_; (try simp only [Act.put, List.setIfInBounds_toArray, List.set_cons_zero, List.set_cons_succ])))
  refine wpPlan_must rfl (by rfl) (fun K hK => ?_)
  go_simp
  (with_reducible refine (Hln.out _ x4).mono ?_)
  rintro e w5 ⟨rfl, rfl⟩
  refine hK.out _ _ ?_ ?_
  · exact ⟨keepc y4 id k0, keepc y4 id k3, keepc y4 id q0⟩
  clear hK K
  (try simp only [Act.put, List.setIfInBounds_toArray, List.set_cons_zero, List.set_cons_succ])
  repeat (first
    | (refine wpPlan_take (v := ?_) rfl (by rfl) (fun W hW => ?_) ?_; rotate_left; (focus ((try dsimp only at hW); go_split_ands; go_simp; (try with_reducible rfl); done)); (try simp only [Act.put, List.setIfInBounds_toArray, List.set_cons_zero, List.set_cons_succ]))
    | (refine wpPlan_skip rfl (by rfl) ?_; (try simp only [Act.put, List.setIfInBounds_toArray, List.set_cons_zero, List.set_cons_succ])))
  refine wpPlan_done (hKK.out _ _ ?_)
  clear hKK KK
  go_wp2_with (fail)
  go_ret
  exact ⟨rfl, x4⟩
end CritU
end Go.Proofs.Ytmdgmkmddkaadaa
