/- The laws' own: a put, or a drop, of a tree and of the document's map. -/
import Derived.Test.YtmdgmkmddkaadaaTreeS
import Derived.Test.YtmdgmkmddkaadaaSameQ
namespace Go.Proofs.Ytmdgmkmddkaadaa
open Go.RowKit
set_option linter.unusedVariables false
set_option linter.unusedSimpArgs false
namespace TreeT
open TreeB TreeP TreeD TreeS ModF RefF
variable {Q : Nat → Prop} {w : World} {t r : Nat} {M : Prs} {most : Int}

def SDone (Q : Nat → Prop) (w : World) (t r : Nat) (M : Prs) (most : Int) (e : Ending) (w' : World) : Prop := e = .returned (.bool true) ∧ Sx Q w' t r M M most ∧ Touch (NQ Q) w w'


set_option maxRecDepth 100000 in
set_option maxHeartbeats 1600000 in
theorem done_drop (h : Sx Q w t r M M most) (kw : Value) (k : List Int) (v : Int) (hk : RB w Q kw k) (kb : KB k) (hl : k.length ≤ 65535) :
    Calls Try.prog 38 #[.pointer (some ⟨t, 0, none⟩), .pointer (some ⟨r, 0, none⟩), .agg #[kw, .int .u64 v, .bool true]] w (SDone Q w t r (dropK M k) most) := by
  obtain ⟨ka, kc, rfl, l1, m1, _⟩ := hk.shape
  unfold maxLen at m1
  obtain ⟨wx, hwx⟩ : ∃ wx, wx = w.alloc (.cells #[.slice ka k.length kc, .int .u64 v, .bool true] 63) := ⟨_, rfl⟩
  have xa : Ext w wx := by rw [hwx]; exact (Touch.refl _ _).alloc _
  have h1 : Sx (Q1 Q w.heap.size) wx t r M M most := by rw [hwx]; exact h.q1 _
  have hk1 : RB wx (Q1 Q w.heap.size) (.slice ka k.length kc) k := (hk.ext xa).mono (fun b hb => Or.inl hb)
  have e0 : wx.cell? ⟨w.heap.size, 0, none⟩ = some (.slice ka k.length kc) := by rw [hwx]; simp
  have e1 : wx.cell? ⟨w.heap.size, 1, none⟩ = some (.int .u64 v) := by rw [hwx]; simp
  have e2 : wx.cell? ⟨w.heap.size, 2, none⟩ = some (.bool true) := by rw [hwx]; simp
  have hbx : w.heap.size < wx.heap.size := by rw [hwx]; simp
  have hfew := h.few
  have hd := sdrop h1 _ k hk1 kb hl
  unfold SDrop at hd
  unfold SDone
  have hvv : (valK M k == valK M k) = true := by simp
  have hbb : (hasK M k == hasK M k) = true := by simp
  have Hd := Lib.hid hd
  clear hd
  have H := Lib.hid h
  clear h
  have H1 := Lib.hid h1
  clear h1
  have Hk := Lib.hid hk
  clear hk
  have Hk1 := Lib.hid hk1
  clear hk1
  have Kb := Lib.hid kb
  clear kb
  clear hbx
  go_enter Try.func38, Try.ntmps38
  go_wp2_with (fail)
  rw [← hwx]
  clear hwx
  go_wp2_with (fail)
  (with_reducible refine Hd.out.mono ?_)
  rintro e w1 ⟨rfl, h2, x2⟩
  have e0 := keepq x2 (Or.inr rfl) e0
  have hrd := srdrop h2 hfew _ k (rbq Hk1.out x2 (fun b hb => hb)) Kb.out
  unfold SRDrop at hrd
  clear e1 e2
  have Hrd := Lib.hid hrd
  clear hrd
  have X2 := Lib.hid x2
  clear x2
  have H2 := Lib.hid h2
  clear h2
  go_wp2_with (fail)
  (with_reducible refine Hrd.out.mono ?_)
  rintro e w2 ⟨rfl, h3, x3⟩
  have H3 := Lib.hid h3
  clear h3
  have X3 := Lib.hid x3
  clear x3
  go_wp2_with (fail)
  go_ret
  exact ⟨rfl, H3.out.less (fun b hb => Or.inl hb), xa.none_to.trans' ((X2.out.trans' X3.out).mono (fun i hi _ hq => hi (Or.inl hq)))⟩


set_option maxRecDepth 100000 in
set_option maxHeartbeats 3200000 in
theorem done_put (h : Sx Q w t r M M most) (hm : M.length < 1000000) (kw : Value) (k : List Int) (v : Int) (hk : RB w Q kw k) (kb : KB k) (hl : k.length ≤ 65535) (hroom : hasK M k = true ∨ (szK (putK M k v) : Int) ≤ most) :
    Calls Try.prog 38 #[.pointer (some ⟨t, 0, none⟩), .pointer (some ⟨r, 0, none⟩), .agg #[kw, .int .u64 v, .bool false]] w (SDone Q w t r (putK M k v) most) := by
  obtain ⟨ka, kc, rfl, l1, m1, _⟩ := hk.shape
  unfold maxLen at m1
  obtain ⟨wx, hwx⟩ : ∃ wx, wx = w.alloc (.cells #[.slice ka k.length kc, .int .u64 v, .bool false] 63) := ⟨_, rfl⟩
  have xa : Ext w wx := by rw [hwx]; exact (Touch.refl _ _).alloc _
  have h1 : Sx (Q1 Q w.heap.size) wx t r M M most := by rw [hwx]; exact h.q1 _
  have hk1 : RB wx (Q1 Q w.heap.size) (.slice ka k.length kc) k := (hk.ext xa).mono (fun b hb => Or.inl hb)
  have e0 : wx.cell? ⟨w.heap.size, 0, none⟩ = some (.slice ka k.length kc) := by rw [hwx]; simp
  have e1 : wx.cell? ⟨w.heap.size, 1, none⟩ = some (.int .u64 v) := by rw [hwx]; simp
  have e2 : wx.cell? ⟨w.heap.size, 2, none⟩ = some (.bool false) := by rw [hwx]; simp
  have hbx : w.heap.size < wx.heap.size := by rw [hwx]; simp
  have hfew := h.few
  have hvv : (valK M k == valK M k) = true := by simp
  have hbb : (hasK M k == hasK M k) = true := by simp
  have z0 := e0
  have Hroom := Lib.hid hroom
  clear hroom
  have Z0 := Lib.hid z0
  clear z0
  unfold SDone
  obtain ⟨F0, htp⟩ := h1.tree
  obtain ⟨R0, hrf⟩ := h1.map
  have hfit := htp.fits
  have hmo := TreeB.most_any wx t M most htp
  have hli := TreeB.live_tp wx t M most htp
  have hfi := RefA.find_any wx r _ M k hrf hk1 kb hfew
  have hle := fun W (x : Ext wx W) => SameP.lend_any W _ (.slice ka k.length kc) k (hk1.ext x) (by omega)
  obtain ⟨f1, f2⟩ := hfit
  generalize szK M = sz at *
  have Hmo := Lib.hid hmo
  clear hmo
  have Hli := Lib.hid hli
  clear hli
  have Hfi := Lib.hid hfi
  clear hfi
  have Hle := Lib.hid hle
  clear hle
  have H := Lib.hid h
  clear h
  have H1 := Lib.hid h1
  clear h1
  have Hk := Lib.hid hk
  clear hk
  have Hk1 := Lib.hid hk1
  clear hk1
  have Kb := Lib.hid kb
  clear kb
  have Htp := Lib.hid htp
  clear htp
  have Hrf := Lib.hid hrf
  clear hrf
  clear hbx
  go_enter Try.func38, Try.ntmps38
  go_wp2_with (fail)
  rw [← hwx]
  clear hwx
  go_wp2_with (fail)
  (with_reducible refine Hmo.out.mono ?_)
  rintro e w1 ⟨rfl, rfl⟩
  go_wp2_with (fail)
  (with_reducible refine Hli.out.mono ?_)
  rintro e w1 ⟨rfl, rfl⟩
  go_wp2_with (fail)
  (with_reducible refine Hfi.out.mono ?_)
  rintro e w2 ⟨rfl, x2⟩
  have e0 := keepc x2 id e0
  have e1 := keepc x2 id e1
  go_wp2_with (fail)
  (with_reducible refine (Hle.out _ x2).mono ?_)
  rintro e w3 ⟨⟨g, rfl, hlent, hg⟩, x3⟩
  have hgl : g < w3.heap.size := hlent.ob.lt g rfl
  have y3 := x2.trans' x3
  have e0 := keepc x3 id e0
  have e1 := keepc x3 id e1
  have h3 : Sx (Q1 (Q1 Q w.heap.size) g) w3 t r M M most := H1.out.kept y3 (fun b hb => hb.imp id (fun e => by subst e; exact ⟨Nat.le_trans x2.size hg, hgl⟩))
  have hpu := sput h3 hm _ k v (hlent.rb.mono (fun b hb => Or.inr hb)) Kb.out hl Hroom.out
  unfold SPut at hpu
  have Hpu := Lib.hid hpu
  clear hpu
  have Hlent := Lib.hid hlent
  clear hlent
  have H3 := Lib.hid h3
  clear h3
  go_wp2_with (fail)
  (with_reducible refine Hpu.out.mono ?_)
  rintro e w4 ⟨rfl, h4, x4⟩
  have e0 := keepq x4 (Or.inl (Or.inr rfl)) e0
  have e1 := keepq x4 (Or.inl (Or.inr rfl)) e1
  have hlent4 := Hlent.out.keep x4 (fun hn => hn (Or.inr rfl))
  have hk4 := rbq (Hk1.out.ext y3) x4 (fun b hb => Or.inl hb)
  have hkp := SameP.kept_any w4 _ (.slice ka k.length kc) g k hlent4 hk4 (by omega)
  have H4 := Lib.hid h4
  clear h4
  have X4 := Lib.hid x4
  clear x4
  have Hlent4 := Lib.hid hlent4
  clear hlent4
  have Hk4 := Lib.hid hk4
  clear hk4
  have Hkp := Lib.hid hkp
  clear hkp
  go_wp2_with (fail)
  (with_reducible refine Hkp.out.mono ?_)
  rintro e w5 ⟨rfl, x5⟩
  have e0 := keepc x5 id e0
  have e1 := keepc x5 id e1
  have hov := SameP.over_bytes w5 _ k (Hlent4.out.ext x5).ob (by omega)
  have Hov := Lib.hid hov
  clear hov
  go_wp2_with (fail)
  (with_reducible refine Hov.out.mono ?_)
  rintro e w6 ⟨rfl, hto⟩
  have hto : Touch (fun b => b = g) w5 w6 := hto.mono (fun i hi _ => by cases hi; rfl)
  have hgb : w.heap.size ≠ g := fun e => by have := xa.size; have := x2.size; have := World.block_lt_of_cell? _ _ Z0.out; simp only at this; omega
  have e0 := keepc hto (fun h => hgb h) e0
  have e1 := keepc hto (fun h => hgb h) e1
  have h6 : Sx (Q1 (Q1 Q w.heap.size) g) w6 t r _ M most := (H4.out.ext x5).over hto (fun b hb => Or.inl (Or.inr hb))
  have x6 : Touch (NQ Q) w w6 := (((xa.trans' y3).none_to.trans' (X4.out.mono (fun i hi _ hq => hi (Or.inl (Or.inl hq))))).trans_ext x5).trans' (hto.mono (fun i hi hlt hq => by
    subst hi
    have h7 : i < w.heap.size := H.out.hQ _ hq
    have := xa.size; have := x2.size; omega))
  have hk6 := ((Hk4.out.ext x5).keep hto (fun b hb h7 => by
    have h8 : b = g := h7
    rcases hb with h9 | h9
    · have h7 : b < w.heap.size := H.out.hQ _ h9
      have := xa.size; have := x2.size; omega
    · exact hgb (h9.symm.trans h8)))
  clear hto
  have hrp := srput h6 (by omega) _ k v hk6 Kb.out hl
  unfold SRPut at hrp
  have Hrp := Lib.hid hrp
  clear hrp
  have H6 := Lib.hid h6
  clear h6
  have X6 := Lib.hid x6
  clear x6
  have Hk6 := Lib.hid hk6
  clear hk6
  go_wp2_with (fail)
  (with_reducible refine Hrp.out.mono ?_)
  rintro e w7 ⟨rfl, h7, x7⟩
  have H7 := Lib.hid h7
  clear h7
  have X7 := Lib.hid x7
  clear x7
  go_wp2_with (fail)
  go_ret
  exact ⟨rfl, H7.out.less (fun b hb => Or.inl (Or.inl hb)), X6.out.trans' (X7.out.mono (fun i hi _ hq => hi (Or.inl (Or.inl hq))))⟩

set_option maxRecDepth 100000 in
set_option maxHeartbeats 3200000 in
theorem done_full (h : Sx Q w t r M M most) (hm : M.length < 1000000) (kw : Value) (k : List Int) (v : Int) (hk : RB w Q kw k) (kb : KB k) (hl : k.length ≤ 65535) (hh : hasK M k = false) (hroom : most < (szK (putK M k v) : Int)) :
    Calls Try.prog 38 #[.pointer (some ⟨t, 0, none⟩), .pointer (some ⟨r, 0, none⟩), .agg #[kw, .int .u64 v, .bool false]] w (SDone Q w t r M most) := by
  obtain ⟨ka, kc, rfl, l1, m1, _⟩ := hk.shape
  unfold maxLen at m1
  obtain ⟨wx, hwx⟩ : ∃ wx, wx = w.alloc (.cells #[.slice ka k.length kc, .int .u64 v, .bool false] 63) := ⟨_, rfl⟩
  have xa : Ext w wx := by rw [hwx]; exact (Touch.refl _ _).alloc _
  have h1 : Sx (Q1 Q w.heap.size) wx t r M M most := by rw [hwx]; exact h.q1 _
  have hk1 : RB wx (Q1 Q w.heap.size) (.slice ka k.length kc) k := (hk.ext xa).mono (fun b hb => Or.inl hb)
  have e0 : wx.cell? ⟨w.heap.size, 0, none⟩ = some (.slice ka k.length kc) := by rw [hwx]; simp
  have e1 : wx.cell? ⟨w.heap.size, 1, none⟩ = some (.int .u64 v) := by rw [hwx]; simp
  have e2 : wx.cell? ⟨w.heap.size, 2, none⟩ = some (.bool false) := by rw [hwx]; simp
  have hbx : w.heap.size < wx.heap.size := by rw [hwx]; simp
  have hfew := h.few
  have z0 := e0
  have hcost : most - (szK M : Int) < ((costK k : Nat) : Int) := by
    obtain ⟨F0, htp⟩ := h.tree
    have := sz_put_le htp.rises v hh
    omega
  have hne := fun W => need_any W k hl
  have hh2 := hh
  have Hroom := Lib.hid hroom
  clear hroom
  have Z0 := Lib.hid z0
  clear z0
  have Hne := Lib.hid hne
  clear hne
  have Hh2 := Lib.hid hh2
  clear hh2
  unfold SDone
  obtain ⟨F0, htp⟩ := h1.tree
  obtain ⟨R0, hrf⟩ := h1.map
  have hfit := htp.fits
  have hmo := TreeB.most_any wx t M most htp
  have hli := TreeB.live_tp wx t M most htp
  have hfi := RefA.find_any wx r _ M k hrf hk1 kb hfew
  have hle := fun W (x : Ext wx W) => SameP.lend_any W _ (.slice ka k.length kc) k (hk1.ext x) (by omega)
  obtain ⟨f1, f2⟩ := hfit
  generalize szK M = sz at *
  have Hmo := Lib.hid hmo
  clear hmo
  have Hli := Lib.hid hli
  clear hli
  have Hfi := Lib.hid hfi
  clear hfi
  have Hle := Lib.hid hle
  clear hle
  have H := Lib.hid h
  clear h
  have H1 := Lib.hid h1
  clear h1
  have Hk := Lib.hid hk
  clear hk
  have Hk1 := Lib.hid hk1
  clear hk1
  have Kb := Lib.hid kb
  clear kb
  have Htp := Lib.hid htp
  clear htp
  have Hrf := Lib.hid hrf
  clear hrf
  clear hbx
  go_enter Try.func38, Try.ntmps38
  go_wp2_with (fail)
  rw [← hwx]
  clear hwx
  go_wp2_with (fail)
  (with_reducible refine Hmo.out.mono ?_)
  rintro e w1 ⟨rfl, rfl⟩
  go_wp2_with (fail)
  (with_reducible refine Hli.out.mono ?_)
  rintro e w1 ⟨rfl, rfl⟩
  go_wp2_with (fail)
  (with_reducible refine Hfi.out.mono ?_)
  rintro e w2 ⟨rfl, x2⟩
  have e0 := keepc x2 id e0
  have e1 := keepc x2 id e1
  go_wp2_with (fail)
  (with_reducible refine (Hle.out _ x2).mono ?_)
  rintro e w3 ⟨⟨g, rfl, hlent, hg⟩, x3⟩
  have hgl : g < w3.heap.size := hlent.ob.lt g rfl
  have y3 := x2.trans' x3
  have e0 := keepc x3 id e0
  have e1 := keepc x3 id e1
  have h3 : Sx (Q1 (Q1 Q w.heap.size) g) w3 t r M M most := H1.out.kept y3 (fun b hb => hb.imp id (fun e => by subst e; exact ⟨Nat.le_trans x2.size hg, hgl⟩))
  have hpu := sfull h3 hm _ k v (hlent.rb.mono (fun b hb => Or.inr hb)) Kb.out hl Hh2.out Hroom.out
  unfold SFull at hpu
  have Hpu := Lib.hid hpu
  clear hpu
  have Hlent := Lib.hid hlent
  clear hlent
  have H3 := Lib.hid h3
  clear h3
  go_wp2_with (fail)
  (with_reducible refine Hpu.out.mono ?_)
  rintro e w4 ⟨rfl, h4, x4⟩
  have x4 : Touch (NQ (Q1 (Q1 Q w.heap.size) g)) w3 w4 := x4.none_to
  have e0 := keepq x4 (Or.inl (Or.inr rfl)) e0
  have e1 := keepq x4 (Or.inl (Or.inr rfl)) e1
  have hlent4 := Hlent.out.keep x4 (fun hn => hn (Or.inr rfl))
  have hk4 := rbq (Hk1.out.ext y3) x4 (fun b hb => Or.inl hb)
  have hkp := SameP.kept_any w4 _ (.slice ka k.length kc) g k hlent4 hk4 (by omega)
  have H4 := Lib.hid h4
  clear h4
  have X4 := Lib.hid x4
  clear x4
  have Hlent4 := Lib.hid hlent4
  clear hlent4
  have Hk4 := Lib.hid hk4
  clear hk4
  have Hkp := Lib.hid hkp
  clear hkp
  go_wp2_with (fail)
  (with_reducible refine Hkp.out.mono ?_)
  rintro e w5 ⟨rfl, x5⟩
  have e0 := keepc x5 id e0
  have e1 := keepc x5 id e1
  have hov := SameP.over_bytes w5 _ k (Hlent4.out.ext x5).ob (by omega)
  have Hov := Lib.hid hov
  clear hov
  go_wp2_with (fail)
  (with_reducible refine Hov.out.mono ?_)
  rintro e w6 ⟨rfl, hto⟩
  have hto : Touch (fun b => b = g) w5 w6 := hto.mono (fun i hi _ => by cases hi; rfl)
  have hgb : w.heap.size ≠ g := fun e => by have := xa.size; have := x2.size; have := World.block_lt_of_cell? _ _ Z0.out; simp only at this; omega
  have e0 := keepc hto (fun h => hgb h) e0
  have e1 := keepc hto (fun h => hgb h) e1
  have h6 : Sx (Q1 (Q1 Q w.heap.size) g) w6 t r _ M most := (H4.out.ext x5).over hto (fun b hb => Or.inl (Or.inr hb))
  have x6 : Touch (NQ Q) w w6 := (((xa.trans' y3).none_to.trans' (X4.out.mono (fun i hi _ hq => hi (Or.inl (Or.inl hq))))).trans_ext x5).trans' (hto.mono (fun i hi hlt hq => by
    subst hi
    have h7 : i < w.heap.size := H.out.hQ _ hq
    have := xa.size; have := x2.size; omega))
  have hk6 := ((Hk4.out.ext x5).keep hto (fun b hb h7 => by
    have h8 : b = g := h7
    rcases hb with h9 | h9
    · have h7 : b < w.heap.size := H.out.hQ _ h9
      have := xa.size; have := x2.size; omega
    · exact hgb (h9.symm.trans h8)))
  clear hto
  have H6 := Lib.hid h6
  clear h6
  have X6 := Lib.hid x6
  clear x6
  have Hk6 := Lib.hid hk6
  clear hk6
  go_wp2_with (fail)
  (with_reducible refine (Hne.out _).mono ?_)
  rintro e w7 ⟨rfl, rfl⟩
  go_wp2_with (fail)
  go_ret
  exact ⟨rfl, H6.out.less (fun b hb => Or.inl (Or.inl hb)), X6.out⟩

/-- what an act makes of pairs -/
def actK (M : Prs) (most : Int) (k : List Int) (v : Int) (d : Bool) : Prs := if d then dropK M k else if hasK M k = true ∨ (szK (putK M k v) : Int) ≤ most then putK M k v else M
theorem actK_length (M : Prs) (most : Int) (k : List Int) (v : Int) (d : Bool) : (actK M most k v d).length ≤ M.length + 1 := by
  unfold actK
  split
  · have := dropK_length M k; omega
  · split
    · exact putK_length_le _ _ _
    · omega
theorem done_any (h : Sx Q w t r M M most) (hm : M.length < 1000000) (kw : Value) (k : List Int) (v : Int) (d : Bool) (hk : RB w Q kw k) (kb : KB k) (hl : k.length ≤ 65535) :
    Calls Try.prog 38 #[.pointer (some ⟨t, 0, none⟩), .pointer (some ⟨r, 0, none⟩), .agg #[kw, .int .u64 v, .bool d]] w (SDone Q w t r (actK M most k v d) most) := by
  cases d with
  | true => exact done_drop h kw k v hk kb hl
  | false =>
    by_cases hroom : hasK M k = true ∨ (szK (putK M k v) : Int) ≤ most
    · rw [show actK M most k v false = putK M k v by unfold actK; rw [if_neg (by simp), if_pos hroom]]
      exact done_put h hm kw k v hk kb hl hroom
    · rw [show actK M most k v false = M by unfold actK; rw [if_neg (by simp), if_neg hroom]]
      have hh : hasK M k = false := by cases hh : hasK M k with | true => exact absurd (Or.inl hh) hroom | false => rfl
      exact done_full h hm kw k v hk kb hl hh (by have : ¬ (szK (putK M k v) : Int) ≤ most := fun h => hroom (Or.inr h); omega)
end TreeT
end Go.Proofs.Ytmdgmkmddkaadaa
