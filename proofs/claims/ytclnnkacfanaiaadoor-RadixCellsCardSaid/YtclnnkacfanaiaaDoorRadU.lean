/- The document reads all cells of a radix tree: it finds its pairs. -/
import Derived.Test.YtclnnkacfanaiaaDoorRadY
import Derived.Test.YtclnnkacfanaiaaDoorRadV
import Derived.Test.YtclnnkacfanaiaaDoorSameX
import Derived.Test.YtclnnkacfanaiaaDoorRefX
import Derived.Outline
namespace Go.Proofs.YtclnnkacfanaiaaDoor
open Go.RowKit
set_option linter.unusedVariables false
set_option linter.unusedSimpArgs false
namespace RadU
open MaskA MaskP KidA KidB RadK RadM RadA RadB RadG RadR RadT RadY RadV TreeA TreeB
variable {F G : Nat → Prop}
theorem read_any (T : RT) : ∀ (w : World) (N : Nat) (v wv : Value) (K : Nat → Prop) (cs pre post : Cls) (way q : List Int), T.is = true → RC w (fun b => b < N) v cs → N ≤ w.heap.size → cs = pre ++ (T.CK ++ post) → RB w K wv way → way <+: T.key → RT.Ok q T → (∀ p ∈ T.prs, p.1.length ≤ 65535) → cs.length ≤ 100000000000 → T.prs.length ≤ 1000000 →
    Calls Tryd.prog 88 #[v, .int .i64 (pre.length : Int), wv] w (TRead N w ((pre.length + T.CK.length : Nat) : Int) T.deep T.prs) := by
  induction T with
  | nil => intro w N v wv K cs pre post way q h; cases h
  | leaf k x =>
    intro w N v wv K cs pre post way q _ hrc hN hcs hw hpre hok hl hm hp
    have := read_leaf w N v wv cs pre.length way k x K hrc hw (by rw [hcs]; simp [RT.CK]) hpre (hl (k, x) (by rw [RT.prs]; exact List.mem_singleton.2 rfl)) hm
    rw [show ((pre.length + (RT.leaf k x).CK.length : Nat) : Int) = (pre.length : Int) + 1 by rw [RT.CK]; simp, RT.deep, RT.prs]
    exact this
  | node k o kd f ih =>
    intro w N v wv K cs pre post way q _ hrc hN hcs hw hpre hok hl hm hp
    refine read_node w N v wv cs pre post pre.length way k q o kd f K hrc hN hw hcs rfl hok hpre (hok.key_le hl) hm hp (fun j ch hj W wv2 x hwv => ?_)
    have hi := RT.bl_mem.1 (List.mem_of_getElem? hj)
    have e : RT.belowC f (cnt (RT.hsT f) 256) = RT.belowC f (j + 1) ++ ((RT.bl f).drop (j + 1)).flatMap fun i => (f i).CK := by
      unfold RT.belowC
      rw [← RT.bl_length, List.take_length, ← List.flatMap_append, List.take_append_drop]
    rw [RT.belowC_succ f hj] at e
    have hpc := RadI.sub_prs k o kd f hi.1
    have := ih ch W N v wv2 (fun _ => True) cs (pre ++ RT.nodeC k o kd (RT.node k o kd f).prs.length (cnt (RT.hsT f) 256) :: RT.belowC f j) (((RT.bl f).drop (j + 1)).flatMap (fun i => (f i).CK) ++ post) (k ++ [(ch : Int)]) (k ++ [(ch : Int)]) hi.2 (hrc.ext x) (Nat.le_trans hN x.size)
      (by rw [hcs, RT.CK_below, e]; simp) hwv ((hok.2.2.2.1 ch hi.1).kpre hi.2).1 (hok.2.2.2.1 ch hi.1) (fun p hp => hl p (RadI.mem_prs k o kd f hi.1 hp)) hm (by omega)
    rw [RT.belowC_succ f hj, List.length_append]
    rw [show (pre ++ RT.nodeC k o kd (RT.node k o kd f).prs.length (cnt (RT.hsT f) 256) :: RT.belowC f j).length = pre.length + 1 + (RT.belowC f j).length by simp; omega] at this
    rw [show pre.length + 1 + ((RT.belowC f j).length + (f ch).CK.length) = pre.length + 1 + (RT.belowC f j).length + (f ch).CK.length by omega]
    exact this

def AllRet (w : World) (n : Int) (ps : Prs) (e : Ending) (w' : World) : Prop := (∃ v' dd, e = .returned (.agg #[v', .int .i64 n, .int .i64 dd, .bool true]) ∧ RP w' (fun _ => True) v' ps) ∧ Ext w w'
set_option maxRecDepth 100000 in
set_option maxHeartbeats 1600000 in
theorem all_some (w : World) (v : Value) (ps : Prs) (cs : Cls) (h : RC w (fun b => b < w.heap.size) v cs) (hk : RK ps cs) (h1 : cs ≠ []) (hpp : ∀ p ∈ ps, p.1.length ≤ 65535) (hpm : ps.length ≤ 1000000) (hcm : cs.length ≤ 90000000000) :
    Calls Tryd.prog 63 #[.int .i64 3, v] w (AllRet w (cs.length : Int) ps) := by
  have h0 := List.length_pos_iff.2 h1
  obtain ⟨T, hok, rfl, rfl⟩ := hk
  have hT : T.is = true := by cases hX : T.is with | true => rfl | false => rw [RT.is_false hX] at h1; simp [RT.CK] at h1
  have hrd := fun W (t : Ext w W) => read_any T W w.heap.size v (.slice none 0 0) (fun _ => True) T.CK [] [] [] [] hT (h.ext t) t.size (by simp) (RB.nil _ _) List.nil_prefix hok hpp (by omega) hpm
  simp only [List.length_nil, Int.natCast_zero, Nat.zero_add] at hrd
  obtain ⟨a, c, rfl, l1, m1, _⟩ := h.shape
  generalize T.CK.length = lc at *
  generalize T.prs = ps at *
  generalize T.deep = dT at *
  have b0 : ((lc : Int) == 0) = false := beq_eq_false_iff_ne.2 (by omega)
  unfold AllRet
  have H := Lib.hid h
  clear h
  have Hpp := Lib.hid hpp
  clear hpp
  have Hrd := Lib.hid hrd
  clear hrd
  have Hok := Lib.hid hok
  clear hok
  go_enter Tryd.func63, Tryd.ntmps63
  go_wp2_with (fail)
  have t0 : Ext w ((w.alloc (.cells #[.slice none 0 0, .int .i64 0, .int .i64 0, .bool false] 86)).alloc (.cells #[.slice none 0 0, .int .i64 0, .int .i64 0, .bool false] 86)) := ((Touch.refl _ _).alloc _).alloc _
  have hc0 := (Cb.new w [.slice none 0 0, .int .i64 0, .int .i64 0, .bool false] 86).keep ((Touch.refl (fun _ => False) _).alloc (.cells #[.slice none 0 0, .int .i64 0, .int .i64 0, .bool false] 86)) id
  have hc1 := Cb.new (w.alloc (.cells #[.slice none 0 0, .int .i64 0, .int .i64 0, .bool false] 86)) [.slice none 0 0, .int .i64 0, .int .i64 0, .bool false] 86
  rw [show (w.alloc (.cells #[.slice none 0 0, .int .i64 0, .int .i64 0, .bool false] 86)).heap.size = w.heap.size + 1 by simp] at hc1
  have hsz0 : w.heap.size + 1 < ((w.alloc (.cells #[.slice none 0 0, .int .i64 0, .int .i64 0, .bool false] 86)).alloc (.cells #[.slice none 0 0, .int .i64 0, .int .i64 0, .bool false] 86)).heap.size := by simp
  generalize (w.alloc (.cells #[.slice none 0 0, .int .i64 0, .int .i64 0, .bool false] 86)).alloc (.cells #[.slice none 0 0, .int .i64 0, .int .i64 0, .bool false] 86) = W2 at *
  (with_reducible refine (Hrd.out _ t0).mono ?_)
  intro e w1 hp
  unfold TRead at hp
  obtain ⟨⟨pa, pc, rfl, hpl, hpn, hpr⟩, t1⟩ := hp
  have hd0 := hc0.keep t1 id
  have hd1 := hc1.keep t1 id
  obtain ⟨y0, z0⟩ := hd0 0 _ rfl
  obtain ⟨y1, z1⟩ := hd0 1 _ rfl
  obtain ⟨y2, z2⟩ := hd0 2 _ rfl
  obtain ⟨y3, z3⟩ := hd0 3 _ rfl
  obtain ⟨r0, m0⟩ := hd1 0 _ rfl
  obtain ⟨r1, m1'⟩ := hd1 1 _ rfl
  obtain ⟨r2, m2⟩ := hd1 2 _ rfl
  obtain ⟨r3, m3⟩ := hd1 3 _ rfl
  have he1 := (((hd1.set 0 (.slice pa ps.length pc)).set 1 (.int .i64 (lc : Int))).set 2 (.int .i64 (dT : Int))).set 3 (.bool true)
  have tz := ((((Touch.refl (fun i => i = w.heap.size + 1) w1).setCell (p := ⟨w.heap.size + 1, 0, none⟩) (Or.inl rfl) (.slice pa ps.length pc)).setCell (p := ⟨w.heap.size + 1, 1, none⟩) (Or.inl rfl) (.int .i64 (lc : Int))).setCell (p := ⟨w.heap.size + 1, 2, none⟩) (Or.inl rfl) (.int .i64 (dT : Int))).setCell (p := ⟨w.heap.size + 1, 3, none⟩) (Or.inl rfl) (.bool true)
  have hd0' := hd0.keep tz (fun h => by have h : w.heap.size = w.heap.size + 1 := h; omega)
  have hend := (((hd0'.set 0 (.slice pa ps.length pc)).set 1 (.int .i64 (lc : Int))).set 2 (.int .i64 (dT : Int))).set 3 (.bool true)
  have tz2 := ((((Touch.refl (fun i => i = w.heap.size) ((((w1.setCell ⟨w.heap.size + 1, 0, none⟩ (.slice pa ps.length pc)).setCell ⟨w.heap.size + 1, 1, none⟩ (.int .i64 (lc : Int))).setCell ⟨w.heap.size + 1, 2, none⟩ (.int .i64 (dT : Int))).setCell ⟨w.heap.size + 1, 3, none⟩ (.bool true))).setCell (p := ⟨w.heap.size, 0, none⟩) (Or.inl rfl) (.slice pa ps.length pc)).setCell (p := ⟨w.heap.size, 1, none⟩) (Or.inl rfl) (.int .i64 (lc : Int))).setCell (p := ⟨w.heap.size, 2, none⟩) (Or.inl rfl) (.int .i64 (dT : Int))).setCell (p := ⟨w.heap.size, 3, none⟩) (Or.inl rfl) (.bool true)
  have xz := ((t0.trans' t1).ext_new tz (fun i hi => by have hi : i = w.heap.size + 1 := hi; omega)).ext_new tz2 (fun i hi => by have hi : i = w.heap.size := hi; omega)
  have rz := (RN.keep' (RN.keep' hpr tz (fun b hb => by have hb : b = w.heap.size + 1 := hb; omega)) tz2 (fun b hb => by have hb : b = w.heap.size := hb; omega)).rp
  have Hpr := Lib.hid hpr
  clear hpr
  have Hc0 := Lib.hid hc0
  clear hc0
  have Hc1 := Lib.hid hc1
  clear hc1
  have Hd0 := Lib.hid hd0
  clear hd0
  have Hd1 := Lib.hid hd1
  clear hd1
  have He1 := Lib.hid he1
  clear he1
  have Tz := Lib.hid tz
  clear tz
  have Hpl := Lib.hid hpl
  clear hpl
  have Hpn := Lib.hid hpn
  clear hpn
  have Hd0' := Lib.hid hd0'
  clear hd0'
  have Hend := Lib.hid hend
  clear hend
  have Tz2 := Lib.hid tz2
  clear tz2
  have Xz := Lib.hid xz
  clear xz
  have Rz := Lib.hid rz
  clear rz
  go_wp2_with (fail)
  obtain ⟨k0, _⟩ := Hend.out 0 _ rfl
  obtain ⟨k1, _⟩ := Hend.out 1 _ rfl
  obtain ⟨k2, _⟩ := Hend.out 2 _ rfl
  obtain ⟨k3, _⟩ := Hend.out 3 _ rfl
  exact bodyPost_ret (v := .agg #[.slice pa ps.length pc, .int .i64 (lc : Int), .int .i64 (dT : Int), .bool true]) (by simp [results, Tryd.results63, go_sem, k0, k1, k2, k3]) rfl ⟨⟨_, dT, rfl, Rz.out⟩, Xz.out⟩

set_option maxRecDepth 100000 in
set_option maxHeartbeats 1600000 in
theorem all_none (w : World) (a : Option Addr) (c : Nat) : Calls Tryd.prog 63 #[.int .i64 3, .slice a 0 c] w (AllRet w 0 []) := by
  unfold AllRet
  go_enter Tryd.func63, Tryd.ntmps63
  go_wp2_with (fail)
  refine bodyPost_ret (v := .agg #[.slice none 0 0, .int .i64 0, .int .i64 0, .bool true]) (by simp [results, Tryd.results63, go_sem]) rfl ⟨⟨_, 0, rfl, RP.nil _ _⟩, ?_⟩
  exact (Touch.refl _ _).alloc _
theorem all_any (w : World) (v : Value) (ps : Prs) (cs : Cls) (h : RC w (fun b => b < w.heap.size) v cs) (hk : RK ps cs) (hpp : ∀ p ∈ ps, p.1.length ≤ 65535) (hpm : ps.length ≤ 1000000) (hcm : cs.length ≤ 90000000000) :
    Calls Tryd.prog 63 #[.int .i64 3, v] w (AllRet w (cs.length : Int) ps) := by
  by_cases h0 : cs = []
  · obtain ⟨T, hok, rfl, rfl⟩ := hk
    have hT : T = .nil := by
      cases T with
      | nil => rfl
      | leaf k x => simp [RT.CK] at h0
      | node k o kd f => rw [RT.CK] at h0; simp at h0
    subst hT
    obtain ⟨a, c, rfl, _⟩ := h.shape
    exact all_none w a c
  · exact all_some w v ps cs h hk h0 hpp hpm hcm

set_option maxRecDepth 100000 in
set_option maxHeartbeats 1600000 in
theorem right_any (w : World) (t r : Nat) (ps : Prs) (most : Int) (h : Tp w t F ps most) (hf : Rf w r G ps) :
    Calls Tryd.prog 35 #[.pointer (some ⟨t, 0, none⟩), .pointer (some ⟨r, 0, none⟩)] w fun e w' => e = .returned (.bool true) ∧ Ext w w' := by
  have hm := h.few
  have hsh := RadV.shape_any w t F ps most h
  have hr := h.rises
  have hpp : ∀ p ∈ ps, KB p.1 ∧ p.1.length ≤ 65535 := fun p hp => ⟨h.kb p hp, h.long p hp⟩
  have hfits := h.fits
  have hli := fun W (x : Ext w W) => TreeB.live_tp W t ps most (h.ext x)
  have hmo := fun W (x : Ext w W) => TreeB.most_any W t ps most (h.ext x)
  have hln := fun W (x : Ext w W) => TreeA.len_any W _ ps (h.ext x).tq
  obtain ⟨rv, r0, hrow⟩ := hf.row
  obtain ⟨ra, rc, rfl, _⟩ := hrow.shape
  have hsp := fun W (x : Ext w W) (v : Value) (F : Nat → Prop) (hv : RP W F v ps) => SameP.same_pairs W v _ ps hv (hrow.ext x) hm (fun p hp => by have := (hpp p hp).2; omega)
  have hb : decide (((szK ps : Nat) : Int) ≤ most) = true := by simpa using hfits.1
  have hszm : szK ps ≤ 90000000000 := by omega
  have hal := fun W v cs (hrc : RC W (fun b => b < W.heap.size) v cs) (hk : RK ps cs) => all_any W v ps cs hrc hk (fun p hp => (hpp p hp).2) hm (by rw [hk.length]; exact hszm)
  unfold AllRet at hal
  generalize hlcq : szK ps = lc at *
  have Hlcq := Lib.hid hlcq
  clear hlcq
  have H := Lib.hid h
  clear h
  have Hf := Lib.hid hf
  clear hf
  have Hsh := Lib.hid hsh
  clear hsh
  have Hr := Lib.hid hr
  clear hr
  have Hpp := Lib.hid hpp
  clear hpp
  have Hfits := Lib.hid hfits
  clear hfits
  have Hli := Lib.hid hli
  clear hli
  have Hmo := Lib.hid hmo
  clear hmo
  have Hln := Lib.hid hln
  clear hln
  have Hrow := Lib.hid hrow
  clear hrow
  have Hsp := Lib.hid hsp
  clear hsp
  have Hal := Lib.hid hal
  clear hal
  have Hszm := Lib.hid hszm
  clear hszm
  go_enter Tryd.func35, Tryd.ntmps35
  go_wp2_with (fail)
  (with_reducible refine Hsh.out.mono ?_)
  rintro e w1 ⟨⟨v1, cs, rfl, htk, hrc, _⟩, t1⟩
  have hall := Hal.out w1 v1 cs hrc htk
  obtain ⟨sa, sc, hv1, _⟩ := hrc.shape
  have hcl := htk.length
  rw [Hlcq.out] at hcl
  rw [hcl] at hv1 hall
  subst hv1
  have Hall := Lib.hid hall
  clear hall
  have Hrc := Lib.hid hrc
  clear hrc
  have Htk := Lib.hid htk
  clear htk
  have Hcl := Lib.hid hcl
  clear hcl
  go_wp2_with (fail)
  (with_reducible refine Hall.out.mono ?_)
  rintro e w2 ⟨⟨v2, dp, rfl, hp2⟩, t2⟩
  obtain ⟨pa, pc, rfl, _⟩ := hp2.shape
  have x2 := (t1.trans' t2).alloc (.cells #[.slice pa ps.length pc, .int .i64 (lc : Int), .int .i64 dp, .bool true] 86)
  have k0 : (w2.alloc (.cells #[.slice pa ps.length pc, .int .i64 (lc : Int), .int .i64 dp, .bool true] 86)).cell? ⟨w2.heap.size, 0, none⟩ = some (.slice pa ps.length pc) := by simp
  have k3 : (w2.alloc (.cells #[.slice pa ps.length pc, .int .i64 (lc : Int), .int .i64 dp, .bool true] 86)).cell? ⟨w2.heap.size, 3, none⟩ = some (.bool true) := by simp
  have hp3 := hp2.ext ((Touch.refl _ _).alloc (.cells #[.slice pa ps.length pc, .int .i64 (lc : Int), .int .i64 dp, .bool true] 86))
  have q0 := keepc x2 id r0
  clear hp2 t2
  have Hp3 := Lib.hid hp3
  clear hp3
  go_wp2_with (fail)
  generalize w2.alloc (.cells #[.slice pa ps.length pc, .int .i64 (lc : Int), .int .i64 dp, .bool true] 86) = w3 at *
  generalize w2.heap.size = br at *
  refine wp_region_plan (.take 0 (.take 1 (.take 2 (.take 3 (.take 4 (.take 5 (.take 6 (.take 7 (.take 8 (.must 9 (.take 10 (.take 11 (.take 12 (.take 14 (.take 15 (.must 13 (.take 16 (.take 17 (.take 18 (.take 19 (.take 21 (.must 20 (.must 22 (.take 23 (.take 24 (.take 25 (.take 26 (.take 28 (.take 29 (.take 30 (.take 31 (.take 32 (.must 27 (.take 33 (.take 34 (.take 35 .done)))))))))))))))))))))))))))))))))))) (fun wy => wy.cell? ⟨br, 0, none⟩ = some (.slice pa ps.length pc) ∧ wy.cell? ⟨br, 3, none⟩ = some (.bool true) ∧ wy.cell? ⟨r, 0, none⟩ = some (.slice ra ps.length rc)) (by kernel_rfl) (by kernel_rfl) (by kernel_rfl) rfl ?_ (fun KK hKK => ?_)
  · exact ⟨k0, k3, q0⟩
  repeat (first
    | (refine wpPlan_take (v := ?_) rfl (by rfl) (fun W hW => ?_) ?_; rotate_left; (focus ((try dsimp only at hW); go_split_ands; go_simp; (try with_reducible rfl); done)); (try simp only [Act.put, List.setIfInBounds_toArray, List.set_cons_zero, List.set_cons_succ]))
    | (refine wpPlan_skip rfl (by rfl) ?_; (try simp only [Act.put, List.setIfInBounds_toArray, List.set_cons_zero, List.set_cons_succ])))
  refine wpPlan_must rfl (by rfl) (fun K hK => ?_)
  go_simp
  (with_reducible refine (Hsp.out _ x2.drew _ _ (Hp3.out.ext (Touch.refl _ _).drew)).mono ?_)
  rintro e w4 ⟨rfl, t4⟩
  have y4 : Ext w3 w4 := (Touch.refl _ _).drew.trans' t4
  have x4 := x2.trans' y4
  refine hK.out _ _ ?_ ?_
  · exact ⟨keepc y4 id k0, keepc y4 id k3, keepc y4 id q0⟩
  clear hK K
  (try simp only [Act.put, List.setIfInBounds_toArray, List.set_cons_zero, List.set_cons_succ])
  repeat (first
    | (refine wpPlan_take (v := ?_) rfl (by rfl) (fun W hW => ?_) ?_; rotate_left; (focus ((try dsimp only at hW); go_split_ands; go_simp; (try with_reducible rfl); done)); (try simp only [Act.put, List.setIfInBounds_toArray, List.set_cons_zero, List.set_cons_succ]))
    | (refine wpPlan_skip rfl (by rfl) ?_; (try simp only [Act.put, List.setIfInBounds_toArray, List.set_cons_zero, List.set_cons_succ])))
  refine wpPlan_must rfl (by rfl) (fun K hK => ?_)
  go_simp
  (with_reducible refine (Hli.out _ x4).mono ?_)
  rintro e w5 ⟨rfl, rfl⟩
  refine hK.out _ _ ?_ ?_
  · exact ⟨keepc y4 id k0, keepc y4 id k3, keepc y4 id q0⟩
  clear hK K
  (try simp only [Act.put, List.setIfInBounds_toArray, List.set_cons_zero, List.set_cons_succ])
  repeat (first
    | (refine wpPlan_take (v := ?_) rfl (by rfl) (fun W hW => ?_) ?_; rotate_left; (focus ((try dsimp only at hW); go_split_ands; go_simp; (try with_reducible rfl); done)); (try simp only [Act.put, List.setIfInBounds_toArray, List.set_cons_zero, List.set_cons_succ]))
    | (refine wpPlan_skip rfl (by rfl) ?_; (try simp only [Act.put, List.setIfInBounds_toArray, List.set_cons_zero, List.set_cons_succ])))
  refine wpPlan_must rfl (by rfl) (fun K hK => ?_)
  go_simp
  (with_reducible refine (Hli.out _ x4).mono ?_)
  rintro e w5 ⟨rfl, rfl⟩
  refine hK.out _ _ ?_ ?_
  · exact ⟨keepc y4 id k0, keepc y4 id k3, keepc y4 id q0⟩
  clear hK K
  (try simp only [Act.put, List.setIfInBounds_toArray, List.set_cons_zero, List.set_cons_succ])
  repeat (first
    | (refine wpPlan_take (v := ?_) rfl (by rfl) (fun W hW => ?_) ?_; rotate_left; (focus ((try dsimp only at hW); go_split_ands; go_simp; (try with_reducible rfl); done)); (try simp only [Act.put, List.setIfInBounds_toArray, List.set_cons_zero, List.set_cons_succ]))
    | (refine wpPlan_skip rfl (by rfl) ?_; (try simp only [Act.put, List.setIfInBounds_toArray, List.set_cons_zero, List.set_cons_succ])))
  refine wpPlan_must rfl (by rfl) (fun K hK => ?_)
  go_simp
  (with_reducible refine (Hmo.out _ x4).mono ?_)
  rintro e w5 ⟨rfl, rfl⟩
  refine hK.out _ _ ?_ ?_
  · exact ⟨keepc y4 id k0, keepc y4 id k3, keepc y4 id q0⟩
  clear hK K
  (try simp only [Act.put, List.setIfInBounds_toArray, List.set_cons_zero, List.set_cons_succ])
  repeat (first
    | (refine wpPlan_take (v := ?_) rfl (by rfl) (fun W hW => ?_) ?_; rotate_left; (focus ((try dsimp only at hW); go_split_ands; go_simp; (try with_reducible rfl); done)); (try simp only [Act.put, List.setIfInBounds_toArray, List.set_cons_zero, List.set_cons_succ]))
    | (refine wpPlan_skip rfl (by rfl) ?_; (try simp only [Act.put, List.setIfInBounds_toArray, List.set_cons_zero, List.set_cons_succ])))
  refine wpPlan_must rfl (by rfl) (fun K hK => ?_)
  go_simp
  (with_reducible refine (Hln.out _ x4).mono ?_)
  rintro e w5 ⟨rfl, rfl⟩
  refine hK.out _ _ ?_ ?_
  · exact ⟨keepc y4 id k0, keepc y4 id k3, keepc y4 id q0⟩
  clear hK K
  (try simp only [Act.put, List.setIfInBounds_toArray, List.set_cons_zero, List.set_cons_succ])
  repeat (first
    | (refine wpPlan_take (v := ?_) rfl (by rfl) (fun W hW => ?_) ?_; rotate_left; (focus ((try dsimp only at hW); go_split_ands; go_simp; (try with_reducible rfl); done)); (try simp only [Act.put, List.setIfInBounds_toArray, List.set_cons_zero, List.set_cons_succ]))
    | (refine wpPlan_skip rfl (by rfl) ?_; (try simp only [Act.put, List.setIfInBounds_toArray, List.set_cons_zero, List.set_cons_succ])))
  refine wpPlan_done (hKK.out _ _ ?_)
  clear hKK KK
  go_wp2_with (fail)
  go_ret
  exact ⟨rfl, x4⟩
end RadU
end Go.Proofs.YtclnnkacfanaiaaDoor
