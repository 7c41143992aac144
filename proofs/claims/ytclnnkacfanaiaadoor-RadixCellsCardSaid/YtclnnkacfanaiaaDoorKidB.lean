/- Package kid: contracts of a node's calls. -/
import Derived.Test.YtclnnkacfanaiaaDoorKidA
namespace Go.Proofs.YtclnnkacfanaiaaDoor
open Go.RowKit
set_option linter.unusedVariables false
set_option linter.unusedSimpArgs false
namespace KidB
open MaskA MaskP KidA

def roomI : Nat → Int
  | 0 => 4
  | 1 => 16
  | 2 => 48
  | _ => 256
def leftI : Nat → Int
  | 0 => -1
  | 1 => 3
  | 2 => 12
  | _ => 40
theorem tb_room {w : World} (t : Tr w) (k : Nat) (hk : k < 4) : w.cell? ⟨1, k, none⟩ = some (.int .i64 (roomI k)) := by
  match k, hk with
  | 0, _ => exact t.r0
  | 1, _ => exact t.r1
  | 2, _ => exact t.r2
  | 3, _ => exact t.r3
theorem tb_left {w : World} (t : Tl w) (k : Nat) (hk : k < 4) : w.cell? ⟨0, k, none⟩ = some (.int .i64 (leftI k)) := by
  match k, hk with
  | 0, _ => exact t.l0
  | 1, _ => exact t.l1
  | 2, _ => exact t.l2
  | 3, _ => exact t.l3
theorem room_bd (k : Nat) : 4 ≤ roomI k ∧ roomI k ≤ 256 := by unfold roomI; split <;> omega
theorem left_bd (k : Nat) : -1 ≤ leftI k ∧ leftI k ≤ 40 := by unfold leftI; split <;> omega
/-- a child more, or none -/
def seth (h : Nat → Int) (b : Nat) (x : Int) : Nat → Int := fun i => if i = b then x else h i
theorem hs_put (h : Nat → Int) (b : Nat) {x : Int} (hx : x ≠ 0) : hs (seth h b x) = setb (hs h) b true := by
  funext i; simp only [hs, seth, setb]; split <;> simp [hx]
theorem hs_drop (h : Nat → Int) (b : Nat) : hs (seth h b 0) = setb (hs h) b false := by
  funext i; simp only [hs, seth, setb]; split <;> simp
def upK (kd n : Nat) : Nat := if roomI kd < (n : Int) then kd + 1 else kd
def dnK (kd n : Nat) : Nat := if (n : Int) ≤ leftI kd then kd - 1 else kd
theorem up_lt {kd n : Nat} (hk : kd < 4) (hn : n ≤ 256) : upK kd n < 4 := by
  unfold upK
  split
  · rename_i h
    rcases (show kd = 0 ∨ kd = 1 ∨ kd = 2 ∨ kd = 3 by omega) with rfl | rfl | rfl | rfl
    · omega
    · omega
    · omega
    · simp [roomI] at h; omega
  · exact hk
theorem dn_lt {kd n : Nat} (hk : kd < 4) : dnK kd n < 4 := by unfold dnK; split <;> omega
theorem dn_pos {kd n : Nat} (h : (n : Int) ≤ leftI kd) : 0 < kd := by
  rcases Nat.eq_zero_or_pos kd with rfl | h0
  · simp [leftI] at h; omega
  · exact h0

/-- another value at a child's place, another mask -/
theorem kn_set {w : World} {g : Nat} {kd : Int} {h h' : Nat → Int} (k : Kn w g kd h) (b : Nat) (hb : b < 256) (he : ∀ i, i ≠ b → h' i = h i) :
    Kn (((((w.setCell ⟨g, 5 + b, none⟩ (.int .u32 (h' b))).setCell ⟨g, 1, none⟩ (.int .u64 (word (hs h') 0 : Nat))).setCell ⟨g, 2, none⟩ (.int .u64 (word (hs h') 1 : Nat))).setCell ⟨g, 3, none⟩ (.int .u64 (word (hs h') 2 : Nat))).setCell ⟨g, 4, none⟩ (.int .u64 (word (hs h') 3 : Nat))) g kd h' := by
  have o : ∀ (W : World) (i j : Nat) (v : Value), i ≠ j → (W.setCell ⟨g, i, none⟩ v).cell? ⟨g, j, none⟩ = W.cell? ⟨g, j, none⟩ := fun W i j v hij => World.cell?_setCell_other _ _ _ _ (fun h => hij (congrArg Addr.off h))
  refine ⟨?_, ?_, ?_, ?_, ?_, fun i hi => ?_, fun i hi => ?_⟩
  · rw [o _ _ _ _ (by omega), o _ _ _ _ (by omega), o _ _ _ _ (by omega), o _ _ _ _ (by omega), o _ _ _ _ (by omega)]; exact k.kind
  · rw [o _ _ _ _ (by omega), o _ _ _ _ (by omega), o _ _ _ _ (by omega)]
    exact World.cell?_setCell_same _ _ _ (by rw [o _ _ _ _ (by omega)]; exact k.m0)
  · rw [o _ _ _ _ (by omega), o _ _ _ _ (by omega)]
    exact World.cell?_setCell_same _ _ _ (by rw [o _ _ _ _ (by omega), o _ _ _ _ (by omega)]; exact k.m1)
  · rw [o _ _ _ _ (by omega)]
    exact World.cell?_setCell_same _ _ _ (by rw [o _ _ _ _ (by omega), o _ _ _ _ (by omega), o _ _ _ _ (by omega)]; exact k.m2)
  · exact World.cell?_setCell_same _ _ _ (by rw [o _ _ _ _ (by omega), o _ _ _ _ (by omega), o _ _ _ _ (by omega), o _ _ _ _ (by omega)]; exact k.m3)
  · rw [o _ _ _ _ (by omega), o _ _ _ _ (by omega), o _ _ _ _ (by omega), o _ _ _ _ (by omega)]
    by_cases e : i = b
    · subst e
      exact World.cell?_setCell_same _ _ _ (k.kid i hi)
    · rw [o _ _ _ _ (by omega), he i e]; exact k.kid i hi
  · simp only [World.frozen?_setCell]; exact k.fr i hi
theorem kn_kind {w : World} {g : Nat} {kd : Int} {h : Nat → Int} (k : Kn w g kd h) (kd' : Int) : Kn (w.setCell ⟨g, 0, none⟩ (.int .i64 kd')) g kd' h := by
  have o : ∀ (j : Nat), 0 ≠ j → (w.setCell ⟨g, 0, none⟩ (.int .i64 kd')).cell? ⟨g, j, none⟩ = w.cell? ⟨g, j, none⟩ := fun j hij => World.cell?_setCell_other _ _ _ _ (fun h => hij (congrArg Addr.off h))
  exact ⟨World.cell?_setCell_same _ _ _ k.kind, by rw [o 1 (by omega)]; exact k.m0, by rw [o 2 (by omega)]; exact k.m1, by rw [o 3 (by omega)]; exact k.m2, by rw [o 4 (by omega)]; exact k.m3, fun i hi => by rw [o _ (by omega)]; exact k.kid i hi, fun i hi => by rw [World.frozen?_setCell]; exact k.fr i hi⟩

section
variable {w : World} {g : Nat} {h : Nat → Int}
set_option maxRecDepth 100000 in
set_option maxHeartbeats 400000 in
theorem kind_any (kd : Nat) (k : Kn w g kd h) (hk : kd < 4) : Calls Tryd.prog 81 #[.pointer (some ⟨g, 0, none⟩)] w fun e w' => e = .returned (.int .i64 (6 + (kd : Int))) ∧ w = w' := by
  have c := k.kind
  go_enter Tryd.func81, Tryd.ntmps81
  go_wp2_with (fail)
  go_ret
  exact ⟨rfl, rfl⟩
set_option maxRecDepth 100000 in
set_option maxHeartbeats 400000 in
theorem kind_nil (w : World) : Calls Tryd.prog 81 #[.pointer none] w fun e w' => e = .returned (.int .i64 0) ∧ w = w' := by
  go_enter Tryd.func81, Tryd.ntmps81
  go_wp2_with (fail)
  go_ret
  exact ⟨rfl, rfl⟩
set_option maxRecDepth 100000 in
set_option maxHeartbeats 400000 in
theorem len_any (kd : Int) (k : Kn w g kd h) : Calls Tryd.prog 82 #[.pointer (some ⟨g, 0, none⟩)] w fun e w' => e = .returned (.int .i64 (cnt (hs h) 256 : Nat)) ∧ Ext w w' := by
  obtain ⟨_, c1, c2, c3, c4, _, _⟩ := k
  go_enter Tryd.func82, Tryd.ntmps82
  go_wp2_with (fail)
  (with_reducible refine (count_any' (hs h) _).mono ?_)
  rintro e w' ⟨rfl, t⟩
  go_wp2_with (fail)
  go_ret
  exact ⟨rfl, t⟩
set_option maxRecDepth 100000 in
set_option maxHeartbeats 400000 in
theorem len_nil (w : World) : Calls Tryd.prog 82 #[.pointer none] w fun e w' => e = .returned (.int .i64 0) ∧ w = w' := by
  go_enter Tryd.func82, Tryd.ntmps82
  go_wp2_with (fail)
  go_ret
  exact ⟨rfl, rfl⟩

def KPut (w : World) (g kd : Nat) (h' : Nat → Int) (e : Ending) (w' : World) : Prop := e = .returned (.int .i64 0) ∧ Kn w' g (upK kd (cnt (hs h') 256) : Nat) h' ∧ Touch (fun b => b = g) w w'
set_option maxRecDepth 100000 in
set_option maxHeartbeats 1600000 in
theorem putR (kd : Nat) (hkn : Kn w g kd h) (hk : kd < 4) (htb : Tr w) (hg : g ≠ 1) (b : Nat) (hb : b < 256) (x : Int) (hx : x ≠ 0) :
    Calls Tryd.prog 96 #[.pointer (some ⟨g, 0, none⟩), .int .u8 b, .int .u32 x] w (KPut w g kd (seth h b x)) := by
  obtain ⟨c0, c1, c2, c3, c4, ck, cf⟩ := hkn
  have hkn : Kn w g kd h := ⟨c0, c1, c2, c3, c4, ck, cf⟩
  have cb := ck b hb
  have b0 : (0 : Int) ≤ (b : Int) := by omega
  have b1 : (b : Int) < 256 := by omega
  have hx0 : (x == 0) = false := beq_eq_false_iff_ne.2 hx
  have hcl := cnt_le (hs (seth h b x)) 256
  have hss := hs_put h b hx
  have hsx : seth h b x b = x := by simp [seth]
  have hrb := room_bd kd
  clear ck cf
  unfold KPut
  have Hkn := Lib.hid hkn
  clear hkn
  have Hx := Lib.hid hx
  clear hx
  have Htb := Lib.hid htb
  clear htb
  have Hg := Lib.hid hg
  clear hg
  have Hss := Lib.hid hss
  clear hss
  have Hsx := Lib.hid hsx
  clear hsx
  go_enter Tryd.func96, Tryd.ntmps96
  go_wp2_with (fail)
  refine wp_region_plan (.take 0 (.take 1 (.take 2 (.take 3 (.take 4 (.take 5 (.take 6 (.take 7 (.take 8 (.take 10 (.take 11 (.must 9 (.take 12 (.must 13 (.take 14 (.take 15 (.last 16 .done))))))))))))))))) (fun W => W.cell? ⟨g, 1, none⟩ = some (.int .u64 (word (hs h) 0 : Nat)) ∧ W.cell? ⟨g, 2, none⟩ = some (.int .u64 (word (hs h) 1 : Nat)) ∧ W.cell? ⟨g, 3, none⟩ = some (.int .u64 (word (hs h) 2 : Nat)) ∧ W.cell? ⟨g, 4, none⟩ = some (.int .u64 (word (hs h) 3 : Nat))) (by kernel_rfl) (by kernel_rfl) (by kernel_rfl) rfl ?_ (fun KK hKK => ?_)
  · exact ⟨c1, c2, c3, c4⟩
  repeat (first
    | (refine wpPlan_take (v := ?_) rfl (by rfl) (fun W hW => ?_) ?_; rotate_left; (focus ((try dsimp only at hW); go_split_ands; go_simp; (try with_reducible rfl); done)); (try simp only [Act.put, List.setIfInBounds_toArray, List.set_cons_zero, List.set_cons_succ]))
    | (refine wpPlan_skip rfl (by rfl) ?_; (try simp only [Act.put, List.setIfInBounds_toArray, List.set_cons_zero, List.set_cons_succ])))
  refine wpPlan_must rfl (by rfl) (fun K hK => ?_)
  go_simp
  (with_reducible refine (with_any' (hs h) b hb _).mono ?_)
  rintro e w2 ⟨rfl, t2⟩
  rw [← Hss.out]
  have x2 : Ext w w2 := (Touch.refl _ _).drew.trans' t2
  have k2 := Hkn.out.ext x2
  have d1 := k2.m0
  have d2 := k2.m1
  have d3 := k2.m2
  have d4 := k2.m3
  have db := k2.kid b hb
  have fb := k2.fr (5 + b) (by omega)
  have K2 := Lib.hid k2
  clear k2
  have X2 := Lib.hid x2
  clear x2
  refine hK.out _ _ ?_ ?_
  · exact ⟨d1, d2, d3, d4⟩
  clear hK K
  (try simp only [Act.put, List.setIfInBounds_toArray, List.set_cons_zero, List.set_cons_succ])
  repeat (first
    | (refine wpPlan_take (v := ?_) rfl (by rfl) (fun W hW => ?_) ?_; rotate_left; (focus ((try dsimp only at hW); go_split_ands; go_simp; (try with_reducible rfl); done)); (try simp only [Act.put, List.setIfInBounds_toArray, List.set_cons_zero, List.set_cons_succ]))
    | (refine wpPlan_skip rfl (by rfl) ?_; (try simp only [Act.put, List.setIfInBounds_toArray, List.set_cons_zero, List.set_cons_succ])))
  refine wpPlan_must rfl (by rfl) (fun K hK => ?_)
  go_simp
  obtain ⟨w3, hw3⟩ : ∃ w3, w3 = w2.setCell ⟨g, 5 + b, none⟩ (.int .u32 x) := ⟨_, rfl⟩
  rw [← hw3]
  have e1 : w3.cell? ⟨g, 1, none⟩ = some (.int .u64 (word (hs h) 0 : Nat)) := by rw [hw3, World.cell?_setCell_other _ _ _ _ (fun h => by have := congrArg Addr.off h; simp at this; omega)]; exact d1
  have e2 : w3.cell? ⟨g, 2, none⟩ = some (.int .u64 (word (hs h) 1 : Nat)) := by rw [hw3, World.cell?_setCell_other _ _ _ _ (fun h => by have := congrArg Addr.off h; simp at this; omega)]; exact d2
  have e3 : w3.cell? ⟨g, 3, none⟩ = some (.int .u64 (word (hs h) 2 : Nat)) := by rw [hw3, World.cell?_setCell_other _ _ _ _ (fun h => by have := congrArg Addr.off h; simp at this; omega)]; exact d3
  have e4 : w3.cell? ⟨g, 4, none⟩ = some (.int .u64 (word (hs h) 3 : Nat)) := by rw [hw3, World.cell?_setCell_other _ _ _ _ (fun h => by have := congrArg Addr.off h; simp at this; omega)]; exact d4
  have f1 : w3.frozen? ⟨g, 1, none⟩ = false := by rw [hw3, World.frozen?_setCell]; exact K2.out.fr 1 (by omega)
  have f2 : w3.frozen? ⟨g, 2, none⟩ = false := by rw [hw3, World.frozen?_setCell]; exact K2.out.fr 2 (by omega)
  have f3 : w3.frozen? ⟨g, 3, none⟩ = false := by rw [hw3, World.frozen?_setCell]; exact K2.out.fr 3 (by omega)
  have f4 : w3.frozen? ⟨g, 4, none⟩ = false := by rw [hw3, World.frozen?_setCell]; exact K2.out.fr 4 (by omega)
  clear d1 d2 d3 d4 db fb
  have Hw3 := Lib.hid hw3
  clear hw3
  refine hK.out _ _ ?_ ?_
  · exact ⟨e1, e2, e3, e4⟩
  clear hK K
  (try simp only [Act.put, List.setIfInBounds_toArray, List.set_cons_zero, List.set_cons_succ])
  repeat (first
    | (refine wpPlan_take (v := ?_) rfl (by rfl) (fun W hW => ?_) ?_; rotate_left; (focus ((try dsimp only at hW); go_split_ands; go_simp; (try with_reducible rfl); done)); (try simp only [Act.put, List.setIfInBounds_toArray, List.set_cons_zero, List.set_cons_succ]))
    | (refine wpPlan_skip rfl (by rfl) ?_; (try simp only [Act.put, List.setIfInBounds_toArray, List.set_cons_zero, List.set_cons_succ])))
  refine wpPlan_last rfl (by rfl) (fun K hK => ?_)
  go_simp
  obtain ⟨w4, hw4⟩ : ∃ w4, w4 = (((w3.setCell ⟨g, 1, none⟩ (.int .u64 (word (hs (seth h b x)) 0 : Nat))).setCell ⟨g, 2, none⟩ (.int .u64 (word (hs (seth h b x)) 1 : Nat))).setCell ⟨g, 3, none⟩ (.int .u64 (word (hs (seth h b x)) 2 : Nat))).setCell ⟨g, 4, none⟩ (.int .u64 (word (hs (seth h b x)) 3 : Nat)) := ⟨_, rfl⟩
  rw [← hw4]
  have k4 : Kn w4 g kd (seth h b x) := by
    have := kn_set K2.out b hb (h' := seth h b x) (fun i hi => by simp [seth, hi])
    rw [Hsx.out] at this
    rw [hw4, Hw3.out]; exact this
  have t4 : Touch (fun i => i = g) w2 w4 := by
    rw [hw4, Hw3.out]
    exact (((((Touch.refl (fun i => i = g) w2).setCell (p := ⟨g, 5 + b, none⟩) (Or.inl rfl) _).setCell (p := ⟨g, 1, none⟩) (Or.inl rfl) _).setCell (p := ⟨g, 2, none⟩) (Or.inl rfl) _).setCell (p := ⟨g, 3, none⟩) (Or.inl rfl) _).setCell (p := ⟨g, 4, none⟩) (Or.inl rfl) _
  have tw := X2.out.ext_trans t4
  clear Hw3 hw4 e1 e2 e3 e4 f1 f2 f3 f4 c0 c1 c2 c3 c4 cb
  have c0 := k4.kind
  have g0 := k4.fr 0 (by omega)
  have hln := fun W (x : Ext w4 W) => len_any (kd : Int) (k4.ext x)
  have tb4 := Htb.out.keep tw (fun h => Hg.out h.symm)
  have cr := tb_room tb4 kd hk
  generalize hcn : cnt (hs (seth h b x)) 256 = n at *
  have K4 := Lib.hid k4
  clear k4
  have T4 := Lib.hid t4
  clear t4
  have Tw := Lib.hid tw
  clear tw
  have Hln := Lib.hid hln
  clear hln
  have Tb4 := Lib.hid tb4
  clear tb4
  have Hcn := Lib.hid hcn
  clear hcn
  refine hK.out _ _ ?_
  clear hK K
  (try simp only [Act.put, List.setIfInBounds_toArray, List.set_cons_zero, List.set_cons_succ])
  refine wpPlan_done (hKK.out _ _ ?_)
  clear hKK KK
  have k0 : (0 : Int) ≤ (kd : Int) := by omega
  have k1 : (kd : Int) < 4 := by omega
  go_wp2_with (fail)
  refine wp_region_plan (.take 0 (.take 2 (.take 3 (.take 4 (.take 5 (.take 6 (.take 7 (.must 1 (.take 8 .done))))))))) (fun W => W.cell? ⟨g, 0, none⟩ = some (.int .i64 kd) ∧ W.cell? ⟨1, kd, none⟩ = some (.int .i64 (roomI kd))) (by kernel_rfl) (by kernel_rfl) (by kernel_rfl) rfl ?_ (fun KK hKK => ?_)
  · exact ⟨c0, cr⟩
  repeat (first
    | (refine wpPlan_take (v := ?_) rfl (by rfl) (fun W hW => ?_) ?_; rotate_left; (focus ((try dsimp only at hW); go_split_ands; go_simp; (try with_reducible rfl); done)); (try simp only [Act.put, List.setIfInBounds_toArray, List.set_cons_zero, List.set_cons_succ]))
    | (refine wpPlan_skip rfl (by rfl) ?_; (try simp only [Act.put, List.setIfInBounds_toArray, List.set_cons_zero, List.set_cons_succ])))
  refine wpPlan_must rfl (by rfl) (fun K hK => ?_)
  go_simp
  (with_reducible refine (Hln.out _ (Touch.refl _ _).drew).mono ?_)
  rintro e w5 ⟨rfl, t5⟩
  have x5 : Ext w4 w5 := (Touch.refl _ _).drew.trans' t5
  have c0 := keepc x5 id c0
  have g0' := (K4.out.ext x5).fr 0 (by omega)
  have X5 := Lib.hid x5
  clear x5
  refine hK.out _ _ ?_ ?_
  · exact ⟨c0, keepc X5.out id cr⟩
  clear hK K
  (try simp only [Act.put, List.setIfInBounds_toArray, List.set_cons_zero, List.set_cons_succ])
  repeat (first
    | (refine wpPlan_take (v := ?_) rfl (by rfl) (fun W hW => ?_) ?_; rotate_left; (focus ((try dsimp only at hW); go_split_ands; go_simp; (try with_reducible rfl); done)); (try simp only [Act.put, List.setIfInBounds_toArray, List.set_cons_zero, List.set_cons_succ]))
    | (refine wpPlan_skip rfl (by rfl) ?_; (try simp only [Act.put, List.setIfInBounds_toArray, List.set_cons_zero, List.set_cons_succ])))
  refine wpPlan_done (hKK.out _ _ ?_)
  clear hKK KK
  have tz := fun v => (Touch.refl (fun i => i = g) w5).setCell (p := ⟨g, 0, none⟩) (Or.inl rfl) v
  have hup : upK kd n = if roomI kd < (n : Int) then kd + 1 else kd := rfl
  have Tz := Lib.hid tz
  clear tz
  have Hup := Lib.hid hup
  clear hup
  by_cases hr : roomI kd < (n : Int)
  · go_wp2_with (fail)
    go_ret
    rw [Hcn.out, Hup.out, if_pos hr]
    exact ⟨rfl, kn_kind (K4.out.ext X5.out) _, (Tw.out.trans' X5.out.none_to).trans' (Tz.out _)⟩
  · go_wp2_with (fail)
    go_ret
    rw [Hcn.out, Hup.out, if_neg (by omega)]
    exact ⟨rfl, K4.out.ext X5.out, Tw.out.trans' X5.out.none_to⟩

set_option maxRecDepth 100000 in
set_option maxHeartbeats 800000 in
theorem drop_not (kd : Int) (hkn : Kn w g kd h) (b : Nat) (hb : b < 256) (hz : h b = 0) :
    Calls Tryd.prog 84 #[.pointer (some ⟨g, 0, none⟩), .int .u8 b] w fun e w' => e = .returned (.tuple #[.int .u32 0, .bool false]) ∧ Ext w w' := by
  obtain ⟨c0, c1, c2, c3, c4, ck, cf⟩ := hkn
  have hh := fun W => has_any' (hs h) b hb W
  rw [show hs h b = false by simp [hs, hz]] at hh
  clear ck cf
  have Hh := Lib.hid hh
  clear hh
  have Hz := Lib.hid hz
  clear hz
  go_enter Tryd.func84, Tryd.ntmps84
  go_wp2_with (fail)
  (with_reducible refine (Hh.out _).mono ?_)
  rintro e w2 ⟨rfl, t2⟩
  go_wp2_with (fail)
  exact bodyPost_ret (v := .tuple #[.int .u32 0, .bool false]) (by simp [results, Tryd.results84, go_sem]) rfl ⟨rfl, t2⟩
set_option maxRecDepth 100000 in
set_option maxHeartbeats 800000 in
theorem drop_nil (w : World) (b : Int) :
    Calls Tryd.prog 84 #[.pointer none, .int .u8 b] w fun e w' => e = .returned (.tuple #[.int .u32 0, .bool false]) ∧ w = w' := by
  go_enter Tryd.func84, Tryd.ntmps84
  go_wp2_with (fail)
  exact bodyPost_ret (v := .tuple #[.int .u32 0, .bool false]) (by simp [results, Tryd.results84, go_sem]) rfl ⟨rfl, rfl⟩
set_option maxRecDepth 100000 in
set_option maxHeartbeats 400000 in
theorem put_nil (w : World) (b x : Int) :
    Calls Tryd.prog 96 #[.pointer none, .int .u8 b, .int .u32 x] w fun e w' => e = .returned (.int .i64 1) ∧ w = w' := by
  go_enter Tryd.func96, Tryd.ntmps96
  go_wp2_with (fail)
  go_ret
  exact ⟨rfl, rfl⟩
set_option maxRecDepth 100000 in
set_option maxHeartbeats 400000 in
theorem put_zero (w : World) (g : Nat) (b : Int) :
    Calls Tryd.prog 96 #[.pointer (some ⟨g, 0, none⟩), .int .u8 b, .int .u32 0] w fun e w' => e = .returned (.int .i64 2) ∧ w = w' := by
  go_enter Tryd.func96, Tryd.ntmps96
  go_wp2_with (fail)
  go_ret
  exact ⟨rfl, rfl⟩

def KDrop (w : World) (g kd : Nat) (y : Int) (h' : Nat → Int) (e : Ending) (w' : World) : Prop := e = .returned (.tuple #[.int .u32 y, .bool true]) ∧ Kn w' g (dnK kd (cnt (hs h') 256) : Nat) h' ∧ Touch (fun b => b = g) w w'
set_option maxRecDepth 100000 in
set_option maxHeartbeats 1600000 in
theorem dropL (kd : Nat) (hkn : Kn w g kd h) (hk : kd < 4) (htb : Tl w) (hg : g ≠ 0) (b : Nat) (hb : b < 256) (hz : h b ≠ 0) :
    Calls Tryd.prog 84 #[.pointer (some ⟨g, 0, none⟩), .int .u8 b] w (KDrop w g kd (h b) (seth h b 0)) := by
  obtain ⟨c0, c1, c2, c3, c4, ck, cf⟩ := hkn
  have hkn : Kn w g kd h := ⟨c0, c1, c2, c3, c4, ck, cf⟩
  have b0 : (0 : Int) ≤ (b : Int) := by omega
  have b1 : (b : Int) < 256 := by omega
  have hcl := cnt_le (hs (seth h b 0)) 256
  have hss := hs_drop h b
  have hsx : seth h b 0 b = 0 := by simp [seth]
  have hrb := left_bd kd
  have hh := fun W => has_any' (hs h) b hb W
  rw [show hs h b = true by simp [hs, hz]] at hh
  clear ck cf
  unfold KDrop
  have Hkn := Lib.hid hkn
  clear hkn
  have Hz := Lib.hid hz
  clear hz
  have Htb := Lib.hid htb
  clear htb
  have Hg := Lib.hid hg
  clear hg
  have Hss := Lib.hid hss
  clear hss
  have Hsx := Lib.hid hsx
  clear hsx
  have Hh := Lib.hid hh
  clear hh
  go_enter Tryd.func84, Tryd.ntmps84
  go_wp2_with (fail)
  (with_reducible refine (Hh.out _).mono ?_)
  rintro e w1 ⟨rfl, t1⟩
  clear c0 c1 c2 c3 c4
  have k1 := Hkn.out.ext t1
  have c0 := k1.kind
  have c1 := k1.m0
  have c2 := k1.m1
  have c3 := k1.m2
  have c4 := k1.m3
  have cb := k1.kid b hb
  have K1 := Lib.hid k1
  clear k1
  have T1 := Lib.hid t1
  clear t1
  go_wp2_with (fail)
  refine wp_region_plan (.take 0 (.take 1 (.take 2 (.take 3 (.take 4 (.take 5 (.take 6 (.take 7 (.take 9 (.take 10 (.must 8 (.take 11 (.must 12 (.take 13 (.take 14 (.last 15 .done)))))))))))))))) (fun W => W.cell? ⟨g, 1, none⟩ = some (.int .u64 (word (hs h) 0 : Nat)) ∧ W.cell? ⟨g, 2, none⟩ = some (.int .u64 (word (hs h) 1 : Nat)) ∧ W.cell? ⟨g, 3, none⟩ = some (.int .u64 (word (hs h) 2 : Nat)) ∧ W.cell? ⟨g, 4, none⟩ = some (.int .u64 (word (hs h) 3 : Nat))) (by kernel_rfl) (by kernel_rfl) (by kernel_rfl) rfl ?_ (fun KK hKK => ?_)
  · exact ⟨c1, c2, c3, c4⟩
  repeat (first
    | (refine wpPlan_take (v := ?_) rfl (by rfl) (fun W hW => ?_) ?_; rotate_left; (focus ((try dsimp only at hW); go_split_ands; go_simp; (try with_reducible rfl); done)); (try simp only [Act.put, List.setIfInBounds_toArray, List.set_cons_zero, List.set_cons_succ]))
    | (refine wpPlan_skip rfl (by rfl) ?_; (try simp only [Act.put, List.setIfInBounds_toArray, List.set_cons_zero, List.set_cons_succ])))
  refine wpPlan_must rfl (by rfl) (fun K hK => ?_)
  go_simp
  (with_reducible refine (without_any' (hs h) b hb _).mono ?_)
  rintro e w2 ⟨rfl, t2⟩
  rw [← Hss.out]
  have x2 : Ext w w2 := T1.out.trans' ((Touch.refl _ _).drew.trans' t2)
  have k2 := Hkn.out.ext x2
  have d1 := k2.m0
  have d2 := k2.m1
  have d3 := k2.m2
  have d4 := k2.m3
  have db := k2.kid b hb
  have fb := k2.fr (5 + b) (by omega)
  have K2 := Lib.hid k2
  clear k2
  have X2 := Lib.hid x2
  clear x2
  refine hK.out _ _ ?_ ?_
  · exact ⟨d1, d2, d3, d4⟩
  clear hK K
  (try simp only [Act.put, List.setIfInBounds_toArray, List.set_cons_zero, List.set_cons_succ])
  repeat (first
    | (refine wpPlan_take (v := ?_) rfl (by rfl) (fun W hW => ?_) ?_; rotate_left; (focus ((try dsimp only at hW); go_split_ands; go_simp; (try with_reducible rfl); done)); (try simp only [Act.put, List.setIfInBounds_toArray, List.set_cons_zero, List.set_cons_succ]))
    | (refine wpPlan_skip rfl (by rfl) ?_; (try simp only [Act.put, List.setIfInBounds_toArray, List.set_cons_zero, List.set_cons_succ])))
  refine wpPlan_must rfl (by rfl) (fun K hK => ?_)
  go_simp
  obtain ⟨w3, hw3⟩ : ∃ w3, w3 = w2.setCell ⟨g, 5 + b, none⟩ (.int .u32 0) := ⟨_, rfl⟩
  rw [← hw3]
  have e1 : w3.cell? ⟨g, 1, none⟩ = some (.int .u64 (word (hs h) 0 : Nat)) := by rw [hw3, World.cell?_setCell_other _ _ _ _ (fun h => by have := congrArg Addr.off h; simp at this; omega)]; exact d1
  have e2 : w3.cell? ⟨g, 2, none⟩ = some (.int .u64 (word (hs h) 1 : Nat)) := by rw [hw3, World.cell?_setCell_other _ _ _ _ (fun h => by have := congrArg Addr.off h; simp at this; omega)]; exact d2
  have e3 : w3.cell? ⟨g, 3, none⟩ = some (.int .u64 (word (hs h) 2 : Nat)) := by rw [hw3, World.cell?_setCell_other _ _ _ _ (fun h => by have := congrArg Addr.off h; simp at this; omega)]; exact d3
  have e4 : w3.cell? ⟨g, 4, none⟩ = some (.int .u64 (word (hs h) 3 : Nat)) := by rw [hw3, World.cell?_setCell_other _ _ _ _ (fun h => by have := congrArg Addr.off h; simp at this; omega)]; exact d4
  have f1 : w3.frozen? ⟨g, 1, none⟩ = false := by rw [hw3, World.frozen?_setCell]; exact K2.out.fr 1 (by omega)
  have f2 : w3.frozen? ⟨g, 2, none⟩ = false := by rw [hw3, World.frozen?_setCell]; exact K2.out.fr 2 (by omega)
  have f3 : w3.frozen? ⟨g, 3, none⟩ = false := by rw [hw3, World.frozen?_setCell]; exact K2.out.fr 3 (by omega)
  have f4 : w3.frozen? ⟨g, 4, none⟩ = false := by rw [hw3, World.frozen?_setCell]; exact K2.out.fr 4 (by omega)
  clear d1 d2 d3 d4 db fb
  have Hw3 := Lib.hid hw3
  clear hw3
  refine hK.out _ _ ?_ ?_
  · exact ⟨e1, e2, e3, e4⟩
  clear hK K
  (try simp only [Act.put, List.setIfInBounds_toArray, List.set_cons_zero, List.set_cons_succ])
  repeat (first
    | (refine wpPlan_take (v := ?_) rfl (by rfl) (fun W hW => ?_) ?_; rotate_left; (focus ((try dsimp only at hW); go_split_ands; go_simp; (try with_reducible rfl); done)); (try simp only [Act.put, List.setIfInBounds_toArray, List.set_cons_zero, List.set_cons_succ]))
    | (refine wpPlan_skip rfl (by rfl) ?_; (try simp only [Act.put, List.setIfInBounds_toArray, List.set_cons_zero, List.set_cons_succ])))
  refine wpPlan_last rfl (by rfl) (fun K hK => ?_)
  go_simp
  obtain ⟨w4, hw4⟩ : ∃ w4, w4 = (((w3.setCell ⟨g, 1, none⟩ (.int .u64 (word (hs (seth h b 0)) 0 : Nat))).setCell ⟨g, 2, none⟩ (.int .u64 (word (hs (seth h b 0)) 1 : Nat))).setCell ⟨g, 3, none⟩ (.int .u64 (word (hs (seth h b 0)) 2 : Nat))).setCell ⟨g, 4, none⟩ (.int .u64 (word (hs (seth h b 0)) 3 : Nat)) := ⟨_, rfl⟩
  rw [← hw4]
  have k4 : Kn w4 g kd (seth h b 0) := by
    have := kn_set K2.out b hb (h' := seth h b 0) (fun i hi => by simp [seth, hi])
    rw [Hsx.out] at this
    rw [hw4, Hw3.out]; exact this
  have t4 : Touch (fun i => i = g) w2 w4 := by
    rw [hw4, Hw3.out]
    exact (((((Touch.refl (fun i => i = g) w2).setCell (p := ⟨g, 5 + b, none⟩) (Or.inl rfl) _).setCell (p := ⟨g, 1, none⟩) (Or.inl rfl) _).setCell (p := ⟨g, 2, none⟩) (Or.inl rfl) _).setCell (p := ⟨g, 3, none⟩) (Or.inl rfl) _).setCell (p := ⟨g, 4, none⟩) (Or.inl rfl) _
  have tw := X2.out.ext_trans t4
  clear Hw3 hw4 e1 e2 e3 e4 f1 f2 f3 f4 c0 c1 c2 c3 c4 cb
  have c0 := k4.kind
  have g0 := k4.fr 0 (by omega)
  have hln := fun W (x : Ext w4 W) => len_any (kd : Int) (k4.ext x)
  have tb4 := Htb.out.keep tw (fun h => Hg.out h.symm)
  have cr := tb_left tb4 kd hk
  generalize hcn : cnt (hs (seth h b 0)) 256 = n at *
  have K4 := Lib.hid k4
  clear k4
  have T4 := Lib.hid t4
  clear t4
  have Tw := Lib.hid tw
  clear tw
  have Hln := Lib.hid hln
  clear hln
  have Tb4 := Lib.hid tb4
  clear tb4
  have Hcn := Lib.hid hcn
  clear hcn
  refine hK.out _ _ ?_
  clear hK K
  (try simp only [Act.put, List.setIfInBounds_toArray, List.set_cons_zero, List.set_cons_succ])
  refine wpPlan_done (hKK.out _ _ ?_)
  clear hKK KK
  have k0 : (0 : Int) ≤ (kd : Int) := by omega
  have k1 : (kd : Int) < 4 := by omega
  go_wp2_with (fail)
  refine wp_region_plan (.take 0 (.take 2 (.take 3 (.take 4 (.take 5 (.take 6 (.take 7 (.must 1 (.take 8 .done))))))))) (fun W => W.cell? ⟨g, 0, none⟩ = some (.int .i64 kd) ∧ W.cell? ⟨0, kd, none⟩ = some (.int .i64 (leftI kd))) (by kernel_rfl) (by kernel_rfl) (by kernel_rfl) rfl ?_ (fun KK hKK => ?_)
  · exact ⟨c0, cr⟩
  repeat (first
    | (refine wpPlan_take (v := ?_) rfl (by rfl) (fun W hW => ?_) ?_; rotate_left; (focus ((try dsimp only at hW); go_split_ands; go_simp; (try with_reducible rfl); done)); (try simp only [Act.put, List.setIfInBounds_toArray, List.set_cons_zero, List.set_cons_succ]))
    | (refine wpPlan_skip rfl (by rfl) ?_; (try simp only [Act.put, List.setIfInBounds_toArray, List.set_cons_zero, List.set_cons_succ])))
  refine wpPlan_must rfl (by rfl) (fun K hK => ?_)
  go_simp
  (with_reducible refine (Hln.out _ (Touch.refl _ _).drew).mono ?_)
  rintro e w5 ⟨rfl, t5⟩
  have x5 : Ext w4 w5 := (Touch.refl _ _).drew.trans' t5
  have c0 := keepc x5 id c0
  have g0' := (K4.out.ext x5).fr 0 (by omega)
  have X5 := Lib.hid x5
  clear x5
  refine hK.out _ _ ?_ ?_
  · exact ⟨c0, keepc X5.out id cr⟩
  clear hK K
  (try simp only [Act.put, List.setIfInBounds_toArray, List.set_cons_zero, List.set_cons_succ])
  repeat (first
    | (refine wpPlan_take (v := ?_) rfl (by rfl) (fun W hW => ?_) ?_; rotate_left; (focus ((try dsimp only at hW); go_split_ands; go_simp; (try with_reducible rfl); done)); (try simp only [Act.put, List.setIfInBounds_toArray, List.set_cons_zero, List.set_cons_succ]))
    | (refine wpPlan_skip rfl (by rfl) ?_; (try simp only [Act.put, List.setIfInBounds_toArray, List.set_cons_zero, List.set_cons_succ])))
  refine wpPlan_done (hKK.out _ _ ?_)
  clear hKK KK
  have tz := fun v => (Touch.refl (fun i => i = g) w5).setCell (p := ⟨g, 0, none⟩) (Or.inl rfl) v
  have hdn : dnK kd n = if (n : Int) ≤ leftI kd then kd - 1 else kd := rfl
  have Tz := Lib.hid tz
  clear tz
  have Hdn := Lib.hid hdn
  clear hdn
  by_cases hr : (n : Int) ≤ leftI kd
  · have hp := dn_pos hr
    obtain ⟨m, rfl⟩ : ∃ m, kd = m + 1 := ⟨kd - 1, by omega⟩
    go_wp2_with (fail)
    refine bodyPost_ret (v := .tuple #[.int .u32 (h b), .bool true]) (by simp [results, Tryd.results84, go_sem]) rfl ?_
    rw [Hcn.out, Hdn.out, if_pos hr]
    exact ⟨rfl, kn_kind (K4.out.ext X5.out) _, (Tw.out.trans' X5.out.none_to).trans' (Tz.out _)⟩
  · go_wp2_with (fail)
    refine bodyPost_ret (v := .tuple #[.int .u32 (h b), .bool true]) (by simp [results, Tryd.results84, go_sem]) rfl ?_
    rw [Hcn.out, Hdn.out, if_neg (by omega)]
    exact ⟨rfl, K4.out.ext X5.out, Tw.out.trans' X5.out.none_to⟩

def KBytes (w : World) (h : Nat → Int) (e : Ending) (w' : World) : Prop := ∃ v n, e = .returned v ∧ w'.ownsRow w.heap.size 5 1 v n (ivs .u8 (allF (hs h) 256)) ∧ Ext w w'
set_option maxRecDepth 100000 in
set_option maxHeartbeats 400000 in
theorem bytes_any (kd : Int) (hkn : Kn w g kd h) : Calls Tryd.prog 83 #[.pointer (some ⟨g, 0, none⟩)] w (KBytes w h) := by
  obtain ⟨c0, c1, c2, c3, c4, ck, cf⟩ := hkn
  clear ck cf
  go_enter Tryd.func83, Tryd.ntmps83
  go_wp2_with (fail)
  (with_reducible refine (all_any' (hs h) _).mono ?_)
  rintro e w2 ⟨v, n, rfl, ho, t2⟩
  go_wp2_with (fail)
  go_ret
  exact ⟨_, _, rfl, ho, t2⟩
set_option maxRecDepth 100000 in
set_option maxHeartbeats 400000 in
theorem bytes_nil (w : World) : Calls Tryd.prog 83 #[.pointer none] w fun e w' => e = .returned (.slice none 0 0) ∧ w = w' := by
  go_enter Tryd.func83, Tryd.ntmps83
  go_wp2_with (fail)
  go_ret
  exact ⟨rfl, rfl⟩
theorem put_any (kd : Nat) (hkn : Kn w g kd h) (hk : kd < 4) (htb : Tb w) (hg : g ≠ 1 ∧ g ≠ 0) (b : Nat) (hb : b < 256) (x : Int) (hx : x ≠ 0) :
    Calls Tryd.prog 96 #[.pointer (some ⟨g, 0, none⟩), .int .u8 b, .int .u32 x] w (KPut w g kd (seth h b x)) := putR kd hkn hk htb.tr hg.1 b hb x hx
theorem drop_any (kd : Nat) (hkn : Kn w g kd h) (hk : kd < 4) (htb : Tb w) (hg : g ≠ 1 ∧ g ≠ 0) (b : Nat) (hb : b < 256) (hz : h b ≠ 0) :
    Calls Tryd.prog 84 #[.pointer (some ⟨g, 0, none⟩), .int .u8 b] w (KDrop w g kd (h b) (seth h b 0)) := dropL kd hkn hk htb.tl hg.2 b hb hz
end
end KidB
end Go.Proofs.YtclnnkacfanaiaaDoor
