/- A radix tree's nodes: leaf, parted, add. -/
import Derived.Test.YtclnnkacfanaiaaDoorRadM
import Derived.Test.YtclnnkacfanaiaaDoorModL
namespace Go.Proofs.YtclnnkacfanaiaaDoor
open Go.RowKit
set_option linter.unusedVariables false
set_option linter.unusedSimpArgs false
namespace RadA
open MaskA MaskP KidA KidB RadK RadM

def LeafRet (w : World) (kv : Value) (x : Int) (e : Ending) (w' : World) : Prop := ∃ g, e = .returned (pt g) ∧ Nd w' g kv true x (.pointer none) (.map none) ∧ w.heap.size ≤ g ∧ Ext w w'
theorem leaf_any (w : World) (a : Option Addr) (n c : Nat) (x : Int) : Calls Tryd.prog 72 #[.agg #[.slice a n c, .int .u64 x]] w (LeafRet w (.slice a n c) x) := by
  unfold LeafRet
  go_enter Tryd.func72, Tryd.ntmps72
  go_wp2_with (fail)
  go_ret
  have t1 : Ext w (w.alloc (.cells #[.slice a n c, .int .u64 x] 33)) := (Touch.refl _ _).alloc _
  have hn := Nd.new (w.alloc (.cells #[.slice a n c, .int .u64 x] 33)) (.slice a n c) (.pointer none) (.map none) true x 96
  exact ⟨_, rfl, by simpa using hn, by simp, t1.alloc _⟩

/-- a node of some bytes without children -/
structure Pd (w w' : World) (g : Nat) (k : List Int) (gk gm : Nat) (kv : Value) : Prop where
  nd : Nd w' g kv false 0 (pt gk) (.map (some gm))
  rb : RB w' (fun b => w.heap.size ≤ b ∧ b < w'.heap.size ∧ b ≠ g ∧ b ≠ gk ∧ b ≠ gm) kv k
  kn : Kn w' gk 0 (fun _ => 0)
  om : Om w' gm (fun _ => none)
  lg : w.heap.size ≤ g
  lk : w.heap.size ≤ gk
  lm : w.heap.size ≤ gm
  n1 : g ≠ gk
  n2 : g ≠ gm
  n3 : gk ≠ gm
def PartRet (w : World) (k : List Int) (e : Ending) (w' : World) : Prop := ∃ g gk gm kv, e = .returned (pt g) ∧ Pd w w' g k gk gm kv ∧ Ext w w'
set_option maxRecDepth 100000 in
set_option maxHeartbeats 800000 in
theorem parted_any (w : World) (G : Nat → Prop) (v : Value) (k : List Int) (h : RB w G v k) (hl : k.length ≤ 65535) : Calls Tryd.prog 74 #[v] w (PartRet w k) := by
  obtain ⟨a, c, rfl, hcap, hm, hz⟩ := h.shape
  unfold maxLen at hm
  have hnew := fun W => KidA.new_any W
  unfold KNew at hnew
  have hmm := @run_makeMap Tryd.prog
  unfold PartRet
  have H := Lib.hid h
  clear h
  have Hnew := Lib.hid hnew
  clear hnew
  go_enter Tryd.func74, Tryd.ntmps74
  go_wp2_with (at_builtin; refine wpList_push_any _ rfl _ _ 23 rfl 5 (.int .u8 0) 1 1 Tryd.underlying23 info_u8 rfl (by decide) (.slice none 0 0) 0 [] rfl (World.ownsRow_nil _ _ _ _) a k.length c rfl hz (ivs .u8 k) (by omega) (by simp) H.out.src (ivs_one _ _) (by unfold maxLen; omega) (by omega) ?_; intro v' w1 hown t1 hb)
  have t1 : Ext w w1 := t1.mono (fun i hi _ => by cases hi)
  have hb2 : ∀ b, v'.ownBlock = some b → b = w.heap.size := fun b h => by
    rcases hb with h2 | h2
    · rw [h2] at h; cases h
    · rw [h2] at h; exact (Option.some.inj h).symm
  have hrb : RB w1 (fun b => b = w.heap.size ∧ b < w1.heap.size) v' k := by
    have ho : OB w1 (fun b => b = w.heap.size) v' k := ⟨by simpa using hown, hb2⟩
    exact OB.rb ⟨ho.1, fun b h => ⟨hb2 b h, ho.lt b h⟩⟩
  have hsz := t1.size
  obtain ⟨va, vc, rfl, _⟩ := hrb.shape
  clear hown hb
  have Hrb := Lib.hid hrb
  clear hrb
  have Hb2 := Lib.hid hb2
  clear hb2
  have T1 := Lib.hid t1
  clear t1
  (with_reducible refine (Hnew.out _).mono ?_)
  rintro e w2 ⟨rfl, kn2, t2⟩
  have hsz2 := t2.size
  have klt := kn2.lt
  have Kn2 := Lib.hid kn2
  clear kn2
  have T2 := Lib.hid t2
  clear t2
  go_wp2_with (fail)
  go_ret
  obtain ⟨wm, hwm⟩ : ∃ wm, wm = w2.alloc (.map #[] 0) := ⟨_, rfl⟩
  have tm : Ext w2 wm := by rw [hwm]; exact (Touch.refl _ _).alloc _
  have hom : Om wm w2.heap.size (fun _ => none) := by rw [hwm]; exact Om.new w2
  have hsm : wm.heap.size = w2.heap.size + 1 := by rw [hwm]; simp
  rw [← hwm, ← hsm]
  clear hwm
  have hn := Nd.new wm (.slice va k.length vc) (pt w1.heap.size) (.map (some w2.heap.size)) false 0 96
  have tn : Ext wm (wm.alloc (.cells #[.slice va k.length vc, .bool false, .int .u64 0, pt w1.heap.size, .map (some w2.heap.size)] 96)) := (Touch.refl _ _).alloc _
  have hsn : (wm.alloc (.cells #[.slice va k.length vc, .bool false, .int .u64 0, pt w1.heap.size, .map (some w2.heap.size)] 96)).heap.size = wm.heap.size + 1 := by simp
  generalize wm.alloc (.cells #[.slice va k.length vc, .bool false, .int .u64 0, pt w1.heap.size, .map (some w2.heap.size)] 96) = wn at *
  have tx := (T2.out.trans' tm).trans' tn
  refine ⟨wm.heap.size, w1.heap.size, w2.heap.size, _, rfl, ⟨hn, (Hrb.out.ext tx).mono (fun b hb => ?_), (Kn2.out.ext tm).ext tn, hom.ext tn, by omega, by omega, by omega, by omega, by omega, by omega⟩, T1.out.trans' tx⟩
  obtain ⟨h1, h2⟩ := hb
  omega

theorem seth_upd (f : Nat → RT) (b : Nat) {X : RT} (hX : X.is = true) : seth (hI f) b 1 = hI (RT.upd f b X) := by
  funext i; simp only [seth, hI, RT.upd]; split <;> simp [hX]
theorem setm_upd (f : Nat → RT) (m : Nat → Value) (b : Nat) {X : RT} (hX : X.is = true) (xv : Value) : setm (mO f m) b (some xv) = mO (RT.upd f b X) (fun i => if i = b then xv else m i) := by
  funext i; simp only [setm, mO, RT.upd]; split <;> simp [hX]
def AddRet (w : World) (K F Fx : Nat → Prop) (g : Nat) (k : List Int) (o : Option Int) (kd : Nat) (f : Nat → RT) (e : Ending) (w' : World) : Prop :=
  e = .returned (.tuple #[]) ∧ Rn w' K (fun b => F b ∨ Fx b) (pt g) (.node k o kd f) ∧ Touch F w w'
set_option maxRecDepth 100000 in
set_option maxHeartbeats 1600000 in
theorem add_any (w : World) (K F Fx : Nat → Prop) (g : Nat) (xv : Value) (k : List Int) (o : Option Int) (kd : Nat) (f : Nat → RT) (X : RT) (b : Nat) (h : Rn w K F (pt g) (.node k o kd f)) (hx : Rn w K Fx xv X) (hX : X.is = true)
    (hb : b < 256) (hpre : k ++ [(b : Int)] <+: X.key) (hf : (f b).is = false) (hd : ∀ b, F b → ¬ Fx b) (hKF : ∀ b, K b → ¬ F b) (hk : kd < 4) (ht : Tr w) (hr : ¬ F 1) (hl : X.key.length ≤ 65535) :
    Calls Tryd.prog 75 #[pt g, xv] w (AddRet w K F Fx g k o (upK kd (cnt (RT.hsT (RT.upd f b X)) 256)) (RT.upd f b X)) := by
  obtain ⟨xg, xk, xf, xx, xp, xm, rfl, hxF, hxn, hxr⟩ := hx.head hX
  obtain ⟨g', gk, gm, kv, m, G, e1, h2, h3, h4, h5, h6, h7, h8, h9, h10, h11, h12, h13, h14⟩ := h
  obtain rfl : g = g' := by simpa using e1
  obtain ⟨ka, kc, rfl, l1, m1, _⟩ := h9.shape
  have hlen := RT.pre_len hpre
  obtain ⟨xa, xc, rfl, l2, m2, _⟩ := hxr.shape
  obtain ⟨xb, xo, rfl, hxb⟩ := hxr.addr (by omega)
  have cx := hxr.cell k.length hlen
  have hbyte : X.key[k.length] = (b : Int) := by
    obtain ⟨r, hr⟩ := hpre
    have : X.key[k.length]? = some (b : Int) := by rw [← hr]; simp
    rw [List.getElem?_eq_getElem hlen] at this
    exact Option.some.inj this
  rw [hbyte] at cx
  clear hbyte
  unfold maxLen at m1 m2
  have c0 := hxn.c0
  have c1 := h8.c0
  have c3 := h8.c3
  have c4 := h8.c4
  have b0 : (0 : Int) ≤ (b : Int) := by omega
  have b1 : (b : Int) < 256 := by omega
  have i0 : (0 : Int) ≤ (k.length : Int) := by omega
  have i1 : (k.length : Int) < (X.key.length : Int) := by omega
  have hput := fun W (x : Ext w W) => putR kd (h10.ext x) hk (ht.ext x) (fun e => hr (by rw [← e]; exact h3)) b hb 1 (by decide)
  unfold KPut at hput
  rw [seth_upd f b hX, hs_hI] at hput
  have hset := setm_upd f m b hX (pt xg)
  unfold AddRet
  have hne4 : ¬ gm = gk := fun e => h7 e.symm
  have htg := World.block_lt_of_cell? _ _ c1
  have Hx := Lib.hid hx
  clear hx
  have HX := Lib.hid hX
  clear hX
  have Hpre := Lib.hid hpre
  clear hpre
  have Hf := Lib.hid hf
  clear hf
  have Hd := Lib.hid hd
  clear hd
  have HKF := Lib.hid hKF
  clear hKF
  have Ht := Lib.hid ht
  clear ht
  have Hr := Lib.hid hr
  clear hr
  have E1 := Lib.hid e1
  clear e1
  have H2 := Lib.hid h2
  clear h2
  have H3 := Lib.hid h3
  clear h3
  have H4 := Lib.hid h4
  clear h4
  have H5 := Lib.hid h5
  clear h5
  have H6 := Lib.hid h6
  clear h6
  have H7 := Lib.hid h7
  clear h7
  have H8 := Lib.hid h8
  clear h8
  have H9 := Lib.hid h9
  clear h9
  have H10 := Lib.hid h10
  clear h10
  have H11 := Lib.hid h11
  clear h11
  have H12 := Lib.hid h12
  clear h12
  have H13 := Lib.hid h13
  clear h13
  have H14 := Lib.hid h14
  clear h14
  have HxF := Lib.hid hxF
  clear hxF
  have Hxn := Lib.hid hxn
  clear hxn
  have Hxr := Lib.hid hxr
  clear hxr
  have Hput := Lib.hid hput
  clear hput
  have Hset := Lib.hid hset
  clear hset
  have Hxb := Lib.hid hxb
  clear hxb
  have Hlen := Lib.hid hlen
  clear hlen
  go_enter Tryd.func75, Tryd.ntmps75
  go_wp2_with (fail)
  refine wp_region_plan (.take 0 (.take 1 (.take 2 (.take 3 (.take 4 (.take 5 (.take 6 (.take 7 (.take 8 (.take 9 (.take 10 (.take 11 .done)))))))))))) (fun W => W.cell? ⟨xg, 0, none⟩ = some (.slice (some ⟨xb, xo, none⟩) X.key.length xc) ∧ W.cell? ⟨g, 0, none⟩ = some (.slice ka k.length kc) ∧ W.cell? ⟨xb, xo + k.length, none⟩ = some (.int .u8 b)) (by kernel_rfl) (by kernel_rfl) (by kernel_rfl) rfl ?_ (fun KK hKK => ?_)
  · exact ⟨c0, c1, cx⟩
  repeat (first
    | (refine wpPlan_take (v := ?_) rfl (by rfl) (fun W hW => ?_) ?_; rotate_left; (focus ((try dsimp only at hW); go_split_ands; go_simp; (try with_reducible rfl); done)); (try simp only [Act.put, List.setIfInBounds_toArray, List.set_cons_zero, List.set_cons_succ]))
    | (refine wpPlan_skip rfl (by rfl) ?_; (try simp only [Act.put, List.setIfInBounds_toArray, List.set_cons_zero, List.set_cons_succ])))
  refine wpPlan_done (hKK.out _ _ ?_)
  clear hKK KK
  go_wp2_with (fail)
  (with_reducible refine (Hput.out _ (Touch.refl _ _).drew).mono ?_)
  rintro e w2 ⟨rfl, kn2, t2⟩
  have y2 : Touch (fun i => i = gk) w w2 := (Touch.refl _ _).drew.none_to.trans' t2
  have c4 := keepc y2 (fun e => H5.out e) c4
  have om2 := H11.out.keep y2 hne4
  have Kn2 := Lib.hid kn2
  clear kn2
  have Y2 := Lib.hid y2
  clear y2
  have Om2 := Lib.hid om2
  clear om2
  go_wp2_with (at_mapUpdate; refine wpList_mapPut _ rfl _ _ _ rfl gm _ rfl Om2.out b hb rfl _ rfl ?_; intro w3 om3 t3)
  have om3 : Om w3 gm (setm (mO f m) b (some (pt xg))) := om3
  rw [Hset.out] at om3
  refine bodyPost_end (v := .tuple #[]) (by simp [results, Tryd.results75, go_sem]) rfl ⟨rfl, ?_, ?_⟩
  · have t13 : Touch (fun i => i = gk ∨ i = gm) w w3 := (Y2.out.mono (fun i hi _ => Or.inl hi)).trans' (t3.mono (fun i hi _ => Or.inr hi))
    have hh14 := H14.out
    have hh13 := H13.out
    have ng : ¬ (g = gk ∨ g = gm) := fun e => e.elim H5.out H6.out
    have nK : ∀ b, K b → ¬ (b = gk ∨ b = gm) := fun b hb e => HKF.out b hb (e.elim (fun e => e ▸ H3.out) (fun e => e ▸ H4.out))
    refine ⟨g, gk, gm, .slice ka k.length kc, fun i => if i = b then pt xg else m i, fun i c => if i = b then Fx c else G i c, rfl, Or.inl H2.out, Or.inl H3.out, Or.inl H4.out, H5.out, H6.out, H7.out, H8.out.keep t13 ng, H9.out.keep t13 nK, Kn2.out.keep t3 (fun e => H7.out e), om3, fun i hi => ?_, fun i c hc => ?_, fun i j c hi hj => ?_⟩
    · by_cases e : i = b
      · subst e
        simp only [if_true, RT.upd_at]
        exact Hx.out.keep t13 (fun c hc e => Hd.out c (e.elim (fun e => e ▸ H3.out) (fun e => e ▸ H4.out)) hc) nK
      · simp only [e, if_false, RT.upd_ne f b X e]
        exact (H12.out i hi).keep t13 (fun c hc e => e.elim (hh13 i c hc).2.2.1 (hh13 i c hc).2.2.2) nK
    · by_cases e : i = b
      · simp only [e, if_true] at hc
        exact ⟨Or.inr hc, fun e => Hd.out c (e ▸ H2.out) hc, fun e => Hd.out c (e ▸ H3.out) hc, fun e => Hd.out c (e ▸ H4.out) hc⟩
      · simp only [e, if_false] at hc
        exact ⟨Or.inl (hh13 i c hc).1, (hh13 i c hc).2⟩
    · by_cases e : i = b
      · by_cases e2 : j = b
        · rw [e, e2]
        · simp only [e, if_true] at hi
          simp only [e2, if_false] at hj
          exact absurd hi (Hd.out c (hh13 j c hj).1)
      · by_cases e2 : j = b
        · simp only [e, if_false] at hi
          simp only [e2, if_true] at hj
          exact absurd hj (Hd.out c (hh13 i c hi).1)
        · simp only [e, if_false] at hi
          simp only [e2, if_false] at hj
          exact hh14 i j c hi hj
  · exact (Y2.out.mono (fun i hi _ => hi ▸ H3.out)).trans' (t3.mono (fun i hi _ => hi ▸ H4.out))
end RadA
end Go.Proofs.YtclnnkacfanaiaaDoor
