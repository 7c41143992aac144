/- The document reads the cells of a radix tree: a node, the walk. -/
import Derived.Test.YtclnnkacfanaiaaDoorRadT
namespace Go.Proofs.YtclnnkacfanaiaaDoor
open Go.RowKit
set_option linter.unusedVariables false
set_option linter.unusedSimpArgs false
open MaskA MaskP KidA KidB RadK
namespace RadY
open RadM RadG RadR RadT
theorem src_one (w : World) (u : Value) (t : TypeId) : Src (w.alloc (.cells #[u] t)) (some ⟨w.heap.size, 0, none⟩) [u] := by
  intro j u' hj
  obtain rfl : j = 0 := by have := (List.getElem?_eq_some_iff.1 hj).1; simp at this; exact this
  simp at hj
  subst hj
  exact ⟨_, _, rfl, by rw [World.cell?_alloc_new]; rfl⟩
theorem own_one (w : World) (kv : Value) (k : List Int) (x : Int) : (w.alloc (.cells #[kv, .int .u64 x] 33)).ownsRow 0 33 2 (.slice (some ⟨w.heap.size, 0, none⟩) 1 1) 1 (flat [(kv, (k, x))]) :=
  World.ownsRow_lit w #[kv, .int .u64 x] 1 (Nat.zero_le _) (by simp [maxLen]) (by simp)
theorem at_child {cs pre post : Cls} {i : Nat} {k : List Int} {o : Option Int} {kd : Nat} {f : Nat → RT} (hcs : cs = pre ++ ((RT.node k o kd f).CK ++ post)) (hi : i = pre.length) {j ch : Nat} (h : (RT.bl f)[j]? = some ch) : ∃ c, cs[i + 1 + (RT.belowC f j).length]? = some c ∧ c.key = (f ch).key := by
  obtain ⟨c, h1, h2⟩ := RT.below_at h
  refine ⟨c, ?_, h2⟩
  have hl := (List.getElem?_eq_some_iff.1 h1).1
  rw [hcs, RT.CK_below, List.getElem?_append_right (by omega), show i + 1 + (RT.belowC f j).length - pre.length = (RT.belowC f j).length + 1 by omega, List.getElem?_append_left (by simp; omega), List.getElem?_cons_succ]
  exact h1
theorem key_child {k q : List Int} {o : Option Int} {kd : Nat} {f : Nat → RT} (hok : RT.Ok q (.node k o kd f)) {j ch : Nat} (h : (RT.bl f)[j]? = some ch) : k.length < (f ch).key.length ∧ (f ch).key[k.length]? = some (ch : Int) := by
  have hi := RT.bl_mem.1 (List.mem_of_getElem? h)
  have hp := ((hok.2.2.2.1 ch hi.1).kpre hi.2).1
  refine ⟨RT.pre_len hp, ?_⟩
  obtain ⟨r, e⟩ := hp
  rw [← e, List.append_assoc, List.getElem?_append_right (Nat.le_refl _), Nat.sub_self]; rfl
set_option maxRecDepth 100000 in
set_option maxHeartbeats 8000000 in
theorem read_node (w : World) (N : Nat) (v wv : Value) (cs pre post : Cls) (i : Nat) (way k q : List Int) (o : Option Int) (kd : Nat) (f : Nat → RT) (K : Nat → Prop) (h : RC w (fun b => b < N) v cs) (hN : N ≤ w.heap.size) (hw : RB w K wv way) (hcs : cs = pre ++ ((RT.node k o kd f).CK ++ post)) (hi : i = pre.length) (hok : RT.Ok q (.node k o kd f)) (hpre : way <+: k) (hkl : k.length ≤ 65535) (hm : cs.length ≤ 100000000000) (hpm : (RT.node k o kd f).prs.length ≤ 1000000)
    (ih : ∀ (j ch : Nat), (RT.bl f)[j]? = some ch → ∀ W wv2, Ext w W → RB W (fun _ => True) wv2 (k ++ [(ch : Int)]) → Calls Tryd.prog 88 #[v, .int .i64 ((i + 1 + (RT.belowC f j).length : Nat) : Int), wv2] W (TRead N W ((i + 1 + (RT.belowC f (j + 1)).length : Nat) : Int) (f ch).deep (f ch).prs)) :
    Calls Tryd.prog 88 #[v, .int .i64 i, wv] w (TRead N w ((i + (RT.node k o kd f).CK.length : Nat) : Int) (RT.node k o kd f).deep (RT.node k o kd f).prs) := by
  have hi0 : cs[i]? = some (RT.nodeC k o kd (RT.node k o kd f).prs.length (cnt (RT.hsT f) 256)) := by rw [hcs, hi, RT.CK_below]; simp
  have hat := fun (j ch : Nat) (hj : (RT.bl f)[j]? = some ch) => at_child hcs hi hj
  have hky := fun (j ch : Nat) (hj : (RT.bl f)[j]? = some ch) => key_child hok hj
  have hcl : cs.length = i + (1 + (RT.belowC f (cnt (RT.hsT f) 256)).length + post.length) := by rw [hcs, hi, RT.CK_below]; simp; omega
  have hck : (RT.node k o kd f).CK.length = 1 + (RT.belowC f (cnt (RT.hsT f) 256)).length := by rw [RT.CK_below, List.length_cons]; omega
  have hb0 := hok.2.2.2.2
  obtain ⟨h2k, hkd, hlf, hrm⟩ := hb0
  have hcn := cnt_le (RT.hsT f) 256
  have hbll := RT.bl_length f
  rw [RT.prs_all, RT.deep_all, hck]
  rw [RT.prs_all] at hpm hi0
  have hbc := RT.belowC_le f
  have hbd := RT.belowD_le f
  obtain ⟨Nx, hNx⟩ : ∃ Nx : Nat → Nat, ∀ j, Nx j = i + 1 + (RT.belowC f j).length := ⟨_, fun _ => rfl⟩
  obtain ⟨PS, hPS⟩ : ∃ PS : Nat → Prs, ∀ j, PS j = RT.ownP k o ++ RT.belowP f j := ⟨_, fun _ => rfl⟩
  obtain ⟨DS, hDS⟩ : ∃ DS : Nat → Nat, ∀ j, DS j = RT.belowD f j := ⟨_, fun _ => rfl⟩
  obtain ⟨LI, hLI⟩ : ∃ LI : Nat → Int, ∀ j, LI j = RT.lastI f j := ⟨_, fun _ => rfl⟩
  have n1 : i + (1 + (RT.belowC f (cnt (RT.hsT f) 256)).length) = Nx (cnt (RT.hsT f) 256) := by rw [hNx]; omega
  have hNb : ∀ j, i + 1 ≤ Nx j ∧ Nx j ≤ cs.length := fun j => by rw [hNx]; have := hbc j; omega
  have hDb : ∀ j, DS j ≤ 100000000000 := fun j => by rw [hDS]; have := hbd j; omega
  have hPb : ∀ j, (PS j).length ≤ (RT.ownP k o ++ RT.belowP f (cnt (RT.hsT f) 256)).length := fun j => by rw [hPS, List.length_append, List.length_append, RT.belowP_length, RT.belowP_length]; have := RT.belowN_le f j; omega
  simp only [← hNx] at ih hat
  rw [n1, ← hPS, ← hDS]
  rw [← hPS] at hi0 hpm hPb
  have s0 : Nx 0 = i + 1 := by rw [hNx, RT.belowC_zero]; rfl
  have s1 : PS 0 = RT.ownP k o := by rw [hPS]; simp [RT.belowP]
  have s2 : DS 0 = 0 := by rw [hDS]; rfl
  have s3 : LI 0 = -1 := by rw [hLI]; rfl
  have hst : ∀ (j ch : Nat), (RT.bl f)[j]? = some ch → PS (j + 1) = PS j ++ (f ch).prs ∧ DS (j + 1) = max (DS j) (f ch).deep ∧ LI (j + 1) = (ch : Int) ∧ LI j < (ch : Int) ∧ Nx j < cs.length := fun j ch hj => by
    refine ⟨by rw [hPS, hPS, RT.belowP_succ f hj, List.append_assoc], by rw [hDS, hDS, RT.belowD_succ f hj], by rw [hLI, RT.lastI_succ f hj], by rw [hLI]; exact RT.lastI_lt f hj, ?_⟩
    obtain ⟨c, h1, _⟩ := hat j ch hj
    exact (List.getElem?_eq_some_iff.1 h1).1
  have hb256 : ∀ (j ch : Nat), (RT.bl f)[j]? = some ch → ch < 256 := fun j ch hj => (RT.bl_mem.1 (List.mem_of_getElem? hj)).1
  generalize cnt (RT.hsT f) 256 = cn at *
  generalize hR : PS cn = R at *
  generalize hDR : DS cn = dR at *
  generalize hown : RT.ownP k o = own at *
  have hone : RT.one o = if o.isSome then 1 else 0 := rfl
  have hxo : o.isSome = false → o.getD 0 = 0 := by cases o <;> simp
  have hoo : own = if o.isSome then [(k, o.getD 0)] else [] := by rw [← hown]; cases o <;> rfl
  clear hown
  generalize hbl : RT.bl f = bl at *
  clear hbc hbd hNx hPS hDS hLI hck n1 hcs hi hok hbl
  obtain ⟨a, c, rfl, l1', m1, _⟩ := h.shape
  unfold maxLen at m1
  obtain ⟨wa, wc0, rfl, wl1, wl2, wn0⟩ := hw.shape
  have hil := (List.getElem?_eq_some_iff.1 hi0).1
  obtain ⟨cb, co, rfl⟩ := h.addr (by omega)
  obtain ⟨kv, hkv, c0, c1, c2, c3, c4, c5, c6, c7, c8⟩ := h.get i _ hi0
  obtain ⟨ka, kc, rfl, kl1, km1, kn0⟩ := hkv.shape
  simp only [RT.nodeC] at hkv c0 c1 c2 c3 c4 c5 c6 c7 c8 kl1 km1 kn0
  have i0 : (0 : Int) ≤ (i : Int) := by omega
  have i1 : (i : Int) < (cs.length : Int) := by omega
  obtain ⟨W1, hW1⟩ : ∃ W1, W1 = w.alloc (.cells #[.slice none 0 0, .int .i64 0, .int .i64 0, .bool false] 86) := ⟨_, rfl⟩
  have x1 : Ext w W1 := by rw [hW1]; exact (Touch.refl _ _).alloc _
  have hcR := Cb.new w [.slice none 0 0, .int .i64 0, .int .i64 0, .bool false] 86
  rw [show w.alloc (.cells ([.slice none 0 0, .int .i64 0, .int .i64 0, .bool false] : List Value).toArray 86) = W1 by rw [hW1]] at hcR
  have hw1 : w.heap.size < W1.heap.size := by rw [hW1]; simp
  have hwl := hpre.length_le
  have hbg := RefC.rbegins_any W1 _ _ k way (hkv.ext x1) (hw.ext x1) (by omega) (by omega)
  rw [RadF.beg_pre.2 hpre] at hbg
  have hmy := fun W (x : Ext w W) => rmay_any W _ _ k (hkv.ext x)
  rw [decide_eq_true hkl] at hmy
  have c7' := keepc x1 id c7
  clear wn0 hwl wl2
  generalize o.getD 0 = x at *
  generalize o.isSome = fl at *
  generalize RT.one o = on at *
  generalize hRl : R.length = tot at *
  clear hi0
  unfold TRead
  have hon2 : on ≤ 1 := by rw [hone]; split <;> omega
  have hlf' := hlf
  have hDb0 := hDb cn
  rw [hDR] at hDb0
  have hNb0 := hNb cn
  have H := Lib.hid h
  clear h
  have Hw := Lib.hid hw
  clear hw
  have Hkv := Lib.hid hkv
  clear hkv
  have Hbg := Lib.hid hbg
  clear hbg
  have Hmy := Lib.hid hmy
  clear hmy
  have Hpre := Lib.hid hpre
  clear hpre
  have HcR := Lib.hid hcR
  clear hcR
  have X1 := Lib.hid x1
  clear x1
  have Hat := Lib.hid hat
  clear hat
  have Hky := Lib.hid hky
  clear hky
  have Hcl := Lib.hid hcl
  clear hcl
  have H2k := Lib.hid h2k
  clear h2k
  have Hkd := Lib.hid hkd
  clear hkd
  have Hlf := Lib.hid hlf
  clear hlf
  have Hrm := Lib.hid hrm
  clear hrm
  have Hlf' := Lib.hid hlf'
  clear hlf'
  have Hcn := Lib.hid hcn
  clear hcn
  have Hbll := Lib.hid hbll
  clear hbll
  have Ih := Lib.hid ih
  clear ih
  have HNb := Lib.hid hNb
  clear hNb
  have HDb := Lib.hid hDb
  clear hDb
  have HPb := Lib.hid hPb
  clear hPb
  have S0 := Lib.hid s0
  clear s0
  have S1 := Lib.hid s1
  clear s1
  have S2 := Lib.hid s2
  clear s2
  have S3 := Lib.hid s3
  clear s3
  have Hst := Lib.hid hst
  clear hst
  have Hb256 := Lib.hid hb256
  clear hb256
  have HR := Lib.hid hR
  clear hR
  have HDR := Lib.hid hDR
  clear hDR
  have Hone := Lib.hid hone
  clear hone
  have Hxo := Lib.hid hxo
  clear hxo
  have Hoo := Lib.hid hoo
  clear hoo
  have HRl := Lib.hid hRl
  clear hRl
  have HN := Lib.hid hN
  clear hN
  have Hpm := Lib.hid hpm
  clear hpm
  have Hm := Lib.hid hm
  clear hm
  have Hkl := Lib.hid hkl
  clear hkl
  have HDb0 := Lib.hid hDb0
  clear hDb0
  have HNb0 := Lib.hid hNb0
  clear hNb0
  go_enter Tryd.func88, Tryd.ntmps88
  go_upto_region 1 with (fail)
  rw [← hW1]
  clear hW1
  go_wp2_with (fail)
  (with_reducible refine Hbg.out.mono ?_)
  rintro e w2 ⟨rfl, t2⟩
  have x2 := X1.out.trans' t2
  have c7'' := keepc t2 id c7'
  have hmy := Hmy.out w2 x2
  have hcR2 := HcR.out.keep t2 id
  have hw2 : w.heap.size < w2.heap.size := Nat.lt_of_lt_of_le hw1 t2.size
  have d0 := keepc x2 id c0
  have d1 := keepc x2 id c1
  have d2 := keepc x2 id c2
  have d3 := keepc x2 id c3
  have d4 := keepc x2 id c4
  have d5 := keepc x2 id c5
  have d6 := keepc x2 id c6
  have d8 := keepc x2 id c8
  clear c0 c1 c2 c3 c4 c5 c6 c7 c8 c7' Hbg HcR hw1 t2
  have Hmy := Lib.hid hmy
  clear hmy
  have HcR2 := Lib.hid hcR2
  clear hcR2
  have X2 := Lib.hid x2
  clear x2
  go_wp2_with (fail)
  (with_reducible refine Hmy.out.mono ?_)
  rintro e w' ⟨rfl, rfl⟩
  obtain ⟨W3, hW3⟩ : ∃ W3, W3 = w2.alloc (.cells #[.int .i64 (6 + (kd : Int)), .int .i64 0, .int .i64 tot, .int .i64 cn, .int .u8 0, .bool fl, .int .u64 x, .slice ka k.length kc, .slice none 0 0] 53) := ⟨_, rfl⟩
  have x3 : Ext w2 W3 := by rw [hW3]; exact (Touch.refl _ _).alloc _
  have hcC : Cb W3 w2.heap.size [.int .i64 (6 + (kd : Int)), .int .i64 0, .int .i64 tot, .int .i64 cn, .int .u8 0, .bool fl, .int .u64 x, .slice ka k.length kc, .slice none 0 0] := by rw [hW3]; exact Cb.new w2 _ _
  have hs3 : w2.heap.size < W3.heap.size := by rw [hW3]; simp
  obtain ⟨cc, hcc⟩ : ∃ cc, cc = w2.heap.size := ⟨_, rfl⟩
  rw [← hcc] at hcC
  have Hcc := Lib.hid hcc
  clear hcc
  go_upto_region 4 with (fail)
  rw [← hW3, ← Hcc.out]
  clear hW3 d0 d1 d2 d3 d4 d5 d6 d8 c7''
  obtain ⟨e0, _⟩ := hcC 0 _ rfl
  obtain ⟨e5, _⟩ := hcC 5 _ rfl
  obtain ⟨W4, hW4⟩ : ∃ W4, W4 = W3.alloc (.cells #[.slice none 0 0, .int .i64 ((i : Int) + 1), .int .i64 0, .bool true] 86) := ⟨_, rfl⟩
  have x4 : Ext W3 W4 := by rw [hW4]; exact (Touch.refl _ _).alloc _
  have hcb4 : Cb W4 W3.heap.size [.slice none 0 0, .int .i64 ((i : Int) + 1), .int .i64 0, .bool true] := by rw [hW4]; exact Cb.new W3 _ _
  have hs4 : W3.heap.size < W4.heap.size := by rw [hW4]; simp
  obtain ⟨rb, hrb⟩ : ∃ rb, rb = W3.heap.size := ⟨_, rfl⟩
  rw [← hrb] at hcb4
  have hrb4 : rb < W4.heap.size := by omega
  have Hrb := Lib.hid hrb
  clear hrb
  have hke : ¬ (6 + (kd : Int)) = 5 := by omega
  go_upto_region 9 with (fail)
  rw [← hW4, ← Hrb.out]
  clear hW4
  have xw4 := (X2.out.trans' x3).trans' x4
  have hcC4 := hcC.keep x4 id
  have hcR4 := (HcR2.out.keep x3 id).keep x4 id
  clear e0 e5 HcR2 hcC
  obtain ⟨e5, _⟩ := hcC4 5 _ rfl
  obtain ⟨e6, _⟩ := hcC4 6 _ rfl
  obtain ⟨e7, _⟩ := hcC4 7 _ rfl
  obtain ⟨p0, o0⟩ := hcb4 0 _ rfl
  have hsN := HN.out
  have Xw4 := Lib.hid xw4
  clear xw4
  have HcC4 := Lib.hid hcC4
  clear hcC4
  have HcR4 := Lib.hid hcR4
  clear hcR4
  have X3 := Lib.hid x3
  clear x3
  have X4 := Lib.hid x4
  clear x4
  have Hcb4 := Lib.hid hcb4
  clear hcb4
  go_upto_if 88 with (fail)
  go_cut [9] (fun s9 wx => s9 = .int .i64 (on : Int) ∧ RSt N W4.heap.size wx rb own ((i : Int) + 1) 0 ∧ Touch (fun b => b = rb) W4 wx)
  case first =>
   as_aux_lemma =>
    cases hfl : fl with
    | false =>
      have hon0 : on = 0 := by rw [Hone.out, hfl]; rfl
      have hown0 : own = [] := by rw [Hoo.out, hfl]; rfl
      subst hfl
      have Hon0 := Lib.hid hon0
      clear hon0
      have Hown0 := Lib.hid hown0
      clear hown0
      go_wp2_with (fail)
      go_meet
      rw [Hon0.out, Hown0.out]
      exact ⟨rfl, RSt.new Hcb4.out, Touch.refl _ _⟩
    | true =>
      have hon1 : on = 1 := by rw [Hone.out, hfl]; rfl
      have hown1 : own = [(k, x)] := by rw [Hoo.out, hfl]; rfl
      subst hfl
      have Hon1 := Lib.hid hon1
      clear hon1
      have Hown1 := Lib.hid hown1
      clear hown1
      go_wp2_with (fail)
      go_meet
      rw [Hon1.out, Hown1.out]
      obtain ⟨W5, hW5⟩ : ∃ W5, W5 = W4.setCell ⟨rb, 0, none⟩ (.slice (some ⟨W4.heap.size, 0, none⟩) 1 1) := ⟨_, rfl⟩
      have t5 : Touch (fun b => b = rb) W4 W5 := by rw [hW5]; exact Touch.setCell (S := fun b => b = rb) (Touch.refl _ _) (p := ⟨rb, 0, none⟩) (Or.inl rfl) _
      have hcb5 : Cb W5 rb [.slice (some ⟨W4.heap.size, 0, none⟩) 1 1, .int .i64 ((i : Int) + 1), .int .i64 0, .bool true] := by rw [hW5]; exact Hcb4.out.set 0 _
      have hs5 : W5.heap.size = W4.heap.size := by rw [hW5]; simp
      rw [← hW5]
      clear hW5
      have x6 : Ext W5 (W5.alloc (.cells #[.slice ka k.length kc, .int .u64 x] 33)) := (Touch.refl _ _).alloc _
      have ho := own_one W5 (.slice ka k.length kc) k x
      rw [hs5] at ho
      refine ⟨rfl, ⟨some ⟨W4.heap.size, 0, none⟩, 1, [(.slice ka k.length kc, (k, x))], rfl, hcb5.keep x6 id, ho, fun b hb => ?_, fun e he => ?_⟩, t5.trans_ext x6⟩
      · have hb : some W4.heap.size = some b := hb
        have hb := Option.some.inj hb
        have := Hrb.out
        exact ⟨by omega, by omega⟩
      · simp only [List.mem_cons, List.not_mem_nil, or_false] at he
        subst he
        have := Hrb.out
        have := X3.out.size
        exact (((Hkv.out.ext Xw4.out).keep t5 (fun b hb h => by have h : b = rb := h; have hb : b < N := hb; omega)).ext x6)
  case rest =>
    obtain ⟨rfl, hstA, ztA⟩ := hcut
    obtain ⟨wA, rfl⟩ : ∃ wA, wA = wc := ⟨_, rfl⟩
    have hccrb : cc ≠ rb := by have := Hcc.out; have := Hrb.out; omega
    have hcCA := HcC4.out.keep ztA (fun h => hccrb h)
    clear e5 e6 e7 p0 o0
    obtain ⟨e0, _⟩ := hcCA 0 _ rfl
    obtain ⟨e1, _⟩ := hcCA 1 _ rfl
    obtain ⟨e3, _⟩ := hcCA 3 _ rfl
    obtain ⟨e4, _⟩ := hcCA 4 _ rfl
    obtain ⟨e5, _⟩ := hcCA 5 _ rfl
    obtain ⟨e6, _⟩ := hcCA 6 _ rfl
    obtain ⟨e8, _⟩ := hcCA 8 _ rfl
    have hbn := band_any wA kd cn Hkd.out Hlf.out Hrm.out
    have HstA := Lib.hid hstA
    clear hstA
    have ZtA := Lib.hid ztA
    clear ztA
    have HcCA := Lib.hid hcCA
    clear hcCA
    have Hbn := Lib.hid hbn
    clear hbn
    have Hccrb := Lib.hid hccrb
    clear hccrb
    go_upto_region 12 with (fail)
    go_cut [144] (fun s144 wx => s144 = .bool false ∧ wx = wA)
    case first =>
     as_aux_lemma =>
      have hkd := Hkd.out
      have k1 : ¬ (6 + (kd : Int)) < 6 := by omega
      have k2 : ¬ (9 : Int) < 6 + (kd : Int) := by omega
      have hcn := Hcn.out
      have k3 : ¬ ((cn : Int) + (on : Int)) < 2 := by have := H2k.out; omega
      cases fl with
      | true =>
        go_wp2_with (fail)
        (with_reducible refine Hbn.out.mono ?_)
        rintro e w' ⟨rfl, rfl⟩
        go_wp2_with (fail)
        go_meet
        exact ⟨rfl, rfl⟩
      | false =>
        have hx0 := Hxo.out rfl
        subst hx0
        go_wp2_with (fail)
        (with_reducible refine Hbn.out.mono ?_)
        rintro e w' ⟨rfl, rfl⟩
        go_wp2_with (fail)
        go_meet
        exact ⟨rfl, rfl⟩
    case rest =>
      obtain ⟨rfl, hwc⟩ := hcut
      have hwc := hwc.symm
      subst hwc
      clear e0 e1 e3 e4 e5 e6 e8
      go_wp2_with (fail)
      go_loopw [11, 12] (fun s11 s12 wr => ∃ j : Nat, j ≤ cn ∧ s11 = .int .i64 (LI j) ∧ s12 = .int .i64 j ∧ RSt N W4.heap.size wr rb (PS j) (Nx j : Nat) (DS j) ∧ Touch (fun b => b = rb) W4 wr) (fun _ s12 _ => cn - (intOf s12).toNat)
      case atStart =>
        have hs0 := S0.out
        refine ⟨0, by omega, by rw [S3.out], rfl, ?_, ZtA.out⟩
        rw [S1.out, S2.out, hs0]
        exact HstA.out
      case round =>
        obtain ⟨j, hj, rfl, rfl, hst0, zt0⟩ := hrel
        have hcCr := HcC4.out.keep zt0 (fun h => Hccrb.out h)
        obtain ⟨e3, _⟩ := hcCr 3 _ rfl
        obtain ⟨e7, _⟩ := hcCr 7 _ rfl
        have hcn := Hcn.out
        have xwr := Xw4.out.ext_new zt0 (fun b hb => by have hb : b = rb := hb; have := Hrb.out; have := X3.out.size; omega)
        by_cases hlt : j < cn
        · have hjl : j < bl.length := by rw [Hbll.out]; exact hlt
          obtain ⟨ch, hch⟩ : ∃ ch, bl[j]? = some ch := ⟨_, List.getElem?_eq_getElem hjl⟩
          obtain ⟨t1, t2, t3, t4, t5⟩ := Hst.out j ch hch
          obtain ⟨cd, u1, u2⟩ := Hat.out j ch hch
          obtain ⟨u3, u4⟩ := Hky.out j ch hch
          have u5 := Hb256.out j ch hch
          have hih := Ih.out j ch hch
          have hNbj := HNb.out (j + 1)
          have hDbj := HDb.out j
          have hDbk := HDb.out (j + 1)
          have hPbk := HPb.out (j + 1)
          rw [t1, List.length_append] at hPbk
          obtain ⟨kkv, hkk, z0, z1, z2, z3, z4, z5, z6, z7, z8⟩ := (H.out.ext xwr).get _ _ u1
          rw [u2] at hkk
          obtain ⟨kka, kkc, rfl, kkl, kkm, _⟩ := hkk.shape
          obtain ⟨kb, ko, rfl, _⟩ := hkk.addr (by omega)
          have z9 := hkk.cell k.length u3
          rw [(List.getElem?_eq_some_iff.1 u4).2] at z9
          obtain ⟨ra, rc, es, hes, hcb0, hown0, hrlt, hrk0⟩ := hst0
          obtain ⟨q0, g0⟩ := hcb0 0 _ rfl
          obtain ⟨q1, g1⟩ := hcb0 1 _ rfl
          obtain ⟨q2, g2⟩ := hcb0 2 _ rfl
          obtain ⟨q3, g3⟩ := hcb0 3 _ rfl
          generalize hnx : Nx j = nx at *
          generalize hnx' : Nx (j + 1) = nx' at *
          generalize hPj : PS j = Pj at *
          generalize hdj : DS j = dj at *
          generalize hP : (f ch).prs = P at *
          generalize hdn : (f ch).deep = dn at *
          generalize (f ch).key = kk at *
          generalize hLj : LI j = lj at *
          have hrlb := World.block_lt_of_cell? _ _ q0
          have hclb := World.block_lt_of_cell? _ _ e7
          simp only at hrlb hclb
          have hNw : N ≤ wr.heap.size := Nat.le_trans hsN xwr.size
          have hdnb : dn ≤ 100000000000 := by have := hDbk; rw [t2] at this; omega
          have hpmm := Hpm.out
          have j1 : (j : Int) < (cn : Int) := by omega
          have j2 : (j : Int) ≤ 256 := by omega
          have v0 : (0 : Int) ≤ (nx : Int) := by omega
          have v1 : (nx : Int) < (cs.length : Int) := by omega
          have v1' : ¬ (cs.length : Int) ≤ (nx : Int) := by omega
          have v2 : (k.length : Int) < (kk.length : Int) := by omega
          have v2' : ¬ (kk.length : Int) ≤ (k.length : Int) := by omega
          have v3 : (0 : Int) ≤ (k.length : Int) := by omega
          have v4 : ¬ (ch : Int) ≤ lj := by omega
          have v5 : ((ch : Int)) % 256 = (ch : Int) := by omega
          have v6 : decide ((cs.length : Int) ≤ (nx : Int)) = false := by simp; omega
          have v7 : decide ((kk.length : Int) ≤ (k.length : Int)) = false := by simp; omega
          have v8 : decide ((ch : Int) ≤ lj) = false := by simp; omega
          have vb : IntKind.i64.wrap (ch : Int) = (ch : Int) := by rw [IntKind.wrap_i64]; omega
          have vc : IntKind.u8.wrap (ch : Int) = (ch : Int) := by rw [IntKind.wrap_u8]; omega
          have hkl := Hkl.out
          have v9 : decide (cs.length ≤ nx) = false := by simp; omega
          have va : decide (kk.length ≤ k.length) = false := by simp; omega
          have Zt0 := Lib.hid zt0
          clear zt0
          have HcCr := Lib.hid hcCr
          clear hcCr
          have Xwr := Lib.hid xwr
          clear xwr
          have Hes := Lib.hid hes
          clear hes
          have Hcb0 := Lib.hid hcb0
          clear hcb0
          have Hown0 := Lib.hid hown0
          clear hown0
          have Hrlt := Lib.hid hrlt
          clear hrlt
          have Hrk0 := Lib.hid hrk0
          clear hrk0
          have Hkk := Lib.hid hkk
          clear hkk
          have T1 := Lib.hid t1
          clear t1
          have T2 := Lib.hid t2
          clear t2
          have T3 := Lib.hid t3
          clear t3
          have T4 := Lib.hid t4
          clear t4
          have T5 := Lib.hid t5
          clear t5
          have U1 := Lib.hid u1
          clear u1
          have U2 := Lib.hid u2
          clear u2
          have U3 := Lib.hid u3
          clear u3
          have U4 := Lib.hid u4
          clear u4
          have U5 := Lib.hid u5
          clear u5
          have Hih := Lib.hid hih
          clear hih
          have Hch := Lib.hid hch
          clear hch
          have Hnx := Lib.hid hnx
          clear hnx
          have Hnx' := Lib.hid hnx'
          clear hnx'
          have HPj := Lib.hid hPj
          clear hPj
          have Hdj := Lib.hid hdj
          clear hdj
          have HP := Lib.hid hP
          clear hP
          have Hdn := Lib.hid hdn
          clear hdn
          have HLj := Lib.hid hLj
          clear hLj
          have HNbj := Lib.hid hNbj
          clear hNbj
          have HDbj := Lib.hid hDbj
          clear hDbj
          have HDbk := Lib.hid hDbk
          clear hDbk
          have HPbk := Lib.hid hPbk
          clear hPbk
          have HNw := Lib.hid hNw
          clear hNw
          have Hjl := Lib.hid hjl
          clear hjl
          have Kkl := Lib.hid kkl
          clear kkl
          have Kkm := Lib.hid kkm
          clear kkm
          have Hpmm := Lib.hid hpmm
          clear hpmm
          go_wp2_with (fail)
          refine wp_region_plan (.take 0 (.take 1 (.take 2 (.take 3 (.take 4 (.take 5 (.take 6 (.take 7 (.take 8 (.take 9 (.take 10 (.take 11 (.take 12 (.take 13 (.take 14 (.take 15 (.take 16 (.take 17 (.take 18 (.take 19 (.take 20 (.take 21 (.take 22 (.take 23 (.take 24 (.take 25 (.take 26 (.take 27 (.take 28 (.take 29 (.take 30 (.take 31 (.take 32 (.take 33 .done)))))))))))))))))))))))))))))))))) (fun W => W.cell? ⟨rb, 1, none⟩ = some (.int .i64 (nx : Int)) ∧ W.cell? ⟨cb, co + nx * 9 + 7, none⟩ = some (.slice (some ⟨kb, ko, none⟩) kk.length kkc) ∧ W.cell? ⟨cc, 7, none⟩ = some (.slice ka k.length kc) ∧ W.cell? ⟨kb, ko + k.length, none⟩ = some (.int .u8 (ch : Int))) (by kernel_rfl) (by kernel_rfl) (by kernel_rfl) rfl ?_ (fun KK hKK => ?_)
          · exact ⟨q1, z7, e7, z9⟩
          repeat (first
            | (refine wpPlan_take (v := ?_) rfl (by rfl) (fun W hW => ?_) ?_; rotate_left; (focus ((try dsimp only at hW); go_split_ands; go_simp; (try with_reducible rfl); done)); (try simp only [Act.put, List.setIfInBounds_toArray, List.set_cons_zero, List.set_cons_succ]))
            | (refine wpPlan_skip rfl (by rfl) ?_; (try simp only [Act.put, List.setIfInBounds_toArray, List.set_cons_zero, List.set_cons_succ])))
          refine wpPlan_done (hKK.out _ _ ?_)
          clear hKK KK
          go_wp2_with (fail)
          refine wp_region_plan (.take 0 (.take 1 (.take 2 (.take 3 (.take 4 (.take 5 (.take 6 (.take 7 (.take 8 (.take 9 (.take 10 (.take 11 (.take 12 .done))))))))))))) (fun W => W.cell? ⟨rb, 1, none⟩ = some (.int .i64 (nx : Int)) ∧ W.cell? ⟨cb, co + nx * 9 + 7, none⟩ = some (.slice (some ⟨kb, ko, none⟩) kk.length kkc) ∧ W.cell? ⟨cc, 7, none⟩ = some (.slice ka k.length kc) ∧ W.cell? ⟨kb, ko + k.length, none⟩ = some (.int .u8 (ch : Int))) (by kernel_rfl) (by kernel_rfl) (by kernel_rfl) rfl ?_ (fun KK hKK => ?_)
          · exact ⟨q1, z7, e7, z9⟩
          repeat (first
            | (refine wpPlan_take (v := ?_) rfl (by rfl) (fun W hW => ?_) ?_; rotate_left; (focus ((try dsimp only at hW); go_split_ands; go_simp; (try with_reducible rfl); done)); (try simp only [Act.put, List.setIfInBounds_toArray, List.set_cons_zero, List.set_cons_succ]))
            | (refine wpPlan_skip rfl (by rfl) ?_; (try simp only [Act.put, List.setIfInBounds_toArray, List.set_cons_zero, List.set_cons_succ])))
          refine wpPlan_done (hKK.out _ _ ?_)
          clear hKK KK
          go_upto_region 21 with (fail)
          obtain ⟨wq0, hwq0⟩ : ∃ wq0, wq0 = wr.drew.drew := ⟨_, rfl⟩
          rw [← hwq0]
          have yq0 : Ext wr wq0 := by rw [hwq0]; exact (Touch.refl _ _).drew.drew
          clear hwq0 z0 z1 z2 z3 z4 z5 z6 z7 z8 z9
          have Yq0 := Lib.hid yq0
          clear yq0
          go_cut [13] (fun s13 wx => XSt N wr s13 wx P ((nx' : Nat) : Int) dn)
          case first =>
           as_aux_lemma =>
            have q1 := keepc Yq0.out id q1
            have q7 := keepc Yq0.out id e7
            clear q0 q2 q3 g0 g1 g2 g3 e3 e7
            refine wp_region_plan (.take 0 (.take 1 (.take 2 (.take 3 (.take 4 (.take 6 (.take 7 (.three 5 8 11 (.two 8 11 (.two 9 11 (.two 10 11 (.must 11 (.last 12 .done)) (.must 10 (.last 12 .done))) (.must 9 (.must 10 (.last 12 .done)))) (.must 8 (.must 9 (.must 10 (.last 12 .done))))) (.two 5 11 (.two 9 11 (.two 10 11 (.must 11 (.last 12 .done)) (.must 10 (.last 12 .done))) (.must 9 (.must 10 (.last 12 .done)))) (.must 5 (.must 9 (.must 10 (.last 12 .done))))) (.two 5 8 (.must 8 (.must 9 (.must 10 (.last 12 .done)))) (.must 5 (.must 9 (.must 10 (.last 12 .done))))))))))))) (fun W => W.cell? ⟨rb, 1, none⟩ = some (.int .i64 (nx : Int)) ∧ W.cell? ⟨cc, 7, none⟩ = some (.slice ka k.length kc)) (by kernel_rfl) (by kernel_rfl) (by kernel_rfl) rfl ?_ (fun KK hKK => ?_)
            · exact ⟨q1, q7⟩
            repeat (first
              | (refine wpPlan_take (v := ?_) rfl (by rfl) (fun W hW => ?_) ?_; rotate_left; (focus ((try dsimp only at hW); go_split_ands; go_simp; (try with_reducible rfl); done)); (try simp only [Act.put, List.setIfInBounds_toArray, List.set_cons_zero, List.set_cons_succ]))
              | (refine wpPlan_skip rfl (by rfl) ?_; (try simp only [Act.put, List.setIfInBounds_toArray, List.set_cons_zero, List.set_cons_succ])))
            obtain ⟨wq, hwq⟩ : ∃ wq, wq = wq0.drew := ⟨_, rfl⟩
            rw [← hwq]
            have yq : Ext wr wq := by rw [hwq]; exact Yq0.out.drew
            have xq := Xwr.out.trans' yq
            have q1 := keepc (show Ext wq0 wq by rw [hwq]; exact (Touch.refl _ _).drew) id q1
            have q7 := keepc (show Ext wq0 wq by rw [hwq]; exact (Touch.refl _ _).drew) id q7
            have y : Ext wq wq := Touch.refl _ _
            have hwqr := yq.size
            clear hwq
            have Yq := Lib.hid yq
            clear yq
            have Xq := Lib.hid xq
            clear xq
            have Y := Lib.hid y
            clear y
            have Hwqr := Lib.hid hwqr
            clear hwqr
            refine wpPlan_three ?_ ?_ ?_
            · refine wpPlan_must rfl (by rfl) (fun K hK => ?_)
              refine wp_push_any _ _ _ 23 rfl 5 (.int .u8 0) 1 1 Tryd.underlying23 info_u8 rfl (by decide) (.slice none 0 0) 0 [] rfl (World.ownsRow_nil _ _ _ _) ka k.length kc rfl kn0 (ivs .u8 k) kl1 (by simp [ivs]) (Hkv.out.ext (Xq.out.trans' Y.out)).src (ivs_one _ _) (by unfold maxLen; omega) (by omega) ?_
              intro v5 w5 hown5 ht5 hb5
              rw [Nat.zero_add, List.nil_append] at hown5
              have yn : Ext wq w5 := ht5.new (fun i hi => by cases hi)
              have hlo5 : ∀ i, v5.ownBlock = some i → wq.heap.size ≤ i ∧ i < w5.heap.size := fun i hi => by
                have h9 := (hown5.lt i hi).2
                rcases hb5 with h | h
                · rw [h] at hi; cases hi
                · rw [h] at hi; cases hi; exact ⟨Nat.le_refl _, h9⟩
              obtain ⟨a5, c5, rfl⟩ := own_len hown5
              clear ht5 hb5
              have Hown5 := Lib.hid hown5
              clear hown5
              have Hlo5 := Lib.hid hlo5
              clear hlo5
              have hsz5 := yn.size
              have q1 := keepc yn id q1
              have q7 := keepc yn id q7
              have y := Y.out.trans' yn
              clear Y yn
              have Y := Lib.hid y
              clear y
              refine hK.out _ _ ?_ ?_
              · exact ⟨q1, q7⟩
              clear hK K
              (try simp only [Act.put, List.setIfInBounds_toArray, List.set_cons_zero, List.set_cons_succ])
              repeat (first
                | (refine wpPlan_take (v := ?_) rfl (by rfl) (fun W hW => ?_) ?_; rotate_left; (focus ((try dsimp only at hW); go_split_ands; go_simp; (try with_reducible rfl); done)); (try simp only [Act.put, List.setIfInBounds_toArray, List.set_cons_zero, List.set_cons_succ]))
                | (refine wpPlan_skip rfl (by rfl) ?_; (try simp only [Act.put, List.setIfInBounds_toArray, List.set_cons_zero, List.set_cons_succ])))
              refine wpPlan_two ?_ ?_
              · refine wpPlan_must rfl (by rfl) (fun K hK => ?_)
                go_simp
                obtain ⟨w8, hw8⟩ : ∃ w8, w8 = w5.alloc (.cells #[.int .u8 (ch : Int)] 5) := ⟨_, rfl⟩
                have yn : Ext w5 w8 := by rw [hw8]; exact (Touch.refl _ _).alloc _
                have hs8 : Src w8 (some ⟨w5.heap.size, 0, none⟩) (ivs .u8 [(ch : Int)]) := by rw [hw8]; exact src_one _ _ _
                rw [← hw8]
                clear hw8
                obtain ⟨b8, hb8⟩ : ∃ b8, b8 = w5.heap.size := ⟨_, rfl⟩
                rw [← hb8] at hs8 ⊢
                have hown5 := own_keep Hown5.out yn (fun _ _ h => h)
                clear Hown5
                have Hown5 := Lib.hid hown5
                clear hown5
                have Hs8 := Lib.hid hs8
                clear hs8
                have Hb8 := Lib.hid hb8
                clear hb8
                have hsz8 := yn.size
                have q1 := keepc yn id q1
                have q7 := keepc yn id q7
                have y := Y.out.trans' yn
                clear Y yn
                have Y := Lib.hid y
                clear y
                refine hK.out _ _ ?_ ?_
                · exact ⟨q1, q7⟩
                clear hK K
                (try simp only [Act.put, List.setIfInBounds_toArray, List.set_cons_zero, List.set_cons_succ])
                repeat (first
                  | (refine wpPlan_take (v := ?_) rfl (by rfl) (fun W hW => ?_) ?_; rotate_left; (focus ((try dsimp only at hW); go_split_ands; go_simp; (try with_reducible rfl); done)); (try simp only [Act.put, List.setIfInBounds_toArray, List.set_cons_zero, List.set_cons_succ]))
                  | (refine wpPlan_skip rfl (by rfl) ?_; (try simp only [Act.put, List.setIfInBounds_toArray, List.set_cons_zero, List.set_cons_succ])))
                refine wpPlan_two ?_ ?_
                · refine wpPlan_must rfl (by rfl) (fun K hK => ?_)
                  refine wp_push_any _ _ _ 23 rfl 5 (.int .u8 0) 1 1 Tryd.underlying23 info_u8 rfl (by decide) (.slice a5 k.length c5) k.length (ivs .u8 k) rfl Hown5.out (some ⟨b8, 0, none⟩) 1 1 rfl (fun h => by cases h) (ivs .u8 [(ch : Int)]) (by decide) (by simp [ivs]) Hs8.out (ivs_one _ _) (by unfold maxLen; omega) (by omega) ?_
                  intro v9 w9 hown9 ht9 hb9
                  have hwq : wq.heap.size ≤ w8.heap.size := Y.out.size
                  have hwqr := Hwqr.out
                  have h5lo : ∀ i, (Value.slice a5 k.length c5).ownBlock = some i → wq.heap.size ≤ i := fun i hi => by have := (Hlo5.out i hi).1; omega
                  have t9 : Touch (fun b => (Value.slice a5 k.length c5).ownBlock = some b) w8 w9 := ht9
                  have y9 : Ext wq w9 := Y.out.ext_new t9 h5lo
                  have hsz9 := t9.size
                  have n1 : ¬ (Value.slice a5 k.length c5).ownBlock = some rb := fun h => by have := h5lo rb h; omega
                  have n7 : ¬ (Value.slice a5 k.length c5).ownBlock = some cc := fun h => by have := h5lo cc h; omega
                  have q1 := keepc t9 n1 q1
                  have q7 := keepc t9 n7 q7
                  have hwv : RB w9 (fun _ => True) v9 (k ++ [(ch : Int)]) := by
                    have h1 : w9.ownsRow 0 5 1 v9 (k ++ [(ch : Int)]).length (ivs .u8 (k ++ [(ch : Int)])) := by rw [List.length_append, ivs_append]; exact hown9
                    exact OB.rb (F := fun _ => True) ⟨h1, fun _ _ => trivial⟩
                  obtain ⟨a9, c9, rfl⟩ := own_len hown9
                  clear ht9 hb9 t9 hown9 h5lo n1 n7 Y Hown5 Hlo5 Hs8 hwq hwqr
                  have y := y9
                  clear y9
                  have Y := Lib.hid y
                  clear y
                  have Hwv := Lib.hid hwv
                  clear hwv
                  refine hK.out _ _ ?_ ?_
                  · exact ⟨q1, q7⟩
                  clear hK K
                  (try simp only [Act.put, List.setIfInBounds_toArray, List.set_cons_zero, List.set_cons_succ])
                  repeat (first
                    | (refine wpPlan_take (v := ?_) rfl (by rfl) (fun W hW => ?_) ?_; rotate_left; (focus ((try dsimp only at hW); go_split_ands; go_simp; (try with_reducible rfl); done)); (try simp only [Act.put, List.setIfInBounds_toArray, List.set_cons_zero, List.set_cons_succ]))
                    | (refine wpPlan_skip rfl (by rfl) ?_; (try simp only [Act.put, List.setIfInBounds_toArray, List.set_cons_zero, List.set_cons_succ])))
                  refine wpPlan_two ?_ ?_
                  · refine wpPlan_must rfl (by rfl) (fun K hK => ?_)
                    go_simp
                    (with_reducible refine (Hih.out w9 _ (Xq.out.trans' Y.out) Hwv.out).mono ?_)
                    intro e w10 hp
                    unfold TRead at hp
                    obtain ⟨⟨xa, xc, rfl, xl, xn, hrn⟩, yn⟩ := hp
                    clear Hwv
                    have hL10 := Y.out.size
                    have y10 := Y.out.trans' yn
                    have Hrn := Lib.hid hrn
                    clear hrn
                    have Xl := Lib.hid xl
                    clear xl
                    have Xn := Lib.hid xn
                    clear xn
                    have HL10 := Lib.hid hL10
                    clear hL10
                    have Y10 := Lib.hid y10
                    clear y10
                    have hsz10 := yn.size
                    have q1 := keepc yn id q1
                    have q7 := keepc yn id q7
                    have y := Y.out.trans' yn
                    clear Y yn
                    have Y := Lib.hid y
                    clear y
                    refine hK.out _ _ ?_ ?_
                    · exact ⟨q1, q7⟩
                    clear hK K
                    (try simp only [Act.put, List.setIfInBounds_toArray, List.set_cons_zero, List.set_cons_succ])
                    repeat (first
                      | (refine wpPlan_take (v := ?_) rfl (by rfl) (fun W hW => ?_) ?_; rotate_left; (focus ((try dsimp only at hW); go_split_ands; go_simp; (try with_reducible rfl); done)); (try simp only [Act.put, List.setIfInBounds_toArray, List.set_cons_zero, List.set_cons_succ]))
                      | (refine wpPlan_skip rfl (by rfl) ?_; (try simp only [Act.put, List.setIfInBounds_toArray, List.set_cons_zero, List.set_cons_succ])))
                    refine wpPlan_must rfl (by rfl) (fun K hK => ?_)
                    go_simp
                    obtain ⟨w11, hw11⟩ : ∃ w11, w11 = w10.alloc (.cells #[.slice none 0 0, .int .i64 0, .int .i64 0, .bool false] 86) := ⟨_, rfl⟩
                    have yn : Ext w10 w11 := by rw [hw11]; exact (Touch.refl _ _).alloc _
                    have hx : Cb w11 w10.heap.size zr := by rw [hw11]; exact Cb.new _ zr _
                    have hxl : w10.heap.size < w11.heap.size := by rw [hw11]; simp
                    rw [← hw11]
                    clear hw11
                    obtain ⟨bx, hbx⟩ : ∃ bx, bx = w10.heap.size := ⟨_, rfl⟩
                    rw [← hbx] at hx ⊢
                    have yx := yn
                    have Yx := Lib.hid yx
                    clear yx
                    have Hx := Lib.hid hx
                    clear hx
                    have Hbx := Lib.hid hbx
                    clear hbx
                    have Hxl := Lib.hid hxl
                    clear hxl
                    have hsz11 := yn.size
                    have q1 := keepc yn id q1
                    have q7 := keepc yn id q7
                    have y := Y.out.trans' yn
                    clear Y yn
                    have Y := Lib.hid y
                    clear y
                    refine hK.out _ _ ?_ ?_
                    · exact ⟨q1, q7⟩
                    clear hK K
                    (try simp only [Act.put, List.setIfInBounds_toArray, List.set_cons_zero, List.set_cons_succ])
                    repeat (first
                      | (refine wpPlan_take (v := ?_) rfl (by rfl) (fun W hW => ?_) ?_; rotate_left; (focus ((try dsimp only at hW); go_split_ands; go_simp; (try with_reducible rfl); done)); (try simp only [Act.put, List.setIfInBounds_toArray, List.set_cons_zero, List.set_cons_succ]))
                      | (refine wpPlan_skip rfl (by rfl) ?_; (try simp only [Act.put, List.setIfInBounds_toArray, List.set_cons_zero, List.set_cons_succ])))
                    obtain ⟨x0, f0⟩ := Hx.out 0 _ rfl
                    obtain ⟨x1, f1⟩ := Hx.out 1 _ rfl
                    obtain ⟨x2, f2⟩ := Hx.out 2 _ rfl
                    obtain ⟨x3, f3⟩ := Hx.out 3 _ rfl
                    have hL := HL10.out
                    have hwqr := Hwqr.out
                    have hb1 := Hbx.out
                    have hb2 := Hxl.out
                    have hnw := HNw.out
                    have hyy := Y.out.size
                    have hend := x_end (nx := ((nx' : Nat) : Int)) (d := dn) (wr := wr) Hx.out (wa := w10) Yx.out.none_to ⟨by omega, by omega, by omega⟩ Xl.out Xn.out _ (by omega) Hrn.out (Or.inr (by omega)) (Yq.out.trans' Y10.out)
                    have Hend := Lib.hid hend
                    clear hend
                    clear hL hb1 hb2 hnw hyy hwqr
                    refine wpPlan_last rfl (by rfl) (fun K hK => ?_)
                    go_simp
                    refine hK.out _ _ ?_
                    clear hK K
                    (try simp only [Act.put, List.setIfInBounds_toArray, List.set_cons_zero, List.set_cons_succ])
                    refine wpPlan_done (hKK.out _ _ ?_)
                    clear hKK KK
                    go_wp2_with (fail)
                    go_meet
                    exact Hend.out
                  · refine wpPlan_must rfl (by rfl) (fun K hK => ?_)
                    go_simp
                    obtain ⟨w11, hw11⟩ : ∃ w11, w11 = w9.alloc (.cells #[.slice none 0 0, .int .i64 0, .int .i64 0, .bool false] 86) := ⟨_, rfl⟩
                    have yn : Ext w9 w11 := by rw [hw11]; exact (Touch.refl _ _).alloc _
                    have hx : Cb w11 w9.heap.size zr := by rw [hw11]; exact Cb.new _ zr _
                    have hxl : w9.heap.size < w11.heap.size := by rw [hw11]; simp
                    rw [← hw11]
                    clear hw11
                    obtain ⟨bx, hbx⟩ : ∃ bx, bx = w9.heap.size := ⟨_, rfl⟩
                    rw [← hbx] at hx ⊢
                    have hwv := Hwv.out.ext yn
                    clear Hwv
                    have Hwv := Lib.hid hwv
                    clear hwv
                    have Hx := Lib.hid hx
                    clear hx
                    have Hbx := Lib.hid hbx
                    clear hbx
                    have Hxl := Lib.hid hxl
                    clear hxl
                    have hsz11 := yn.size
                    have q1 := keepc yn id q1
                    have q7 := keepc yn id q7
                    have y := Y.out.trans' yn
                    clear Y yn
                    have Y := Lib.hid y
                    clear y
                    refine hK.out _ _ ?_ ?_
                    · exact ⟨q1, q7⟩
                    clear hK K
                    (try simp only [Act.put, List.setIfInBounds_toArray, List.set_cons_zero, List.set_cons_succ])
                    repeat (first
                      | (refine wpPlan_take (v := ?_) rfl (by rfl) (fun W hW => ?_) ?_; rotate_left; (focus ((try dsimp only at hW); go_split_ands; go_simp; (try with_reducible rfl); done)); (try simp only [Act.put, List.setIfInBounds_toArray, List.set_cons_zero, List.set_cons_succ]))
                      | (refine wpPlan_skip rfl (by rfl) ?_; (try simp only [Act.put, List.setIfInBounds_toArray, List.set_cons_zero, List.set_cons_succ])))
                    refine wpPlan_must rfl (by rfl) (fun K hK => ?_)
                    go_simp
                    (with_reducible refine (Hih.out w11 _ (Xq.out.trans' Y.out) Hwv.out).mono ?_)
                    intro e w10 hp
                    unfold TRead at hp
                    obtain ⟨⟨xa, xc, rfl, xl, xn, hrn⟩, yn⟩ := hp
                    have hx := Hx.out.keep yn id
                    clear Hx
                    have Hx := Lib.hid hx
                    clear hx
                    clear Hwv
                    have hL10 := Y.out.size
                    have y10 := Y.out.trans' yn
                    have Hrn := Lib.hid hrn
                    clear hrn
                    have Xl := Lib.hid xl
                    clear xl
                    have Xn := Lib.hid xn
                    clear xn
                    have HL10 := Lib.hid hL10
                    clear hL10
                    have Y10 := Lib.hid y10
                    clear y10
                    have hsz10 := yn.size
                    have q1 := keepc yn id q1
                    have q7 := keepc yn id q7
                    have y := Y.out.trans' yn
                    clear Y yn
                    have Y := Lib.hid y
                    clear y
                    refine hK.out _ _ ?_ ?_
                    · exact ⟨q1, q7⟩
                    clear hK K
                    (try simp only [Act.put, List.setIfInBounds_toArray, List.set_cons_zero, List.set_cons_succ])
                    repeat (first
                      | (refine wpPlan_take (v := ?_) rfl (by rfl) (fun W hW => ?_) ?_; rotate_left; (focus ((try dsimp only at hW); go_split_ands; go_simp; (try with_reducible rfl); done)); (try simp only [Act.put, List.setIfInBounds_toArray, List.set_cons_zero, List.set_cons_succ]))
                      | (refine wpPlan_skip rfl (by rfl) ?_; (try simp only [Act.put, List.setIfInBounds_toArray, List.set_cons_zero, List.set_cons_succ])))
                    obtain ⟨x0, f0⟩ := Hx.out 0 _ rfl
                    obtain ⟨x1, f1⟩ := Hx.out 1 _ rfl
                    obtain ⟨x2, f2⟩ := Hx.out 2 _ rfl
                    obtain ⟨x3, f3⟩ := Hx.out 3 _ rfl
                    have hL := HL10.out
                    have hwqr := Hwqr.out
                    have hb1 := Hbx.out
                    have hb2 := Hxl.out
                    have hnw := HNw.out
                    have hyy := Y.out.size
                    have hend := x_end (nx := ((nx' : Nat) : Int)) (d := dn) (wr := wr) Hx.out (wa := w10) (Touch.refl _ _) ⟨by omega, by omega, by omega⟩ Xl.out Xn.out _ (by omega) Hrn.out (Or.inl (by omega)) (Yq.out.trans' Y.out)
                    have Hend := Lib.hid hend
                    clear hend
                    clear hL hb1 hb2 hnw hyy hwqr
                    refine wpPlan_last rfl (by rfl) (fun K hK => ?_)
                    go_simp
                    refine hK.out _ _ ?_
                    clear hK K
                    (try simp only [Act.put, List.setIfInBounds_toArray, List.set_cons_zero, List.set_cons_succ])
                    refine wpPlan_done (hKK.out _ _ ?_)
                    clear hKK KK
                    go_wp2_with (fail)
                    go_meet
                    exact Hend.out
                · refine wpPlan_must rfl (by rfl) (fun K hK => ?_)
                  go_simp
                  obtain ⟨w11, hw11⟩ : ∃ w11, w11 = w8.alloc (.cells #[.slice none 0 0, .int .i64 0, .int .i64 0, .bool false] 86) := ⟨_, rfl⟩
                  have yn : Ext w8 w11 := by rw [hw11]; exact (Touch.refl _ _).alloc _
                  have hx : Cb w11 w8.heap.size zr := by rw [hw11]; exact Cb.new _ zr _
                  have hxl : w8.heap.size < w11.heap.size := by rw [hw11]; simp
                  rw [← hw11]
                  clear hw11
                  obtain ⟨bx, hbx⟩ : ∃ bx, bx = w8.heap.size := ⟨_, rfl⟩
                  rw [← hbx] at hx ⊢
                  have hown5 := own_keep Hown5.out yn (fun _ _ h => h)
                  clear Hown5
                  have Hown5 := Lib.hid hown5
                  clear hown5
                  have hs8 := Hs8.out.ext yn
                  clear Hs8
                  have Hs8 := Lib.hid hs8
                  clear hs8
                  have Hx := Lib.hid hx
                  clear hx
                  have Hbx := Lib.hid hbx
                  clear hbx
                  have Hxl := Lib.hid hxl
                  clear hxl
                  have hsz11 := yn.size
                  have q1 := keepc yn id q1
                  have q7 := keepc yn id q7
                  have y := Y.out.trans' yn
                  clear Y yn
                  have Y := Lib.hid y
                  clear y
                  refine hK.out _ _ ?_ ?_
                  · exact ⟨q1, q7⟩
                  clear hK K
                  (try simp only [Act.put, List.setIfInBounds_toArray, List.set_cons_zero, List.set_cons_succ])
                  repeat (first
                    | (refine wpPlan_take (v := ?_) rfl (by rfl) (fun W hW => ?_) ?_; rotate_left; (focus ((try dsimp only at hW); go_split_ands; go_simp; (try with_reducible rfl); done)); (try simp only [Act.put, List.setIfInBounds_toArray, List.set_cons_zero, List.set_cons_succ]))
                    | (refine wpPlan_skip rfl (by rfl) ?_; (try simp only [Act.put, List.setIfInBounds_toArray, List.set_cons_zero, List.set_cons_succ])))
                  refine wpPlan_must rfl (by rfl) (fun K hK => ?_)
                  refine wp_push_any _ _ _ 23 rfl 5 (.int .u8 0) 1 1 Tryd.underlying23 info_u8 rfl (by decide) (.slice a5 k.length c5) k.length (ivs .u8 k) rfl Hown5.out (some ⟨b8, 0, none⟩) 1 1 rfl (fun h => by cases h) (ivs .u8 [(ch : Int)]) (by decide) (by simp [ivs]) Hs8.out (ivs_one _ _) (by unfold maxLen; omega) (by omega) ?_
                  intro v9 w9 hown9 ht9 hb9
                  have hwq : wq.heap.size ≤ w11.heap.size := Y.out.size
                  have hwqr := Hwqr.out
                  have h5lo : ∀ i, (Value.slice a5 k.length c5).ownBlock = some i → wq.heap.size ≤ i := fun i hi => by have := (Hlo5.out i hi).1; omega
                  have t9 : Touch (fun b => (Value.slice a5 k.length c5).ownBlock = some b) w11 w9 := ht9
                  have y9 : Ext wq w9 := Y.out.ext_new t9 h5lo
                  have hsz9 := t9.size
                  have n1 : ¬ (Value.slice a5 k.length c5).ownBlock = some rb := fun h => by have := h5lo rb h; omega
                  have n7 : ¬ (Value.slice a5 k.length c5).ownBlock = some cc := fun h => by have := h5lo cc h; omega
                  have q1 := keepc t9 n1 q1
                  have q7 := keepc t9 n7 q7
                  have hwv : RB w9 (fun _ => True) v9 (k ++ [(ch : Int)]) := by
                    have h1 : w9.ownsRow 0 5 1 v9 (k ++ [(ch : Int)]).length (ivs .u8 (k ++ [(ch : Int)])) := by rw [List.length_append, ivs_append]; exact hown9
                    exact OB.rb (F := fun _ => True) ⟨h1, fun _ _ => trivial⟩
                  have hx := Hx.out.keep t9 (fun h => by have h1 := Hlo5.out bx h; have h2 := Hbx.out; have h3 := Hxl.out; omega)
                  clear Hx
                  have Hx := Lib.hid hx
                  clear hx
                  obtain ⟨a9, c9, rfl⟩ := own_len hown9
                  clear ht9 hb9 t9 hown9 h5lo n1 n7 Y Hown5 Hlo5 Hs8 hwq hwqr
                  have y := y9
                  clear y9
                  have Y := Lib.hid y
                  clear y
                  have Hwv := Lib.hid hwv
                  clear hwv
                  refine hK.out _ _ ?_ ?_
                  · exact ⟨q1, q7⟩
                  clear hK K
                  (try simp only [Act.put, List.setIfInBounds_toArray, List.set_cons_zero, List.set_cons_succ])
                  repeat (first
                    | (refine wpPlan_take (v := ?_) rfl (by rfl) (fun W hW => ?_) ?_; rotate_left; (focus ((try dsimp only at hW); go_split_ands; go_simp; (try with_reducible rfl); done)); (try simp only [Act.put, List.setIfInBounds_toArray, List.set_cons_zero, List.set_cons_succ]))
                    | (refine wpPlan_skip rfl (by rfl) ?_; (try simp only [Act.put, List.setIfInBounds_toArray, List.set_cons_zero, List.set_cons_succ])))
                  refine wpPlan_must rfl (by rfl) (fun K hK => ?_)
                  go_simp
                  (with_reducible refine (Hih.out w9 _ (Xq.out.trans' Y.out) Hwv.out).mono ?_)
                  intro e w10 hp
                  unfold TRead at hp
                  obtain ⟨⟨xa, xc, rfl, xl, xn, hrn⟩, yn⟩ := hp
                  have hx := Hx.out.keep yn id
                  clear Hx
                  have Hx := Lib.hid hx
                  clear hx
                  clear Hwv
                  have hL10 := Y.out.size
                  have y10 := Y.out.trans' yn
                  have Hrn := Lib.hid hrn
                  clear hrn
                  have Xl := Lib.hid xl
                  clear xl
                  have Xn := Lib.hid xn
                  clear xn
                  have HL10 := Lib.hid hL10
                  clear hL10
                  have Y10 := Lib.hid y10
                  clear y10
                  have hsz10 := yn.size
                  have q1 := keepc yn id q1
                  have q7 := keepc yn id q7
                  have y := Y.out.trans' yn
                  clear Y yn
                  have Y := Lib.hid y
                  clear y
                  refine hK.out _ _ ?_ ?_
                  · exact ⟨q1, q7⟩
                  clear hK K
                  (try simp only [Act.put, List.setIfInBounds_toArray, List.set_cons_zero, List.set_cons_succ])
                  repeat (first
                    | (refine wpPlan_take (v := ?_) rfl (by rfl) (fun W hW => ?_) ?_; rotate_left; (focus ((try dsimp only at hW); go_split_ands; go_simp; (try with_reducible rfl); done)); (try simp only [Act.put, List.setIfInBounds_toArray, List.set_cons_zero, List.set_cons_succ]))
                    | (refine wpPlan_skip rfl (by rfl) ?_; (try simp only [Act.put, List.setIfInBounds_toArray, List.set_cons_zero, List.set_cons_succ])))
                  obtain ⟨x0, f0⟩ := Hx.out 0 _ rfl
                  obtain ⟨x1, f1⟩ := Hx.out 1 _ rfl
                  obtain ⟨x2, f2⟩ := Hx.out 2 _ rfl
                  obtain ⟨x3, f3⟩ := Hx.out 3 _ rfl
                  have hL := HL10.out
                  have hwqr := Hwqr.out
                  have hb1 := Hbx.out
                  have hb2 := Hxl.out
                  have hnw := HNw.out
                  have hyy := Y.out.size
                  have hend := x_end (nx := ((nx' : Nat) : Int)) (d := dn) (wr := wr) Hx.out (wa := w10) (Touch.refl _ _) ⟨by omega, by omega, by omega⟩ Xl.out Xn.out _ (by omega) Hrn.out (Or.inl (by omega)) (Yq.out.trans' Y.out)
                  have Hend := Lib.hid hend
                  clear hend
                  clear hL hb1 hb2 hnw hyy hwqr
                  refine wpPlan_last rfl (by rfl) (fun K hK => ?_)
                  go_simp
                  refine hK.out _ _ ?_
                  clear hK K
                  (try simp only [Act.put, List.setIfInBounds_toArray, List.set_cons_zero, List.set_cons_succ])
                  refine wpPlan_done (hKK.out _ _ ?_)
                  clear hKK KK
                  go_wp2_with (fail)
                  go_meet
                  exact Hend.out
              · refine wpPlan_must rfl (by rfl) (fun K hK => ?_)
                go_simp
                obtain ⟨w11, hw11⟩ : ∃ w11, w11 = w5.alloc (.cells #[.slice none 0 0, .int .i64 0, .int .i64 0, .bool false] 86) := ⟨_, rfl⟩
                have yn : Ext w5 w11 := by rw [hw11]; exact (Touch.refl _ _).alloc _
                have hx : Cb w11 w5.heap.size zr := by rw [hw11]; exact Cb.new _ zr _
                have hxl : w5.heap.size < w11.heap.size := by rw [hw11]; simp
                rw [← hw11]
                clear hw11
                obtain ⟨bx, hbx⟩ : ∃ bx, bx = w5.heap.size := ⟨_, rfl⟩
                rw [← hbx] at hx ⊢
                have hown5 := own_keep Hown5.out yn (fun _ _ h => h)
                clear Hown5
                have Hown5 := Lib.hid hown5
                clear hown5
                have Hx := Lib.hid hx
                clear hx
                have Hbx := Lib.hid hbx
                clear hbx
                have Hxl := Lib.hid hxl
                clear hxl
                have hsz11 := yn.size
                have q1 := keepc yn id q1
                have q7 := keepc yn id q7
                have y := Y.out.trans' yn
                clear Y yn
                have Y := Lib.hid y
                clear y
                refine hK.out _ _ ?_ ?_
                · exact ⟨q1, q7⟩
                clear hK K
                (try simp only [Act.put, List.setIfInBounds_toArray, List.set_cons_zero, List.set_cons_succ])
                repeat (first
                  | (refine wpPlan_take (v := ?_) rfl (by rfl) (fun W hW => ?_) ?_; rotate_left; (focus ((try dsimp only at hW); go_split_ands; go_simp; (try with_reducible rfl); done)); (try simp only [Act.put, List.setIfInBounds_toArray, List.set_cons_zero, List.set_cons_succ]))
                  | (refine wpPlan_skip rfl (by rfl) ?_; (try simp only [Act.put, List.setIfInBounds_toArray, List.set_cons_zero, List.set_cons_succ])))
                refine wpPlan_must rfl (by rfl) (fun K hK => ?_)
                go_simp
                obtain ⟨w8, hw8⟩ : ∃ w8, w8 = w11.alloc (.cells #[.int .u8 (ch : Int)] 5) := ⟨_, rfl⟩
                have yn : Ext w11 w8 := by rw [hw8]; exact (Touch.refl _ _).alloc _
                have hs8 : Src w8 (some ⟨w11.heap.size, 0, none⟩) (ivs .u8 [(ch : Int)]) := by rw [hw8]; exact src_one _ _ _
                rw [← hw8]
                clear hw8
                obtain ⟨b8, hb8⟩ : ∃ b8, b8 = w11.heap.size := ⟨_, rfl⟩
                rw [← hb8] at hs8 ⊢
                have hown5 := own_keep Hown5.out yn (fun _ _ h => h)
                clear Hown5
                have Hown5 := Lib.hid hown5
                clear hown5
                have hx := Hx.out.keep yn id
                clear Hx
                have Hx := Lib.hid hx
                clear hx
                have Hs8 := Lib.hid hs8
                clear hs8
                have Hb8 := Lib.hid hb8
                clear hb8
                have hsz8 := yn.size
                have q1 := keepc yn id q1
                have q7 := keepc yn id q7
                have y := Y.out.trans' yn
                clear Y yn
                have Y := Lib.hid y
                clear y
                refine hK.out _ _ ?_ ?_
                · exact ⟨q1, q7⟩
                clear hK K
                (try simp only [Act.put, List.setIfInBounds_toArray, List.set_cons_zero, List.set_cons_succ])
                repeat (first
                  | (refine wpPlan_take (v := ?_) rfl (by rfl) (fun W hW => ?_) ?_; rotate_left; (focus ((try dsimp only at hW); go_split_ands; go_simp; (try with_reducible rfl); done)); (try simp only [Act.put, List.setIfInBounds_toArray, List.set_cons_zero, List.set_cons_succ]))
                  | (refine wpPlan_skip rfl (by rfl) ?_; (try simp only [Act.put, List.setIfInBounds_toArray, List.set_cons_zero, List.set_cons_succ])))
                refine wpPlan_must rfl (by rfl) (fun K hK => ?_)
                refine wp_push_any _ _ _ 23 rfl 5 (.int .u8 0) 1 1 Tryd.underlying23 info_u8 rfl (by decide) (.slice a5 k.length c5) k.length (ivs .u8 k) rfl Hown5.out (some ⟨b8, 0, none⟩) 1 1 rfl (fun h => by cases h) (ivs .u8 [(ch : Int)]) (by decide) (by simp [ivs]) Hs8.out (ivs_one _ _) (by unfold maxLen; omega) (by omega) ?_
                intro v9 w9 hown9 ht9 hb9
                have hwq : wq.heap.size ≤ w8.heap.size := Y.out.size
                have hwqr := Hwqr.out
                have h5lo : ∀ i, (Value.slice a5 k.length c5).ownBlock = some i → wq.heap.size ≤ i := fun i hi => by have := (Hlo5.out i hi).1; omega
                have t9 : Touch (fun b => (Value.slice a5 k.length c5).ownBlock = some b) w8 w9 := ht9
                have y9 : Ext wq w9 := Y.out.ext_new t9 h5lo
                have hsz9 := t9.size
                have n1 : ¬ (Value.slice a5 k.length c5).ownBlock = some rb := fun h => by have := h5lo rb h; omega
                have n7 : ¬ (Value.slice a5 k.length c5).ownBlock = some cc := fun h => by have := h5lo cc h; omega
                have q1 := keepc t9 n1 q1
                have q7 := keepc t9 n7 q7
                have hwv : RB w9 (fun _ => True) v9 (k ++ [(ch : Int)]) := by
                  have h1 : w9.ownsRow 0 5 1 v9 (k ++ [(ch : Int)]).length (ivs .u8 (k ++ [(ch : Int)])) := by rw [List.length_append, ivs_append]; exact hown9
                  exact OB.rb (F := fun _ => True) ⟨h1, fun _ _ => trivial⟩
                have hx := Hx.out.keep t9 (fun h => by have h1 := Hlo5.out bx h; have h2 := Hbx.out; have h3 := Hxl.out; omega)
                clear Hx
                have Hx := Lib.hid hx
                clear hx
                obtain ⟨a9, c9, rfl⟩ := own_len hown9
                clear ht9 hb9 t9 hown9 h5lo n1 n7 Y Hown5 Hlo5 Hs8 hwq hwqr
                have y := y9
                clear y9
                have Y := Lib.hid y
                clear y
                have Hwv := Lib.hid hwv
                clear hwv
                refine hK.out _ _ ?_ ?_
                · exact ⟨q1, q7⟩
                clear hK K
                (try simp only [Act.put, List.setIfInBounds_toArray, List.set_cons_zero, List.set_cons_succ])
                repeat (first
                  | (refine wpPlan_take (v := ?_) rfl (by rfl) (fun W hW => ?_) ?_; rotate_left; (focus ((try dsimp only at hW); go_split_ands; go_simp; (try with_reducible rfl); done)); (try simp only [Act.put, List.setIfInBounds_toArray, List.set_cons_zero, List.set_cons_succ]))
                  | (refine wpPlan_skip rfl (by rfl) ?_; (try simp only [Act.put, List.setIfInBounds_toArray, List.set_cons_zero, List.set_cons_succ])))
                refine wpPlan_must rfl (by rfl) (fun K hK => ?_)
                go_simp
                (with_reducible refine (Hih.out w9 _ (Xq.out.trans' Y.out) Hwv.out).mono ?_)
                intro e w10 hp
                unfold TRead at hp
                obtain ⟨⟨xa, xc, rfl, xl, xn, hrn⟩, yn⟩ := hp
                have hx := Hx.out.keep yn id
                clear Hx
                have Hx := Lib.hid hx
                clear hx
                clear Hwv
                have hL10 := Y.out.size
                have y10 := Y.out.trans' yn
                have Hrn := Lib.hid hrn
                clear hrn
                have Xl := Lib.hid xl
                clear xl
                have Xn := Lib.hid xn
                clear xn
                have HL10 := Lib.hid hL10
                clear hL10
                have Y10 := Lib.hid y10
                clear y10
                have hsz10 := yn.size
                have q1 := keepc yn id q1
                have q7 := keepc yn id q7
                have y := Y.out.trans' yn
                clear Y yn
                have Y := Lib.hid y
                clear y
                refine hK.out _ _ ?_ ?_
                · exact ⟨q1, q7⟩
                clear hK K
                (try simp only [Act.put, List.setIfInBounds_toArray, List.set_cons_zero, List.set_cons_succ])
                repeat (first
                  | (refine wpPlan_take (v := ?_) rfl (by rfl) (fun W hW => ?_) ?_; rotate_left; (focus ((try dsimp only at hW); go_split_ands; go_simp; (try with_reducible rfl); done)); (try simp only [Act.put, List.setIfInBounds_toArray, List.set_cons_zero, List.set_cons_succ]))
                  | (refine wpPlan_skip rfl (by rfl) ?_; (try simp only [Act.put, List.setIfInBounds_toArray, List.set_cons_zero, List.set_cons_succ])))
                obtain ⟨x0, f0⟩ := Hx.out 0 _ rfl
                obtain ⟨x1, f1⟩ := Hx.out 1 _ rfl
                obtain ⟨x2, f2⟩ := Hx.out 2 _ rfl
                obtain ⟨x3, f3⟩ := Hx.out 3 _ rfl
                have hL := HL10.out
                have hwqr := Hwqr.out
                have hb1 := Hbx.out
                have hb2 := Hxl.out
                have hnw := HNw.out
                have hyy := Y.out.size
                have hend := x_end (nx := ((nx' : Nat) : Int)) (d := dn) (wr := wr) Hx.out (wa := w10) (Touch.refl _ _) ⟨by omega, by omega, by omega⟩ Xl.out Xn.out _ (by omega) Hrn.out (Or.inl (by omega)) (Yq.out.trans' Y.out)
                have Hend := Lib.hid hend
                clear hend
                clear hL hb1 hb2 hnw hyy hwqr
                refine wpPlan_last rfl (by rfl) (fun K hK => ?_)
                go_simp
                refine hK.out _ _ ?_
                clear hK K
                (try simp only [Act.put, List.setIfInBounds_toArray, List.set_cons_zero, List.set_cons_succ])
                refine wpPlan_done (hKK.out _ _ ?_)
                clear hKK KK
                go_wp2_with (fail)
                go_meet
                exact Hend.out
            · refine wpPlan_must rfl (by rfl) (fun K hK => ?_)
              go_simp
              obtain ⟨w8, hw8⟩ : ∃ w8, w8 = wq.alloc (.cells #[.int .u8 (ch : Int)] 5) := ⟨_, rfl⟩
              have yn : Ext wq w8 := by rw [hw8]; exact (Touch.refl _ _).alloc _
              have hs8 : Src w8 (some ⟨wq.heap.size, 0, none⟩) (ivs .u8 [(ch : Int)]) := by rw [hw8]; exact src_one _ _ _
              rw [← hw8]
              clear hw8
              obtain ⟨b8, hb8⟩ : ∃ b8, b8 = wq.heap.size := ⟨_, rfl⟩
              rw [← hb8] at hs8 ⊢
              have Hs8 := Lib.hid hs8
              clear hs8
              have Hb8 := Lib.hid hb8
              clear hb8
              have hsz8 := yn.size
              have q1 := keepc yn id q1
              have q7 := keepc yn id q7
              have y := Y.out.trans' yn
              clear Y yn
              have Y := Lib.hid y
              clear y
              refine hK.out _ _ ?_ ?_
              · exact ⟨q1, q7⟩
              clear hK K
              (try simp only [Act.put, List.setIfInBounds_toArray, List.set_cons_zero, List.set_cons_succ])
              repeat (first
                | (refine wpPlan_take (v := ?_) rfl (by rfl) (fun W hW => ?_) ?_; rotate_left; (focus ((try dsimp only at hW); go_split_ands; go_simp; (try with_reducible rfl); done)); (try simp only [Act.put, List.setIfInBounds_toArray, List.set_cons_zero, List.set_cons_succ]))
                | (refine wpPlan_skip rfl (by rfl) ?_; (try simp only [Act.put, List.setIfInBounds_toArray, List.set_cons_zero, List.set_cons_succ])))
              refine wpPlan_two ?_ ?_
              · refine wpPlan_must rfl (by rfl) (fun K hK => ?_)
                refine wp_push_any _ _ _ 23 rfl 5 (.int .u8 0) 1 1 Tryd.underlying23 info_u8 rfl (by decide) (.slice none 0 0) 0 [] rfl (World.ownsRow_nil _ _ _ _) ka k.length kc rfl kn0 (ivs .u8 k) kl1 (by simp [ivs]) (Hkv.out.ext (Xq.out.trans' Y.out)).src (ivs_one _ _) (by unfold maxLen; omega) (by omega) ?_
                intro v5 w5 hown5 ht5 hb5
                rw [Nat.zero_add, List.nil_append] at hown5
                have yn : Ext w8 w5 := ht5.new (fun i hi => by cases hi)
                have hlo5 : ∀ i, v5.ownBlock = some i → w8.heap.size ≤ i ∧ i < w5.heap.size := fun i hi => by
                  have h9 := (hown5.lt i hi).2
                  rcases hb5 with h | h
                  · rw [h] at hi; cases hi
                  · rw [h] at hi; cases hi; exact ⟨Nat.le_refl _, h9⟩
                obtain ⟨a5, c5, rfl⟩ := own_len hown5
                clear ht5 hb5
                have hs8 := Hs8.out.ext yn
                clear Hs8
                have Hs8 := Lib.hid hs8
                clear hs8
                have Hown5 := Lib.hid hown5
                clear hown5
                have Hlo5 := Lib.hid hlo5
                clear hlo5
                have hsz5 := yn.size
                have q1 := keepc yn id q1
                have q7 := keepc yn id q7
                have y := Y.out.trans' yn
                clear Y yn
                have Y := Lib.hid y
                clear y
                refine hK.out _ _ ?_ ?_
                · exact ⟨q1, q7⟩
                clear hK K
                (try simp only [Act.put, List.setIfInBounds_toArray, List.set_cons_zero, List.set_cons_succ])
                repeat (first
                  | (refine wpPlan_take (v := ?_) rfl (by rfl) (fun W hW => ?_) ?_; rotate_left; (focus ((try dsimp only at hW); go_split_ands; go_simp; (try with_reducible rfl); done)); (try simp only [Act.put, List.setIfInBounds_toArray, List.set_cons_zero, List.set_cons_succ]))
                  | (refine wpPlan_skip rfl (by rfl) ?_; (try simp only [Act.put, List.setIfInBounds_toArray, List.set_cons_zero, List.set_cons_succ])))
                refine wpPlan_two ?_ ?_
                · refine wpPlan_must rfl (by rfl) (fun K hK => ?_)
                  refine wp_push_any _ _ _ 23 rfl 5 (.int .u8 0) 1 1 Tryd.underlying23 info_u8 rfl (by decide) (.slice a5 k.length c5) k.length (ivs .u8 k) rfl Hown5.out (some ⟨b8, 0, none⟩) 1 1 rfl (fun h => by cases h) (ivs .u8 [(ch : Int)]) (by decide) (by simp [ivs]) Hs8.out (ivs_one _ _) (by unfold maxLen; omega) (by omega) ?_
                  intro v9 w9 hown9 ht9 hb9
                  have hwq : wq.heap.size ≤ w5.heap.size := Y.out.size
                  have hwqr := Hwqr.out
                  have h5lo : ∀ i, (Value.slice a5 k.length c5).ownBlock = some i → wq.heap.size ≤ i := fun i hi => by have := (Hlo5.out i hi).1; omega
                  have t9 : Touch (fun b => (Value.slice a5 k.length c5).ownBlock = some b) w5 w9 := ht9
                  have y9 : Ext wq w9 := Y.out.ext_new t9 h5lo
                  have hsz9 := t9.size
                  have n1 : ¬ (Value.slice a5 k.length c5).ownBlock = some rb := fun h => by have := h5lo rb h; omega
                  have n7 : ¬ (Value.slice a5 k.length c5).ownBlock = some cc := fun h => by have := h5lo cc h; omega
                  have q1 := keepc t9 n1 q1
                  have q7 := keepc t9 n7 q7
                  have hwv : RB w9 (fun _ => True) v9 (k ++ [(ch : Int)]) := by
                    have h1 : w9.ownsRow 0 5 1 v9 (k ++ [(ch : Int)]).length (ivs .u8 (k ++ [(ch : Int)])) := by rw [List.length_append, ivs_append]; exact hown9
                    exact OB.rb (F := fun _ => True) ⟨h1, fun _ _ => trivial⟩
                  obtain ⟨a9, c9, rfl⟩ := own_len hown9
                  clear ht9 hb9 t9 hown9 h5lo n1 n7 Y Hown5 Hlo5 Hs8 hwq hwqr
                  have y := y9
                  clear y9
                  have Y := Lib.hid y
                  clear y
                  have Hwv := Lib.hid hwv
                  clear hwv
                  refine hK.out _ _ ?_ ?_
                  · exact ⟨q1, q7⟩
                  clear hK K
                  (try simp only [Act.put, List.setIfInBounds_toArray, List.set_cons_zero, List.set_cons_succ])
                  repeat (first
                    | (refine wpPlan_take (v := ?_) rfl (by rfl) (fun W hW => ?_) ?_; rotate_left; (focus ((try dsimp only at hW); go_split_ands; go_simp; (try with_reducible rfl); done)); (try simp only [Act.put, List.setIfInBounds_toArray, List.set_cons_zero, List.set_cons_succ]))
                    | (refine wpPlan_skip rfl (by rfl) ?_; (try simp only [Act.put, List.setIfInBounds_toArray, List.set_cons_zero, List.set_cons_succ])))
                  refine wpPlan_two ?_ ?_
                  · refine wpPlan_must rfl (by rfl) (fun K hK => ?_)
                    go_simp
                    (with_reducible refine (Hih.out w9 _ (Xq.out.trans' Y.out) Hwv.out).mono ?_)
                    intro e w10 hp
                    unfold TRead at hp
                    obtain ⟨⟨xa, xc, rfl, xl, xn, hrn⟩, yn⟩ := hp
                    clear Hwv
                    have hL10 := Y.out.size
                    have y10 := Y.out.trans' yn
                    have Hrn := Lib.hid hrn
                    clear hrn
                    have Xl := Lib.hid xl
                    clear xl
                    have Xn := Lib.hid xn
                    clear xn
                    have HL10 := Lib.hid hL10
                    clear hL10
                    have Y10 := Lib.hid y10
                    clear y10
                    have hsz10 := yn.size
                    have q1 := keepc yn id q1
                    have q7 := keepc yn id q7
                    have y := Y.out.trans' yn
                    clear Y yn
                    have Y := Lib.hid y
                    clear y
                    refine hK.out _ _ ?_ ?_
                    · exact ⟨q1, q7⟩
                    clear hK K
                    (try simp only [Act.put, List.setIfInBounds_toArray, List.set_cons_zero, List.set_cons_succ])
                    repeat (first
                      | (refine wpPlan_take (v := ?_) rfl (by rfl) (fun W hW => ?_) ?_; rotate_left; (focus ((try dsimp only at hW); go_split_ands; go_simp; (try with_reducible rfl); done)); (try simp only [Act.put, List.setIfInBounds_toArray, List.set_cons_zero, List.set_cons_succ]))
                      | (refine wpPlan_skip rfl (by rfl) ?_; (try simp only [Act.put, List.setIfInBounds_toArray, List.set_cons_zero, List.set_cons_succ])))
                    refine wpPlan_must rfl (by rfl) (fun K hK => ?_)
                    go_simp
                    obtain ⟨w11, hw11⟩ : ∃ w11, w11 = w10.alloc (.cells #[.slice none 0 0, .int .i64 0, .int .i64 0, .bool false] 86) := ⟨_, rfl⟩
                    have yn : Ext w10 w11 := by rw [hw11]; exact (Touch.refl _ _).alloc _
                    have hx : Cb w11 w10.heap.size zr := by rw [hw11]; exact Cb.new _ zr _
                    have hxl : w10.heap.size < w11.heap.size := by rw [hw11]; simp
                    rw [← hw11]
                    clear hw11
                    obtain ⟨bx, hbx⟩ : ∃ bx, bx = w10.heap.size := ⟨_, rfl⟩
                    rw [← hbx] at hx ⊢
                    have yx := yn
                    have Yx := Lib.hid yx
                    clear yx
                    have Hx := Lib.hid hx
                    clear hx
                    have Hbx := Lib.hid hbx
                    clear hbx
                    have Hxl := Lib.hid hxl
                    clear hxl
                    have hsz11 := yn.size
                    have q1 := keepc yn id q1
                    have q7 := keepc yn id q7
                    have y := Y.out.trans' yn
                    clear Y yn
                    have Y := Lib.hid y
                    clear y
                    refine hK.out _ _ ?_ ?_
                    · exact ⟨q1, q7⟩
                    clear hK K
                    (try simp only [Act.put, List.setIfInBounds_toArray, List.set_cons_zero, List.set_cons_succ])
                    repeat (first
                      | (refine wpPlan_take (v := ?_) rfl (by rfl) (fun W hW => ?_) ?_; rotate_left; (focus ((try dsimp only at hW); go_split_ands; go_simp; (try with_reducible rfl); done)); (try simp only [Act.put, List.setIfInBounds_toArray, List.set_cons_zero, List.set_cons_succ]))
                      | (refine wpPlan_skip rfl (by rfl) ?_; (try simp only [Act.put, List.setIfInBounds_toArray, List.set_cons_zero, List.set_cons_succ])))
                    obtain ⟨x0, f0⟩ := Hx.out 0 _ rfl
                    obtain ⟨x1, f1⟩ := Hx.out 1 _ rfl
                    obtain ⟨x2, f2⟩ := Hx.out 2 _ rfl
                    obtain ⟨x3, f3⟩ := Hx.out 3 _ rfl
                    have hL := HL10.out
                    have hwqr := Hwqr.out
                    have hb1 := Hbx.out
                    have hb2 := Hxl.out
                    have hnw := HNw.out
                    have hyy := Y.out.size
                    have hend := x_end (nx := ((nx' : Nat) : Int)) (d := dn) (wr := wr) Hx.out (wa := w10) Yx.out.none_to ⟨by omega, by omega, by omega⟩ Xl.out Xn.out _ (by omega) Hrn.out (Or.inr (by omega)) (Yq.out.trans' Y10.out)
                    have Hend := Lib.hid hend
                    clear hend
                    clear hL hb1 hb2 hnw hyy hwqr
                    refine wpPlan_last rfl (by rfl) (fun K hK => ?_)
                    go_simp
                    refine hK.out _ _ ?_
                    clear hK K
                    (try simp only [Act.put, List.setIfInBounds_toArray, List.set_cons_zero, List.set_cons_succ])
                    refine wpPlan_done (hKK.out _ _ ?_)
                    clear hKK KK
                    go_wp2_with (fail)
                    go_meet
                    exact Hend.out
                  · refine wpPlan_must rfl (by rfl) (fun K hK => ?_)
                    go_simp
                    obtain ⟨w11, hw11⟩ : ∃ w11, w11 = w9.alloc (.cells #[.slice none 0 0, .int .i64 0, .int .i64 0, .bool false] 86) := ⟨_, rfl⟩
                    have yn : Ext w9 w11 := by rw [hw11]; exact (Touch.refl _ _).alloc _
                    have hx : Cb w11 w9.heap.size zr := by rw [hw11]; exact Cb.new _ zr _
                    have hxl : w9.heap.size < w11.heap.size := by rw [hw11]; simp
                    rw [← hw11]
                    clear hw11
                    obtain ⟨bx, hbx⟩ : ∃ bx, bx = w9.heap.size := ⟨_, rfl⟩
                    rw [← hbx] at hx ⊢
                    have hwv := Hwv.out.ext yn
                    clear Hwv
                    have Hwv := Lib.hid hwv
                    clear hwv
                    have Hx := Lib.hid hx
                    clear hx
                    have Hbx := Lib.hid hbx
                    clear hbx
                    have Hxl := Lib.hid hxl
                    clear hxl
                    have hsz11 := yn.size
                    have q1 := keepc yn id q1
                    have q7 := keepc yn id q7
                    have y := Y.out.trans' yn
                    clear Y yn
                    have Y := Lib.hid y
                    clear y
                    refine hK.out _ _ ?_ ?_
                    · exact ⟨q1, q7⟩
                    clear hK K
                    (try simp only [Act.put, List.setIfInBounds_toArray, List.set_cons_zero, List.set_cons_succ])
                    repeat (first
                      | (refine wpPlan_take (v := ?_) rfl (by rfl) (fun W hW => ?_) ?_; rotate_left; (focus ((try dsimp only at hW); go_split_ands; go_simp; (try with_reducible rfl); done)); (try simp only [Act.put, List.setIfInBounds_toArray, List.set_cons_zero, List.set_cons_succ]))
                      | (refine wpPlan_skip rfl (by rfl) ?_; (try simp only [Act.put, List.setIfInBounds_toArray, List.set_cons_zero, List.set_cons_succ])))
                    refine wpPlan_must rfl (by rfl) (fun K hK => ?_)
                    go_simp
                    (with_reducible refine (Hih.out w11 _ (Xq.out.trans' Y.out) Hwv.out).mono ?_)
                    intro e w10 hp
                    unfold TRead at hp
                    obtain ⟨⟨xa, xc, rfl, xl, xn, hrn⟩, yn⟩ := hp
                    have hx := Hx.out.keep yn id
                    clear Hx
                    have Hx := Lib.hid hx
                    clear hx
                    clear Hwv
                    have hL10 := Y.out.size
                    have y10 := Y.out.trans' yn
                    have Hrn := Lib.hid hrn
                    clear hrn
                    have Xl := Lib.hid xl
                    clear xl
                    have Xn := Lib.hid xn
                    clear xn
                    have HL10 := Lib.hid hL10
                    clear hL10
                    have Y10 := Lib.hid y10
                    clear y10
                    have hsz10 := yn.size
                    have q1 := keepc yn id q1
                    have q7 := keepc yn id q7
                    have y := Y.out.trans' yn
                    clear Y yn
                    have Y := Lib.hid y
                    clear y
                    refine hK.out _ _ ?_ ?_
                    · exact ⟨q1, q7⟩
                    clear hK K
                    (try simp only [Act.put, List.setIfInBounds_toArray, List.set_cons_zero, List.set_cons_succ])
                    repeat (first
                      | (refine wpPlan_take (v := ?_) rfl (by rfl) (fun W hW => ?_) ?_; rotate_left; (focus ((try dsimp only at hW); go_split_ands; go_simp; (try with_reducible rfl); done)); (try simp only [Act.put, List.setIfInBounds_toArray, List.set_cons_zero, List.set_cons_succ]))
                      | (refine wpPlan_skip rfl (by rfl) ?_; (try simp only [Act.put, List.setIfInBounds_toArray, List.set_cons_zero, List.set_cons_succ])))
                    obtain ⟨x0, f0⟩ := Hx.out 0 _ rfl
                    obtain ⟨x1, f1⟩ := Hx.out 1 _ rfl
                    obtain ⟨x2, f2⟩ := Hx.out 2 _ rfl
                    obtain ⟨x3, f3⟩ := Hx.out 3 _ rfl
                    have hL := HL10.out
                    have hwqr := Hwqr.out
                    have hb1 := Hbx.out
                    have hb2 := Hxl.out
                    have hnw := HNw.out
                    have hyy := Y.out.size
                    have hend := x_end (nx := ((nx' : Nat) : Int)) (d := dn) (wr := wr) Hx.out (wa := w10) (Touch.refl _ _) ⟨by omega, by omega, by omega⟩ Xl.out Xn.out _ (by omega) Hrn.out (Or.inl (by omega)) (Yq.out.trans' Y.out)
                    have Hend := Lib.hid hend
                    clear hend
                    clear hL hb1 hb2 hnw hyy hwqr
                    refine wpPlan_last rfl (by rfl) (fun K hK => ?_)
                    go_simp
                    refine hK.out _ _ ?_
                    clear hK K
                    (try simp only [Act.put, List.setIfInBounds_toArray, List.set_cons_zero, List.set_cons_succ])
                    refine wpPlan_done (hKK.out _ _ ?_)
                    clear hKK KK
                    go_wp2_with (fail)
                    go_meet
                    exact Hend.out
                · refine wpPlan_must rfl (by rfl) (fun K hK => ?_)
                  go_simp
                  obtain ⟨w11, hw11⟩ : ∃ w11, w11 = w5.alloc (.cells #[.slice none 0 0, .int .i64 0, .int .i64 0, .bool false] 86) := ⟨_, rfl⟩
                  have yn : Ext w5 w11 := by rw [hw11]; exact (Touch.refl _ _).alloc _
                  have hx : Cb w11 w5.heap.size zr := by rw [hw11]; exact Cb.new _ zr _
                  have hxl : w5.heap.size < w11.heap.size := by rw [hw11]; simp
                  rw [← hw11]
                  clear hw11
                  obtain ⟨bx, hbx⟩ : ∃ bx, bx = w5.heap.size := ⟨_, rfl⟩
                  rw [← hbx] at hx ⊢
                  have hown5 := own_keep Hown5.out yn (fun _ _ h => h)
                  clear Hown5
                  have Hown5 := Lib.hid hown5
                  clear hown5
                  have hs8 := Hs8.out.ext yn
                  clear Hs8
                  have Hs8 := Lib.hid hs8
                  clear hs8
                  have Hx := Lib.hid hx
                  clear hx
                  have Hbx := Lib.hid hbx
                  clear hbx
                  have Hxl := Lib.hid hxl
                  clear hxl
                  have hsz11 := yn.size
                  have q1 := keepc yn id q1
                  have q7 := keepc yn id q7
                  have y := Y.out.trans' yn
                  clear Y yn
                  have Y := Lib.hid y
                  clear y
                  refine hK.out _ _ ?_ ?_
                  · exact ⟨q1, q7⟩
                  clear hK K
                  (try simp only [Act.put, List.setIfInBounds_toArray, List.set_cons_zero, List.set_cons_succ])
                  repeat (first
                    | (refine wpPlan_take (v := ?_) rfl (by rfl) (fun W hW => ?_) ?_; rotate_left; (focus ((try dsimp only at hW); go_split_ands; go_simp; (try with_reducible rfl); done)); (try simp only [Act.put, List.setIfInBounds_toArray, List.set_cons_zero, List.set_cons_succ]))
                    | (refine wpPlan_skip rfl (by rfl) ?_; (try simp only [Act.put, List.setIfInBounds_toArray, List.set_cons_zero, List.set_cons_succ])))
                  refine wpPlan_must rfl (by rfl) (fun K hK => ?_)
                  refine wp_push_any _ _ _ 23 rfl 5 (.int .u8 0) 1 1 Tryd.underlying23 info_u8 rfl (by decide) (.slice a5 k.length c5) k.length (ivs .u8 k) rfl Hown5.out (some ⟨b8, 0, none⟩) 1 1 rfl (fun h => by cases h) (ivs .u8 [(ch : Int)]) (by decide) (by simp [ivs]) Hs8.out (ivs_one _ _) (by unfold maxLen; omega) (by omega) ?_
                  intro v9 w9 hown9 ht9 hb9
                  have hwq : wq.heap.size ≤ w11.heap.size := Y.out.size
                  have hwqr := Hwqr.out
                  have h5lo : ∀ i, (Value.slice a5 k.length c5).ownBlock = some i → wq.heap.size ≤ i := fun i hi => by have := (Hlo5.out i hi).1; omega
                  have t9 : Touch (fun b => (Value.slice a5 k.length c5).ownBlock = some b) w11 w9 := ht9
                  have y9 : Ext wq w9 := Y.out.ext_new t9 h5lo
                  have hsz9 := t9.size
                  have n1 : ¬ (Value.slice a5 k.length c5).ownBlock = some rb := fun h => by have := h5lo rb h; omega
                  have n7 : ¬ (Value.slice a5 k.length c5).ownBlock = some cc := fun h => by have := h5lo cc h; omega
                  have q1 := keepc t9 n1 q1
                  have q7 := keepc t9 n7 q7
                  have hwv : RB w9 (fun _ => True) v9 (k ++ [(ch : Int)]) := by
                    have h1 : w9.ownsRow 0 5 1 v9 (k ++ [(ch : Int)]).length (ivs .u8 (k ++ [(ch : Int)])) := by rw [List.length_append, ivs_append]; exact hown9
                    exact OB.rb (F := fun _ => True) ⟨h1, fun _ _ => trivial⟩
                  have hx := Hx.out.keep t9 (fun h => by have h1 := Hlo5.out bx h; have h2 := Hbx.out; have h3 := Hxl.out; omega)
                  clear Hx
                  have Hx := Lib.hid hx
                  clear hx
                  obtain ⟨a9, c9, rfl⟩ := own_len hown9
                  clear ht9 hb9 t9 hown9 h5lo n1 n7 Y Hown5 Hlo5 Hs8 hwq hwqr
                  have y := y9
                  clear y9
                  have Y := Lib.hid y
                  clear y
                  have Hwv := Lib.hid hwv
                  clear hwv
                  refine hK.out _ _ ?_ ?_
                  · exact ⟨q1, q7⟩
                  clear hK K
                  (try simp only [Act.put, List.setIfInBounds_toArray, List.set_cons_zero, List.set_cons_succ])
                  repeat (first
                    | (refine wpPlan_take (v := ?_) rfl (by rfl) (fun W hW => ?_) ?_; rotate_left; (focus ((try dsimp only at hW); go_split_ands; go_simp; (try with_reducible rfl); done)); (try simp only [Act.put, List.setIfInBounds_toArray, List.set_cons_zero, List.set_cons_succ]))
                    | (refine wpPlan_skip rfl (by rfl) ?_; (try simp only [Act.put, List.setIfInBounds_toArray, List.set_cons_zero, List.set_cons_succ])))
                  refine wpPlan_must rfl (by rfl) (fun K hK => ?_)
                  go_simp
                  (with_reducible refine (Hih.out w9 _ (Xq.out.trans' Y.out) Hwv.out).mono ?_)
                  intro e w10 hp
                  unfold TRead at hp
                  obtain ⟨⟨xa, xc, rfl, xl, xn, hrn⟩, yn⟩ := hp
                  have hx := Hx.out.keep yn id
                  clear Hx
                  have Hx := Lib.hid hx
                  clear hx
                  clear Hwv
                  have hL10 := Y.out.size
                  have y10 := Y.out.trans' yn
                  have Hrn := Lib.hid hrn
                  clear hrn
                  have Xl := Lib.hid xl
                  clear xl
                  have Xn := Lib.hid xn
                  clear xn
                  have HL10 := Lib.hid hL10
                  clear hL10
                  have Y10 := Lib.hid y10
                  clear y10
                  have hsz10 := yn.size
                  have q1 := keepc yn id q1
                  have q7 := keepc yn id q7
                  have y := Y.out.trans' yn
                  clear Y yn
                  have Y := Lib.hid y
                  clear y
                  refine hK.out _ _ ?_ ?_
                  · exact ⟨q1, q7⟩
                  clear hK K
                  (try simp only [Act.put, List.setIfInBounds_toArray, List.set_cons_zero, List.set_cons_succ])
                  repeat (first
                    | (refine wpPlan_take (v := ?_) rfl (by rfl) (fun W hW => ?_) ?_; rotate_left; (focus ((try dsimp only at hW); go_split_ands; go_simp; (try with_reducible rfl); done)); (try simp only [Act.put, List.setIfInBounds_toArray, List.set_cons_zero, List.set_cons_succ]))
                    | (refine wpPlan_skip rfl (by rfl) ?_; (try simp only [Act.put, List.setIfInBounds_toArray, List.set_cons_zero, List.set_cons_succ])))
                  obtain ⟨x0, f0⟩ := Hx.out 0 _ rfl
                  obtain ⟨x1, f1⟩ := Hx.out 1 _ rfl
                  obtain ⟨x2, f2⟩ := Hx.out 2 _ rfl
                  obtain ⟨x3, f3⟩ := Hx.out 3 _ rfl
                  have hL := HL10.out
                  have hwqr := Hwqr.out
                  have hb1 := Hbx.out
                  have hb2 := Hxl.out
                  have hnw := HNw.out
                  have hyy := Y.out.size
                  have hend := x_end (nx := ((nx' : Nat) : Int)) (d := dn) (wr := wr) Hx.out (wa := w10) (Touch.refl _ _) ⟨by omega, by omega, by omega⟩ Xl.out Xn.out _ (by omega) Hrn.out (Or.inl (by omega)) (Yq.out.trans' Y.out)
                  have Hend := Lib.hid hend
                  clear hend
                  clear hL hb1 hb2 hnw hyy hwqr
                  refine wpPlan_last rfl (by rfl) (fun K hK => ?_)
                  go_simp
                  refine hK.out _ _ ?_
                  clear hK K
                  (try simp only [Act.put, List.setIfInBounds_toArray, List.set_cons_zero, List.set_cons_succ])
                  refine wpPlan_done (hKK.out _ _ ?_)
                  clear hKK KK
                  go_wp2_with (fail)
                  go_meet
                  exact Hend.out
              · refine wpPlan_must rfl (by rfl) (fun K hK => ?_)
                go_simp
                obtain ⟨w11, hw11⟩ : ∃ w11, w11 = w8.alloc (.cells #[.slice none 0 0, .int .i64 0, .int .i64 0, .bool false] 86) := ⟨_, rfl⟩
                have yn : Ext w8 w11 := by rw [hw11]; exact (Touch.refl _ _).alloc _
                have hx : Cb w11 w8.heap.size zr := by rw [hw11]; exact Cb.new _ zr _
                have hxl : w8.heap.size < w11.heap.size := by rw [hw11]; simp
                rw [← hw11]
                clear hw11
                obtain ⟨bx, hbx⟩ : ∃ bx, bx = w8.heap.size := ⟨_, rfl⟩
                rw [← hbx] at hx ⊢
                have hs8 := Hs8.out.ext yn
                clear Hs8
                have Hs8 := Lib.hid hs8
                clear hs8
                have Hx := Lib.hid hx
                clear hx
                have Hbx := Lib.hid hbx
                clear hbx
                have Hxl := Lib.hid hxl
                clear hxl
                have hsz11 := yn.size
                have q1 := keepc yn id q1
                have q7 := keepc yn id q7
                have y := Y.out.trans' yn
                clear Y yn
                have Y := Lib.hid y
                clear y
                refine hK.out _ _ ?_ ?_
                · exact ⟨q1, q7⟩
                clear hK K
                (try simp only [Act.put, List.setIfInBounds_toArray, List.set_cons_zero, List.set_cons_succ])
                repeat (first
                  | (refine wpPlan_take (v := ?_) rfl (by rfl) (fun W hW => ?_) ?_; rotate_left; (focus ((try dsimp only at hW); go_split_ands; go_simp; (try with_reducible rfl); done)); (try simp only [Act.put, List.setIfInBounds_toArray, List.set_cons_zero, List.set_cons_succ]))
                  | (refine wpPlan_skip rfl (by rfl) ?_; (try simp only [Act.put, List.setIfInBounds_toArray, List.set_cons_zero, List.set_cons_succ])))
                refine wpPlan_must rfl (by rfl) (fun K hK => ?_)
                refine wp_push_any _ _ _ 23 rfl 5 (.int .u8 0) 1 1 Tryd.underlying23 info_u8 rfl (by decide) (.slice none 0 0) 0 [] rfl (World.ownsRow_nil _ _ _ _) ka k.length kc rfl kn0 (ivs .u8 k) kl1 (by simp [ivs]) (Hkv.out.ext (Xq.out.trans' Y.out)).src (ivs_one _ _) (by unfold maxLen; omega) (by omega) ?_
                intro v5 w5 hown5 ht5 hb5
                rw [Nat.zero_add, List.nil_append] at hown5
                have yn : Ext w11 w5 := ht5.new (fun i hi => by cases hi)
                have hlo5 : ∀ i, v5.ownBlock = some i → w11.heap.size ≤ i ∧ i < w5.heap.size := fun i hi => by
                  have h9 := (hown5.lt i hi).2
                  rcases hb5 with h | h
                  · rw [h] at hi; cases hi
                  · rw [h] at hi; cases hi; exact ⟨Nat.le_refl _, h9⟩
                obtain ⟨a5, c5, rfl⟩ := own_len hown5
                clear ht5 hb5
                have hs8 := Hs8.out.ext yn
                clear Hs8
                have Hs8 := Lib.hid hs8
                clear hs8
                have hx := Hx.out.keep yn id
                clear Hx
                have Hx := Lib.hid hx
                clear hx
                have Hown5 := Lib.hid hown5
                clear hown5
                have Hlo5 := Lib.hid hlo5
                clear hlo5
                have hsz5 := yn.size
                have q1 := keepc yn id q1
                have q7 := keepc yn id q7
                have y := Y.out.trans' yn
                clear Y yn
                have Y := Lib.hid y
                clear y
                refine hK.out _ _ ?_ ?_
                · exact ⟨q1, q7⟩
                clear hK K
                (try simp only [Act.put, List.setIfInBounds_toArray, List.set_cons_zero, List.set_cons_succ])
                repeat (first
                  | (refine wpPlan_take (v := ?_) rfl (by rfl) (fun W hW => ?_) ?_; rotate_left; (focus ((try dsimp only at hW); go_split_ands; go_simp; (try with_reducible rfl); done)); (try simp only [Act.put, List.setIfInBounds_toArray, List.set_cons_zero, List.set_cons_succ]))
                  | (refine wpPlan_skip rfl (by rfl) ?_; (try simp only [Act.put, List.setIfInBounds_toArray, List.set_cons_zero, List.set_cons_succ])))
                refine wpPlan_must rfl (by rfl) (fun K hK => ?_)
                refine wp_push_any _ _ _ 23 rfl 5 (.int .u8 0) 1 1 Tryd.underlying23 info_u8 rfl (by decide) (.slice a5 k.length c5) k.length (ivs .u8 k) rfl Hown5.out (some ⟨b8, 0, none⟩) 1 1 rfl (fun h => by cases h) (ivs .u8 [(ch : Int)]) (by decide) (by simp [ivs]) Hs8.out (ivs_one _ _) (by unfold maxLen; omega) (by omega) ?_
                intro v9 w9 hown9 ht9 hb9
                have hwq : wq.heap.size ≤ w5.heap.size := Y.out.size
                have hwqr := Hwqr.out
                have h5lo : ∀ i, (Value.slice a5 k.length c5).ownBlock = some i → wq.heap.size ≤ i := fun i hi => by have := (Hlo5.out i hi).1; omega
                have t9 : Touch (fun b => (Value.slice a5 k.length c5).ownBlock = some b) w5 w9 := ht9
                have y9 : Ext wq w9 := Y.out.ext_new t9 h5lo
                have hsz9 := t9.size
                have n1 : ¬ (Value.slice a5 k.length c5).ownBlock = some rb := fun h => by have := h5lo rb h; omega
                have n7 : ¬ (Value.slice a5 k.length c5).ownBlock = some cc := fun h => by have := h5lo cc h; omega
                have q1 := keepc t9 n1 q1
                have q7 := keepc t9 n7 q7
                have hwv : RB w9 (fun _ => True) v9 (k ++ [(ch : Int)]) := by
                  have h1 : w9.ownsRow 0 5 1 v9 (k ++ [(ch : Int)]).length (ivs .u8 (k ++ [(ch : Int)])) := by rw [List.length_append, ivs_append]; exact hown9
                  exact OB.rb (F := fun _ => True) ⟨h1, fun _ _ => trivial⟩
                have hx := Hx.out.keep t9 (fun h => by have h1 := Hlo5.out bx h; have h2 := Hbx.out; have h3 := Hxl.out; omega)
                clear Hx
                have Hx := Lib.hid hx
                clear hx
                obtain ⟨a9, c9, rfl⟩ := own_len hown9
                clear ht9 hb9 t9 hown9 h5lo n1 n7 Y Hown5 Hlo5 Hs8 hwq hwqr
                have y := y9
                clear y9
                have Y := Lib.hid y
                clear y
                have Hwv := Lib.hid hwv
                clear hwv
                refine hK.out _ _ ?_ ?_
                · exact ⟨q1, q7⟩
                clear hK K
                (try simp only [Act.put, List.setIfInBounds_toArray, List.set_cons_zero, List.set_cons_succ])
                repeat (first
                  | (refine wpPlan_take (v := ?_) rfl (by rfl) (fun W hW => ?_) ?_; rotate_left; (focus ((try dsimp only at hW); go_split_ands; go_simp; (try with_reducible rfl); done)); (try simp only [Act.put, List.setIfInBounds_toArray, List.set_cons_zero, List.set_cons_succ]))
                  | (refine wpPlan_skip rfl (by rfl) ?_; (try simp only [Act.put, List.setIfInBounds_toArray, List.set_cons_zero, List.set_cons_succ])))
                refine wpPlan_must rfl (by rfl) (fun K hK => ?_)
                go_simp
                (with_reducible refine (Hih.out w9 _ (Xq.out.trans' Y.out) Hwv.out).mono ?_)
                intro e w10 hp
                unfold TRead at hp
                obtain ⟨⟨xa, xc, rfl, xl, xn, hrn⟩, yn⟩ := hp
                have hx := Hx.out.keep yn id
                clear Hx
                have Hx := Lib.hid hx
                clear hx
                clear Hwv
                have hL10 := Y.out.size
                have y10 := Y.out.trans' yn
                have Hrn := Lib.hid hrn
                clear hrn
                have Xl := Lib.hid xl
                clear xl
                have Xn := Lib.hid xn
                clear xn
                have HL10 := Lib.hid hL10
                clear hL10
                have Y10 := Lib.hid y10
                clear y10
                have hsz10 := yn.size
                have q1 := keepc yn id q1
                have q7 := keepc yn id q7
                have y := Y.out.trans' yn
                clear Y yn
                have Y := Lib.hid y
                clear y
                refine hK.out _ _ ?_ ?_
                · exact ⟨q1, q7⟩
                clear hK K
                (try simp only [Act.put, List.setIfInBounds_toArray, List.set_cons_zero, List.set_cons_succ])
                repeat (first
                  | (refine wpPlan_take (v := ?_) rfl (by rfl) (fun W hW => ?_) ?_; rotate_left; (focus ((try dsimp only at hW); go_split_ands; go_simp; (try with_reducible rfl); done)); (try simp only [Act.put, List.setIfInBounds_toArray, List.set_cons_zero, List.set_cons_succ]))
                  | (refine wpPlan_skip rfl (by rfl) ?_; (try simp only [Act.put, List.setIfInBounds_toArray, List.set_cons_zero, List.set_cons_succ])))
                obtain ⟨x0, f0⟩ := Hx.out 0 _ rfl
                obtain ⟨x1, f1⟩ := Hx.out 1 _ rfl
                obtain ⟨x2, f2⟩ := Hx.out 2 _ rfl
                obtain ⟨x3, f3⟩ := Hx.out 3 _ rfl
                have hL := HL10.out
                have hwqr := Hwqr.out
                have hb1 := Hbx.out
                have hb2 := Hxl.out
                have hnw := HNw.out
                have hyy := Y.out.size
                have hend := x_end (nx := ((nx' : Nat) : Int)) (d := dn) (wr := wr) Hx.out (wa := w10) (Touch.refl _ _) ⟨by omega, by omega, by omega⟩ Xl.out Xn.out _ (by omega) Hrn.out (Or.inl (by omega)) (Yq.out.trans' Y.out)
                have Hend := Lib.hid hend
                clear hend
                clear hL hb1 hb2 hnw hyy hwqr
                refine wpPlan_last rfl (by rfl) (fun K hK => ?_)
                go_simp
                refine hK.out _ _ ?_
                clear hK K
                (try simp only [Act.put, List.setIfInBounds_toArray, List.set_cons_zero, List.set_cons_succ])
                refine wpPlan_done (hKK.out _ _ ?_)
                clear hKK KK
                go_wp2_with (fail)
                go_meet
                exact Hend.out
            · refine wpPlan_must rfl (by rfl) (fun K hK => ?_)
              go_simp
              obtain ⟨w11, hw11⟩ : ∃ w11, w11 = wq.alloc (.cells #[.slice none 0 0, .int .i64 0, .int .i64 0, .bool false] 86) := ⟨_, rfl⟩
              have yn : Ext wq w11 := by rw [hw11]; exact (Touch.refl _ _).alloc _
              have hx : Cb w11 wq.heap.size zr := by rw [hw11]; exact Cb.new _ zr _
              have hxl : wq.heap.size < w11.heap.size := by rw [hw11]; simp
              rw [← hw11]
              clear hw11
              obtain ⟨bx, hbx⟩ : ∃ bx, bx = wq.heap.size := ⟨_, rfl⟩
              rw [← hbx] at hx ⊢
              have Hx := Lib.hid hx
              clear hx
              have Hbx := Lib.hid hbx
              clear hbx
              have Hxl := Lib.hid hxl
              clear hxl
              have hsz11 := yn.size
              have q1 := keepc yn id q1
              have q7 := keepc yn id q7
              have y := Y.out.trans' yn
              clear Y yn
              have Y := Lib.hid y
              clear y
              refine hK.out _ _ ?_ ?_
              · exact ⟨q1, q7⟩
              clear hK K
              (try simp only [Act.put, List.setIfInBounds_toArray, List.set_cons_zero, List.set_cons_succ])
              repeat (first
                | (refine wpPlan_take (v := ?_) rfl (by rfl) (fun W hW => ?_) ?_; rotate_left; (focus ((try dsimp only at hW); go_split_ands; go_simp; (try with_reducible rfl); done)); (try simp only [Act.put, List.setIfInBounds_toArray, List.set_cons_zero, List.set_cons_succ]))
                | (refine wpPlan_skip rfl (by rfl) ?_; (try simp only [Act.put, List.setIfInBounds_toArray, List.set_cons_zero, List.set_cons_succ])))
              refine wpPlan_two ?_ ?_
              · refine wpPlan_must rfl (by rfl) (fun K hK => ?_)
                refine wp_push_any _ _ _ 23 rfl 5 (.int .u8 0) 1 1 Tryd.underlying23 info_u8 rfl (by decide) (.slice none 0 0) 0 [] rfl (World.ownsRow_nil _ _ _ _) ka k.length kc rfl kn0 (ivs .u8 k) kl1 (by simp [ivs]) (Hkv.out.ext (Xq.out.trans' Y.out)).src (ivs_one _ _) (by unfold maxLen; omega) (by omega) ?_
                intro v5 w5 hown5 ht5 hb5
                rw [Nat.zero_add, List.nil_append] at hown5
                have yn : Ext w11 w5 := ht5.new (fun i hi => by cases hi)
                have hlo5 : ∀ i, v5.ownBlock = some i → w11.heap.size ≤ i ∧ i < w5.heap.size := fun i hi => by
                  have h9 := (hown5.lt i hi).2
                  rcases hb5 with h | h
                  · rw [h] at hi; cases hi
                  · rw [h] at hi; cases hi; exact ⟨Nat.le_refl _, h9⟩
                obtain ⟨a5, c5, rfl⟩ := own_len hown5
                clear ht5 hb5
                have hx := Hx.out.keep yn id
                clear Hx
                have Hx := Lib.hid hx
                clear hx
                have Hown5 := Lib.hid hown5
                clear hown5
                have Hlo5 := Lib.hid hlo5
                clear hlo5
                have hsz5 := yn.size
                have q1 := keepc yn id q1
                have q7 := keepc yn id q7
                have y := Y.out.trans' yn
                clear Y yn
                have Y := Lib.hid y
                clear y
                refine hK.out _ _ ?_ ?_
                · exact ⟨q1, q7⟩
                clear hK K
                (try simp only [Act.put, List.setIfInBounds_toArray, List.set_cons_zero, List.set_cons_succ])
                repeat (first
                  | (refine wpPlan_take (v := ?_) rfl (by rfl) (fun W hW => ?_) ?_; rotate_left; (focus ((try dsimp only at hW); go_split_ands; go_simp; (try with_reducible rfl); done)); (try simp only [Act.put, List.setIfInBounds_toArray, List.set_cons_zero, List.set_cons_succ]))
                  | (refine wpPlan_skip rfl (by rfl) ?_; (try simp only [Act.put, List.setIfInBounds_toArray, List.set_cons_zero, List.set_cons_succ])))
                refine wpPlan_must rfl (by rfl) (fun K hK => ?_)
                go_simp
                obtain ⟨w8, hw8⟩ : ∃ w8, w8 = w5.alloc (.cells #[.int .u8 (ch : Int)] 5) := ⟨_, rfl⟩
                have yn : Ext w5 w8 := by rw [hw8]; exact (Touch.refl _ _).alloc _
                have hs8 : Src w8 (some ⟨w5.heap.size, 0, none⟩) (ivs .u8 [(ch : Int)]) := by rw [hw8]; exact src_one _ _ _
                rw [← hw8]
                clear hw8
                obtain ⟨b8, hb8⟩ : ∃ b8, b8 = w5.heap.size := ⟨_, rfl⟩
                rw [← hb8] at hs8 ⊢
                have hown5 := own_keep Hown5.out yn (fun _ _ h => h)
                clear Hown5
                have Hown5 := Lib.hid hown5
                clear hown5
                have hx := Hx.out.keep yn id
                clear Hx
                have Hx := Lib.hid hx
                clear hx
                have Hs8 := Lib.hid hs8
                clear hs8
                have Hb8 := Lib.hid hb8
                clear hb8
                have hsz8 := yn.size
                have q1 := keepc yn id q1
                have q7 := keepc yn id q7
                have y := Y.out.trans' yn
                clear Y yn
                have Y := Lib.hid y
                clear y
                refine hK.out _ _ ?_ ?_
                · exact ⟨q1, q7⟩
                clear hK K
                (try simp only [Act.put, List.setIfInBounds_toArray, List.set_cons_zero, List.set_cons_succ])
                repeat (first
                  | (refine wpPlan_take (v := ?_) rfl (by rfl) (fun W hW => ?_) ?_; rotate_left; (focus ((try dsimp only at hW); go_split_ands; go_simp; (try with_reducible rfl); done)); (try simp only [Act.put, List.setIfInBounds_toArray, List.set_cons_zero, List.set_cons_succ]))
                  | (refine wpPlan_skip rfl (by rfl) ?_; (try simp only [Act.put, List.setIfInBounds_toArray, List.set_cons_zero, List.set_cons_succ])))
                refine wpPlan_must rfl (by rfl) (fun K hK => ?_)
                refine wp_push_any _ _ _ 23 rfl 5 (.int .u8 0) 1 1 Tryd.underlying23 info_u8 rfl (by decide) (.slice a5 k.length c5) k.length (ivs .u8 k) rfl Hown5.out (some ⟨b8, 0, none⟩) 1 1 rfl (fun h => by cases h) (ivs .u8 [(ch : Int)]) (by decide) (by simp [ivs]) Hs8.out (ivs_one _ _) (by unfold maxLen; omega) (by omega) ?_
                intro v9 w9 hown9 ht9 hb9
                have hwq : wq.heap.size ≤ w8.heap.size := Y.out.size
                have hwqr := Hwqr.out
                have h5lo : ∀ i, (Value.slice a5 k.length c5).ownBlock = some i → wq.heap.size ≤ i := fun i hi => by have := (Hlo5.out i hi).1; omega
                have t9 : Touch (fun b => (Value.slice a5 k.length c5).ownBlock = some b) w8 w9 := ht9
                have y9 : Ext wq w9 := Y.out.ext_new t9 h5lo
                have hsz9 := t9.size
                have n1 : ¬ (Value.slice a5 k.length c5).ownBlock = some rb := fun h => by have := h5lo rb h; omega
                have n7 : ¬ (Value.slice a5 k.length c5).ownBlock = some cc := fun h => by have := h5lo cc h; omega
                have q1 := keepc t9 n1 q1
                have q7 := keepc t9 n7 q7
                have hwv : RB w9 (fun _ => True) v9 (k ++ [(ch : Int)]) := by
                  have h1 : w9.ownsRow 0 5 1 v9 (k ++ [(ch : Int)]).length (ivs .u8 (k ++ [(ch : Int)])) := by rw [List.length_append, ivs_append]; exact hown9
                  exact OB.rb (F := fun _ => True) ⟨h1, fun _ _ => trivial⟩
                have hx := Hx.out.keep t9 (fun h => by have h1 := Hlo5.out bx h; have h2 := Hbx.out; have h3 := Hxl.out; omega)
                clear Hx
                have Hx := Lib.hid hx
                clear hx
                obtain ⟨a9, c9, rfl⟩ := own_len hown9
                clear ht9 hb9 t9 hown9 h5lo n1 n7 Y Hown5 Hlo5 Hs8 hwq hwqr
                have y := y9
                clear y9
                have Y := Lib.hid y
                clear y
                have Hwv := Lib.hid hwv
                clear hwv
                refine hK.out _ _ ?_ ?_
                · exact ⟨q1, q7⟩
                clear hK K
                (try simp only [Act.put, List.setIfInBounds_toArray, List.set_cons_zero, List.set_cons_succ])
                repeat (first
                  | (refine wpPlan_take (v := ?_) rfl (by rfl) (fun W hW => ?_) ?_; rotate_left; (focus ((try dsimp only at hW); go_split_ands; go_simp; (try with_reducible rfl); done)); (try simp only [Act.put, List.setIfInBounds_toArray, List.set_cons_zero, List.set_cons_succ]))
                  | (refine wpPlan_skip rfl (by rfl) ?_; (try simp only [Act.put, List.setIfInBounds_toArray, List.set_cons_zero, List.set_cons_succ])))
                refine wpPlan_must rfl (by rfl) (fun K hK => ?_)
                go_simp
                (with_reducible refine (Hih.out w9 _ (Xq.out.trans' Y.out) Hwv.out).mono ?_)
                intro e w10 hp
                unfold TRead at hp
                obtain ⟨⟨xa, xc, rfl, xl, xn, hrn⟩, yn⟩ := hp
                have hx := Hx.out.keep yn id
                clear Hx
                have Hx := Lib.hid hx
                clear hx
                clear Hwv
                have hL10 := Y.out.size
                have y10 := Y.out.trans' yn
                have Hrn := Lib.hid hrn
                clear hrn
                have Xl := Lib.hid xl
                clear xl
                have Xn := Lib.hid xn
                clear xn
                have HL10 := Lib.hid hL10
                clear hL10
                have Y10 := Lib.hid y10
                clear y10
                have hsz10 := yn.size
                have q1 := keepc yn id q1
                have q7 := keepc yn id q7
                have y := Y.out.trans' yn
                clear Y yn
                have Y := Lib.hid y
                clear y
                refine hK.out _ _ ?_ ?_
                · exact ⟨q1, q7⟩
                clear hK K
                (try simp only [Act.put, List.setIfInBounds_toArray, List.set_cons_zero, List.set_cons_succ])
                repeat (first
                  | (refine wpPlan_take (v := ?_) rfl (by rfl) (fun W hW => ?_) ?_; rotate_left; (focus ((try dsimp only at hW); go_split_ands; go_simp; (try with_reducible rfl); done)); (try simp only [Act.put, List.setIfInBounds_toArray, List.set_cons_zero, List.set_cons_succ]))
                  | (refine wpPlan_skip rfl (by rfl) ?_; (try simp only [Act.put, List.setIfInBounds_toArray, List.set_cons_zero, List.set_cons_succ])))
                obtain ⟨x0, f0⟩ := Hx.out 0 _ rfl
                obtain ⟨x1, f1⟩ := Hx.out 1 _ rfl
                obtain ⟨x2, f2⟩ := Hx.out 2 _ rfl
                obtain ⟨x3, f3⟩ := Hx.out 3 _ rfl
                have hL := HL10.out
                have hwqr := Hwqr.out
                have hb1 := Hbx.out
                have hb2 := Hxl.out
                have hnw := HNw.out
                have hyy := Y.out.size
                have hend := x_end (nx := ((nx' : Nat) : Int)) (d := dn) (wr := wr) Hx.out (wa := w10) (Touch.refl _ _) ⟨by omega, by omega, by omega⟩ Xl.out Xn.out _ (by omega) Hrn.out (Or.inl (by omega)) (Yq.out.trans' Y.out)
                have Hend := Lib.hid hend
                clear hend
                clear hL hb1 hb2 hnw hyy hwqr
                refine wpPlan_last rfl (by rfl) (fun K hK => ?_)
                go_simp
                refine hK.out _ _ ?_
                clear hK K
                (try simp only [Act.put, List.setIfInBounds_toArray, List.set_cons_zero, List.set_cons_succ])
                refine wpPlan_done (hKK.out _ _ ?_)
                clear hKK KK
                go_wp2_with (fail)
                go_meet
                exact Hend.out
              · refine wpPlan_must rfl (by rfl) (fun K hK => ?_)
                go_simp
                obtain ⟨w8, hw8⟩ : ∃ w8, w8 = w11.alloc (.cells #[.int .u8 (ch : Int)] 5) := ⟨_, rfl⟩
                have yn : Ext w11 w8 := by rw [hw8]; exact (Touch.refl _ _).alloc _
                have hs8 : Src w8 (some ⟨w11.heap.size, 0, none⟩) (ivs .u8 [(ch : Int)]) := by rw [hw8]; exact src_one _ _ _
                rw [← hw8]
                clear hw8
                obtain ⟨b8, hb8⟩ : ∃ b8, b8 = w11.heap.size := ⟨_, rfl⟩
                rw [← hb8] at hs8 ⊢
                have hx := Hx.out.keep yn id
                clear Hx
                have Hx := Lib.hid hx
                clear hx
                have Hs8 := Lib.hid hs8
                clear hs8
                have Hb8 := Lib.hid hb8
                clear hb8
                have hsz8 := yn.size
                have q1 := keepc yn id q1
                have q7 := keepc yn id q7
                have y := Y.out.trans' yn
                clear Y yn
                have Y := Lib.hid y
                clear y
                refine hK.out _ _ ?_ ?_
                · exact ⟨q1, q7⟩
                clear hK K
                (try simp only [Act.put, List.setIfInBounds_toArray, List.set_cons_zero, List.set_cons_succ])
                repeat (first
                  | (refine wpPlan_take (v := ?_) rfl (by rfl) (fun W hW => ?_) ?_; rotate_left; (focus ((try dsimp only at hW); go_split_ands; go_simp; (try with_reducible rfl); done)); (try simp only [Act.put, List.setIfInBounds_toArray, List.set_cons_zero, List.set_cons_succ]))
                  | (refine wpPlan_skip rfl (by rfl) ?_; (try simp only [Act.put, List.setIfInBounds_toArray, List.set_cons_zero, List.set_cons_succ])))
                refine wpPlan_must rfl (by rfl) (fun K hK => ?_)
                refine wp_push_any _ _ _ 23 rfl 5 (.int .u8 0) 1 1 Tryd.underlying23 info_u8 rfl (by decide) (.slice none 0 0) 0 [] rfl (World.ownsRow_nil _ _ _ _) ka k.length kc rfl kn0 (ivs .u8 k) kl1 (by simp [ivs]) (Hkv.out.ext (Xq.out.trans' Y.out)).src (ivs_one _ _) (by unfold maxLen; omega) (by omega) ?_
                intro v5 w5 hown5 ht5 hb5
                rw [Nat.zero_add, List.nil_append] at hown5
                have yn : Ext w8 w5 := ht5.new (fun i hi => by cases hi)
                have hlo5 : ∀ i, v5.ownBlock = some i → w8.heap.size ≤ i ∧ i < w5.heap.size := fun i hi => by
                  have h9 := (hown5.lt i hi).2
                  rcases hb5 with h | h
                  · rw [h] at hi; cases hi
                  · rw [h] at hi; cases hi; exact ⟨Nat.le_refl _, h9⟩
                obtain ⟨a5, c5, rfl⟩ := own_len hown5
                clear ht5 hb5
                have hs8 := Hs8.out.ext yn
                clear Hs8
                have Hs8 := Lib.hid hs8
                clear hs8
                have hx := Hx.out.keep yn id
                clear Hx
                have Hx := Lib.hid hx
                clear hx
                have Hown5 := Lib.hid hown5
                clear hown5
                have Hlo5 := Lib.hid hlo5
                clear hlo5
                have hsz5 := yn.size
                have q1 := keepc yn id q1
                have q7 := keepc yn id q7
                have y := Y.out.trans' yn
                clear Y yn
                have Y := Lib.hid y
                clear y
                refine hK.out _ _ ?_ ?_
                · exact ⟨q1, q7⟩
                clear hK K
                (try simp only [Act.put, List.setIfInBounds_toArray, List.set_cons_zero, List.set_cons_succ])
                repeat (first
                  | (refine wpPlan_take (v := ?_) rfl (by rfl) (fun W hW => ?_) ?_; rotate_left; (focus ((try dsimp only at hW); go_split_ands; go_simp; (try with_reducible rfl); done)); (try simp only [Act.put, List.setIfInBounds_toArray, List.set_cons_zero, List.set_cons_succ]))
                  | (refine wpPlan_skip rfl (by rfl) ?_; (try simp only [Act.put, List.setIfInBounds_toArray, List.set_cons_zero, List.set_cons_succ])))
                refine wpPlan_must rfl (by rfl) (fun K hK => ?_)
                refine wp_push_any _ _ _ 23 rfl 5 (.int .u8 0) 1 1 Tryd.underlying23 info_u8 rfl (by decide) (.slice a5 k.length c5) k.length (ivs .u8 k) rfl Hown5.out (some ⟨b8, 0, none⟩) 1 1 rfl (fun h => by cases h) (ivs .u8 [(ch : Int)]) (by decide) (by simp [ivs]) Hs8.out (ivs_one _ _) (by unfold maxLen; omega) (by omega) ?_
                intro v9 w9 hown9 ht9 hb9
                have hwq : wq.heap.size ≤ w5.heap.size := Y.out.size
                have hwqr := Hwqr.out
                have h5lo : ∀ i, (Value.slice a5 k.length c5).ownBlock = some i → wq.heap.size ≤ i := fun i hi => by have := (Hlo5.out i hi).1; omega
                have t9 : Touch (fun b => (Value.slice a5 k.length c5).ownBlock = some b) w5 w9 := ht9
                have y9 : Ext wq w9 := Y.out.ext_new t9 h5lo
                have hsz9 := t9.size
                have n1 : ¬ (Value.slice a5 k.length c5).ownBlock = some rb := fun h => by have := h5lo rb h; omega
                have n7 : ¬ (Value.slice a5 k.length c5).ownBlock = some cc := fun h => by have := h5lo cc h; omega
                have q1 := keepc t9 n1 q1
                have q7 := keepc t9 n7 q7
                have hwv : RB w9 (fun _ => True) v9 (k ++ [(ch : Int)]) := by
                  have h1 : w9.ownsRow 0 5 1 v9 (k ++ [(ch : Int)]).length (ivs .u8 (k ++ [(ch : Int)])) := by rw [List.length_append, ivs_append]; exact hown9
                  exact OB.rb (F := fun _ => True) ⟨h1, fun _ _ => trivial⟩
                have hx := Hx.out.keep t9 (fun h => by have h1 := Hlo5.out bx h; have h2 := Hbx.out; have h3 := Hxl.out; omega)
                clear Hx
                have Hx := Lib.hid hx
                clear hx
                obtain ⟨a9, c9, rfl⟩ := own_len hown9
                clear ht9 hb9 t9 hown9 h5lo n1 n7 Y Hown5 Hlo5 Hs8 hwq hwqr
                have y := y9
                clear y9
                have Y := Lib.hid y
                clear y
                have Hwv := Lib.hid hwv
                clear hwv
                refine hK.out _ _ ?_ ?_
                · exact ⟨q1, q7⟩
                clear hK K
                (try simp only [Act.put, List.setIfInBounds_toArray, List.set_cons_zero, List.set_cons_succ])
                repeat (first
                  | (refine wpPlan_take (v := ?_) rfl (by rfl) (fun W hW => ?_) ?_; rotate_left; (focus ((try dsimp only at hW); go_split_ands; go_simp; (try with_reducible rfl); done)); (try simp only [Act.put, List.setIfInBounds_toArray, List.set_cons_zero, List.set_cons_succ]))
                  | (refine wpPlan_skip rfl (by rfl) ?_; (try simp only [Act.put, List.setIfInBounds_toArray, List.set_cons_zero, List.set_cons_succ])))
                refine wpPlan_must rfl (by rfl) (fun K hK => ?_)
                go_simp
                (with_reducible refine (Hih.out w9 _ (Xq.out.trans' Y.out) Hwv.out).mono ?_)
                intro e w10 hp
                unfold TRead at hp
                obtain ⟨⟨xa, xc, rfl, xl, xn, hrn⟩, yn⟩ := hp
                have hx := Hx.out.keep yn id
                clear Hx
                have Hx := Lib.hid hx
                clear hx
                clear Hwv
                have hL10 := Y.out.size
                have y10 := Y.out.trans' yn
                have Hrn := Lib.hid hrn
                clear hrn
                have Xl := Lib.hid xl
                clear xl
                have Xn := Lib.hid xn
                clear xn
                have HL10 := Lib.hid hL10
                clear hL10
                have Y10 := Lib.hid y10
                clear y10
                have hsz10 := yn.size
                have q1 := keepc yn id q1
                have q7 := keepc yn id q7
                have y := Y.out.trans' yn
                clear Y yn
                have Y := Lib.hid y
                clear y
                refine hK.out _ _ ?_ ?_
                · exact ⟨q1, q7⟩
                clear hK K
                (try simp only [Act.put, List.setIfInBounds_toArray, List.set_cons_zero, List.set_cons_succ])
                repeat (first
                  | (refine wpPlan_take (v := ?_) rfl (by rfl) (fun W hW => ?_) ?_; rotate_left; (focus ((try dsimp only at hW); go_split_ands; go_simp; (try with_reducible rfl); done)); (try simp only [Act.put, List.setIfInBounds_toArray, List.set_cons_zero, List.set_cons_succ]))
                  | (refine wpPlan_skip rfl (by rfl) ?_; (try simp only [Act.put, List.setIfInBounds_toArray, List.set_cons_zero, List.set_cons_succ])))
                obtain ⟨x0, f0⟩ := Hx.out 0 _ rfl
                obtain ⟨x1, f1⟩ := Hx.out 1 _ rfl
                obtain ⟨x2, f2⟩ := Hx.out 2 _ rfl
                obtain ⟨x3, f3⟩ := Hx.out 3 _ rfl
                have hL := HL10.out
                have hwqr := Hwqr.out
                have hb1 := Hbx.out
                have hb2 := Hxl.out
                have hnw := HNw.out
                have hyy := Y.out.size
                have hend := x_end (nx := ((nx' : Nat) : Int)) (d := dn) (wr := wr) Hx.out (wa := w10) (Touch.refl _ _) ⟨by omega, by omega, by omega⟩ Xl.out Xn.out _ (by omega) Hrn.out (Or.inl (by omega)) (Yq.out.trans' Y.out)
                have Hend := Lib.hid hend
                clear hend
                clear hL hb1 hb2 hnw hyy hwqr
                refine wpPlan_last rfl (by rfl) (fun K hK => ?_)
                go_simp
                refine hK.out _ _ ?_
                clear hK K
                (try simp only [Act.put, List.setIfInBounds_toArray, List.set_cons_zero, List.set_cons_succ])
                refine wpPlan_done (hKK.out _ _ ?_)
                clear hKK KK
                go_wp2_with (fail)
                go_meet
                exact Hend.out
          case rest =>
            obtain ⟨bx, xa, xc, rfl, hcx, xl, xn, hrn, hbx1, hbx2, xe⟩ := hcut
            obtain ⟨wx, rfl⟩ : ∃ wx, wx = wc := ⟨_, rfl⟩
            obtain ⟨fs, hfs, hsx0, hkx⟩ := hrn
            have hfl : fs.length = P.length := by rw [← hfs]; simp
            have hsx := hsx0.src
            have hcb := Hcb0.out.keep xe id
            have hown := own_keep Hown0.out xe (fun _ _ h => h)
            have hol : ∀ b', (Value.slice ra Pj.length rc).ownBlock = some b' → b' < wr.heap.size := fun b' hb' => (Hown0.out.lt b' hb').2
            have hbr : bx ≠ rb := by omega
            clear q0 q1 q2 q3 g0 g1 g2 g3 e3 e7
            obtain ⟨q0, g0⟩ := hcb 0 _ rfl
            obtain ⟨q1, g1⟩ := hcb 1 _ rfl
            obtain ⟨q2, g2⟩ := hcb 2 _ rfl
            obtain ⟨q3, g3⟩ := hcb 3 _ rfl
            obtain ⟨y0, _⟩ := hcx 0 _ rfl
            obtain ⟨y1, _⟩ := hcx 1 _ rfl
            obtain ⟨y2, _⟩ := hcx 2 _ rfl
            obtain ⟨y3, _⟩ := hcx 3 _ rfl
            have hmx : (if dj < dn then (dn : Int) else (dj : Int)) = ((max dj dn : Nat) : Int) := by split <;> omega
            have hPbk := HPbk.out
            have hpmm := Hpmm.out
            have Hfs := Lib.hid hfs
            clear hfs
            have Hsx0 := Lib.hid hsx0
            clear hsx0
            have Hsx := Lib.hid hsx
            clear hsx
            have Hkx := Lib.hid hkx
            clear hkx
            have Hfl := Lib.hid hfl
            clear hfl
            have Hcb := Lib.hid hcb
            clear hcb
            have Hown := Lib.hid hown
            clear hown
            have Hol := Lib.hid hol
            clear hol
            have Hcx := Lib.hid hcx
            clear hcx
            have Xl := Lib.hid xl
            clear xl
            have Xn := Lib.hid xn
            clear xn
            have Xe := Lib.hid xe
            clear xe
            have Hmx := Lib.hid hmx
            clear hmx
            have Hbr := Lib.hid hbr
            clear hbr
            go_wp2_with (fail)
            refine wp_region_plan (.take 0 (.take 1 (.take 2 (.take 3 (.take 5 (.take 6 (.take 7 (.take 8 (.take 9 (.take 10 (.take 11 (.must 4 (.take 12 (.last 13 .done)))))))))))))) (fun W => W.cell? ⟨rb, 0, none⟩ = some (.slice ra Pj.length rc) ∧ W.cell? ⟨rb, 2, none⟩ = some (.int .i64 (dj : Int)) ∧ W.cell? ⟨bx, 0, none⟩ = some (.slice xa P.length xc) ∧ W.cell? ⟨bx, 1, none⟩ = some (.int .i64 (nx' : Int)) ∧ W.cell? ⟨bx, 2, none⟩ = some (.int .i64 (dn : Int))) (by kernel_rfl) (by kernel_rfl) (by kernel_rfl) rfl ?_ (fun KK hKK => ?_)
            · exact ⟨q0, q2, y0, y1, y2⟩
            repeat (first
              | (refine wpPlan_take (v := ?_) rfl (by rfl) (fun W hW => ?_) ?_; rotate_left; (focus ((try dsimp only at hW); go_split_ands; go_simp; (try with_reducible rfl); done)); (try simp only [Act.put, List.setIfInBounds_toArray, List.set_cons_zero, List.set_cons_succ]))
              | (refine wpPlan_skip rfl (by rfl) ?_; (try simp only [Act.put, List.setIfInBounds_toArray, List.set_cons_zero, List.set_cons_succ])))
            refine wpPlan_must rfl (by rfl) (fun K hK => ?_)
            refine wp_push_any _ _ _ 22 rfl 33 _ 2 32 Tryd.underlying22 info_pair rfl (by decide) (.slice ra Pj.length rc) Pj.length (flat es) rfl (own_keep Hown.out (show Ext wx wx.drew from (Touch.refl _ _).drew) (fun _ _ h => h)) xa P.length xc rfl Xn.out (flat fs) Xl.out (by rw [flat_length, Hfl.out]) (Hsx.out.ext (Touch.refl _ _).drew) (flat_one_cell _ (fun e he => by obtain ⟨a, c, h1, _⟩ := (Hkx.out e he).shape; rw [h1]; rfl)) (by simp [maxLen]; omega) (by omega) ?_
            intro v6 w6 hown6 ht6 hb6
            obtain ⟨va, vc, rfl⟩ := own_len hown6
            have zz : Touch (fun b' => (Value.slice ra Pj.length rc).ownBlock = some b') wx w6 := (show Ext wx wx.drew from (Touch.refl _ _).drew).ext_trans ht6
            have hnr : ¬ (Value.slice ra Pj.length rc).ownBlock = some rb := fun h => (Hrlt.out rb h).2 rfl
            have hnx2 : ¬ (Value.slice ra Pj.length rc).ownBlock = some bx := fun h => by have := Hol.out _ h; omega
            have hcb6 := Hcb.out.keep zz hnr
            obtain ⟨s0, t0⟩ := hcb6 0 _ rfl
            obtain ⟨s1, t1⟩ := hcb6 1 _ rfl
            obtain ⟨s2, t2⟩ := hcb6 2 _ rfl
            obtain ⟨s3, t3⟩ := hcb6 3 _ rfl
            have z0 := keepc zz hnx2 y0
            have z1 := keepc zz hnx2 y1
            have z2 := keepc zz hnx2 y2
            have hb6' := hb6.imp id (fun h => (⟨_, h, Nat.le_refl _⟩ : ∃ M, (Value.slice va (Pj.length + P.length) vc).ownBlock = some M ∧ wx.heap.size ≤ M))
            clear ht6 hb6
            have Hown6 := Lib.hid hown6
            clear hown6
            have Zz := Lib.hid zz
            clear zz
            have Hcb6 := Lib.hid hcb6
            clear hcb6
            have Hb6' := Lib.hid hb6'
            clear hb6'
            have Hnr := Lib.hid hnr
            clear hnr
            have Hnx2 := Lib.hid hnx2
            clear hnx2
            refine hK.out _ _ ?_ ?_
            · exact ⟨s0, s2, z0, z1, z2⟩
            clear hK K
            (try simp only [Act.put, List.setIfInBounds_toArray, List.set_cons_zero, List.set_cons_succ])
            repeat (first
              | (refine wpPlan_take (v := ?_) rfl (by rfl) (fun W hW => ?_) ?_; rotate_left; (focus ((try dsimp only at hW); go_split_ands; go_simp; (try with_reducible rfl); done)); (try simp only [Act.put, List.setIfInBounds_toArray, List.set_cons_zero, List.set_cons_succ]))
              | (refine wpPlan_skip rfl (by rfl) ?_; (try simp only [Act.put, List.setIfInBounds_toArray, List.set_cons_zero, List.set_cons_succ])))
            refine wpPlan_last rfl (by rfl) (fun K hK => ?_)
            go_simp
            obtain ⟨w9, hw9⟩ : ∃ w9, w9 = (((w6.setCell ⟨rb, 0, none⟩ (.slice va (Pj.length + P.length) vc)).setCell ⟨rb, 1, none⟩ (.int .i64 (nx' : Int))).setCell ⟨rb, 2, none⟩ (.int .i64 (if dj < dn then (dn : Int) else (dj : Int)))).setCell ⟨rb, 3, none⟩ (.bool true) := ⟨_, rfl⟩
            have hcb9 : Cb w9 rb [.slice va (Pj.length + P.length) vc, .int .i64 (nx' : Int), .int .i64 (if dj < dn then (dn : Int) else (dj : Int)), .bool true] := by
              rw [hw9]
              exact (((Hcb6.out.set 0 _).set 1 _).set 2 _).set 3 _
            have t69 : Touch (fun i => i = rb) w6 w9 := by
              rw [hw9]
              exact ((((Touch.refl (fun i => i = rb) w6).setCell (p := ⟨rb, 0, none⟩) (Or.inl rfl) _).setCell (p := ⟨rb, 1, none⟩) (Or.inl rfl) _).setCell (p := ⟨rb, 2, none⟩) (Or.inl rfl) _).setCell (p := ⟨rb, 3, none⟩) (Or.inl rfl) _
            rw [Hmx.out] at hcb9
            have hrbv := Hrb.out
            have hwxs := Xe.out.size
            have hx3s := X3.out.size
            have hW4w : W4.heap.size ≤ wr.heap.size := Zt0.out.size
            have hst9 : RSt N W4.heap.size w9 rb (Pj ++ P) (nx' : Int) (max dj dn) := RSt.more Hes.out Hfs.out Hrlt.out (by omega) (by omega) (by omega) (by omega) (fun e he => (Hrk0.out e he).ext Xe.out) (fun e he => Hkx.out e he) Hown6.out Zz.out Hb6'.out t69 hcb9
            have zst : Touch (fun i => i = rb) W4 w9 := ((Zt0.out.trans_ext Xe.out).trans Zz.out (fun i hi hlt => by have := (Hrlt.out i hi).1; omega)).trans' t69
            rw [← hw9]
            clear hw9 hcb9 t69 hrbv hwxs hx3s hW4w
            have Hst9 := Lib.hid hst9
            clear hst9
            have Zst := Lib.hid zst
            clear zst
            refine hK.out _ _ ?_
            clear hK K
            (try simp only [Act.put, List.setIfInBounds_toArray, List.set_cons_zero, List.set_cons_succ])
            refine wpPlan_done (hKK.out _ _ ?_)
            clear hKK KK
            go_wp2_with (fail)
            go_roundw
            case rel => exact ⟨j + 1, by omega, by rw [T3.out], by go_num, by rw [T1.out, T2.out, Hnx'.out]; exact Hst9.out, Zst.out⟩
            case measure => simp [intOf]; omega
        · obtain rfl : j = cn := by omega
          have j1 : ¬ (j : Int) < (j : Int) := by omega
          rw [HR.out, HDR.out] at hst0
          clear e3 e7
          obtain ⟨e3, _⟩ := hcCr 3 _ rfl
          obtain ⟨e2, _⟩ := hcCr 2 _ rfl
          have hcRD := HcR4.out.keep zt0 (fun h => by have h : w.heap.size = rb := h; have := Hrb.out; omega)
          obtain ⟨ra, rc, es, hes, hcb, hown, hrlt, hrk⟩ := hst0
          have hesl : es.length = R.length := by rw [← hes]; simp
          have hrbv := Hrb.out
          have hwrb : w.heap.size < rb := by omega
          have hwrb2 : ¬ w.heap.size = rb := by omega
          have hRN : RN wr N w.heap.size (.slice ra R.length rc) R := ⟨es, hes, Cells2.of_own (by rw [hesl]; exact hown) (fun b' hb' => by have h8 := (hrlt b' hb').1; omega), hrk⟩
          obtain ⟨_, hrc, hrn, _⟩ := own_src hown
          have hrl2 : ∀ b, (Value.slice ra R.length rc).ownBlock = some b → b ≠ w.heap.size ∧ b ≠ rb := fun b hb => by have h8 := hrlt b hb; omega
          rw [HRl.out] at hcb
          obtain ⟨q0, g0⟩ := hcb 0 _ rfl
          obtain ⟨q1, g1⟩ := hcb 1 _ rfl
          obtain ⟨q2, g2⟩ := hcb 2 _ rfl
          obtain ⟨q3, g3⟩ := hcb 3 _ rfl
          obtain ⟨r0, m0⟩ := hcRD 0 _ rfl
          obtain ⟨r1, m1'⟩ := hcRD 1 _ rfl
          obtain ⟨r2, m2⟩ := hcRD 2 _ rfl
          obtain ⟨r3, m3⟩ := hcRD 3 _ rfl
          have hDb0 := HDb0.out
          generalize hnc : Nx j = ncn at *
          have hcb9 := hcb.set 2 (.int .i64 ((dR : Int) + 1))
          have t9 : Touch (fun i => i = rb) wr (wr.setCell ⟨rb, 2, none⟩ (.int .i64 ((dR : Int) + 1))) := (Touch.refl (fun i => i = rb) wr).setCell (p := ⟨rb, 2, none⟩) (Or.inl rfl) _
          have hcR9 := hcRD.keep t9 (fun h => by have h : w.heap.size = rb := h; omega)
          have hend := (((hcR9.set 0 (.slice ra tot rc)).set 1 (.int .i64 (ncn : Int))).set 2 (.int .i64 ((dR : Int) + 1))).set 3 (.bool true)
          have tz := ((((Touch.refl (fun i => i = w.heap.size) (wr.setCell ⟨rb, 2, none⟩ (.int .i64 ((dR : Int) + 1)))).setCell (p := ⟨w.heap.size, 0, none⟩) (Or.inl rfl) (.slice ra tot rc)).setCell (p := ⟨w.heap.size, 1, none⟩) (Or.inl rfl) (.int .i64 (ncn : Int))).setCell (p := ⟨w.heap.size, 2, none⟩) (Or.inl rfl) (.int .i64 ((dR : Int) + 1))).setCell (p := ⟨w.heap.size, 3, none⟩) (Or.inl rfl) (.bool true)
          have xz := (xwr.ext_new t9 (fun i hi => by have hi : i = rb := hi; omega)).ext_new tz (fun i hi => by have hi : i = w.heap.size := hi; omega)
          have rz := (hRN.keep t9 (fun b' h => ⟨by have h : b' = rb := h; omega, fun e => (hrl2 b' e).2 h⟩)).keep tz (fun b' h => ⟨by have h : b' = w.heap.size := h; omega, fun e => (hrl2 b' e).1 h⟩)
          have Zt0 := Lib.hid zt0
          clear zt0
          have HcCr := Lib.hid hcCr
          clear hcCr
          have HcRD := Lib.hid hcRD
          clear hcRD
          have Hes := Lib.hid hes
          clear hes
          have Hcb := Lib.hid hcb
          clear hcb
          have Hown := Lib.hid hown
          clear hown
          have Hrlt := Lib.hid hrlt
          clear hrlt
          have Hrk := Lib.hid hrk
          clear hrk
          have Hesl := Lib.hid hesl
          clear hesl
          have HRN := Lib.hid hRN
          clear hRN
          have Hrc := Lib.hid hrc
          clear hrc
          have Hrn := Lib.hid hrn
          clear hrn
          have Hcb9 := Lib.hid hcb9
          clear hcb9
          have T9 := Lib.hid t9
          clear t9
          have HcR9 := Lib.hid hcR9
          clear hcR9
          have Hend := Lib.hid hend
          clear hend
          have Tz := Lib.hid tz
          clear tz
          have Xz := Lib.hid xz
          clear xz
          have Rz := Lib.hid rz
          clear rz
          have Hrl2 := Lib.hid hrl2
          clear hrl2
          have Hrbv := Lib.hid hrbv
          clear hrbv
          have Xwr := Lib.hid xwr
          clear xwr
          have Hnc := Lib.hid hnc
          clear hnc
          go_wp2_with (fail)
          obtain ⟨k0, _⟩ := Hend.out 0 _ rfl
          obtain ⟨k1, _⟩ := Hend.out 1 _ rfl
          obtain ⟨k2, _⟩ := Hend.out 2 _ rfl
          obtain ⟨k3, _⟩ := Hend.out 3 _ rfl
          refine bodyPost_ret (v := .agg #[.slice ra tot rc, .int .i64 (ncn : Int), .int .i64 ((dR : Int) + 1), .bool true]) (by simp [results, Tryd.results88, go_sem, k0, k1, k2, k3]) rfl ⟨⟨ra, rc, ?_, ?_, Hrn.out, Rz.out⟩, Xz.out⟩
          · rw [HRl.out, Hnc.out]
          · have h1 := Hrc.out
            simpa using h1
end RadY
end Go.Proofs.YtclnnkacfanaiaaDoor
