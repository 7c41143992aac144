/- The statement RadixNone: of none each call says so; a key that is too long is not there, and is not put; without cells nothing is put, and nothing is there. Conditions: none beyond the statement's own guards. -/
import Derived.Test.YtclnnkacfanaiaaDoorTreeP
import Derived.Test.YtclnnkacfanaiaaDoorTreeD
import Derived.Test.YtclnnkacfanaiaaDoorRadV
import Derived.Test.YtclnnkacfanaiaaDoorTreeW
import Derived.Test.YtclnnkacfanaiaaDoorKidL
import Derived.Test.YtclnnkacfanaiaaDoorCards
import Derived.Test.YtclnnkacfanaiaaDoorTie
import Derived.Test.YtclnnkacfanaiaaDoorArg
import Derived.Test.YtclnnkacfanaiaaDoorRows
namespace Go.Proofs.YtclnnkacfanaiaaDoor
open Go.ChangeShapes Go.WideShapes Go.ChangeAt Go.RowKit Go.Deep
set_option linter.unusedVariables false
set_option linter.unusedSimpArgs false
namespace LawRadixNone
open TreeB TreeP TreeD
open ModS (great_not pair_none)
open ModB (fromK fromN)

abbrev In (w : World) : Nat → Prop := fun b => b < w.heap.size
theorem shape_nl {F : Nat → Prop} (w : World) (v : Value) (h : Tq w v F []) : Calls Tryd.prog 29 #[v] w fun e w' => (∃ a c, e = .returned (.slice a 0 c)) ∧ Ext w w' := by
  refine (RadV.shape_none w v h).mono ?_
  rintro e w' ⟨rfl, x⟩
  exact ⟨⟨_, _, rfl⟩, x⟩
theorem rp_one (w : World) (kv : Value) (k : List Int) (x : Int) (t : TypeId) (h : RB w (fun _ => True) kv k) : RP (w.alloc (.cells #[kv, .int .u64 x] t)) (fun _ => True) (.slice (some ⟨w.heap.size, 0, none⟩) 1 1) [(k, x)] :=
  ModL.rp_new w [(kv, (k, x))] t w.heap.size rfl (by simp [maxLen]) (fun e he => by simp only [List.mem_cons, List.not_mem_nil, or_false] at he; subst he; exact h)

set_option maxRecDepth 100000 in
set_option maxHeartbeats 8000000 in
theorem walk_small (v0 : Value) (n : Int) (k : List Int) (w : World) (htr : KidA.Tr w) (h1 : RB w (In w) v0 k) (kb : KB k) (hk : k.length ≤ 40) (hV : V64 n) :
    Calls Tryd.prog 11 #[v0, .int .i64 n] w fun e w' => e = .returned (.bool true) ∧ Ext w w' := by
  obtain ⟨a1, c1, rfl, l3, l4, _⟩ := h1.shape
  unfold maxLen at l4
  have d1 : decide ((40 : Int) < (k.length : Int)) = false := by simp; omega
  have hz : ∀ W, Tq W (.pointer none) (fun _ => False) [] := fun W => Or.inl ⟨rfl, rfl⟩
  have hkk := fun W (t : Ext w W) => h1.ext t
  have hval : valK [] k = 0 := rfl
  have hhas : hasK [] k = false := rfl
  have hget := TreeA.get_any w _ _ [] k (hz w) h1 kb (by simp)
  rw [hval, hhas] at hget
  have hfl := fun W (t : Ext w W) => TreeA.floor_any W _ _ [] k (hz W) (h1.ext t) kb (by simp)
  have hse := fun W => TreeA.select_any W _ [] n (hz W) (by simp)
  have hse0 : selK [] n = none := by unfold selK; split <;> simp
  have hfl0 : floorK [] k = none := by unfold floorK selK; split <;> simp
  rw [hse0] at hse
  rw [hfl0] at hfl
  have hpn := put_nil w (.slice a1 k.length c1) 1
  have Htr := Lib.hid htr
  clear htr
  have H1 := Lib.hid h1
  clear h1
  have Kb := Lib.hid kb
  clear kb
  have Hz := Lib.hid hz
  clear hz
  have Hkk := Lib.hid hkk
  clear hkk
  have Hget := Lib.hid hget
  clear hget
  have Hfl := Lib.hid hfl
  clear hfl
  have Hse := Lib.hid hse
  clear hse
  have Hpn := Lib.hid hpn
  clear hpn
  have HV := Lib.hid hV
  clear hV
  clear hse0 hfl0 hval hhas
  go_enter Tryd.func11, Tryd.ntmps11
  go_wp2_with (fail)
  (with_reducible refine Hpn.out.mono ?_)
  rintro e w' ⟨rfl, rfl⟩
  go_wp2_with (fail)
  (with_reducible refine Hget.out.mono ?_)
  rintro e w1 ⟨rfl, t1⟩
  go_wp2_with (fail)
  (with_reducible refine (Hfl.out _ t1).mono ?_)
  intro e w2 hp
  obtain ⟨pa, pc, rfl, hq, t2⟩ := pair_none hp
  have x2 := (t1.trans' t2).alloc (.cells #[.slice pa 0 pc, .int .u64 0] 33)
  clear hp hq t2 t1
  go_wp2_with (fail)
  (with_reducible refine (Hse.out _).mono ?_)
  intro e w3 hp
  obtain ⟨qa, qc, rfl, hq, t3⟩ := pair_none hp
  have x3 := (x2.trans' t3).alloc (.cells #[.slice qa 0 qc, .int .u64 0] 33)
  clear hp hq t3 x2
  have hnew := new_yes (w3.alloc (.cells #[.slice qa 0 qc, .int .u64 0] 33)) (Htr.out.ext x3) 0 (by decide) (by decide)
  unfold TNew at hnew
  have Hnew := Lib.hid hnew
  clear hnew
  go_wp2_with (fail)
  (with_reducible refine Hnew.out.mono ?_)
  rintro e w4 ⟨t, F, rfl, htp, hF, t4⟩
  have x4 := x3.trans' t4
  have hF4 : ∀ b, F b → w.heap.size ≤ b := fun b hb => Nat.le_trans x3.size (hF b hb)
  have hnew := new_yes w4 (Htr.out.ext x4) 1048576 (by decide) (by decide)
  unfold TNew at hnew
  clear x3 t4 hF Hnew
  have Hnew := Lib.hid hnew
  clear hnew
  have Htp := Lib.hid htp
  clear htp
  have HF4 := Lib.hid hF4
  clear hF4
  go_wp2_with (fail)
  (with_reducible refine Hnew.out.mono ?_)
  rintro e w5 ⟨t', F', rfl, htp', hF', t5⟩
  have x5 := x4.trans' t5
  have htp5 := Htp.out.ext t5
  clear htp' hF' t5 x4 Hnew Htp
  have Htp5 := Lib.hid htp5
  clear htp5
  go_wp2_with (fail)
  refine (new_no _ 1048577 (Or.inr (by decide))).mono ?_
  rintro e w5' ⟨rfl, rfl⟩
  have hpf := put_full w5 t (.slice a1 k.length c1) [] 0 k 1 Htp5.out (by simp) ((Hkk.out _ x5).mono (fun b hb => aw Htp5.out (fun h => by have h1 : b < w.heap.size := hb; have := HF4.out b h; omega))) Kb.out (by omega) rfl (by have := sz_one k 1 (Kb.out); omega)
  have Hpf := Lib.hid hpf
  clear hpf
  go_wp2_with (fail)
  (with_reducible refine Hpf.out.mono ?_)
  rintro e w6 ⟨rfl, t6⟩
  have x6 := x5.trans' t6
  have htp6 := Htp5.out.ext t6
  have hce := TreeA.ceil_any (G := fun _ => False) w6 _ (.slice none 0 0) [] [] htp6.tq (RB.nil _ _) KB.nil (by simp)
  rw [show ceilK [] [] = none by rfl] at hce
  clear Htp5 Hpf t6 x5
  have Htp6 := Lib.hid htp6
  clear htp6
  have Hce := Lib.hid hce
  clear hce
  go_wp2_with (fail)
  (with_reducible refine Hce.out.mono ?_)
  intro e w7 hp
  obtain ⟨ra, rc, rfl, hq, t7⟩ := pair_none hp
  have x7a := t7.alloc (.cells #[.slice ra 0 rc, .int .u64 0] 33)
  have x7 := x6.trans' x7a
  have htp7 := Htp6.out.ext x7a
  clear hp hq t7 x7a Htp6 Hce x6
  have Htp7 := Lib.hid htp7
  clear htp7
  have hlo := SameP.long_any (w7.alloc (.cells #[.slice ra 0 rc, .int .u64 0] 33)) 65536 (n % 256) (by decide) (by omega)
  have hkl := SameP.longK_kb 65536 (n % 256) (by omega)
  have hll := SameP.longK_length 65536 (n % 256)
  generalize SameP.longK 65536 (n % 256) = lk at *
  have Hlo := Lib.hid hlo
  clear hlo
  have Hkl := Lib.hid hkl
  clear hkl
  have Hll := Lib.hid hll
  clear hll
  go_wp2_with (fail)
  refine Hlo.out.mono ?_
  rintro e w8 ⟨⟨v8, rfl, ho8⟩, t8⟩
  have x8 := x7.trans' t8
  have htp8 := Htp7.out.ext t8
  have hlr : RB w8 (fun b => b ≠ t) v8 lk := ho8.rb.mono (fun b hb h => by subst h; have h1 := Htp7.out.lt _ Htp7.out.self; have h2 : _ ≤ b := hb; omega)
  obtain ⟨la, lc, rfl, _⟩ := hlr.shape
  have hget := TreeA.get_any w8 _ _ [] lk htp8.tq hlr Hkl.out (by simp)
  rw [show valK [] lk = 0 from rfl, show hasK [] lk = false from rfl] at hget
  clear t8 ho8 Htp7 x7 Hlo
  have Htp8 := Lib.hid htp8
  clear htp8
  have Hlr := Lib.hid hlr
  clear hlr
  have Hget := Lib.hid hget
  clear hget
  go_wp2_with (fail)
  (with_reducible refine Hget.out.mono ?_)
  rintro e w9 ⟨rfl, t9⟩
  have hdr := drop_not w9 t _ [] 0 lk (Htp8.out.ext t9) (Hlr.out.ext t9) Hkl.out rfl
  have x9 := x8.trans' t9
  have htp9 := Htp8.out.ext t9
  have hlr9 := Hlr.out.ext t9
  clear t9 Hget Htp8 Hlr x8
  have Hdr := Lib.hid hdr
  clear hdr
  have Htp9 := Lib.hid htp9
  clear htp9
  have Hlr9 := Lib.hid hlr9
  clear hlr9
  go_wp2_with (fail)
  (with_reducible refine Hdr.out.mono ?_)
  rintro e w10 ⟨rfl, t10⟩
  have x10 := x9.trans' t10
  have htp10 := Htp9.out.ext t10
  have hlr10 := Hlr9.out.ext t10
  have hbn := build_nil w10 (.slice none 0 0)
  have hl0 := TreeA.len_any w10 _ [] (Hz.out w10)
  have hv0 := live_nil w10
  have hr0 := TreeA.rank_any w10 _ _ [] k (Hz.out w10) (Hkk.out _ x10) Kb.out (by simp)
  rw [show rk [] k = 0 from rfl] at hr0
  have hf0 := fun W (x : Ext w W) => TreeA.from_any W _ _ [] k 3 (Hz.out W) (Hkk.out _ x) Kb.out (by simp) (by unfold V64; omega)
  rw [show fromK [] k 3 = [] by simp [fromK, fromN]] at hf0
  clear t10 Hdr Htp9 Hlr9 x9
  have Htp10 := Lib.hid htp10
  clear htp10
  have Hlr10 := Lib.hid hlr10
  clear hlr10
  have Hbn := Lib.hid hbn
  clear hbn
  have Hl0 := Lib.hid hl0
  clear hl0
  have Hv0 := Lib.hid hv0
  clear hv0
  have Hr0 := Lib.hid hr0
  clear hr0
  have Hf0 := Lib.hid hf0
  clear hf0
  go_wp2_with (fail)
  (with_reducible refine Hbn.out.mono ?_)
  rintro e w' ⟨rfl, rfl⟩
  go_wp2_with (fail)
  refine Hl0.out.mono ?_
  rintro e w' ⟨rfl, rfl⟩
  go_wp2_with (fail)
  (with_reducible refine Hv0.out.mono ?_)
  rintro e w' ⟨rfl, rfl⟩
  go_wp2_with (fail)
  refine Hr0.out.mono ?_
  rintro e w11 ⟨rfl, t11⟩
  go_wp2_with (fail)
  refine (Hf0.out _ (x10.trans' t11)).mono ?_
  rintro e w12 ⟨⟨v12, rfl, ho12⟩, t12⟩
  obtain ⟨fa, fc, rfl, _⟩ := ho12.rp.shape
  have x12 := x10.trans' (t11.trans' t12)
  have htp12 := Htp10.out.ext (t11.trans' t12)
  have hlr12 := Hlr10.out.ext (t11.trans' t12)
  have hsn := shape_nl w12 _ (Hz.out w12)
  clear ho12 Htp10 Hlr10 t11 t12
  have Htp12 := Lib.hid htp12
  clear htp12
  have Hlr12 := Lib.hid hlr12
  clear hlr12
  have Hsn := Lib.hid hsn
  clear hsn
  go_wp2_with (fail)
  refine Hsn.out.mono ?_
  rintro e w13 ⟨⟨sa0, sc0, rfl⟩, t13⟩
  have x13 := x12.trans' t13
  have hb1 := build_ok w13 t (.slice none 0 0) [] [] 0 (Htp12.out.ext t13) (RP.nil _ (fun _ => False)) (by simp) (fun p hp => by simp at hp) List.Pairwise.nil (by decide)
  unfold TBuild at hb1
  have hlr13 := Hlr12.out.ext t13
  have ht13 := (Htp12.out.ext t13).self
  have ht13' := (Htp12.out.ext t13).lt
  clear Htp12 Hlr12 x12 t13
  have Hb1 := Lib.hid hb1
  clear hb1
  have Hlr13 := Lib.hid hlr13
  clear hlr13
  have Ht13 := Lib.hid ht13
  clear ht13
  have Ht13' := Lib.hid ht13'
  clear ht13'
  go_wp2_with (fail)
  (with_reducible refine Hb1.out.mono ?_)
  rintro e w14 ⟨rfl, F3, htp14, t14, hF3⟩
  have x14 : Ext w w14 := x13.ext_new t14 (fun i hi => by subst hi; exact HF4.out _ Ht13.out)
  have hlr14 := (Hlr13.out.keep t14 (fun b hb h => hb h)).mono (G := fun _ => True) (fun _ _ => trivial)
  have hb2 := build_long _ t _ (lk, 0) [] (rp_one w14 _ lk 0 33 hlr14) (by simp) (by have := Hll.out; simp only; omega)
  have y14 : Ext w14 (w14.alloc (.cells #[.slice la lk.length lc, .int .u64 0] 33)) := (Touch.refl _ _).alloc _
  clear Hlr13 Hb1
  have Hb2 := Lib.hid hb2
  clear hb2
  have Htp14 := Lib.hid htp14
  clear htp14
  go_wp2_with (fail)
  refine Hb2.out.mono ?_
  rintro e w15 ⟨rfl, t15⟩
  have x15 := x14.trans' (y14.trans' t15)
  have htp15 := Htp14.out.ext (y14.trans' t15)
  have hl1 := TreeA.len_any w15 _ [] htp15.tq
  have hv1 := live_tp w15 t [] 0 htp15
  rw [show szK [] = 0 from rfl] at hv1
  have Hl1 := Lib.hid hl1
  clear hl1
  have Hv1 := Lib.hid hv1
  clear hv1
  have Htp15 := Lib.hid htp15
  clear htp15
  go_wp2_with (fail)
  refine Hl1.out.mono ?_
  rintro e w' ⟨rfl, rfl⟩
  go_wp2_with (fail)
  refine Hv1.out.mono ?_
  rintro e w' ⟨rfl, rfl⟩
  go_wp2_with (fail)
  refine (TreeW.awake_any _ (Htr.out.ext x15)).mono ?_
  rintro e w16 ⟨rfl, t16⟩
  go_wp2_with (fail)
  go_ret
  exact ⟨rfl, x15.trans' t16⟩

set_option maxRecDepth 100000 in
set_option maxHeartbeats 400000 in
theorem walk_great (v0 : Value) (n : Int) (k : List Int) (F : Nat → Prop) (w : World) (htr : KidA.Tr w) (h1 : RB w F v0 k) (hk : 40 < k.length) :
    Calls Tryd.prog 11 #[v0, .int .i64 n] w fun e w' => e = .returned (.bool true) ∧ Ext w w' := by
  obtain ⟨a1, c1, rfl, l3, l4, _⟩ := h1.shape
  unfold maxLen at l4
  have d1 : decide ((40 : Int) < (k.length : Int)) = true := by simp; omega
  have H1 := Lib.hid h1
  clear h1
  go_enter Tryd.func11, Tryd.ntmps11
  go_wp2_with (fail)
  refine (TreeW.awake_any _ htr).mono ?_
  rintro e w' ⟨rfl, ht⟩
  go_wp2_with (fail)
  go_ret
  exact ⟨rfl, ht⟩

set_option maxRecDepth 100000 in
theorem lifted (os : Os) (started : os.Started) (H : Type) (enc : TypeId × Value → H) :
    ReturnsInHanded {} Tryd.checked os 11 .any (fun w args => (Rows.radixNoneSpec.pre enc Tryd.prog Tryd.f11 [] false w args ∧ laidMetH Tryd.prog KidL.laidK w) ∧ sizedMet enc Tryd.prog Tryd.f11 (OpenSpec.ofChange Rows.radixNoneSpec) false w args) (Rows.radixNoneSpec.post enc Tryd.prog Tryd.f11 false true false false) := by
  refine returnsInHanded_of_change_and (C := Tryd.checked) (X := fun w _ => laidMetH Tryd.prog KidL.laidK w) (fun _ _ _ hh h => h.of_heap hh) Tryd.own started (by kernel_rfl) Tryd.func11
    (ChangeSpec.witness_shaped (enc := enc) (C := Tryd.checked) (os := os) (X := fun w _ => laidMetH Tryd.prog KidL.laidK w) false (World.doorLaid Tryd.prog 400 os) #[.slice none 0 0, .int .i64 0] 8 rfl (World.shaped_of_RefB (by kernel_rfl) (by kernel_rfl)) (by kernel_rfl) (by kernel_rfl) (by kernel_rfl) (KidL.door_met os _)) ?_
  intro W base args ds gs before hval0 hW _ _ hL _
  have hval : ∀ (j : Nat) t v, Tryd.f11.params[j]? = some t → args[j]? = some v → Value.okWide Tryd.prog W .any base t v := hval0
  have hW' := hW
  obtain ⟨p, q, hA0, hV, rfl, hfz, hnd⟩ := hW
  have hA : DataW.TrodAll enc Tryd.prog W 0 (fun _ => true) true Tryd.f11.params.toList args.toList ds p := hA0
  rw [Tryd.params11] at hA hval
  obtain ⟨v0, v1, d0, d1, p0, p1, rfl, rfl, rfl, h0, h1⟩ := trodAll_two hA
  obtain ⟨rfl, rfl⟩ := trodVars_none hV
  have htr := (KidL.of_laid hL).tr
  have htl := (KidL.of_laid hL).tl
  refine Calls.mono (R := fun e w' => e = .returned (.bool true) ∧ Touch (fun _ => False) W w') ?_ fun e W' ⟨he, hw⟩ => (by subst he; exact ⟨_, rfl, law_post Tryd.laidOut (by kernel_rfl) rfl Tryd.underlying4 rfl rfl ⟨rfl, rfl, rfl⟩ hW' (hw.below fun _ h _ => h)⟩)
  obtain ⟨k, hk, hkb⟩ := rb_of_arg (hval 0 23 v0 rfl rfl) h0
  obtain ⟨x, rfl, rfl, rfl, hwx⟩ := open_int Tryd.underlying3 (hval 1 3 v1 rfl rfl) h1
  by_cases hl : k.length ≤ 40
  · exact walk_small v0 x k W htr hk hkb hl (v64_wf hwx)
  · exact walk_great v0 x k _ W htr hk (by omega)
theorem radixNone_row : Rows.RadixNoneSaid :=
  OpenClaim.holds_of_wide 11 Tryd.f11 rfl rfl rfl rfl rfl rfl rfl ⟨rfl, rfl, rfl, rfl, rfl⟩ rfl rfl rfl rfl rfl (by kernel_rfl) Tryd.func11 (by kernel_rfl)
    (of_decide_eq_true (by kernel_rfl)) (by unfold Func.isWrapper; first | (rw [if_pos (by decide +kernel)]; kernel_rfl) | (rw [if_neg (by decide +kernel)]; exact ⟨rfl, rfl⟩))
    (fun os started H enc _ => lifted os started H enc)
theorem radixNone_holds : Rows.RadixNoneCardSaid :=
  Claim7.holds_tied_plain_at .later [] [.data, .data] true (true, "ecce178eaad04459afb8ccc92e4d2a22b1e163e47b87319aec7ce6fc9ad3f62b") false
    radixNone_row (fun _ h => by cases h) (by kernel_rfl) (fun _ h => by cases h) radixNone_row_tie rfl ⟨rfl, rfl⟩ (by kernel_rfl) rfl
    (fun f fn hf hfn => by
      obtain rfl : f = 11 := Option.some.inj ((show Tryd.prog.funcNamed "bramble/bramblelaw14.RadixNone" = some 11 by kernel_rfl).symm.trans hf) |>.symm
      obtain rfl : fn = Tryd.f11 := (Option.some.inj (Tryd.func11.symm.trans hfn)).symm
      exact ⟨by kernel_rfl, fun j t ht => by
        rw [Tryd.params11] at ht
        have hm : t ∈ [23, 3] := by simpa using Array.mem_of_getElem? ht
        have hall : ([23, 3].all fun u => !Tryd.prog.wantsStandIn u) = true := by kernel_rfl
        exact (show Tryd.prog.wantsStandIn t = false by simpa using List.all_eq_true.1 hall t hm)⟩)
    (by kernel_rfl)
end LawRadixNone
end Go.Proofs.YtclnnkacfanaiaaDoor
