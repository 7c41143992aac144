/- Contracts: keys compared, copied, begun with. -/
import Derived.Test.YtclnnkacfanaiaaDoorKeys
import Derived.Lib.SliceRun
import Derived.Laws.Externs
import Derived.WalkSpells
import Derived.WalkLawsBesides
namespace Go.Proofs.YtclnnkacfanaiaaDoor
open Go.RowKit
set_option linter.unusedVariables false
set_option linter.unusedSimpArgs false

theorem conv_any (w : World) (F : Nat → Prop) (a : Option Addr) (n cap : Nat) (k : List Int) (h : RB w F (.slice a n cap) k) :
    (convert 23 9 (.slice a n cap)).run Tryd.prog w = .ok (.string (strOfNums k)) w := by
  obtain ⟨a', cap', h1, _, _, h4, h5⟩ := h
  simp only [Value.slice.injEq] at h1
  obtain ⟨rfl, rfl, rfl⟩ := h1
  cases a with
  | none =>
    obtain rfl := h4 rfl
    have hk : k = [] := by
      match k, h5 with
      | [], _ => rfl
      | x :: k, h5 => obtain ⟨b, off, h, _⟩ := h5 0 (by simp); cases h
    subst hk
    exact run_convert_bytes_nil w _ _ Tryd.underlying23 Tryd.underlying5 _ _ _ Tryd.underlying9
  | some ad =>
    match k, h5 with
    | [], h5 =>
      rw [run_convert_bytes_string w _ _ _ _ _ _ Tryd.underlying23 Tryd.underlying5 Tryd.underlying9]
      show (Conv.bytesToString (.slice (some ad) 0 cap)).run Tryd.prog w = _
      rw [run_bytesToString w ad 0 cap [] (by have := run_loadCells_list (P := Tryd.prog) w ad [] (by intro j v hj; simp at hj); simpa using this)]
      rfl
    | x :: k, h5 =>
      obtain ⟨b, off, h, _⟩ := h5 0 (by simp)
      obtain rfl := Option.some.inj h
      refine run_convert_bytes_arg w _ _ Tryd.underlying23 Tryd.underlying5 b off _ cap (x :: k) rfl ?_ _ Tryd.underlying9
      intro i hi
      obtain ⟨b', off', e1, _, e2⟩ := h5 i hi
      cases e1
      rw [e2, List.getD_eq_getElem?_getD, List.getElem?_eq_getElem hi]
      rfl

theorem toList_strOfNums (k : List Int) : (strOfNums k).toList = u8s k := by rw [ByteArray.toList_eq, strOfNums_data]; rfl
theorem less_str {a b : List Int} (ha : KB a) (hb : KB b) : Op.bytesLess (strOfNums a).toList (strOfNums b).toList = ltK a b := by rw [toList_strOfNums, toList_strOfNums, bytesLess_u8s ha hb]
theorem same_str {a b : List Int} (ha : KB a) (hb : KB b) : ((strOfNums a).toList == (strOfNums b).toList) = (a == b) := by
  rw [toList_strOfNums, toList_strOfNums, Bool.eq_iff_iff]; simp [u8s_inj ha hb]

theorem loadBytes_list {w : World} : ∀ (k : List Int) (b off : Nat) (acc : ByteArray), (∀ i, (h : i < k.length) → w.cell? ⟨b, off + i, none⟩ = some (.int .u8 k[i])) → KB k →
    (Extern.Bytes.loadBytes ⟨b, off, none⟩ k.length acc).run Tryd.prog w = .ok ⟨acc.data ++ (u8s k).toArray⟩ w
  | [], b, off, acc, _, _ => by simp [Extern.Bytes.loadBytes, u8s]
  | x :: k, b, off, acc, h, hk => by
    have h0 := h 0 (by simp)
    have ih := loadBytes_list k b (off + 1) (acc.push (UInt8.ofNat x.toNat)) (fun i hi => by
      have := h (i + 1) (by simpa using hi)
      rw [show off + 1 + i = off + (i + 1) by omega, this]; rfl) hk.tail
    have hl : (load ⟨b, off, none⟩).run Tryd.prog w = .ok (.int .u8 x) w := by
      simp only [Nat.add_zero] at h0
      simp [h0]
    simp only [List.length_cons, Extern.Bytes.loadBytes, Sem.run_bind, hl, Result.andThen_ok, add_at]
    show (Extern.Bytes.loadBytes ⟨b, off + 1, none⟩ k.length (acc.push (UInt8.ofNat x.toNat))).run Tryd.prog w = _
    rw [ih]
    simp [u8s, ByteArray.push]

theorem bytesOf_any (w : World) (F : Nat → Prop) (v : Value) (k : List Int) (h : RB w F v k) (hk : KB k) : (Extern.Bytes.bytesOf v).run Tryd.prog w = .ok ⟨(u8s k).toArray⟩ w := by
  obtain ⟨a, cap, rfl, _, _, h4, h5⟩ := h
  match k, h5 with
  | [], h5 =>
    cases a with
    | none => simp [Extern.Bytes.bytesOf, u8s]; rfl
    | some ad => simp [Extern.Bytes.bytesOf, Extern.Bytes.loadBytes, u8s]; rfl
  | x :: k, h5 =>
    obtain ⟨b, off, h, _⟩ := h5 0 (by simp)
    obtain rfl := h
    have := loadBytes_list (w := w) (x :: k) b off .empty (fun i hi => by obtain ⟨b', off', e1, _, e2⟩ := h5 i hi; cases e1; exact e2) hk
    show (Extern.Bytes.loadBytes ⟨b, off, none⟩ (x :: k).length .empty).run Tryd.prog w = _
    rw [this]
    simp [ByteArray.empty, ByteArray.emptyWithCapacity]
    rfl

theorem compare_run0 (w : World) (F G : Nat → Prop) (va vb : Value) (a b : List Int) (ha : RB w F va a) (hb : RB w G vb b) (ka : KB a) (kb : KB b) :
    (Extern.BytealgCompare.compare #[va, vb]).run Tryd.prog w = .ok (.int .i64 (cmpK a b)) w := by
  change Sem.run Tryd.prog (do pure (goInt (Extern.BytealgCompare.cmp (← Extern.Bytes.bytesOf va) (← Extern.Bytes.bytesOf vb)))) w = _
  simp only [Sem.run_bind, bytesOf_any w F va a ha ka, bytesOf_any w G vb b hb kb, Result.andThen_ok, Sem.run_pure]
  rw [Lib.cmp_eq]
  show Result.ok (Value.int .i64 (Lib.compareBytes (u8s a) (u8s b))) w = _
  rw [compareBytes_u8s ka kb]

theorem compare_run (w : World) (F G : Nat → Prop) (va vb : Value) (a b : List Int) (ha : RB w F va a) (hb : RB w G vb b) (ka : KB a) (kb : KB b) :
    (callFunc 111 #[va, vb]).run Tryd.prog w = .ok (.value (.int .i64 (cmpK a b))) w := by
  rw [run_callFunc_extern Tryd.func111 (by kernel_rfl) (by kernel_rfl) (by kernel_rfl) (e := Extern.BytealgCompare.compare) (by kernel_rfl)]
  rw [compare_run0 w F G va vb a b ha hb ka kb]
  rfl

theorem bytesCompare_any (w : World) (F G : Nat → Prop) (va vb : Value) (a b : List Int) (ha : RB w F va a) (hb : RB w G vb b) (ka : KB a) (kb : KB b) :
    Calls Tryd.prog 94 #[va, vb] w fun e w' => e = .returned (.int .i64 (cmpK a b)) ∧ w = w' := by
  have hc := compare_run w F G va vb a b ha hb ka kb
  go_enter Tryd.func94, Tryd.ntmps94
  go_wp2_with (simp only [hc])
  go_ret
  exact ⟨rfl, rfl⟩

theorem keyCompare_any (w : World) (F G : Nat → Prop) (va vb : Value) (a b : List Int) (ha : RB w F va a) (hb : RB w G vb b) (ka : KB a) (kb : KB b) :
    Calls Tryd.prog 73 #[va, vb] w fun e w' => e = .returned (.int .i64 (cmpK a b)) ∧ w = w' := by
  go_enter Tryd.func73, Tryd.ntmps73
  go_wp2_with (fail)
  refine (bytesCompare_any w F G va vb a b ha hb ka kb).mono ?_
  rintro e w' ⟨rfl, rfl⟩
  go_wp2_with (fail)
  go_ret
  exact ⟨rfl, rfl⟩

theorem bytesEqual_any (w : World) (F G : Nat → Prop) (va vb : Value) (a b : List Int) (ha : RB w F va a) (hb : RB w G vb b) (ka : KB a) (kb : KB b) :
    Calls Tryd.prog 110 #[va, vb] w fun e w' => e = .returned (.bool (a == b)) ∧ w = w' := by
  obtain ⟨a0, c0, rfl, _⟩ := ha.shape
  obtain ⟨b0, d0, rfl, _⟩ := hb.shape
  have h1 := conv_any w F _ _ _ _ ha
  have h2 := conv_any w G _ _ _ _ hb
  go_enter Tryd.func110, Tryd.ntmps110
  go_wp2
  go_ret
  rw [← same_str ka kb]
  exact ⟨rfl, rfl⟩

/-- p is a beginning of k -/
def begK (k p : List Int) : Bool := k.take p.length == p
theorem begK_iff {k p : List Int} : begK k p = true ↔ k.take p.length = p := by simp [begK]

theorem hasPrefix_any (w : World) (F G : Nat → Prop) (va vb : Value) (a b : List Int) (ha : RB w F va a) (hb : RB w G vb b) (ka : KB a) (kb : KB b) :
    Calls Tryd.prog 93 #[va, vb] w fun e w' => e = .returned (.bool (begK a b)) ∧ w = w' := by
  obtain ⟨a0, c0, rfl, l1, m1, _⟩ := ha.shape
  obtain ⟨b0, d0, rfl, l2, m2, _⟩ := hb.shape
  unfold maxLen at m1 m2
  by_cases hl : b.length ≤ a.length
  · have h1 : decide ((b.length : Int) ≤ (a.length : Int)) = true := by simpa using hl
    go_enter Tryd.func93, Tryd.ntmps93
    go_wp2_with (fail)
    refine (bytesEqual_any w F G _ _ _ b (ha.take b.length hl) hb (ka.take _) kb).mono ?_
    rintro e w' ⟨rfl, rfl⟩
    go_wp2_with (fail)
    go_ret
    exact ⟨rfl, rfl⟩
  · have h1 : decide ((b.length : Int) ≤ (a.length : Int)) = false := by simpa using (by omega : a.length < b.length)
    have hfin : begK a b = false := by
      unfold begK
      rw [beq_eq_false_iff_ne]
      intro h
      have := congrArg List.length h
      simp at this
      omega
    have Hfin := Lib.hid hfin
    clear hfin
    go_enter Tryd.func93, Tryd.ntmps93
    go_wp2_with (fail)
    go_ret
    rw [Hfin.out]
    exact ⟨rfl, rfl⟩

theorem begins_any (w : World) (F G : Nat → Prop) (va vb : Value) (a b : List Int) (ha : RB w F va a) (hb : RB w G vb b) (ka : KB a) (kb : KB b) :
    Calls Tryd.prog 70 #[va, vb] w fun e w' => e = .returned (.bool (begK a b)) ∧ w = w' := by
  go_enter Tryd.func70, Tryd.ntmps70
  go_wp2_with (fail)
  refine (hasPrefix_any w F G va vb a b ha hb ka kb).mono ?_
  rintro e w' ⟨rfl, rfl⟩
  go_wp2_with (fail)
  go_ret
  exact ⟨rfl, rfl⟩

theorem may_any (w : World) (F : Nat → Prop) (v : Value) (k : List Int) (h : RB w F v k) :
    Calls Tryd.prog 45 #[v] w fun e w' => e = .returned (.bool (decide (k.length ≤ 65535))) ∧ w = w' := by
  obtain ⟨a, c, rfl, l1, m1, _⟩ := h.shape
  unfold maxLen at m1
  go_enter Tryd.func45, Tryd.ntmps45
  go_wp2
  go_ret
  exact ⟨by simp; omega, rfl⟩

theorem rmay_any (w : World) (F : Nat → Prop) (v : Value) (k : List Int) (h : RB w F v k) :
    Calls Tryd.prog 62 #[v] w fun e w' => e = .returned (.bool (decide (k.length ≤ 65535))) ∧ w = w' := by
  obtain ⟨a, c, rfl, l1, m1, _⟩ := h.shape
  unfold maxLen at m1
  go_enter Tryd.func62, Tryd.ntmps62
  go_wp2
  go_ret
  exact ⟨by simp; omega, rfl⟩

theorem own_zero (w : World) (e : TypeId) (size : Nat) (z : Array Value) (hs : z.size = 0) : (w.alloc (.cells z e)).ownsRow 0 e size (.slice (some ⟨w.heap.size, 0, none⟩) 0 0) 0 [] :=
  World.ownsRow_made w z 0 (Nat.zero_le _) (Nat.zero_le _) (by simpa using hs)

theorem info_u8 : (Tryd.prog.info? 5).map (fun i => (i.zero, i.size, i.bytes)) = some (some (.int .u8 0), 1, 1) := by kernel_rfl
theorem info_pair : (Tryd.prog.info? 33).map (fun i => (i.zero, i.size, i.bytes)) = some (some (.agg #[.slice none 0 0, .int .u64 0]), 2, 32) := by kernel_rfl

theorem clone_any (w : World) (F : Nat → Prop) (v : Value) (k : List Int) (h : RB w F v k) (hl : k.length ≤ 1000000) :
    Calls Tryd.prog 78 #[v] w fun e w' => (∃ v', e = .returned v' ∧ OB w' (Ge w.heap.size) v' k) ∧ Ext w w' := by
  obtain ⟨a, c, rfl, l1, m1, hn⟩ := h.shape
  have hnil := fun W => Lib.run_eql_slice_nil (P := Tryd.prog) W 23 5 a k.length c 0 0 Tryd.underlying23
  cases a with
  | none =>
    obtain rfl := hn rfl
    have hk : k = [] := List.eq_nil_of_length_eq_zero (by omega)
    subst hk
    simp only [Option.isNone_none, List.length_nil] at hnil
    show Calls _ _ #[.slice none 0 0] w _
    go_enter Tryd.func78, Tryd.ntmps78
    go_wp2
    go_ret
    exact ⟨⟨_, rfl, OB.nil _ _⟩, Touch.refl _ _⟩
  | some ad =>
    simp only [Option.isNone_some] at hnil
    unfold maxLen at m1
    go_enter Tryd.func78, Tryd.ntmps78
    go_wp2_with (at_builtin; refine wpList_push_any _ rfl _ _ 23 rfl 5 (.int .u8 0) 1 1 Tryd.underlying23 info_u8 rfl (by decide) (.slice (some ⟨w.heap.size, 0, none⟩) 0 0) 0 [] rfl (own_zero w _ 1 _ rfl) (some ad) k.length c rfl (fun h => by cases h) (ivs .u8 k) l1 (by simp [ivs]) (h.src.alloc _) (ivs_one _ _) (by simp [maxLen]; omega) (by omega) ?_; intro v' w' hown ht hb)
    go_ret
    rw [Nat.zero_add, List.nil_append] at hown
    refine ⟨⟨v', rfl, ⟨hown, fun b hb' => ?_⟩⟩, ?_⟩
    · rw [hb'] at hb
      simp [Value.ownBlock] at hb
      unfold Ge; omega
    · exact ((Touch.refl _ _).alloc _).ext_new ht fun i hi => by simp [Value.ownBlock] at hi; omega
end Go.Proofs.YtclnnkacfanaiaaDoor
