/- Texts of one chain, in one file. -/
import Derived.Test.YtclnnkacfanaiaaGreatDoorArg
import Derived.Test.YtclnnkacfanaiaaGreatDoorModH
import Derived.Test.YtclnnkacfanaiaaGreatDoorAskA
import Derived.Test.YtclnnkacfanaiaaGreatDoorRefY
import Derived.Test.YtclnnkacfanaiaaGreatDoorTreeA
/- A row of acts (a key, a value, whether it is dropped) that can be read; from a law's argument. -/
namespace Go.Proofs.YtclnnkacfanaiaaGreatDoor
open Go.ChangeShapes Go.WideShapes Go.ChangeAt Go.RowKit Go.Deep
set_option linter.unusedVariables false
set_option linter.unusedSimpArgs false

abbrev Acts := List (List Int × Int × Bool)
def RAct (w : World) (F : Nat → Prop) (v : Value) (xs : Acts) : Prop :=
  ∃ a cap, v = .slice a xs.length cap ∧ xs.length ≤ cap ∧ cap ≤ maxLen ∧
    ∀ i x, xs[i]? = some x → ∃ b off kv, a = some ⟨b, off, none⟩ ∧ F b ∧ w.cell? ⟨b, off + i * 3, none⟩ = some kv ∧ w.cell? ⟨b, off + i * 3 + 1, none⟩ = some (.int .u64 x.2.1) ∧ w.cell? ⟨b, off + i * 3 + 2, none⟩ = some (.bool x.2.2) ∧ RB w F kv x.1
namespace RAct
variable {w w' : World} {F S : Nat → Prop} {v : Value} {xs : Acts}
theorem ext (h : RAct w F v xs) (t : Ext w w') : RAct w' F v xs := by
  obtain ⟨a, cap, h1, h2, h3, h4⟩ := h
  refine ⟨a, cap, h1, h2, h3, fun i x hi => ?_⟩
  obtain ⟨b, off, kv, e1, e2, e3, e4, e5, e6⟩ := h4 i x hi
  exact ⟨b, off, kv, e1, e2, keepc t id e3, keepc t id e4, keepc t id e5, e6.ext t⟩
theorem shape (h : RAct w F v xs) : ∃ a cap, v = .slice a xs.length cap ∧ xs.length ≤ cap ∧ cap ≤ maxLen := by
  obtain ⟨a, cap, h1, h2, h3, h4⟩ := h
  exact ⟨a, cap, h1, h2, h3⟩
theorem addr {a : Option Addr} {n cap : Nat} (h : RAct w F (.slice a n cap) xs) (hn : 0 < xs.length) : ∃ b off, a = some ⟨b, off, none⟩ := by
  obtain ⟨a', cap', h1, _, _, h5⟩ := h
  simp only [Value.slice.injEq] at h1
  obtain ⟨rfl, _, _⟩ := h1
  obtain ⟨b, off, _, h6, _⟩ := h5 0 _ (List.getElem?_eq_getElem hn)
  exact ⟨b, off, h6⟩
theorem get {b off n cap : Nat} (h : RAct w F (.slice (some ⟨b, off, none⟩) n cap) xs) (i : Nat) (x) (hi : xs[i]? = some x) :
    ∃ kv, w.cell? ⟨b, off + i * 3, none⟩ = some kv ∧ w.cell? ⟨b, off + i * 3 + 1, none⟩ = some (.int .u64 x.2.1) ∧ w.cell? ⟨b, off + i * 3 + 2, none⟩ = some (.bool x.2.2) ∧ RB w F kv x.1 := by
  obtain ⟨a', cap', h1, _, _, h5⟩ := h
  simp only [Value.slice.injEq] at h1
  obtain ⟨rfl, _, _⟩ := h1
  obtain ⟨b', off', kv, e1, _, e2, e3, e4, e5⟩ := h5 i x hi
  simp only [Option.some.injEq, Addr.mk.injEq, and_true] at e1
  obtain ⟨rfl, rfl⟩ := e1
  exact ⟨kv, e2, e3, e4, e5⟩
end RAct

section
variable {H : Type} {enc : TypeId × Value → H} {W : World}
set_option maxRecDepth 100000 in
theorem racts_of_arg {v : Value} {d : DataW H} {ps : List MemPlace} {r : Reach} {base : Nat} (hv : Value.okWide Tryz.prog W r base 43 v) (h : DataW.Trod enc Tryz.prog W 0 (fun _ => true) true 43 v d ps) :
    ∃ xs : Acts, RAct W (fun b => b < W.heap.size) v xs ∧ ∀ x ∈ xs, KB x.1 ∧ 0 ≤ x.2.1 ∧ x.2.1 < 18446744073709551616 := by
  obtain ⟨a, len, cap, rfl, hm, hc⟩ := open_structs Tryz.underlying43 Tryz.underlying45 (by kernel_rfl) (by kernel_rfl) (by decide) hv h
  have hlc : len ≤ cap ∧ cap ≤ maxLen := by
    obtain ⟨fuel, hf⟩ := h
    rcases Deep.open_slice Tryz.underlying43 hf with ⟨h0, _⟩ | ⟨a', len', cap', m, n, D, Pl, hcs, hb, hl, hm, hmm, hx, hi⟩
    · simp [Value.cells] at h0
      obtain ⟨rfl, rfl, rfl⟩ := h0
      exact ⟨by simp, by simp⟩
    · simp only [Value.cells, List.cons.injEq, Value.slice.injEq, and_true] at hcs
      obtain ⟨rfl, rfl, rfl⟩ := hcs
      exact ⟨hl, hm⟩
  have hc' : ∀ k, k < len → ∃ e : List Int × Int × Bool, (∃ b off kv, a = some ⟨b, off, none⟩ ∧ b < W.heap.size ∧ W.cell? ⟨b, off + k * 3, none⟩ = some kv ∧ W.cell? ⟨b, off + k * 3 + 1, none⟩ = some (.int .u64 e.2.1) ∧ W.cell? ⟨b, off + k * 3 + 2, none⟩ = some (.bool e.2.2) ∧ RB W (fun b => b < W.heap.size) kv e.1) ∧ KB e.1 ∧ 0 ≤ e.2.1 ∧ e.2.1 < 18446744073709551616 := by
    intro k hk
    obtain ⟨b, off, rfl, hb, hf⟩ := hc k hk
    obtain ⟨c0, y0, m0, e0, h0⟩ := hf 0 _ rfl
    obtain ⟨c1, y1, m1, e1, h1⟩ := hf 1 _ rfl
    obtain ⟨c2, y2, m2, e2, h2⟩ := hf 2 _ rfl
    obtain ⟨x1, g1, _, u1⟩ := DataW.trod_int Tryz.underlying39 h1
    simp only [List.cons.injEq, and_true] at g1
    subst g1
    obtain ⟨x2, g2, _⟩ := DataW.trod_bool Tryz.underlying4 h2
    simp only [List.cons.injEq, and_true] at g2
    subst g2
    obtain ⟨kk, hk1, hk2⟩ := rb_of_trod h0
    exact ⟨(kk, x1, x2), ⟨b, off, c0, rfl, hb, e0, e1, e2, hk1⟩, hk2, u64_lit u1⟩
  obtain ⟨f, hf⟩ := Deep.choose_lt hc'
  refine ⟨(List.range len).map f, ⟨a, cap, by simp, by simpa using hlc.1, hlc.2, fun i e hi => ?_⟩, fun p hp => ?_⟩
  · rw [List.getElem?_map] at hi
    have hil : i < len := by
      rcases Nat.lt_or_ge i len with h | h
      · exact h
      · rw [List.getElem?_eq_none (by simpa using h)] at hi; cases hi
    rw [List.getElem?_range hil] at hi
    simp at hi
    subst hi
    exact (hf i hil).1
  · simp only [List.mem_map, List.mem_range] at hp
    obtain ⟨i, hi, rfl⟩ := hp
    exact (hf i hi).2
end
end Go.Proofs.YtclnnkacfanaiaaGreatDoor

/- All questions of a key: a map's answers are the document's. -/
namespace Go.Proofs.YtclnnkacfanaiaaGreatDoor
open Go.RowKit
set_option linter.unusedVariables false
set_option linter.unusedSimpArgs false
namespace AskB
open AskA TreeA
open ModB (fromK fromN)
variable {F G R : Nat → Prop}

/-- block b holds a pair whose key is its own: its bytes lie from lo on, ahead of b -/
def PB (W : World) (b lo : Nat) (kv : Value) (o : Option (List Int × Int)) : Prop :=
  W.cell? ⟨b, 0, none⟩ = some kv ∧ W.cell? ⟨b, 1, none⟩ = some (.int .u64 (valO o)) ∧ OB W (fun x => lo ≤ x ∧ x < b) kv (keyO o) ∧ lo ≤ b
theorem PB.keep {S : Nat → Prop} {W W' : World} {b lo : Nat} {kv : Value} {o : Option (List Int × Int)} (h : PB W b lo kv o) (t : Touch S W W') (hd : ∀ x, lo ≤ x → x ≤ b → ¬ S x) : PB W' b lo kv o :=
  ⟨keepc t (hd b h.2.2.2 (Nat.le_refl _)) h.1, keepc t (hd b h.2.2.2 (Nat.le_refl _)) h.2.1, h.2.2.1.keep t (fun x hx => hd x hx.1 (Nat.le_of_lt hx.2)), h.2.2.2⟩
theorem PB.ext {W W' : World} {b lo : Nat} {kv : Value} {o : Option (List Int × Int)} (h : PB W b lo kv o) (t : Ext W W') : PB W' b lo kv o := h.keep t (fun _ _ _ h => h)
theorem PB.ob {W : World} {b lo : Nat} {kv : Value} {o : Option (List Int × Int)} (h : PB W b lo kv o) : OB W (fun x => lo ≤ x ∧ x < b) kv (keyO o) := h.2.2.1
theorem pb_of {w : World} {o : Option (List Int × Int)} {e : Ending} {w' : World} (h : PairRet w o e w') :
    ∃ va vc, e = .returned (.tuple #[.agg #[.slice va (keyO o).length vc, .int .u64 (valO o)], .bool o.isSome]) ∧ Ext w w' ∧ ∀ T, PB (w'.alloc (.cells #[.slice va (keyO o).length vc, .int .u64 (valO o)] T)) w'.heap.size w.heap.size (.slice va (keyO o).length vc) o := by
  obtain ⟨⟨kv, rfl, hob⟩, ht⟩ := h
  obtain ⟨va, vc, rfl⟩ := hob.shape
  refine ⟨va, vc, rfl, ht, fun T => ⟨by simp, by simp, ?_, ht.size⟩⟩
  exact ⟨(hob.ext ((Touch.refl _ _).alloc _)).1, fun b hb => ⟨hob.2 b hb, hob.lt b hb⟩⟩
theorem sel_mem {ps : Prs} {i : Int} {p : List Int × Int} (h : selK ps i = some p) : p ∈ ps := by
  unfold selK at h
  split at h
  · exact List.mem_of_getElem? h
  · cases h
theorem key_len {ps : Prs} (hl : ∀ p ∈ ps, p.1.length ≤ 65535) (o : Option (List Int × Int)) (h : ∀ p, o = some p → p ∈ ps) : (keyO o).length ≤ 1000000 := by
  cases o with
  | none => simp [keyO]
  | some p => have := hl p (h p rfl); simp [keyO]; omega
theorem longest_mem {ps : Prs} {k : List Int} {p : List Int × Int} (h : longestK ps k = some p) : p ∈ ps := by
  have := List.mem_of_find?_eq_some h
  simpa using this

set_option maxRecDepth 100000 in
set_option maxHeartbeats 8000000 in
theorem asked_any (w : World) (m : Value) (r : Nat) (kw : Value) (ps : Prs) (k : List Int) (n : Int) (hq : Tq w m F ps) (hr : Rf w r R ps) (hk : RB w G kw k) (kb : KB k) (hm : ps.length ≤ 1000000) (hkl : k.length ≤ 1000000) (hl : ∀ p ∈ ps, p.1.length ≤ 65535) (hV : V64 n) :
    Calls Tryz.prog 14 #[m, .pointer (some ⟨r, 0, none⟩), kw, .int .i64 n] w fun e w' => e = .returned (.bool true) ∧ Ext w w' := by
  obtain ⟨ka, kc, rfl, k1, k2, k3⟩ := hk.shape
  have hlend := SameP.lend_any w G _ k hk hkl
  obtain ⟨v0, c0, hrow⟩ := hr.row
  obtain ⟨ra, rc, rfl, _⟩ := hrow.shape
  clear hrow
  have hfr0 := fun W (t : Ext w W) => hr.ext t
  have hkw := fun W (t : Ext w W) => hk.ext t
  have hqq := fun W (t : Ext w W) => hq.ext t
  have o1l := key_len hl (floorK ps k) (fun p h => sel_mem h)
  have o2l := key_len hl (ceilK ps k) (fun p h => sel_mem h)
  have o3l := key_len hl (longestK ps k) (fun p h => longest_mem h)
  have o4l := key_len hl (selK ps n) (fun p h => sel_mem h)
  have hfl := fun W (t : Ext w W) (g : Nat) (hlv : Lent W g k) => floor_any W m _ ps k (hqq W t) hlv.rb kb hm
  have hrfl := fun W (t : Ext w W) => RefB.floor_any W r _ ps k (hfr0 W t) (hkw W t) kb hm
  have hce := fun W (t : Ext w W) (g : Nat) (hlv : Lent W g k) => ceil_any W m _ ps k (hqq W t) hlv.rb kb hm
  have hrce := fun W (t : Ext w W) => RefB.ceil_any W r _ ps k (hfr0 W t) (hkw W t) kb hm
  have hlo := fun W (t : Ext w W) (g : Nat) (hlv : Lent W g k) => longest_any W m _ ps k (hqq W t) hlv.rb kb hm
  have hrlo := fun W (t : Ext w W) => RefD.longest_any W r _ ps k (hfr0 W t) (hkw W t) kb hm hkl
  have hse := fun W (t : Ext w W) => select_any W m ps n (hqq W t) hm
  have hrse := fun W (t : Ext w W) => RefB.select_any W r ps n (hfr0 W t) hm
  have hge := fun W (t : Ext w W) (g : Nat) (hlv : Lent W g k) => get_any W m _ ps k (hqq W t) hlv.rb kb hm
  have hrge := fun W (t : Ext w W) => RefA.get_any W r _ ps k (hfr0 W t) (hkw W t) kb hm
  have hrk := fun W (t : Ext w W) (g : Nat) (hlv : Lent W g k) => rank_any W m _ ps k (hqq W t) hlv.rb kb hm
  have hrrk := fun W (t : Ext w W) => RefA.rank_any W r _ ps k (hfr0 W t) (hkw W t) kb hm
  have hfm := fun W (t : Ext w W) (g : Nat) (hlv : Lent W g k) => from_any W m _ ps k n (hqq W t) hlv.rb kb hm hV
  have hrfm := fun W (t : Ext w W) => RefE.from_any W r _ ps k n (hfr0 W t) (hkw W t) kb hm hV
  have hfrl : (fromK ps k n).length ≤ 1000000 := by have h1 := List.length_take_le' n.toNat (ps.drop (rk ps k)); simp at h1; unfold fromK fromN; simp; omega
  have hfrk : ∀ p ∈ fromK ps k n, p.1.length ≤ 1000000 := fun p hp => by
    have := hl p (List.mem_of_mem_drop (List.mem_of_mem_take hp)); omega
  generalize hQ : fromK ps k n = Q at *
  generalize floorK ps k = o1 at *
  generalize ceilK ps k = o2 at *
  generalize longestK ps k = o3 at *
  generalize selK ps n = o4 at *
  generalize valK ps k = vk at *
  generalize hasK ps k = bk at *
  generalize rk ps k = nk at *
  have hb0 : (bk == bk) = true := by simp
  have hkr := fun W (t : Ext w W) => hk.ext t
  have rlt := World.block_lt_of_cell? _ _ c0
  clear hqq hfr0 hkw hq hr hk hQ hl
  have Hlend := Lib.hid hlend
  clear hlend
  have O1l := Lib.hid o1l
  clear o1l
  have O2l := Lib.hid o2l
  clear o2l
  have O3l := Lib.hid o3l
  clear o3l
  have O4l := Lib.hid o4l
  clear o4l
  have Hfl := Lib.hid hfl
  clear hfl
  have Hrfl := Lib.hid hrfl
  clear hrfl
  have Hce := Lib.hid hce
  clear hce
  have Hrce := Lib.hid hrce
  clear hrce
  have Hlo := Lib.hid hlo
  clear hlo
  have Hrlo := Lib.hid hrlo
  clear hrlo
  have Hse := Lib.hid hse
  clear hse
  have Hrse := Lib.hid hrse
  clear hrse
  have Hge := Lib.hid hge
  clear hge
  have Hrge := Lib.hid hrge
  clear hrge
  have Hrk := Lib.hid hrk
  clear hrk
  have Hrrk := Lib.hid hrrk
  clear hrrk
  have Hfm := Lib.hid hfm
  clear hfm
  have Hrfm := Lib.hid hrfm
  clear hrfm
  have Hfrl := Lib.hid hfrl
  clear hfrl
  have Hfrk := Lib.hid hfrk
  clear hfrk
  have Kb := Lib.hid kb
  clear kb
  have Hkr := Lib.hid hkr
  clear hkr
  have Rlt := Lib.hid rlt
  clear rlt
  go_enter Tryz.func14, Tryz.ntmps14
  go_wp2_with (fail)
  (with_reducible refine Hlend.out.mono ?_)
  rintro e w1 ⟨⟨g, rfl, hle, hg⟩, x⟩
  have d0 := keepc x id c0
  clear c0
  clear Hlend
  have hs0 : g < w1.heap.size := hle.ob.lt g rfl
  have sz1 := x.size
  have Sz1 := Lib.hid sz1
  clear sz1
  have Hle := Lib.hid hle
  clear hle
  go_wp2_with (fail)
  (with_reducible refine (Hfl.out _ x _ (Hle.out)).mono ?_)
  intro e u1 hp
  obtain ⟨va1, vc1, rfl, ht, hp⟩ := pb_of hp
  have p1 := hp 41
  clear hp
  have y := ht.alloc (.cells #[.slice va1 (keyO o1).length vc1, .int .u64 (valO o1)] 41)
  have hs1 : u1.heap.size < (u1.alloc (.cells #[.slice va1 (keyO o1).length vc1, .int .u64 (valO o1)] 41)).heap.size := by simp
  clear ht
  have hle := Hle.out.ext y
  clear Hle
  have x := x.trans' y
  have d0 := keepc y id d0
  clear y
  have Hle := Lib.hid hle
  clear hle
  have P1 := Lib.hid p1
  clear p1
  go_wp2_with (fail)
  generalize u1.alloc (.cells #[.slice va1 (keyO o1).length vc1, .int .u64 (valO o1)] 41) = W1 at *
  generalize u1.heap.size = b1 at *
  go_wp2_with (fail)
  (with_reducible refine (Hrfl.out _ x).mono ?_)
  intro e u2 hp
  obtain ⟨va2, vc2, rfl, ht, hp⟩ := pb_of hp
  have p2 := hp 41
  clear hp
  have y := ht.alloc (.cells #[.slice va2 (keyO o1).length vc2, .int .u64 (valO o1)] 41)
  have hs2 : u2.heap.size < (u2.alloc (.cells #[.slice va2 (keyO o1).length vc2, .int .u64 (valO o1)] 41)).heap.size := by simp
  clear ht
  have p1 := P1.out.ext y
  clear P1
  have hle := Hle.out.ext y
  clear Hle
  have x := x.trans' y
  have d0 := keepc y id d0
  clear y
  have Hle := Lib.hid hle
  clear hle
  have P2 := Lib.hid p2
  clear p2
  have P1 := Lib.hid p1
  clear p1
  go_wp2_with (fail)
  generalize u2.alloc (.cells #[.slice va2 (keyO o1).length vc2, .int .u64 (valO o1)] 41) = W2 at *
  generalize u2.heap.size = b2 at *
  go_wp2_with (fail)
  (with_reducible refine (Hce.out _ x _ (Hle.out)).mono ?_)
  intro e u3 hp
  obtain ⟨va3, vc3, rfl, ht, hp⟩ := pb_of hp
  have p3 := hp 41
  clear hp
  have y := ht.alloc (.cells #[.slice va3 (keyO o2).length vc3, .int .u64 (valO o2)] 41)
  have hs3 : u3.heap.size < (u3.alloc (.cells #[.slice va3 (keyO o2).length vc3, .int .u64 (valO o2)] 41)).heap.size := by simp
  clear ht
  have p1 := P1.out.ext y
  clear P1
  have p2 := P2.out.ext y
  clear P2
  have hle := Hle.out.ext y
  clear Hle
  have x := x.trans' y
  have d0 := keepc y id d0
  clear y
  have Hle := Lib.hid hle
  clear hle
  have P3 := Lib.hid p3
  clear p3
  have P1 := Lib.hid p1
  clear p1
  have P2 := Lib.hid p2
  clear p2
  go_wp2_with (fail)
  generalize u3.alloc (.cells #[.slice va3 (keyO o2).length vc3, .int .u64 (valO o2)] 41) = W3 at *
  generalize u3.heap.size = b3 at *
  go_wp2_with (fail)
  (with_reducible refine (Hrce.out _ x).mono ?_)
  intro e u4 hp
  obtain ⟨va4, vc4, rfl, ht, hp⟩ := pb_of hp
  have p4 := hp 41
  clear hp
  have y := ht.alloc (.cells #[.slice va4 (keyO o2).length vc4, .int .u64 (valO o2)] 41)
  have hs4 : u4.heap.size < (u4.alloc (.cells #[.slice va4 (keyO o2).length vc4, .int .u64 (valO o2)] 41)).heap.size := by simp
  clear ht
  have p1 := P1.out.ext y
  clear P1
  have p2 := P2.out.ext y
  clear P2
  have p3 := P3.out.ext y
  clear P3
  have hle := Hle.out.ext y
  clear Hle
  have x := x.trans' y
  have d0 := keepc y id d0
  clear y
  have Hle := Lib.hid hle
  clear hle
  have P4 := Lib.hid p4
  clear p4
  have P1 := Lib.hid p1
  clear p1
  have P2 := Lib.hid p2
  clear p2
  have P3 := Lib.hid p3
  clear p3
  go_wp2_with (fail)
  generalize u4.alloc (.cells #[.slice va4 (keyO o2).length vc4, .int .u64 (valO o2)] 41) = W4 at *
  generalize u4.heap.size = b4 at *
  go_wp2_with (fail)
  (with_reducible refine (Hlo.out _ x _ (Hle.out)).mono ?_)
  intro e u5 hp
  obtain ⟨va5, vc5, rfl, ht, hp⟩ := pb_of hp
  have p5 := hp 41
  clear hp
  have y := ht.alloc (.cells #[.slice va5 (keyO o3).length vc5, .int .u64 (valO o3)] 41)
  have hs5 : u5.heap.size < (u5.alloc (.cells #[.slice va5 (keyO o3).length vc5, .int .u64 (valO o3)] 41)).heap.size := by simp
  clear ht
  have p1 := P1.out.ext y
  clear P1
  have p2 := P2.out.ext y
  clear P2
  have p3 := P3.out.ext y
  clear P3
  have p4 := P4.out.ext y
  clear P4
  have hle := Hle.out.ext y
  clear Hle
  have x := x.trans' y
  have d0 := keepc y id d0
  clear y
  have Hle := Lib.hid hle
  clear hle
  have P5 := Lib.hid p5
  clear p5
  have P1 := Lib.hid p1
  clear p1
  have P2 := Lib.hid p2
  clear p2
  have P3 := Lib.hid p3
  clear p3
  have P4 := Lib.hid p4
  clear p4
  go_wp2_with (fail)
  generalize u5.alloc (.cells #[.slice va5 (keyO o3).length vc5, .int .u64 (valO o3)] 41) = W5 at *
  generalize u5.heap.size = b5 at *
  go_wp2_with (fail)
  (with_reducible refine (Hrlo.out _ x).mono ?_)
  intro e u6 hp
  obtain ⟨va6, vc6, rfl, ht, hp⟩ := pb_of hp
  have p6 := hp 41
  clear hp
  have y := ht.alloc (.cells #[.slice va6 (keyO o3).length vc6, .int .u64 (valO o3)] 41)
  have hs6 : u6.heap.size < (u6.alloc (.cells #[.slice va6 (keyO o3).length vc6, .int .u64 (valO o3)] 41)).heap.size := by simp
  clear ht
  have p1 := P1.out.ext y
  clear P1
  have p2 := P2.out.ext y
  clear P2
  have p3 := P3.out.ext y
  clear P3
  have p4 := P4.out.ext y
  clear P4
  have p5 := P5.out.ext y
  clear P5
  have hle := Hle.out.ext y
  clear Hle
  have x := x.trans' y
  have d0 := keepc y id d0
  clear y
  have Hle := Lib.hid hle
  clear hle
  have P6 := Lib.hid p6
  clear p6
  have P1 := Lib.hid p1
  clear p1
  have P2 := Lib.hid p2
  clear p2
  have P3 := Lib.hid p3
  clear p3
  have P4 := Lib.hid p4
  clear p4
  have P5 := Lib.hid p5
  clear p5
  go_wp2_with (fail)
  generalize u6.alloc (.cells #[.slice va6 (keyO o3).length vc6, .int .u64 (valO o3)] 41) = W6 at *
  generalize u6.heap.size = b6 at *
  go_wp2_with (fail)
  (with_reducible refine (Hse.out _ x).mono ?_)
  intro e u7 hp
  obtain ⟨va7, vc7, rfl, ht, hp⟩ := pb_of hp
  have p7 := hp 41
  clear hp
  have y := ht.alloc (.cells #[.slice va7 (keyO o4).length vc7, .int .u64 (valO o4)] 41)
  have hs7 : u7.heap.size < (u7.alloc (.cells #[.slice va7 (keyO o4).length vc7, .int .u64 (valO o4)] 41)).heap.size := by simp
  clear ht
  have p1 := P1.out.ext y
  clear P1
  have p2 := P2.out.ext y
  clear P2
  have p3 := P3.out.ext y
  clear P3
  have p4 := P4.out.ext y
  clear P4
  have p5 := P5.out.ext y
  clear P5
  have p6 := P6.out.ext y
  clear P6
  have hle := Hle.out.ext y
  clear Hle
  have x := x.trans' y
  have d0 := keepc y id d0
  clear y
  have Hle := Lib.hid hle
  clear hle
  have P7 := Lib.hid p7
  clear p7
  have P1 := Lib.hid p1
  clear p1
  have P2 := Lib.hid p2
  clear p2
  have P3 := Lib.hid p3
  clear p3
  have P4 := Lib.hid p4
  clear p4
  have P5 := Lib.hid p5
  clear p5
  have P6 := Lib.hid p6
  clear p6
  go_wp2_with (fail)
  generalize u7.alloc (.cells #[.slice va7 (keyO o4).length vc7, .int .u64 (valO o4)] 41) = W7 at *
  generalize u7.heap.size = b7 at *
  go_wp2_with (fail)
  (with_reducible refine (Hrse.out _ x).mono ?_)
  intro e u8 hp
  obtain ⟨va8, vc8, rfl, ht, hp⟩ := pb_of hp
  have p8 := hp 41
  clear hp
  have y := ht.alloc (.cells #[.slice va8 (keyO o4).length vc8, .int .u64 (valO o4)] 41)
  have hs8 : u8.heap.size < (u8.alloc (.cells #[.slice va8 (keyO o4).length vc8, .int .u64 (valO o4)] 41)).heap.size := by simp
  clear ht
  have p1 := P1.out.ext y
  clear P1
  have p2 := P2.out.ext y
  clear P2
  have p3 := P3.out.ext y
  clear P3
  have p4 := P4.out.ext y
  clear P4
  have p5 := P5.out.ext y
  clear P5
  have p6 := P6.out.ext y
  clear P6
  have p7 := P7.out.ext y
  clear P7
  have hle := Hle.out.ext y
  clear Hle
  have x := x.trans' y
  have d0 := keepc y id d0
  clear y
  have Hle := Lib.hid hle
  clear hle
  have P8 := Lib.hid p8
  clear p8
  have P1 := Lib.hid p1
  clear p1
  have P2 := Lib.hid p2
  clear p2
  have P3 := Lib.hid p3
  clear p3
  have P4 := Lib.hid p4
  clear p4
  have P5 := Lib.hid p5
  clear p5
  have P6 := Lib.hid p6
  clear p6
  have P7 := Lib.hid p7
  clear p7
  go_wp2_with (fail)
  generalize u8.alloc (.cells #[.slice va8 (keyO o4).length vc8, .int .u64 (valO o4)] 41) = W8 at *
  generalize u8.heap.size = b8 at *
  go_wp2_with (fail)
  (with_reducible refine (Hge.out _ x _ Hle.out).mono ?_)
  rintro e w9 ⟨rfl, y⟩
  have p1 := P1.out.ext y
  clear P1
  have p2 := P2.out.ext y
  clear P2
  have p3 := P3.out.ext y
  clear P3
  have p4 := P4.out.ext y
  clear P4
  have p5 := P5.out.ext y
  clear P5
  have p6 := P6.out.ext y
  clear P6
  have p7 := P7.out.ext y
  clear P7
  have p8 := P8.out.ext y
  clear P8
  have hle := Hle.out.ext y
  clear Hle
  have hs9 := y.size
  have x := x.trans' y
  have d0 := keepc y id d0
  clear y
  have Hle := Lib.hid hle
  clear hle
  have P1 := Lib.hid p1
  clear p1
  have P2 := Lib.hid p2
  clear p2
  have P3 := Lib.hid p3
  clear p3
  have P4 := Lib.hid p4
  clear p4
  have P5 := Lib.hid p5
  clear p5
  have P6 := Lib.hid p6
  clear p6
  have P7 := Lib.hid p7
  clear p7
  have P8 := Lib.hid p8
  clear p8
  go_wp2_with (fail)
  (with_reducible refine (Hrge.out _ x).mono ?_)
  rintro e w10 ⟨rfl, y⟩
  have p1 := P1.out.ext y
  clear P1
  have p2 := P2.out.ext y
  clear P2
  have p3 := P3.out.ext y
  clear P3
  have p4 := P4.out.ext y
  clear P4
  have p5 := P5.out.ext y
  clear P5
  have p6 := P6.out.ext y
  clear P6
  have p7 := P7.out.ext y
  clear P7
  have p8 := P8.out.ext y
  clear P8
  have hle := Hle.out.ext y
  clear Hle
  have hs10 := y.size
  have x := x.trans' y
  have d0 := keepc y id d0
  clear y
  have Hle := Lib.hid hle
  clear hle
  have P1 := Lib.hid p1
  clear p1
  have P2 := Lib.hid p2
  clear p2
  have P3 := Lib.hid p3
  clear p3
  have P4 := Lib.hid p4
  clear p4
  have P5 := Lib.hid p5
  clear p5
  have P6 := Lib.hid p6
  clear p6
  have P7 := Lib.hid p7
  clear p7
  have P8 := Lib.hid p8
  clear p8
  go_wp2_with (fail)
  (with_reducible refine (Hfm.out _ x _ Hle.out).mono ?_)
  rintro e w11 ⟨⟨vf, rfl, hf⟩, y⟩
  have p1 := P1.out.ext y
  clear P1
  have p2 := P2.out.ext y
  clear P2
  have p3 := P3.out.ext y
  clear P3
  have p4 := P4.out.ext y
  clear P4
  have p5 := P5.out.ext y
  clear P5
  have p6 := P6.out.ext y
  clear P6
  have p7 := P7.out.ext y
  clear P7
  have p8 := P8.out.ext y
  clear P8
  have hle := Hle.out.ext y
  clear Hle
  have x := x.trans' y
  have d0 := keepc y id d0
  clear y
  have Hle := Lib.hid hle
  clear hle
  have P1 := Lib.hid p1
  clear p1
  have P2 := Lib.hid p2
  clear p2
  have P3 := Lib.hid p3
  clear p3
  have P4 := Lib.hid p4
  clear p4
  have P5 := Lib.hid p5
  clear p5
  have P6 := Lib.hid p6
  clear p6
  have P7 := Lib.hid p7
  clear p7
  have P8 := Lib.hid p8
  clear p8
  obtain ⟨fa, fc, rfl, _⟩ := hf.rp.shape
  have Hf := Lib.hid hf
  clear hf
  obtain ⟨q1, q1', _, l1⟩ := P1.out
  obtain ⟨q2, q2', _, l2⟩ := P2.out
  obtain ⟨q3, q3', _, l3⟩ := P3.out
  obtain ⟨q4, q4', _, l4⟩ := P4.out
  obtain ⟨q5, q5', _, l5⟩ := P5.out
  obtain ⟨q6, q6', _, l6⟩ := P6.out
  obtain ⟨q7, q7', _, l7⟩ := P7.out
  obtain ⟨q8, q8', _, l8⟩ := P8.out
  go_wp2_with (fail)
  have y := (Touch.refl (fun _ => False) w11)
  have p1 := P1.out.ext y
  clear P1
  have p2 := P2.out.ext y
  clear P2
  have p3 := P3.out.ext y
  clear P3
  have p4 := P4.out.ext y
  clear P4
  have p5 := P5.out.ext y
  clear P5
  have p6 := P6.out.ext y
  clear P6
  have p7 := P7.out.ext y
  clear P7
  have p8 := P8.out.ext y
  clear P8
  have hf := Hf.out.ext y
  clear Hf
  have hle := Hle.out.ext y
  clear Hle
  have x := x.trans' y
  have Hle := Lib.hid hle
  clear hle
  have Hf := Lib.hid hf
  clear hf
  have P1 := Lib.hid p1
  clear p1
  have P2 := Lib.hid p2
  clear p2
  have P3 := Lib.hid p3
  clear p3
  have P4 := Lib.hid p4
  clear p4
  have P5 := Lib.hid p5
  clear p5
  have P6 := Lib.hid p6
  clear p6
  have P7 := Lib.hid p7
  clear p7
  have P8 := Lib.hid p8
  clear p8
  clear y
  go_wp2_with (fail)
  (with_reducible refine (pair_any _ _ _ o1 P1.out.ob P2.out.ob.rb O1l.out).mono ?_)
  rintro e z1 ⟨rfl, hz⟩
  have hin : ∀ b, (Value.slice va1 (keyO o1).length vc1).ownBlock = some b → w1.heap.size ≤ b ∧ b < b1 := P1.out.ob.2
  clear P1 P2
  have q1 := keepc hz (fun h => by have := hin b1 h; omega) q1
  have q1' := keepc hz (fun h => by have := hin b1 h; omega) q1'
  have q2 := keepc hz (fun h => by have := hin b2 h; omega) q2
  have q2' := keepc hz (fun h => by have := hin b2 h; omega) q2'
  have q3 := keepc hz (fun h => by have := hin b3 h; omega) q3
  have q3' := keepc hz (fun h => by have := hin b3 h; omega) q3'
  have q4 := keepc hz (fun h => by have := hin b4 h; omega) q4
  have q4' := keepc hz (fun h => by have := hin b4 h; omega) q4'
  have q5 := keepc hz (fun h => by have := hin b5 h; omega) q5
  have q5' := keepc hz (fun h => by have := hin b5 h; omega) q5'
  have q6 := keepc hz (fun h => by have := hin b6 h; omega) q6
  have q6' := keepc hz (fun h => by have := hin b6 h; omega) q6'
  have q7 := keepc hz (fun h => by have := hin b7 h; omega) q7
  have q7' := keepc hz (fun h => by have := hin b7 h; omega) q7'
  have q8 := keepc hz (fun h => by have := hin b8 h; omega) q8
  have q8' := keepc hz (fun h => by have := hin b8 h; omega) q8'
  have hrlt := Rlt.out
  have d0 := keepc hz (fun h => by have := hin r h; have := Sz1.out; omega) d0
  clear hrlt
  have p3 := P3.out.keep hz (fun y h1 h2 h => by have := hin y h; omega)
  clear P3
  have p4 := P4.out.keep hz (fun y h1 h2 h => by have := hin y h; omega)
  clear P4
  have p5 := P5.out.keep hz (fun y h1 h2 h => by have := hin y h; omega)
  clear P5
  have p6 := P6.out.keep hz (fun y h1 h2 h => by have := hin y h; omega)
  clear P6
  have p7 := P7.out.keep hz (fun y h1 h2 h => by have := hin y h; omega)
  clear P7
  have p8 := P8.out.keep hz (fun y h1 h2 h => by have := hin y h; omega)
  clear P8
  have hf := Hf.out.keep hz (fun b hb h => by have h1 : w10.heap.size ≤ b := hb; have := hin b h; omega)
  clear Hf
  have hle := Hle.out.keep hz (fun h => by have := hin g h; omega)
  clear Hle
  have x : Ext w z1 := x.ext_new hz (fun b h => by have := hin b h; have := Sz1.out; omega)
  clear hin hz
  have Hle := Lib.hid hle
  clear hle
  have Hf := Lib.hid hf
  clear hf
  have P3 := Lib.hid p3
  clear p3
  have P4 := Lib.hid p4
  clear p4
  have P5 := Lib.hid p5
  clear p5
  have P6 := Lib.hid p6
  clear p6
  have P7 := Lib.hid p7
  clear p7
  have P8 := Lib.hid p8
  clear p8
  go_wp2_with (fail)
  (with_reducible refine (pair_any _ _ _ o2 P3.out.ob P4.out.ob.rb O2l.out).mono ?_)
  rintro e z2 ⟨rfl, hz⟩
  have hin : ∀ b, (Value.slice va3 (keyO o2).length vc3).ownBlock = some b → W2.heap.size ≤ b ∧ b < b3 := P3.out.ob.2
  clear P3 P4
  have q1 := keepc hz (fun h => by have := hin b1 h; omega) q1
  have q1' := keepc hz (fun h => by have := hin b1 h; omega) q1'
  have q2 := keepc hz (fun h => by have := hin b2 h; omega) q2
  have q2' := keepc hz (fun h => by have := hin b2 h; omega) q2'
  have q3 := keepc hz (fun h => by have := hin b3 h; omega) q3
  have q3' := keepc hz (fun h => by have := hin b3 h; omega) q3'
  have q4 := keepc hz (fun h => by have := hin b4 h; omega) q4
  have q4' := keepc hz (fun h => by have := hin b4 h; omega) q4'
  have q5 := keepc hz (fun h => by have := hin b5 h; omega) q5
  have q5' := keepc hz (fun h => by have := hin b5 h; omega) q5'
  have q6 := keepc hz (fun h => by have := hin b6 h; omega) q6
  have q6' := keepc hz (fun h => by have := hin b6 h; omega) q6'
  have q7 := keepc hz (fun h => by have := hin b7 h; omega) q7
  have q7' := keepc hz (fun h => by have := hin b7 h; omega) q7'
  have q8 := keepc hz (fun h => by have := hin b8 h; omega) q8
  have q8' := keepc hz (fun h => by have := hin b8 h; omega) q8'
  have hrlt := Rlt.out
  have d0 := keepc hz (fun h => by have := hin r h; have := Sz1.out; omega) d0
  clear hrlt
  have p5 := P5.out.keep hz (fun y h1 h2 h => by have := hin y h; omega)
  clear P5
  have p6 := P6.out.keep hz (fun y h1 h2 h => by have := hin y h; omega)
  clear P6
  have p7 := P7.out.keep hz (fun y h1 h2 h => by have := hin y h; omega)
  clear P7
  have p8 := P8.out.keep hz (fun y h1 h2 h => by have := hin y h; omega)
  clear P8
  have hf := Hf.out.keep hz (fun b hb h => by have h1 : w10.heap.size ≤ b := hb; have := hin b h; omega)
  clear Hf
  have hle := Hle.out.keep hz (fun h => by have := hin g h; omega)
  clear Hle
  have x : Ext w z2 := x.ext_new hz (fun b h => by have := hin b h; have := Sz1.out; omega)
  clear hin hz
  have Hle := Lib.hid hle
  clear hle
  have Hf := Lib.hid hf
  clear hf
  have P5 := Lib.hid p5
  clear p5
  have P6 := Lib.hid p6
  clear p6
  have P7 := Lib.hid p7
  clear p7
  have P8 := Lib.hid p8
  clear p8
  go_wp2_with (fail)
  (with_reducible refine (pair_any _ _ _ o3 P5.out.ob P6.out.ob.rb O3l.out).mono ?_)
  rintro e z3 ⟨rfl, hz⟩
  have hin : ∀ b, (Value.slice va5 (keyO o3).length vc5).ownBlock = some b → W4.heap.size ≤ b ∧ b < b5 := P5.out.ob.2
  clear P5 P6
  have q1 := keepc hz (fun h => by have := hin b1 h; omega) q1
  have q1' := keepc hz (fun h => by have := hin b1 h; omega) q1'
  have q2 := keepc hz (fun h => by have := hin b2 h; omega) q2
  have q2' := keepc hz (fun h => by have := hin b2 h; omega) q2'
  have q3 := keepc hz (fun h => by have := hin b3 h; omega) q3
  have q3' := keepc hz (fun h => by have := hin b3 h; omega) q3'
  have q4 := keepc hz (fun h => by have := hin b4 h; omega) q4
  have q4' := keepc hz (fun h => by have := hin b4 h; omega) q4'
  have q5 := keepc hz (fun h => by have := hin b5 h; omega) q5
  have q5' := keepc hz (fun h => by have := hin b5 h; omega) q5'
  have q6 := keepc hz (fun h => by have := hin b6 h; omega) q6
  have q6' := keepc hz (fun h => by have := hin b6 h; omega) q6'
  have q7 := keepc hz (fun h => by have := hin b7 h; omega) q7
  have q7' := keepc hz (fun h => by have := hin b7 h; omega) q7'
  have q8 := keepc hz (fun h => by have := hin b8 h; omega) q8
  have q8' := keepc hz (fun h => by have := hin b8 h; omega) q8'
  have hrlt := Rlt.out
  have d0 := keepc hz (fun h => by have := hin r h; have := Sz1.out; omega) d0
  clear hrlt
  have p7 := P7.out.keep hz (fun y h1 h2 h => by have := hin y h; omega)
  clear P7
  have p8 := P8.out.keep hz (fun y h1 h2 h => by have := hin y h; omega)
  clear P8
  have hf := Hf.out.keep hz (fun b hb h => by have h1 : w10.heap.size ≤ b := hb; have := hin b h; omega)
  clear Hf
  have hle := Hle.out.keep hz (fun h => by have := hin g h; omega)
  clear Hle
  have x : Ext w z3 := x.ext_new hz (fun b h => by have := hin b h; have := Sz1.out; omega)
  clear hin hz
  have Hle := Lib.hid hle
  clear hle
  have Hf := Lib.hid hf
  clear hf
  have P7 := Lib.hid p7
  clear p7
  have P8 := Lib.hid p8
  clear p8
  go_wp2_with (fail)
  (with_reducible refine (pair_any _ _ _ o4 P7.out.ob P8.out.ob.rb O4l.out).mono ?_)
  rintro e z4 ⟨rfl, hz⟩
  have hin : ∀ b, (Value.slice va7 (keyO o4).length vc7).ownBlock = some b → W6.heap.size ≤ b ∧ b < b7 := P7.out.ob.2
  clear P7 P8
  have q1 := keepc hz (fun h => by have := hin b1 h; omega) q1
  have q1' := keepc hz (fun h => by have := hin b1 h; omega) q1'
  have q2 := keepc hz (fun h => by have := hin b2 h; omega) q2
  have q2' := keepc hz (fun h => by have := hin b2 h; omega) q2'
  have q3 := keepc hz (fun h => by have := hin b3 h; omega) q3
  have q3' := keepc hz (fun h => by have := hin b3 h; omega) q3'
  have q4 := keepc hz (fun h => by have := hin b4 h; omega) q4
  have q4' := keepc hz (fun h => by have := hin b4 h; omega) q4'
  have q5 := keepc hz (fun h => by have := hin b5 h; omega) q5
  have q5' := keepc hz (fun h => by have := hin b5 h; omega) q5'
  have q6 := keepc hz (fun h => by have := hin b6 h; omega) q6
  have q6' := keepc hz (fun h => by have := hin b6 h; omega) q6'
  have q7 := keepc hz (fun h => by have := hin b7 h; omega) q7
  have q7' := keepc hz (fun h => by have := hin b7 h; omega) q7'
  have q8 := keepc hz (fun h => by have := hin b8 h; omega) q8
  have q8' := keepc hz (fun h => by have := hin b8 h; omega) q8'
  have hrlt := Rlt.out
  have d0 := keepc hz (fun h => by have := hin r h; have := Sz1.out; omega) d0
  clear hrlt
  have hf := Hf.out.keep hz (fun b hb h => by have h1 : w10.heap.size ≤ b := hb; have := hin b h; omega)
  clear Hf
  have hle := Hle.out.keep hz (fun h => by have := hin g h; omega)
  clear Hle
  have x : Ext w z4 := x.ext_new hz (fun b h => by have := hin b h; have := Sz1.out; omega)
  clear hin hz
  have Hle := Lib.hid hle
  clear hle
  have Hf := Lib.hid hf
  clear hf
  go_wp2_with (fail)
  (with_reducible refine (Hrk.out _ x _ Hle.out).mono ?_)
  rintro e z5 ⟨rfl, y⟩
  have hf := Hf.out.ext y
  clear Hf
  have hle := Hle.out.ext y
  clear Hle
  have x := x.trans' y
  have d0 := keepc y id d0
  have q1 := keepc y id q1
  have q1' := keepc y id q1'
  have q2 := keepc y id q2
  have q2' := keepc y id q2'
  have q3 := keepc y id q3
  have q3' := keepc y id q3'
  have q4 := keepc y id q4
  have q4' := keepc y id q4'
  have q5 := keepc y id q5
  have q5' := keepc y id q5'
  have q6 := keepc y id q6
  have q6' := keepc y id q6'
  have q7 := keepc y id q7
  have q7' := keepc y id q7'
  have q8 := keepc y id q8
  have q8' := keepc y id q8'
  clear y
  have Hle := Lib.hid hle
  clear hle
  have Hf := Lib.hid hf
  clear hf
  go_wp2_with (fail)
  (with_reducible refine (Hrrk.out _ x).mono ?_)
  rintro e z6 ⟨rfl, y⟩
  have hf := Hf.out.ext y
  clear Hf
  have hle := Hle.out.ext y
  clear Hle
  have x := x.trans' y
  have d0 := keepc y id d0
  have q1 := keepc y id q1
  have q1' := keepc y id q1'
  have q2 := keepc y id q2
  have q2' := keepc y id q2'
  have q3 := keepc y id q3
  have q3' := keepc y id q3'
  have q4 := keepc y id q4
  have q4' := keepc y id q4'
  have q5 := keepc y id q5
  have q5' := keepc y id q5'
  have q6 := keepc y id q6
  have q6' := keepc y id q6'
  have q7 := keepc y id q7
  have q7' := keepc y id q7'
  have q8 := keepc y id q8
  have q8' := keepc y id q8'
  clear y
  have Hle := Lib.hid hle
  clear hle
  have Hf := Lib.hid hf
  clear hf
  go_wp2_with (fail)
  (with_reducible refine (Hrfm.out _ x).mono ?_)
  rintro e z7 ⟨⟨vg, rfl, hg⟩, y⟩
  obtain ⟨ga, gc, rfl, _⟩ := hg.rp.shape
  have Hg := Lib.hid hg
  clear hg
  have hf := Hf.out.ext y
  clear Hf
  have hle := Hle.out.ext y
  clear Hle
  have x := x.trans' y
  have d0 := keepc y id d0
  have q1 := keepc y id q1
  have q1' := keepc y id q1'
  have q2 := keepc y id q2
  have q2' := keepc y id q2'
  have q3 := keepc y id q3
  have q3' := keepc y id q3'
  have q4 := keepc y id q4
  have q4' := keepc y id q4'
  have q5 := keepc y id q5
  have q5' := keepc y id q5'
  have q6 := keepc y id q6
  have q6' := keepc y id q6'
  have q7 := keepc y id q7
  have q7' := keepc y id q7'
  have q8 := keepc y id q8
  have q8' := keepc y id q8'
  clear y
  have Hle := Lib.hid hle
  clear hle
  have Hf := Lib.hid hf
  clear hf
  go_wp2_with (fail)
  (with_reducible refine (SameP.same_pairs _ _ _ Q Hf.out.rp Hg.out.rp Hfrl.out Hfrk.out).mono ?_)
  rintro e z8 ⟨rfl, y⟩
  have hf := Hf.out.ext y
  clear Hf
  have hle := Hle.out.ext y
  clear Hle
  have x := x.trans' y
  have d0 := keepc y id d0
  have q1 := keepc y id q1
  have q1' := keepc y id q1'
  have q2 := keepc y id q2
  have q2' := keepc y id q2'
  have q3 := keepc y id q3
  have q3' := keepc y id q3'
  have q4 := keepc y id q4
  have q4' := keepc y id q4'
  have q5 := keepc y id q5
  have q5' := keepc y id q5'
  have q6 := keepc y id q6
  have q6' := keepc y id q6'
  have q7 := keepc y id q7
  have q7' := keepc y id q7'
  have q8 := keepc y id q8
  have q8' := keepc y id q8'
  clear y
  have Hle := Lib.hid hle
  clear hle
  have Hf := Lib.hid hf
  clear hf
  go_wp2_with (fail)
  (with_reducible refine (SameP.over_pairs _ _ Q Hf.out Hfrl.out Hfrk.out).mono ?_)
  rintro e z10 ⟨rfl, y⟩
  have hle := Hle.out.keep y (fun h => by have h1 : w10.heap.size ≤ g := h; omega)
  have x := x.ext_new y (fun b hb => by have h1 : w10.heap.size ≤ b := hb; have := Sz1.out; omega)
  clear Hle Hf
  have Hle := Lib.hid hle
  clear hle
  go_wp2_with (fail)
  (with_reducible refine (SameP.kept_any _ G (.slice ka k.length kc) g k Hle.out (Hkr.out _ x) (by omega)).mono ?_)
  rintro e z11 ⟨rfl, y⟩
  have x := x.trans' y
  go_wp2_with (fail)
  go_ret
  exact ⟨rfl, x⟩
end AskB
end Go.Proofs.YtclnnkacfanaiaaGreatDoor
