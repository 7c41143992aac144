/- Contracts of package model: Put, Drop, New, All, Copy. -/
import Derived.Test.YtclnnkacfanaiaaDoorModF
namespace Go.Proofs.YtclnnkacfanaiaaDoor
open Go.RowKit
set_option linter.unusedVariables false
set_option linter.unusedSimpArgs false

namespace ModF
open ModA ModB ModC
variable {F G : Nat → Prop}
theorem put_any (w : World) (g : Nat) (kw : Value) (ps : Prs) (k : List Int) (v : Int) (h : Mp w g F ps) (hk : RB w G kw k) (kb : KB k) (hl : k.length ≤ 65535) (hm : ps.length ≤ 1000000) :
    Calls Tryd.prog 49 #[.pointer (some ⟨g, 0, none⟩), kw, .int .u64 v] w (PutRet w g F ps k v) := by
  cases hh : hasK ps k with
  | true => exact put_has w g kw ps k v h hk kb hl hm hh
  | false => exact put_new w g kw ps k v h hk kb hl hm hh
theorem put_long (w : World) (g : Nat) (kw : Value) (k : List Int) (v : Int) (hk : RB w G kw k) (hl : 65535 < k.length) :
    Calls Tryd.prog 49 #[.pointer (some ⟨g, 0, none⟩), kw, .int .u64 v] w fun e w' => e = .returned (.tuple #[.int .u64 0, .bool false, .int .i64 3]) ∧ w = w' := by
  have hmay := may_any w G kw k hk
  rw [decide_eq_false (by omega)] at hmay
  have Hmay := Lib.hid hmay
  clear hmay
  go_enter Tryd.func49, Tryd.ntmps49
  go_wp2_with (fail)
  refine Hmay.out.mono ?_
  rintro e w1 ⟨rfl, rfl⟩
  go_wp2_with (fail)
  go_ret3
  exact ⟨rfl, rfl⟩
theorem put_nil (w : World) (kw : Value) (v : Int) :
    Calls Tryd.prog 49 #[.pointer none, kw, .int .u64 v] w fun e w' => e = .returned (.tuple #[.int .u64 0, .bool false, .int .i64 1]) ∧ w = w' := by
  go_enter Tryd.func49, Tryd.ntmps49
  go_wp2_with (fail)
  go_ret3
  exact ⟨rfl, rfl⟩

/-- what Drop comes to -/
def DropRet (w : World) (g : Nat) (F : Nat → Prop) (ps : Prs) (k : List Int) (e : Ending) (w' : World) : Prop :=
  e = .returned (.tuple #[.int .u64 (valK ps k), .bool (hasK ps k)]) ∧ ∃ F', Mp w' g F' (dropK ps k) ∧ Upd w w' F F'

theorem drop_not (w : World) (m kw : Value) (ps : Prs) (k : List Int) (h : Mq w m F ps) (hk : RB w G kw k) (kb : KB k) (hm : ps.length ≤ 1000000) (hh : hasK ps k = false) :
    Calls Tryd.prog 60 #[m, kw] w fun e w' => e = .returned (.tuple #[.int .u64 0, .bool false]) ∧ Ext w w' := by
  have hf := find_any (F := F) (G := G) w _ kw ps k h hk kb hm
  rw [hh] at hf
  have Hf := Lib.hid hf
  clear hf
  go_enter Tryd.func60, Tryd.ntmps60
  go_wp2_with (fail)
  refine Hf.out.mono ?_
  rintro e w1 ⟨rfl, ht1⟩
  go_wp2_with (fail)
  go_ret2
  exact ⟨rfl, ht1⟩

set_option maxRecDepth 100000 in
set_option maxHeartbeats 1600000 in
theorem drop_has (w : World) (g : Nat) (kw : Value) (ps : Prs) (k : List Int) (h : Mp w g F ps) (hk : RB w G kw k) (kb : KB k) (hm : ps.length ≤ 1000000) (hh : hasK ps k = true) :
    Calls Tryd.prog 60 #[.pointer (some ⟨g, 0, none⟩), kw] w (DropRet w g F ps k) := by
  obtain ⟨x, hx, hv⟩ := hasK_some hh
  have hlt := hasK_lt hh
  have hf := find_any (F := F) (G := G) w _ kw ps k (Mq.of h) hk kb hm
  rw [hh] at hf
  have hput : dropK ps k = ps.take (rk ps k) ++ ps.drop (rk ps k + 1) := by unfold dropK; simp [hh]
  have hput2 := dropK_rises h.rises k
  have hput3 : ∀ p ∈ dropK ps k, KB p.1 ∧ p.1.length ≤ 65535 := fun p hp => ⟨h.kb p (dropK_mem hp), h.long p (dropK_mem hp)⟩
  obtain ⟨rv, es, hes, c0, f0, hg, ho, hF, hks, hFlt, hr, hp⟩ := h
  obtain ⟨kv, hkv⟩ := es_get hes hx
  have hel : es.length = ps.length := by rw [← hes]; simp
  obtain ⟨a, c, rfl⟩ := own_len ho
  obtain ⟨b, rfl⟩ := own_addr ho (by omega)
  have hone := el_one hks
  generalize hrk : rk ps k = r at *
  have hrlt : r < es.length := by omega
  have c1 := (ho.cellAt (r * 2) (by omega)).trans (flat_get0 _ _ _ hkv)
  have c2 := (ho.cellAt (r * 2 + 1) (by omega)).trans (flat_get1 _ _ _ hkv)
  have hbg := (hF b rfl).2
  have hbF := (hF b rfl).1
  have hgl := World.block_lt_of_cell? _ _ c0
  have i1 : (r : Int) < (es.length : Int) := by omega
  have i0 : (0 : Int) ≤ (r : Int) := by omega
  have hr6 : r ≤ 1000000 := by omega
  have Hf := Lib.hid hf
  clear hf
  have Hput := Lib.hid hput
  clear hput
  have Hput2 := Lib.hid hput2
  clear hput2
  have Hput3 := Lib.hid hput3
  clear hput3
  have Hes := Lib.hid hes
  clear hes
  have Ho := Lib.hid ho
  clear ho
  have HF := Lib.hid hF
  clear hF
  have Hks := Lib.hid hks
  clear hks
  have HFlt := Lib.hid hFlt
  clear hFlt
  have Hr := Lib.hid hr
  clear hr
  have Hp := Lib.hid hp
  clear hp
  have Hx := Lib.hid hx
  clear hx
  have Hv := Lib.hid hv
  clear hv
  have Hkv := Lib.hid hkv
  clear hkv
  have Hel := Lib.hid hel
  clear hel
  have Hg := Lib.hid hg
  clear hg
  have Hrk := Lib.hid hrk
  clear hrk
  have Hh := Lib.hid hh
  clear hh
  have Hlt := Lib.hid hlt
  clear hlt
  have HbF := Lib.hid hbF
  clear hbF
  have Hone := Lib.hid hone
  clear hone
  unfold DropRet
  go_enter Tryd.func60, Tryd.ntmps60
  go_wp2_with (fail)
  refine Hf.out.mono ?_
  rintro e w1 ⟨rfl, ht1⟩
  have d0 := keepc ht1 id c0
  have d1 := keepc ht1 id c1
  have d2 := keepc ht1 id c2
  have e0 := keepf (p := ⟨g, 0, none⟩) ht1 hgl id f0
  clear c0 c1 c2 f0
  go_wp2_with (fail)
  (with_reducible refine (delete_any _ b c es r ?_ ?_ ?_ ?_).mono ?_)
  · exact own_keep Ho.out ht1 (fun _ _ h => h)
  · exact Hone.out
  · have := Hel.out; omega
  · exact hrlt
  rintro e w2 ⟨rfl, hown2, ht2⟩
  have d3 := keepc ht2 (fun h => hbg h.symm) d0
  have e3 := keepf (p := ⟨g, 0, none⟩) ht2 (World.block_lt_of_cell? _ _ d0) (fun h => hbg h.symm) e0
  clear d0 e0
  have tg : Touch (fun j => j = g) w2 (w2.setCell ⟨g, 0, none⟩ (.slice (some ⟨b, 0, none⟩) (es.length - 1) c)) := Touch.setCell (S := fun j => j = g) (Touch.refl _ _) (p := ⟨g, 0, none⟩) (Or.inl rfl) _
  have hlen : (es.take r ++ es.drop (r + 1)).length = es.length - 1 := by simp; omega
  have hmp : Mp (w2.setCell ⟨g, 0, none⟩ (.slice (some ⟨b, 0, none⟩) (es.length - 1) c)) g F (dropK ps k) := by
    refine mp_mk (es' := es.take r ++ es.drop (r + 1)) ?_ (World.cell?_setCell_same _ _ _ d3) (by rw [World.frozen?_setCell]; exact e3) Hg.out ?_ ?_ ?_ ?_ Hput2.out Hput3.out
    · rw [Hput.out, List.map_append, List.map_take, List.map_drop, Hes.out]
    · rw [hlen]; exact own_keep hown2 tg (fun j hj hj' => by cases hj; exact hbg hj')
    · intro j hj; cases hj; exact ⟨HbF.out, hbg⟩
    · intro e he
      have he' : e ∈ es := by
        rw [List.mem_append] at he
        rcases he with he | he
        · exact List.mem_of_mem_take he
        · exact List.mem_of_mem_drop he
      exact (((Hks.out e he').ext ht1).keep ht2 (fun j hj hj' => hj.2.2 (by rw [hj']; rfl))).keep tg (fun j hj hj' => hj.2.1 hj')
    · intro j hj
      simp only [World.setCell, Array.size_modify]
      have := HFlt.out j hj; have := ht1.size; have := ht2.size; omega
  have hupd : Touch F w (w2.setCell ⟨g, 0, none⟩ (.slice (some ⟨b, 0, none⟩) (es.length - 1) c)) :=
    (ht1.none_to.trans ht2 (fun j hj _ => by subst hj; exact HbF.out)).trans tg (fun j hj _ => by subst hj; exact Hg.out)
  have Hmp := Lib.hid hmp
  clear hmp
  have Hupd := Lib.hid hupd
  clear hupd
  have Hown2 := Lib.hid hown2
  clear hown2
  go_wp2_with (fail)
  go_ret2
  rw [Hh.out, Hv.out]
  exact ⟨rfl, F, Hmp.out, Hupd.out, fun b hb => Or.inl hb⟩

theorem drop_any (w : World) (g : Nat) (kw : Value) (ps : Prs) (k : List Int) (h : Mp w g F ps) (hk : RB w G kw k) (kb : KB k) (hm : ps.length ≤ 1000000) :
    Calls Tryd.prog 60 #[.pointer (some ⟨g, 0, none⟩), kw] w (DropRet w g F ps k) := by
  cases hh : hasK ps k with
  | true => exact drop_has w g kw ps k h hk kb hm hh
  | false =>
    refine (drop_not w _ kw ps k (Mq.of h) hk kb hm hh).mono ?_
    rintro e w' ⟨rfl, ht⟩
    refine ⟨by rw [hh, valK_none hh], F, ?_, ht.none_to, fun b hb => Or.inl hb⟩
    rw [dropK_not hh]
    exact h.ext ht

/-- all pairs -/
theorem fromK_all {ps : Prs} : fromK ps [] ps.length = ps := by
  unfold fromK fromN
  have h0 : rk ps [] = 0 := rk_eq (Nat.zero_le _) (fun j p hj => by omega) (fun p hp => ltK_false.2 (by cases p.1 <;> simp [cmpK]))
  rw [h0]
  simp
/-- an empty map that was just made -/
theorem mp_new (w : World) : Mp (w.alloc (.cells #[.slice none 0 0] 92)) w.heap.size (fun b => b = w.heap.size) [] :=
  ⟨.slice none 0 0, [], rfl, by simp, by simp, rfl, World.ownsRow_nil _ _ _ _, (fun b hb => by cases hb), (fun e he => by simp at he), (fun b hb => by subst hb; simp), List.Pairwise.nil, fun p hp => by simp at hp⟩
/-- a map of rows that were just made -/
theorem mp_of_op {w : World} {N : Nat} {v : Value} {ps : Prs} (h : OP w (Ge N) v ps) (hr : Rises ps) (hp : ∀ p ∈ ps, KB p.1 ∧ p.1.length ≤ 65535) :
    Mp (w.alloc (.cells #[v] 92)) w.heap.size (fun b => N ≤ b ∧ b < w.heap.size + 1) ps ∨ N > w.heap.size := by
  by_cases hN : N ≤ w.heap.size
  · obtain ⟨es, hes, ho, hF, hks, hd⟩ := h
    have t : Ext w (w.alloc (.cells #[v] 92)) := (Touch.refl _ _).alloc _
    have hlt := fun b hb => (ho.lt b hb).2
    refine Or.inl ⟨v, es, hes, by simp, by simp, ⟨hN, by omega⟩, own_keep ho t (fun _ _ h => h), fun b hb => ⟨⟨hF b hb, by have := hlt b hb; omega⟩, by have := hlt b hb; omega⟩, fun e he => ?_, fun b hb => by simpa using hb.2, hr, hp⟩
    refine (((hks e he).ext t).rb.mono fun b hb => hb) |> fun h1 => ?_
    have hob := (hks e he)
    have : OB (w.alloc (.cells #[v] 92)) (fun b => (N ≤ b ∧ b < w.heap.size + 1) ∧ b ≠ w.heap.size ∧ v.ownBlock ≠ some b) e.1 e.2.1 :=
      ⟨(hob.ext t).1, fun b hb => by have h2 := hob.lt b hb; have h3 := hob.2 b hb; exact ⟨⟨h3.1, by omega⟩, by omega, h3.2⟩⟩
    exact this.rb
  · exact Or.inr (by omega)

end ModF
end Go.Proofs.YtclnnkacfanaiaaDoor
