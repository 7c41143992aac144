/- The statement RadixUndoes: what is put, and dropped again, leaves the same pairs, and no more cells than there were keys for; what had a value has it again. Conditions: none beyond the statement's own guards. -/
import Derived.Test.YtclnnkacfanaiaaDoorTreeST
import Derived.Test.YtclnnkacfanaiaaDoorArg
import Derived.Test.YtclnnkacfanaiaaDoorRows
import Derived.Test.YtclnnkacfanaiaaDoorKidL
import Derived.Test.YtclnnkacfanaiaaDoorCards
import Derived.Test.YtclnnkacfanaiaaDoorTie
namespace Go.Proofs.YtclnnkacfanaiaaDoor
open Go.ChangeShapes Go.WideShapes Go.ChangeAt Go.RowKit Go.Deep
set_option linter.unusedVariables false
set_option linter.unusedSimpArgs false
namespace LawRadixUndoes
open TreeB TreeP TreeD TreeS TreeT ModF RefF ModP
open ModS (great_not)

/-! ### plain laws -/
def puts (M os : Prs) : Prs := os.foldl (fun m p => putK m p.1 p.2) M
def olds : Prs → Prs → List Int
  | _, [] => []
  | M, p :: os => valK M p.1 :: olds (putK M p.1 p.2) os
def hads : Prs → Prs → List Bool
  | _, [] => []
  | M, p :: os => hasK M p.1 :: hads (putK M p.1 p.2) os
theorem puts_snoc (M os : Prs) (p : List Int × Int) : puts M (os ++ [p]) = putK (puts M os) p.1 p.2 := by simp [puts, List.foldl_append]
theorem olds_snoc : ∀ (os M : Prs) (p : List Int × Int), olds M (os ++ [p]) = olds M os ++ [valK (puts M os) p.1]
  | [], M, p => rfl
  | q :: os, M, p => by
    show valK M q.1 :: olds (putK M q.1 q.2) (os ++ [p]) = _
    rw [olds_snoc os]; rfl
theorem hads_snoc : ∀ (os M : Prs) (p : List Int × Int), hads M (os ++ [p]) = hads M os ++ [hasK (puts M os) p.1]
  | [], M, p => rfl
  | q :: os, M, p => by
    show hasK M q.1 :: hads (putK M q.1 q.2) (os ++ [p]) = _
    rw [hads_snoc os]; rfl
theorem olds_length : ∀ (os M : Prs), (olds M os).length = os.length
  | [], M => rfl
  | p :: os, M => by show (olds _ os).length + 1 = _; rw [olds_length os]; rfl
theorem hads_length : ∀ (os M : Prs), (hads M os).length = os.length
  | [], M => rfl
  | p :: os, M => by show (hads _ os).length + 1 = _; rw [hads_length os]; rfl
theorem take_snoc' {os : Prs} {j : Nat} {p} (h : os[j]? = some p) : os.take (j + 1) = os.take j ++ [p] := by rw [List.take_add_one, h]; rfl
theorem olds_at : ∀ (os M : Prs) (j : Nat) (p), os[j]? = some p → (olds M os)[j]? = some (valK (puts M (os.take j)) p.1)
  | [], M, j, p, h => by simp at h
  | q :: os, M, 0, p, h => by simp at h; subst h; rfl
  | q :: os, M, j + 1, p, h => olds_at os (putK M q.1 q.2) j p (by simpa using h)
theorem hads_at : ∀ (os M : Prs) (j : Nat) (p), os[j]? = some p → (hads M os)[j]? = some (hasK (puts M (os.take j)) p.1)
  | [], M, j, p, h => by simp at h
  | q :: os, M, 0, p, h => by simp at h; subst h; rfl
  | q :: os, M, j + 1, p, h => hads_at os (putK M q.1 q.2) j p (by simpa using h)
theorem puts_rises (os M : Prs) (h : Rises M) : Rises (puts M os) := foldl_put_rises os M h
theorem puts_length (os M : Prs) : (puts M os).length ≤ M.length + os.length := foldl_put_length os M

theorem rk_put {M : Prs} (hr : Rises M) (k : List Int) (v : Int) : rk (putK M k v) k = rk M k ∧ hasK (putK M k v) k = true ∧ valK (putK M k v) k = v := by
  have hg : (putK M k v)[rk M k]? = some (k, v) := by
    unfold putK
    have := rk_le M k
    rw [List.getElem?_append_right (by simp; omega)]
    simp; rw [show rk M k - min (rk M k) M.length = 0 by omega]; rfl
  exact at_rk (putK_rises hr k v) hg
theorem take_put {M : Prs} (k : List Int) (v : Int) : (putK M k v).take (rk M k) = M.take (rk M k) := by
  unfold putK
  have := rk_le M k
  rw [List.take_append_of_le_length (by simp; omega), List.take_take, Nat.min_self]
theorem drop_put {M : Prs} (k : List Int) (v : Int) : (putK M k v).drop (rk M k + 1) = M.drop (rk M k + if hasK M k then 1 else 0) := by
  unfold putK
  have := rk_le M k
  have hl : (M.take (rk M k)).length = rk M k := by simp; omega
  rw [List.drop_append, hl, List.drop_of_length_le (by omega), show rk M k + 1 - rk M k = 1 by omega]
  rfl
theorem undo_put {M : Prs} (hr : Rises M) {k : List Int} (v : Int) (h : hasK M k = true) : putK (putK M k v) k (valK M k) = M := by
  obtain ⟨h1, h2, _⟩ := rk_put hr k v
  obtain ⟨x, hx, hv⟩ := hasK_some h
  have hlt := hasK_lt h
  rw [putK, h1, h2, take_put, if_pos rfl, drop_put, if_pos h, hv]
  have : M = M.take (rk M k) ++ M.drop (rk M k) := (List.take_append_drop _ _).symm
  conv => rhs; rw [this, List.drop_eq_getElem_cons hlt]
  rw [List.getElem?_eq_getElem hlt] at hx
  rw [Option.some.inj hx]
theorem undo_drop {M : Prs} (hr : Rises M) {k : List Int} (v : Int) (h : hasK M k = false) : dropK (putK M k v) k = M := by
  obtain ⟨h1, h2, _⟩ := rk_put hr k v
  rw [dropK, h1, h2, take_put, if_pos rfl, drop_put, h]
  simp

/-! ### rows of one's own -/
theorem info_u64 : (Tryd.prog.info? 28).map (fun i => (i.zero, i.size, i.bytes)) = some (some (.int .u64 0), 1, 8) := by kernel_rfl
theorem info_b : (Tryd.prog.info? 4).map (fun i => (i.zero, i.size, i.bytes)) = some (some (.bool false), 1, 1) := by kernel_rfl
def bvs (l : List Bool) : List Value := l.map Value.bool
theorem src_one (w : World) (u : Value) (t : TypeId) : Src (w.alloc (.cells #[u] t)) (some ⟨w.heap.size, 0, none⟩) [u] := by
  intro j x hj
  obtain ⟨hlt, rfl⟩ := List.getElem?_eq_some_iff.1 hj
  have : j = 0 := by simp at hlt; omega
  subst this
  exact ⟨_, _, rfl, by simp⟩
/-- all is changed at once -/
theorem Sx.both {Q Q' S : Nat → Prop} {w w' : World} {t r : Nat} {M N : Prs} {most : Int} (h : Sx Q w t r M N most) (x : Touch S w w') (hS : ∀ b, S b → Q b ∨ w.heap.size ≤ b) (hQ : ∀ b, Q' b → Q b ∨ w.heap.size ≤ b ∧ b < w'.heap.size) (hT : ∀ b, S b → b ≠ 1 ∧ b ≠ 0) : Sx Q' w' t r M N most := by
  have hs := x.size
  obtain ⟨F, R, h1⟩ := h
  obtain ⟨F', R', h'⟩ : Sx Q w' t r M N most := Sx.over ⟨F, R, h1⟩ x hS hT
  have hlt1 := h1.tp.lt
  have hlt2 := h1.rf.lt
  refine ⟨F, R, h1.tp.keepR x (fun b hb hs => by have := h1.tp.lt b hb; rcases hS b hs with h2 | h2; exact h1.hF b hb h2; omega) (fun hs => (hT _ hs).1 rfl), h1.rf.keep x (fun b hb hs => by have := h1.rf.lt b hb; rcases hS b hs with h2 | h2; exact h1.hR b hb h2; omega), fun b hb hq => ?_, fun b hb hq => ?_, h1.hd, fun b hq => ?_, h1.tl.keep x (fun hs => (hT _ hs).2 rfl), h1.lf, h1.lr, h1.rr⟩
  · rcases hQ b hq with h2 | h2
    · exact h1.hF b hb h2
    · have := hlt1 b hb; omega
  · rcases hQ b hq with h2 | h2
    · exact h1.hR b hb h2
    · have := hlt2 b hb; omega
  · rcases hQ b hq with h2 | h2
    · exact Nat.lt_of_lt_of_le (h1.hQ b h2) x.size
    · exact h2.2

abbrev QQ (w : World) (v7 v8 : Value) : Nat → Prop := fun b => In w b ∨ v7.ownBlock = some b ∨ v8.ownBlock = some b
/-- the two rows: what was, and whether it was -/
structure Ow (w wr : World) (v7 v8 : Value) (xs : List Int) (bs : List Bool) : Prop where
  o7 : wr.ownsRow 0 28 1 v7 xs.length (ivs .u64 xs)
  o8 : wr.ownsRow 0 4 1 v8 bs.length (bvs bs)
  b7 : ∀ b, v7.ownBlock = some b → w.heap.size ≤ b
  b8 : ∀ b, v8.ownBlock = some b → w.heap.size ≤ b
  d : ∀ b, v7.ownBlock = some b → v8.ownBlock ≠ some b
theorem Ow.keep {S : Nat → Prop} {w wr w' : World} {v7 v8 : Value} {xs : List Int} {bs : List Bool} (h : Ow w wr v7 v8 xs bs) (x : Touch S wr w') (hS : ∀ b, S b → v7.ownBlock ≠ some b ∧ v8.ownBlock ≠ some b) : Ow w w' v7 v8 xs bs :=
  ⟨own_keep h.o7 x (fun b hb hs => (hS b hs).1 hb), own_keep h.o8 x (fun b hb hs => (hS b hs).2 hb), h.b7, h.b8, h.d⟩

set_option maxRecDepth 100000 in
set_option maxHeartbeats 8000000 in
theorem walk_small (v0 v1 : Value) (ps os : Prs) (w : World) (htr : KidA.Tr w) (htl : KidA.Tl w) (h0 : RP w (In w) v0 ps) (h1 : RP w (In w) v1 os) (hpk : PK ps) (hpo : PK os) (hu64 : ∀ p ∈ os, 0 ≤ p.2 ∧ p.2 < 18446744073709551616) (hg : SameP.great ps 30 20 = false) (hgo : SameP.great os 20 20 = false)
    (hm : ps.length ≤ 30) (hmo : os.length ≤ 20) (hL : ∀ p ∈ ps, p.1.length ≤ 20) (hLo : ∀ p ∈ os, p.1.length ≤ 20) :
    Calls Tryd.prog 10 #[v0, v1] w fun e w' => e = .returned (.bool true) ∧ Ext w w' := by
  obtain ⟨a0, c0, rfl, l1, l2, _⟩ := h0.shape
  obtain ⟨a1, c1, rfl, l3, l4, _⟩ := h1.shape
  unfold maxLen at l2 l4
  have hgr := SameP.great_any w _ _ ps 30 20 h0 (by decide) (by decide) (by decide) (by decide)
  rw [hg] at hgr
  have hgr1 := SameP.great_any w _ _ os 20 20 h1 (by decide) (by decide) (by decide) (by decide)
  rw [hgo] at hgr1
  have hrn := RefJ.new_any w _ ps h0 (by omega) hpk
  unfold RefJ.RNew at hrn
  have hroom : ∀ j, (szK (puts (mkK ps) (os.take j)) : Int) ≤ 5000 := fun j => by
    have h2 := sz_mk (n := 50) (L := 20) (m := 5000) (ps := ps ++ os.take j) (by simp; omega) (fun p hp => by
      rcases List.mem_append.1 hp with h | h
      · exact hL p h
      · exact hLo p (List.mem_of_mem_take h)) (by decide) (ps ++ os.take j).length
    rw [List.take_length] at h2
    have h3 : mkK (ps ++ os.take j) = puts (mkK ps) (os.take j) := by simp [mkK, puts, List.foldl_append]
    rwa [h3] at h2
  have hr := mkK_rises ps
  have hml := mkK_length ps
  have hmm := fun p (hp : p ∈ mkK ps) => hpk p (mkK_mem hp)
  generalize hMe : mkK ps = M at *
  have hM : M.length ≤ 30 := by omega
  have hroom0 : (szK M : Int) ≤ 5000 := hroom 0
  have Htr := Lib.hid htr
  clear htr
  have Htl := Lib.hid htl
  clear htl
  have Hgr := Lib.hid hgr
  clear hgr
  have Hgr1 := Lib.hid hgr1
  clear hgr1
  have Hrn := Lib.hid hrn
  clear hrn
  have Hroom := Lib.hid hroom
  clear hroom
  have Hr := Lib.hid hr
  clear hr
  have Hmm := Lib.hid hmm
  clear hmm
  have H0 := Lib.hid h0
  clear h0
  have H1 := Lib.hid h1
  clear h1
  have Hpk := Lib.hid hpk
  clear hpk
  have Hpo := Lib.hid hpo
  clear hpo
  have HL := Lib.hid hL
  clear hL
  have HLo := Lib.hid hLo
  clear hLo
  have HMe := Lib.hid hMe
  clear hMe
  have Hu64 := Lib.hid hu64
  clear hu64
  have Hroom0 := Lib.hid hroom0
  clear hroom0
  clear hg hgo hml
  go_enter Tryd.func10, Tryd.ntmps10
  go_wp2_with (fail)
  (with_reducible refine Hgr.out.mono ?_)
  rintro e w' ⟨rfl, rfl⟩
  go_wp2_with (fail)
  (with_reducible refine Hgr1.out.mono ?_)
  rintro e w' ⟨rfl, rfl⟩
  go_wp2_with (fail)
  (with_reducible refine Hrn.out.mono ?_)
  rintro e w1 ⟨r, R, rfl, hrf, hR, t1⟩
  obtain ⟨rv, r0, hrow⟩ := hrf.row
  obtain ⟨ra, rc, rfl, _⟩ := hrow.shape
  have hnew := new_yes w1 (Htr.out.ext t1) 5000 (by decide) (by decide)
  unfold TNew at hnew
  have Hnew := Lib.hid hnew
  clear hnew
  have Hrf := Lib.hid hrf
  clear hrf
  have HR := Lib.hid hR
  clear hR
  have T1 := Lib.hid t1
  clear t1
  have Hrow := Lib.hid hrow
  clear hrow
  go_wp2_with (fail)
  (with_reducible refine Hnew.out.mono ?_)
  rintro e w2 ⟨t, F, rfl, htp, hF, t2⟩
  have r0 := keepc t2 id r0
  have hb := build_ok w2 t _ [] M 5000 htp (Hrow.out.ext t2) (by omega) Hmm.out Hr.out Hroom0.out
  unfold TBuild at hb
  have ht2 : t < w2.heap.size := htp.lt _ htp.self
  have ht1 : w1.heap.size ≤ t := hF _ htp.self
  have hs1 := T1.out.size
  have hs2 := t2.size
  clear htp hF
  have Hb := Lib.hid hb
  clear hb
  have T2 := Lib.hid t2
  clear t2
  go_wp2_with (fail)
  (with_reducible refine Hb.out.mono ?_)
  rintro e w3 ⟨rfl, F3, htp3, x3, hF3⟩
  have t3 : Ext w w3 := (T1.out.trans' T2.out).ext_new x3 (fun i hi => by subst hi; omega)
  have hs : Sx (In w) w3 t r M M 5000 := ⟨F3, R, htp3, (Hrf.out.ext T2.out).keep x3 (fun b hb h => by subst h; have := Hrf.out.lt b hb; omega),
    fun b hb hq => by have h4 : b < w.heap.size := hq; rcases hF3 b hb with h5 | h5 <;> omega, fun b hb hq => by have h4 : b < w.heap.size := hq; have := HR.out b hb; omega,
    fun b hb hr => by have := Hrf.out.lt b hr; rcases hF3 b hb with h5 | h5 <;> omega, fun b hb => Nat.lt_of_lt_of_le hb t3.size, Htl.out.ext t3, fun hb => by have h9 := World.block_lt_of_cell? _ _ Htl.out.l0; simp only at h9; rcases hF3 _ hb with h5 | h5 <;> omega, fun hb => by have h9 := World.block_lt_of_cell? _ _ Htl.out.l0; simp only at h9; have := HR.out _ hb; omega, fun hb => by have h9 := World.block_lt_of_cell? _ _ Htr.out.r0; simp only at h9; have := HR.out _ hb; omega⟩
  clear htp3 x3 hF3 r0 Hrow Hb Hnew Hrf HR Hrn T1 T2
  have how : Ow w w3 (.slice none 0 0) (.slice none 0 0) [] [] := ⟨World.ownsRow_nil _ _ _ _, World.ownsRow_nil _ _ _ _, (fun b h => by cases h), (fun b h => by cases h), (fun b h => by cases h)⟩
  have hs0 : Sx (QQ w (.slice none 0 0) (.slice none 0 0)) w3 t r M M 5000 := hs.less (fun b hb => by rcases hb with h | h | h; exact h; cases h; cases h)
  clear hs ht1 ht2 hs1 hs2
  have Hs0 := Lib.hid hs0
  clear hs0
  have How := Lib.hid how
  clear how
  have T3 := Lib.hid t3
  clear t3
  go_wp2_with (fail)
  go_loopw [7, 8, 9] (fun s7 s8 s9 wr => ∃ j : Nat, j ≤ os.length ∧ s9 = .int .i64 j ∧ Ow w wr s7 s8 (olds M (os.take j)) (hads M (os.take j)) ∧ Sx (QQ w s7 s8) wr t r (puts M (os.take j)) M 5000 ∧ Ext w wr) (fun _ _ s9 _ => os.length - (intOf s9).toNat)
  case atStart => exact ⟨0, by omega, rfl, How.out, Hs0.out, T3.out⟩
  case round =>
    obtain ⟨j, hj, rfl, how, hs, ht⟩ := hrel
    clear How Hs0 T3
    by_cases hjk : j < os.length
    · obtain ⟨b, off, rfl, hb⟩ := H1.out.addr (by omega)
      have hbw : b < w.heap.size := hb
      have hgj := List.getElem?_eq_getElem hjk
      have hst := puts_snoc M (os.take j) os[j]
      have hso := olds_snoc (os.take j) M os[j]
      have hsh := hads_snoc (os.take j) M os[j]
      rw [← take_snoc' hgj] at hst hso hsh
      have hpp := Hpo.out _ (List.mem_of_getElem? hgj)
      obtain ⟨kv, d0, d1, hkv⟩ := (H1.out.ext ht).get _ _ hgj
      have hl7 : (olds M (os.take j)).length = j := by rw [olds_length]; simp; omega
      have hl8 : (hads M (os.take j)).length = j := by rw [hads_length]; simp; omega
      have hl9 : (puts M (os.take j)).length ≤ 50 := by have := puts_length (os.take j) M; simp at this; omega
      have hr2 := Hroom.out (j + 1)
      rw [hst] at hr2
      generalize os[j] = p at *
      obtain ⟨ka, kc, rfl, y1, y2, y3⟩ := hkv.shape
      unfold maxLen at y2
      have j1 : (j : Int) < (os.length : Int) := by omega
      have j2 : (0 : Int) ≤ (j : Int) := by omega
      obtain ⟨a7, c7, e7⟩ := own_len how.o7
      obtain ⟨a8, c8, e8⟩ := own_len how.o8
      rw [hl7] at e7
      rw [hl8] at e8
      subst e7
      subst e8
      have hkq := hkv.mono (G := QQ w (.slice a7 j c7) (.slice a8 j c8)) (fun b hb => Or.inl hb)
      have hpu := sput (hs.ext (Touch.refl _ _).drew) (by omega) _ p.1 p.2 (hkq.ext (Touch.refl _ _).drew) hpp.1 hpp.2 (Or.inr hr2)
      unfold SPut at hpu
      rw [← hst] at hpu
      generalize valK (puts M (os.take j)) p.1 = ov at *
      generalize hasK (puts M (os.take j)) p.1 = hv at *
      clear hr2 hst
      have Hgj := Lib.hid hgj
      clear hgj
      have Hpp := Lib.hid hpp
      clear hpp
      have Hkv := Lib.hid hkv
      clear hkv
      have Hkq := Lib.hid hkq
      clear hkq
      have Hs := Lib.hid hs
      clear hs
      have Ht := Lib.hid ht
      clear ht
      have Hpu := Lib.hid hpu
      clear hpu
      have Hso := Lib.hid hso
      clear hso
      have Hsh := Lib.hid hsh
      clear hsh
      have Hl7 := Lib.hid hl7
      clear hl7
      have Hl8 := Lib.hid hl8
      clear hl8
      have How := Lib.hid how
      clear how
      go_wp2_with (fail)
      refine wp_region_plan (.take 0 (.take 1 (.take 2 (.take 3 (.take 4 (.take 5 (.take 6 (.take 7 (.take 8 (.take 9 (.take 10 (.must 11 (.take 12 (.take 13 (.take 14 (.take 15 (.take 16 (.take 17 (.take 18 .done))))))))))))))))))) (fun wy => wy.cell? ⟨b, off + j * 2, none⟩ = some (.slice ka p.1.length kc) ∧ wy.cell? ⟨b, off + j * 2 + 1, none⟩ = some (.int .u64 p.2)) (by kernel_rfl) (by kernel_rfl) (by kernel_rfl) rfl ?_ (fun KK hKK => ?_)
      · exact ⟨d0, d1⟩
      repeat (first
        | (refine wpPlan_take (v := ?_) rfl (by rfl) (fun W hW => ?_) ?_; rotate_left; (focus ((try dsimp only at hW); go_split_ands; go_simp; (try with_reducible rfl); done)); (try simp only [Act.put, List.setIfInBounds_toArray, List.set_cons_zero, List.set_cons_succ]))
        | (refine wpPlan_skip rfl (by rfl) ?_; (try simp only [Act.put, List.setIfInBounds_toArray, List.set_cons_zero, List.set_cons_succ])))
      refine wpPlan_must rfl (by rfl) (fun K hK => ?_)
      go_simp
      (with_reducible refine Hpu.out.mono ?_)
      rintro e w4 ⟨rfl, hs4, x4⟩
      have d0 := keepq x4 (Or.inl hbw) d0
      have d1 := keepq x4 (Or.inl hbw) d1
      have t4 := extq Ht.out.drew x4 (fun _ h => Or.inl h)
      have how4 := (How.out.keep (show Ext wr wr.drew from (Touch.refl _ _).drew) (fun b h => h.elim)).keep x4 (fun b hb => ⟨fun h => hb (Or.inr (Or.inl h)), fun h => hb (Or.inr (Or.inr h))⟩)
      clear x4
      have Hs4 := Lib.hid hs4
      clear hs4
      have T4 := Lib.hid t4
      clear t4
      have How4 := Lib.hid how4
      clear how4
      refine hK.out _ _ ?_ ?_
      · exact ⟨d0, d1⟩
      clear hK K
      (try simp only [Act.put, List.setIfInBounds_toArray, List.set_cons_zero, List.set_cons_succ])
      repeat (first
        | (refine wpPlan_take (v := ?_) rfl (by rfl) (fun W hW => ?_) ?_; rotate_left; (focus ((try dsimp only at hW); go_split_ands; go_simp; (try with_reducible rfl); done)); (try simp only [Act.put, List.setIfInBounds_toArray, List.set_cons_zero, List.set_cons_succ]))
        | (refine wpPlan_skip rfl (by rfl) ?_; (try simp only [Act.put, List.setIfInBounds_toArray, List.set_cons_zero, List.set_cons_succ])))
      refine wpPlan_done (hKK.out _ _ ?_)
      clear hKK KK
      have o7 := How4.out.o7
      have o8 := How4.out.o8
      rw [Hl7.out] at o7
      rw [Hl8.out] at o8
      have O7 := Lib.hid o7
      clear o7
      have O8 := Lib.hid o8
      clear o8
      go_wp2_with (first
        | (at_builtin; (refine wpList_push_any _ rfl _ _ 68 rfl 28 (.int .u64 0) 1 8 Tryd.underlying68 info_u64 rfl (by decide) (.slice a7 j c7) j (ivs .u64 (olds M (os.take j))) rfl (own_keep O7.out ((Touch.refl (fun _ => False) _).alloc _) (fun _ _ h => h)) (some ⟨w4.heap.size, 0, none⟩) 1 1 rfl (fun h => by cases h) [.int .u64 ov] (by decide) rfl (src_one _ _ _) (by simp [Value.oneCell']) (by simp [maxLen]; omega) (by omega) ?_); intro v10 w10 hown10 ht10 hb10)
        | (at_builtin; (refine wpList_push_any _ rfl _ _ 69 rfl 4 (.bool false) 1 1 Tryd.underlying69 info_b rfl (by decide) (.slice a8 j c8) j (bvs (hads M (os.take j))) rfl (own_keep O8.out ((show Touch (fun b => (Value.slice a7 j c7).ownBlock = some b) w4 w10 from ((Touch.refl _ _).alloc _).trans' ht10).alloc _) (fun b hb h => How4.out.d b h hb)) (some ⟨w10.heap.size, 0, none⟩) 1 1 rfl (fun h => by cases h) [.bool hv] (by decide) rfl (src_one _ _ _) (by simp [Value.oneCell']) (by simp [maxLen]; omega) (by omega) ?_); intro v11 w11 hown11 ht11 hb11))
      have z10 : Touch (fun b => (Value.slice a7 j c7).ownBlock = some b) w4 w10 := ((Touch.refl _ _).alloc _).trans' ht10
      have z11 : Touch (fun b => (Value.slice a8 j c8).ownBlock = some b) w10 w11 := ((Touch.refl _ _).alloc _).trans' ht11
      have hb10 : v10.ownBlock = (Value.slice a7 j c7).ownBlock ∨ ∃ N, v10.ownBlock = some N ∧ w4.heap.size ≤ N := hb10.imp id (fun h => ⟨_, h, by simp⟩)
      have hb11 : v11.ownBlock = (Value.slice a8 j c8).ownBlock ∨ ∃ N, v11.ownBlock = some N ∧ w10.heap.size ≤ N := hb11.imp id (fun h => ⟨_, h, by simp⟩)
      have hl10 : ∀ b, v10.ownBlock = some b → b < w10.heap.size := fun b hb => (hown10.lt b hb).2
      have hl11 : ∀ b, v11.ownBlock = some b → b < w11.heap.size := fun b hb => (hown11.lt b hb).2
      have hl8' : ∀ b, (Value.slice a8 j c8).ownBlock = some b → b < w4.heap.size := fun b hb => (O8.out.lt b hb).2
      have hsz10 := z10.size
      have hsz11 := z11.size
      have hd1 : ∀ b, v10.ownBlock = some b → (Value.slice a8 j c8).ownBlock ≠ some b := fun b hb h8 => by
        rcases hb10 with h | ⟨N, h, hN⟩
        · rw [h] at hb; exact How4.out.d b hb h8
        · rw [h] at hb; cases hb; have := hl8' b h8; omega
      have how11 : Ow w w11 v10 v11 (olds M (os.take (j + 1))) (hads M (os.take (j + 1))) := by
        rw [Hso.out, Hsh.out]
        refine ⟨?_, ?_, fun b hb => ?_, fun b hb => ?_, fun b hb h8 => ?_⟩
        · rw [List.length_append, Hl7.out, ivs_append]; exact own_keep hown10 z11 (fun b hb h => hd1 b hb h)
        · rw [List.length_append, Hl8.out, show bvs (hads M (os.take j) ++ [hv]) = bvs (hads M (os.take j)) ++ [.bool hv] by simp [bvs]]; exact hown11
        · rcases hb10 with h | ⟨N, h, hN⟩
          · exact How4.out.b7 b (h ▸ hb)
          · rw [h] at hb; cases hb; have := T4.out.size; omega
        · rcases hb11 with h | ⟨N, h, hN⟩
          · exact How4.out.b8 b (h ▸ hb)
          · rw [h] at hb; cases hb; have := T4.out.size; omega
        · rcases hb11 with h | ⟨N, h, hN⟩
          · exact hd1 b hb (h ▸ h8)
          · rw [h] at h8; cases h8; have := hl10 b hb; omega
      have zz : Touch (fun b => (Value.slice a7 j c7).ownBlock = some b ∨ (Value.slice a8 j c8).ownBlock = some b) w4 w11 := (z10.mono (fun i hi _ => Or.inl hi)).trans' (z11.mono (fun i hi _ => Or.inr hi))
      have hs11 : Sx (QQ w v10 v11) w11 t r (puts M (os.take (j + 1))) M 5000 := Sx.both Hs4.out zz (fun b hb => Or.inl (Or.inr hb)) (fun b hb => by
        rcases hb with h | h | h
        · exact Or.inl (Or.inl h)
        · rcases hb10 with h1 | ⟨N, h1, hN⟩
          · exact Or.inl (Or.inr (Or.inl (h1 ▸ h)))
          · rw [h1] at h; cases h; exact Or.inr ⟨hN, by have := hl10 b h1; omega⟩
        · rcases hb11 with h1 | ⟨N, h1, hN⟩
          · exact Or.inl (Or.inr (Or.inr (h1 ▸ h)))
          · rw [h1] at h; cases h; exact Or.inr ⟨by omega, hl11 b h1⟩) (fun b hb => by have h9 := World.block_lt_of_cell? _ _ Htl.out.l0; have h8 := World.block_lt_of_cell? _ _ Htr.out.r0; have h7 := hb.elim (How4.out.b7 b) (How4.out.b8 b); simp only at h8 h9; omega)
      have t11 : Ext w w11 := T4.out.ext_new zz (fun i hi => hi.elim (How4.out.b7 i) (How4.out.b8 i))
      clear zz z10 z11 hown10 hown11 hb10 hb11 ht10 ht11 hl10 hl11 hl8' hd1 hsz10 hsz11
      have How11 := Lib.hid how11
      clear how11
      have Hs11 := Lib.hid hs11
      clear hs11
      have T11 := Lib.hid t11
      clear t11
      go_wp2_with (fail)
      go_roundw
      case rel => exact ⟨j + 1, by omega, by go_num, How11.out, Hs11.out, T11.out⟩
      case measure => simp [intOf] <;> omega
    · obtain rfl : j = os.length := by omega
      have j1 : ¬ ((os.length : Nat) : Int) < (os.length : Int) := by omega
      rw [List.take_length] at how hs
      obtain ⟨a7, c7, e7⟩ := own_len how.o7
      obtain ⟨a8, c8, e8⟩ := own_len how.o8
      have hl7 := olds_length os M
      have hl8 := hads_length os M
      rw [hl7] at e7
      rw [hl8] at e8
      subst e7
      subst e8
      have hs' : Sx (QQ w (.slice a7 os.length c7) (.slice a8 os.length c8)) wr t r (puts M (os.take os.length)) M 5000 := by rw [List.take_length]; exact hs
      clear hs
      obtain ⟨wo, rfl⟩ : ∃ wo, wo = wr := ⟨_, rfl⟩
      have How := Lib.hid how
      clear how
      have Hs' := Lib.hid hs'
      clear hs'
      have Ht := Lib.hid ht
      clear ht
      have Hl7 := Lib.hid hl7
      clear hl7
      have Hl8 := Lib.hid hl8
      clear hl8
      go_wp2_with (fail)
      go_loopw [13] (fun s13 wr => ∃ (c : Nat) (x : Int), c ≤ os.length ∧ s13 = .int .i64 x ∧ x = (c : Int) - 1 ∧ Ow w wr (.slice a7 os.length c7) (.slice a8 os.length c8) (olds M os) (hads M os) ∧ Sx (QQ w (.slice a7 os.length c7) (.slice a8 os.length c8)) wr t r (puts M (os.take c)) M 5000 ∧ Ext w wr) (fun s13 _ => (intOf s13 + 1).toNat)
      case atStart => exact ⟨os.length, _, by omega, rfl, rfl, How.out, Hs'.out, Ht.out⟩
      case round =>
        obtain ⟨c, x, hc, rfl, hx, how, hs, ht⟩ := hrel
        clear How Hs' Ht
        by_cases hc0 : 0 < c
        · obtain ⟨i, rfl⟩ : ∃ i, c = i + 1 := ⟨c - 1, by omega⟩
          obtain rfl : x = (i : Int) := by omega
          clear hx
          have hi : i < os.length := by omega
          obtain ⟨b, off, rfl, hb⟩ := H1.out.addr (by omega)
          have hbw : b < w.heap.size := hb
          have hgj := List.getElem?_eq_getElem hi
          have hst := puts_snoc M (os.take i) os[i]
          rw [← take_snoc' hgj] at hst
          have hpp := Hpo.out _ (List.mem_of_getElem? hgj)
          have huu := Hu64.out _ (List.mem_of_getElem? hgj)
          obtain ⟨kv, d0, d1, hkv⟩ := (H1.out.ext ht).get _ _ hgj
          have hat7 := olds_at os M i _ hgj
          have hat8 := hads_at os M i _ hgj
          have hpr := puts_rises (os.take i) M Hr.out
          have hroom2 := Hroom.out i
          have hroom3 := Hroom.out (i + 1)
          have hl9 : (puts M (os.take (i + 1))).length ≤ 50 := by have := puts_length (os.take (i + 1)) M; simp at this; omega
          have hl7 : (olds M os).length = os.length := Hl7.out
          have hl8 : (hads M os).length = os.length := Hl8.out
          generalize os[i] = p at *
          obtain ⟨ka, kc, rfl, y1, y2, y3⟩ := hkv.shape
          unfold maxLen at y2
          have hkq := hkv.mono (G := QQ w (.slice a7 os.length c7) (.slice a8 os.length c8)) (fun b hb => Or.inl hb)
          have j1 : (i : Int) < (os.length : Int) := by omega
          have j2 : (0 : Int) ≤ (i : Int) := by omega
          have o7 := how.o7
          have o8 := how.o8
          rw [hl7] at o7
          rw [hl8] at o8
          obtain ⟨g7, rfl⟩ := own_addr o7 (by omega)
          obtain ⟨g8, rfl⟩ := own_addr o8 (by omega)
          have e7 : wr.cell? ⟨g7, i, none⟩ = some (.int .u64 (valK (puts M (os.take i)) p.1)) := by rw [o7.cellAt i (by omega)]; simp [ivs, hat7]
          have e8 : wr.cell? ⟨g8, i, none⟩ = some (.bool (hasK (puts M (os.take i)) p.1)) := by rw [o8.cellAt i (by omega)]; simp [bvs, hat8]
          clear o7 o8 hat7 hat8
          cases hhv : hasK (puts M (os.take i)) p.1 with
          | true =>
            rw [hhv] at e8
            have hun := undo_put hpr p.2 hhv
            rw [← hst] at hun
            have hpu := sput (hs.ext (Touch.refl _ _).drew) (by omega) _ p.1 (valK (puts M (os.take i)) p.1) (hkq.ext (Touch.refl _ _).drew) hpp.1 hpp.2 (Or.inr (by rw [hun]; exact hroom2))
            unfold SPut at hpu
            rw [hun] at hpu
            generalize valK (puts M (os.take i)) p.1 = ov at *
            clear hhv hun hst hpr hroom2 hroom3 hl7 hl8
            have Hgj := Lib.hid hgj
            clear hgj
            have Hpp := Lib.hid hpp
            clear hpp
            have Hkv := Lib.hid hkv
            clear hkv
            have Hkq := Lib.hid hkq
            clear hkq
            have Hs := Lib.hid hs
            clear hs
            have Ht := Lib.hid ht
            clear ht
            have Hpu := Lib.hid hpu
            clear hpu
            have How := Lib.hid how
            clear how
            have Huu := Lib.hid huu
            clear huu
            go_wp2_with (fail)
            refine wp_region_plan (.take 0 (.take 1 (.take 2 (.take 3 (.take 4 (.take 5 (.take 6 (.take 7 (.take 8 (.take 9 (.must 10 .done))))))))))) (fun wy => wy.cell? ⟨b, off + i * 2, none⟩ = some (.slice ka p.1.length kc) ∧ wy.cell? ⟨g7, i, none⟩ = some (.int .u64 ov)) (by kernel_rfl) (by kernel_rfl) (by kernel_rfl) rfl ?_ (fun KK hKK => ?_)
            · exact ⟨d0, e7⟩
            repeat (first
              | (refine wpPlan_take (v := ?_) rfl (by rfl) (fun W hW => ?_) ?_; rotate_left; (focus ((try dsimp only at hW); go_split_ands; go_simp; (try with_reducible rfl); done)); (try simp only [Act.put, List.setIfInBounds_toArray, List.set_cons_zero, List.set_cons_succ]))
              | (refine wpPlan_skip rfl (by rfl) ?_; (try simp only [Act.put, List.setIfInBounds_toArray, List.set_cons_zero, List.set_cons_succ])))
            refine wpPlan_must rfl (by rfl) (fun K hK => ?_)
            go_simp
            (with_reducible refine Hpu.out.mono ?_)
            rintro e w4 ⟨rfl, hs4, x4⟩
            have d0 := keepq x4 (Or.inl hbw) d0
            have e7 := keepq (p := ⟨g7, i, none⟩) x4 (Or.inr (Or.inl rfl)) e7
            have t4 := extq Ht.out.drew x4 (fun _ h => Or.inl h)
            have how4 := (How.out.keep (show Ext wr wr.drew from (Touch.refl _ _).drew) (fun b h => h.elim)).keep x4 (fun b hb => ⟨fun h => hb (Or.inr (Or.inl h)), fun h => hb (Or.inr (Or.inr h))⟩)
            clear x4
            have Hs4 := Lib.hid hs4
            clear hs4
            have T4 := Lib.hid t4
            clear t4
            have How4 := Lib.hid how4
            clear how4
            refine hK.out _ _ ?_ ?_
            · exact ⟨d0, e7⟩
            clear hK K
            (try simp only [Act.put, List.setIfInBounds_toArray, List.set_cons_zero, List.set_cons_succ])
            refine wpPlan_done (hKK.out _ _ ?_)
            clear hKK KK
            go_wp2_with (fail)
            go_roundw
            case rel => exact ⟨i, _, by omega, rfl, rfl, How4.out, Hs4.out, T4.out⟩
            case measure => simp [intOf] <;> omega
          | false =>
            rw [hhv] at e8
            have hun := undo_drop hpr p.2 hhv
            obtain ⟨_, hu2, hu3⟩ := rk_put hpr p.1 p.2
            rw [← hst] at hun hu2 hu3
            have hpu := fun W (x : Ext wr W) => sdrop (hs.ext x) _ p.1 (hkq.ext x) hpp.1 hpp.2
            unfold SDrop at hpu
            rw [hun, hu2, hu3] at hpu
            have hvv : (p.2 != p.2) = false := by simp
            clear hhv hun hst hpr hroom2 hroom3 hl7 hl8 hu2 hu3 e7
            have Hgj := Lib.hid hgj
            clear hgj
            have Hpp := Lib.hid hpp
            clear hpp
            have Hkv := Lib.hid hkv
            clear hkv
            have Hkq := Lib.hid hkq
            clear hkq
            have Hs := Lib.hid hs
            clear hs
            have Ht := Lib.hid ht
            clear ht
            have Hpu := Lib.hid hpu
            clear hpu
            have How := Lib.hid how
            clear how
            have Huu := Lib.hid huu
            clear huu
            go_wp2_with (fail)
            (with_reducible refine (Hpu.out _ (Touch.refl _ _)).mono ?_)
            rintro e w4 ⟨rfl, hs4, x4⟩
            have d1 := keepq x4 (Or.inl hbw) d1
            have t4 := extq Ht.out x4 (fun _ h => Or.inl h)
            have how4 := How.out.keep x4 (fun b hb => ⟨fun h => hb (Or.inr (Or.inl h)), fun h => hb (Or.inr (Or.inr h))⟩)
            clear x4 d0 e8
            have Hs4 := Lib.hid hs4
            clear hs4
            have T4 := Lib.hid t4
            clear t4
            have How4 := Lib.hid how4
            clear how4
            go_wp2_with (fail)
            go_roundw
            case rel => exact ⟨i, _, by omega, rfl, rfl, How4.out, Hs4.out, T4.out⟩
            case measure => simp [intOf] <;> omega
        · obtain rfl : c = 0 := by omega
          obtain rfl : x = -1 := by omega
          have hs2 := hs.less (Q' := In w) (fun b hb => Or.inl hb)
          have hs3 : Sx (In w) wr t r M M 5000 := hs2
          have hri := sright hs3
          clear hx hs2 hs3
          have Hri := Lib.hid hri
          clear hri
          have How := Lib.hid how
          clear how
          have Hs := Lib.hid hs
          clear hs
          have Ht := Lib.hid ht
          clear ht
          go_wp2_with (fail)
          (with_reducible refine Hri.out.mono ?_)
          rintro e w5 ⟨rfl, x5⟩
          go_wp2_with (fail)
          refine (TreeW.awake_any _ (Htr.out.ext (Ht.out.trans' x5))).mono ?_
          rintro e w7 ⟨rfl, t7⟩
          go_wp2_with (fail)
          go_ret
          exact ⟨rfl, Ht.out.trans' (x5.trans' t7)⟩

set_option maxRecDepth 100000 in
set_option maxHeartbeats 800000 in
theorem walk_great (v0 v1 : Value) (ps os : Prs) (F : Nat → Prop) (w : World) (htr : KidA.Tr w) (h0 : RP w F v0 ps) (h1 : RP w F v1 os) (h : SameP.great ps 30 20 = true ∨ SameP.great ps 30 20 = false ∧ SameP.great os 20 20 = true) :
    Calls Tryd.prog 10 #[v0, v1] w fun e w' => e = .returned (.bool true) ∧ Ext w w' := by
  obtain ⟨a0, c0, rfl, l1, l2, _⟩ := h0.shape
  obtain ⟨a1, c1, rfl, l3, l4, _⟩ := h1.shape
  unfold maxLen at l2 l4
  have hgr1 := SameP.great_any w _ _ ps 30 20 h0 (by decide) (by decide) (by decide) (by decide)
  have hgr2 := SameP.great_any w _ _ os 20 20 h1 (by decide) (by decide) (by decide) (by decide)
  rcases h with hg | ⟨hg, hg2⟩
  · rw [hg] at hgr1
    have Hgr1 := Lib.hid hgr1
    clear hgr1
    have Hgr2 := Lib.hid hgr2
    clear hgr2
    clear hg
    go_enter Tryd.func10, Tryd.ntmps10
    go_wp2_with (fail)
    (with_reducible refine Hgr1.out.mono ?_)
    rintro e w' ⟨rfl, rfl⟩
    go_wp2_with (fail)
    refine (TreeW.awake_any _ htr).mono ?_
    rintro e w' ⟨rfl, ht⟩
    go_wp2_with (fail)
    go_ret
    exact ⟨rfl, ht⟩
  · rw [hg] at hgr1
    rw [hg2] at hgr2
    have Hgr1 := Lib.hid hgr1
    clear hgr1
    have Hgr2 := Lib.hid hgr2
    clear hgr2
    clear hg hg2
    go_enter Tryd.func10, Tryd.ntmps10
    go_wp2_with (fail)
    (with_reducible refine Hgr1.out.mono ?_)
    rintro e w' ⟨rfl, rfl⟩
    go_wp2_with (fail)
    (with_reducible refine Hgr2.out.mono ?_)
    rintro e w' ⟨rfl, rfl⟩
    go_wp2_with (fail)
    refine (TreeW.awake_any _ htr).mono ?_
    rintro e w' ⟨rfl, ht⟩
    go_wp2_with (fail)
    go_ret
    exact ⟨rfl, ht⟩

set_option maxRecDepth 100000 in
theorem lifted (os : Os) (started : os.Started) (H : Type) (enc : TypeId × Value → H) :
    ReturnsInHanded {} Tryd.checked os 10 .any (fun w args => (Rows.radixUndoesSpec.pre enc Tryd.prog Tryd.f10 [] false w args ∧ laidMetH Tryd.prog KidL.laidK w) ∧ sizedMet enc Tryd.prog Tryd.f10 (OpenSpec.ofChange Rows.radixUndoesSpec) false w args) (Rows.radixUndoesSpec.post enc Tryd.prog Tryd.f10 false true false false) := by
  refine returnsInHanded_of_change_and (C := Tryd.checked) (X := fun w _ => laidMetH Tryd.prog KidL.laidK w) (fun _ _ _ hh h => h.of_heap hh) Tryd.own started (by kernel_rfl) Tryd.func10
    (ChangeSpec.witness_shaped (enc := enc) (C := Tryd.checked) (os := os) (X := fun w _ => laidMetH Tryd.prog KidL.laidK w) false (World.doorLaid Tryd.prog 400 os) #[.slice none 0 0, .slice none 0 0] 8 rfl (World.shaped_of_RefB (by kernel_rfl) (by kernel_rfl)) (by kernel_rfl) (by kernel_rfl) (by kernel_rfl) (KidL.door_met os _)) ?_
  intro W base args ds gs before hval0 hW _ _ hL _
  have hval : ∀ (j : Nat) t v, Tryd.f10.params[j]? = some t → args[j]? = some v → Value.okWide Tryd.prog W .any base t v := hval0
  have hW' := hW
  obtain ⟨p, q, hA0, hV, rfl, hfz, hnd⟩ := hW
  have hA : DataW.TrodAll enc Tryd.prog W 0 (fun _ => true) true Tryd.f10.params.toList args.toList ds p := hA0
  rw [Tryd.params10] at hA hval
  obtain ⟨v0, v1, d0, d1, p0, p1, rfl, rfl, rfl, h0, h1⟩ := trodAll_two hA
  obtain ⟨rfl, rfl⟩ := trodVars_none hV
  have htr := (KidL.of_laid hL).tr
  have htl := (KidL.of_laid hL).tl
  refine Calls.mono (R := fun e w' => e = .returned (.bool true) ∧ Touch (fun _ => False) W w') ?_ fun e W' ⟨he, hw⟩ => (by subst he; exact ⟨_, rfl, law_post Tryd.laidOut (by kernel_rfl) rfl Tryd.underlying4 rfl rfl ⟨rfl, rfl, rfl⟩ hW' (hw.below fun _ h _ => h)⟩)
  obtain ⟨ps, hps, hpp⟩ := rp_of_arg (hval 0 22 v0 rfl rfl) h0
  obtain ⟨os, hos, hpo⟩ := rp_of_arg (hval 1 22 v1 rfl rfl) h1
  by_cases hg : SameP.great ps 30 20 = true
  · exact walk_great v0 v1 ps os _ W htr hps hos (Or.inl hg)
  · have hg : SameP.great ps 30 20 = false := by simpa using hg
    by_cases hgo : SameP.great os 20 20 = true
    · exact walk_great v0 v1 ps os _ W htr hps hos (Or.inr ⟨hg, hgo⟩)
    · have hgo : SameP.great os 20 20 = false := by simpa using hgo
      have hgn := great_not (most := 30) (long := 20) hg
      have hgm := great_not (most := 20) (long := 20) hgo
      exact walk_small v0 v1 ps os W htr htl hps hos (fun p hp => ⟨(hpp p hp).1, by have := hgn.2 p hp; omega⟩) (fun p hp => ⟨(hpo p hp).1, by have := hgm.2 p hp; omega⟩) (fun p hp => (hpo p hp).2) hg hgo hgn.1 hgm.1 hgn.2 hgm.2
theorem radixUndoes_row : Rows.RadixUndoesSaid :=
  OpenClaim.holds_of_wide 10 Tryd.f10 rfl rfl rfl rfl rfl rfl rfl ⟨rfl, rfl, rfl, rfl, rfl⟩ rfl rfl rfl rfl rfl (by kernel_rfl) Tryd.func10 (by kernel_rfl)
    (of_decide_eq_true (by kernel_rfl)) (by unfold Func.isWrapper; first | (rw [if_pos (by decide +kernel)]; kernel_rfl) | (rw [if_neg (by decide +kernel)]; exact ⟨rfl, rfl⟩))
    (fun os started H enc _ => lifted os started H enc)
theorem radixUndoes_holds : Rows.RadixUndoesCardSaid :=
  Claim7.holds_tied_plain_at .later [] [.data, .data] true (true, "ecce178eaad04459afb8ccc92e4d2a22b1e163e47b87319aec7ce6fc9ad3f62b") false
    radixUndoes_row (fun _ h => by cases h) (by kernel_rfl) (fun _ h => by cases h) radixUndoes_row_tie rfl ⟨rfl, rfl⟩ (by kernel_rfl) rfl
    (fun f fn hf hfn => by
      obtain rfl : f = 10 := Option.some.inj ((show Tryd.prog.funcNamed "bramble/bramblelaw14.RadixUndoes" = some 10 by kernel_rfl).symm.trans hf) |>.symm
      obtain rfl : fn = Tryd.f10 := (Option.some.inj (Tryd.func10.symm.trans hfn)).symm
      exact ⟨by kernel_rfl, fun j t ht => by
        rw [Tryd.params10] at ht
        have hm : t ∈ [22, 22] := by simpa using Array.mem_of_getElem? ht
        have hall : ([22, 22].all fun u => !Tryd.prog.wantsStandIn u) = true := by kernel_rfl
        exact (show Tryd.prog.wantsStandIn t = false by simpa using List.all_eq_true.1 hall t hm)⟩)
    (by kernel_rfl)
end LawRadixUndoes
end Go.Proofs.YtclnnkacfanaiaaDoor
