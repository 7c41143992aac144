/- Two answers of a pair are compared. -/
import Derived.Test.YtclnnkacfanaiaaGreatDoorRefX
namespace Go.Proofs.YtclnnkacfanaiaaGreatDoor
open Go.RowKit
set_option linter.unusedVariables false
set_option linter.unusedSimpArgs false
theorem OP.bound {w : World} {F : Nat → Prop} {v : Value} {ps : Prs} (h : OP w F v ps) : OP w (fun b => F b ∧ b < w.heap.size) v ps := by
  obtain ⟨es, h1, h2, h3, h4, h5⟩ := h
  exact ⟨es, h1, h2, fun b hb => ⟨h3 b hb, (h2.lt b hb).2⟩, fun e he => ⟨(h4 e he).1, fun b hb => ⟨⟨((h4 e he).2 b hb).1, (h4 e he).lt b hb⟩, ((h4 e he).2 b hb).2⟩⟩, h5⟩
theorem OB.bound {w : World} {F : Nat → Prop} {v : Value} {k : List Int} (h : OB w F v k) : OB w (fun b => F b ∧ b < w.heap.size) v k := ⟨h.1, fun b hb => ⟨h.2 b hb, h.lt b hb⟩⟩
theorem Rf.self {w : World} {r : Nat} {F : Nat → Prop} {ps : Prs} (h : Rf w r F ps) : F r := by obtain ⟨_, _, _, _, h, _⟩ := h; exact h
theorem Rf.lt {w : World} {r : Nat} {F : Nat → Prop} {ps : Prs} (h : Rf w r F ps) : ∀ b, F b → b < w.heap.size := by obtain ⟨_, _, _, _, _, h, _⟩ := h; exact h
namespace AskA
open ModA ModB ModF
variable {F G : Nat → Prop}
theorem pair_any (w : World) (va vb : Value) (o : Option (List Int × Int)) (ha : OB w F va (keyO o)) (hb : RB w G vb (keyO o)) (hl : (keyO o).length ≤ 1000000) :
    Calls Tryz.prog 40 #[.agg #[va, .int .u64 (valO o)], .bool o.isSome, .agg #[vb, .int .u64 (valO o)], .bool o.isSome] w fun e w' => e = .returned (.bool true) ∧ Touch (fun b => va.ownBlock = some b) w w' := by
  obtain ⟨aa, ac, rfl⟩ := ha.shape
  obtain ⟨ba, bc, rfl, _⟩ := hb.shape
  generalize valO o = x at *
  generalize o.isSome = ok at *
  generalize keyO o = k at *
  have hbb : (ok == ok) = true := by simp
  have hs := fun W (t : Ext w W) => SameP.same_bytes_yes W (.slice aa k.length ac) (.slice ba k.length bc) k (ha.rb.ext t) (hb.ext t) hl
  have ho := fun W (t : Ext w W) => SameP.over_bytes W (.slice aa k.length ac) k (ha.ext t) hl
  clear ha hb
  have Hs := Lib.hid hs
  clear hs
  have Ho := Lib.hid ho
  clear ho
  go_enter Tryz.func40, Tryz.ntmps40
  go_wp2_with (fail)
  have t1 := ((Touch.refl (fun _ => False) w).alloc (.cells #[.slice aa k.length ac, .int .u64 x] 41)).alloc (.cells #[.slice ba k.length bc, .int .u64 x] 41)
  have c0 : ((w.alloc (.cells #[.slice aa k.length ac, .int .u64 x] 41)).alloc (.cells #[.slice ba k.length bc, .int .u64 x] 41)).cell? ⟨w.heap.size, 0, none⟩ = some (.slice aa k.length ac) := by simp
  (with_reducible refine (Hs.out _ t1).mono ?_)
  rintro e w1 ⟨rfl, ht1⟩
  have c1 := keepc ht1 id c0
  have t2 := t1.trans' ht1
  clear c0
  go_wp2_with (fail)
  (with_reducible refine (Ho.out _ t2).mono ?_)
  rintro e w2 ⟨rfl, ht2⟩
  go_wp2_with (fail)
  go_ret
  exact ⟨rfl, t2.ext_trans ht2⟩
end AskA
end Go.Proofs.YtclnnkacfanaiaaGreatDoor
