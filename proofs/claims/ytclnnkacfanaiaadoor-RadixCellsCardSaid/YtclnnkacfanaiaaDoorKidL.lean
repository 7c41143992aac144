/- The two tables of package kid, out of the condition on memory; the door's own heap meets it. -/
import Derived.Test.YtclnnkacfanaiaaDoorKidB
import Derived.Test.YtclnnkacfanaiaaDoorLaw
import Derived.Test.YtclnnkacfanaiaaDoorRows
import Derived.ProofKit
import Derived.LaidMore
import Derived.OpenShut
import Derived.Stop.Joined
import Derived.Laws.IdiomArrays
import Derived.Lib.SmallJoins
namespace Go.Proofs.YtclnnkacfanaiaaDoor
open Go.ChangeShapes Go.WideShapes Go.ChangeAt Go.RowKit
set_option linter.unusedVariables false
set_option linter.unusedSimpArgs false
namespace KidL
open KidA KidB
abbrev laidK : List (String × DataW Unit) := [("bramble/kid.room", Rows.laid_bramble_kid_room), ("bramble/kid.left", Rows.laid_bramble_kid_left)]
theorem gRoom : Tryd.prog.globalNamed "bramble/kid.room" = some 1 := by kernel_rfl
theorem gLeft : Tryd.prog.globalNamed "bramble/kid.left" = some 0 := by kernel_rfl
theorem tRoom : (Tryd.prog.globals[1]?).map (·.type) = some 130 := by kernel_rfl
theorem tLeft : (Tryd.prog.globals[0]?).map (·.type) = some 130 := by kernel_rfl
theorem door_met (os : Os) (args : Array Value) : laidMetH Tryd.prog laidK ((World.doorLaid Tryd.prog 400 os).forCall (fun _ _ => 0) ⟨#[], args, []⟩).memory :=
  laidMetH_of_parts3 (fuel := 8) (laidMet_of_run' 8 (by kernel_rfl) (by kernel_rfl)) (by kernel_rfl) (by kernel_rfl)
theorem four_cells {H : Type} {enc : TypeId × Value → H} {W : World} {base : Nat} {spare : Nat → Bool} {held : Bool} {fuel : Nat} {cs : Array Value} {p : List MemPlace} {k0 k1 k2 k3 : Int}
    (h : DataW.trod enc Tryd.prog W base spare held fuel 130 cs.toList = some (.agg [.lit (.int .i64 k0), .lit (.int .i64 k1), .lit (.int .i64 k2), .lit (.int .i64 k3)], p)) : cs = #[.int .i64 k0, .int .i64 k1, .int .i64 k2, .int .i64 k3] := by
  obtain ⟨xs, m, _, _, hlen, _, _⟩ := DataW.trod_array Tryd.underlying130 h
  have hsz : cs.size = 4 := by
    have : Tryd.prog.cellsOf 130 = 4 := by kernel_rfl
    simpa [this] using hlen
  obtain ⟨c0, c1, c2, c3, rfl⟩ := Go.Joins.array4 hsz
  obtain ⟨y0, y1, y2, y3, n, hx, h0, h1, h2, h3⟩ := trod_array4 Tryd.underlying130 (by kernel_rfl) h
  obtain ⟨x0, e0, q0, _⟩ := DataW.trod_int Tryd.underlying3 h0
  obtain ⟨x1, e1, q1, _⟩ := DataW.trod_int Tryd.underlying3 h1
  obtain ⟨x2, e2, q2, _⟩ := DataW.trod_int Tryd.underlying3 h2
  obtain ⟨x3, e3, q3, _⟩ := DataW.trod_int Tryd.underlying3 h3
  subst q0; subst q1; subst q2; subst q3
  simp only [List.cons.injEq, and_true] at e0 e1 e2 e3
  subst e0; subst e1; subst e2; subst e3
  simp only [Prod.mk.injEq, DataW.agg.injEq, List.cons.injEq, DataW.lit.injEq, Lit.int.injEq, true_and, and_true] at hx
  obtain ⟨⟨rfl, rfl, rfl, rfl⟩, _⟩ := hx
  rfl
theorem of_laid {W : World} (h : laidMetH Tryd.prog laidK W) : Tb W := by
  rw [MakeChecks.laidMetH_plain _ _ _ (by kernel_rfl)] at h
  obtain ⟨ps, ⟨g0, t0, cs0, f0, p0, q0, hg0, ht0, hv0, hd0, ⟨g1, t1, cs1, f1, p1, q1, hg1, ht1, hv1, hd1, _, _⟩, _⟩, _, _⟩ := h
  obtain rfl := Option.some.inj (gRoom.symm.trans hg0)
  obtain rfl := Option.some.inj (gLeft.symm.trans hg1)
  obtain rfl := Option.some.inj (tRoom.symm.trans ht0)
  obtain rfl := Option.some.inj (tLeft.symm.trans ht1)
  have e0 := four_cells hd0
  have e1 := four_cells hd1
  subst e0; subst e1
  exact ⟨World.var?_cell hg0 hv0 0, World.var?_cell hg0 hv0 1, World.var?_cell hg0 hv0 2, World.var?_cell hg0 hv0 3, World.var?_cell hg1 hv1 0, World.var?_cell hg1 hv1 1, World.var?_cell hg1 hv1 2, World.var?_cell hg1 hv1 3⟩
/-- where the room alone is laid -/
abbrev laidR : List (String × DataW Unit) := [("bramble/kid.room", Rows.laid_bramble_kid_room)]
theorem door_metR (os : Os) (args : Array Value) : laidMetH Tryd.prog laidR ((World.doorLaid Tryd.prog 400 os).forCall (fun _ _ => 0) ⟨#[], args, []⟩).memory :=
  laidMetH_of_parts3 (fuel := 8) (laidMet_of_run' 8 (by kernel_rfl) (by kernel_rfl)) (by kernel_rfl) (by kernel_rfl)
theorem of_laidR {W : World} (h : laidMetH Tryd.prog laidR W) : Tr W := by
  rw [MakeChecks.laidMetH_plain _ _ _ (by kernel_rfl)] at h
  obtain ⟨ps, ⟨g0, t0, cs0, f0, p0, q0, hg0, ht0, hv0, hd0, _, _⟩, _, _⟩ := h
  obtain rfl := Option.some.inj (gRoom.symm.trans hg0)
  obtain rfl := Option.some.inj (tRoom.symm.trans ht0)
  have e0 := four_cells hd0
  subst e0
  exact ⟨World.var?_cell hg0 hv0 0, World.var?_cell hg0 hv0 1, World.var?_cell hg0 hv0 2, World.var?_cell hg0 hv0 3⟩
end KidL
end Go.Proofs.YtclnnkacfanaiaaDoor
