/-
  DERIVED. GIVEN WITH THE SEED: THE PROGRAM's TIES (one call each: nine closed facts by the kernel) AND EACH ROW's TIE, after the 31st guide's Derived/Test/Toyas{Tie, Card}.lean. No idea stands in it: it is a product of the set-up. Laid BY PROGRAM, IN A SANDBOX (cutbox-door.mjs). By AI agents, Wed Nov 11 2026. No macro, syntax, notation, axiom, sorry.
-/
import Derived.Test.YtclnnkacfanaiaaGreatDoorRows
import Derived.LaidByTextLater
import Derived.SevenTiedAt
import Derived.LaidSub
import Derived.LaidOnce
namespace Go.Proofs.YtclnnkacfanaiaaGreatDoor
open Go
set_option maxRecDepth 100000
theorem seatTie1 : Tryz.prog.laidByTextLater [("bramble/kid.room", Rows.laid_bramble_kid_room), ("bramble/kid.left", Rows.laid_bramble_kid_left)] [.data, .data] true :=
  Program.laidByTextLater_by_one 19 8 5 (by kernel_rfl) (by kernel_rfl) (by kernel_rfl) (by kernel_rfl) (by kernel_rfl) (by kernel_rfl) (fun _ _ => by kernel_rfl)
theorem noOwnUnsafe : Tryz.pinned.checked.prog.headLifts.contains "ownunsafe" = false := by kernel_rfl
theorem tie : Tryz.prog.laidByTextLater [("bramble/kid.room", Rows.laid_bramble_kid_room)] [.data] true :=
  Program.laidByTextLater.sub seatTie1 ["bramble/kid.room"] (by kernel_rfl) (by kernel_rfl)
theorem radixAsks_row_tie : Rows.radixAsksRow.laidByTextAt .later Tryz.pinned [.data] true :=
  OpenClaim.laidByTextAt_later rfl rfl tie noOwnUnsafe
theorem tie2 : Tryz.prog.laidByTextLater [("bramble/kid.room", Rows.laid_bramble_kid_room), ("bramble/kid.left", Rows.laid_bramble_kid_left)] [.data, .data] true :=
  Program.laidByTextLater.sub seatTie1 ["bramble/kid.room", "bramble/kid.left"] (by kernel_rfl) (by kernel_rfl)
theorem radixScript_row_tie : Rows.radixScriptRow.laidByTextAt .later Tryz.pinned [.data, .data] true :=
  OpenClaim.laidByTextAt_later rfl rfl tie2 noOwnUnsafe
theorem radixAsksUpto_row_tie : Rows.radixAsksUptoRow.laidByTextAt .later Tryz.pinned [.data] true :=
  OpenClaim.laidByTextAt_later rfl rfl tie noOwnUnsafe
theorem radixScriptUpto_row_tie : Rows.radixScriptUptoRow.laidByTextAt .later Tryz.pinned [.data, .data] true :=
  OpenClaim.laidByTextAt_later rfl rfl tie2 noOwnUnsafe
end Go.Proofs.YtclnnkacfanaiaaGreatDoor
