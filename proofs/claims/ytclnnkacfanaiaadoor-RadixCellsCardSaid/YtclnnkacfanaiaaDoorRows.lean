/-
  NARROWER THAN 'FOR EVERY INPUT', by the rows' own cells (each row's printed sentence says how): RadixBegins: laid · RadixOrders: laid · RadixLeaves: laid · RadixKinds: laid · RadixRoom: laid · RadixCells: laid · RadixBuilds: laid · RadixUndoes: laid · RadixNone: laid.
  DERIVED. THE GIVEN ROWS OF THIS SEAT. 9 by the template 'for every input the law returns true; each argument reads behind the call as it read before'; 0 by the template 'total and deterministic' (their statements: YtclnnkacfanaiaaDoorTotals.lean).
  GIVEN WITH THE SEED: the statements are not yours to turn. If you find one false, say at which input.
  Laid BY PROGRAM, IN A SANDBOX (cutbox-rows.mjs): the forced cells as the released guide's own fill.sh prints them over the translation 709b354691fa2c2a… (all of the seat's roots in one cut). By AI agents, Wed Nov 11 2026. No macro, syntax, notation, axiom, sorry.
-/
import Derived.Test.YtclnnkacfanaiaaDoorChecked
import GoSem.Claim
import GoSem.ClaimJoined
import GoSem.ClaimMapViews
import Derived.JoinedTies
import Derived.KernelRfl
namespace Go.Proofs.YtclnnkacfanaiaaDoor
/- THE CELL 'sum', in the pinned program and in every row, IS THE sha256 OF THE DUMP (.gsa) THAT YtclnnkacfanaiaaDoorProg.lean LOADS. Nothing in Lean hashes anything: it is a label: what it is worth is what the hold of that sum in a sandbox is worth. -/
noncomputable def Tryd.pinned : Pinned := { name := "ytclnnkacfanaiaadoor", sum := "709b354691fa2c2ac45173ba5910d413ebc8b7c92e6beb78e129aa1dd4f43c15", checked := Tryd.checked }
namespace Rows
def none {H : Type} : Left H := { results := [], args := [] }

/- WHAT THE LISTED PACKAGE-LEVEL VARIABLES READ AS WHEN THE CALL BEGINS. Each datum BY PROGRAM (the guide's laid-datum.mjs) off the statement by which the dump's own 'gosem.cut.vars' lays the variable. In a bare row this is a premise. The card (YtclnnkacfanaiaaDoorCards.lean) ties it to the program's text. -/
def laid_bramble_kid_room {H : Type} : DataW H := .agg [.lit (.int .i64 4), .lit (.int .i64 16), .lit (.int .i64 48), .lit (.int .i64 256)]
def laid_bramble_kid_left {H : Type} : DataW H := .agg [.lit (.int .i64 (-1)), .lit (.int .i64 3), .lit (.int .i64 12), .lit (.int .i64 40)]

/-- 'bramblelaw14.RadixBegins': WHATEVER THE INPUT: true; the input reads as it did. -/
def radixBeginsSpec : ChangeSpec := { name := "radixBegins", fn := fun _ => fun
  | [d1, d2] => { results := [.lit (.bool true)], args := [d1, d2] }
  | _ => none }
def radixBeginsRow : OpenClaim := { program := "ytclnnkacfanaiaadoor", sum := "709b354691fa2c2ac45173ba5910d413ebc8b7c92e6beb78e129aa1dd4f43c15", func := "bramble/bramblelaw14.RadixBegins", spec := "radixBegins", inPlace := ["internal/bytealg.Compare", "slices.overlaps[bramble/api.Pair]"], unfollowed := true, recurses := true, named := ["bramble/kid.room"], apart := false, laid := [("bramble/kid.room", laid_bramble_kid_room)] }
def RadixBeginsSaid : Prop := radixBeginsRow.holds Tryd.pinned (OpenSpec.ofChange radixBeginsSpec)

/-- ITS FALSE NEIGHBOUR: 'it returns false'. Refute it at one input. -/
def radixBeginsWrong : ChangeSpec := { name := "radixBegins", fn := fun _ => fun
  | [d1, d2] => { results := [.lit (.bool false)], args := [d1, d2] }
  | _ => none }
def RadixBeginsWrongFalsely : Prop := radixBeginsRow.holds Tryd.pinned (OpenSpec.ofChange radixBeginsWrong)

/-- 'bramblelaw14.RadixOrders': WHATEVER THE INPUT: true; the input reads as it did. -/
def radixOrdersSpec : ChangeSpec := { name := "radixOrders", fn := fun _ => fun
  | [d1, d2] => { results := [.lit (.bool true)], args := [d1, d2] }
  | _ => none }
def radixOrdersRow : OpenClaim := { program := "ytclnnkacfanaiaadoor", sum := "709b354691fa2c2ac45173ba5910d413ebc8b7c92e6beb78e129aa1dd4f43c15", func := "bramble/bramblelaw14.RadixOrders", spec := "radixOrders", inPlace := ["internal/bytealg.Compare", "slices.overlaps[bramble/api.Pair]"], unfollowed := true, recurses := true, named := ["bramble/kid.room"], apart := false, laid := [("bramble/kid.room", laid_bramble_kid_room)] }
def RadixOrdersSaid : Prop := radixOrdersRow.holds Tryd.pinned (OpenSpec.ofChange radixOrdersSpec)

/-- ITS FALSE NEIGHBOUR: 'it returns false'. Refute it at one input. -/
def radixOrdersWrong : ChangeSpec := { name := "radixOrders", fn := fun _ => fun
  | [d1, d2] => { results := [.lit (.bool false)], args := [d1, d2] }
  | _ => none }
def RadixOrdersWrongFalsely : Prop := radixOrdersRow.holds Tryd.pinned (OpenSpec.ofChange radixOrdersWrong)

/-- 'bramblelaw14.RadixLeaves': WHATEVER THE INPUT: true; the input reads as it did. -/
def radixLeavesSpec : ChangeSpec := { name := "radixLeaves", fn := fun _ => fun
  | [d] => { results := [.lit (.bool true)], args := [d] }
  | _ => none }
def radixLeavesRow : OpenClaim := { program := "ytclnnkacfanaiaadoor", sum := "709b354691fa2c2ac45173ba5910d413ebc8b7c92e6beb78e129aa1dd4f43c15", func := "bramble/bramblelaw14.RadixLeaves", spec := "radixLeaves", inPlace := ["internal/bytealg.Compare", "slices.overlaps[bramble/api.Pair]"], unfollowed := true, recurses := true, named := ["bramble/kid.room"], apart := false, laid := [("bramble/kid.room", laid_bramble_kid_room)] }
def RadixLeavesSaid : Prop := radixLeavesRow.holds Tryd.pinned (OpenSpec.ofChange radixLeavesSpec)

/-- ITS FALSE NEIGHBOUR: 'it returns false'. Refute it at one input. -/
def radixLeavesWrong : ChangeSpec := { name := "radixLeaves", fn := fun _ => fun
  | [d] => { results := [.lit (.bool false)], args := [d] }
  | _ => none }
def RadixLeavesWrongFalsely : Prop := radixLeavesRow.holds Tryd.pinned (OpenSpec.ofChange radixLeavesWrong)

/-- 'bramblelaw14.RadixKinds': WHATEVER THE INPUT: true; the input reads as it did. -/
def radixKindsSpec : ChangeSpec := { name := "radixKinds", fn := fun _ => fun
  | [d1, d2, d3, d4] => { results := [.lit (.bool true)], args := [d1, d2, d3, d4] }
  | _ => none }
def radixKindsRow : OpenClaim := { program := "ytclnnkacfanaiaadoor", sum := "709b354691fa2c2ac45173ba5910d413ebc8b7c92e6beb78e129aa1dd4f43c15", func := "bramble/bramblelaw14.RadixKinds", spec := "radixKinds", inPlace := ["internal/bytealg.Compare", "slices.overlaps[bramble/api.Pair]"], unfollowed := true, recurses := true, named := ["bramble/kid.room", "bramble/kid.left"], apart := false, laid := [("bramble/kid.room", laid_bramble_kid_room), ("bramble/kid.left", laid_bramble_kid_left)] }
def RadixKindsSaid : Prop := radixKindsRow.holds Tryd.pinned (OpenSpec.ofChange radixKindsSpec)

/-- ITS FALSE NEIGHBOUR: 'it returns false'. Refute it at one input. -/
def radixKindsWrong : ChangeSpec := { name := "radixKinds", fn := fun _ => fun
  | [d1, d2, d3, d4] => { results := [.lit (.bool false)], args := [d1, d2, d3, d4] }
  | _ => none }
def RadixKindsWrongFalsely : Prop := radixKindsRow.holds Tryd.pinned (OpenSpec.ofChange radixKindsWrong)

/-- 'bramblelaw14.RadixRoom': WHATEVER THE INPUT: true; the input reads as it did. -/
def radixRoomSpec : ChangeSpec := { name := "radixRoom", fn := fun _ => fun
  | [d1, d2, d3] => { results := [.lit (.bool true)], args := [d1, d2, d3] }
  | _ => none }
def radixRoomRow : OpenClaim := { program := "ytclnnkacfanaiaadoor", sum := "709b354691fa2c2ac45173ba5910d413ebc8b7c92e6beb78e129aa1dd4f43c15", func := "bramble/bramblelaw14.RadixRoom", spec := "radixRoom", inPlace := ["internal/bytealg.Compare", "slices.overlaps[bramble/api.Pair]"], unfollowed := true, recurses := true, named := ["bramble/kid.room", "bramble/kid.left"], apart := false, laid := [("bramble/kid.room", laid_bramble_kid_room), ("bramble/kid.left", laid_bramble_kid_left)] }
def RadixRoomSaid : Prop := radixRoomRow.holds Tryd.pinned (OpenSpec.ofChange radixRoomSpec)

/-- ITS FALSE NEIGHBOUR: 'it returns false'. Refute it at one input. -/
def radixRoomWrong : ChangeSpec := { name := "radixRoom", fn := fun _ => fun
  | [d1, d2, d3] => { results := [.lit (.bool false)], args := [d1, d2, d3] }
  | _ => none }
def RadixRoomWrongFalsely : Prop := radixRoomRow.holds Tryd.pinned (OpenSpec.ofChange radixRoomWrong)

/-- 'bramblelaw14.RadixCells': WHATEVER THE INPUT: true; the input reads as it did. -/
def radixCellsSpec : ChangeSpec := { name := "radixCells", fn := fun _ => fun
  | [d1, d2] => { results := [.lit (.bool true)], args := [d1, d2] }
  | _ => none }
def radixCellsRow : OpenClaim := { program := "ytclnnkacfanaiaadoor", sum := "709b354691fa2c2ac45173ba5910d413ebc8b7c92e6beb78e129aa1dd4f43c15", func := "bramble/bramblelaw14.RadixCells", spec := "radixCells", inPlace := ["internal/bytealg.Compare", "slices.overlaps[bramble/api.Pair]"], unfollowed := true, recurses := true, named := ["bramble/kid.room", "bramble/kid.left"], apart := false, laid := [("bramble/kid.room", laid_bramble_kid_room), ("bramble/kid.left", laid_bramble_kid_left)] }
def RadixCellsSaid : Prop := radixCellsRow.holds Tryd.pinned (OpenSpec.ofChange radixCellsSpec)

/-- ITS FALSE NEIGHBOUR: 'it returns false'. Refute it at one input. -/
def radixCellsWrong : ChangeSpec := { name := "radixCells", fn := fun _ => fun
  | [d1, d2] => { results := [.lit (.bool false)], args := [d1, d2] }
  | _ => none }
def RadixCellsWrongFalsely : Prop := radixCellsRow.holds Tryd.pinned (OpenSpec.ofChange radixCellsWrong)

/-- 'bramblelaw14.RadixBuilds': WHATEVER THE INPUT: true; the input reads as it did. -/
def radixBuildsSpec : ChangeSpec := { name := "radixBuilds", fn := fun _ => fun
  | [d1, d2, d3] => { results := [.lit (.bool true)], args := [d1, d2, d3] }
  | _ => none }
def radixBuildsRow : OpenClaim := { program := "ytclnnkacfanaiaadoor", sum := "709b354691fa2c2ac45173ba5910d413ebc8b7c92e6beb78e129aa1dd4f43c15", func := "bramble/bramblelaw14.RadixBuilds", spec := "radixBuilds", inPlace := ["internal/bytealg.Compare", "slices.overlaps[bramble/api.Pair]"], unfollowed := true, recurses := true, named := ["bramble/kid.room", "bramble/kid.left"], apart := false, laid := [("bramble/kid.room", laid_bramble_kid_room), ("bramble/kid.left", laid_bramble_kid_left)] }
def RadixBuildsSaid : Prop := radixBuildsRow.holds Tryd.pinned (OpenSpec.ofChange radixBuildsSpec)

/-- ITS FALSE NEIGHBOUR: 'it returns false'. Refute it at one input. -/
def radixBuildsWrong : ChangeSpec := { name := "radixBuilds", fn := fun _ => fun
  | [d1, d2, d3] => { results := [.lit (.bool false)], args := [d1, d2, d3] }
  | _ => none }
def RadixBuildsWrongFalsely : Prop := radixBuildsRow.holds Tryd.pinned (OpenSpec.ofChange radixBuildsWrong)

/-- 'bramblelaw14.RadixUndoes': WHATEVER THE INPUT: true; the input reads as it did. -/
def radixUndoesSpec : ChangeSpec := { name := "radixUndoes", fn := fun _ => fun
  | [d1, d2] => { results := [.lit (.bool true)], args := [d1, d2] }
  | _ => none }
def radixUndoesRow : OpenClaim := { program := "ytclnnkacfanaiaadoor", sum := "709b354691fa2c2ac45173ba5910d413ebc8b7c92e6beb78e129aa1dd4f43c15", func := "bramble/bramblelaw14.RadixUndoes", spec := "radixUndoes", inPlace := ["internal/bytealg.Compare", "slices.overlaps[bramble/api.Pair]"], unfollowed := true, recurses := true, named := ["bramble/kid.room", "bramble/kid.left"], apart := false, laid := [("bramble/kid.room", laid_bramble_kid_room), ("bramble/kid.left", laid_bramble_kid_left)] }
def RadixUndoesSaid : Prop := radixUndoesRow.holds Tryd.pinned (OpenSpec.ofChange radixUndoesSpec)

/-- ITS FALSE NEIGHBOUR: 'it returns false'. Refute it at one input. -/
def radixUndoesWrong : ChangeSpec := { name := "radixUndoes", fn := fun _ => fun
  | [d1, d2] => { results := [.lit (.bool false)], args := [d1, d2] }
  | _ => none }
def RadixUndoesWrongFalsely : Prop := radixUndoesRow.holds Tryd.pinned (OpenSpec.ofChange radixUndoesWrong)

/-- 'bramblelaw14.RadixNone': WHATEVER THE INPUT: true; the input reads as it did. -/
def radixNoneSpec : ChangeSpec := { name := "radixNone", fn := fun _ => fun
  | [d1, d2] => { results := [.lit (.bool true)], args := [d1, d2] }
  | _ => none }
def radixNoneRow : OpenClaim := { program := "ytclnnkacfanaiaadoor", sum := "709b354691fa2c2ac45173ba5910d413ebc8b7c92e6beb78e129aa1dd4f43c15", func := "bramble/bramblelaw14.RadixNone", spec := "radixNone", inPlace := ["internal/bytealg.Compare", "slices.overlaps[bramble/api.Pair]"], unfollowed := true, recurses := true, named := ["bramble/kid.room", "bramble/kid.left"], apart := false, laid := [("bramble/kid.room", laid_bramble_kid_room), ("bramble/kid.left", laid_bramble_kid_left)] }
def RadixNoneSaid : Prop := radixNoneRow.holds Tryd.pinned (OpenSpec.ofChange radixNoneSpec)

/-- ITS FALSE NEIGHBOUR: 'it returns false'. Refute it at one input. -/
def radixNoneWrong : ChangeSpec := { name := "radixNone", fn := fun _ => fun
  | [d1, d2] => { results := [.lit (.bool false)], args := [d1, d2] }
  | _ => none }
def RadixNoneWrongFalsely : Prop := radixNoneRow.holds Tryd.pinned (OpenSpec.ofChange radixNoneWrong)

/- THE SECOND FORM. 'bulk': how many values and letters a reading holds, each counted each time it is reached (what is shared counts as often as it is met; a slice's spare places count too). A statement '..UptoSaid' is the law's where the arguments, and the package variables that the reading takes, are together of bulk at most 1048576: NARROWER than '..Said'. Prove '..Said' where nothing that the law and all that it calls make is longer than what came in: it says more and counts as full. Else prove '..UptoSaid'. A law counts once. -/
mutual
def uptoBulk {H : Type} : DataW H → Nat
  | .lit (.string bytes) => bytes.length + 1
  | .lit _ => 1
  | .nil => 1
  | .ptr d => uptoBulk d + 1
  | .slice elems spare => uptoBulkAll elems + uptoBulkAll spare + 1
  | .agg parts => uptoBulkAll parts + 1
  | .iface _ d => uptoBulk d + 1
  | .map entries => uptoBulkEntries entries + 1
  | .held _ => 1
def uptoBulkAll {H : Type} : List (DataW H) → Nat
  | [] => 0
  | d :: r => uptoBulk d + uptoBulkAll r
def uptoBulkEntries {H : Type} : List (Lit × DataW H) → Nat
  | [] => 0
  | x :: r => uptoBulkEntry x + uptoBulkEntries r
def uptoBulkEntry {H : Type} : Lit × DataW H → Nat
  | (.string bytes, d) => bytes.length + uptoBulk d + 1
  | (_, d) => uptoBulk d + 1
 end
def uptoSmall : (H : Type) → List (DataW H) → Bool := fun _ ds => decide (uptoBulkAll ds ≤ 1048576)
def OpenSpec.upto (s : _root_.Go.ChangeSpec) : _root_.Go.OpenSpec := { _root_.Go.OpenSpec.ofChange s with cond := some uptoSmall }

/-- 'bramblelaw14.RadixBegins', WHERE WHAT IT READS IS OF BULK AT MOST 1048576: true; the input reads as it did. -/
def radixBeginsUptoRow : OpenClaim := { program := "ytclnnkacfanaiaadoor", sum := "709b354691fa2c2ac45173ba5910d413ebc8b7c92e6beb78e129aa1dd4f43c15", func := "bramble/bramblelaw14.RadixBegins", spec := "radixBegins", inPlace := ["internal/bytealg.Compare", "slices.overlaps[bramble/api.Pair]"], unfollowed := true, recurses := true, named := ["bramble/kid.room"], apart := false, laid := [("bramble/kid.room", laid_bramble_kid_room)], narrowed := true }
def RadixBeginsUptoSaid : Prop := radixBeginsUptoRow.holds Tryd.pinned (OpenSpec.upto radixBeginsSpec)

/-- 'bramblelaw14.RadixOrders', WHERE WHAT IT READS IS OF BULK AT MOST 1048576: true; the input reads as it did. -/
def radixOrdersUptoRow : OpenClaim := { program := "ytclnnkacfanaiaadoor", sum := "709b354691fa2c2ac45173ba5910d413ebc8b7c92e6beb78e129aa1dd4f43c15", func := "bramble/bramblelaw14.RadixOrders", spec := "radixOrders", inPlace := ["internal/bytealg.Compare", "slices.overlaps[bramble/api.Pair]"], unfollowed := true, recurses := true, named := ["bramble/kid.room"], apart := false, laid := [("bramble/kid.room", laid_bramble_kid_room)], narrowed := true }
def RadixOrdersUptoSaid : Prop := radixOrdersUptoRow.holds Tryd.pinned (OpenSpec.upto radixOrdersSpec)

/-- 'bramblelaw14.RadixLeaves', WHERE WHAT IT READS IS OF BULK AT MOST 1048576: true; the input reads as it did. -/
def radixLeavesUptoRow : OpenClaim := { program := "ytclnnkacfanaiaadoor", sum := "709b354691fa2c2ac45173ba5910d413ebc8b7c92e6beb78e129aa1dd4f43c15", func := "bramble/bramblelaw14.RadixLeaves", spec := "radixLeaves", inPlace := ["internal/bytealg.Compare", "slices.overlaps[bramble/api.Pair]"], unfollowed := true, recurses := true, named := ["bramble/kid.room"], apart := false, laid := [("bramble/kid.room", laid_bramble_kid_room)], narrowed := true }
def RadixLeavesUptoSaid : Prop := radixLeavesUptoRow.holds Tryd.pinned (OpenSpec.upto radixLeavesSpec)

/-- 'bramblelaw14.RadixKinds', WHERE WHAT IT READS IS OF BULK AT MOST 1048576: true; the input reads as it did. -/
def radixKindsUptoRow : OpenClaim := { program := "ytclnnkacfanaiaadoor", sum := "709b354691fa2c2ac45173ba5910d413ebc8b7c92e6beb78e129aa1dd4f43c15", func := "bramble/bramblelaw14.RadixKinds", spec := "radixKinds", inPlace := ["internal/bytealg.Compare", "slices.overlaps[bramble/api.Pair]"], unfollowed := true, recurses := true, named := ["bramble/kid.room", "bramble/kid.left"], apart := false, laid := [("bramble/kid.room", laid_bramble_kid_room), ("bramble/kid.left", laid_bramble_kid_left)], narrowed := true }
def RadixKindsUptoSaid : Prop := radixKindsUptoRow.holds Tryd.pinned (OpenSpec.upto radixKindsSpec)

/-- 'bramblelaw14.RadixRoom', WHERE WHAT IT READS IS OF BULK AT MOST 1048576: true; the input reads as it did. -/
def radixRoomUptoRow : OpenClaim := { program := "ytclnnkacfanaiaadoor", sum := "709b354691fa2c2ac45173ba5910d413ebc8b7c92e6beb78e129aa1dd4f43c15", func := "bramble/bramblelaw14.RadixRoom", spec := "radixRoom", inPlace := ["internal/bytealg.Compare", "slices.overlaps[bramble/api.Pair]"], unfollowed := true, recurses := true, named := ["bramble/kid.room", "bramble/kid.left"], apart := false, laid := [("bramble/kid.room", laid_bramble_kid_room), ("bramble/kid.left", laid_bramble_kid_left)], narrowed := true }
def RadixRoomUptoSaid : Prop := radixRoomUptoRow.holds Tryd.pinned (OpenSpec.upto radixRoomSpec)

/-- 'bramblelaw14.RadixCells', WHERE WHAT IT READS IS OF BULK AT MOST 1048576: true; the input reads as it did. -/
def radixCellsUptoRow : OpenClaim := { program := "ytclnnkacfanaiaadoor", sum := "709b354691fa2c2ac45173ba5910d413ebc8b7c92e6beb78e129aa1dd4f43c15", func := "bramble/bramblelaw14.RadixCells", spec := "radixCells", inPlace := ["internal/bytealg.Compare", "slices.overlaps[bramble/api.Pair]"], unfollowed := true, recurses := true, named := ["bramble/kid.room", "bramble/kid.left"], apart := false, laid := [("bramble/kid.room", laid_bramble_kid_room), ("bramble/kid.left", laid_bramble_kid_left)], narrowed := true }
def RadixCellsUptoSaid : Prop := radixCellsUptoRow.holds Tryd.pinned (OpenSpec.upto radixCellsSpec)

/-- 'bramblelaw14.RadixBuilds', WHERE WHAT IT READS IS OF BULK AT MOST 1048576: true; the input reads as it did. -/
def radixBuildsUptoRow : OpenClaim := { program := "ytclnnkacfanaiaadoor", sum := "709b354691fa2c2ac45173ba5910d413ebc8b7c92e6beb78e129aa1dd4f43c15", func := "bramble/bramblelaw14.RadixBuilds", spec := "radixBuilds", inPlace := ["internal/bytealg.Compare", "slices.overlaps[bramble/api.Pair]"], unfollowed := true, recurses := true, named := ["bramble/kid.room", "bramble/kid.left"], apart := false, laid := [("bramble/kid.room", laid_bramble_kid_room), ("bramble/kid.left", laid_bramble_kid_left)], narrowed := true }
def RadixBuildsUptoSaid : Prop := radixBuildsUptoRow.holds Tryd.pinned (OpenSpec.upto radixBuildsSpec)

/-- 'bramblelaw14.RadixUndoes', WHERE WHAT IT READS IS OF BULK AT MOST 1048576: true; the input reads as it did. -/
def radixUndoesUptoRow : OpenClaim := { program := "ytclnnkacfanaiaadoor", sum := "709b354691fa2c2ac45173ba5910d413ebc8b7c92e6beb78e129aa1dd4f43c15", func := "bramble/bramblelaw14.RadixUndoes", spec := "radixUndoes", inPlace := ["internal/bytealg.Compare", "slices.overlaps[bramble/api.Pair]"], unfollowed := true, recurses := true, named := ["bramble/kid.room", "bramble/kid.left"], apart := false, laid := [("bramble/kid.room", laid_bramble_kid_room), ("bramble/kid.left", laid_bramble_kid_left)], narrowed := true }
def RadixUndoesUptoSaid : Prop := radixUndoesUptoRow.holds Tryd.pinned (OpenSpec.upto radixUndoesSpec)

/-- 'bramblelaw14.RadixNone', WHERE WHAT IT READS IS OF BULK AT MOST 1048576: true; the input reads as it did. -/
def radixNoneUptoRow : OpenClaim := { program := "ytclnnkacfanaiaadoor", sum := "709b354691fa2c2ac45173ba5910d413ebc8b7c92e6beb78e129aa1dd4f43c15", func := "bramble/bramblelaw14.RadixNone", spec := "radixNone", inPlace := ["internal/bytealg.Compare", "slices.overlaps[bramble/api.Pair]"], unfollowed := true, recurses := true, named := ["bramble/kid.room", "bramble/kid.left"], apart := false, laid := [("bramble/kid.room", laid_bramble_kid_room), ("bramble/kid.left", laid_bramble_kid_left)], narrowed := true }
def RadixNoneUptoSaid : Prop := radixNoneUptoRow.holds Tryd.pinned (OpenSpec.upto radixNoneSpec)

end Rows
end Go.Proofs.YtclnnkacfanaiaaDoor
