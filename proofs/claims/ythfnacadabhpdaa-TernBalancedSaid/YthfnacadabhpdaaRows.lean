/-
  No cell of these rows narrows 'for every input' (looked for: loops, veiled, ifaces, maps, wideKeys, modest, calm, conditions, laid).
  DERIVED. THE GIVEN ROWS OF THIS SEAT. 11 by the template 'for every input the law returns true; each argument reads behind the call as it read before'; 0 by the template 'total and deterministic' (their statements: YthfnacadabhpdaaTotals.lean).
  GIVEN WITH THE SEED: the statements are not yours to turn. If you find one false, say at which input.
  Laid BY PROGRAM, IN A SANDBOX (cutbox-rows.mjs): the forced cells as the released guide's own fill.sh prints them over the translation 3ec35b454bee3e0d… (all of the seat's roots in one cut). By AI agents, Wed Nov 11 2026. No macro, syntax, notation, axiom, sorry.
-/
import Derived.Test.YthfnacadabhpdaaChecked
import GoSem.Claim
import GoSem.ClaimJoined
import GoSem.ClaimMapViews
import Derived.JoinedTies
import Derived.KernelRfl
namespace Go.Proofs.Ythfnacadabhpdaa
/- THE CELL 'sum', in the pinned program and in every row, IS THE sha256 OF THE DUMP (.gsa) THAT YthfnacadabhpdaaProg.lean LOADS. Nothing in Lean hashes anything: it is a label: what it is worth is what the hold of that sum in a sandbox is worth. -/
noncomputable def Try.pinned : Pinned := { name := "ythfnacadabhpdaa", sum := "3ec35b454bee3e0d207720cc74c40ee5badb6bf9d54c74316dfc7ffdfea21d3f", checked := Try.checked }
namespace Rows
def none {H : Type} : Left H := { results := [], args := [] }

/-- 'bramblelaw13.TernBegins': WHATEVER THE INPUT: true; the input reads as it did. -/
def ternBeginsSpec : ChangeSpec := { name := "ternBegins", fn := fun _ => fun
  | [d1, d2] => { results := [.lit (.bool true)], args := [d1, d2] }
  | _ => none }
def ternBeginsRow : OpenClaim := { program := "ythfnacadabhpdaa", sum := "3ec35b454bee3e0d207720cc74c40ee5badb6bf9d54c74316dfc7ffdfea21d3f", func := "bramble/bramblelaw13.TernBegins", spec := "ternBegins", inPlace := ["internal/bytealg.Compare", "slices.overlaps[bramble/api.Pair]"], unfollowed := true, recurses := true, apart := false }
def TernBeginsSaid : Prop := ternBeginsRow.holds Try.pinned (OpenSpec.ofChange ternBeginsSpec)

/-- ITS FALSE NEIGHBOUR: 'it returns false'. Refute it at one input. -/
def ternBeginsWrong : ChangeSpec := { name := "ternBegins", fn := fun _ => fun
  | [d1, d2] => { results := [.lit (.bool false)], args := [d1, d2] }
  | _ => none }
def TernBeginsWrongFalsely : Prop := ternBeginsRow.holds Try.pinned (OpenSpec.ofChange ternBeginsWrong)

/-- 'bramblelaw13.TernOrders': WHATEVER THE INPUT: true; the input reads as it did. -/
def ternOrdersSpec : ChangeSpec := { name := "ternOrders", fn := fun _ => fun
  | [d1, d2] => { results := [.lit (.bool true)], args := [d1, d2] }
  | _ => none }
def ternOrdersRow : OpenClaim := { program := "ythfnacadabhpdaa", sum := "3ec35b454bee3e0d207720cc74c40ee5badb6bf9d54c74316dfc7ffdfea21d3f", func := "bramble/bramblelaw13.TernOrders", spec := "ternOrders", inPlace := ["internal/bytealg.Compare", "slices.overlaps[bramble/api.Pair]"], unfollowed := true, recurses := true, apart := false }
def TernOrdersSaid : Prop := ternOrdersRow.holds Try.pinned (OpenSpec.ofChange ternOrdersSpec)

/-- ITS FALSE NEIGHBOUR: 'it returns false'. Refute it at one input. -/
def ternOrdersWrong : ChangeSpec := { name := "ternOrders", fn := fun _ => fun
  | [d1, d2] => { results := [.lit (.bool false)], args := [d1, d2] }
  | _ => none }
def TernOrdersWrongFalsely : Prop := ternOrdersRow.holds Try.pinned (OpenSpec.ofChange ternOrdersWrong)

/-- 'bramblelaw13.TernFull': WHATEVER THE INPUT: true; the input reads as it did. -/
def ternFullSpec : ChangeSpec := { name := "ternFull", fn := fun _ => fun
  | [d] => { results := [.lit (.bool true)], args := [d] }
  | _ => none }
def ternFullRow : OpenClaim := { program := "ythfnacadabhpdaa", sum := "3ec35b454bee3e0d207720cc74c40ee5badb6bf9d54c74316dfc7ffdfea21d3f", func := "bramble/bramblelaw13.TernFull", spec := "ternFull", inPlace := ["internal/bytealg.Compare", "slices.overlaps[bramble/api.Pair]"], unfollowed := true, recurses := true, apart := false }
def TernFullSaid : Prop := ternFullRow.holds Try.pinned (OpenSpec.ofChange ternFullSpec)

/-- ITS FALSE NEIGHBOUR: 'it returns false'. Refute it at one input. -/
def ternFullWrong : ChangeSpec := { name := "ternFull", fn := fun _ => fun
  | [d] => { results := [.lit (.bool false)], args := [d] }
  | _ => none }
def TernFullWrongFalsely : Prop := ternFullRow.holds Try.pinned (OpenSpec.ofChange ternFullWrong)

/-- 'bramblelaw13.TernRoom': WHATEVER THE INPUT: true; the input reads as it did. -/
def ternRoomSpec : ChangeSpec := { name := "ternRoom", fn := fun _ => fun
  | [d1, d2, d3] => { results := [.lit (.bool true)], args := [d1, d2, d3] }
  | _ => none }
def ternRoomRow : OpenClaim := { program := "ythfnacadabhpdaa", sum := "3ec35b454bee3e0d207720cc74c40ee5badb6bf9d54c74316dfc7ffdfea21d3f", func := "bramble/bramblelaw13.TernRoom", spec := "ternRoom", inPlace := ["internal/bytealg.Compare", "slices.overlaps[bramble/api.Pair]"], unfollowed := true, recurses := true, apart := false }
def TernRoomSaid : Prop := ternRoomRow.holds Try.pinned (OpenSpec.ofChange ternRoomSpec)

/-- ITS FALSE NEIGHBOUR: 'it returns false'. Refute it at one input. -/
def ternRoomWrong : ChangeSpec := { name := "ternRoom", fn := fun _ => fun
  | [d1, d2, d3] => { results := [.lit (.bool false)], args := [d1, d2, d3] }
  | _ => none }
def TernRoomWrongFalsely : Prop := ternRoomRow.holds Try.pinned (OpenSpec.ofChange ternRoomWrong)

/-- 'bramblelaw13.TernCells': WHATEVER THE INPUT: true; the input reads as it did. -/
def ternCellsSpec : ChangeSpec := { name := "ternCells", fn := fun _ => fun
  | [d1, d2] => { results := [.lit (.bool true)], args := [d1, d2] }
  | _ => none }
def ternCellsRow : OpenClaim := { program := "ythfnacadabhpdaa", sum := "3ec35b454bee3e0d207720cc74c40ee5badb6bf9d54c74316dfc7ffdfea21d3f", func := "bramble/bramblelaw13.TernCells", spec := "ternCells", inPlace := ["internal/bytealg.Compare", "slices.overlaps[bramble/api.Pair]"], unfollowed := true, recurses := true, apart := false }
def TernCellsSaid : Prop := ternCellsRow.holds Try.pinned (OpenSpec.ofChange ternCellsSpec)

/-- ITS FALSE NEIGHBOUR: 'it returns false'. Refute it at one input. -/
def ternCellsWrong : ChangeSpec := { name := "ternCells", fn := fun _ => fun
  | [d1, d2] => { results := [.lit (.bool false)], args := [d1, d2] }
  | _ => none }
def TernCellsWrongFalsely : Prop := ternCellsRow.holds Try.pinned (OpenSpec.ofChange ternCellsWrong)

/-- 'bramblelaw13.TernBalanced': WHATEVER THE INPUT: true; the input reads as it did. -/
def ternBalancedSpec : ChangeSpec := { name := "ternBalanced", fn := fun _ => fun
  | [d1, d2, d3] => { results := [.lit (.bool true)], args := [d1, d2, d3] }
  | _ => none }
def ternBalancedRow : OpenClaim := { program := "ythfnacadabhpdaa", sum := "3ec35b454bee3e0d207720cc74c40ee5badb6bf9d54c74316dfc7ffdfea21d3f", func := "bramble/bramblelaw13.TernBalanced", spec := "ternBalanced", inPlace := ["internal/bytealg.Compare", "slices.overlaps[bramble/api.Pair]"], unfollowed := true, recurses := true, apart := false }
def TernBalancedSaid : Prop := ternBalancedRow.holds Try.pinned (OpenSpec.ofChange ternBalancedSpec)

/-- ITS FALSE NEIGHBOUR: 'it returns false'. Refute it at one input. -/
def ternBalancedWrong : ChangeSpec := { name := "ternBalanced", fn := fun _ => fun
  | [d1, d2, d3] => { results := [.lit (.bool false)], args := [d1, d2, d3] }
  | _ => none }
def TernBalancedWrongFalsely : Prop := ternBalancedRow.holds Try.pinned (OpenSpec.ofChange ternBalancedWrong)

/-- 'bramblelaw13.TernScript': WHATEVER THE INPUT: true; the input reads as it did. -/
def ternScriptSpec : ChangeSpec := { name := "ternScript", fn := fun _ => fun
  | [d1, d2, d3] => { results := [.lit (.bool true)], args := [d1, d2, d3] }
  | _ => none }
def ternScriptRow : OpenClaim := { program := "ythfnacadabhpdaa", sum := "3ec35b454bee3e0d207720cc74c40ee5badb6bf9d54c74316dfc7ffdfea21d3f", func := "bramble/bramblelaw13.TernScript", spec := "ternScript", inPlace := ["internal/bytealg.Compare", "slices.overlaps[bramble/api.Pair]"], unfollowed := true, recurses := true, apart := false }
def TernScriptSaid : Prop := ternScriptRow.holds Try.pinned (OpenSpec.ofChange ternScriptSpec)

/-- ITS FALSE NEIGHBOUR: 'it returns false'. Refute it at one input. -/
def ternScriptWrong : ChangeSpec := { name := "ternScript", fn := fun _ => fun
  | [d1, d2, d3] => { results := [.lit (.bool false)], args := [d1, d2, d3] }
  | _ => none }
def TernScriptWrongFalsely : Prop := ternScriptRow.holds Try.pinned (OpenSpec.ofChange ternScriptWrong)

/-- 'bramblelaw13.TernAsks': WHATEVER THE INPUT: true; the input reads as it did. -/
def ternAsksSpec : ChangeSpec := { name := "ternAsks", fn := fun _ => fun
  | [d1, d2, d3] => { results := [.lit (.bool true)], args := [d1, d2, d3] }
  | _ => none }
def ternAsksRow : OpenClaim := { program := "ythfnacadabhpdaa", sum := "3ec35b454bee3e0d207720cc74c40ee5badb6bf9d54c74316dfc7ffdfea21d3f", func := "bramble/bramblelaw13.TernAsks", spec := "ternAsks", inPlace := ["internal/bytealg.Compare", "slices.overlaps[bramble/api.Pair]"], unfollowed := true, recurses := true, apart := false }
def TernAsksSaid : Prop := ternAsksRow.holds Try.pinned (OpenSpec.ofChange ternAsksSpec)

/-- ITS FALSE NEIGHBOUR: 'it returns false'. Refute it at one input. -/
def ternAsksWrong : ChangeSpec := { name := "ternAsks", fn := fun _ => fun
  | [d1, d2, d3] => { results := [.lit (.bool false)], args := [d1, d2, d3] }
  | _ => none }
def TernAsksWrongFalsely : Prop := ternAsksRow.holds Try.pinned (OpenSpec.ofChange ternAsksWrong)

/-- 'bramblelaw13.TernBuilds': WHATEVER THE INPUT: true; the input reads as it did. -/
def ternBuildsSpec : ChangeSpec := { name := "ternBuilds", fn := fun _ => fun
  | [d1, d2, d3] => { results := [.lit (.bool true)], args := [d1, d2, d3] }
  | _ => none }
def ternBuildsRow : OpenClaim := { program := "ythfnacadabhpdaa", sum := "3ec35b454bee3e0d207720cc74c40ee5badb6bf9d54c74316dfc7ffdfea21d3f", func := "bramble/bramblelaw13.TernBuilds", spec := "ternBuilds", inPlace := ["internal/bytealg.Compare", "slices.overlaps[bramble/api.Pair]"], unfollowed := true, recurses := true, apart := false }
def TernBuildsSaid : Prop := ternBuildsRow.holds Try.pinned (OpenSpec.ofChange ternBuildsSpec)

/-- ITS FALSE NEIGHBOUR: 'it returns false'. Refute it at one input. -/
def ternBuildsWrong : ChangeSpec := { name := "ternBuilds", fn := fun _ => fun
  | [d1, d2, d3] => { results := [.lit (.bool false)], args := [d1, d2, d3] }
  | _ => none }
def TernBuildsWrongFalsely : Prop := ternBuildsRow.holds Try.pinned (OpenSpec.ofChange ternBuildsWrong)

/-- 'bramblelaw13.TernUndoes': WHATEVER THE INPUT: true; the input reads as it did. -/
def ternUndoesSpec : ChangeSpec := { name := "ternUndoes", fn := fun _ => fun
  | [d1, d2] => { results := [.lit (.bool true)], args := [d1, d2] }
  | _ => none }
def ternUndoesRow : OpenClaim := { program := "ythfnacadabhpdaa", sum := "3ec35b454bee3e0d207720cc74c40ee5badb6bf9d54c74316dfc7ffdfea21d3f", func := "bramble/bramblelaw13.TernUndoes", spec := "ternUndoes", inPlace := ["internal/bytealg.Compare", "slices.overlaps[bramble/api.Pair]"], unfollowed := true, recurses := true, apart := false }
def TernUndoesSaid : Prop := ternUndoesRow.holds Try.pinned (OpenSpec.ofChange ternUndoesSpec)

/-- ITS FALSE NEIGHBOUR: 'it returns false'. Refute it at one input. -/
def ternUndoesWrong : ChangeSpec := { name := "ternUndoes", fn := fun _ => fun
  | [d1, d2] => { results := [.lit (.bool false)], args := [d1, d2] }
  | _ => none }
def TernUndoesWrongFalsely : Prop := ternUndoesRow.holds Try.pinned (OpenSpec.ofChange ternUndoesWrong)

/-- 'bramblelaw13.TernNone': WHATEVER THE INPUT: true; the input reads as it did. -/
def ternNoneSpec : ChangeSpec := { name := "ternNone", fn := fun _ => fun
  | [d1, d2] => { results := [.lit (.bool true)], args := [d1, d2] }
  | _ => none }
def ternNoneRow : OpenClaim := { program := "ythfnacadabhpdaa", sum := "3ec35b454bee3e0d207720cc74c40ee5badb6bf9d54c74316dfc7ffdfea21d3f", func := "bramble/bramblelaw13.TernNone", spec := "ternNone", inPlace := ["internal/bytealg.Compare", "slices.overlaps[bramble/api.Pair]"], unfollowed := true, recurses := true, apart := false }
def TernNoneSaid : Prop := ternNoneRow.holds Try.pinned (OpenSpec.ofChange ternNoneSpec)

/-- ITS FALSE NEIGHBOUR: 'it returns false'. Refute it at one input. -/
def ternNoneWrong : ChangeSpec := { name := "ternNone", fn := fun _ => fun
  | [d1, d2] => { results := [.lit (.bool false)], args := [d1, d2] }
  | _ => none }
def TernNoneWrongFalsely : Prop := ternNoneRow.holds Try.pinned (OpenSpec.ofChange ternNoneWrong)

/- THE SECOND FORM. 'bulk': how many values and letters a reading holds, each counted each time it is reached (what is shared counts as often as it is met; a slice's spare places count too). A statement '..UptoSaid' is the law's where the arguments, and the package variables that the reading takes, are together of bulk at most 1048576: NARROWER than '..Said'. Prove '..Said' where nothing that the law and all that it calls make is longer than what came in: it says more and counts as full. Else prove '..UptoSaid'. A law counts once. -/
mutual
def uptoBulk {H : Type} : DataW H → Nat
  | .lit (.string bytes) => bytes.length + 1
  | .lit _ => 1
  | .nil => 1
  | .ptr d => uptoBulk d + 1
  | .slice elems spare => uptoBulkAll elems + uptoBulkAll spare + 1
  | .agg parts => uptoBulkAll parts + 1
  | .iface _ d => uptoBulk d + 1
  | .map entries => uptoBulkEntries entries + 1
  | .held _ => 1
def uptoBulkAll {H : Type} : List (DataW H) → Nat
  | [] => 0
  | d :: r => uptoBulk d + uptoBulkAll r
def uptoBulkEntries {H : Type} : List (Lit × DataW H) → Nat
  | [] => 0
  | x :: r => uptoBulkEntry x + uptoBulkEntries r
def uptoBulkEntry {H : Type} : Lit × DataW H → Nat
  | (.string bytes, d) => bytes.length + uptoBulk d + 1
  | (_, d) => uptoBulk d + 1
 end
def uptoSmall : (H : Type) → List (DataW H) → Bool := fun _ ds => decide (uptoBulkAll ds ≤ 1048576)
def OpenSpec.upto (s : _root_.Go.ChangeSpec) : _root_.Go.OpenSpec := { _root_.Go.OpenSpec.ofChange s with cond := some uptoSmall }

/-- 'bramblelaw13.TernBegins', WHERE WHAT IT READS IS OF BULK AT MOST 1048576: true; the input reads as it did. -/
def ternBeginsUptoRow : OpenClaim := { program := "ythfnacadabhpdaa", sum := "3ec35b454bee3e0d207720cc74c40ee5badb6bf9d54c74316dfc7ffdfea21d3f", func := "bramble/bramblelaw13.TernBegins", spec := "ternBegins", inPlace := ["internal/bytealg.Compare", "slices.overlaps[bramble/api.Pair]"], unfollowed := true, recurses := true, apart := false, narrowed := true }
def TernBeginsUptoSaid : Prop := ternBeginsUptoRow.holds Try.pinned (OpenSpec.upto ternBeginsSpec)

/-- 'bramblelaw13.TernOrders', WHERE WHAT IT READS IS OF BULK AT MOST 1048576: true; the input reads as it did. -/
def ternOrdersUptoRow : OpenClaim := { program := "ythfnacadabhpdaa", sum := "3ec35b454bee3e0d207720cc74c40ee5badb6bf9d54c74316dfc7ffdfea21d3f", func := "bramble/bramblelaw13.TernOrders", spec := "ternOrders", inPlace := ["internal/bytealg.Compare", "slices.overlaps[bramble/api.Pair]"], unfollowed := true, recurses := true, apart := false, narrowed := true }
def TernOrdersUptoSaid : Prop := ternOrdersUptoRow.holds Try.pinned (OpenSpec.upto ternOrdersSpec)

/-- 'bramblelaw13.TernFull', WHERE WHAT IT READS IS OF BULK AT MOST 1048576: true; the input reads as it did. -/
def ternFullUptoRow : OpenClaim := { program := "ythfnacadabhpdaa", sum := "3ec35b454bee3e0d207720cc74c40ee5badb6bf9d54c74316dfc7ffdfea21d3f", func := "bramble/bramblelaw13.TernFull", spec := "ternFull", inPlace := ["internal/bytealg.Compare", "slices.overlaps[bramble/api.Pair]"], unfollowed := true, recurses := true, apart := false, narrowed := true }
def TernFullUptoSaid : Prop := ternFullUptoRow.holds Try.pinned (OpenSpec.upto ternFullSpec)

/-- 'bramblelaw13.TernRoom', WHERE WHAT IT READS IS OF BULK AT MOST 1048576: true; the input reads as it did. -/
def ternRoomUptoRow : OpenClaim := { program := "ythfnacadabhpdaa", sum := "3ec35b454bee3e0d207720cc74c40ee5badb6bf9d54c74316dfc7ffdfea21d3f", func := "bramble/bramblelaw13.TernRoom", spec := "ternRoom", inPlace := ["internal/bytealg.Compare", "slices.overlaps[bramble/api.Pair]"], unfollowed := true, recurses := true, apart := false, narrowed := true }
def TernRoomUptoSaid : Prop := ternRoomUptoRow.holds Try.pinned (OpenSpec.upto ternRoomSpec)

/-- 'bramblelaw13.TernCells', WHERE WHAT IT READS IS OF BULK AT MOST 1048576: true; the input reads as it did. -/
def ternCellsUptoRow : OpenClaim := { program := "ythfnacadabhpdaa", sum := "3ec35b454bee3e0d207720cc74c40ee5badb6bf9d54c74316dfc7ffdfea21d3f", func := "bramble/bramblelaw13.TernCells", spec := "ternCells", inPlace := ["internal/bytealg.Compare", "slices.overlaps[bramble/api.Pair]"], unfollowed := true, recurses := true, apart := false, narrowed := true }
def TernCellsUptoSaid : Prop := ternCellsUptoRow.holds Try.pinned (OpenSpec.upto ternCellsSpec)

/-- 'bramblelaw13.TernBalanced', WHERE WHAT IT READS IS OF BULK AT MOST 1048576: true; the input reads as it did. -/
def ternBalancedUptoRow : OpenClaim := { program := "ythfnacadabhpdaa", sum := "3ec35b454bee3e0d207720cc74c40ee5badb6bf9d54c74316dfc7ffdfea21d3f", func := "bramble/bramblelaw13.TernBalanced", spec := "ternBalanced", inPlace := ["internal/bytealg.Compare", "slices.overlaps[bramble/api.Pair]"], unfollowed := true, recurses := true, apart := false, narrowed := true }
def TernBalancedUptoSaid : Prop := ternBalancedUptoRow.holds Try.pinned (OpenSpec.upto ternBalancedSpec)

/-- 'bramblelaw13.TernScript', WHERE WHAT IT READS IS OF BULK AT MOST 1048576: true; the input reads as it did. -/
def ternScriptUptoRow : OpenClaim := { program := "ythfnacadabhpdaa", sum := "3ec35b454bee3e0d207720cc74c40ee5badb6bf9d54c74316dfc7ffdfea21d3f", func := "bramble/bramblelaw13.TernScript", spec := "ternScript", inPlace := ["internal/bytealg.Compare", "slices.overlaps[bramble/api.Pair]"], unfollowed := true, recurses := true, apart := false, narrowed := true }
def TernScriptUptoSaid : Prop := ternScriptUptoRow.holds Try.pinned (OpenSpec.upto ternScriptSpec)

/-- 'bramblelaw13.TernAsks', WHERE WHAT IT READS IS OF BULK AT MOST 1048576: true; the input reads as it did. -/
def ternAsksUptoRow : OpenClaim := { program := "ythfnacadabhpdaa", sum := "3ec35b454bee3e0d207720cc74c40ee5badb6bf9d54c74316dfc7ffdfea21d3f", func := "bramble/bramblelaw13.TernAsks", spec := "ternAsks", inPlace := ["internal/bytealg.Compare", "slices.overlaps[bramble/api.Pair]"], unfollowed := true, recurses := true, apart := false, narrowed := true }
def TernAsksUptoSaid : Prop := ternAsksUptoRow.holds Try.pinned (OpenSpec.upto ternAsksSpec)

/-- 'bramblelaw13.TernBuilds', WHERE WHAT IT READS IS OF BULK AT MOST 1048576: true; the input reads as it did. -/
def ternBuildsUptoRow : OpenClaim := { program := "ythfnacadabhpdaa", sum := "3ec35b454bee3e0d207720cc74c40ee5badb6bf9d54c74316dfc7ffdfea21d3f", func := "bramble/bramblelaw13.TernBuilds", spec := "ternBuilds", inPlace := ["internal/bytealg.Compare", "slices.overlaps[bramble/api.Pair]"], unfollowed := true, recurses := true, apart := false, narrowed := true }
def TernBuildsUptoSaid : Prop := ternBuildsUptoRow.holds Try.pinned (OpenSpec.upto ternBuildsSpec)

/-- 'bramblelaw13.TernUndoes', WHERE WHAT IT READS IS OF BULK AT MOST 1048576: true; the input reads as it did. -/
def ternUndoesUptoRow : OpenClaim := { program := "ythfnacadabhpdaa", sum := "3ec35b454bee3e0d207720cc74c40ee5badb6bf9d54c74316dfc7ffdfea21d3f", func := "bramble/bramblelaw13.TernUndoes", spec := "ternUndoes", inPlace := ["internal/bytealg.Compare", "slices.overlaps[bramble/api.Pair]"], unfollowed := true, recurses := true, apart := false, narrowed := true }
def TernUndoesUptoSaid : Prop := ternUndoesUptoRow.holds Try.pinned (OpenSpec.upto ternUndoesSpec)

/-- 'bramblelaw13.TernNone', WHERE WHAT IT READS IS OF BULK AT MOST 1048576: true; the input reads as it did. -/
def ternNoneUptoRow : OpenClaim := { program := "ythfnacadabhpdaa", sum := "3ec35b454bee3e0d207720cc74c40ee5badb6bf9d54c74316dfc7ffdfea21d3f", func := "bramble/bramblelaw13.TernNone", spec := "ternNone", inPlace := ["internal/bytealg.Compare", "slices.overlaps[bramble/api.Pair]"], unfollowed := true, recurses := true, apart := false, narrowed := true }
def TernNoneUptoSaid : Prop := ternNoneUptoRow.holds Try.pinned (OpenSpec.upto ternNoneSpec)

end Rows
end Go.Proofs.Ythfnacadabhpdaa
