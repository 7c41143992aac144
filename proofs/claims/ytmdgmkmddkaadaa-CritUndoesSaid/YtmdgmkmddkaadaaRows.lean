/-
  No cell of these rows narrows 'for every input' (looked for: loops, veiled, ifaces, maps, wideKeys, modest, calm, conditions, laid).
  DERIVED. THE GIVEN ROWS OF THIS SEAT. 11 by the template 'for every input the law returns true; each argument reads behind the call as it read before'; 0 by the template 'total and deterministic' (their statements: YtmdgmkmddkaadaaTotals.lean).
  GIVEN WITH THE SEED: the statements are not yours to turn. If you find one false, say at which input.
  Laid BY PROGRAM, IN A SANDBOX (cutbox-rows.mjs): the forced cells as the released guide's own fill.sh prints them over the translation a430f3d2cd6e3719… (all of the seat's roots in one cut). By AI agents, Wed Nov 11 2026. No macro, syntax, notation, axiom, sorry.
-/
import Derived.Test.YtmdgmkmddkaadaaChecked
import GoSem.Claim
import GoSem.ClaimJoined
import GoSem.ClaimMapViews
import Derived.JoinedTies
import Derived.KernelRfl
namespace Go.Proofs.Ytmdgmkmddkaadaa
/- THE CELL 'sum', in the pinned program and in every row, IS THE sha256 OF THE DUMP (.gsa) THAT YtmdgmkmddkaadaaProg.lean LOADS. Nothing in Lean hashes anything: it is a label: what it is worth is what the hold of that sum in a sandbox is worth. -/
noncomputable def Try.pinned : Pinned := { name := "ytmdgmkmddkaadaa", sum := "a430f3d2cd6e371957a80213ad3a60cd2459a5f35f946d69f8bcdd6c2246313f", checked := Try.checked }
namespace Rows
def none {H : Type} : Left H := { results := [], args := [] }

/-- 'bramblelaw12.CritBegins': WHATEVER THE INPUT: true; the input reads as it did. -/
def critBeginsSpec : ChangeSpec := { name := "critBegins", fn := fun _ => fun
  | [d1, d2] => { results := [.lit (.bool true)], args := [d1, d2] }
  | _ => none }
def critBeginsRow : OpenClaim := { program := "ytmdgmkmddkaadaa", sum := "a430f3d2cd6e371957a80213ad3a60cd2459a5f35f946d69f8bcdd6c2246313f", func := "bramble/bramblelaw12.CritBegins", spec := "critBegins", inPlace := ["internal/bytealg.Compare", "slices.overlaps[bramble/api.Pair]"], unfollowed := true, recurses := true, apart := false }
def CritBeginsSaid : Prop := critBeginsRow.holds Try.pinned (OpenSpec.ofChange critBeginsSpec)

/-- ITS FALSE NEIGHBOUR: 'it returns false'. Refute it at one input. -/
def critBeginsWrong : ChangeSpec := { name := "critBegins", fn := fun _ => fun
  | [d1, d2] => { results := [.lit (.bool false)], args := [d1, d2] }
  | _ => none }
def CritBeginsWrongFalsely : Prop := critBeginsRow.holds Try.pinned (OpenSpec.ofChange critBeginsWrong)

/-- 'bramblelaw12.CritOrders': WHATEVER THE INPUT: true; the input reads as it did. -/
def critOrdersSpec : ChangeSpec := { name := "critOrders", fn := fun _ => fun
  | [d1, d2] => { results := [.lit (.bool true)], args := [d1, d2] }
  | _ => none }
def critOrdersRow : OpenClaim := { program := "ytmdgmkmddkaadaa", sum := "a430f3d2cd6e371957a80213ad3a60cd2459a5f35f946d69f8bcdd6c2246313f", func := "bramble/bramblelaw12.CritOrders", spec := "critOrders", inPlace := ["internal/bytealg.Compare", "slices.overlaps[bramble/api.Pair]"], unfollowed := true, recurses := true, apart := false }
def CritOrdersSaid : Prop := critOrdersRow.holds Try.pinned (OpenSpec.ofChange critOrdersSpec)

/-- ITS FALSE NEIGHBOUR: 'it returns false'. Refute it at one input. -/
def critOrdersWrong : ChangeSpec := { name := "critOrders", fn := fun _ => fun
  | [d1, d2] => { results := [.lit (.bool false)], args := [d1, d2] }
  | _ => none }
def CritOrdersWrongFalsely : Prop := critOrdersRow.holds Try.pinned (OpenSpec.ofChange critOrdersWrong)

/-- 'bramblelaw12.CritDeep': WHATEVER THE INPUT: true; the input reads as it did. -/
def critDeepSpec : ChangeSpec := { name := "critDeep", fn := fun _ => fun
  | [d] => { results := [.lit (.bool true)], args := [d] }
  | _ => none }
def critDeepRow : OpenClaim := { program := "ytmdgmkmddkaadaa", sum := "a430f3d2cd6e371957a80213ad3a60cd2459a5f35f946d69f8bcdd6c2246313f", func := "bramble/bramblelaw12.CritDeep", spec := "critDeep", inPlace := ["internal/bytealg.Compare", "slices.overlaps[bramble/api.Pair]"], unfollowed := true, recurses := true, apart := false }
def CritDeepSaid : Prop := critDeepRow.holds Try.pinned (OpenSpec.ofChange critDeepSpec)

/-- ITS FALSE NEIGHBOUR: 'it returns false'. Refute it at one input. -/
def critDeepWrong : ChangeSpec := { name := "critDeep", fn := fun _ => fun
  | [d] => { results := [.lit (.bool false)], args := [d] }
  | _ => none }
def CritDeepWrongFalsely : Prop := critDeepRow.holds Try.pinned (OpenSpec.ofChange critDeepWrong)

/-- 'bramblelaw12.CritRoom': WHATEVER THE INPUT: true; the input reads as it did. -/
def critRoomSpec : ChangeSpec := { name := "critRoom", fn := fun _ => fun
  | [d1, d2, d3] => { results := [.lit (.bool true)], args := [d1, d2, d3] }
  | _ => none }
def critRoomRow : OpenClaim := { program := "ytmdgmkmddkaadaa", sum := "a430f3d2cd6e371957a80213ad3a60cd2459a5f35f946d69f8bcdd6c2246313f", func := "bramble/bramblelaw12.CritRoom", spec := "critRoom", inPlace := ["internal/bytealg.Compare", "slices.overlaps[bramble/api.Pair]"], unfollowed := true, recurses := true, apart := false }
def CritRoomSaid : Prop := critRoomRow.holds Try.pinned (OpenSpec.ofChange critRoomSpec)

/-- ITS FALSE NEIGHBOUR: 'it returns false'. Refute it at one input. -/
def critRoomWrong : ChangeSpec := { name := "critRoom", fn := fun _ => fun
  | [d1, d2, d3] => { results := [.lit (.bool false)], args := [d1, d2, d3] }
  | _ => none }
def CritRoomWrongFalsely : Prop := critRoomRow.holds Try.pinned (OpenSpec.ofChange critRoomWrong)

/-- 'bramblelaw12.CritCells': WHATEVER THE INPUT: true; the input reads as it did. -/
def critCellsSpec : ChangeSpec := { name := "critCells", fn := fun _ => fun
  | [d1, d2, d3] => { results := [.lit (.bool true)], args := [d1, d2, d3] }
  | _ => none }
def critCellsRow : OpenClaim := { program := "ytmdgmkmddkaadaa", sum := "a430f3d2cd6e371957a80213ad3a60cd2459a5f35f946d69f8bcdd6c2246313f", func := "bramble/bramblelaw12.CritCells", spec := "critCells", inPlace := ["internal/bytealg.Compare", "slices.overlaps[bramble/api.Pair]"], unfollowed := true, recurses := true, apart := false }
def CritCellsSaid : Prop := critCellsRow.holds Try.pinned (OpenSpec.ofChange critCellsSpec)

/-- ITS FALSE NEIGHBOUR: 'it returns false'. Refute it at one input. -/
def critCellsWrong : ChangeSpec := { name := "critCells", fn := fun _ => fun
  | [d1, d2, d3] => { results := [.lit (.bool false)], args := [d1, d2, d3] }
  | _ => none }
def CritCellsWrongFalsely : Prop := critCellsRow.holds Try.pinned (OpenSpec.ofChange critCellsWrong)

/-- 'bramblelaw12.CritScript': WHATEVER THE INPUT: true; the input reads as it did. -/
def critScriptSpec : ChangeSpec := { name := "critScript", fn := fun _ => fun
  | [d1, d2, d3] => { results := [.lit (.bool true)], args := [d1, d2, d3] }
  | _ => none }
def critScriptRow : OpenClaim := { program := "ytmdgmkmddkaadaa", sum := "a430f3d2cd6e371957a80213ad3a60cd2459a5f35f946d69f8bcdd6c2246313f", func := "bramble/bramblelaw12.CritScript", spec := "critScript", inPlace := ["internal/bytealg.Compare", "slices.overlaps[bramble/api.Pair]"], unfollowed := true, recurses := true, apart := false }
def CritScriptSaid : Prop := critScriptRow.holds Try.pinned (OpenSpec.ofChange critScriptSpec)

/-- ITS FALSE NEIGHBOUR: 'it returns false'. Refute it at one input. -/
def critScriptWrong : ChangeSpec := { name := "critScript", fn := fun _ => fun
  | [d1, d2, d3] => { results := [.lit (.bool false)], args := [d1, d2, d3] }
  | _ => none }
def CritScriptWrongFalsely : Prop := critScriptRow.holds Try.pinned (OpenSpec.ofChange critScriptWrong)

/-- 'bramblelaw12.CritSame': WHATEVER THE INPUT: true; the input reads as it did. -/
def critSameSpec : ChangeSpec := { name := "critSame", fn := fun _ => fun
  | [d1, d2, d3] => { results := [.lit (.bool true)], args := [d1, d2, d3] }
  | _ => none }
def critSameRow : OpenClaim := { program := "ytmdgmkmddkaadaa", sum := "a430f3d2cd6e371957a80213ad3a60cd2459a5f35f946d69f8bcdd6c2246313f", func := "bramble/bramblelaw12.CritSame", spec := "critSame", inPlace := ["internal/bytealg.Compare", "slices.overlaps[bramble/api.Pair]"], unfollowed := true, recurses := true, apart := false }
def CritSameSaid : Prop := critSameRow.holds Try.pinned (OpenSpec.ofChange critSameSpec)

/-- ITS FALSE NEIGHBOUR: 'it returns false'. Refute it at one input. -/
def critSameWrong : ChangeSpec := { name := "critSame", fn := fun _ => fun
  | [d1, d2, d3] => { results := [.lit (.bool false)], args := [d1, d2, d3] }
  | _ => none }
def CritSameWrongFalsely : Prop := critSameRow.holds Try.pinned (OpenSpec.ofChange critSameWrong)

/-- 'bramblelaw12.CritBuilds': WHATEVER THE INPUT: true; the input reads as it did. -/
def critBuildsSpec : ChangeSpec := { name := "critBuilds", fn := fun _ => fun
  | [d1, d2, d3] => { results := [.lit (.bool true)], args := [d1, d2, d3] }
  | _ => none }
def critBuildsRow : OpenClaim := { program := "ytmdgmkmddkaadaa", sum := "a430f3d2cd6e371957a80213ad3a60cd2459a5f35f946d69f8bcdd6c2246313f", func := "bramble/bramblelaw12.CritBuilds", spec := "critBuilds", inPlace := ["internal/bytealg.Compare", "slices.overlaps[bramble/api.Pair]"], unfollowed := true, recurses := true, apart := false }
def CritBuildsSaid : Prop := critBuildsRow.holds Try.pinned (OpenSpec.ofChange critBuildsSpec)

/-- ITS FALSE NEIGHBOUR: 'it returns false'. Refute it at one input. -/
def critBuildsWrong : ChangeSpec := { name := "critBuilds", fn := fun _ => fun
  | [d1, d2, d3] => { results := [.lit (.bool false)], args := [d1, d2, d3] }
  | _ => none }
def CritBuildsWrongFalsely : Prop := critBuildsRow.holds Try.pinned (OpenSpec.ofChange critBuildsWrong)

/-- 'bramblelaw12.CritUndoes': WHATEVER THE INPUT: true; the input reads as it did. -/
def critUndoesSpec : ChangeSpec := { name := "critUndoes", fn := fun _ => fun
  | [d1, d2] => { results := [.lit (.bool true)], args := [d1, d2] }
  | _ => none }
def critUndoesRow : OpenClaim := { program := "ytmdgmkmddkaadaa", sum := "a430f3d2cd6e371957a80213ad3a60cd2459a5f35f946d69f8bcdd6c2246313f", func := "bramble/bramblelaw12.CritUndoes", spec := "critUndoes", inPlace := ["internal/bytealg.Compare", "slices.overlaps[bramble/api.Pair]"], unfollowed := true, recurses := true, apart := false }
def CritUndoesSaid : Prop := critUndoesRow.holds Try.pinned (OpenSpec.ofChange critUndoesSpec)

/-- ITS FALSE NEIGHBOUR: 'it returns false'. Refute it at one input. -/
def critUndoesWrong : ChangeSpec := { name := "critUndoes", fn := fun _ => fun
  | [d1, d2] => { results := [.lit (.bool false)], args := [d1, d2] }
  | _ => none }
def CritUndoesWrongFalsely : Prop := critUndoesRow.holds Try.pinned (OpenSpec.ofChange critUndoesWrong)

/-- 'bramblelaw12.CritAsks': WHATEVER THE INPUT: true; the input reads as it did. -/
def critAsksSpec : ChangeSpec := { name := "critAsks", fn := fun _ => fun
  | [d1, d2, d3] => { results := [.lit (.bool true)], args := [d1, d2, d3] }
  | _ => none }
def critAsksRow : OpenClaim := { program := "ytmdgmkmddkaadaa", sum := "a430f3d2cd6e371957a80213ad3a60cd2459a5f35f946d69f8bcdd6c2246313f", func := "bramble/bramblelaw12.CritAsks", spec := "critAsks", inPlace := ["internal/bytealg.Compare", "slices.overlaps[bramble/api.Pair]"], unfollowed := true, recurses := true, apart := false }
def CritAsksSaid : Prop := critAsksRow.holds Try.pinned (OpenSpec.ofChange critAsksSpec)

/-- ITS FALSE NEIGHBOUR: 'it returns false'. Refute it at one input. -/
def critAsksWrong : ChangeSpec := { name := "critAsks", fn := fun _ => fun
  | [d1, d2, d3] => { results := [.lit (.bool false)], args := [d1, d2, d3] }
  | _ => none }
def CritAsksWrongFalsely : Prop := critAsksRow.holds Try.pinned (OpenSpec.ofChange critAsksWrong)

/-- 'bramblelaw12.CritNone': WHATEVER THE INPUT: true; the input reads as it did. -/
def critNoneSpec : ChangeSpec := { name := "critNone", fn := fun _ => fun
  | [d1, d2] => { results := [.lit (.bool true)], args := [d1, d2] }
  | _ => none }
def critNoneRow : OpenClaim := { program := "ytmdgmkmddkaadaa", sum := "a430f3d2cd6e371957a80213ad3a60cd2459a5f35f946d69f8bcdd6c2246313f", func := "bramble/bramblelaw12.CritNone", spec := "critNone", inPlace := ["internal/bytealg.Compare", "slices.overlaps[bramble/api.Pair]"], unfollowed := true, recurses := true, apart := false }
def CritNoneSaid : Prop := critNoneRow.holds Try.pinned (OpenSpec.ofChange critNoneSpec)

/-- ITS FALSE NEIGHBOUR: 'it returns false'. Refute it at one input. -/
def critNoneWrong : ChangeSpec := { name := "critNone", fn := fun _ => fun
  | [d1, d2] => { results := [.lit (.bool false)], args := [d1, d2] }
  | _ => none }
def CritNoneWrongFalsely : Prop := critNoneRow.holds Try.pinned (OpenSpec.ofChange critNoneWrong)

/- THE SECOND FORM. 'bulk': how many values and letters a reading holds, each counted each time it is reached (what is shared counts as often as it is met; a slice's spare places count too). A statement '..UptoSaid' is the law's where the arguments, and the package variables that the reading takes, are together of bulk at most 1048576: NARROWER than '..Said'. Prove '..Said' where nothing that the law and all that it calls make is longer than what came in: it says more and counts as full. Else prove '..UptoSaid'. A law counts once. -/
mutual
def uptoBulk {H : Type} : DataW H → Nat
  | .lit (.string bytes) => bytes.length + 1
  | .lit _ => 1
  | .nil => 1
  | .ptr d => uptoBulk d + 1
  | .slice elems spare => uptoBulkAll elems + uptoBulkAll spare + 1
  | .agg parts => uptoBulkAll parts + 1
  | .iface _ d => uptoBulk d + 1
  | .map entries => uptoBulkEntries entries + 1
  | .held _ => 1
def uptoBulkAll {H : Type} : List (DataW H) → Nat
  | [] => 0
  | d :: r => uptoBulk d + uptoBulkAll r
def uptoBulkEntries {H : Type} : List (Lit × DataW H) → Nat
  | [] => 0
  | x :: r => uptoBulkEntry x + uptoBulkEntries r
def uptoBulkEntry {H : Type} : Lit × DataW H → Nat
  | (.string bytes, d) => bytes.length + uptoBulk d + 1
  | (_, d) => uptoBulk d + 1
 end
def uptoSmall : (H : Type) → List (DataW H) → Bool := fun _ ds => decide (uptoBulkAll ds ≤ 1048576)
def OpenSpec.upto (s : _root_.Go.ChangeSpec) : _root_.Go.OpenSpec := { _root_.Go.OpenSpec.ofChange s with cond := some uptoSmall }

/-- 'bramblelaw12.CritBegins', WHERE WHAT IT READS IS OF BULK AT MOST 1048576: true; the input reads as it did. -/
def critBeginsUptoRow : OpenClaim := { program := "ytmdgmkmddkaadaa", sum := "a430f3d2cd6e371957a80213ad3a60cd2459a5f35f946d69f8bcdd6c2246313f", func := "bramble/bramblelaw12.CritBegins", spec := "critBegins", inPlace := ["internal/bytealg.Compare", "slices.overlaps[bramble/api.Pair]"], unfollowed := true, recurses := true, apart := false, narrowed := true }
def CritBeginsUptoSaid : Prop := critBeginsUptoRow.holds Try.pinned (OpenSpec.upto critBeginsSpec)

/-- 'bramblelaw12.CritOrders', WHERE WHAT IT READS IS OF BULK AT MOST 1048576: true; the input reads as it did. -/
def critOrdersUptoRow : OpenClaim := { program := "ytmdgmkmddkaadaa", sum := "a430f3d2cd6e371957a80213ad3a60cd2459a5f35f946d69f8bcdd6c2246313f", func := "bramble/bramblelaw12.CritOrders", spec := "critOrders", inPlace := ["internal/bytealg.Compare", "slices.overlaps[bramble/api.Pair]"], unfollowed := true, recurses := true, apart := false, narrowed := true }
def CritOrdersUptoSaid : Prop := critOrdersUptoRow.holds Try.pinned (OpenSpec.upto critOrdersSpec)

/-- 'bramblelaw12.CritDeep', WHERE WHAT IT READS IS OF BULK AT MOST 1048576: true; the input reads as it did. -/
def critDeepUptoRow : OpenClaim := { program := "ytmdgmkmddkaadaa", sum := "a430f3d2cd6e371957a80213ad3a60cd2459a5f35f946d69f8bcdd6c2246313f", func := "bramble/bramblelaw12.CritDeep", spec := "critDeep", inPlace := ["internal/bytealg.Compare", "slices.overlaps[bramble/api.Pair]"], unfollowed := true, recurses := true, apart := false, narrowed := true }
def CritDeepUptoSaid : Prop := critDeepUptoRow.holds Try.pinned (OpenSpec.upto critDeepSpec)

/-- 'bramblelaw12.CritRoom', WHERE WHAT IT READS IS OF BULK AT MOST 1048576: true; the input reads as it did. -/
def critRoomUptoRow : OpenClaim := { program := "ytmdgmkmddkaadaa", sum := "a430f3d2cd6e371957a80213ad3a60cd2459a5f35f946d69f8bcdd6c2246313f", func := "bramble/bramblelaw12.CritRoom", spec := "critRoom", inPlace := ["internal/bytealg.Compare", "slices.overlaps[bramble/api.Pair]"], unfollowed := true, recurses := true, apart := false, narrowed := true }
def CritRoomUptoSaid : Prop := critRoomUptoRow.holds Try.pinned (OpenSpec.upto critRoomSpec)

/-- 'bramblelaw12.CritCells', WHERE WHAT IT READS IS OF BULK AT MOST 1048576: true; the input reads as it did. -/
def critCellsUptoRow : OpenClaim := { program := "ytmdgmkmddkaadaa", sum := "a430f3d2cd6e371957a80213ad3a60cd2459a5f35f946d69f8bcdd6c2246313f", func := "bramble/bramblelaw12.CritCells", spec := "critCells", inPlace := ["internal/bytealg.Compare", "slices.overlaps[bramble/api.Pair]"], unfollowed := true, recurses := true, apart := false, narrowed := true }
def CritCellsUptoSaid : Prop := critCellsUptoRow.holds Try.pinned (OpenSpec.upto critCellsSpec)

/-- 'bramblelaw12.CritScript', WHERE WHAT IT READS IS OF BULK AT MOST 1048576: true; the input reads as it did. -/
def critScriptUptoRow : OpenClaim := { program := "ytmdgmkmddkaadaa", sum := "a430f3d2cd6e371957a80213ad3a60cd2459a5f35f946d69f8bcdd6c2246313f", func := "bramble/bramblelaw12.CritScript", spec := "critScript", inPlace := ["internal/bytealg.Compare", "slices.overlaps[bramble/api.Pair]"], unfollowed := true, recurses := true, apart := false, narrowed := true }
def CritScriptUptoSaid : Prop := critScriptUptoRow.holds Try.pinned (OpenSpec.upto critScriptSpec)

/-- 'bramblelaw12.CritSame', WHERE WHAT IT READS IS OF BULK AT MOST 1048576: true; the input reads as it did. -/
def critSameUptoRow : OpenClaim := { program := "ytmdgmkmddkaadaa", sum := "a430f3d2cd6e371957a80213ad3a60cd2459a5f35f946d69f8bcdd6c2246313f", func := "bramble/bramblelaw12.CritSame", spec := "critSame", inPlace := ["internal/bytealg.Compare", "slices.overlaps[bramble/api.Pair]"], unfollowed := true, recurses := true, apart := false, narrowed := true }
def CritSameUptoSaid : Prop := critSameUptoRow.holds Try.pinned (OpenSpec.upto critSameSpec)

/-- 'bramblelaw12.CritBuilds', WHERE WHAT IT READS IS OF BULK AT MOST 1048576: true; the input reads as it did. -/
def critBuildsUptoRow : OpenClaim := { program := "ytmdgmkmddkaadaa", sum := "a430f3d2cd6e371957a80213ad3a60cd2459a5f35f946d69f8bcdd6c2246313f", func := "bramble/bramblelaw12.CritBuilds", spec := "critBuilds", inPlace := ["internal/bytealg.Compare", "slices.overlaps[bramble/api.Pair]"], unfollowed := true, recurses := true, apart := false, narrowed := true }
def CritBuildsUptoSaid : Prop := critBuildsUptoRow.holds Try.pinned (OpenSpec.upto critBuildsSpec)

/-- 'bramblelaw12.CritUndoes', WHERE WHAT IT READS IS OF BULK AT MOST 1048576: true; the input reads as it did. -/
def critUndoesUptoRow : OpenClaim := { program := "ytmdgmkmddkaadaa", sum := "a430f3d2cd6e371957a80213ad3a60cd2459a5f35f946d69f8bcdd6c2246313f", func := "bramble/bramblelaw12.CritUndoes", spec := "critUndoes", inPlace := ["internal/bytealg.Compare", "slices.overlaps[bramble/api.Pair]"], unfollowed := true, recurses := true, apart := false, narrowed := true }
def CritUndoesUptoSaid : Prop := critUndoesUptoRow.holds Try.pinned (OpenSpec.upto critUndoesSpec)

/-- 'bramblelaw12.CritAsks', WHERE WHAT IT READS IS OF BULK AT MOST 1048576: true; the input reads as it did. -/
def critAsksUptoRow : OpenClaim := { program := "ytmdgmkmddkaadaa", sum := "a430f3d2cd6e371957a80213ad3a60cd2459a5f35f946d69f8bcdd6c2246313f", func := "bramble/bramblelaw12.CritAsks", spec := "critAsks", inPlace := ["internal/bytealg.Compare", "slices.overlaps[bramble/api.Pair]"], unfollowed := true, recurses := true, apart := false, narrowed := true }
def CritAsksUptoSaid : Prop := critAsksUptoRow.holds Try.pinned (OpenSpec.upto critAsksSpec)

/-- 'bramblelaw12.CritNone', WHERE WHAT IT READS IS OF BULK AT MOST 1048576: true; the input reads as it did. -/
def critNoneUptoRow : OpenClaim := { program := "ytmdgmkmddkaadaa", sum := "a430f3d2cd6e371957a80213ad3a60cd2459a5f35f946d69f8bcdd6c2246313f", func := "bramble/bramblelaw12.CritNone", spec := "critNone", inPlace := ["internal/bytealg.Compare", "slices.overlaps[bramble/api.Pair]"], unfollowed := true, recurses := true, apart := false, narrowed := true }
def CritNoneUptoSaid : Prop := critNoneUptoRow.holds Try.pinned (OpenSpec.upto critNoneSpec)

end Rows
end Go.Proofs.Ytmdgmkmddkaadaa
