/-
  No cell of these rows narrows 'for every input' (looked for: loops, veiled, ifaces, maps, wideKeys, modest, calm, conditions, laid).
  DERIVED. THE GIVEN ROWS OF THIS SEAT. 7 by the template 'for every input the law returns true; each argument reads behind the call as it read before'; 0 by the template 'total and deterministic' (their statements: YtfibglpiohkcoaaTotals.lean).
  GIVEN WITH THE SEED: the statements are not yours to turn. If you find one false, say at which input.
  Laid BY PROGRAM, IN A SANDBOX (cutbox-rows.mjs): the forced cells as the released guide's own fill.sh prints them over the translation 90bc038126464a67… (all of the seat's roots in one cut). By AI agents, Wed Nov 11 2026. No macro, syntax, notation, axiom, sorry.
-/
import Derived.Test.YtfibglpiohkcoaaChecked
import GoSem.Claim
import GoSem.ClaimJoined
import GoSem.ClaimMapViews
import Derived.JoinedTies
import Derived.KernelRfl
namespace Go.Proofs.Ytfibglpiohkcoaa
/- THE CELL 'sum', in the pinned program and in every row, IS THE sha256 OF THE DUMP (.gsa) THAT YtfibglpiohkcoaaProg.lean LOADS. Nothing in Lean hashes anything: it is a label: what it is worth is what the hold of that sum in a sandbox is worth. -/
noncomputable def Try.pinned : Pinned := { name := "ytfibglpiohkcoaa", sum := "90bc038126464a671a91fb2ab880f00e798a8b06f15313e32554803c4c436d19", checked := Try.checked }
namespace Rows
def none {H : Type} : Left H := { results := [], args := [] }

/-- 'bramblelaw3.MeterScript': WHATEVER THE INPUT: true; the input reads as it did. -/
def meterScriptSpec : ChangeSpec := { name := "meterScript", fn := fun _ => fun
  | [d] => { results := [.lit (.bool true)], args := [d] }
  | _ => none }
def meterScriptRow : OpenClaim := { program := "ytfibglpiohkcoaa", sum := "90bc038126464a671a91fb2ab880f00e798a8b06f15313e32554803c4c436d19", func := "bramble/bramblelaw3.MeterScript", spec := "meterScript", inPlace := ["sync/atomic.AddInt64", "sync/atomic.LoadInt64", "sync/atomic.CompareAndSwapInt64", "sync/atomic.StoreInt64"], apart := false }
def MeterScriptSaid : Prop := meterScriptRow.holds Try.pinned (OpenSpec.ofChange meterScriptSpec)

/-- ITS FALSE NEIGHBOUR: 'it returns false'. Refute it at one input. -/
def meterScriptWrong : ChangeSpec := { name := "meterScript", fn := fun _ => fun
  | [d] => { results := [.lit (.bool false)], args := [d] }
  | _ => none }
def MeterScriptWrongFalsely : Prop := meterScriptRow.holds Try.pinned (OpenSpec.ofChange meterScriptWrong)

/-- 'bramblelaw3.MeterNone': WHATEVER THE INPUT: true; the input reads as it did. -/
def meterNoneSpec : ChangeSpec := { name := "meterNone", fn := fun _ => fun
  | [d1, d2] => { results := [.lit (.bool true)], args := [d1, d2] }
  | _ => none }
def meterNoneRow : OpenClaim := { program := "ytfibglpiohkcoaa", sum := "90bc038126464a671a91fb2ab880f00e798a8b06f15313e32554803c4c436d19", func := "bramble/bramblelaw3.MeterNone", spec := "meterNone", inPlace := ["sync/atomic.StoreInt64", "sync/atomic.AddInt64", "sync/atomic.LoadInt64", "sync/atomic.CompareAndSwapInt64"], apart := false }
def MeterNoneSaid : Prop := meterNoneRow.holds Try.pinned (OpenSpec.ofChange meterNoneSpec)

/-- ITS FALSE NEIGHBOUR: 'it returns false'. Refute it at one input. -/
def meterNoneWrong : ChangeSpec := { name := "meterNone", fn := fun _ => fun
  | [d1, d2] => { results := [.lit (.bool false)], args := [d1, d2] }
  | _ => none }
def MeterNoneWrongFalsely : Prop := meterNoneRow.holds Try.pinned (OpenSpec.ofChange meterNoneWrong)

/-- 'bramblelaw3.MeterAlone': WHATEVER THE INPUT: true; the input reads as it did. -/
def meterAloneSpec : ChangeSpec := { name := "meterAlone", fn := fun _ => fun
  | [d1, d2] => { results := [.lit (.bool true)], args := [d1, d2] }
  | _ => none }
def meterAloneRow : OpenClaim := { program := "ytfibglpiohkcoaa", sum := "90bc038126464a671a91fb2ab880f00e798a8b06f15313e32554803c4c436d19", func := "bramble/bramblelaw3.MeterAlone", spec := "meterAlone", inPlace := ["sync/atomic.AddInt64", "sync/atomic.LoadInt64", "sync/atomic.CompareAndSwapInt64", "sync/atomic.StoreInt64"], apart := false }
def MeterAloneSaid : Prop := meterAloneRow.holds Try.pinned (OpenSpec.ofChange meterAloneSpec)

/-- ITS FALSE NEIGHBOUR: 'it returns false'. Refute it at one input. -/
def meterAloneWrong : ChangeSpec := { name := "meterAlone", fn := fun _ => fun
  | [d1, d2] => { results := [.lit (.bool false)], args := [d1, d2] }
  | _ => none }
def MeterAloneWrongFalsely : Prop := meterAloneRow.holds Try.pinned (OpenSpec.ofChange meterAloneWrong)

/-- 'bramblelaw4.MaskTells': WHATEVER THE INPUT: true; the input reads as it did. -/
def maskTellsSpec : ChangeSpec := { name := "maskTells", fn := fun _ => fun
  | [d1, d2, d3] => { results := [.lit (.bool true)], args := [d1, d2, d3] }
  | _ => none }
def maskTellsRow : OpenClaim := { program := "ytfibglpiohkcoaa", sum := "90bc038126464a671a91fb2ab880f00e798a8b06f15313e32554803c4c436d19", func := "bramble/bramblelaw4.MaskTells", spec := "maskTells", apart := false }
def MaskTellsSaid : Prop := maskTellsRow.holds Try.pinned (OpenSpec.ofChange maskTellsSpec)

/-- ITS FALSE NEIGHBOUR: 'it returns false'. Refute it at one input. -/
def maskTellsWrong : ChangeSpec := { name := "maskTells", fn := fun _ => fun
  | [d1, d2, d3] => { results := [.lit (.bool false)], args := [d1, d2, d3] }
  | _ => none }
def MaskTellsWrongFalsely : Prop := maskTellsRow.holds Try.pinned (OpenSpec.ofChange maskTellsWrong)

/-- 'bramblelaw4.MaskBack': WHATEVER THE INPUT: true; the input reads as it did. -/
def maskBackSpec : ChangeSpec := { name := "maskBack", fn := fun _ => fun
  | [d] => { results := [.lit (.bool true)], args := [d] }
  | _ => none }
def maskBackRow : OpenClaim := { program := "ytfibglpiohkcoaa", sum := "90bc038126464a671a91fb2ab880f00e798a8b06f15313e32554803c4c436d19", func := "bramble/bramblelaw4.MaskBack", spec := "maskBack", apart := false }
def MaskBackSaid : Prop := maskBackRow.holds Try.pinned (OpenSpec.ofChange maskBackSpec)

/-- ITS FALSE NEIGHBOUR: 'it returns false'. Refute it at one input. -/
def maskBackWrong : ChangeSpec := { name := "maskBack", fn := fun _ => fun
  | [d] => { results := [.lit (.bool false)], args := [d] }
  | _ => none }
def MaskBackWrongFalsely : Prop := maskBackRow.holds Try.pinned (OpenSpec.ofChange maskBackWrong)

/-- 'bramblelaw4.MaskSteps': WHATEVER THE INPUT: true; the input reads as it did. -/
def maskStepsSpec : ChangeSpec := { name := "maskSteps", fn := fun _ => fun
  | [d] => { results := [.lit (.bool true)], args := [d] }
  | _ => none }
def maskStepsRow : OpenClaim := { program := "ytfibglpiohkcoaa", sum := "90bc038126464a671a91fb2ab880f00e798a8b06f15313e32554803c4c436d19", func := "bramble/bramblelaw4.MaskSteps", spec := "maskSteps", apart := false }
def MaskStepsSaid : Prop := maskStepsRow.holds Try.pinned (OpenSpec.ofChange maskStepsSpec)

/-- ITS FALSE NEIGHBOUR: 'it returns false'. Refute it at one input. -/
def maskStepsWrong : ChangeSpec := { name := "maskSteps", fn := fun _ => fun
  | [d] => { results := [.lit (.bool false)], args := [d] }
  | _ => none }
def MaskStepsWrongFalsely : Prop := maskStepsRow.holds Try.pinned (OpenSpec.ofChange maskStepsWrong)

/-- 'bramblelaw4.MaskOthers': WHATEVER THE INPUT: true; the input reads as it did. -/
def maskOthersSpec : ChangeSpec := { name := "maskOthers", fn := fun _ => fun
  | [d1, d2] => { results := [.lit (.bool true)], args := [d1, d2] }
  | _ => none }
def maskOthersRow : OpenClaim := { program := "ytfibglpiohkcoaa", sum := "90bc038126464a671a91fb2ab880f00e798a8b06f15313e32554803c4c436d19", func := "bramble/bramblelaw4.MaskOthers", spec := "maskOthers", apart := false }
def MaskOthersSaid : Prop := maskOthersRow.holds Try.pinned (OpenSpec.ofChange maskOthersSpec)

/-- ITS FALSE NEIGHBOUR: 'it returns false'. Refute it at one input. -/
def maskOthersWrong : ChangeSpec := { name := "maskOthers", fn := fun _ => fun
  | [d1, d2] => { results := [.lit (.bool false)], args := [d1, d2] }
  | _ => none }
def MaskOthersWrongFalsely : Prop := maskOthersRow.holds Try.pinned (OpenSpec.ofChange maskOthersWrong)

/- THE SECOND FORM. 'bulk': how many values and letters a reading holds, each counted each time it is reached (what is shared counts as often as it is met; a slice's spare places count too). A statement '..UptoSaid' is the law's where the arguments, and the package variables that the reading takes, are together of bulk at most 1048576: NARROWER than '..Said'. Prove '..Said' where nothing that the law and all that it calls make is longer than what came in: it says more and counts as full. Else prove '..UptoSaid'. A law counts once. -/
mutual
def uptoBulk {H : Type} : DataW H → Nat
  | .lit (.string bytes) => bytes.length + 1
  | .lit _ => 1
  | .nil => 1
  | .ptr d => uptoBulk d + 1
  | .slice elems spare => uptoBulkAll elems + uptoBulkAll spare + 1
  | .agg parts => uptoBulkAll parts + 1
  | .iface _ d => uptoBulk d + 1
  | .map entries => uptoBulkEntries entries + 1
  | .held _ => 1
def uptoBulkAll {H : Type} : List (DataW H) → Nat
  | [] => 0
  | d :: r => uptoBulk d + uptoBulkAll r
def uptoBulkEntries {H : Type} : List (Lit × DataW H) → Nat
  | [] => 0
  | x :: r => uptoBulkEntry x + uptoBulkEntries r
def uptoBulkEntry {H : Type} : Lit × DataW H → Nat
  | (.string bytes, d) => bytes.length + uptoBulk d + 1
  | (_, d) => uptoBulk d + 1
 end
def uptoSmall : (H : Type) → List (DataW H) → Bool := fun _ ds => decide (uptoBulkAll ds ≤ 1048576)
def OpenSpec.upto (s : _root_.Go.ChangeSpec) : _root_.Go.OpenSpec := { _root_.Go.OpenSpec.ofChange s with cond := some uptoSmall }

/-- 'bramblelaw3.MeterScript', WHERE WHAT IT READS IS OF BULK AT MOST 1048576: true; the input reads as it did. -/
def meterScriptUptoRow : OpenClaim := { program := "ytfibglpiohkcoaa", sum := "90bc038126464a671a91fb2ab880f00e798a8b06f15313e32554803c4c436d19", func := "bramble/bramblelaw3.MeterScript", spec := "meterScript", inPlace := ["sync/atomic.AddInt64", "sync/atomic.LoadInt64", "sync/atomic.CompareAndSwapInt64", "sync/atomic.StoreInt64"], apart := false, narrowed := true }
def MeterScriptUptoSaid : Prop := meterScriptUptoRow.holds Try.pinned (OpenSpec.upto meterScriptSpec)

/-- 'bramblelaw3.MeterNone', WHERE WHAT IT READS IS OF BULK AT MOST 1048576: true; the input reads as it did. -/
def meterNoneUptoRow : OpenClaim := { program := "ytfibglpiohkcoaa", sum := "90bc038126464a671a91fb2ab880f00e798a8b06f15313e32554803c4c436d19", func := "bramble/bramblelaw3.MeterNone", spec := "meterNone", inPlace := ["sync/atomic.StoreInt64", "sync/atomic.AddInt64", "sync/atomic.LoadInt64", "sync/atomic.CompareAndSwapInt64"], apart := false, narrowed := true }
def MeterNoneUptoSaid : Prop := meterNoneUptoRow.holds Try.pinned (OpenSpec.upto meterNoneSpec)

/-- 'bramblelaw3.MeterAlone', WHERE WHAT IT READS IS OF BULK AT MOST 1048576: true; the input reads as it did. -/
def meterAloneUptoRow : OpenClaim := { program := "ytfibglpiohkcoaa", sum := "90bc038126464a671a91fb2ab880f00e798a8b06f15313e32554803c4c436d19", func := "bramble/bramblelaw3.MeterAlone", spec := "meterAlone", inPlace := ["sync/atomic.AddInt64", "sync/atomic.LoadInt64", "sync/atomic.CompareAndSwapInt64", "sync/atomic.StoreInt64"], apart := false, narrowed := true }
def MeterAloneUptoSaid : Prop := meterAloneUptoRow.holds Try.pinned (OpenSpec.upto meterAloneSpec)

/-- 'bramblelaw4.MaskTells', WHERE WHAT IT READS IS OF BULK AT MOST 1048576: true; the input reads as it did. -/
def maskTellsUptoRow : OpenClaim := { program := "ytfibglpiohkcoaa", sum := "90bc038126464a671a91fb2ab880f00e798a8b06f15313e32554803c4c436d19", func := "bramble/bramblelaw4.MaskTells", spec := "maskTells", apart := false, narrowed := true }
def MaskTellsUptoSaid : Prop := maskTellsUptoRow.holds Try.pinned (OpenSpec.upto maskTellsSpec)

/-- 'bramblelaw4.MaskBack', WHERE WHAT IT READS IS OF BULK AT MOST 1048576: true; the input reads as it did. -/
def maskBackUptoRow : OpenClaim := { program := "ytfibglpiohkcoaa", sum := "90bc038126464a671a91fb2ab880f00e798a8b06f15313e32554803c4c436d19", func := "bramble/bramblelaw4.MaskBack", spec := "maskBack", apart := false, narrowed := true }
def MaskBackUptoSaid : Prop := maskBackUptoRow.holds Try.pinned (OpenSpec.upto maskBackSpec)

/-- 'bramblelaw4.MaskSteps', WHERE WHAT IT READS IS OF BULK AT MOST 1048576: true; the input reads as it did. -/
def maskStepsUptoRow : OpenClaim := { program := "ytfibglpiohkcoaa", sum := "90bc038126464a671a91fb2ab880f00e798a8b06f15313e32554803c4c436d19", func := "bramble/bramblelaw4.MaskSteps", spec := "maskSteps", apart := false, narrowed := true }
def MaskStepsUptoSaid : Prop := maskStepsUptoRow.holds Try.pinned (OpenSpec.upto maskStepsSpec)

/-- 'bramblelaw4.MaskOthers', WHERE WHAT IT READS IS OF BULK AT MOST 1048576: true; the input reads as it did. -/
def maskOthersUptoRow : OpenClaim := { program := "ytfibglpiohkcoaa", sum := "90bc038126464a671a91fb2ab880f00e798a8b06f15313e32554803c4c436d19", func := "bramble/bramblelaw4.MaskOthers", spec := "maskOthers", apart := false, narrowed := true }
def MaskOthersUptoSaid : Prop := maskOthersUptoRow.holds Try.pinned (OpenSpec.upto maskOthersSpec)

end Rows
end Go.Proofs.Ytfibglpiohkcoaa
