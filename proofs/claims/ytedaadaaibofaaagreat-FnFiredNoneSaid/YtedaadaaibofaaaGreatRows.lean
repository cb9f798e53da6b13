/-
  No cell of these rows narrows 'for every input' (looked for: loops, veiled, ifaces, maps, wideKeys, modest, calm, conditions, laid).
  DERIVED. THE GIVEN ROWS OF THIS SEAT. 8 by the template 'for every input the law returns true; each argument reads behind the call as it read before'; 0 by the template 'total and deterministic' (their statements: YtedaadaaibofaaaGreatTotals.lean).
  GIVEN WITH THE SEED: the statements are not yours to turn. If you find one false, say at which input.
  Laid BY PROGRAM, IN A SANDBOX (cutbox-rows.mjs): the forced cells as the released guide's own fill.sh prints them over the translation 7817de50c2271ab0… (all of the seat's roots in one cut). By AI agents, Wed Nov 11 2026. No macro, syntax, notation, axiom, sorry.
-/
import Derived.Test.YtedaadaaibofaaaGreatChecked
import GoSem.Claim
import GoSem.ClaimJoined
import GoSem.ClaimMapViews
import Derived.JoinedTies
import Derived.KernelRfl
namespace Go.Proofs.YtedaadaaibofaaaGreat
/- THE CELL 'sum', in the pinned program and in every row, IS THE sha256 OF THE DUMP (.gsa) THAT YtedaadaaibofaaaGreatProg.lean LOADS. Nothing in Lean hashes anything: it is a label: what it is worth is what the hold of that sum in a sandbox is worth. -/
noncomputable def Tryz.pinned : Pinned := { name := "ytedaadaaibofaaagreat", sum := "7817de50c2271ab02c7bcc09c5f6027fa5a97550bd6d556f1349d5a683bac8c3", checked := Tryz.checked }
namespace Rows
def none {H : Type} : Left H := { results := [], args := [] }

/-- 'laws.FnExactExecFired': WHATEVER THE INPUT: true; the input reads as it did. -/
def fnExactExecFiredSpec : ChangeSpec := { name := "fnExactExecFired", fn := fun _ => fun
  | [d1, d2, d3, d4] => { results := [.lit (.bool true)], args := [d1, d2, d3, d4] }
  | _ => none }
def fnExactExecFiredRow : OpenClaim := { program := "ytedaadaaibofaaagreat", sum := "7817de50c2271ab02c7bcc09c5f6027fa5a97550bd6d556f1349d5a683bac8c3", func := "loop.example/g00570/laws.FnExactExecFired", spec := "fnExactExecFired", unfollowed := true, recurses := true, apart := false }
def FnExactExecFiredSaid : Prop := fnExactExecFiredRow.holds Tryz.pinned (OpenSpec.ofChange fnExactExecFiredSpec)

/-- ITS FALSE NEIGHBOUR: 'it returns false'. Refute it at one input. -/
def fnExactExecFiredWrong : ChangeSpec := { name := "fnExactExecFired", fn := fun _ => fun
  | [d1, d2, d3, d4] => { results := [.lit (.bool false)], args := [d1, d2, d3, d4] }
  | _ => none }
def FnExactExecFiredWrongFalsely : Prop := fnExactExecFiredRow.holds Tryz.pinned (OpenSpec.ofChange fnExactExecFiredWrong)

/-- 'laws.FnExactRollback': WHATEVER THE INPUT: true; the input reads as it did. -/
def fnExactRollbackSpec : ChangeSpec := { name := "fnExactRollback", fn := fun _ => fun
  | [d] => { results := [.lit (.bool true)], args := [d] }
  | _ => none }
def fnExactRollbackRow : OpenClaim := { program := "ytedaadaaibofaaagreat", sum := "7817de50c2271ab02c7bcc09c5f6027fa5a97550bd6d556f1349d5a683bac8c3", func := "loop.example/g00570/laws.FnExactRollback", spec := "fnExactRollback", unfollowed := true, recurses := true, apart := false }
def FnExactRollbackSaid : Prop := fnExactRollbackRow.holds Tryz.pinned (OpenSpec.ofChange fnExactRollbackSpec)

/-- ITS FALSE NEIGHBOUR: 'it returns false'. Refute it at one input. -/
def fnExactRollbackWrong : ChangeSpec := { name := "fnExactRollback", fn := fun _ => fun
  | [d] => { results := [.lit (.bool false)], args := [d] }
  | _ => none }
def FnExactRollbackWrongFalsely : Prop := fnExactRollbackRow.holds Tryz.pinned (OpenSpec.ofChange fnExactRollbackWrong)

/-- 'laws.FnExactSessionNew': WHATEVER THE INPUT: true; the input reads as it did. -/
def fnExactSessionNewSpec : ChangeSpec := { name := "fnExactSessionNew", fn := fun _ => fun
  | [d] => { results := [.lit (.bool true)], args := [d] }
  | _ => none }
def fnExactSessionNewRow : OpenClaim := { program := "ytedaadaaibofaaagreat", sum := "7817de50c2271ab02c7bcc09c5f6027fa5a97550bd6d556f1349d5a683bac8c3", func := "loop.example/g00570/laws.FnExactSessionNew", spec := "fnExactSessionNew", unfollowed := true, recurses := true, apart := false }
def FnExactSessionNewSaid : Prop := fnExactSessionNewRow.holds Tryz.pinned (OpenSpec.ofChange fnExactSessionNewSpec)

/-- ITS FALSE NEIGHBOUR: 'it returns false'. Refute it at one input. -/
def fnExactSessionNewWrong : ChangeSpec := { name := "fnExactSessionNew", fn := fun _ => fun
  | [d] => { results := [.lit (.bool false)], args := [d] }
  | _ => none }
def FnExactSessionNewWrongFalsely : Prop := fnExactSessionNewRow.holds Tryz.pinned (OpenSpec.ofChange fnExactSessionNewWrong)

/-- 'laws.FnSessionNew': WHATEVER THE INPUT: true; the input reads as it did. -/
def fnSessionNewSpec : ChangeSpec := { name := "fnSessionNew", fn := fun _ => fun
  | [d] => { results := [.lit (.bool true)], args := [d] }
  | _ => none }
def fnSessionNewRow : OpenClaim := { program := "ytedaadaaibofaaagreat", sum := "7817de50c2271ab02c7bcc09c5f6027fa5a97550bd6d556f1349d5a683bac8c3", func := "loop.example/g00570/laws.FnSessionNew", spec := "fnSessionNew", unfollowed := true, recurses := true, apart := false }
def FnSessionNewSaid : Prop := fnSessionNewRow.holds Tryz.pinned (OpenSpec.ofChange fnSessionNewSpec)

/-- ITS FALSE NEIGHBOUR: 'it returns false'. Refute it at one input. -/
def fnSessionNewWrong : ChangeSpec := { name := "fnSessionNew", fn := fun _ => fun
  | [d] => { results := [.lit (.bool false)], args := [d] }
  | _ => none }
def FnSessionNewWrongFalsely : Prop := fnSessionNewRow.holds Tryz.pinned (OpenSpec.ofChange fnSessionNewWrong)

/-- 'laws.FnOneByOne': WHATEVER THE INPUT: true; the input reads as it did. -/
def fnOneByOneSpec : ChangeSpec := { name := "fnOneByOne", fn := fun _ => fun
  | [d] => { results := [.lit (.bool true)], args := [d] }
  | _ => none }
def fnOneByOneRow : OpenClaim := { program := "ytedaadaaibofaaagreat", sum := "7817de50c2271ab02c7bcc09c5f6027fa5a97550bd6d556f1349d5a683bac8c3", func := "loop.example/g00570/laws.FnOneByOne", spec := "fnOneByOne", unfollowed := true, recurses := true, apart := false }
def FnOneByOneSaid : Prop := fnOneByOneRow.holds Tryz.pinned (OpenSpec.ofChange fnOneByOneSpec)

/-- ITS FALSE NEIGHBOUR: 'it returns false'. Refute it at one input. -/
def fnOneByOneWrong : ChangeSpec := { name := "fnOneByOne", fn := fun _ => fun
  | [d] => { results := [.lit (.bool false)], args := [d] }
  | _ => none }
def FnOneByOneWrongFalsely : Prop := fnOneByOneRow.holds Tryz.pinned (OpenSpec.ofChange fnOneByOneWrong)

/-- 'laws.FnIgnored': WHATEVER THE INPUT: true; the input reads as it did. -/
def fnIgnoredSpec : ChangeSpec := { name := "fnIgnored", fn := fun _ => fun
  | [d] => { results := [.lit (.bool true)], args := [d] }
  | _ => none }
def fnIgnoredRow : OpenClaim := { program := "ytedaadaaibofaaagreat", sum := "7817de50c2271ab02c7bcc09c5f6027fa5a97550bd6d556f1349d5a683bac8c3", func := "loop.example/g00570/laws.FnIgnored", spec := "fnIgnored", unfollowed := true, recurses := true, apart := false }
def FnIgnoredSaid : Prop := fnIgnoredRow.holds Tryz.pinned (OpenSpec.ofChange fnIgnoredSpec)

/-- ITS FALSE NEIGHBOUR: 'it returns false'. Refute it at one input. -/
def fnIgnoredWrong : ChangeSpec := { name := "fnIgnored", fn := fun _ => fun
  | [d] => { results := [.lit (.bool false)], args := [d] }
  | _ => none }
def FnIgnoredWrongFalsely : Prop := fnIgnoredRow.holds Tryz.pinned (OpenSpec.ofChange fnIgnoredWrong)

/-- 'laws.FnFiredNone': WHATEVER THE INPUT: true; the input reads as it did. -/
def fnFiredNoneSpec : ChangeSpec := { name := "fnFiredNone", fn := fun _ => fun
  | [d] => { results := [.lit (.bool true)], args := [d] }
  | _ => none }
def fnFiredNoneRow : OpenClaim := { program := "ytedaadaaibofaaagreat", sum := "7817de50c2271ab02c7bcc09c5f6027fa5a97550bd6d556f1349d5a683bac8c3", func := "loop.example/g00570/laws.FnFiredNone", spec := "fnFiredNone", unfollowed := true, recurses := true, apart := false }
def FnFiredNoneSaid : Prop := fnFiredNoneRow.holds Tryz.pinned (OpenSpec.ofChange fnFiredNoneSpec)

/-- ITS FALSE NEIGHBOUR: 'it returns false'. Refute it at one input. -/
def fnFiredNoneWrong : ChangeSpec := { name := "fnFiredNone", fn := fun _ => fun
  | [d] => { results := [.lit (.bool false)], args := [d] }
  | _ => none }
def FnFiredNoneWrongFalsely : Prop := fnFiredNoneRow.holds Tryz.pinned (OpenSpec.ofChange fnFiredNoneWrong)

/-- 'laws.FnMatching': WHATEVER THE INPUT: true; the input reads as it did. -/
def fnMatchingSpec : ChangeSpec := { name := "fnMatching", fn := fun _ => fun
  | [d] => { results := [.lit (.bool true)], args := [d] }
  | _ => none }
def fnMatchingRow : OpenClaim := { program := "ytedaadaaibofaaagreat", sum := "7817de50c2271ab02c7bcc09c5f6027fa5a97550bd6d556f1349d5a683bac8c3", func := "loop.example/g00570/laws.FnMatching", spec := "fnMatching", unfollowed := true, recurses := true, apart := false }
def FnMatchingSaid : Prop := fnMatchingRow.holds Tryz.pinned (OpenSpec.ofChange fnMatchingSpec)

/-- ITS FALSE NEIGHBOUR: 'it returns false'. Refute it at one input. -/
def fnMatchingWrong : ChangeSpec := { name := "fnMatching", fn := fun _ => fun
  | [d] => { results := [.lit (.bool false)], args := [d] }
  | _ => none }
def FnMatchingWrongFalsely : Prop := fnMatchingRow.holds Tryz.pinned (OpenSpec.ofChange fnMatchingWrong)

/- THE SECOND FORM. 'bulk': how many values and letters a reading holds, each counted each time it is reached (what is shared counts as often as it is met; a slice's spare places count too). A statement '..UptoSaid' is the law's where the arguments, and the package variables that the reading takes, are together of bulk at most 1048576: NARROWER than '..Said'. Prove '..Said' where nothing that the law and all that it calls make is longer than what came in: it says more and counts as full. Else prove '..UptoSaid'. A law counts once. -/
mutual
def uptoBulk {H : Type} : DataW H → Nat
  | .lit (.string bytes) => bytes.length + 1
  | .lit _ => 1
  | .nil => 1
  | .ptr d => uptoBulk d + 1
  | .slice elems spare => uptoBulkAll elems + uptoBulkAll spare + 1
  | .agg parts => uptoBulkAll parts + 1
  | .iface _ d => uptoBulk d + 1
  | .map entries => uptoBulkEntries entries + 1
  | .held _ => 1
def uptoBulkAll {H : Type} : List (DataW H) → Nat
  | [] => 0
  | d :: r => uptoBulk d + uptoBulkAll r
def uptoBulkEntries {H : Type} : List (Lit × DataW H) → Nat
  | [] => 0
  | x :: r => uptoBulkEntry x + uptoBulkEntries r
def uptoBulkEntry {H : Type} : Lit × DataW H → Nat
  | (.string bytes, d) => bytes.length + uptoBulk d + 1
  | (_, d) => uptoBulk d + 1
 end
def uptoSmall : (H : Type) → List (DataW H) → Bool := fun _ ds => decide (uptoBulkAll ds ≤ 1048576)
def OpenSpec.upto (s : _root_.Go.ChangeSpec) : _root_.Go.OpenSpec := { _root_.Go.OpenSpec.ofChange s with cond := some uptoSmall }

/-- 'laws.FnExactExecFired', WHERE WHAT IT READS IS OF BULK AT MOST 1048576: true; the input reads as it did. -/
def fnExactExecFiredUptoRow : OpenClaim := { program := "ytedaadaaibofaaagreat", sum := "7817de50c2271ab02c7bcc09c5f6027fa5a97550bd6d556f1349d5a683bac8c3", func := "loop.example/g00570/laws.FnExactExecFired", spec := "fnExactExecFired", unfollowed := true, recurses := true, apart := false, narrowed := true }
def FnExactExecFiredUptoSaid : Prop := fnExactExecFiredUptoRow.holds Tryz.pinned (OpenSpec.upto fnExactExecFiredSpec)

/-- 'laws.FnExactRollback', WHERE WHAT IT READS IS OF BULK AT MOST 1048576: true; the input reads as it did. -/
def fnExactRollbackUptoRow : OpenClaim := { program := "ytedaadaaibofaaagreat", sum := "7817de50c2271ab02c7bcc09c5f6027fa5a97550bd6d556f1349d5a683bac8c3", func := "loop.example/g00570/laws.FnExactRollback", spec := "fnExactRollback", unfollowed := true, recurses := true, apart := false, narrowed := true }
def FnExactRollbackUptoSaid : Prop := fnExactRollbackUptoRow.holds Tryz.pinned (OpenSpec.upto fnExactRollbackSpec)

/-- 'laws.FnExactSessionNew', WHERE WHAT IT READS IS OF BULK AT MOST 1048576: true; the input reads as it did. -/
def fnExactSessionNewUptoRow : OpenClaim := { program := "ytedaadaaibofaaagreat", sum := "7817de50c2271ab02c7bcc09c5f6027fa5a97550bd6d556f1349d5a683bac8c3", func := "loop.example/g00570/laws.FnExactSessionNew", spec := "fnExactSessionNew", unfollowed := true, recurses := true, apart := false, narrowed := true }
def FnExactSessionNewUptoSaid : Prop := fnExactSessionNewUptoRow.holds Tryz.pinned (OpenSpec.upto fnExactSessionNewSpec)

/-- 'laws.FnSessionNew', WHERE WHAT IT READS IS OF BULK AT MOST 1048576: true; the input reads as it did. -/
def fnSessionNewUptoRow : OpenClaim := { program := "ytedaadaaibofaaagreat", sum := "7817de50c2271ab02c7bcc09c5f6027fa5a97550bd6d556f1349d5a683bac8c3", func := "loop.example/g00570/laws.FnSessionNew", spec := "fnSessionNew", unfollowed := true, recurses := true, apart := false, narrowed := true }
def FnSessionNewUptoSaid : Prop := fnSessionNewUptoRow.holds Tryz.pinned (OpenSpec.upto fnSessionNewSpec)

/-- 'laws.FnOneByOne', WHERE WHAT IT READS IS OF BULK AT MOST 1048576: true; the input reads as it did. -/
def fnOneByOneUptoRow : OpenClaim := { program := "ytedaadaaibofaaagreat", sum := "7817de50c2271ab02c7bcc09c5f6027fa5a97550bd6d556f1349d5a683bac8c3", func := "loop.example/g00570/laws.FnOneByOne", spec := "fnOneByOne", unfollowed := true, recurses := true, apart := false, narrowed := true }
def FnOneByOneUptoSaid : Prop := fnOneByOneUptoRow.holds Tryz.pinned (OpenSpec.upto fnOneByOneSpec)

/-- 'laws.FnIgnored', WHERE WHAT IT READS IS OF BULK AT MOST 1048576: true; the input reads as it did. -/
def fnIgnoredUptoRow : OpenClaim := { program := "ytedaadaaibofaaagreat", sum := "7817de50c2271ab02c7bcc09c5f6027fa5a97550bd6d556f1349d5a683bac8c3", func := "loop.example/g00570/laws.FnIgnored", spec := "fnIgnored", unfollowed := true, recurses := true, apart := false, narrowed := true }
def FnIgnoredUptoSaid : Prop := fnIgnoredUptoRow.holds Tryz.pinned (OpenSpec.upto fnIgnoredSpec)

/-- 'laws.FnFiredNone', WHERE WHAT IT READS IS OF BULK AT MOST 1048576: true; the input reads as it did. -/
def fnFiredNoneUptoRow : OpenClaim := { program := "ytedaadaaibofaaagreat", sum := "7817de50c2271ab02c7bcc09c5f6027fa5a97550bd6d556f1349d5a683bac8c3", func := "loop.example/g00570/laws.FnFiredNone", spec := "fnFiredNone", unfollowed := true, recurses := true, apart := false, narrowed := true }
def FnFiredNoneUptoSaid : Prop := fnFiredNoneUptoRow.holds Tryz.pinned (OpenSpec.upto fnFiredNoneSpec)

/-- 'laws.FnMatching', WHERE WHAT IT READS IS OF BULK AT MOST 1048576: true; the input reads as it did. -/
def fnMatchingUptoRow : OpenClaim := { program := "ytedaadaaibofaaagreat", sum := "7817de50c2271ab02c7bcc09c5f6027fa5a97550bd6d556f1349d5a683bac8c3", func := "loop.example/g00570/laws.FnMatching", spec := "fnMatching", unfollowed := true, recurses := true, apart := false, narrowed := true }
def FnMatchingUptoSaid : Prop := fnMatchingUptoRow.holds Tryz.pinned (OpenSpec.upto fnMatchingSpec)

end Rows
end Go.Proofs.YtedaadaaibofaaaGreat
