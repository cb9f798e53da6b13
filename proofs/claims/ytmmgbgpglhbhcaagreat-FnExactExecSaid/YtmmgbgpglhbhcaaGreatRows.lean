/-
  No cell of these rows narrows 'for every input' (looked for: loops, veiled, ifaces, maps, wideKeys, modest, calm, conditions, laid).
  DERIVED. THE GIVEN ROWS OF THIS SEAT. 5 by the template 'for every input the law returns true; each argument reads behind the call as it read before'; 0 by the template 'total and deterministic' (their statements: YtmmgbgpglhbhcaaGreatTotals.lean).
  GIVEN WITH THE SEED: the statements are not yours to turn. If you find one false, say at which input.
  Laid BY PROGRAM, IN A SANDBOX (cutbox-rows.mjs): the forced cells as the released guide's own fill.sh prints them over the translation f2a7c6f4c3b67c06… (all of the seat's roots in one cut). By AI agents, Wed Nov 11 2026. No macro, syntax, notation, axiom, sorry.
-/
import Derived.Test.YtmmgbgpglhbhcaaGreatChecked
import GoSem.Claim
import GoSem.ClaimJoined
import GoSem.ClaimMapViews
import Derived.JoinedTies
import Derived.KernelRfl
namespace Go.Proofs.YtmmgbgpglhbhcaaGreat
/- THE CELL 'sum', in the pinned program and in every row, IS THE sha256 OF THE DUMP (.gsa) THAT YtmmgbgpglhbhcaaGreatProg.lean LOADS. Nothing in Lean hashes anything: it is a label: what it is worth is what the hold of that sum in a sandbox is worth. -/
noncomputable def Tryz.pinned : Pinned := { name := "ytmmgbgpglhbhcaagreat", sum := "f2a7c6f4c3b67c0672f0e6f2a65e99e38bd60fc1a283004ef20950afecfe1566", checked := Tryz.checked }
namespace Rows
def none {H : Type} : Left H := { results := [], args := [] }

/-- 'laws.FnExactDeleteRow': WHATEVER THE INPUT: true; the input reads as it did. -/
def fnExactDeleteRowSpec : ChangeSpec := { name := "fnExactDeleteRow", fn := fun _ => fun
  | [d1, d2, d3, d4] => { results := [.lit (.bool true)], args := [d1, d2, d3, d4] }
  | _ => none }
def fnExactDeleteRowRow : OpenClaim := { program := "ytmmgbgpglhbhcaagreat", sum := "f2a7c6f4c3b67c0672f0e6f2a65e99e38bd60fc1a283004ef20950afecfe1566", func := "loop.example/g00570/laws.FnExactDeleteRow", spec := "fnExactDeleteRow", unfollowed := true, recurses := true, apart := false }
def FnExactDeleteRowSaid : Prop := fnExactDeleteRowRow.holds Tryz.pinned (OpenSpec.ofChange fnExactDeleteRowSpec)

/-- ITS FALSE NEIGHBOUR: 'it returns false'. Refute it at one input. -/
def fnExactDeleteRowWrong : ChangeSpec := { name := "fnExactDeleteRow", fn := fun _ => fun
  | [d1, d2, d3, d4] => { results := [.lit (.bool false)], args := [d1, d2, d3, d4] }
  | _ => none }
def FnExactDeleteRowWrongFalsely : Prop := fnExactDeleteRowRow.holds Tryz.pinned (OpenSpec.ofChange fnExactDeleteRowWrong)

/-- 'laws.FnExactUpdateRow': WHATEVER THE INPUT: true; the input reads as it did. -/
def fnExactUpdateRowSpec : ChangeSpec := { name := "fnExactUpdateRow", fn := fun _ => fun
  | [d1, d2, d3, d4, d5, d6] => { results := [.lit (.bool true)], args := [d1, d2, d3, d4, d5, d6] }
  | _ => none }
def fnExactUpdateRowRow : OpenClaim := { program := "ytmmgbgpglhbhcaagreat", sum := "f2a7c6f4c3b67c0672f0e6f2a65e99e38bd60fc1a283004ef20950afecfe1566", func := "loop.example/g00570/laws.FnExactUpdateRow", spec := "fnExactUpdateRow", unfollowed := true, recurses := true, apart := false }
def FnExactUpdateRowSaid : Prop := fnExactUpdateRowRow.holds Tryz.pinned (OpenSpec.ofChange fnExactUpdateRowSpec)

/-- ITS FALSE NEIGHBOUR: 'it returns false'. Refute it at one input. -/
def fnExactUpdateRowWrong : ChangeSpec := { name := "fnExactUpdateRow", fn := fun _ => fun
  | [d1, d2, d3, d4, d5, d6] => { results := [.lit (.bool false)], args := [d1, d2, d3, d4, d5, d6] }
  | _ => none }
def FnExactUpdateRowWrongFalsely : Prop := fnExactUpdateRowRow.holds Tryz.pinned (OpenSpec.ofChange fnExactUpdateRowWrong)

/-- 'laws.FnExactInsertRow': WHATEVER THE INPUT: true; the input reads as it did. -/
def fnExactInsertRowSpec : ChangeSpec := { name := "fnExactInsertRow", fn := fun _ => fun
  | [d1, d2, d3, d4, d5] => { results := [.lit (.bool true)], args := [d1, d2, d3, d4, d5] }
  | _ => none }
def fnExactInsertRowRow : OpenClaim := { program := "ytmmgbgpglhbhcaagreat", sum := "f2a7c6f4c3b67c0672f0e6f2a65e99e38bd60fc1a283004ef20950afecfe1566", func := "loop.example/g00570/laws.FnExactInsertRow", spec := "fnExactInsertRow", unfollowed := true, recurses := true, apart := false }
def FnExactInsertRowSaid : Prop := fnExactInsertRowRow.holds Tryz.pinned (OpenSpec.ofChange fnExactInsertRowSpec)

/-- ITS FALSE NEIGHBOUR: 'it returns false'. Refute it at one input. -/
def fnExactInsertRowWrong : ChangeSpec := { name := "fnExactInsertRow", fn := fun _ => fun
  | [d1, d2, d3, d4, d5] => { results := [.lit (.bool false)], args := [d1, d2, d3, d4, d5] }
  | _ => none }
def FnExactInsertRowWrongFalsely : Prop := fnExactInsertRowRow.holds Tryz.pinned (OpenSpec.ofChange fnExactInsertRowWrong)

/-- 'laws.FnExactExec': WHATEVER THE INPUT: true; the input reads as it did. -/
def fnExactExecSpec : ChangeSpec := { name := "fnExactExec", fn := fun _ => fun
  | [d1, d2, d3] => { results := [.lit (.bool true)], args := [d1, d2, d3] }
  | _ => none }
def fnExactExecRow : OpenClaim := { program := "ytmmgbgpglhbhcaagreat", sum := "f2a7c6f4c3b67c0672f0e6f2a65e99e38bd60fc1a283004ef20950afecfe1566", func := "loop.example/g00570/laws.FnExactExec", spec := "fnExactExec", unfollowed := true, recurses := true, apart := false }
def FnExactExecSaid : Prop := fnExactExecRow.holds Tryz.pinned (OpenSpec.ofChange fnExactExecSpec)

/-- ITS FALSE NEIGHBOUR: 'it returns false'. Refute it at one input. -/
def fnExactExecWrong : ChangeSpec := { name := "fnExactExec", fn := fun _ => fun
  | [d1, d2, d3] => { results := [.lit (.bool false)], args := [d1, d2, d3] }
  | _ => none }
def FnExactExecWrongFalsely : Prop := fnExactExecRow.holds Tryz.pinned (OpenSpec.ofChange fnExactExecWrong)

/-- 'laws.FnExactExecFired': WHATEVER THE INPUT: true; the input reads as it did. -/
def fnExactExecFiredSpec : ChangeSpec := { name := "fnExactExecFired", fn := fun _ => fun
  | [d1, d2, d3, d4] => { results := [.lit (.bool true)], args := [d1, d2, d3, d4] }
  | _ => none }
def fnExactExecFiredRow : OpenClaim := { program := "ytmmgbgpglhbhcaagreat", sum := "f2a7c6f4c3b67c0672f0e6f2a65e99e38bd60fc1a283004ef20950afecfe1566", func := "loop.example/g00570/laws.FnExactExecFired", spec := "fnExactExecFired", unfollowed := true, recurses := true, apart := false }
def FnExactExecFiredSaid : Prop := fnExactExecFiredRow.holds Tryz.pinned (OpenSpec.ofChange fnExactExecFiredSpec)

/-- ITS FALSE NEIGHBOUR: 'it returns false'. Refute it at one input. -/
def fnExactExecFiredWrong : ChangeSpec := { name := "fnExactExecFired", fn := fun _ => fun
  | [d1, d2, d3, d4] => { results := [.lit (.bool false)], args := [d1, d2, d3, d4] }
  | _ => none }
def FnExactExecFiredWrongFalsely : Prop := fnExactExecFiredRow.holds Tryz.pinned (OpenSpec.ofChange fnExactExecFiredWrong)

/- THE SECOND FORM. 'bulk': how many values and letters a reading holds, each counted each time it is reached (what is shared counts as often as it is met; a slice's spare places count too). A statement '..UptoSaid' is the law's where the arguments, and the package variables that the reading takes, are together of bulk at most 1048576: NARROWER than '..Said'. Prove '..Said' where nothing that the law and all that it calls make is longer than what came in: it says more and counts as full. Else prove '..UptoSaid'. A law counts once. -/
mutual
def uptoBulk {H : Type} : DataW H → Nat
  | .lit (.string bytes) => bytes.length + 1
  | .lit _ => 1
  | .nil => 1
  | .ptr d => uptoBulk d + 1
  | .slice elems spare => uptoBulkAll elems + uptoBulkAll spare + 1
  | .agg parts => uptoBulkAll parts + 1
  | .iface _ d => uptoBulk d + 1
  | .map entries => uptoBulkEntries entries + 1
  | .held _ => 1
def uptoBulkAll {H : Type} : List (DataW H) → Nat
  | [] => 0
  | d :: r => uptoBulk d + uptoBulkAll r
def uptoBulkEntries {H : Type} : List (Lit × DataW H) → Nat
  | [] => 0
  | x :: r => uptoBulkEntry x + uptoBulkEntries r
def uptoBulkEntry {H : Type} : Lit × DataW H → Nat
  | (.string bytes, d) => bytes.length + uptoBulk d + 1
  | (_, d) => uptoBulk d + 1
 end
def uptoSmall : (H : Type) → List (DataW H) → Bool := fun _ ds => decide (uptoBulkAll ds ≤ 1048576)
def OpenSpec.upto (s : _root_.Go.ChangeSpec) : _root_.Go.OpenSpec := { _root_.Go.OpenSpec.ofChange s with cond := some uptoSmall }

/-- 'laws.FnExactDeleteRow', WHERE WHAT IT READS IS OF BULK AT MOST 1048576: true; the input reads as it did. -/
def fnExactDeleteRowUptoRow : OpenClaim := { program := "ytmmgbgpglhbhcaagreat", sum := "f2a7c6f4c3b67c0672f0e6f2a65e99e38bd60fc1a283004ef20950afecfe1566", func := "loop.example/g00570/laws.FnExactDeleteRow", spec := "fnExactDeleteRow", unfollowed := true, recurses := true, apart := false, narrowed := true }
def FnExactDeleteRowUptoSaid : Prop := fnExactDeleteRowUptoRow.holds Tryz.pinned (OpenSpec.upto fnExactDeleteRowSpec)

/-- 'laws.FnExactUpdateRow', WHERE WHAT IT READS IS OF BULK AT MOST 1048576: true; the input reads as it did. -/
def fnExactUpdateRowUptoRow : OpenClaim := { program := "ytmmgbgpglhbhcaagreat", sum := "f2a7c6f4c3b67c0672f0e6f2a65e99e38bd60fc1a283004ef20950afecfe1566", func := "loop.example/g00570/laws.FnExactUpdateRow", spec := "fnExactUpdateRow", unfollowed := true, recurses := true, apart := false, narrowed := true }
def FnExactUpdateRowUptoSaid : Prop := fnExactUpdateRowUptoRow.holds Tryz.pinned (OpenSpec.upto fnExactUpdateRowSpec)

/-- 'laws.FnExactInsertRow', WHERE WHAT IT READS IS OF BULK AT MOST 1048576: true; the input reads as it did. -/
def fnExactInsertRowUptoRow : OpenClaim := { program := "ytmmgbgpglhbhcaagreat", sum := "f2a7c6f4c3b67c0672f0e6f2a65e99e38bd60fc1a283004ef20950afecfe1566", func := "loop.example/g00570/laws.FnExactInsertRow", spec := "fnExactInsertRow", unfollowed := true, recurses := true, apart := false, narrowed := true }
def FnExactInsertRowUptoSaid : Prop := fnExactInsertRowUptoRow.holds Tryz.pinned (OpenSpec.upto fnExactInsertRowSpec)

/-- 'laws.FnExactExec', WHERE WHAT IT READS IS OF BULK AT MOST 1048576: true; the input reads as it did. -/
def fnExactExecUptoRow : OpenClaim := { program := "ytmmgbgpglhbhcaagreat", sum := "f2a7c6f4c3b67c0672f0e6f2a65e99e38bd60fc1a283004ef20950afecfe1566", func := "loop.example/g00570/laws.FnExactExec", spec := "fnExactExec", unfollowed := true, recurses := true, apart := false, narrowed := true }
def FnExactExecUptoSaid : Prop := fnExactExecUptoRow.holds Tryz.pinned (OpenSpec.upto fnExactExecSpec)

/-- 'laws.FnExactExecFired', WHERE WHAT IT READS IS OF BULK AT MOST 1048576: true; the input reads as it did. -/
def fnExactExecFiredUptoRow : OpenClaim := { program := "ytmmgbgpglhbhcaagreat", sum := "f2a7c6f4c3b67c0672f0e6f2a65e99e38bd60fc1a283004ef20950afecfe1566", func := "loop.example/g00570/laws.FnExactExecFired", spec := "fnExactExecFired", unfollowed := true, recurses := true, apart := false, narrowed := true }
def FnExactExecFiredUptoSaid : Prop := fnExactExecFiredUptoRow.holds Tryz.pinned (OpenSpec.upto fnExactExecFiredSpec)

end Rows
end Go.Proofs.YtmmgbgpglhbhcaaGreat
