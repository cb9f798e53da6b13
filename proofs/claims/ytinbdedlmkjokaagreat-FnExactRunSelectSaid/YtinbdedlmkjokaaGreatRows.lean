/-
  No cell of these rows narrows 'for every input' (looked for: loops, veiled, ifaces, maps, wideKeys, modest, calm, conditions, laid).
  DERIVED. THE GIVEN ROWS OF THIS SEAT. 5 by the template 'for every input the law returns true; each argument reads behind the call as it read before'; 0 by the template 'total and deterministic' (their statements: YtinbdedlmkjokaaGreatTotals.lean).
  GIVEN WITH THE SEED: the statements are not yours to turn. If you find one false, say at which input.
  Laid BY PROGRAM, IN A SANDBOX (cutbox-rows.mjs): the forced cells as the released guide's own fill.sh prints them over the translation 0d65c1f5702f41d0… (all of the seat's roots in one cut). By AI agents, Wed Nov 11 2026. No macro, syntax, notation, axiom, sorry.
-/
import Derived.Test.YtinbdedlmkjokaaGreatChecked
import GoSem.Claim
import GoSem.ClaimJoined
import GoSem.ClaimMapViews
import Derived.JoinedTies
import Derived.KernelRfl
namespace Go.Proofs.YtinbdedlmkjokaaGreat
/- THE CELL 'sum', in the pinned program and in every row, IS THE sha256 OF THE DUMP (.gsa) THAT YtinbdedlmkjokaaGreatProg.lean LOADS. Nothing in Lean hashes anything: it is a label: what it is worth is what the hold of that sum in a sandbox is worth. -/
noncomputable def Tryz.pinned : Pinned := { name := "ytinbdedlmkjokaagreat", sum := "0d65c1f5702f41d004ed9c8cacc52902da5f5c49998d6dfd59b15a0c7498045a", checked := Tryz.checked }
namespace Rows
def none {H : Type} : Left H := { results := [], args := [] }

/-- 'laws.FnSessionNew': WHATEVER THE INPUT: true; the input reads as it did. -/
def fnSessionNewSpec : ChangeSpec := { name := "fnSessionNew", fn := fun _ => fun
  | [d] => { results := [.lit (.bool true)], args := [d] }
  | _ => none }
def fnSessionNewRow : OpenClaim := { program := "ytinbdedlmkjokaagreat", sum := "0d65c1f5702f41d004ed9c8cacc52902da5f5c49998d6dfd59b15a0c7498045a", func := "loop.example/g00570/laws.FnSessionNew", spec := "fnSessionNew", unfollowed := true, recurses := true, apart := false }
def FnSessionNewSaid : Prop := fnSessionNewRow.holds Tryz.pinned (OpenSpec.ofChange fnSessionNewSpec)

/-- ITS FALSE NEIGHBOUR: 'it returns false'. Refute it at one input. -/
def fnSessionNewWrong : ChangeSpec := { name := "fnSessionNew", fn := fun _ => fun
  | [d] => { results := [.lit (.bool false)], args := [d] }
  | _ => none }
def FnSessionNewWrongFalsely : Prop := fnSessionNewRow.holds Tryz.pinned (OpenSpec.ofChange fnSessionNewWrong)

/-- 'laws.FnExactSessionNew': WHATEVER THE INPUT: true; the input reads as it did. -/
def fnExactSessionNewSpec : ChangeSpec := { name := "fnExactSessionNew", fn := fun _ => fun
  | [d] => { results := [.lit (.bool true)], args := [d] }
  | _ => none }
def fnExactSessionNewRow : OpenClaim := { program := "ytinbdedlmkjokaagreat", sum := "0d65c1f5702f41d004ed9c8cacc52902da5f5c49998d6dfd59b15a0c7498045a", func := "loop.example/g00570/laws.FnExactSessionNew", spec := "fnExactSessionNew", unfollowed := true, recurses := true, apart := false }
def FnExactSessionNewSaid : Prop := fnExactSessionNewRow.holds Tryz.pinned (OpenSpec.ofChange fnExactSessionNewSpec)

/-- ITS FALSE NEIGHBOUR: 'it returns false'. Refute it at one input. -/
def fnExactSessionNewWrong : ChangeSpec := { name := "fnExactSessionNew", fn := fun _ => fun
  | [d] => { results := [.lit (.bool false)], args := [d] }
  | _ => none }
def FnExactSessionNewWrongFalsely : Prop := fnExactSessionNewRow.holds Tryz.pinned (OpenSpec.ofChange fnExactSessionNewWrong)

/-- 'laws.FnSelectFewer': WHATEVER THE INPUT: true; the input reads as it did. -/
def fnSelectFewerSpec : ChangeSpec := { name := "fnSelectFewer", fn := fun _ => fun
  | [d] => { results := [.lit (.bool true)], args := [d] }
  | _ => none }
def fnSelectFewerRow : OpenClaim := { program := "ytinbdedlmkjokaagreat", sum := "0d65c1f5702f41d004ed9c8cacc52902da5f5c49998d6dfd59b15a0c7498045a", func := "loop.example/g00570/laws.FnSelectFewer", spec := "fnSelectFewer", unfollowed := true, recurses := true, apart := false }
def FnSelectFewerSaid : Prop := fnSelectFewerRow.holds Tryz.pinned (OpenSpec.ofChange fnSelectFewerSpec)

/-- ITS FALSE NEIGHBOUR: 'it returns false'. Refute it at one input. -/
def fnSelectFewerWrong : ChangeSpec := { name := "fnSelectFewer", fn := fun _ => fun
  | [d] => { results := [.lit (.bool false)], args := [d] }
  | _ => none }
def FnSelectFewerWrongFalsely : Prop := fnSelectFewerRow.holds Tryz.pinned (OpenSpec.ofChange fnSelectFewerWrong)

/-- 'laws.FnOrdered': WHATEVER THE INPUT: true; the input reads as it did. -/
def fnOrderedSpec : ChangeSpec := { name := "fnOrdered", fn := fun _ => fun
  | [d] => { results := [.lit (.bool true)], args := [d] }
  | _ => none }
def fnOrderedRow : OpenClaim := { program := "ytinbdedlmkjokaagreat", sum := "0d65c1f5702f41d004ed9c8cacc52902da5f5c49998d6dfd59b15a0c7498045a", func := "loop.example/g00570/laws.FnOrdered", spec := "fnOrdered", unfollowed := true, recurses := true, apart := false }
def FnOrderedSaid : Prop := fnOrderedRow.holds Tryz.pinned (OpenSpec.ofChange fnOrderedSpec)

/-- ITS FALSE NEIGHBOUR: 'it returns false'. Refute it at one input. -/
def fnOrderedWrong : ChangeSpec := { name := "fnOrdered", fn := fun _ => fun
  | [d] => { results := [.lit (.bool false)], args := [d] }
  | _ => none }
def FnOrderedWrongFalsely : Prop := fnOrderedRow.holds Tryz.pinned (OpenSpec.ofChange fnOrderedWrong)

/-- 'laws.FnExactRunSelect': WHATEVER THE INPUT: true; the input reads as it did. -/
def fnExactRunSelectSpec : ChangeSpec := { name := "fnExactRunSelect", fn := fun _ => fun
  | [d1, d2, d3] => { results := [.lit (.bool true)], args := [d1, d2, d3] }
  | _ => none }
def fnExactRunSelectRow : OpenClaim := { program := "ytinbdedlmkjokaagreat", sum := "0d65c1f5702f41d004ed9c8cacc52902da5f5c49998d6dfd59b15a0c7498045a", func := "loop.example/g00570/laws.FnExactRunSelect", spec := "fnExactRunSelect", unfollowed := true, recurses := true, apart := false }
def FnExactRunSelectSaid : Prop := fnExactRunSelectRow.holds Tryz.pinned (OpenSpec.ofChange fnExactRunSelectSpec)

/-- ITS FALSE NEIGHBOUR: 'it returns false'. Refute it at one input. -/
def fnExactRunSelectWrong : ChangeSpec := { name := "fnExactRunSelect", fn := fun _ => fun
  | [d1, d2, d3] => { results := [.lit (.bool false)], args := [d1, d2, d3] }
  | _ => none }
def FnExactRunSelectWrongFalsely : Prop := fnExactRunSelectRow.holds Tryz.pinned (OpenSpec.ofChange fnExactRunSelectWrong)

/- THE SECOND FORM. 'bulk': how many values and letters a reading holds, each counted each time it is reached (what is shared counts as often as it is met; a slice's spare places count too). A statement '..UptoSaid' is the law's where the arguments, and the package variables that the reading takes, are together of bulk at most 1048576: NARROWER than '..Said'. Prove '..Said' where nothing that the law and all that it calls make is longer than what came in: it says more and counts as full. Else prove '..UptoSaid'. A law counts once. -/
mutual
def uptoBulk {H : Type} : DataW H → Nat
  | .lit (.string bytes) => bytes.length + 1
  | .lit _ => 1
  | .nil => 1
  | .ptr d => uptoBulk d + 1
  | .slice elems spare => uptoBulkAll elems + uptoBulkAll spare + 1
  | .agg parts => uptoBulkAll parts + 1
  | .iface _ d => uptoBulk d + 1
  | .map entries => uptoBulkEntries entries + 1
  | .held _ => 1
def uptoBulkAll {H : Type} : List (DataW H) → Nat
  | [] => 0
  | d :: r => uptoBulk d + uptoBulkAll r
def uptoBulkEntries {H : Type} : List (Lit × DataW H) → Nat
  | [] => 0
  | x :: r => uptoBulkEntry x + uptoBulkEntries r
def uptoBulkEntry {H : Type} : Lit × DataW H → Nat
  | (.string bytes, d) => bytes.length + uptoBulk d + 1
  | (_, d) => uptoBulk d + 1
 end
def uptoSmall : (H : Type) → List (DataW H) → Bool := fun _ ds => decide (uptoBulkAll ds ≤ 1048576)
def OpenSpec.upto (s : _root_.Go.ChangeSpec) : _root_.Go.OpenSpec := { _root_.Go.OpenSpec.ofChange s with cond := some uptoSmall }

/-- 'laws.FnSessionNew', WHERE WHAT IT READS IS OF BULK AT MOST 1048576: true; the input reads as it did. -/
def fnSessionNewUptoRow : OpenClaim := { program := "ytinbdedlmkjokaagreat", sum := "0d65c1f5702f41d004ed9c8cacc52902da5f5c49998d6dfd59b15a0c7498045a", func := "loop.example/g00570/laws.FnSessionNew", spec := "fnSessionNew", unfollowed := true, recurses := true, apart := false, narrowed := true }
def FnSessionNewUptoSaid : Prop := fnSessionNewUptoRow.holds Tryz.pinned (OpenSpec.upto fnSessionNewSpec)

/-- 'laws.FnExactSessionNew', WHERE WHAT IT READS IS OF BULK AT MOST 1048576: true; the input reads as it did. -/
def fnExactSessionNewUptoRow : OpenClaim := { program := "ytinbdedlmkjokaagreat", sum := "0d65c1f5702f41d004ed9c8cacc52902da5f5c49998d6dfd59b15a0c7498045a", func := "loop.example/g00570/laws.FnExactSessionNew", spec := "fnExactSessionNew", unfollowed := true, recurses := true, apart := false, narrowed := true }
def FnExactSessionNewUptoSaid : Prop := fnExactSessionNewUptoRow.holds Tryz.pinned (OpenSpec.upto fnExactSessionNewSpec)

/-- 'laws.FnSelectFewer', WHERE WHAT IT READS IS OF BULK AT MOST 1048576: true; the input reads as it did. -/
def fnSelectFewerUptoRow : OpenClaim := { program := "ytinbdedlmkjokaagreat", sum := "0d65c1f5702f41d004ed9c8cacc52902da5f5c49998d6dfd59b15a0c7498045a", func := "loop.example/g00570/laws.FnSelectFewer", spec := "fnSelectFewer", unfollowed := true, recurses := true, apart := false, narrowed := true }
def FnSelectFewerUptoSaid : Prop := fnSelectFewerUptoRow.holds Tryz.pinned (OpenSpec.upto fnSelectFewerSpec)

/-- 'laws.FnOrdered', WHERE WHAT IT READS IS OF BULK AT MOST 1048576: true; the input reads as it did. -/
def fnOrderedUptoRow : OpenClaim := { program := "ytinbdedlmkjokaagreat", sum := "0d65c1f5702f41d004ed9c8cacc52902da5f5c49998d6dfd59b15a0c7498045a", func := "loop.example/g00570/laws.FnOrdered", spec := "fnOrdered", unfollowed := true, recurses := true, apart := false, narrowed := true }
def FnOrderedUptoSaid : Prop := fnOrderedUptoRow.holds Tryz.pinned (OpenSpec.upto fnOrderedSpec)

/-- 'laws.FnExactRunSelect', WHERE WHAT IT READS IS OF BULK AT MOST 1048576: true; the input reads as it did. -/
def fnExactRunSelectUptoRow : OpenClaim := { program := "ytinbdedlmkjokaagreat", sum := "0d65c1f5702f41d004ed9c8cacc52902da5f5c49998d6dfd59b15a0c7498045a", func := "loop.example/g00570/laws.FnExactRunSelect", spec := "fnExactRunSelect", unfollowed := true, recurses := true, apart := false, narrowed := true }
def FnExactRunSelectUptoSaid : Prop := fnExactRunSelectUptoRow.holds Tryz.pinned (OpenSpec.upto fnExactRunSelectSpec)

end Rows
end Go.Proofs.YtinbdedlmkjokaaGreat
