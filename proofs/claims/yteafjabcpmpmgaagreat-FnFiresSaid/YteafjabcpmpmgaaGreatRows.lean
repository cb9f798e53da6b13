/-
  No cell of these rows narrows 'for every input' (looked for: loops, veiled, ifaces, maps, wideKeys, modest, calm, conditions, laid).
  DERIVED. THE GIVEN ROWS OF THIS SEAT. 10 by the template 'for every input the law returns true; each argument reads behind the call as it read before'; 0 by the template 'total and deterministic' (their statements: YteafjabcpmpmgaaGreatTotals.lean).
  GIVEN WITH THE SEED: the statements are not yours to turn. If you find one false, say at which input.
  Laid BY PROGRAM, IN A SANDBOX (cutbox-rows.mjs): the forced cells as the released guide's own fill.sh prints them over the translation d474f52ce025f427… (all of the seat's roots in one cut). By AI agents, Wed Nov 11 2026. No macro, syntax, notation, axiom, sorry.
-/
import Derived.Test.YteafjabcpmpmgaaGreatChecked
import GoSem.Claim
import GoSem.ClaimJoined
import GoSem.ClaimMapViews
import Derived.JoinedTies
import Derived.KernelRfl
namespace Go.Proofs.YteafjabcpmpmgaaGreat
/- THE CELL 'sum', in the pinned program and in every row, IS THE sha256 OF THE DUMP (.gsa) THAT YteafjabcpmpmgaaGreatProg.lean LOADS. Nothing in Lean hashes anything: it is a label: what it is worth is what the hold of that sum in a sandbox is worth. -/
noncomputable def Tryz.pinned : Pinned := { name := "yteafjabcpmpmgaagreat", sum := "d474f52ce025f427f3aab6ac5d403afd3cb9617e116ce7469dab1a5de11ce020", checked := Tryz.checked }
namespace Rows
def none {H : Type} : Left H := { results := [], args := [] }

/-- 'laws.FnExactRunSelect': WHATEVER THE INPUT: true; the input reads as it did. -/
def fnExactRunSelectSpec : ChangeSpec := { name := "fnExactRunSelect", fn := fun _ => fun
  | [d1, d2, d3] => { results := [.lit (.bool true)], args := [d1, d2, d3] }
  | _ => none }
def fnExactRunSelectRow : OpenClaim := { program := "yteafjabcpmpmgaagreat", sum := "d474f52ce025f427f3aab6ac5d403afd3cb9617e116ce7469dab1a5de11ce020", func := "loop.example/g00570/laws.FnExactRunSelect", spec := "fnExactRunSelect", unfollowed := true, recurses := true, apart := false }
def FnExactRunSelectSaid : Prop := fnExactRunSelectRow.holds Tryz.pinned (OpenSpec.ofChange fnExactRunSelectSpec)

/-- ITS FALSE NEIGHBOUR: 'it returns false'. Refute it at one input. -/
def fnExactRunSelectWrong : ChangeSpec := { name := "fnExactRunSelect", fn := fun _ => fun
  | [d1, d2, d3] => { results := [.lit (.bool false)], args := [d1, d2, d3] }
  | _ => none }
def FnExactRunSelectWrongFalsely : Prop := fnExactRunSelectRow.holds Tryz.pinned (OpenSpec.ofChange fnExactRunSelectWrong)

/-- 'laws.FnFires': WHATEVER THE INPUT: true; the input reads as it did. -/
def fnFiresSpec : ChangeSpec := { name := "fnFires", fn := fun _ => fun
  | [d] => { results := [.lit (.bool true)], args := [d] }
  | _ => none }
def fnFiresRow : OpenClaim := { program := "yteafjabcpmpmgaagreat", sum := "d474f52ce025f427f3aab6ac5d403afd3cb9617e116ce7469dab1a5de11ce020", func := "loop.example/g00570/laws.FnFires", spec := "fnFires", unfollowed := true, recurses := true, apart := false }
def FnFiresSaid : Prop := fnFiresRow.holds Tryz.pinned (OpenSpec.ofChange fnFiresSpec)

/-- ITS FALSE NEIGHBOUR: 'it returns false'. Refute it at one input. -/
def fnFiresWrong : ChangeSpec := { name := "fnFires", fn := fun _ => fun
  | [d] => { results := [.lit (.bool false)], args := [d] }
  | _ => none }
def FnFiresWrongFalsely : Prop := fnFiresRow.holds Tryz.pinned (OpenSpec.ofChange fnFiresWrong)

/-- 'laws.FnMatchingEither': WHATEVER THE INPUT: true; the input reads as it did. -/
def fnMatchingEitherSpec : ChangeSpec := { name := "fnMatchingEither", fn := fun _ => fun
  | [d] => { results := [.lit (.bool true)], args := [d] }
  | _ => none }
def fnMatchingEitherRow : OpenClaim := { program := "yteafjabcpmpmgaagreat", sum := "d474f52ce025f427f3aab6ac5d403afd3cb9617e116ce7469dab1a5de11ce020", func := "loop.example/g00570/laws.FnMatchingEither", spec := "fnMatchingEither", unfollowed := true, recurses := true, apart := false }
def FnMatchingEitherSaid : Prop := fnMatchingEitherRow.holds Tryz.pinned (OpenSpec.ofChange fnMatchingEitherSpec)

/-- ITS FALSE NEIGHBOUR: 'it returns false'. Refute it at one input. -/
def fnMatchingEitherWrong : ChangeSpec := { name := "fnMatchingEither", fn := fun _ => fun
  | [d] => { results := [.lit (.bool false)], args := [d] }
  | _ => none }
def FnMatchingEitherWrongFalsely : Prop := fnMatchingEitherRow.holds Tryz.pinned (OpenSpec.ofChange fnMatchingEitherWrong)

/-- 'laws.FnMatchingNot': WHATEVER THE INPUT: true; the input reads as it did. -/
def fnMatchingNotSpec : ChangeSpec := { name := "fnMatchingNot", fn := fun _ => fun
  | [d] => { results := [.lit (.bool true)], args := [d] }
  | _ => none }
def fnMatchingNotRow : OpenClaim := { program := "yteafjabcpmpmgaagreat", sum := "d474f52ce025f427f3aab6ac5d403afd3cb9617e116ce7469dab1a5de11ce020", func := "loop.example/g00570/laws.FnMatchingNot", spec := "fnMatchingNot", unfollowed := true, recurses := true, apart := false }
def FnMatchingNotSaid : Prop := fnMatchingNotRow.holds Tryz.pinned (OpenSpec.ofChange fnMatchingNotSpec)

/-- ITS FALSE NEIGHBOUR: 'it returns false'. Refute it at one input. -/
def fnMatchingNotWrong : ChangeSpec := { name := "fnMatchingNot", fn := fun _ => fun
  | [d] => { results := [.lit (.bool false)], args := [d] }
  | _ => none }
def FnMatchingNotWrongFalsely : Prop := fnMatchingNotRow.holds Tryz.pinned (OpenSpec.ofChange fnMatchingNotWrong)

/-- 'laws.FnJoin': WHATEVER THE INPUT: true; the input reads as it did. -/
def fnJoinSpec : ChangeSpec := { name := "fnJoin", fn := fun _ => fun
  | [d] => { results := [.lit (.bool true)], args := [d] }
  | _ => none }
def fnJoinRow : OpenClaim := { program := "yteafjabcpmpmgaagreat", sum := "d474f52ce025f427f3aab6ac5d403afd3cb9617e116ce7469dab1a5de11ce020", func := "loop.example/g00570/laws.FnJoin", spec := "fnJoin", unfollowed := true, recurses := true, apart := false }
def FnJoinSaid : Prop := fnJoinRow.holds Tryz.pinned (OpenSpec.ofChange fnJoinSpec)

/-- ITS FALSE NEIGHBOUR: 'it returns false'. Refute it at one input. -/
def fnJoinWrong : ChangeSpec := { name := "fnJoin", fn := fun _ => fun
  | [d] => { results := [.lit (.bool false)], args := [d] }
  | _ => none }
def FnJoinWrongFalsely : Prop := fnJoinRow.holds Tryz.pinned (OpenSpec.ofChange fnJoinWrong)

/-- 'laws.FnJoinTurned': WHATEVER THE INPUT: true; the input reads as it did. -/
def fnJoinTurnedSpec : ChangeSpec := { name := "fnJoinTurned", fn := fun _ => fun
  | [d] => { results := [.lit (.bool true)], args := [d] }
  | _ => none }
def fnJoinTurnedRow : OpenClaim := { program := "yteafjabcpmpmgaagreat", sum := "d474f52ce025f427f3aab6ac5d403afd3cb9617e116ce7469dab1a5de11ce020", func := "loop.example/g00570/laws.FnJoinTurned", spec := "fnJoinTurned", unfollowed := true, recurses := true, apart := false }
def FnJoinTurnedSaid : Prop := fnJoinTurnedRow.holds Tryz.pinned (OpenSpec.ofChange fnJoinTurnedSpec)

/-- ITS FALSE NEIGHBOUR: 'it returns false'. Refute it at one input. -/
def fnJoinTurnedWrong : ChangeSpec := { name := "fnJoinTurned", fn := fun _ => fun
  | [d] => { results := [.lit (.bool false)], args := [d] }
  | _ => none }
def FnJoinTurnedWrongFalsely : Prop := fnJoinTurnedRow.holds Tryz.pinned (OpenSpec.ofChange fnJoinTurnedWrong)

/-- 'laws.FnSelectFewer': WHATEVER THE INPUT: true; the input reads as it did. -/
def fnSelectFewerSpec : ChangeSpec := { name := "fnSelectFewer", fn := fun _ => fun
  | [d] => { results := [.lit (.bool true)], args := [d] }
  | _ => none }
def fnSelectFewerRow : OpenClaim := { program := "yteafjabcpmpmgaagreat", sum := "d474f52ce025f427f3aab6ac5d403afd3cb9617e116ce7469dab1a5de11ce020", func := "loop.example/g00570/laws.FnSelectFewer", spec := "fnSelectFewer", unfollowed := true, recurses := true, apart := false }
def FnSelectFewerSaid : Prop := fnSelectFewerRow.holds Tryz.pinned (OpenSpec.ofChange fnSelectFewerSpec)

/-- ITS FALSE NEIGHBOUR: 'it returns false'. Refute it at one input. -/
def fnSelectFewerWrong : ChangeSpec := { name := "fnSelectFewer", fn := fun _ => fun
  | [d] => { results := [.lit (.bool false)], args := [d] }
  | _ => none }
def FnSelectFewerWrongFalsely : Prop := fnSelectFewerRow.holds Tryz.pinned (OpenSpec.ofChange fnSelectFewerWrong)

/-- 'laws.FnOrdered': WHATEVER THE INPUT: true; the input reads as it did. -/
def fnOrderedSpec : ChangeSpec := { name := "fnOrdered", fn := fun _ => fun
  | [d] => { results := [.lit (.bool true)], args := [d] }
  | _ => none }
def fnOrderedRow : OpenClaim := { program := "yteafjabcpmpmgaagreat", sum := "d474f52ce025f427f3aab6ac5d403afd3cb9617e116ce7469dab1a5de11ce020", func := "loop.example/g00570/laws.FnOrdered", spec := "fnOrdered", unfollowed := true, recurses := true, apart := false }
def FnOrderedSaid : Prop := fnOrderedRow.holds Tryz.pinned (OpenSpec.ofChange fnOrderedSpec)

/-- ITS FALSE NEIGHBOUR: 'it returns false'. Refute it at one input. -/
def fnOrderedWrong : ChangeSpec := { name := "fnOrdered", fn := fun _ => fun
  | [d] => { results := [.lit (.bool false)], args := [d] }
  | _ => none }
def FnOrderedWrongFalsely : Prop := fnOrderedRow.holds Tryz.pinned (OpenSpec.ofChange fnOrderedWrong)

/-- 'laws.FnExactSessionNew': WHATEVER THE INPUT: true; the input reads as it did. -/
def fnExactSessionNewSpec : ChangeSpec := { name := "fnExactSessionNew", fn := fun _ => fun
  | [d] => { results := [.lit (.bool true)], args := [d] }
  | _ => none }
def fnExactSessionNewRow : OpenClaim := { program := "yteafjabcpmpmgaagreat", sum := "d474f52ce025f427f3aab6ac5d403afd3cb9617e116ce7469dab1a5de11ce020", func := "loop.example/g00570/laws.FnExactSessionNew", spec := "fnExactSessionNew", unfollowed := true, recurses := true, apart := false }
def FnExactSessionNewSaid : Prop := fnExactSessionNewRow.holds Tryz.pinned (OpenSpec.ofChange fnExactSessionNewSpec)

/-- ITS FALSE NEIGHBOUR: 'it returns false'. Refute it at one input. -/
def fnExactSessionNewWrong : ChangeSpec := { name := "fnExactSessionNew", fn := fun _ => fun
  | [d] => { results := [.lit (.bool false)], args := [d] }
  | _ => none }
def FnExactSessionNewWrongFalsely : Prop := fnExactSessionNewRow.holds Tryz.pinned (OpenSpec.ofChange fnExactSessionNewWrong)

/-- 'laws.FnSessionNew': WHATEVER THE INPUT: true; the input reads as it did. -/
def fnSessionNewSpec : ChangeSpec := { name := "fnSessionNew", fn := fun _ => fun
  | [d] => { results := [.lit (.bool true)], args := [d] }
  | _ => none }
def fnSessionNewRow : OpenClaim := { program := "yteafjabcpmpmgaagreat", sum := "d474f52ce025f427f3aab6ac5d403afd3cb9617e116ce7469dab1a5de11ce020", func := "loop.example/g00570/laws.FnSessionNew", spec := "fnSessionNew", unfollowed := true, recurses := true, apart := false }
def FnSessionNewSaid : Prop := fnSessionNewRow.holds Tryz.pinned (OpenSpec.ofChange fnSessionNewSpec)

/-- ITS FALSE NEIGHBOUR: 'it returns false'. Refute it at one input. -/
def fnSessionNewWrong : ChangeSpec := { name := "fnSessionNew", fn := fun _ => fun
  | [d] => { results := [.lit (.bool false)], args := [d] }
  | _ => none }
def FnSessionNewWrongFalsely : Prop := fnSessionNewRow.holds Tryz.pinned (OpenSpec.ofChange fnSessionNewWrong)

/- THE SECOND FORM. 'bulk': how many values and letters a reading holds, each counted each time it is reached (what is shared counts as often as it is met; a slice's spare places count too). A statement '..UptoSaid' is the law's where the arguments, and the package variables that the reading takes, are together of bulk at most 1048576: NARROWER than '..Said'. Prove '..Said' where nothing that the law and all that it calls make is longer than what came in: it says more and counts as full. Else prove '..UptoSaid'. A law counts once. -/
mutual
def uptoBulk {H : Type} : DataW H → Nat
  | .lit (.string bytes) => bytes.length + 1
  | .lit _ => 1
  | .nil => 1
  | .ptr d => uptoBulk d + 1
  | .slice elems spare => uptoBulkAll elems + uptoBulkAll spare + 1
  | .agg parts => uptoBulkAll parts + 1
  | .iface _ d => uptoBulk d + 1
  | .map entries => uptoBulkEntries entries + 1
  | .held _ => 1
def uptoBulkAll {H : Type} : List (DataW H) → Nat
  | [] => 0
  | d :: r => uptoBulk d + uptoBulkAll r
def uptoBulkEntries {H : Type} : List (Lit × DataW H) → Nat
  | [] => 0
  | x :: r => uptoBulkEntry x + uptoBulkEntries r
def uptoBulkEntry {H : Type} : Lit × DataW H → Nat
  | (.string bytes, d) => bytes.length + uptoBulk d + 1
  | (_, d) => uptoBulk d + 1
 end
def uptoSmall : (H : Type) → List (DataW H) → Bool := fun _ ds => decide (uptoBulkAll ds ≤ 1048576)
def OpenSpec.upto (s : _root_.Go.ChangeSpec) : _root_.Go.OpenSpec := { _root_.Go.OpenSpec.ofChange s with cond := some uptoSmall }

/-- 'laws.FnExactRunSelect', WHERE WHAT IT READS IS OF BULK AT MOST 1048576: true; the input reads as it did. -/
def fnExactRunSelectUptoRow : OpenClaim := { program := "yteafjabcpmpmgaagreat", sum := "d474f52ce025f427f3aab6ac5d403afd3cb9617e116ce7469dab1a5de11ce020", func := "loop.example/g00570/laws.FnExactRunSelect", spec := "fnExactRunSelect", unfollowed := true, recurses := true, apart := false, narrowed := true }
def FnExactRunSelectUptoSaid : Prop := fnExactRunSelectUptoRow.holds Tryz.pinned (OpenSpec.upto fnExactRunSelectSpec)

/-- 'laws.FnFires', WHERE WHAT IT READS IS OF BULK AT MOST 1048576: true; the input reads as it did. -/
def fnFiresUptoRow : OpenClaim := { program := "yteafjabcpmpmgaagreat", sum := "d474f52ce025f427f3aab6ac5d403afd3cb9617e116ce7469dab1a5de11ce020", func := "loop.example/g00570/laws.FnFires", spec := "fnFires", unfollowed := true, recurses := true, apart := false, narrowed := true }
def FnFiresUptoSaid : Prop := fnFiresUptoRow.holds Tryz.pinned (OpenSpec.upto fnFiresSpec)

/-- 'laws.FnMatchingEither', WHERE WHAT IT READS IS OF BULK AT MOST 1048576: true; the input reads as it did. -/
def fnMatchingEitherUptoRow : OpenClaim := { program := "yteafjabcpmpmgaagreat", sum := "d474f52ce025f427f3aab6ac5d403afd3cb9617e116ce7469dab1a5de11ce020", func := "loop.example/g00570/laws.FnMatchingEither", spec := "fnMatchingEither", unfollowed := true, recurses := true, apart := false, narrowed := true }
def FnMatchingEitherUptoSaid : Prop := fnMatchingEitherUptoRow.holds Tryz.pinned (OpenSpec.upto fnMatchingEitherSpec)

/-- 'laws.FnMatchingNot', WHERE WHAT IT READS IS OF BULK AT MOST 1048576: true; the input reads as it did. -/
def fnMatchingNotUptoRow : OpenClaim := { program := "yteafjabcpmpmgaagreat", sum := "d474f52ce025f427f3aab6ac5d403afd3cb9617e116ce7469dab1a5de11ce020", func := "loop.example/g00570/laws.FnMatchingNot", spec := "fnMatchingNot", unfollowed := true, recurses := true, apart := false, narrowed := true }
def FnMatchingNotUptoSaid : Prop := fnMatchingNotUptoRow.holds Tryz.pinned (OpenSpec.upto fnMatchingNotSpec)

/-- 'laws.FnJoin', WHERE WHAT IT READS IS OF BULK AT MOST 1048576: true; the input reads as it did. -/
def fnJoinUptoRow : OpenClaim := { program := "yteafjabcpmpmgaagreat", sum := "d474f52ce025f427f3aab6ac5d403afd3cb9617e116ce7469dab1a5de11ce020", func := "loop.example/g00570/laws.FnJoin", spec := "fnJoin", unfollowed := true, recurses := true, apart := false, narrowed := true }
def FnJoinUptoSaid : Prop := fnJoinUptoRow.holds Tryz.pinned (OpenSpec.upto fnJoinSpec)

/-- 'laws.FnJoinTurned', WHERE WHAT IT READS IS OF BULK AT MOST 1048576: true; the input reads as it did. -/
def fnJoinTurnedUptoRow : OpenClaim := { program := "yteafjabcpmpmgaagreat", sum := "d474f52ce025f427f3aab6ac5d403afd3cb9617e116ce7469dab1a5de11ce020", func := "loop.example/g00570/laws.FnJoinTurned", spec := "fnJoinTurned", unfollowed := true, recurses := true, apart := false, narrowed := true }
def FnJoinTurnedUptoSaid : Prop := fnJoinTurnedUptoRow.holds Tryz.pinned (OpenSpec.upto fnJoinTurnedSpec)

/-- 'laws.FnSelectFewer', WHERE WHAT IT READS IS OF BULK AT MOST 1048576: true; the input reads as it did. -/
def fnSelectFewerUptoRow : OpenClaim := { program := "yteafjabcpmpmgaagreat", sum := "d474f52ce025f427f3aab6ac5d403afd3cb9617e116ce7469dab1a5de11ce020", func := "loop.example/g00570/laws.FnSelectFewer", spec := "fnSelectFewer", unfollowed := true, recurses := true, apart := false, narrowed := true }
def FnSelectFewerUptoSaid : Prop := fnSelectFewerUptoRow.holds Tryz.pinned (OpenSpec.upto fnSelectFewerSpec)

/-- 'laws.FnOrdered', WHERE WHAT IT READS IS OF BULK AT MOST 1048576: true; the input reads as it did. -/
def fnOrderedUptoRow : OpenClaim := { program := "yteafjabcpmpmgaagreat", sum := "d474f52ce025f427f3aab6ac5d403afd3cb9617e116ce7469dab1a5de11ce020", func := "loop.example/g00570/laws.FnOrdered", spec := "fnOrdered", unfollowed := true, recurses := true, apart := false, narrowed := true }
def FnOrderedUptoSaid : Prop := fnOrderedUptoRow.holds Tryz.pinned (OpenSpec.upto fnOrderedSpec)

/-- 'laws.FnExactSessionNew', WHERE WHAT IT READS IS OF BULK AT MOST 1048576: true; the input reads as it did. -/
def fnExactSessionNewUptoRow : OpenClaim := { program := "yteafjabcpmpmgaagreat", sum := "d474f52ce025f427f3aab6ac5d403afd3cb9617e116ce7469dab1a5de11ce020", func := "loop.example/g00570/laws.FnExactSessionNew", spec := "fnExactSessionNew", unfollowed := true, recurses := true, apart := false, narrowed := true }
def FnExactSessionNewUptoSaid : Prop := fnExactSessionNewUptoRow.holds Tryz.pinned (OpenSpec.upto fnExactSessionNewSpec)

/-- 'laws.FnSessionNew', WHERE WHAT IT READS IS OF BULK AT MOST 1048576: true; the input reads as it did. -/
def fnSessionNewUptoRow : OpenClaim := { program := "yteafjabcpmpmgaagreat", sum := "d474f52ce025f427f3aab6ac5d403afd3cb9617e116ce7469dab1a5de11ce020", func := "loop.example/g00570/laws.FnSessionNew", spec := "fnSessionNew", unfollowed := true, recurses := true, apart := false, narrowed := true }
def FnSessionNewUptoSaid : Prop := fnSessionNewUptoRow.holds Tryz.pinned (OpenSpec.upto fnSessionNewSpec)

end Rows
end Go.Proofs.YteafjabcpmpmgaaGreat
