/-
  No cell of these rows narrows 'for every input' (looked for: loops, veiled, ifaces, maps, wideKeys, modest, calm, conditions, laid).
  DERIVED. THE GIVEN ROWS OF THIS SEAT. 9 by the template 'for every input the law returns true; each argument reads behind the call as it read before'; 0 by the template 'total and deterministic' (their statements: YtcfpdongfdhgjaaGreatTotals.lean).
  GIVEN WITH THE SEED: the statements are not yours to turn. If you find one false, say at which input.
  Laid BY PROGRAM, IN A SANDBOX (cutbox-rows.mjs): the forced cells as the released guide's own fill.sh prints them over the translation 23aaca4f23687b7a… (all of the seat's roots in one cut). By AI agents, Wed Nov 11 2026. No macro, syntax, notation, axiom, sorry.
-/
import Derived.Test.YtcfpdongfdhgjaaGreatChecked
import GoSem.Claim
import GoSem.ClaimJoined
import GoSem.ClaimMapViews
import Derived.JoinedTies
import Derived.KernelRfl
namespace Go.Proofs.YtcfpdongfdhgjaaGreat
/- THE CELL 'sum', in the pinned program and in every row, IS THE sha256 OF THE DUMP (.gsa) THAT YtcfpdongfdhgjaaGreatProg.lean LOADS. Nothing in Lean hashes anything: it is a label: what it is worth is what the hold of that sum in a sandbox is worth. -/
noncomputable def Tryz.pinned : Pinned := { name := "ytcfpdongfdhgjaagreat", sum := "23aaca4f23687b7a1a125b2cb8bde319b887cad305ae9dbfb0d3ca95f6335cf9", checked := Tryz.checked }
namespace Rows
def none {H : Type} : Left H := { results := [], args := [] }

/-- 'laws.FnExactSessionNew': WHATEVER THE INPUT: true; the input reads as it did. -/
def fnExactSessionNewSpec : ChangeSpec := { name := "fnExactSessionNew", fn := fun _ => fun
  | [d] => { results := [.lit (.bool true)], args := [d] }
  | _ => none }
def fnExactSessionNewRow : OpenClaim := { program := "ytcfpdongfdhgjaagreat", sum := "23aaca4f23687b7a1a125b2cb8bde319b887cad305ae9dbfb0d3ca95f6335cf9", func := "loop.example/g00570/laws.FnExactSessionNew", spec := "fnExactSessionNew", unfollowed := true, recurses := true, plainKeys := false, apart := false }
def FnExactSessionNewSaid : Prop := fnExactSessionNewRow.holds Tryz.pinned (OpenSpec.ofChange fnExactSessionNewSpec)

/-- ITS FALSE NEIGHBOUR: 'it returns false'. Refute it at one input. -/
def fnExactSessionNewWrong : ChangeSpec := { name := "fnExactSessionNew", fn := fun _ => fun
  | [d] => { results := [.lit (.bool false)], args := [d] }
  | _ => none }
def FnExactSessionNewWrongFalsely : Prop := fnExactSessionNewRow.holds Tryz.pinned (OpenSpec.ofChange fnExactSessionNewWrong)

/-- 'laws.FnExactMatching': WHATEVER THE INPUT: true; the input reads as it did. -/
def fnExactMatchingSpec : ChangeSpec := { name := "fnExactMatching", fn := fun _ => fun
  | [d1, d2, d3, d4] => { results := [.lit (.bool true)], args := [d1, d2, d3, d4] }
  | _ => none }
def fnExactMatchingRow : OpenClaim := { program := "ytcfpdongfdhgjaagreat", sum := "23aaca4f23687b7a1a125b2cb8bde319b887cad305ae9dbfb0d3ca95f6335cf9", func := "loop.example/g00570/laws.FnExactMatching", spec := "fnExactMatching", unfollowed := true, recurses := true, plainKeys := false, apart := false }
def FnExactMatchingSaid : Prop := fnExactMatchingRow.holds Tryz.pinned (OpenSpec.ofChange fnExactMatchingSpec)

/-- ITS FALSE NEIGHBOUR: 'it returns false'. Refute it at one input. -/
def fnExactMatchingWrong : ChangeSpec := { name := "fnExactMatching", fn := fun _ => fun
  | [d1, d2, d3, d4] => { results := [.lit (.bool false)], args := [d1, d2, d3, d4] }
  | _ => none }
def FnExactMatchingWrongFalsely : Prop := fnExactMatchingRow.holds Tryz.pinned (OpenSpec.ofChange fnExactMatchingWrong)

/-- 'laws.FnExactFires': WHATEVER THE INPUT: true; the input reads as it did. -/
def fnExactFiresSpec : ChangeSpec := { name := "fnExactFires", fn := fun _ => fun
  | [d1, d2, d3, d4, d5, d6] => { results := [.lit (.bool true)], args := [d1, d2, d3, d4, d5, d6] }
  | _ => none }
def fnExactFiresRow : OpenClaim := { program := "ytcfpdongfdhgjaagreat", sum := "23aaca4f23687b7a1a125b2cb8bde319b887cad305ae9dbfb0d3ca95f6335cf9", func := "loop.example/g00570/laws.FnExactFires", spec := "fnExactFires", unfollowed := true, recurses := true, plainKeys := false, apart := false }
def FnExactFiresSaid : Prop := fnExactFiresRow.holds Tryz.pinned (OpenSpec.ofChange fnExactFiresSpec)

/-- ITS FALSE NEIGHBOUR: 'it returns false'. Refute it at one input. -/
def fnExactFiresWrong : ChangeSpec := { name := "fnExactFires", fn := fun _ => fun
  | [d1, d2, d3, d4, d5, d6] => { results := [.lit (.bool false)], args := [d1, d2, d3, d4, d5, d6] }
  | _ => none }
def FnExactFiresWrongFalsely : Prop := fnExactFiresRow.holds Tryz.pinned (OpenSpec.ofChange fnExactFiresWrong)

/-- 'laws.FnExactJoinOn': WHATEVER THE INPUT: true; the input reads as it did. -/
def fnExactJoinOnSpec : ChangeSpec := { name := "fnExactJoinOn", fn := fun _ => fun
  | [d1, d2, d3, d4, d5] => { results := [.lit (.bool true)], args := [d1, d2, d3, d4, d5] }
  | _ => none }
def fnExactJoinOnRow : OpenClaim := { program := "ytcfpdongfdhgjaagreat", sum := "23aaca4f23687b7a1a125b2cb8bde319b887cad305ae9dbfb0d3ca95f6335cf9", func := "loop.example/g00570/laws.FnExactJoinOn", spec := "fnExactJoinOn", unfollowed := true, recurses := true, plainKeys := false, apart := false }
def FnExactJoinOnSaid : Prop := fnExactJoinOnRow.holds Tryz.pinned (OpenSpec.ofChange fnExactJoinOnSpec)

/-- ITS FALSE NEIGHBOUR: 'it returns false'. Refute it at one input. -/
def fnExactJoinOnWrong : ChangeSpec := { name := "fnExactJoinOn", fn := fun _ => fun
  | [d1, d2, d3, d4, d5] => { results := [.lit (.bool false)], args := [d1, d2, d3, d4, d5] }
  | _ => none }
def FnExactJoinOnWrongFalsely : Prop := fnExactJoinOnRow.holds Tryz.pinned (OpenSpec.ofChange fnExactJoinOnWrong)

/-- 'laws.FnExactIndexOk': WHATEVER THE INPUT: true; the input reads as it did. -/
def fnExactIndexOkSpec : ChangeSpec := { name := "fnExactIndexOk", fn := fun _ => fun
  | [d1, d2, d3, d4, d5] => { results := [.lit (.bool true)], args := [d1, d2, d3, d4, d5] }
  | _ => none }
def fnExactIndexOkRow : OpenClaim := { program := "ytcfpdongfdhgjaagreat", sum := "23aaca4f23687b7a1a125b2cb8bde319b887cad305ae9dbfb0d3ca95f6335cf9", func := "loop.example/g00570/laws.FnExactIndexOk", spec := "fnExactIndexOk", unfollowed := true, recurses := true, plainKeys := false, apart := false }
def FnExactIndexOkSaid : Prop := fnExactIndexOkRow.holds Tryz.pinned (OpenSpec.ofChange fnExactIndexOkSpec)

/-- ITS FALSE NEIGHBOUR: 'it returns false'. Refute it at one input. -/
def fnExactIndexOkWrong : ChangeSpec := { name := "fnExactIndexOk", fn := fun _ => fun
  | [d1, d2, d3, d4, d5] => { results := [.lit (.bool false)], args := [d1, d2, d3, d4, d5] }
  | _ => none }
def FnExactIndexOkWrongFalsely : Prop := fnExactIndexOkRow.holds Tryz.pinned (OpenSpec.ofChange fnExactIndexOkWrong)

/-- 'laws.FnExactIndexOf': WHATEVER THE INPUT: true; the input reads as it did. -/
def fnExactIndexOfSpec : ChangeSpec := { name := "fnExactIndexOf", fn := fun _ => fun
  | [d1, d2, d3, d4] => { results := [.lit (.bool true)], args := [d1, d2, d3, d4] }
  | _ => none }
def fnExactIndexOfRow : OpenClaim := { program := "ytcfpdongfdhgjaagreat", sum := "23aaca4f23687b7a1a125b2cb8bde319b887cad305ae9dbfb0d3ca95f6335cf9", func := "loop.example/g00570/laws.FnExactIndexOf", spec := "fnExactIndexOf", unfollowed := true, recurses := true, plainKeys := false, apart := false }
def FnExactIndexOfSaid : Prop := fnExactIndexOfRow.holds Tryz.pinned (OpenSpec.ofChange fnExactIndexOfSpec)

/-- ITS FALSE NEIGHBOUR: 'it returns false'. Refute it at one input. -/
def fnExactIndexOfWrong : ChangeSpec := { name := "fnExactIndexOf", fn := fun _ => fun
  | [d1, d2, d3, d4] => { results := [.lit (.bool false)], args := [d1, d2, d3, d4] }
  | _ => none }
def FnExactIndexOfWrongFalsely : Prop := fnExactIndexOfRow.holds Tryz.pinned (OpenSpec.ofChange fnExactIndexOfWrong)

/-- 'laws.FnExactSessionOk': WHATEVER THE INPUT: true; the input reads as it did. -/
def fnExactSessionOkSpec : ChangeSpec := { name := "fnExactSessionOk", fn := fun _ => fun
  | [d] => { results := [.lit (.bool true)], args := [d] }
  | _ => none }
def fnExactSessionOkRow : OpenClaim := { program := "ytcfpdongfdhgjaagreat", sum := "23aaca4f23687b7a1a125b2cb8bde319b887cad305ae9dbfb0d3ca95f6335cf9", func := "loop.example/g00570/laws.FnExactSessionOk", spec := "fnExactSessionOk", unfollowed := true, recurses := true, plainKeys := false, apart := false }
def FnExactSessionOkSaid : Prop := fnExactSessionOkRow.holds Tryz.pinned (OpenSpec.ofChange fnExactSessionOkSpec)

/-- ITS FALSE NEIGHBOUR: 'it returns false'. Refute it at one input. -/
def fnExactSessionOkWrong : ChangeSpec := { name := "fnExactSessionOk", fn := fun _ => fun
  | [d] => { results := [.lit (.bool false)], args := [d] }
  | _ => none }
def FnExactSessionOkWrongFalsely : Prop := fnExactSessionOkRow.holds Tryz.pinned (OpenSpec.ofChange fnExactSessionOkWrong)

/-- 'laws.FnExactGrouped': WHATEVER THE INPUT: true; the input reads as it did. -/
def fnExactGroupedSpec : ChangeSpec := { name := "fnExactGrouped", fn := fun _ => fun
  | [d1, d2, d3, d4, d5, d6] => { results := [.lit (.bool true)], args := [d1, d2, d3, d4, d5, d6] }
  | _ => none }
def fnExactGroupedRow : OpenClaim := { program := "ytcfpdongfdhgjaagreat", sum := "23aaca4f23687b7a1a125b2cb8bde319b887cad305ae9dbfb0d3ca95f6335cf9", func := "loop.example/g00570/laws.FnExactGrouped", spec := "fnExactGrouped", unfollowed := true, recurses := true, plainKeys := false, apart := false }
def FnExactGroupedSaid : Prop := fnExactGroupedRow.holds Tryz.pinned (OpenSpec.ofChange fnExactGroupedSpec)

/-- ITS FALSE NEIGHBOUR: 'it returns false'. Refute it at one input. -/
def fnExactGroupedWrong : ChangeSpec := { name := "fnExactGrouped", fn := fun _ => fun
  | [d1, d2, d3, d4, d5, d6] => { results := [.lit (.bool false)], args := [d1, d2, d3, d4, d5, d6] }
  | _ => none }
def FnExactGroupedWrongFalsely : Prop := fnExactGroupedRow.holds Tryz.pinned (OpenSpec.ofChange fnExactGroupedWrong)

/-- 'laws.FnExactRunSelect': WHATEVER THE INPUT: true; the input reads as it did. -/
def fnExactRunSelectSpec : ChangeSpec := { name := "fnExactRunSelect", fn := fun _ => fun
  | [d1, d2, d3] => { results := [.lit (.bool true)], args := [d1, d2, d3] }
  | _ => none }
def fnExactRunSelectRow : OpenClaim := { program := "ytcfpdongfdhgjaagreat", sum := "23aaca4f23687b7a1a125b2cb8bde319b887cad305ae9dbfb0d3ca95f6335cf9", func := "loop.example/g00570/laws.FnExactRunSelect", spec := "fnExactRunSelect", unfollowed := true, recurses := true, plainKeys := false, apart := false }
def FnExactRunSelectSaid : Prop := fnExactRunSelectRow.holds Tryz.pinned (OpenSpec.ofChange fnExactRunSelectSpec)

/-- ITS FALSE NEIGHBOUR: 'it returns false'. Refute it at one input. -/
def fnExactRunSelectWrong : ChangeSpec := { name := "fnExactRunSelect", fn := fun _ => fun
  | [d1, d2, d3] => { results := [.lit (.bool false)], args := [d1, d2, d3] }
  | _ => none }
def FnExactRunSelectWrongFalsely : Prop := fnExactRunSelectRow.holds Tryz.pinned (OpenSpec.ofChange fnExactRunSelectWrong)

/- THE SECOND FORM. 'bulk': how many values and letters a reading holds, each counted each time it is reached (what is shared counts as often as it is met; a slice's spare places count too). A statement '..UptoSaid' is the law's where the arguments, and the package variables that the reading takes, are together of bulk at most 1048576: NARROWER than '..Said'. Prove '..Said' where nothing that the law and all that it calls make is longer than what came in: it says more and counts as full. Else prove '..UptoSaid'. A law counts once. -/
mutual
def uptoBulk {H : Type} : DataW H → Nat
  | .lit (.string bytes) => bytes.length + 1
  | .lit _ => 1
  | .nil => 1
  | .ptr d => uptoBulk d + 1
  | .slice elems spare => uptoBulkAll elems + uptoBulkAll spare + 1
  | .agg parts => uptoBulkAll parts + 1
  | .iface _ d => uptoBulk d + 1
  | .map entries => uptoBulkEntries entries + 1
  | .held _ => 1
def uptoBulkAll {H : Type} : List (DataW H) → Nat
  | [] => 0
  | d :: r => uptoBulk d + uptoBulkAll r
def uptoBulkEntries {H : Type} : List (Lit × DataW H) → Nat
  | [] => 0
  | x :: r => uptoBulkEntry x + uptoBulkEntries r
def uptoBulkEntry {H : Type} : Lit × DataW H → Nat
  | (.string bytes, d) => bytes.length + uptoBulk d + 1
  | (_, d) => uptoBulk d + 1
 end
def uptoSmall : (H : Type) → List (DataW H) → Bool := fun _ ds => decide (uptoBulkAll ds ≤ 1048576)
def OpenSpec.upto (s : _root_.Go.ChangeSpec) : _root_.Go.OpenSpec := { _root_.Go.OpenSpec.ofChange s with cond := some uptoSmall }

/-- 'laws.FnExactSessionNew', WHERE WHAT IT READS IS OF BULK AT MOST 1048576: true; the input reads as it did. -/
def fnExactSessionNewUptoRow : OpenClaim := { program := "ytcfpdongfdhgjaagreat", sum := "23aaca4f23687b7a1a125b2cb8bde319b887cad305ae9dbfb0d3ca95f6335cf9", func := "loop.example/g00570/laws.FnExactSessionNew", spec := "fnExactSessionNew", unfollowed := true, recurses := true, plainKeys := false, apart := false, narrowed := true }
def FnExactSessionNewUptoSaid : Prop := fnExactSessionNewUptoRow.holds Tryz.pinned (OpenSpec.upto fnExactSessionNewSpec)

/-- 'laws.FnExactMatching', WHERE WHAT IT READS IS OF BULK AT MOST 1048576: true; the input reads as it did. -/
def fnExactMatchingUptoRow : OpenClaim := { program := "ytcfpdongfdhgjaagreat", sum := "23aaca4f23687b7a1a125b2cb8bde319b887cad305ae9dbfb0d3ca95f6335cf9", func := "loop.example/g00570/laws.FnExactMatching", spec := "fnExactMatching", unfollowed := true, recurses := true, plainKeys := false, apart := false, narrowed := true }
def FnExactMatchingUptoSaid : Prop := fnExactMatchingUptoRow.holds Tryz.pinned (OpenSpec.upto fnExactMatchingSpec)

/-- 'laws.FnExactFires', WHERE WHAT IT READS IS OF BULK AT MOST 1048576: true; the input reads as it did. -/
def fnExactFiresUptoRow : OpenClaim := { program := "ytcfpdongfdhgjaagreat", sum := "23aaca4f23687b7a1a125b2cb8bde319b887cad305ae9dbfb0d3ca95f6335cf9", func := "loop.example/g00570/laws.FnExactFires", spec := "fnExactFires", unfollowed := true, recurses := true, plainKeys := false, apart := false, narrowed := true }
def FnExactFiresUptoSaid : Prop := fnExactFiresUptoRow.holds Tryz.pinned (OpenSpec.upto fnExactFiresSpec)

/-- 'laws.FnExactJoinOn', WHERE WHAT IT READS IS OF BULK AT MOST 1048576: true; the input reads as it did. -/
def fnExactJoinOnUptoRow : OpenClaim := { program := "ytcfpdongfdhgjaagreat", sum := "23aaca4f23687b7a1a125b2cb8bde319b887cad305ae9dbfb0d3ca95f6335cf9", func := "loop.example/g00570/laws.FnExactJoinOn", spec := "fnExactJoinOn", unfollowed := true, recurses := true, plainKeys := false, apart := false, narrowed := true }
def FnExactJoinOnUptoSaid : Prop := fnExactJoinOnUptoRow.holds Tryz.pinned (OpenSpec.upto fnExactJoinOnSpec)

/-- 'laws.FnExactIndexOk', WHERE WHAT IT READS IS OF BULK AT MOST 1048576: true; the input reads as it did. -/
def fnExactIndexOkUptoRow : OpenClaim := { program := "ytcfpdongfdhgjaagreat", sum := "23aaca4f23687b7a1a125b2cb8bde319b887cad305ae9dbfb0d3ca95f6335cf9", func := "loop.example/g00570/laws.FnExactIndexOk", spec := "fnExactIndexOk", unfollowed := true, recurses := true, plainKeys := false, apart := false, narrowed := true }
def FnExactIndexOkUptoSaid : Prop := fnExactIndexOkUptoRow.holds Tryz.pinned (OpenSpec.upto fnExactIndexOkSpec)

/-- 'laws.FnExactIndexOf', WHERE WHAT IT READS IS OF BULK AT MOST 1048576: true; the input reads as it did. -/
def fnExactIndexOfUptoRow : OpenClaim := { program := "ytcfpdongfdhgjaagreat", sum := "23aaca4f23687b7a1a125b2cb8bde319b887cad305ae9dbfb0d3ca95f6335cf9", func := "loop.example/g00570/laws.FnExactIndexOf", spec := "fnExactIndexOf", unfollowed := true, recurses := true, plainKeys := false, apart := false, narrowed := true }
def FnExactIndexOfUptoSaid : Prop := fnExactIndexOfUptoRow.holds Tryz.pinned (OpenSpec.upto fnExactIndexOfSpec)

/-- 'laws.FnExactSessionOk', WHERE WHAT IT READS IS OF BULK AT MOST 1048576: true; the input reads as it did. -/
def fnExactSessionOkUptoRow : OpenClaim := { program := "ytcfpdongfdhgjaagreat", sum := "23aaca4f23687b7a1a125b2cb8bde319b887cad305ae9dbfb0d3ca95f6335cf9", func := "loop.example/g00570/laws.FnExactSessionOk", spec := "fnExactSessionOk", unfollowed := true, recurses := true, plainKeys := false, apart := false, narrowed := true }
def FnExactSessionOkUptoSaid : Prop := fnExactSessionOkUptoRow.holds Tryz.pinned (OpenSpec.upto fnExactSessionOkSpec)

/-- 'laws.FnExactGrouped', WHERE WHAT IT READS IS OF BULK AT MOST 1048576: true; the input reads as it did. -/
def fnExactGroupedUptoRow : OpenClaim := { program := "ytcfpdongfdhgjaagreat", sum := "23aaca4f23687b7a1a125b2cb8bde319b887cad305ae9dbfb0d3ca95f6335cf9", func := "loop.example/g00570/laws.FnExactGrouped", spec := "fnExactGrouped", unfollowed := true, recurses := true, plainKeys := false, apart := false, narrowed := true }
def FnExactGroupedUptoSaid : Prop := fnExactGroupedUptoRow.holds Tryz.pinned (OpenSpec.upto fnExactGroupedSpec)

/-- 'laws.FnExactRunSelect', WHERE WHAT IT READS IS OF BULK AT MOST 1048576: true; the input reads as it did. -/
def fnExactRunSelectUptoRow : OpenClaim := { program := "ytcfpdongfdhgjaagreat", sum := "23aaca4f23687b7a1a125b2cb8bde319b887cad305ae9dbfb0d3ca95f6335cf9", func := "loop.example/g00570/laws.FnExactRunSelect", spec := "fnExactRunSelect", unfollowed := true, recurses := true, plainKeys := false, apart := false, narrowed := true }
def FnExactRunSelectUptoSaid : Prop := fnExactRunSelectUptoRow.holds Tryz.pinned (OpenSpec.upto fnExactRunSelectSpec)

end Rows
end Go.Proofs.YtcfpdongfdhgjaaGreat
