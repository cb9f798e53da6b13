/-
  No cell of these rows narrows 'for every input' (looked for: loops, veiled, ifaces, maps, wideKeys, modest, calm, conditions, laid).
  DERIVED. THE GIVEN ROWS OF THIS SEAT. 5 by the template 'for every input the law returns true; each argument reads behind the call as it read before'; 0 by the template 'total and deterministic' (their statements: YtdgnfdljkghpjaaGreatTotals.lean).
  GIVEN WITH THE SEED: the statements are not yours to turn. If you find one false, say at which input.
  Laid BY PROGRAM, IN A SANDBOX (cutbox-rows.mjs): the forced cells as the released guide's own fill.sh prints them over the translation 5f3bc526665a1c24… (all of the seat's roots in one cut). By AI agents, Wed Nov 11 2026. No macro, syntax, notation, axiom, sorry.
-/
import Derived.Test.YtdgnfdljkghpjaaGreatChecked
import GoSem.Claim
import GoSem.ClaimJoined
import GoSem.ClaimMapViews
import Derived.JoinedTies
import Derived.KernelRfl
namespace Go.Proofs.YtdgnfdljkghpjaaGreat
/- THE CELL 'sum', in the pinned program and in every row, IS THE sha256 OF THE DUMP (.gsa) THAT YtdgnfdljkghpjaaGreatProg.lean LOADS. Nothing in Lean hashes anything: it is a label: what it is worth is what the hold of that sum in a sandbox is worth. -/
noncomputable def Tryz.pinned : Pinned := { name := "ytdgnfdljkghpjaagreat", sum := "5f3bc526665a1c24e964994066c90d090ed204e45ec0d6677b15751beac37498", checked := Tryz.checked }
namespace Rows
def none {H : Type} : Left H := { results := [], args := [] }

/-- 'laws.FnIndexPut': WHATEVER THE INPUT: true; the input reads as it did. -/
def fnIndexPutSpec : ChangeSpec := { name := "fnIndexPut", fn := fun _ => fun
  | [d] => { results := [.lit (.bool true)], args := [d] }
  | _ => none }
def fnIndexPutRow : OpenClaim := { program := "ytdgnfdljkghpjaagreat", sum := "5f3bc526665a1c24e964994066c90d090ed204e45ec0d6677b15751beac37498", func := "loop.example/g00570/laws.FnIndexPut", spec := "fnIndexPut", unfollowed := true, recurses := true, apart := false }
def FnIndexPutSaid : Prop := fnIndexPutRow.holds Tryz.pinned (OpenSpec.ofChange fnIndexPutSpec)

/-- ITS FALSE NEIGHBOUR: 'it returns false'. Refute it at one input. -/
def fnIndexPutWrong : ChangeSpec := { name := "fnIndexPut", fn := fun _ => fun
  | [d] => { results := [.lit (.bool false)], args := [d] }
  | _ => none }
def FnIndexPutWrongFalsely : Prop := fnIndexPutRow.holds Tryz.pinned (OpenSpec.ofChange fnIndexPutWrong)

/-- 'laws.FnExactIndexOk': WHATEVER THE INPUT: true; the input reads as it did. -/
def fnExactIndexOkSpec : ChangeSpec := { name := "fnExactIndexOk", fn := fun _ => fun
  | [d1, d2, d3, d4, d5] => { results := [.lit (.bool true)], args := [d1, d2, d3, d4, d5] }
  | _ => none }
def fnExactIndexOkRow : OpenClaim := { program := "ytdgnfdljkghpjaagreat", sum := "5f3bc526665a1c24e964994066c90d090ed204e45ec0d6677b15751beac37498", func := "loop.example/g00570/laws.FnExactIndexOk", spec := "fnExactIndexOk", unfollowed := true, recurses := true, apart := false }
def FnExactIndexOkSaid : Prop := fnExactIndexOkRow.holds Tryz.pinned (OpenSpec.ofChange fnExactIndexOkSpec)

/-- ITS FALSE NEIGHBOUR: 'it returns false'. Refute it at one input. -/
def fnExactIndexOkWrong : ChangeSpec := { name := "fnExactIndexOk", fn := fun _ => fun
  | [d1, d2, d3, d4, d5] => { results := [.lit (.bool false)], args := [d1, d2, d3, d4, d5] }
  | _ => none }
def FnExactIndexOkWrongFalsely : Prop := fnExactIndexOkRow.holds Tryz.pinned (OpenSpec.ofChange fnExactIndexOkWrong)

/-- 'laws.FnIndexed': WHATEVER THE INPUT: true; the input reads as it did. -/
def fnIndexedSpec : ChangeSpec := { name := "fnIndexed", fn := fun _ => fun
  | [d] => { results := [.lit (.bool true)], args := [d] }
  | _ => none }
def fnIndexedRow : OpenClaim := { program := "ytdgnfdljkghpjaagreat", sum := "5f3bc526665a1c24e964994066c90d090ed204e45ec0d6677b15751beac37498", func := "loop.example/g00570/laws.FnIndexed", spec := "fnIndexed", unfollowed := true, recurses := true, apart := false }
def FnIndexedSaid : Prop := fnIndexedRow.holds Tryz.pinned (OpenSpec.ofChange fnIndexedSpec)

/-- ITS FALSE NEIGHBOUR: 'it returns false'. Refute it at one input. -/
def fnIndexedWrong : ChangeSpec := { name := "fnIndexed", fn := fun _ => fun
  | [d] => { results := [.lit (.bool false)], args := [d] }
  | _ => none }
def FnIndexedWrongFalsely : Prop := fnIndexedRow.holds Tryz.pinned (OpenSpec.ofChange fnIndexedWrong)

/-- 'laws.FnIndex': WHATEVER THE INPUT: true; the input reads as it did. -/
def fnIndexSpec : ChangeSpec := { name := "fnIndex", fn := fun _ => fun
  | [d] => { results := [.lit (.bool true)], args := [d] }
  | _ => none }
def fnIndexRow : OpenClaim := { program := "ytdgnfdljkghpjaagreat", sum := "5f3bc526665a1c24e964994066c90d090ed204e45ec0d6677b15751beac37498", func := "loop.example/g00570/laws.FnIndex", spec := "fnIndex", unfollowed := true, recurses := true, apart := false }
def FnIndexSaid : Prop := fnIndexRow.holds Tryz.pinned (OpenSpec.ofChange fnIndexSpec)

/-- ITS FALSE NEIGHBOUR: 'it returns false'. Refute it at one input. -/
def fnIndexWrong : ChangeSpec := { name := "fnIndex", fn := fun _ => fun
  | [d] => { results := [.lit (.bool false)], args := [d] }
  | _ => none }
def FnIndexWrongFalsely : Prop := fnIndexRow.holds Tryz.pinned (OpenSpec.ofChange fnIndexWrong)

/-- 'laws.FnExactIndexOf': WHATEVER THE INPUT: true; the input reads as it did. -/
def fnExactIndexOfSpec : ChangeSpec := { name := "fnExactIndexOf", fn := fun _ => fun
  | [d1, d2, d3, d4] => { results := [.lit (.bool true)], args := [d1, d2, d3, d4] }
  | _ => none }
def fnExactIndexOfRow : OpenClaim := { program := "ytdgnfdljkghpjaagreat", sum := "5f3bc526665a1c24e964994066c90d090ed204e45ec0d6677b15751beac37498", func := "loop.example/g00570/laws.FnExactIndexOf", spec := "fnExactIndexOf", unfollowed := true, recurses := true, apart := false }
def FnExactIndexOfSaid : Prop := fnExactIndexOfRow.holds Tryz.pinned (OpenSpec.ofChange fnExactIndexOfSpec)

/-- ITS FALSE NEIGHBOUR: 'it returns false'. Refute it at one input. -/
def fnExactIndexOfWrong : ChangeSpec := { name := "fnExactIndexOf", fn := fun _ => fun
  | [d1, d2, d3, d4] => { results := [.lit (.bool false)], args := [d1, d2, d3, d4] }
  | _ => none }
def FnExactIndexOfWrongFalsely : Prop := fnExactIndexOfRow.holds Tryz.pinned (OpenSpec.ofChange fnExactIndexOfWrong)

/- THE SECOND FORM. 'bulk': how many values and letters a reading holds, each counted each time it is reached (what is shared counts as often as it is met; a slice's spare places count too). A statement '..UptoSaid' is the law's where the arguments, and the package variables that the reading takes, are together of bulk at most 1048576: NARROWER than '..Said'. Prove '..Said' where nothing that the law and all that it calls make is longer than what came in: it says more and counts as full. Else prove '..UptoSaid'. A law counts once. -/
mutual
def uptoBulk {H : Type} : DataW H → Nat
  | .lit (.string bytes) => bytes.length + 1
  | .lit _ => 1
  | .nil => 1
  | .ptr d => uptoBulk d + 1
  | .slice elems spare => uptoBulkAll elems + uptoBulkAll spare + 1
  | .agg parts => uptoBulkAll parts + 1
  | .iface _ d => uptoBulk d + 1
  | .map entries => uptoBulkEntries entries + 1
  | .held _ => 1
def uptoBulkAll {H : Type} : List (DataW H) → Nat
  | [] => 0
  | d :: r => uptoBulk d + uptoBulkAll r
def uptoBulkEntries {H : Type} : List (Lit × DataW H) → Nat
  | [] => 0
  | x :: r => uptoBulkEntry x + uptoBulkEntries r
def uptoBulkEntry {H : Type} : Lit × DataW H → Nat
  | (.string bytes, d) => bytes.length + uptoBulk d + 1
  | (_, d) => uptoBulk d + 1
 end
def uptoSmall : (H : Type) → List (DataW H) → Bool := fun _ ds => decide (uptoBulkAll ds ≤ 1048576)
def OpenSpec.upto (s : _root_.Go.ChangeSpec) : _root_.Go.OpenSpec := { _root_.Go.OpenSpec.ofChange s with cond := some uptoSmall }

/-- 'laws.FnIndexPut', WHERE WHAT IT READS IS OF BULK AT MOST 1048576: true; the input reads as it did. -/
def fnIndexPutUptoRow : OpenClaim := { program := "ytdgnfdljkghpjaagreat", sum := "5f3bc526665a1c24e964994066c90d090ed204e45ec0d6677b15751beac37498", func := "loop.example/g00570/laws.FnIndexPut", spec := "fnIndexPut", unfollowed := true, recurses := true, apart := false, narrowed := true }
def FnIndexPutUptoSaid : Prop := fnIndexPutUptoRow.holds Tryz.pinned (OpenSpec.upto fnIndexPutSpec)

/-- 'laws.FnExactIndexOk', WHERE WHAT IT READS IS OF BULK AT MOST 1048576: true; the input reads as it did. -/
def fnExactIndexOkUptoRow : OpenClaim := { program := "ytdgnfdljkghpjaagreat", sum := "5f3bc526665a1c24e964994066c90d090ed204e45ec0d6677b15751beac37498", func := "loop.example/g00570/laws.FnExactIndexOk", spec := "fnExactIndexOk", unfollowed := true, recurses := true, apart := false, narrowed := true }
def FnExactIndexOkUptoSaid : Prop := fnExactIndexOkUptoRow.holds Tryz.pinned (OpenSpec.upto fnExactIndexOkSpec)

/-- 'laws.FnIndexed', WHERE WHAT IT READS IS OF BULK AT MOST 1048576: true; the input reads as it did. -/
def fnIndexedUptoRow : OpenClaim := { program := "ytdgnfdljkghpjaagreat", sum := "5f3bc526665a1c24e964994066c90d090ed204e45ec0d6677b15751beac37498", func := "loop.example/g00570/laws.FnIndexed", spec := "fnIndexed", unfollowed := true, recurses := true, apart := false, narrowed := true }
def FnIndexedUptoSaid : Prop := fnIndexedUptoRow.holds Tryz.pinned (OpenSpec.upto fnIndexedSpec)

/-- 'laws.FnIndex', WHERE WHAT IT READS IS OF BULK AT MOST 1048576: true; the input reads as it did. -/
def fnIndexUptoRow : OpenClaim := { program := "ytdgnfdljkghpjaagreat", sum := "5f3bc526665a1c24e964994066c90d090ed204e45ec0d6677b15751beac37498", func := "loop.example/g00570/laws.FnIndex", spec := "fnIndex", unfollowed := true, recurses := true, apart := false, narrowed := true }
def FnIndexUptoSaid : Prop := fnIndexUptoRow.holds Tryz.pinned (OpenSpec.upto fnIndexSpec)

/-- 'laws.FnExactIndexOf', WHERE WHAT IT READS IS OF BULK AT MOST 1048576: true; the input reads as it did. -/
def fnExactIndexOfUptoRow : OpenClaim := { program := "ytdgnfdljkghpjaagreat", sum := "5f3bc526665a1c24e964994066c90d090ed204e45ec0d6677b15751beac37498", func := "loop.example/g00570/laws.FnExactIndexOf", spec := "fnExactIndexOf", unfollowed := true, recurses := true, apart := false, narrowed := true }
def FnExactIndexOfUptoSaid : Prop := fnExactIndexOfUptoRow.holds Tryz.pinned (OpenSpec.upto fnExactIndexOfSpec)

end Rows
end Go.Proofs.YtdgnfdljkghpjaaGreat
