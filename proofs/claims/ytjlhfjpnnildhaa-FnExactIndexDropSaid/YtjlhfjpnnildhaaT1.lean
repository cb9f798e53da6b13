/- What the rows say of values and entries. -/
import Derived.Test.YtjlhfjpnnildhaaF5
import Derived.Test.YtjlhfjpnnildhaaAm27
import Derived.KernelRfl
set_option linter.unusedVariables false
set_option linter.unusedSimpArgs false
namespace Go.Proofs.Ytjlhfjpnnildhaa.Am
open Go.RowKit Go.ChangeShapes Go.WideShapes

section
variable {H : Type} {enc : TypeId × Value → H} {W : World}
theorem openV : Opens enc Try.prog W 24 encV LenV := 
  (Opens.struct (s := 3) Try.underlying24 (.cons (s := 1) rfl (.int Try.underlying2) rfl (fun _ => rfl) (.cons (s := 1) rfl (.int Try.underlying2) rfl (fun _ => rfl) (.cons (s := 1) rfl (.str Try.underlying9) rfl (fun _ => rfl) .nil))) (by kernel_rfl) (fun _ => rfl)).iso (fun p => Val.mk p.1 p.2.1 p.2.2.1) (fun _ => rfl) fun p h => Nat.le_trans h.2.2.1 (by decide)
theorem openVs : Opens enc Try.prog W 38 (fun l : List Val => [.fz (l.map encV)]) (fun l => l.length ≤ 140737488351232 ∧ ∀ v ∈ l, LenV v) :=
  (Opens.slice (s := 3) Try.underlying38 openV (by kernel_rfl) (by decide) (fun _ => rfl)).iso id (fun _ => rfl) fun l h => ⟨Nat.le_trans (Nat.le_mul_of_pos_right _ (of_decide_eq_true (by kernel_rfl))) h.1, h.2⟩
theorem openE : Opens enc Try.prog W 40 encE LenE := 
  (Opens.struct (s := 2) Try.underlying40 (.cons (s := 1) rfl openVs rfl (fun _ => rfl) (.cons (s := 1) rfl (.int Try.underlying2) rfl (fun _ => rfl) .nil)) (by kernel_rfl) (fun _ => rfl)).iso (fun p => Entry.mk p.1 p.2.1) (fun _ => rfl) fun p h => ⟨Nat.le_trans h.1.1 (by decide), h.1.2⟩
theorem openEs : Opens enc Try.prog W 22 (fun l : List Entry => [.fz (l.map encE)]) (fun l => l.length ≤ 140737488351232 ∧ ∀ v ∈ l, LenE v) :=
  (Opens.slice (s := 2) Try.underlying22 openE (by kernel_rfl) (by decide) (fun _ => rfl)).iso id (fun _ => rfl) fun l h => ⟨Nat.le_trans (Nat.le_mul_of_pos_right _ (of_decide_eq_true (by kernel_rfl))) h.1, h.2⟩
end
end Go.Proofs.Ytjlhfjpnnildhaa.Am
