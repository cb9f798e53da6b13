/- The abstract machine, part 15: whatever an operation is turned into does what the operation does. -/
import Derived.Test.YtjlhfjpnnildhaaAm14
set_option linter.unusedVariables false
set_option linter.unusedSimpArgs false
namespace Go.Proofs.Ytjlhfjpnnildhaa.Am
open Go.RowKit

section
variable {P : Program} {nt : Nat} {C : Cx} {σ σ' : Store} {fr : Fr} {a : Act} {o : Oper} {x : AV}

theorem aop_sound {fz : Bool} {ao : AOp} (hc : compOp P fz o.op = some (.op ao)) (h : aop ao fr σ = some (x, σ')) (hR : Rl C σ) (hF : FrR C nt fr a) : OpOk P C a o x σ' := by
  cases hop : o.op with
  | move y =>
    rw [hop] at hc
    simp only [compOp, Option.map_eq_some_iff, AO.op.injEq] at hc
    obtain ⟨z, hz, rfl⟩ := hc
    exact ok_mv (.inl hop) hz h hR hF
  | assign y =>
    rw [hop] at hc
    simp only [compOp, Option.map_eq_some_iff, AO.op.injEq] at hc
    obtain ⟨z, hz, rfl⟩ := hc
    exact ok_mv (.inr hop) hz h hR hF
  | pick c p q =>
    rw [hop] at hc
    simp only [compOp, Option.bind_eq_bind, Option.bind_eq_some_iff, Option.pure_def, Option.some.injEq, AO.op.injEq] at hc
    obtain ⟨c', h1, p', h2, q', h3, rfl⟩ := hc
    exact ok_pick hop h1 h2 h3 h hR hF
  | alloc t =>
    rw [hop] at hc
    simp only [compOp, Option.bind_eq_bind, Option.bind_eq_some_iff, Option.pure_def, Option.some.injEq, AO.op.injEq] at hc
    obtain ⟨z, h1, rfl⟩ := hc
    exact ok_alloc hop h1 h hR
  | box t y =>
    rw [hop] at hc
    simp only [compOp, Option.bind_eq_bind, Option.bind_eq_some_iff, Option.pure_def, Option.some.injEq, AO.op.injEq] at hc
    obtain ⟨z, h1, rfl⟩ := hc
    exact ok_box hop h1 h hR hF
  | build t ps =>
    rw [hop] at hc
    simp only [compOp, Option.bind_eq_bind, Option.bind_eq_some_iff, Option.pure_def, Option.some.injEq, AO.op.injEq] at hc
    obtain ⟨z, h1, pl, h2, qs, h3, rfl⟩ := hc
    exact ok_build hop h1 h2 h3 h hR hF
  | buildSlice t n ps =>
    rw [hop] at hc
    simp only [compOp, Option.bind_eq_bind, Option.bind_eq_some_iff, Option.pure_def] at hc
    obtain ⟨e, h1, s, h2, z, h3, qs, h4, h5⟩ := hc
    split at h5
    · rename_i hcc
      injection h5 with h5
      injection h5 with h5
      subst h5
      have ht : P.underlying t = some (.slice e) := by
        unfold elemIn at h1
        split at h1
        · rename_i q; injection h1 with h1; subst h1; exact q
        · cases h1
      exact ok_mksl hop ht h2 h3 h4 hcc.1 hcc.2.1 hcc.2.2 h hR hF
    · cases h5
  | load t y =>
    rw [hop] at hc
    simp only [compOp, Option.bind_eq_bind, Option.bind_eq_some_iff, Option.pure_def, Option.some.injEq, AO.op.injEq] at hc
    obtain ⟨g, h1, s, h2, z, h3, rfl⟩ := hc
    exact ok_load hop h1 h2 h3 h hR hF
  | store t y q =>
    rw [hop] at hc
    simp only [compOp, Option.bind_eq_bind, Option.bind_eq_some_iff, Option.pure_def, Option.some.injEq, AO.op.injEq] at hc
    obtain ⟨s, h1, z, h2, z2, h3, rfl⟩ := hc
    exact ok_store hop h1 h2 h3 h hR hF
  | nilCheck y =>
    rw [hop] at hc
    simp only [compOp, Option.bind_eq_bind, Option.bind_eq_some_iff, Option.pure_def, Option.some.injEq, AO.op.injEq] at hc
    obtain ⟨z, h1, rfl⟩ := hc
    exact ok_nilc hop h1 h hR hF
  | binOp op t p q t' =>
    rw [hop] at hc
    simp only [compOp] at hc
    split at hc
    · rename_i hoq
      have ag : ∀ g, (match P.underlying t with | some (.struct _) | some (.array _ _) => some true | some _ => some false | none => none) = some g → aggIn P t = some g := fun g hg => hg
      split at hc
      all_goals first
        | (rename_i k hu
           simp only [Option.bind_eq_bind, Option.bind_eq_some_iff, Option.pure_def, Option.some.injEq, AO.op.injEq] at hc
           obtain ⟨p', h1, q', h2, rfl⟩ := hc
           first
           | exact ok_bin hop h1 h2 h hR hF
           | exact ok_eq hop hoq h1 h2 (.inr ⟨rfl, _, rfl, by decide, by decide, (fun e => (by cases e)), (fun e => (by cases e)), (fun e => (by cases e)), (fun _ => ⟨_, hu⟩), (fun e => (by cases e)), (fun e => (by cases e))⟩) h hR hF
           | exact ok_eq hop hoq h1 h2 (.inr ⟨rfl, _, rfl, by decide, by decide, (fun e => (by cases e)), (fun e => (by cases e)), (fun e => (by cases e)), (fun e => (by cases e)), (fun _ => ⟨_, hu⟩), (fun e => (by cases e))⟩) h hR hF)
        | (rename_i hu
           simp only [Option.bind_eq_bind, Option.bind_eq_some_iff, Option.pure_def, Option.some.injEq, AO.op.injEq] at hc
           obtain ⟨p', h1, q', h2, rfl⟩ := hc
           first
           | exact ok_bin hop h1 h2 h hR hF
           | exact ok_eq hop hoq h1 h2 (.inr ⟨rfl, _, rfl, by decide, by decide, (fun e => (by cases e)), (fun _ => hu), (fun e => (by cases e)), (fun e => (by cases e)), (fun e => (by cases e)), (fun e => (by cases e))⟩) h hR hF)
        | (rename_i u1 u2 u3 hu
           simp only [Option.bind_eq_bind, Option.bind_eq_some_iff, Option.pure_def, Option.some.injEq, AO.op.injEq] at hc
           obtain ⟨p', h1, q', h2, rfl⟩ := hc
           exact ok_eq hop hoq h1 h2 (.inr ⟨rfl, _, rfl, by decide, by decide, (fun e => (by cases e)), (fun e => (by cases e)), (fun e => (by cases e)), (fun e => (by cases e)), (fun e => (by cases e)), (fun _ => ⟨_, _, _, hu⟩)⟩) h hR hF)
        | (rename_i fs hu
           split at hc
           · cases hc
           · rename_i hgd
             simp only [Option.bind_eq_bind, Option.bind_eq_some_iff, Option.pure_def, Option.some.injEq, AO.op.injEq] at hc
             obtain ⟨ks, h0, p', h1, q', h2, rfl⟩ := hc
             exact ok_eq hop hoq h1 h2 (.inl ⟨rfl, h0, by simpa using hgd, ag true (by rw [hu])⟩) h hR hF)
        | cases hc
    · simp only [Option.bind_eq_bind, Option.bind_eq_some_iff, Option.pure_def, Option.some.injEq, AO.op.injEq] at hc
      obtain ⟨p', h1, q', h2, rfl⟩ := hc
      exact ok_bin hop h1 h2 h hR hF
  | unOp op t y =>
    rw [hop] at hc
    simp only [compOp, Option.bind_eq_bind, Option.bind_eq_some_iff, Option.pure_def, Option.some.injEq, AO.op.injEq] at hc
    obtain ⟨z, h1, rfl⟩ := hc
    exact ok_un hop h1 h hR hF
  | convert t t' y =>
    rw [hop] at hc
    simp only [compOp] at hc
    split at hc
    · rename_i k0 k h1 h2
      simp only [Option.bind_eq_bind, Option.bind_eq_some_iff, Option.pure_def, Option.some.injEq, AO.op.injEq] at hc
      obtain ⟨z, h3, rfl⟩ := hc
      exact ok_conv hop h1 h2 h3 h hR hF
    · rename_i e h1 h2
      split at hc
      · rename_i h4
        simp only [Option.bind_eq_bind, Option.bind_eq_some_iff, Option.pure_def, Option.some.injEq, AO.op.injEq] at hc
        obtain ⟨z, h3, rfl⟩ := hc
        exact ok_b2s hop h1 h2 h4 h3 h hR hF
      · cases hc
    · cases hc
  | makeFunc f pre cap =>
    rw [hop] at hc
    cases f <;> simp only [compOp] at hc <;> try (cases hc; done)
    simp only [Option.bind_eq_bind, Option.bind_eq_some_iff, Option.pure_def, Option.some.injEq, AO.op.injEq] at hc
    obtain ⟨p, h1, q, h2, rfl⟩ := hc
    exact ok_mkfn hop h1 h2 h hR hF
  | makeSlice t l c =>
    rw [hop] at hc
    simp only [compOp, Option.bind_eq_bind, Option.bind_eq_some_iff, Option.pure_def] at hc
    obtain ⟨e, h1, s, h2, z, h3, i, h4, h5⟩ := hc
    split at h5
    · rename_i hcc
      simp only [Option.bind_eq_some_iff, Option.some.injEq, AO.op.injEq] at h5
      obtain ⟨l', h6, c', h7, rfl⟩ := h5
      have ht : P.underlying t = some (.slice e) := by
        unfold elemIn at h1
        split at h1
        · rename_i q; injection h1 with h1; subst h1; exact q
        · cases h1
      exact ok_mkslice hop ht h2 h3 h4 hcc.1 hcc.2.1 h6 h7 h hR hF hcc.2.2
    · cases h5
  | slice t y lo hi mx =>
    rw [hop] at hc
    simp only [compOp] at hc
    split at hc
    · rename_i ht
      split at hc
      · rename_i hmx
        simp only [Option.bind_eq_bind, Option.bind_eq_some_iff, Option.pure_def, Option.some.injEq, AO.op.injEq] at hc
        obtain ⟨z, h1, lo', h2, hi', h3, rfl⟩ := hc
        exact ok_strsl hop ht h1 h2 h3 h hR hF
      · cases hc
    · rename_i e ht
      simp only [Option.bind_eq_bind, Option.bind_eq_some_iff, Option.pure_def] at hc
      obtain ⟨s, h1, hc⟩ := hc
      split at hc
      · rename_i hcc
        simp only [Option.bind_eq_some_iff, Option.some.injEq, AO.op.injEq] at hc
        obtain ⟨z, h2, lo', h3, hi', h4, mx', h5, rfl⟩ := hc
        exact ok_slice hop ht h1 hcc.2 h2 h3 h4 h5 hcc.1 h hR hF
      · cases hc
    · cases hc
  | fieldAddr t y i =>
    rw [hop] at hc
    simp only [compOp, Option.bind_eq_bind, Option.bind_eq_some_iff, Option.pure_def] at hc
    obtain ⟨⟨off, s, ft⟩, h1, hc⟩ := hc
    simp only at hc
    split at hc
    · rename_i hcc
      simp only [Option.bind_eq_some_iff, Option.some.injEq, AO.op.injEq] at hc
      obtain ⟨z, h2, rfl⟩ := hc
      exact ok_faddr hop h1 hcc h2 h hR hF
    · cases hc
  | field t y i =>
    rw [hop] at hc
    simp only [compOp, Option.bind_eq_bind, Option.bind_eq_some_iff, Option.pure_def] at hc
    obtain ⟨⟨off, s, ft⟩, h1, hc⟩ := hc
    simp only [Option.bind_eq_some_iff, Option.some.injEq, AO.op.injEq] at hc
    obtain ⟨g, h2, z, h3, rfl⟩ := hc
    exact ok_fld hop h1 h2 h3 h hR hF
  | indexAddr t y q =>
    rw [hop] at hc
    simp only [compOp] at hc
    split at hc
    · rename_i e ht
      simp only [Option.bind_eq_bind, Option.bind_eq_some_iff, Option.pure_def] at hc
      obtain ⟨s, h1, hc⟩ := hc
      split at hc
      · rename_i hcc
        simp only [Option.bind_eq_some_iff, Option.some.injEq, AO.op.injEq] at hc
        obtain ⟨z, h2, q', h3, rfl⟩ := hc
        exact ok_iaddr hop ht h1 hcc h2 h3 h hR hF
      · cases hc
    · rename_i n e ht
      simp only [Option.bind_eq_bind, Option.bind_eq_some_iff, Option.pure_def, Option.some.injEq, AO.op.injEq] at hc
      obtain ⟨s, h1, z, h2, q', h3, rfl⟩ := hc
      exact ok_iarr hop ht h1 h2 h3 h hR hF
    · cases hc
  | index t y q =>
    rw [hop] at hc
    simp only [compOp] at hc
    split at hc
    · rename_i ht
      simp only [Option.bind_eq_bind, Option.bind_eq_some_iff, Option.pure_def, Option.some.injEq, AO.op.injEq] at hc
      obtain ⟨z, h2, q', h3, rfl⟩ := hc
      exact ok_idx hop ht h2 h3 h hR hF
    · rename_i n e ht
      simp only [Option.bind_eq_bind, Option.bind_eq_some_iff, Option.pure_def, Option.some.injEq, AO.op.injEq] at hc
      obtain ⟨g, h0, s, h1, z, h2, q', h3, rfl⟩ := hc
      exact ok_idxa hop ht h0 h1 h2 h3 h hR hF
    · cases hc
  | extract y i =>
    rw [hop] at hc
    simp only [compOp, Option.bind_eq_bind, Option.bind_eq_some_iff, Option.pure_def, Option.some.injEq, AO.op.injEq] at hc
    obtain ⟨z, h1, rfl⟩ := hc
    exact ok_ext hop h1 h hR hF
  | call c =>
    rw [hop] at hc
    simp only [compOp] at hc
    split at hc
    · simp only [Option.bind_eq_bind, Option.bind_eq_some_iff, Option.pure_def, Option.some.injEq] at hc
      obtain ⟨f, h1, as, h2, h3⟩ := hc
      cases h3
    · rename_i hcal
      split at hc
      · rename_i y t ha hat
        split at hc
        · rename_i ht
          simp only [Option.bind_eq_bind, Option.bind_eq_some_iff, Option.pure_def, Option.some.injEq, AO.op.injEq] at hc
          obtain ⟨z, h1, rfl⟩ := hc
          exact ok_len hop hcal ha hat (.inl ⟨rfl, ht⟩) h1 h hR hF
        · rename_i e ht
          simp only [Option.bind_eq_bind, Option.bind_eq_some_iff, Option.pure_def, Option.some.injEq, AO.op.injEq] at hc
          obtain ⟨z, h1, rfl⟩ := hc
          exact ok_len hop hcal ha hat (.inr ⟨rfl, e, ht⟩) h1 h hR hF
        · cases hc
      · cases hc
    · rename_i hcal
      split at hc
      · rename_i y q t u ha hat
        split at hc
        · rename_i e e' ht hu
          simp only [Option.bind_eq_bind, Option.bind_eq_some_iff, Option.pure_def] at hc
          obtain ⟨s, h1, i, h2, z, h3, hc⟩ := hc
          split at hc
          · rename_i hcc
            simp only [Option.bind_eq_some_iff, Option.some.injEq, AO.op.injEq] at hc
            obtain ⟨z', h4, q', h5, rfl⟩ := hc
            exact ok_app hop hcal ha hat ht (.inl ⟨e', hu⟩) h2 h1 h3 hcc.2.2 hcc.1 rfl hcc.2.1 h4 h5 h hR hF
          · cases hc
        · rename_i e ht hu
          simp only [Option.bind_eq_bind, Option.bind_eq_some_iff, Option.pure_def] at hc
          obtain ⟨s, h1, i, h2, z, h3, hc⟩ := hc
          split at hc
          · rename_i hcc
            simp only [Option.bind_eq_some_iff, Option.some.injEq, AO.op.injEq] at hc
            obtain ⟨z', h4, q', h5, rfl⟩ := hc
            exact ok_app hop hcal ha hat ht (.inr hu) h2 h1 h3 hcc.2.2 (by omega) rfl hcc.2.1 h4 h5 h hR hF
          · cases hc
        · cases hc
      · cases hc
    · rename_i hcal
      split at hc
      · rename_i y t ha hat
        split at hc
        · rename_i e ht
          simp only [Option.bind_eq_bind, Option.bind_eq_some_iff, Option.pure_def, Option.some.injEq, AO.op.injEq] at hc
          obtain ⟨z, h1, z', h2, rfl⟩ := hc
          exact ok_clear hop hcal ha hat ht h1 h2 h hR hF
        · cases hc
      · cases hc
    · rename_i hcal
      split at hc
      · rename_i y q ha
        simp only [Option.bind_eq_bind, Option.bind_eq_some_iff, Option.pure_def, Option.some.injEq, AO.op.injEq] at hc
        obtain ⟨z, h1, z', h2, rfl⟩ := hc
        exact ok_mm (mx := true) hop hcal ha h1 h2 h hR hF
      · cases hc
    · rename_i hcal
      split at hc
      · rename_i y q ha
        simp only [Option.bind_eq_bind, Option.bind_eq_some_iff, Option.pure_def, Option.some.injEq, AO.op.injEq] at hc
        obtain ⟨z, h1, z', h2, rfl⟩ := hc
        exact ok_mm (mx := false) hop hcal ha h1 h2 h hR hF
      · cases hc
    · cases hc
  | _ => rw [hop] at hc; simp [compOp] at hc

end
end Go.Proofs.Ytjlhfjpnnildhaa.Am
