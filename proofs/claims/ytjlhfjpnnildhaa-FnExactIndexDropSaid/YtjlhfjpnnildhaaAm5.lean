/- The abstract machine, part 5: the operations one by one. -/
import Derived.Test.YtjlhfjpnnildhaaAm4
import Derived.Laws.StructEq
import Derived.IntWalk
set_option linter.unusedVariables false
set_option linter.unusedSimpArgs false
namespace Go.Proofs.Ytjlhfjpnnildhaa.Am
open Go.RowKit

section
variable {P : Program} {nt : Nat} {C : Cx} {σ σ' : Store} {fr : Fr} {a : Act} {o : Oper} {x : AV}

theorem ok_mv {y : Operand} {z : Opd} (hop : o.op = .move y ∨ o.op = .assign y) (hy : opdOf y = some z) (h : aop (.mv z) fr σ = some (x, σ')) (hR : Rl C σ) (hF : FrR C nt fr a) : OpOk P C a o x σ' := by
  simp only [aop, Option.map_eq_some_iff, Prod.mk.injEq] at h
  obtain ⟨v, hv, rfl, rfl⟩ := h
  exact .pure hR (opd_sound hF hy hv) (by rcases hop with h | h <;> simp [execOp, h])

theorem ok_pick {c p q : Operand} {c' p' q' : Opd} (hop : o.op = .pick c p q) (hc : opdOf c = some c') (hp : opdOf p = some p') (hq : opdOf q = some q') (h : aop (.pick c' p' q') fr σ = some (x, σ')) (hR : Rl C σ) (hF : FrR C nt fr a) : OpOk P C a o x σ' := by
  simp only [aop] at h
  split at h
  · rename_i t ht
    have h1 := opd_c hF hc ht
    cases h1b : a.eval c <;> rw [h1b] at h1 <;> cases h1
    obtain ⟨v, hv, h2⟩ := Option.map_eq_some_iff.1 h
    injection h2 with h2 h3
    subst h2 h3
    cases t with
    | true => exact .pure hR (opd_sound hF hp hv) (by simp [execOp, hop, h1b, asBool])
    | false => exact .pure hR (opd_sound hF hq (by simpa using hv)) (by simp [execOp, hop, h1b, asBool])
  · cases h

theorem ok_load {t : TypeId} {y : Operand} {z : Opd} {g : Bool} {s : Nat} (hop : o.op = .load t y) (hg : aggIn P t = some g) (hs : sizeIn P t = some s) (hy : opdOf y = some z) (h : aop (.load g s z) fr σ = some (x, σ')) (hR : Rl C σ) (hF : FrR C nt fr a) : OpOk P C a o x σ' := by
  simp only [aop] at h
  split at h
  · rename_i p hp
    obtain ⟨v, hv, h2⟩ := Option.map_eq_some_iff.1 h
    injection h2 with h2 h3
    subst h2 h3
    obtain ⟨cs, hcs, hv⟩ := Option.bind_eq_some_iff.1 hv
    obtain ⟨b, o', he, vs, hc⟩ := at_sound hR (opd_c hF hy hp) hcs
    obtain ⟨u, hu, hx⟩ := take_loaded hg hs hc hv
    exact .pure hR hx (by simp [execOp, hop, Instr.loadAt, he, Instr.sureAddr, hu])
  · cases h

theorem ok_nilc {y : Operand} {z : Opd} (hop : o.op = .nilCheck y) (hy : opdOf y = some z) (h : aop (.nilc z) fr σ = some (x, σ')) (hR : Rl C σ) (hF : FrR C nt fr a) : OpOk P C a o x σ' := by
  obtain ⟨u, hu⟩ : ∃ u, a.eval y = u := ⟨_, rfl⟩
  simp only [aop] at h
  split at h <;> first
    | (rename_i hz
       injection h with h
       injection h with h1 h2
       subst h1 h2
       have h1 := opd_c hF hy hz
       rw [hu] at h1
       refine .pure (v := u) hR (.c h1) ?_
       cases h1 <;> simp [execOp, hop, hu]
       done)
    | cases h

/-- A value that is held against another one: of a struct's type, or of a cell's. -/
def VOf (C : Cx) (g : Bool) (cs : List Ce) (u : Value) : Prop :=
  if g then ∃ vs : Array Value, u = .agg vs ∧ ∃ (hl : vs.size = cs.length), ∀ i (hi : i < cs.length), Rp C cs[i] (vs[i]'(by omega)) else ∃ c, cs = [c] ∧ Rp C c u
theorem eqKs_append {k1 k2 : List EK} : ∀ {c1 c2 d1 d2 : List Ce} {p q : Bool}, eqKs k1 c1 d1 = some p → eqKs k2 c2 d2 = some q → eqKs (k1 ++ k2) (c1 ++ c2) (d1 ++ d2) = some (p && q) := by
  induction k1 with
  | nil =>
    intro c1 c2 d1 d2 p q h1 h2
    cases c1 <;> cases d1 <;> simp [eqKs] at h1
    subst h1
    simpa using h2
  | cons k k1 ih =>
    intro c1 c2 d1 d2 p q h1 h2
    cases c1 <;> cases d1 <;> simp only [eqKs] at h1 <;> try (cases h1; done)
    split at h1
    · rename_i e1 e2
      injection h1 with h1
      subst h1
      simp only [List.cons_append, eqKs, e1, ih e2 h2, Bool.and_assoc]
    · cases h1
theorem eqKs_split {k1 k2 : List EK} : ∀ {cs ds : List Ce} {r : Bool}, eqKs (k1 ++ k2) cs ds = some r → k1.length ≤ cs.length ∧ k1.length ≤ ds.length ∧
    ∃ p q, eqKs k1 (cs.take k1.length) (ds.take k1.length) = some p ∧ eqKs k2 (cs.drop k1.length) (ds.drop k1.length) = some q ∧ r = (p && q) := by
  induction k1 with
  | nil => intro cs ds r h; exact ⟨by simp, by simp, true, r, by simp [eqKs], by simpa using h, by simp⟩
  | cons k k1 ih =>
    intro cs ds r h
    cases cs <;> cases ds <;> simp only [List.cons_append, eqKs] at h <;> try (cases h; done)
    split at h
    · rename_i p0 q0 e1 e2
      injection h with h
      subst h
      obtain ⟨h1, h2, p', q', h3, h4, rfl⟩ := ih e2
      exact ⟨by simpa using h1, by simpa using h2, p0 && p', q', by simp only [List.length_cons, List.take_succ_cons, eqKs, e1, h3], by simpa using h4, by simp [Bool.and_assoc]⟩
    · cases h
theorem eqKs_length {ks : List EK} : ∀ {cs ds : List Ce} {r : Bool}, eqKs ks cs ds = some r → cs.length = ks.length ∧ ds.length = ks.length := by
  induction ks with
  | nil => intro cs ds r h; cases cs <;> cases ds <;> simp [eqKs] at h; simp
  | cons k ks ih =>
    intro cs ds r h
    cases cs <;> cases ds <;> simp only [eqKs] at h <;> try (cases h; done)
    split at h
    · rename_i e1 e2
      obtain ⟨h1, h2⟩ := ih e2
      simp [h1, h2]
    · cases h

theorem eqK1 {P : Program} {C : Cx} {t : TypeId} {k : EK} {c e : Ce} {b : Bool} {u v : Value} (d : Nat) (w : World) (h : eqKs [k] [c] [e] = some b) (hu : Rp C c u) (hv : Rp C e v)
    (hk : (k = .i → ∃ q, P.underlying t = some (.int q)) ∧ (k = .b → P.underlying t = some .bool) ∧ (k = .s → P.underlying t = some .string) ∧ (k = .sl → ∃ q, P.underlying t = some (.slice q)) ∧ (k = .pt → ∃ q, P.underlying t = some (.pointer q)) ∧ (k = .fn → ∃ p q r, P.underlying t = some (.func p q r))) :
    (Op.equalIn (d + 1) t u v).run P w = .ok b w := by
  have h' : eqK k c e = some b := by
    simp only [eqKs] at h
    split at h
    · rename_i e1 e2
      injection e2 with e2
      subst e2
      rw [e1]
      simpa using h
    · cases h
  obtain ⟨h1, h2, h3, h4, h5, h6⟩ := hk
  cases k with
  | i =>
    obtain ⟨q, hq⟩ := h1 rfl
    cases hu <;> simp [eqK] at h'
    cases hv <;> simp [eqK] at h'
    obtain ⟨rfl, rfl⟩ := h'
    simp [Op.equalIn, run_underlying hq]
  | b =>
    have hq := h2 rfl
    cases hu <;> simp [eqK] at h'
    cases hv <;> simp [eqK] at h'
    subst h'
    simp [Op.equalIn, run_underlying hq]
  | s =>
    have hq := h3 rfl
    cases hu <;> simp [eqK] at h'
    cases hv <;> simp [eqK] at h'
    subst h'
    rw [run_equalIn_string w d t _ _ hq]
    simp [ByteArray.toList_eq]
  | sl =>
    obtain ⟨q, hq⟩ := h4 rfl
    have n1 : ∀ a l n, (Op.equalIn (d + 1) t (.slice a l n) (.slice none 0 0)).run P w = .ok a.isNone w := fun a l n => by
      cases a <;> simp [Op.equalIn, run_underlying hq]
    have n2 : ∀ a l n, (Op.equalIn (d + 1) t (.slice none 0 0) (.slice a l n)).run P w = .ok a.isNone w := fun a l n => by
      cases a <;> simp [Op.equalIn, run_underlying hq]
    unfold eqK at h'
    split at h' <;> try (cases h'; done)
    · rename_i he; cases he
    · rename_i he; cases he
    · rename_i he; cases he
    · injection h' with h'; subst h'; cases hu; cases hv; rw [n1]; rfl
    · injection h' with h'; subst h'; cases hu; cases hv; rw [n1]; rfl
    · injection h' with h'; subst h'; cases hu; cases hv; rw [n2]; rfl
    · injection h' with h'; subst h'; cases hu; cases hv; rw [n1]; rfl
    all_goals (rename_i he; cases he)
  | pt =>
    obtain ⟨q, hq⟩ := h5 rfl
    cases hu <;> simp [eqK] at h' <;> cases hv <;> simp [eqK] at h' <;> subst h' <;> simp [Op.equalIn, run_underlying hq]
  | fn =>
    obtain ⟨p, q, r, hq⟩ := h6 rfl
    cases hu <;> simp [eqK] at h' <;> cases hv <;> simp [eqK] at h' <;> subst h' <;> simp [Op.equalIn, run_underlying hq]

end
end Go.Proofs.Ytjlhfjpnnildhaa.Am
