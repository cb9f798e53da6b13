/- The abstract machine, part 7: numbers, texts, parts of values, addresses. -/
import Derived.Test.YtjlhfjpnnildhaaAm6
set_option linter.unusedVariables false
set_option linter.unusedSimpArgs false
namespace Go.Proofs.Ytjlhfjpnnildhaa.Am
open Go.RowKit

section
variable {P : Program} {nt : Nat} {C : Cx} {σ σ' : Store} {fr : Fr} {a : Act} {o : Oper} {x : AV}

theorem neq_eql : (BinOp.eql == BinOp.neq) = false := by decide
theorem neq_neq : (BinOp.neq == BinOp.neq) = true := by decide
theorem rp_int {k : IntKind} {n : Int} {u : Value} (h : Rp C (.int k n) u) : u = .int k n := by cases h; rfl
theorem rp_str {s : List UInt8} {u : Value} (h : Rp C (.str s) u) : u = .string ⟨s.toArray⟩ := by cases h; rfl
theorem rp_bool {b : Bool} {u : Value} (h : Rp C (.bool b) u) : u = .bool b := by cases h; rfl
theorem rpv_c {c : Ce} {u : Value} (h : RpV C (.c c) u) : Rp C c u := by cases h; assumption

theorem run_eqGuard_int (op : BinOp) (t : TypeId) (p q : Operand) (k k' : IntKind) (m n : Int) (w : World) : (eqGuard op t p q (.int k m) (.int k' n)).run P w = .ok () w := by
  cases op <;> simp [eqGuard]
theorem run_eqGuard_str (op : BinOp) (t : TypeId) (p q : Operand) (m n : ByteArray) (w : World) : (eqGuard op t p q (.string m) (.string n)).run P w = .ok () w := by
  cases op <;> simp [eqGuard]

theorem binA_sound {op : BinOp} {p q r : AV} {u v : Value} (t : TypeId) (w : World) (h : binA op p q = some r) (hu : RpV C p u) (hv : RpV C q v) (y z : Operand) :
    ∃ s, (do eqGuard op t y z u v; binOp op t u v).run P w = .ok s w ∧ RpV C r s := by
  unfold binA at h
  split at h
  · rename_i k m k' n
    obtain rfl := rp_int (rpv_c hu)
    obtain rfl := rp_int (rpv_c hv)
    simp only [Sem.run_bind, run_eqGuard_int, Result.andThen_ok]
    cases op <;> simp only at h <;> first
      | (split at h
         · rename_i hc
           injection h with h
           subst h
           first
           | (obtain ⟨rfl, hn⟩ := hc
              refine ⟨_, ?_, .c (.int _ _)⟩
              simp [binOp, Op.intDiv, hn]
              done)
           | (subst hc
              refine ⟨_, ?_, .c (.int _ _)⟩
              simp [binOp, Op.intArith, Op.intBits]
              done)
           | (subst hc
              refine ⟨_, ?_, .c (.bool _)⟩
              simp [binOp, Op.intCmp]
              done)
           | (refine ⟨_, ?_, .c (.int _ _)⟩
              have hc' : ¬ n < 0 := by omega
              simp [binOp, Op.shift, hc']
              done)
         · cases h)
      | cases h
  · rename_i s1 s2
    obtain rfl := rp_str (rpv_c hu)
    obtain rfl := rp_str (rpv_c hv)
    simp only [Sem.run_bind, run_eqGuard_str, Result.andThen_ok]
    have tl : ∀ s : List UInt8, (⟨s.toArray⟩ : ByteArray).toList = s := fun s => by rw [ByteArray.toList_eq]
    have sz : ∀ s : List UInt8, (⟨s.toArray⟩ : ByteArray).size = s.length := fun s => rfl
    cases op <;> simp only at h <;> first
      | (injection h with h
         subst h
         refine ⟨_, ?_, .c (.bool _)⟩
         simp [binOp, Op.stringOp, tl, bytesLt, bne]
         done)
      | (split at h
         · rename_i hc
           injection h with h
           subst h
           refine ⟨.string ⟨(s1 ++ s2).toArray⟩, ?_, .c (.str _)⟩
           have hm : ¬ (9223372036854775807 < ((s1.length : Int) + (s2.length : Int))) := by omega
           have happ : (⟨s1.toArray⟩ : ByteArray) ++ ⟨s2.toArray⟩ = ⟨(s1 ++ s2).toArray⟩ := by
             apply ByteArray.ext
             simp [ByteArray.data_append]
           simp [binOp, Op.stringOp, sz, happ]
           omega
         · cases h)
      | cases h
  · cases h

theorem ok_bin {op : BinOp} {t t' : TypeId} {p q : Operand} {p' q' : Opd} (hop : o.op = .binOp op t p q t') (hp : opdOf p = some p') (hq : opdOf q = some q') (h : aop (.bin op p' q') fr σ = some (x, σ')) (hR : Rl C σ) (hF : FrR C nt fr a) : OpOk P C a o x σ' := by
  simp only [aop] at h
  split at h
  · rename_i u v hu hv
    obtain ⟨r, hr, h2⟩ := Option.map_eq_some_iff.1 h
    injection h2 with h2 h3
    subst h2 h3
    obtain ⟨s, hs, hx⟩ := binA_sound (P := P) t C.w hr (opd_sound hF hp hu) (opd_sound hF hq hv) p q
    exact .pure hR hx (by simp only [execOp, hop]; rw [Sem.run_bind, hs]; rfl)
  · cases h

theorem ok_eq {op : BinOp} {t t' : TypeId} {p q : Operand} {p' q' : Opd} {g : Bool} {ks : List EK} (hop : o.op = .binOp op t p q t') (hoq : op = .eql ∨ op = .neq) (hp : opdOf p = some p') (hq : opdOf q = some q')
    (hk : (g = true ∧ eqFlat P 8 t = some ks ∧ P.eqGuardType P.depth t = false ∧ aggIn P t = some true) ∨ (g = false ∧ ∃ k, ks = [k] ∧ k ≠ .i ∧ k ≠ .s ∧ ((k = .i → ∃ q, P.underlying t = some (.int q)) ∧ (k = .b → P.underlying t = some .bool) ∧ (k = .s → P.underlying t = some .string) ∧ (k = .sl → ∃ q, P.underlying t = some (.slice q)) ∧ (k = .pt → ∃ q, P.underlying t = some (.pointer q)) ∧ (k = .fn → ∃ p q r, P.underlying t = some (.func p q r)))))
    (h : aop (.eq (op == .neq) g ks p' q') fr σ = some (x, σ')) (hR : Rl C σ) (hF : FrR C nt fr a) : OpOk P C a o x σ' := by
  simp only [aop] at h
  split at h
  · rename_i cs ds hu hv
    rcases hk with ⟨rfl, hk, hgd, hag⟩ | ⟨rfl, _⟩
    · simp only [if_true] at h
      obtain ⟨b, hb, h2⟩ := Option.map_eq_some_iff.1 h
      injection h2 with h2 h3
      subst h2 h3
      have h1 := opd_sound hF hp hu
      have h2 := opd_sound hF hq hv
      obtain ⟨u, hu'⟩ : ∃ u, a.eval p = u := ⟨_, rfl⟩
      obtain ⟨v, hv'⟩ : ∃ v, a.eval q = v := ⟨_, rfl⟩
      rw [hu'] at h1
      rw [hv'] at h2
      cases h1 with
      | agg hl1 hc1 =>
        rename_i us
        cases h2 with
        | agg hl2 hc2 =>
          rename_i vs
          have he := eqFlat_sound (C := C) (P := P) C.w 8 t ks hk 10000 (by omega) hb hag (u := .agg us) (v := .agg vs) (by simp only [VOf, if_true]; exact ⟨us, rfl, hl1, hc1⟩) (by simp only [VOf, if_true]; exact ⟨vs, rfl, hl2, hc2⟩)
          refine .pure hR (.c (.bool _)) ?_
          simp only [execOp, hop, hu', hv']
          rcases hoq with rfl | rfl
          · simp [run_eqGuard_agg (P := P) C.w _ t p q us vs hgd, run_eql_struct, he, neq_eql]
          · simp [run_eqGuard_agg (P := P) C.w _ t p q us vs hgd, run_neq_struct, he, neq_neq]
    · simp at h
  · rename_i c d hu hv
    rcases hk with ⟨rfl, _⟩ | ⟨rfl, k, rfl, hki, hks, hk⟩
    · simp at h
    · simp only [Bool.false_eq_true, if_false] at h
      obtain ⟨b, hb, h2⟩ := Option.map_eq_some_iff.1 h
      injection h2 with h2 h3
      subst h2 h3
      have h1 := opd_c hF hp hu
      have h2 := opd_c hF hq hv
      obtain ⟨u, hu'⟩ : ∃ u, a.eval p = u := ⟨_, rfl⟩
      obtain ⟨v, hv'⟩ : ∃ v, a.eval q = v := ⟨_, rfl⟩
      rw [hu'] at h1
      rw [hv'] at h2
      have he := eqK1 (P := P) 9999 C.w hb h1 h2 hk
      refine .pure hR (.c (.bool _)) ?_
      simp only [execOp, hop, hu', hv']
      have hgu : (eqGuard op t p q u v).run P C.w = .ok () C.w := by
        cases h1 <;> cases h2 <;> first
          | (rcases hoq with rfl | rfl <;> simp [eqGuard]; done)
          | (cases k <;> simp [eqKs, eqK] at hb)
      have hbo : (binOp op t u v).run P C.w = .ok (.bool (b != (op == .neq))) C.w := by
        have hq1 : (Op.equal t u v).run P C.w = .ok b C.w := he
        rcases hoq with rfl | rfl
        · have : binOp .eql t u v = (do pure (.bool (← Op.equal t u v)) : Sem Value) := by
            cases h1 <;> cases h2 <;> first
              | rfl
              | (cases k <;> simp [eqKs, eqK] at hb <;> simp at hki hks)
          rw [this, Sem.run_bind, hq1]
          simp [neq_eql]
        · have : binOp .neq t u v = (do pure (.bool (!(← Op.equal t u v))) : Sem Value) := by
            cases h1 <;> cases h2 <;> first
              | rfl
              | (cases k <;> simp [eqKs, eqK] at hb <;> simp at hki hks)
          rw [this, Sem.run_bind, hq1]
          simp [neq_neq]
      simp only [Sem.run_bind, hgu, hbo, Result.andThen_ok]
      rfl
  · cases h

end
end Go.Proofs.Ytjlhfjpnnildhaa.Am
