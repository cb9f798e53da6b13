/- The abstract machine, part 9: fields, elements, lengths, parts of tuples, the greater and the lesser. -/
import Derived.Test.YtjlhfjpnnildhaaAm8
set_option linter.unusedVariables false
set_option linter.unusedSimpArgs false
namespace Go.Proofs.Ytjlhfjpnnildhaa.Am
open Go.RowKit

section
variable {P : Program} {nt : Nat} {C : Cx} {σ σ' : Store} {fr : Fr} {a : Act} {o : Oper} {x : AV}

theorem fieldIn_sound {t : TypeId} {i off s : Nat} {ft : TypeId} (h : fieldIn P t i = some (off, s, ft)) : ∃ fs f, P.underlying t = some (.struct fs) ∧ fs[i]? = some f ∧ f.offset = off ∧ f.type = ft ∧ sizeIn P ft = some s := by
  unfold fieldIn at h
  split at h
  · rename_i fs hu
    split at h
    · rename_i f hf
      obtain ⟨s', hs, h2⟩ := Option.map_eq_some_iff.1 h
      injection h2 with h2 h3
      injection h3 with h3 h4
      subst h2 h3 h4
      exact ⟨fs, f, hu, hf, rfl, rfl, hs⟩
    · cases h
  · cases h

theorem fp_drop {cs : List Ce} {b o' : Nat} (hp : Rp C (.fp cs) (.pointer (some ⟨b, o', none⟩))) {k : Nat} (hk : k ≤ cs.length) : Rp C (.fp (cs.drop k)) (.pointer (some ⟨b, o' + k, none⟩)) := by
  cases hp with
  | fp _ _ _ vs hl hM cell h =>
    refine .fp (cs.drop k) b (o' + k) (fun j => vs (k + j)) hl hM (fun j hj => ?_) (fun j hj => ?_)
    · have := cell (k + j) (by simp at hj; omega)
      rwa [show o' + k + j = o' + (k + j) by omega]
    · have e : (cs.drop k)[j] = cs[k + j]'(by simp at hj; omega) := by simp
      rw [e]
      exact h _ _
theorem fp_ptr {cs : List Ce} {u : Value} (hp : Rp C (.fp cs) u) : ∃ b o', u = .pointer (some ⟨b, o', none⟩) := by cases hp; exact ⟨_, _, rfl⟩
theorem ptr_ptr {id v i j : Nat} {u : Value} (hp : Rp C (.ptr id v i j) u) : u = .pointer (some ⟨(C.μ id v).b, (C.μ id v).base + (i * (C.μ id v).s + j), none⟩) ∧ C.F id v ∧ (C.μ id v).virt = false := by cases hp; exact ⟨rfl, by assumption, by assumption⟩

theorem ok_faddr {t : TypeId} {i off s : Nat} {ft : TypeId} {y : Operand} {z : Opd} (hop : o.op = .fieldAddr t y i) (hf : fieldIn P t i = some (off, s, ft)) (hs : 0 < s) (hy : opdOf y = some z) (h : aop (.faddr off z) fr σ = some (x, σ')) (hR : Rl C σ) (hF : FrR C nt fr a) : OpOk P C a o x σ' := by
  obtain ⟨fs, f, hu, hfi, rfl, rfl, hz⟩ := fieldIn_sound hf
  obtain ⟨u, hu'⟩ : ∃ u, a.eval y = u := ⟨_, rfl⟩
  have run : ∀ b o', u = .pointer (some ⟨b, o', none⟩) → (execOp a.eval o).run P C.w = .ok (.value (.pointer (some ⟨b, o' + f.offset, none⟩))) C.w := by
    intro b o' e
    have hs' : ¬ s = 0 := by omega
    simp [execOp, hop, hu', e, Instr.fieldAt, run_underlying hu, hfi, Instr.sureAddr, fieldPlace, run_sizeOf hz, hs', add_lit']
  simp only [aop] at h
  split at h
  · rename_i cs hv
    split at h
    · rename_i hle
      injection h with h
      injection h with h1 h2
      subst h1 h2
      have hx := opd_c hF hy hv
      rw [hu'] at hx
      obtain ⟨b, o', rfl⟩ := fp_ptr hx
      exact .pure hR (.c (fp_drop hx hle)) (run b o' rfl)
    · cases h
  · rename_i id v k j hv
    injection h with h
    injection h with h1 h2
    subst h1 h2
    have hx := opd_c hF hy hv
    rw [hu'] at hx
    obtain ⟨rfl, hFF, hvv⟩ := ptr_ptr hx
    refine .pure hR (.c (.ptr id v k (j + f.offset) hFF hvv)) ?_
    rw [run _ _ rfl]
    congr 4
    simp; omega
  · cases h

theorem ok_fld {t : TypeId} {i off s : Nat} {ft : TypeId} {g : Bool} {y : Operand} {z : Opd} (hop : o.op = .field t y i) (hf : fieldIn P t i = some (off, s, ft)) (hg : aggIn P ft = some g) (hy : opdOf y = some z) (h : aop (.fld g off s z) fr σ = some (x, σ')) (hR : Rl C σ) (hF : FrR C nt fr a) : OpOk P C a o x σ' := by
  obtain ⟨fs, f, hu, hfi, rfl, rfl, hz⟩ := fieldIn_sound hf
  simp only [aop] at h
  split at h
  · rename_i cs hv
    split at h
    · rename_i hle
      obtain ⟨r, hr, h4⟩ := Option.map_eq_some_iff.1 h
      injection h4 with h4 h5
      subst h4 h5
      have hx := opd_sound hF hy hv
      obtain ⟨u, hu'⟩ : ∃ u, a.eval y = u := ⟨_, rfl⟩
      rw [hu'] at hx
      cases hx with
      | agg hl hc =>
        obtain ⟨w', h1, h2⟩ := take_part hg hz hl hc hle hr C.w
        refine .pure hR h2 ?_
        simp [execOp, hop, hu', Instr.field, run_underlying hu, hfi, asAgg, h1]
    · cases h
  · cases h

theorem ok_ext {y : Operand} {z : Opd} {i : Nat} (hop : o.op = .extract y i) (hy : opdOf y = some z) (h : aop (.ext z i) fr σ = some (x, σ')) (hR : Rl C σ) (hF : FrR C nt fr a) : OpOk P C a o x σ' := by
  simp only [aop] at h
  split at h
  · rename_i vs hv
    obtain ⟨r, hr, h4⟩ := Option.map_eq_some_iff.1 h
    injection h4 with h4 h5
    subst h4 h5
    have hx := opd_sound hF hy hv
    obtain ⟨u, hu'⟩ : ∃ u, a.eval y = u := ⟨_, rfl⟩
    rw [hu'] at hx
    cases hx with
    | tup hl hc =>
      obtain ⟨hi, rfl⟩ := List.getElem?_eq_some_iff.1 hr
      refine .pure hR (hc i hi) ?_
      simp [execOp, hop, hu', Instr.extract, hl, hi]
  · cases h

theorem ok_idx {t : TypeId} {y q : Operand} {z q' : Opd} (hop : o.op = .index t y q) (ht : P.underlying t = some .string) (hy : opdOf y = some z) (hq : opdOf q = some q') (h : aop (.idx z q') fr σ = some (x, σ')) (hR : Rl C σ) (hF : FrR C nt fr a) : OpOk P C a o x σ' := by
  simp only [aop] at h
  split at h
  · rename_i s k n hv hn
    split at h
    · rename_i h0
      obtain ⟨r, hr, h4⟩ := Option.map_eq_some_iff.1 h
      injection h4 with h4 h5
      subst h4 h5
      have hx := opd_c hF hy hv
      have hx2 := opd_c hF hq hn
      obtain ⟨u, hu⟩ : ∃ u, a.eval y = u := ⟨_, rfl⟩
      obtain ⟨u2, hu2⟩ : ∃ u, a.eval q = u := ⟨_, rfl⟩
      rw [hu] at hx
      rw [hu2] at hx2
      obtain rfl := rp_str hx
      obtain rfl := rp_int hx2
      have hg : (⟨s.toArray⟩ : ByteArray)[n.toNat]? = some r := by
        obtain ⟨hi, rfl⟩ := List.getElem?_eq_some_iff.1 hr
        have hsz : n.toNat < (⟨s.toArray⟩ : ByteArray).size := hi
        rw [getElem?_pos (⟨s.toArray⟩ : ByteArray) n.toNat hsz]
        rfl
      refine .pure hR (.c (.int _ _)) ?_
      simp only [execOp, hop, hu, hu2, Instr.index, asIntOf, Sem.run_bind, Sem.run_pure, Result.andThen_ok, run_underlying ht, if_pos h0]
      rw [hg]
      simp
    · cases h
  · cases h

theorem ok_idxa {t e : TypeId} {n s : Nat} {g : Bool} {y q : Operand} {z q' : Opd} (hop : o.op = .index t y q) (ht : P.underlying t = some (.array n e)) (hg : aggIn P e = some g) (hs : sizeIn P e = some s) (hy : opdOf y = some z) (hq : opdOf q = some q') (h : aop (.idxa g n s z q') fr σ = some (x, σ')) (hR : Rl C σ) (hF : FrR C nt fr a) : OpOk P C a o x σ' := by
  simp only [aop] at h
  split at h
  · rename_i cs k j hv hn
    split at h
    · rename_i hc
      obtain ⟨h0, h1, h2⟩ := hc
      obtain ⟨r, hr, h4⟩ := Option.map_eq_some_iff.1 h
      injection h4 with h4 h5
      subst h4 h5
      have hx := opd_sound hF hy hv
      have hx2 := opd_c hF hq hn
      obtain ⟨u, hu⟩ : ∃ u, a.eval y = u := ⟨_, rfl⟩
      obtain ⟨u2, hu2⟩ : ∃ u, a.eval q = u := ⟨_, rfl⟩
      rw [hu] at hx
      rw [hu2] at hx2
      obtain rfl := rp_int hx2
      cases hx with
      | agg hl hcc =>
        obtain ⟨w', h3, h4⟩ := take_part hg hs hl hcc h2 hr C.w
        refine .pure hR h4 ?_
        simp [execOp, hop, hu, hu2, Instr.index, asIntOf, run_underlying ht, h0, h1, run_sizeOf hs, h3]
    · cases h
  · cases h

theorem ok_iaddr {t e : TypeId} {s : Nat} {y q : Operand} {z q' : Opd} (hop : o.op = .indexAddr t y q) (ht : P.underlying t = some (.slice e)) (hs : sizeIn P e = some s) (hs0 : 0 < s) (hy : opdOf y = some z) (hq : opdOf q = some q') (h : aop (.iaddr s z q') fr σ = some (x, σ')) (hR : Rl C σ) (hF : FrR C nt fr a) : OpOk P C a o x σ' := by
  simp only [aop] at h
  split at h
  · rename_i c k n hv hn
    obtain ⟨r, hr, h4⟩ := Option.map_eq_some_iff.1 h
    injection h4 with h4 h5
    subst h4 h5
    have hx := opd_c hF hy hv
    have hx2 := opd_c hF hq hn
    obtain ⟨u, hu⟩ : ∃ u, a.eval y = u := ⟨_, rfl⟩
    obtain ⟨u2, hu2⟩ : ∃ u, a.eval q = u := ⟨_, rfl⟩
    rw [hu] at hx
    rw [hu2] at hx2
    obtain rfl := rp_int hx2
    unfold iaddrA at hr
    split at hr
    · rename_i h0
      have run : ∀ b o' len cap, u = .slice (some ⟨b, o', none⟩) len cap → n < len → (execOp a.eval o).run P C.w = .ok (.value (.pointer (some ⟨b, o' + n.toNat * s, none⟩))) C.w := by
        intro b o' len cap e hlt
        simp [execOp, hop, hu, hu2, e, Instr.indexAt, asIntOf, run_underlying ht, h0, hlt, run_sizeOf hs, add_lit']
      split at hr
      · rename_i es
        split at hr
        · rename_i e' he
          split at hr
          · rename_i hl
            injection hr with hr
            subst hr
            obtain ⟨hi, rfl⟩ := List.getElem?_eq_some_iff.1 he
            cases hx with
            | fz0 => simp at hi
            | fz _ b o' cap sz vs hlb hM hc hss cell hh =>
              have : sz = s := by rw [← hss _ hi]; exact hl
              subst this
              refine .pure hR (.c (.fp _ b (o' + n.toNat * sz) (fun j => vs n.toNat j) hlb hM (fun j hj => ?_) (fun j hj => hh _ _ hi hj))) (run b o' _ _ rfl (by omega))
              have := cell n.toNat j hi (by rw [← hl]; exact hj)
              rwa [Nat.add_assoc]
          · cases hr
        · cases hr
      · rename_i id v i m c
        split at hr
        · rename_i hlt
          split at hr
          · rename_i v' es hg
            split at hr
            · rename_i e
              subst e
              split at hr
              · rename_i e' he
                split at hr
                · rename_i hl
                  injection hr with hr
                  subst hr
                  obtain ⟨hi, rfl⟩ := List.getElem?_eq_some_iff.1 he
                  cases hx with
                  | sl0 => omega
                  | sl _ _ _ _ _ cap hF' hn' hcc hv' hk =>
                    have hne : es ≠ [] := by intro e; subst e; simp at hi
                    obtain ⟨cs, t', hb, hz, hl', _⟩ := hR.blk id v' es hg hne
                    have hss : (C.μ id v').s = s := by rw [← hl' _ hi]; exact hl
                    refine .pure hR (.c (.ptr id v' (i + n.toNat) 0 hF' hv')) ?_
                    rw [run _ _ _ _ rfl (by omega)]
                    rw [hss]
                    congr 4
                    simp only [Addr.mk.injEq, true_and, and_true]
                    rw [Nat.add_mul]
                    omega
                · cases hr
              · cases hr
            · cases hr
          · cases hr
        · cases hr
      · cases hr
    · cases hr
  · cases h

theorem ok_iarr {t e : TypeId} {n s : Nat} {y q : Operand} {z q' : Opd} (hop : o.op = .indexAddr t y q) (ht : P.underlying t = some (.array n e)) (hs : sizeIn P e = some s) (hy : opdOf y = some z) (hq : opdOf q = some q') (h : aop (.iarr n s z q') fr σ = some (x, σ')) (hR : Rl C σ) (hF : FrR C nt fr a) : OpOk P C a o x σ' := by
  obtain ⟨u, hu⟩ : ∃ u, a.eval y = u := ⟨_, rfl⟩
  obtain ⟨u2, hu2⟩ : ∃ u, a.eval q = u := ⟨_, rfl⟩
  have run : ∀ b o' k j, u = .pointer (some ⟨b, o', none⟩) → u2 = .int k j → 0 ≤ j → j < n → (execOp a.eval o).run P C.w = .ok (.value (.pointer (some ⟨b, o' + j.toNat * s, none⟩))) C.w := by
    intro b o' k j e e2 h0 h1
    simp [execOp, hop, hu, hu2, e, e2, Instr.indexAt, asIntOf, run_underlying ht, h0, h1, run_sizeOf hs, add_lit', Instr.sureAddr]
  simp only [aop] at h
  split at h
  · rename_i cs k j hv hn
    split at h
    · rename_i hc
      obtain ⟨h0, h1, h2⟩ := hc
      injection h with h
      injection h with h4 h5
      subst h4 h5
      have hx := opd_c hF hy hv
      have hx2 := opd_c hF hq hn
      rw [hu] at hx
      rw [hu2] at hx2
      obtain ⟨b, o', rfl⟩ := fp_ptr hx
      exact .pure hR (.c (fp_drop hx h2)) (run b o' _ _ rfl (rp_int hx2) h0 h1)
    · cases h
  · rename_i id v i k kk j hv hn
    split at h
    · rename_i hc
      obtain ⟨h0, h1⟩ := hc
      injection h with h
      injection h with h4 h5
      subst h4 h5
      have hx := opd_c hF hy hv
      have hx2 := opd_c hF hq hn
      rw [hu] at hx
      rw [hu2] at hx2
      obtain ⟨rfl, hFF, hvv⟩ := ptr_ptr hx
      refine .pure hR (.c (.ptr id v i (k + j.toNat * s) hFF hvv)) ?_
      rw [run _ _ _ _ rfl (rp_int hx2) h0 h1]
      congr 4
      simp; omega
    · cases h
  · cases h

theorem arr1 {α : Type} {xs : Array α} {y : α} (h : xs.toList = [y]) : xs = #[y] := by cases xs; simp_all
theorem arr2 {α : Type} {xs : Array α} {y z : α} (h : xs.toList = [y, z]) : xs = #[y, z] := by cases xs; simp_all

theorem ok_len {c : Call} {t : TypeId} {y : Operand} {z : Opd} (hop : o.op = .call c) (hcal : c.callee = .builtin .len) (ha : c.args.toList = [y]) (hat : c.argTypes.toList = [t]) {str : Bool} (ht : (str = true ∧ P.underlying t = some .string) ∨ (str = false ∧ ∃ e, P.underlying t = some (.slice e))) (hy : opdOf y = some z)
    (h : aop (.len str z) fr σ = some (x, σ')) (hR : Rl C σ) (hF : FrR C nt fr a) : OpOk P C a o x σ' := by
  have hargs := arr1 ha
  have htys := arr1 hat
  obtain ⟨u, hu⟩ : ∃ u, a.eval y = u := ⟨_, rfl⟩
  have run : ∀ r, (Builtin.len_ #[t] o.type #[u]).run P C.w = .ok r C.w → (execOp a.eval o).run P C.w = .ok (.value r) C.w := by
    intro r hr
    simp [execOp, hop, resolve, hcal, hargs, htys, invoke, builtin, hu, hr]
  simp only [aop] at h
  rcases ht with ⟨rfl, ht⟩ | ⟨rfl, e, he⟩
  · split at h <;> (try simp only [if_true] at h) <;> try (cases h; done)
    rename_i s hv
    injection h with h
    injection h with h4 h5
    subst h4 h5
    have hx := opd_c hF hy hv
    rw [hu] at hx
    obtain rfl := rp_str hx
    exact .pure hR (.c (.int _ _)) (run _ (by simp [Builtin.len_, run_underlying ht, goInt]; rfl))
  · split at h <;> (try simp only [Bool.false_eq_true, if_false] at h) <;> try (cases h; done)
    · rename_i es hv
      injection h with h
      injection h with h4 h5
      subst h4 h5
      have hx := opd_c hF hy hv
      rw [hu] at hx
      refine .pure (v := .int .i64 es.length) hR (.c (.int _ _)) (run _ ?_)
      cases hx <;> simp [Builtin.len_, run_underlying he, goInt]
    · rename_i id v i n c hv
      injection h with h
      injection h with h4 h5
      subst h4 h5
      have hx := opd_c hF hy hv
      rw [hu] at hx
      refine .pure (v := .int .i64 n) hR (.c (.int _ _)) (run _ ?_)
      cases hx <;> simp [Builtin.len_, run_underlying he, goInt]
    · rename_i hv
      injection h with h
      injection h with h4 h5
      subst h4 h5
      have hx := opd_c hF hy hv
      rw [hu] at hx
      refine .pure (v := .int .i64 0) hR (.c (.int _ _)) (run _ ?_)
      cases hx <;> simp [Builtin.len_, run_underlying he, goInt]
    · rename_i hv
      injection h with h
      injection h with h4 h5
      subst h4 h5
      have hx := opd_c hF hy hv
      rw [hu] at hx
      refine .pure (v := .int .i64 0) hR (.c (.int _ _)) (run _ ?_)
      cases hx <;> simp [Builtin.len_, run_underlying he, goInt]

theorem ok_mm {c : Call} {mx : Bool} {y q : Operand} {z q' : Opd} (hop : o.op = .call c) (hcal : c.callee = .builtin (if mx then .max else .min)) (ha : c.args.toList = [y, q]) (hy : opdOf y = some z) (hq : opdOf q = some q') (h : aop (.mm mx z q') fr σ = some (x, σ')) (hR : Rl C σ) (hF : FrR C nt fr a) : OpOk P C a o x σ' := by
  have hargs := arr2 ha
  obtain ⟨u, hu⟩ : ∃ u, a.eval y = u := ⟨_, rfl⟩
  obtain ⟨u2, hu2⟩ : ∃ u, a.eval q = u := ⟨_, rfl⟩
  simp only [aop] at h
  split at h
  · rename_i k m k' n hv hn
    injection h with h
    injection h with h4 h5
    subst h4 h5
    have hx := opd_c hF hy hv
    have hx2 := opd_c hF hq hn
    rw [hu] at hx
    rw [hu2] at hx2
    obtain rfl := rp_int hx
    obtain rfl := rp_int hx2
    refine .pure hR (.c (.int _ _)) ?_
    cases mx
    · simp [execOp, hop, resolve, hcal, hargs, invoke, builtin, hu, hu2, Builtin.min_, Builtin.min2]
    · simp [execOp, hop, resolve, hcal, hargs, invoke, builtin, hu, hu2, Builtin.max_, Builtin.max2]
  · cases h

end
end Go.Proofs.Ytjlhfjpnnildhaa.Am
