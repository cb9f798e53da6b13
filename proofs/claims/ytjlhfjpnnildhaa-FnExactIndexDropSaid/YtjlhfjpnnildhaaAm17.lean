/- The abstract machine, part 17: a run of it is a run of the model. -/
import Derived.Test.YtjlhfjpnnildhaaAm16
set_option linter.unusedVariables false
set_option linter.unusedSimpArgs false
namespace Go.Proofs.Ytjlhfjpnnildhaa.Am
open Go.RowKit

theorem comp_call {P : Program} {fz : Bool} {c : Call} {f : Opd} {as : List Opd} (w4 : compOp P fz (.call c) = some (.call f as)) : ∃ x, c.callee = .value x ∧ opdOf x = some f ∧ c.args.toList.mapM opdOf = some as := by
  simp only [compOp] at w4
  split at w4
  · rename_i x hx
    simp only [Option.bind_eq_bind, Option.bind_eq_some_iff, Option.pure_def, Option.some.injEq, AO.call.injEq] at w4
    obtain ⟨f', q1, as', q2, rfl, rfl⟩ := w4
    exact ⟨x, hx, q1, q2⟩
  · split at w4
    · split at w4
      · simp [Option.bind_eq_some_iff] at w4
      · simp [Option.bind_eq_some_iff] at w4
      · cases w4
    · cases w4
  · split at w4
    · split at w4
      · simp only [Option.bind_eq_bind, Option.bind_eq_some_iff, Option.pure_def] at w4
        obtain ⟨s, h1, i, h2, z, h3, hc⟩ := w4
        split at hc
        · simp [Option.bind_eq_some_iff] at hc
        · cases hc
      · simp only [Option.bind_eq_bind, Option.bind_eq_some_iff, Option.pure_def] at w4
        obtain ⟨s, h1, i, h2, z, h3, hc⟩ := w4
        split at hc
        · simp [Option.bind_eq_some_iff] at hc
        · cases hc
      · cases w4
    · cases w4
  · split at w4
    · split at w4
      · simp [Option.bind_eq_some_iff] at w4
      · cases w4
    · cases w4
  · split at w4
    · simp [Option.bind_eq_some_iff] at w4
    · cases w4
  · split at w4
    · simp [Option.bind_eq_some_iff] at w4
    · cases w4
  · cases w4
theorem comp_call_only {P : Program} {fz : Bool} {o : Op} {f : Opd} {as : List Opd} (w4 : compOp P fz o = some (.call f as)) : ∃ c, o = .call c := by
  cases o with
  | call c => exact ⟨c, rfl⟩
  | binOp op t x y t' =>
    simp only [compOp] at w4
    split at w4
    · split at w4 <;> first
        | (simp [Option.bind_eq_some_iff] at w4; done)
        | (split at w4
           · cases w4
           · simp [Option.bind_eq_some_iff] at w4)
    · simp [Option.bind_eq_some_iff] at w4
  | buildSlice t n ps =>
    simp only [compOp, Option.bind_eq_bind, Option.bind_eq_some_iff, Option.pure_def] at w4
    obtain ⟨e, h1, s, h2, z, h3, qs, h4, h5⟩ := w4
    split at h5 <;> simp at h5
  | convert t t' y =>
    simp only [compOp] at w4
    split at w4
    · simp [Option.bind_eq_some_iff] at w4
    · split at w4 <;> simp [Option.bind_eq_some_iff] at w4
    · cases w4
  | makeFunc f p c => cases f <;> simp [compOp, Option.bind_eq_some_iff] at w4
  | makeSlice t l c =>
    simp only [compOp, Option.bind_eq_bind, Option.bind_eq_some_iff, Option.pure_def] at w4
    obtain ⟨e, h1, s, h2, z, h3, i, h4, h5⟩ := w4
    split at h5 <;> simp [Option.bind_eq_some_iff] at h5
  | slice t y lo hi mx =>
    simp only [compOp] at w4
    split at w4
    · split at w4 <;> simp [Option.bind_eq_some_iff] at w4
    · simp only [Option.bind_eq_bind, Option.bind_eq_some_iff, Option.pure_def] at w4
      obtain ⟨s, h1, hc⟩ := w4
      split at hc <;> simp [Option.bind_eq_some_iff] at hc
    · cases w4
  | fieldAddr t y i =>
    simp only [compOp, Option.bind_eq_bind, Option.bind_eq_some_iff, Option.pure_def] at w4
    obtain ⟨⟨off, s, ft⟩, h1, hc⟩ := w4
    simp only at hc
    split at hc <;> simp [Option.bind_eq_some_iff] at hc
  | field t y i =>
    simp only [compOp, Option.bind_eq_bind, Option.bind_eq_some_iff, Option.pure_def] at w4
    obtain ⟨⟨off, s, ft⟩, h1, hc⟩ := w4
    simp [Option.bind_eq_some_iff] at hc
  | indexAddr t y q =>
    simp only [compOp] at w4
    split at w4
    · simp only [Option.bind_eq_bind, Option.bind_eq_some_iff, Option.pure_def] at w4
      obtain ⟨s, h1, hc⟩ := w4
      split at hc <;> simp [Option.bind_eq_some_iff] at hc
    · simp [Option.bind_eq_some_iff] at w4
    · cases w4
  | index t y q =>
    simp only [compOp] at w4
    split at w4 <;> simp [Option.bind_eq_some_iff] at w4
  | _ => simp [compOp, Option.bind_eq_some_iff] at w4

/-- A slice held against nil. -/
theorem comp_eqsl {P : Program} {fz : Bool} {o : Op} {neg : Bool} {x y : Opd} (w4 : compOp P fz o = some (.op (.eq neg false [.sl] x y))) : ∃ op t p q t' e, o = .binOp op t p q t' ∧ (op = .eql ∨ op = .neq) ∧ neg = (op == .neq) ∧ P.underlying t = some (.slice e) ∧ opdOf p = some x ∧ opdOf q = some y := by
  cases o with
  | binOp op t p q t' =>
    simp only [compOp] at w4
    split at w4
    · rename_i hoq
      split at w4
      all_goals first
        | (rename_i k hu
           simp only [Option.bind_eq_bind, Option.bind_eq_some_iff, Option.pure_def, Option.some.injEq, AO.op.injEq] at w4
           obtain ⟨p', h1, q', h2, h3⟩ := w4
           first
           | (injection h3 with a1 a2 a3 a4 a5; subst a4 a5; exact ⟨op, t, p, q, t', k, rfl, hoq, a1.symm, hu, h1, h2⟩)
           | (simp at h3; done))
        | (simp [Option.bind_eq_some_iff] at w4; done)
        | (split at w4
           · cases w4
           · simp [Option.bind_eq_some_iff] at w4)
    · simp [Option.bind_eq_some_iff] at w4
  | buildSlice t n ps =>
    simp only [compOp, Option.bind_eq_bind, Option.bind_eq_some_iff, Option.pure_def] at w4
    obtain ⟨e, h1, s, h2, z, h3, qs, h4, h5⟩ := w4
    split at h5 <;> simp at h5
  | convert t t' y =>
    simp only [compOp] at w4
    split at w4
    · simp [Option.bind_eq_some_iff] at w4
    · split at w4 <;> simp [Option.bind_eq_some_iff] at w4
    · cases w4
  | makeFunc f p c => cases f <;> simp [compOp, Option.bind_eq_some_iff] at w4
  | makeSlice t l c =>
    simp only [compOp, Option.bind_eq_bind, Option.bind_eq_some_iff, Option.pure_def] at w4
    obtain ⟨e, h1, s, h2, z, h3, i, h4, h5⟩ := w4
    split at h5 <;> simp [Option.bind_eq_some_iff] at h5
  | slice t y lo hi mx =>
    simp only [compOp] at w4
    split at w4
    · split at w4 <;> simp [Option.bind_eq_some_iff] at w4
    · simp only [Option.bind_eq_bind, Option.bind_eq_some_iff, Option.pure_def] at w4
      obtain ⟨s, h1, hc⟩ := w4
      split at hc <;> simp [Option.bind_eq_some_iff] at hc
    · cases w4
  | fieldAddr t y i =>
    simp only [compOp, Option.bind_eq_bind, Option.bind_eq_some_iff, Option.pure_def] at w4
    obtain ⟨⟨off, s, ft⟩, h1, hc⟩ := w4
    simp only at hc
    split at hc <;> simp [Option.bind_eq_some_iff] at hc
  | field t y i =>
    simp only [compOp, Option.bind_eq_bind, Option.bind_eq_some_iff, Option.pure_def] at w4
    obtain ⟨⟨off, s, ft⟩, h1, hc⟩ := w4
    simp [Option.bind_eq_some_iff] at hc
  | indexAddr t y q =>
    simp only [compOp] at w4
    split at w4
    · simp only [Option.bind_eq_bind, Option.bind_eq_some_iff, Option.pure_def] at w4
      obtain ⟨s, h1, hc⟩ := w4
      split at hc <;> simp [Option.bind_eq_some_iff] at hc
    · simp [Option.bind_eq_some_iff] at w4
    · cases w4
  | index t y q =>
    simp only [compOp] at w4
    split at w4 <;> simp [Option.bind_eq_some_iff] at w4
  | call c =>
    simp only [compOp] at w4
    repeat' (first | (split at w4) | (simp [Option.bind_eq_some_iff] at w4; done) | skip)
    all_goals (try (simp [Option.bind_eq_some_iff] at w4; done))
    all_goals (try (cases w4; done))
  | _ => simp [compOp, Option.bind_eq_some_iff] at w4
theorem slLike_sound {C : Cx} {y : Ce} {v : Value} (h : Rp C y v) (hs : SlLike y) : ∃ a n c, v = .slice a n c := by
  cases hs <;> cases h <;> exact ⟨_, _, _, rfl⟩
theorem eq_nil_slice' {P : Program} {t e : TypeId} (d : Nat) (ht : P.underlying t = some (.slice e)) (w : World) (a : Option Addr) (n c : Nat) : (Op.equalIn (d + 1) t (.slice a n c) (.slice none 0 0)).run P w = .ok a.isNone w := by
  cases a <;> simp [Op.equalIn, run_underlying ht]
theorem eq_nil_slice {P : Program} {t e : TypeId} (ht : P.underlying t = some (.slice e)) (w : World) (a : Option Addr) (n c : Nat) : (Op.equal t (.slice a n c) (.slice none 0 0)).run P w = .ok a.isNone w := eq_nil_slice' 9999 ht w a n c

/-! ### One operation -/
theorem sound_op {P : Program} {fz : List Nat} {nt : Nat} {ops : Array Oper} {Q : Exit → Act → World → Prop} {i : Nat} {o : Oper} {d : Option Nat} {ao : AOp} {g : Option (Nat × Bool)} (h1 : ops[i]? = some o) (h2 : compOper P fz nt ops o = some ⟨d, .op ao, g⟩)
    {C : Cx} {fr : Fr} {σ σ' : Store} {a : Act} {v : AV} (hw : wants fr g = some true) (ha : aop ao fr σ = some (v, σ')) (hF : FrR C nt fr a) (hR : Rl C σ) {Kont : Act → World → Prop}
    (hk : ∀ D a', Rl D σ' → C.Le D → FrR D nt (putA fr d v) a' → Kont a' D.w) : wpOp P ops Q i Kont a C.w := by
  obtain ⟨w1, w2, w3, fzb, w4⟩ := wants_sound h2 hF hw
  simp only at w3 w4
  obtain ⟨D, u, hR', hle, hx, hrun⟩ := aop_sound w4 ha hR hF
  have hF' : FrR D nt (putA fr d v) (a.put o.dst u) := by
    rw [w3]
    exact (hF.mono hle).putA (fun t e => w2 t (w3.trans e)) hx
  have hnext := hk D (a.put o.dst u) hR' hle hF'
  simp only [wpOp, h1, w1, if_true]
  left
  unfold Oper.wp
  rcases hrun with hrun | ⟨rfl, hrun⟩
  · rw [hrun]; exact hnext
  · rw [hrun]; exact hnext
theorem sound_nilq {P : Program} {fz : List Nat} {nt : Nat} {ops : Array Oper} {Q : Exit → Act → World → Prop} {i : Nat} {o : Oper} {d : Option Nat} {neg : Bool} {x : Opd} {g : Option (Nat × Bool)} (h1 : ops[i]? = some o) (h2 : compOper P fz nt ops o = some ⟨d, .op (.eq neg false [.sl] x (.k .nils)), g⟩)
    {C : Cx} {fr : Fr} {σ : Store} {a : Act} {y : Ce} (hw : wants fr g = some true) (hx : x.ev fr = some (.c y)) (hy : SlLike y) (hF : FrR C nt fr a) (hR : Rl C σ) {Kont : Act → World → Prop}
    (hk : ∀ b a', FrR C nt (putA fr d (.c (.bool b))) a' → Kont a' C.w) : wpOp P ops Q i Kont a C.w := by
  obtain ⟨w1, w2, w3, fzb, w4⟩ := wants_sound h2 hF hw
  simp only at w3 w4
  obtain ⟨op, t, p, q, t', e, hop, hoq, rfl, ht, hp, hq⟩ := comp_eqsl w4
  obtain ⟨ad, n, c, hu⟩ := slLike_sound (opd_c hF hp hx) hy
  have hv : a.eval q = .slice none 0 0 := by
    have := opd_c hF hq (show (Opd.k .nils).ev fr = some (.c .nils) from rfl)
    generalize a.eval q = u at this ⊢
    cases this
    rfl
  have hrun : (execOp a.eval o).run P C.w = .ok (.value (.bool (ad.isNone != (op == .neq)))) C.w := by
    have he := eq_nil_slice (P := P) ht C.w ad n c
    simp only [execOp, hop, hu, hv]
    rcases hoq with rfl | rfl
    · have hb : binOp .eql t (.slice ad n c) (.slice none 0 0) = (do pure (.bool (← Op.equal t (.slice ad n c) (.slice none 0 0))) : Sem Value) := rfl
      simp [eqGuard, hb, Sem.run_bind, he, neq_eql]
    · have hb : binOp .neq t (.slice ad n c) (.slice none 0 0) = (do pure (.bool (!(← Op.equal t (.slice ad n c) (.slice none 0 0)))) : Sem Value) := rfl
      simp [eqGuard, hb, Sem.run_bind, he, neq_neq]
  have hF' : FrR C nt (putA fr d (.c (.bool (ad.isNone != (op == .neq))))) (a.put o.dst (.bool (ad.isNone != (op == .neq)))) := by
    rw [w3]
    exact hF.putA (fun t e => w2 t (w3.trans e)) (.c (.bool _))
  have hnext := hk _ _ hF'
  simp only [wpOp, h1, w1, if_true]
  left
  unfold Oper.wp
  rw [hrun]
  exact hnext
theorem sound_no {P : Program} {fz : List Nat} {nt : Nat} {ops : Array Oper} {Q : Exit → Act → World → Prop} {i : Nat} {o : Oper} {d : Option Nat} {ao : AO} {g : Option (Nat × Bool)} (h1 : ops[i]? = some o) (h2 : compOper P fz nt ops o = some ⟨d, ao, g⟩)
    {C : Cx} {fr : Fr} {a : Act} (hw : wants fr g = some false) (hF : FrR C nt fr a) {Kont : Act → World → Prop}
    (hk : ∀ a', FrR C nt (putA fr d (.tup [])) a' → Kont a' C.w) : wpOp P ops Q i Kont a C.w := by
  obtain ⟨w1, w2, w3, fzb, w4⟩ := wants_sound h2 hF hw
  simp only at w3 w4
  have hF' : FrR C nt (putA fr d (.tup [])) (a.put o.dst undef) := by
    rw [w3]
    exact hF.putA (fun t e => w2 t (w3.trans e)) (.tup rfl fun i hi => by simp at hi)
  have hnext := hk (a.put o.dst undef) hF'
  simp only [wpOp, h1, w1, Bool.false_eq_true, if_false]
  exact hnext
theorem call_args {P : Program} {o : Oper} {fo : Opd} {args : List Opd} {fzb : Bool} (w4 : compOp P fzb o.op = some (.call fo args))
    {C : Cx} {nt : Nat} {fr : Fr} {σ : Store} {a : Act} {n : Nat} {pre cap : List Ce} {vs : List AV} {Q : AV → Store → Prop} (hfo : fo.ev fr = some (.c (.fn n pre cap))) (hargs : evs fr args = some vs)
    (hok : Ok P n (pre.map .c ++ vs ++ cap.map .c) σ Q) (hF : FrR C nt fr a) : ∃ cargs : Array Value, (execOp a.eval o).run P C.w = .ok (.enter n cargs) C.w ∧
      ∃ hl : cargs.size = (pre.map AV.c ++ vs ++ cap.map AV.c).length, ∀ i (hi : i < (pre.map AV.c ++ vs ++ cap.map AV.c).length), RpV C (pre.map AV.c ++ vs ++ cap.map AV.c)[i] (cargs[i]'(by omega)) := by
  obtain ⟨c, hop⟩ := comp_call_only w4
  rw [hop] at w4
  obtain ⟨fopd, hcal, q1, q2⟩ := comp_call w4
  have hfv := opd_c hF q1 hfo
  obtain ⟨u, hu⟩ : ∃ u, a.eval fopd = u := ⟨_, rfl⟩
  rw [hu] at hfv
  cases hfv with
  | fn _ _ _ ps cs hp hcs r1 r2 =>
    obtain ⟨hl, hv⟩ := evs_sound hF q2 hargs
    obtain ⟨⟨gn, g1, g2, g3⟩, -⟩ := hok
    have hrun : (execOp a.eval o).run P C.w = .ok (.enter n (ps ++ c.args.map a.eval ++ cs)) C.w := by
      have g3' : ¬ gn.name = "runtime.NumGoroutine" := by simpa using g3
      have g2' : ¬ gn.body = none := by intro e; simp [e] at g2
      simp [execOp, hop, resolve, hcal, hu, Deferred.ofValue, invoke, callFunc, g1, g3', g2']
    have hargs' : ∃ hl : (ps ++ c.args.map a.eval ++ cs).size = (pre.map AV.c ++ vs ++ cap.map AV.c).length, ∀ i (hi : i < (pre.map AV.c ++ vs ++ cap.map AV.c).length), RpV C (pre.map AV.c ++ vs ++ cap.map AV.c)[i] ((ps ++ c.args.map a.eval ++ cs)[i]'(by omega)) := by
      have hsz : c.args.size = vs.length := by simpa using hl
      refine ⟨by simp; omega, fun i hi => ?_⟩
      by_cases c1 : i < pre.length
      · rw [List.getElem_append_left (by simp; omega), List.getElem_append_left (by simpa using c1)]
        have e : (ps ++ c.args.map a.eval ++ cs)[i]'(by simp; omega) = ps[i]'(by omega) := by
          rw [Array.getElem_append_left (by simp; omega), Array.getElem_append_left (by omega)]
        rw [e, List.getElem_map]
        exact .c (r1 i c1)
      · by_cases c2 : i < pre.length + vs.length
        · rw [List.getElem_append_left (by simp; omega), List.getElem_append_right (by simp; omega)]
          have e : (ps ++ c.args.map a.eval ++ cs)[i]'(by simp; omega) = a.eval (c.args[i - pre.length]'(by omega)) := by
            rw [Array.getElem_append_left (by simp; omega), Array.getElem_append_right (by omega)]
            simp [hp]
          rw [e]
          have := hv (i - pre.length) (by simp; omega) (by omega)
          simpa using this
        · have hi' : i < pre.length + (vs.length + cap.length) := by simpa using hi
          rw [List.getElem_append_right (by simp; omega)]
          have e : (ps ++ c.args.map a.eval ++ cs)[i]'(by simp; omega) = cs[i - (pre.length + vs.length)]'(by omega) := by
            rw [Array.getElem_append_right (by simp; omega)]
            congr 1
            simp; omega
          rw [e]
          simp only [List.getElem_map, List.length_append, List.length_map]
          exact .c (r2 (i - (pre.length + vs.length)) (by omega))
    exact ⟨_, hrun, hargs'⟩
theorem sound_call {P : Program} {fz : List Nat} {nt : Nat} {ops : Array Oper} {PQ : Exit → Act → World → Prop} {i : Nat} {o : Oper} {d : Option Nat} {fo : Opd} {args : List Opd} {g : Option (Nat × Bool)} (h1 : ops[i]? = some o) (h2 : compOper P fz nt ops o = some ⟨d, .call fo args, g⟩)
    {C : Cx} {fr : Fr} {σ : Store} {a : Act} {n : Nat} {pre cap : List Ce} {vs : List AV} {Q : AV → Store → Prop} (hw : wants fr g = some true) (hfo : fo.ev fr = some (.c (.fn n pre cap))) (hargs : evs fr args = some vs)
    (hok : Ok P n (pre.map .c ++ vs ++ cap.map .c) σ Q) (hF : FrR C nt fr a) (hR : Rl C σ) {Kont : Act → World → Prop}
    (hk : ∀ D a' r σ', Q r σ' → Rl D σ' → C.Le D → FrR D nt (putA fr d r) a' → Kont a' D.w) : wpOp P ops PQ i Kont a C.w := by
  obtain ⟨w1, w2, w3, fzb, w4⟩ := wants_sound h2 hF hw
  simp only at w3 w4
  obtain ⟨cargs, hrun, hargs'⟩ := call_args w4 hfo hargs hok hF
  simp only [wpOp, h1, w1, if_true]
  left
  unfold Oper.wp
  rw [hrun]
  simp only [Oper.upon]
  refine (hok.2 C _ hR hargs').mono ?_
  rintro e w' ⟨D, σ', r, v, rfl, rfl, hQ, hR', hx, hle⟩
  have hF' : FrR D nt (putA fr d r) (a.put o.dst v) := by
    rw [w3]
    exact (hF.mono hle).putA (fun t e => w2 t (w3.trans e)) hx
  exact hk D (a.put o.dst v) r σ' hQ hR' hle hF'
/-- The call comes back. -/
theorem call_live {P : Program} {o : Oper} {d : Option Nat} {fo : Opd} {args : List Opd} {fzb : Bool} (w4 : compOp P fzb o.op = some (.call fo args))
    {C : Cx} {nt : Nat} {fr : Fr} {σ : Store} {a : Act} {n : Nat} {pre cap : List Ce} {vs : List AV} {Q : AV → Store → Prop} (w2 : ∀ d, o.dst = some d → d < nt) (w3 : o.dst = d) (hfo : fo.ev fr = some (.c (.fn n pre cap))) (hargs : evs fr args = some vs)
    (hok : Ok P n (pre.map .c ++ vs ++ cap.map .c) σ Q) (hF : FrR C nt fr a) (hR : Rl C σ) : ∃ D a' r σ', Q r σ' ∧ Rl D σ' ∧ FrR D nt (putA fr d r) a' := by
  obtain ⟨cargs, _, hargs'⟩ := call_args w4 hfo hargs hok hF
  obtain ⟨e, w', _, ⟨D, σ', r, v, rfl, rfl, hQ, hR', hx, hle⟩, _⟩ := hok.2 C _ hR hargs' []
  refine ⟨D, a.put o.dst v, r, σ', hQ, hR', ?_⟩
  rw [w3]
  exact (hF.mono hle).putA (fun t e => w2 t (w3.trans e)) hx

end Go.Proofs.Ytjlhfjpnnildhaa.Am
