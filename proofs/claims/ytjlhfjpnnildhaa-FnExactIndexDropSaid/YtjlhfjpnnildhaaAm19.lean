/- The abstract machine, part 19: a run of it is a run of the model. -/
import Derived.Test.YtjlhfjpnnildhaaAm18
set_option linter.unusedVariables false
set_option linter.unusedSimpArgs false
namespace Go.Proofs.Ytjlhfjpnnildhaa.Am
open Go.RowKit

/-- The segments still to do, and where they begin. -/
inductive SR (P : Program) (fz : List Nat) (nt : Nat) (ops : Array Oper) (ms : List Nat) : Nat → List (List AOper) → Prop where
  | nil {p} (e : p = ops.size) : SR P fz nt ops ms p []
  | cons {p s r} (ne : s ≠ []) (h : ∀ k (h : k < s.length), ∃ o, ops[p + k]? = some o ∧ compOper P fz nt ops o = some s[k]) (cut : p + s.length < ops.size → cutAt (covers ms) (p + s.length) = true) (hr : SR P fz nt ops ms (p + s.length) r) : SR P fz nt ops ms p (s :: r)
theorem SR.le {P : Program} {fz : List Nat} {nt : Nat} {ops : Array Oper} {ms : List Nat} {p : Nat} {l : List (List AOper)} (h : SR P fz nt ops ms p l) : p ≤ ops.size := by
  induction h with
  | nil e => omega
  | cons _ _ _ _ ih => omega
theorem segsOf_SR {P : Program} {fz : List Nat} {nt : Nat} {ops : Array Oper} {ms : List Nat} : ∀ {l : List AOper} {q : Nat}, (∀ k (h : k < l.length), ∃ o, ops[q + k]? = some o ∧ compOper P fz nt ops o = some l[k]) → q + l.length = ops.size → SR P fz nt ops ms q (segsOf (covers ms) q l)
  | [], q, h, hq => by
    simp only [segsOf]
    simp at hq
    exact .nil hq
  | o :: r, q, h, hq => by
    have ih := segsOf_SR (P := P) (fz := fz) (nt := nt) (ops := ops) (ms := ms) (l := r) (q := q + 1) (fun k hk => by
      have := h (k + 1) (by simp; omega)
      rw [show q + 1 + k = q + (k + 1) by omega]
      simpa using this) (by simp at hq; omega)
    have h0 := h 0 (by simp)
    simp only [segsOf]
    split
    · rename_i s ss hc hs
      rw [hs] at ih
      cases ih with
      | cons ne h' cut hr =>
        refine .cons (by simp) (fun k hk => ?_) (fun hlt => ?_) ?_
        · cases k with
          | zero => exact h0
          | succ k =>
            have := h' k (by simpa using hk)
            rw [show q + (k + 1) = q + 1 + k by omega]
            simpa using this
        · have := cut (by simp at hlt; omega)
          rw [show q + (o :: s).length = q + 1 + s.length by simp; omega]
          exact this
        · rw [show q + (o :: s).length = q + 1 + s.length by simp; omega]
          exact hr
    · rename_i ss hne
      refine .cons (by simp) (fun k hk => ?_) (fun hlt => ?_) ih
      · have : k = 0 := by simpa using hk
        subst this
        exact h0
      · cases hb : cutAt (covers ms) (q + 1) with
        | true => rfl
        | false =>
          cases hs : segsOf (covers ms) (q + 1) r with
          | cons s ss => exact absurd hs (hne s ss hb)
          | nil =>
            rw [hs] at ih
            have : q + 1 = ops.size := by
              cases ih
              assumption
            simp at hlt
            omega
theorem compOpers_at {P : Program} {fz : List Nat} {nt : Nat} {ops : Array Oper} : ∀ {l : List Oper} {as : List AOper}, compOpers P fz nt ops l = some as → as.length = l.length ∧ ∀ k (h : k < as.length) (h' : k < l.length), compOper P fz nt ops l[k] = some as[k]
  | [], as, h => by
    simp [compOpers] at h
    subst h
    exact ⟨rfl, fun k hk => by simp at hk⟩
  | o :: l, as, h => by
    simp only [compOpers] at h
    split at h
    · rename_i x l' h1 h2
      injection h with h
      subst h
      obtain ⟨q1, q2⟩ := compOpers_at h2
      refine ⟨by simp [q1], fun k hk hk' => ?_⟩
      cases k with
      | zero => exact h1
      | succ k => exact q2 k (by simpa using hk) (by simpa using hk')
    · cases h
theorem compDraw_spec {P : Program} {fz : List Nat} {nt : Nat} {ops : Array Oper} {l : List AOper} {c : AC} (hl : compOpers P fz nt ops ops.toList = some l) (h : compDraw l (ops.toList.map aftOf) = some c) :
    ∃ ms segs, c = .draw segs ∧ Aft ops ms ∧ SR P fz nt ops ms 0 segs ∧ segsOk ms 0 segs = true := by
  unfold compDraw at h
  simp only at h
  split at h
  · rename_i hc
    injection h with h
    subst h
    rw [Bool.and_eq_true] at hc
    obtain ⟨h1, h2⟩ := hc
    obtain ⟨q1, q2⟩ := compOpers_at hl
    have hbit : ∀ i o, ops[i]? = some o → ∀ j, ((((ops.toList.map aftOf).map maskOf).getD i 0).testBit j = true ↔ j ∈ aftOf o) := by
      intro i o ho j
      obtain ⟨hi, rfl⟩ := Array.getElem?_eq_some_iff.1 ho
      rw [List.getD_eq_getElem?_getD]
      simp [hi, testBit_maskOf]
    refine ⟨_, _, rfl, ⟨by simp, hbit, fun i j hj => ?_⟩, segsOf_SR (fun k hk => ?_) (by simp [q1]), h1⟩
    · by_cases hi : i < ops.size
      · have := (hbit i ops[i] (by simp [hi]) j).1 hj
        rw [List.all_eq_true] at h2
        have h3 := h2 (i, aftOf ops[i]) (mem_numbered.2 ⟨i, by simp [hi], by simp, by simp⟩)
        rw [List.all_eq_true] at h3
        simpa using h3 j this
      · rw [List.getD_eq_getElem?_getD] at hj
        simp [Nat.not_lt.1 hi] at hj
    · have hk' : k < ops.size := by simpa [q1] using hk
      exact ⟨ops[k], by simp [hk'], by have := q2 k hk (by simpa using hk'); rw [Array.getElem_toList] at this; exact this⟩
  · cases h
theorem segOk_spec {ms : List Nat} {p : Nat} {seg : List AOper} (h : segOk ms p seg = true) (h2 : 2 ≤ seg.length) :
    (∀ k k' (h : k < seg.length) (h' : k' < seg.length) d, k ≠ k' → seg[k].dst = some d → seg[k'].dst ≠ some d) ∧
    ∀ k k' (h : k < seg.length) (h' : k' < seg.length) t, t ∈ seg[k].looks → seg[k'].dst = some t → (ms.getD (p + k) 0).testBit (p + k') = true := by
  have h : (numbered p seg).all (fun x => (match x.2.dst with
        | some d => (numbered p seg).all fun y => x.1 == y.1 || y.2.dst != some d
        | none => true) && x.2.looks.all fun t => (numbered p seg).all fun y => y.2.dst != some t || (ms.getD x.1 0).testBit y.1) = true := by
    unfold segOk at h
    split at h
    · simp at h2
    · exact h
  rw [List.all_eq_true] at h
  refine ⟨fun k k' hk hk' d hne hd => ?_, fun k k' hk hk' t ht hd => ?_⟩
  · have := h (p + k, seg[k]) (mem_numbered.2 ⟨k, hk, rfl, rfl⟩)
    rw [Bool.and_eq_true] at this
    have h3 := this.1
    simp only [hd, List.all_eq_true] at h3
    have := h3 (p + k', seg[k']) (mem_numbered.2 ⟨k', hk', rfl, rfl⟩)
    have e : (p + k == p + k') = false := by simp; omega
    simp only [e, Bool.false_or] at this
    simpa using this
  · have := h (p + k, seg[k]) (mem_numbered.2 ⟨k, hk, rfl, rfl⟩)
    rw [Bool.and_eq_true] at this
    have h3 := this.2
    simp only [List.all_eq_true] at h3
    have := h3 t ht (p + k', seg[k']) (mem_numbered.2 ⟨k', hk', rfl, rfl⟩)
    simp only [hd, bne_self_eq_false, Bool.false_or] at this
    exact this
theorem lateOk_of : ∀ {seg : List AOper}, (∀ k k' (h : k < seg.length) (h' : k' < seg.length) d, k ≠ k' → seg[k].dst = some d → seg[k'].dst ≠ some d) →
    (∀ k k' (h : k < seg.length) (h' : k' < seg.length) t, t ∈ seg[k].looks → seg[k'].dst = some t → k' < k) → LateOk seg
  | [], _, _ => trivial
  | o :: r, h1, h2 => by
    refine ⟨fun y hy t ht hd => ?_, fun d hd y hy hy' => ?_, lateOk_of (fun k k' hk hk' d hne hd => ?_) (fun k k' hk hk' t ht hd => ?_)⟩
    · obtain ⟨k', hk', rfl⟩ := List.mem_iff_getElem.1 hy
      have := h2 0 k' (by simp) hk' t ht hd
      omega
    · obtain ⟨k', hk', rfl⟩ := List.mem_iff_getElem.1 hy
      exact h1 0 (k' + 1) (by simp) (by simpa using hk') d (by omega) hd (by simpa using hy')
    · have := h1 (k + 1) (k' + 1) (by simpa using hk) (by simpa using hk') d (by omega) (by simpa using hd)
      simpa using this
    · have := h2 (k + 1) (k' + 1) (by simpa using hk) (by simpa using hk') t (by simpa using ht) (by simpa using hd)
      omega

theorem comp_region {P : Program} {fz : List Nat} {nt id : Nat} {ops : Array Oper} {draw : Bool} {c : AC} (h : compCode P fz nt (.region id ops draw) = some c) : (∃ l, c = .region l) ∨ ∃ l, c = .draw l := by
  cases draw with
  | false =>
    simp only [compCode] at h
    obtain ⟨x, h3, h4⟩ := Option.map_eq_some_iff.1 h
    exact .inl ⟨x, h4.symm⟩
  | true =>
    simp only [compCode] at h
    split at h
    · rename_i l hl
      obtain ⟨ms, segs, e, _⟩ := compDraw_spec hl h
      exact .inr ⟨_, e⟩
    · cases h

/-- A drawn choice more. -/
def Cx.drew (C : Cx) : Cx := ⟨C.μ, C.F, C.M, { C.w with drawn := C.w.drawn + 1 }⟩
theorem Cx.le_drew (C : Cx) : C.Le C.drew := ⟨fun _ _ h => ⟨h, rfl⟩, rfl, rfl, rfl, Nat.le_refl _, fun _ _ _ => rfl, fun b cs t h => ⟨cs, h, rfl⟩, fun _ _ h => h⟩
theorem Rl.drew {C : Cx} {σ : Store} (h : Rl C σ) : Rl C.drew σ := by
  refine ⟨h.F, h.live, h.M, h.inj, fun id v es h1 h2 => ?_⟩
  obtain ⟨cs, t, a, b, c, d⟩ := h.blk id v es h1 h2
  refine ⟨cs, t, a, b, c, fun i j hi hj => ?_⟩
  obtain ⟨u, x, y⟩ := d i j hi hj
  exact ⟨u, x, y.mono C.le_drew⟩

/-- What the end of a call must be. -/
def EndsIn (C0 : Cx) (R : AV → Store → Prop) (e : Ending) (w' : World) : Prop := ∃ D σ' r v, e = .returned v ∧ D.w = w' ∧ R r σ' ∧ Rl D σ' ∧ RpV D r v ∧ C0.Le D

/-- What a run's state says. -/
def Says (P : Program) (fz : List Nat) (nt : Nat) (f : FuncId) (C0 : Cx) (R : AV → Store → Prop) : List AK → Fr → Store → Prop
  | .ops todo :: K, fr, σ => ∀ (C : Cx) (a : Act) (ops : Array Oper) (is : List Nat) (L : List Item), C0.Le C → TR P fz nt ops todo is → KR P fz nt K L → FrR C nt fr a → Rl C σ →
      wpOps P ops (fun e a' w' => e = .normal ∧ Runs P f (EndsIn C0 R) L a' w') is a C.w
  | .segs todo :: K, fr, σ => ∀ (C : Cx) (a : Act) (ops : Array Oper) (ms : List Nat) (p : Nat) (L : List Item), C0.Le C → Aft ops ms → SR P fz nt ops ms p todo → segsOk ms p todo = true → KR P fz nt K L → FrR C nt fr a → Rl C σ →
      ∀ (fuel : Nat) (listed : Array Bool), Upto ops.size p listed → rem ops.size listed ≤ fuel → wpAny P .any ops (fun e a' w' => e = .normal ∧ Runs P f (EndsIn C0 R) L a' w') fuel listed a C.w
  | K, fr, σ => ∀ (C : Cx) (a : Act) (L : List Item), C0.Le C → KR P fz nt K L → FrR C nt fr a → Rl C σ → Runs P f (EndsIn C0 R) L a C.w

theorem says_code {P : Program} {fz : List Nat} {nt : Nat} {f : FuncId} {C0 : Cx} {R : AV → Store → Prop} {K : List AK} {fr : Fr} {σ : Store} (h : Says P fz nt f C0 R K fr σ) {C : Cx} {a : Act} {L : List Item} (le : C0.Le C) (hk : KR P fz nt K L) (hF : FrR C nt fr a) (hR : Rl C σ) : Runs P f (EndsIn C0 R) L a C.w := by
  cases hk with
  | nil => exact h C a _ le .nil hF hR
  | code h1 h2 => exact h C a _ le (.code h1 h2) hF hR
  | blk h1 => exact h C a _ le (.blk h1) hF hR
  | lp h1 h2 => exact h C a _ le (.lp h1 h2) hF hR

theorem Go.says {P : Program} (hm : P.follows .mixedOrders = true) {fz : List Nat} {nt : Nat} {rets : List RV} {f : FuncId} {fn : Func} (hf : P.funcs[f]? = some fn) (hr : retsOf P fn.results.toList = some rets) {R : AV → Store → Prop} (C0 : Cx) {n0 : Nat} (h0 : ∀ id v, C0.F id v → id < n0) {K : List AK} {fr : Fr} {σ : Store} (h : Go P n0 nt rets R K fr σ) : Says P fz nt f C0 R K fr σ := by
  induction h with
  | skip _ ih =>
    intro C a L le hk hF hR
    cases hk with
    | code h1 h2 =>
      rename_i c' K'
      cases c'
      case region => rcases comp_region h1 with ⟨l, e⟩ | ⟨l, e⟩ <;> cases e
      all_goals simp [compCode] at h1
      · exact Runs.step (fun b cs => step_skip) (says_code ih le h2 hF hR)
      all_goals (split at h1 <;> simp at h1)
  | seq _ ih =>
    intro C a L le hk hF hR
    cases hk with
    | code h1 h2 =>
      rename_i c' K'
      cases c'
      case region => rcases comp_region h1 with ⟨l, e⟩ | ⟨l, e⟩ <;> cases e
      all_goals simp only [compCode] at h1
      all_goals try (simp at h1; done)
      · split at h1
        · rename_i e1 e2
          injection h1 with h1
          injection h1 with h3 h4
          subst h3 h4
          exact Runs.step (fun b cs => step_seq) (says_code ih le (.code e1 (.code e2 h2)) hF hR)
        · cases h1
      · split at h1 <;> simp at h1
  | cond t hc _ ih =>
    intro C a L le hk hF hR
    cases hk with
    | code h1 h2 =>
      rename_i c' K'
      cases c'
      case region => rcases comp_region h1 with ⟨l, e⟩ | ⟨l, e⟩ <;> cases e
      all_goals simp only [compCode] at h1
      all_goals try (simp at h1; done)
      · split at h1 <;> simp at h1
      · split at h1
        · rename_i e1 e2 e3
          injection h1 with h1
          injection h1 with h3 h4 h5
          subst h3 h4 h5
          have hb := rp_bool (opd_c hF e1 hc)
          refine Runs.step (fun b cs => step_cond hb) (says_code ih le ?_ hF hR)
          cases t
          · exact .code e3 h2
          · exact .code e2 h2
        · cases h1
  | block _ ih =>
    intro C a L le hk hF hR
    cases hk with
    | code h1 h2 =>
      rename_i c' K'
      cases c'
      case region => rcases comp_region h1 with ⟨l, e⟩ | ⟨l, e⟩ <;> cases e
      all_goals simp only [compCode] at h1
      all_goals try (simp at h1; done)
      · split at h1 <;> simp at h1
      · split at h1 <;> simp at h1
      · obtain ⟨x, h3, h4⟩ := Option.map_eq_some_iff.1 h1
        injection h4 with h4 h5
        subst h4 h5
        exact Runs.step (fun b cs => step_block) (says_code ih le (.code h3 (.blk h2)) hF hR)
  | blk _ ih =>
    intro C a L le hk hF hR
    cases hk with
    | blk h2 => exact Runs.step (fun b cs => step_inBlock) (says_code ih le h2 hF hR)
  | loop _ ih =>
    intro C a L le hk hF hR
    cases hk with
    | code h1 h2 =>
      rename_i c' K'
      cases c'
      case region => rcases comp_region h1 with ⟨l, e⟩ | ⟨l, e⟩ <;> cases e
      all_goals simp only [compCode] at h1
      all_goals try (simp at h1; done)
      · split at h1 <;> simp at h1
      · split at h1 <;> simp at h1
      · obtain ⟨x, h3, h4⟩ := Option.map_eq_some_iff.1 h1
        injection h4 with h4
        subst h4
        exact Runs.step (fun b cs => step_loop) (says_code ih le (.code h3 (.lp h3 h2)) hF hR)
  | lp _ ih =>
    intro C a L le hk hF hR
    cases hk with
    | lp h1 h2 => exact Runs.step (fun b cs => step_inLoop) (says_code ih le (.code h1 (.lp h1 h2)) hF hR)
  | exit he _ ih =>
    intro C a L le hk hF hR
    cases hk with
    | code h1 h2 =>
      rename_i c' K'
      cases c'
      case region => rcases comp_region h1 with ⟨l, e⟩ | ⟨l, e⟩ <;> cases e
      all_goals simp only [compCode] at h1
      all_goals try (simp at h1; done)
      · split at h1 <;> simp at h1
      · split at h1 <;> simp at h1
      · injection h1 with h1
        injection h1 with h1
        subst h1
        obtain ⟨L1, h3, h4⟩ := exitA_sound h2 he
        exact Runs.step (fun b cs => step_exit h3) (says_code ih le h4 hF hR)
  | ret hv hRv =>
    intro C a L le hk hF hR
    cases hk with
    | code h1 h2 =>
      rename_i c' K'
      cases c'
      case region => rcases comp_region h1 with ⟨l, e⟩ | ⟨l, e⟩ <;> cases e
      all_goals simp only [compCode] at h1
      all_goals try (simp at h1; done)
      · split at h1 <;> simp at h1
      · split at h1 <;> simp at h1
      · obtain ⟨u, hu, hx⟩ := retv_sound (P := P) hr hR hF hv
        intro b cs hb hkd
        refine ⟨.returned u, C.w, _, ⟨C, _, _, u, rfl, rfl, hRv, hR, hx, le⟩, Steps.one step_ret, ?_, ?_⟩
        · simp [Frame.at, hb]
        · refine ⟨rfl, by simp [Frame.at, hF.defers], by simp [Frame.at, hkd], fn, by simp [Frame.at, hb, hf], by simpa [Frame.at] using hu⟩
  | fin hv hRv =>
    intro C a L le hk hF hR
    cases hk
    obtain ⟨u, hu, hx⟩ := retv_sound (P := P) hr hR hF hv
    intro b cs hb hkd
    refine ⟨.returned u, C.w, _, ⟨C, _, _, u, rfl, rfl, hRv, hR, hx, le⟩, Steps.one step_end, ?_, ?_⟩
    · simp [Frame.at, hb]
    · refine ⟨rfl, by simp [Frame.at, hF.defers], by simp [Frame.at, hkd], fn, by simp [Frame.at, hb, hf], by simpa [Frame.at] using hu⟩
  | region _ ih =>
    intro C a L le hk hF hR
    cases hk with
    | code h1 h2 =>
      rename_i c' K'
      cases c'
      all_goals try simp only [compCode] at h1
      all_goals try (simp at h1; done)
      · rename_i id ops draw
        cases draw with
        | true =>
          simp only [compCode] at h1
          split at h1
          · rename_i l hl
            obtain ⟨ms, segs, e, _⟩ := compDraw_spec hl h1
            cases e
          · cases h1
        | false =>
        simp only [compCode] at h1
        obtain ⟨x, h3, h4⟩ := Option.map_eq_some_iff.1 h1
        injection h4 with h4
        subst h4
        have htr := TR_of (ops := ops) 0 h3 (fun i hi => by simp only [Nat.zero_add, Array.length_toList] at hi ⊢; simp [hi])
        have e0 : ((List.range ops.toList.length).map (0 + ·)) = List.range ops.size := by simp
        rw [e0] at htr
        have := ih C a ops _ K' le htr h2 hF hR
        intro b cs hb hkd
        obtain ⟨e, a', w', ⟨rfl, hruns⟩, harr⟩ := wp_region (id := id) this b K' cs
        obtain ⟨e', w1, fr', q1, q2, q3, q4⟩ := hruns b cs hb hkd
        exact ⟨e', w1, fr', q1, .of_steps harr q2, q3, q4⟩
      · split at h1 <;> simp at h1
      · split at h1 <;> simp at h1
  | draw _ ih =>
    intro C a L le hk hF hR
    cases hk with
    | code h1 h2 =>
      rename_i c' K'
      cases c'
      all_goals try simp only [compCode] at h1
      all_goals try (simp at h1; done)
      · rename_i id ops draw
        cases draw with
        | false =>
          simp only [compCode] at h1
          obtain ⟨x, h3, h4⟩ := Option.map_eq_some_iff.1 h1
          cases h4
        | true =>
        simp only [compCode] at h1
        split at h1
        · rename_i l hl
          obtain ⟨ms, segs, e, hA, hS, hok⟩ := compDraw_spec hl h1
          injection e with e
          subst e
          have := ih C.drew a ops ms 0 K' (le.trans C.le_drew) hA hS hok h2 (hF.mono C.le_drew) hR.drew ops.size (Array.replicate ops.size false) ⟨by simp, fun i hi => by simp [hi]⟩
            (by have := List.countP_le_length (p := fun i => !(Array.replicate ops.size false).getD i true) (l := List.range ops.size); simpa [rem] using this)
          intro b cs hb hkd
          obtain ⟨e, a', w', ⟨rfl, hruns⟩, harr⟩ := wp_region_any (id := id) hm this b K' cs
          obtain ⟨e', w1, fr', q1, q2, q3, q4⟩ := hruns b cs hb hkd
          exact ⟨e', w1, fr', q1, .of_steps harr q2, q3, q4⟩
        · cases h1
      · split at h1 <;> simp at h1
      · split at h1 <;> simp at h1
  | segs _ ih =>
    intro C a ops ms p L le hA hS hok hk hF hR fuel listed hU hrem
    cases hS
    rename_i e
    subst e
    exact any_nil hA hU ⟨rfl, says_code ih le hk hF hR⟩ fuel
  | sop hw ha _ ih =>
    intro C a ops ms p L le hA hS hok hk hF hR fuel listed hU hrem
    cases hS with
    | cons ne h cut hr =>
      obtain ⟨o, h1, h2⟩ := h 0 (by simp)
      have hle := hr.le
      simp only [List.length_cons, List.length_nil] at hle
      refine any_one hA hU (by omega) cut hrem fun fuel' listed' hU' hrem' => ?_
      refine sound_op h1 h2 hw ha hF hR fun D a' q1 q2 q3 => ih D a' ops ms _ L (le.trans q2) hA hr (by simp only [segsOk, Bool.and_eq_true] at hok; exact hok.2) hk q3 q1 fuel' listed' hU' hrem'
  | sno hw _ ih =>
    intro C a ops ms p L le hA hS hok hk hF hR fuel listed hU hrem
    cases hS with
    | cons ne h cut hr =>
      obtain ⟨o, h1, h2⟩ := h 0 (by simp)
      have hle := hr.le
      simp only [List.length_cons, List.length_nil] at hle
      refine any_one hA hU (by omega) cut hrem fun fuel' listed' hU' hrem' => ?_
      refine sound_no h1 h2 hw hF fun a' q3 => ih C a' ops ms _ L le hA hr (by simp only [segsOk, Bool.and_eq_true] at hok; exact hok.2) hk q3 hR fuel' listed' hU' hrem'
  | scall Q hw hfo hargs hok' _ ih =>
    intro C a ops ms p L le hA hS hok hk hF hR fuel listed hU hrem
    cases hS with
    | cons ne h cut hr =>
      obtain ⟨o, h1, h2⟩ := h 0 (by simp)
      have hle := hr.le
      simp only [List.length_cons, List.length_nil] at hle
      refine any_one hA hU (by omega) cut hrem fun fuel' listed' hU' hrem' => ?_
      refine sound_call h1 h2 hw hfo hargs hok' hF hR fun D a' r σ' hQ q1 q2 q3 => ih r σ' hQ D a' ops ms _ L (le.trans q2) hA hr (by simp only [segsOk, Bool.and_eq_true] at hok; exact hok.2) hk q3 q1 fuel' listed' hU' hrem'
  | @quiet s1 s2 seg rest K fr F σ hq _ ih =>
    intro C a ops ms p L le hA hS hok hk hF hR fuel listed hU hrem
    cases hS with
    | cons ne h cut hr =>
      have hle := hr.le
      simp only [segsOk, Bool.and_eq_true] at hok
      obtain ⟨k1, k2⟩ := segOk_spec hok.1.1 (by simp)
      have hlate : LateOk (s1 :: s2 :: seg) := lateOk_of k1 fun k k' hk hk' t ht hd => by
        have := hA.lt _ _ (k2 k k' hk hk' t ht hd)
        omega
      obtain ⟨f1, f2⟩ := hq.facts hlate
      refine any_quiet (C0 := C0) hA hle h k2 cut f2 (fun D a' listed' fuel' q1 q2 q3 q4 q5 => ih D a' ops ms _ L q3 hA hr hok.2 hk q4 q5 fuel' listed' q1 q2) fuel listed C a hU.1
        (fun i hi => by rw [hU.2 i (by omega)]; simp [hi]) (fun i hi hlt => by rw [hU.2 i hlt]; simp; omega) (hU.closed hA (by omega)) hrem le hR hF.defers hF.size (fun t x hx hw => ?_)
      refine hF.slot t x ?_
      rw [← f1 t, hx]
      intro y hy hd
      obtain ⟨k, hk, rfl⟩ := List.mem_iff_getElem.1 hy
      have := hw k hk hd
      rw [hU.2 (p + k) (by omega)] at this
      simp at this
      omega
  | @qc seg rest K fr σ Z hqc _ ih =>
    intro C a ops ms p L le hA hS hok hk hF hR fuel listed hU hrem
    cases hS with
    | cons ne h cut hr =>
      have hle := hr.le
      simp only [segsOk, Bool.and_eq_true] at hok
      have hz : ∀ F τ, Z F τ → (∃ F0, Feq F0 F ∧ Z F0 τ) := fun F τ h => ⟨F, fun _ => rfl, h⟩
      have hkk : (∀ k k' (h : k < seg.length) (h' : k' < seg.length) d, k ≠ k' → seg[k].dst = some d → seg[k'].dst ≠ some d) ∧ ∀ k k' (h : k < seg.length) (h' : k' < seg.length) t, t ∈ seg[k].looks → seg[k'].dst = some t → (ms.getD (p + k) 0).testBit (p + k') = true ∨ seg.length = 1 := by
        by_cases h2 : 2 ≤ seg.length
        · obtain ⟨k1, k2⟩ := segOk_spec hok.1.1 h2
          exact ⟨k1, fun k k' h h' t ht hd => .inl (k2 k k' h h' t ht hd)⟩
        · have hp := List.length_pos_iff.2 ne
          exact ⟨fun k k' h h' d hne => by omega, fun k k' h h' t ht hd => .inr (by omega)⟩
      by_cases h1 : seg.length = 1
      · obtain ⟨x, rfl⟩ := List.length_eq_one_iff.1 h1
        obtain ⟨o, g1, g2⟩ := h 0 (by simp)
        simp only [List.length_cons, List.length_nil] at hle
        refine any_one hA hU (by omega) cut hrem fun fuel' listed' hU' hrem' => ?_
        have fin : ∀ {F τ}, Qc P Z [] F τ → Z F τ := fun hq => by cases hq; assumption
        obtain ⟨xd, xo, xg⟩ := x
        cases hqc.now with
        | op ao v e hw ha hn =>
          simp only at e
          subst e
          exact sound_op g1 g2 hw (ha σ) hF hR fun D a' q1 q2 q3 => ih _ _ (fin hn) D a' ops ms _ L (le.trans q2) hA hr hok.2 hk q3 q1 fuel' listed' hU' hrem'
        | no hw hn => exact sound_no g1 g2 hw hF fun a' q3 => ih _ _ (fin hn) C a' ops ms _ L le hA hr hok.2 hk q3 hR fuel' listed' hU' hrem'
        | call f args n pre cap vs Q' e hw hf hargs hok' hn =>
          simp only at e
          subst e
          exact sound_call g1 g2 hw hf hargs hok' hF hR fun D a' r σ' hQ q1 q2 q3 => ih _ _ (fin (hn r σ' hQ)) D a' ops ms _ L (le.trans q2) hA hr hok.2 hk q3 q1 fuel' listed' hU' hrem'
      · refine any_qc (C0 := C0) (Z := fun F τ => ∃ F0, Feq F0 F ∧ Z F0 τ) (fun F F' τ he ⟨F0, h0, hz⟩ => ⟨F0, fun t => (h0 t).trans (he t), hz⟩) hA hle ne h hkk.1 (fun k k' h h' t ht hd => (hkk.2 k k' h h' t ht hd).resolve_right h1) hok.1.2 cut
          (fun D a' F τ listed' fuel' hzz q1 q2 q3 q4 q5 => ?_) fuel listed C a fr σ hU.1 (fun i hi => by rw [hU.2 i (by omega)]; simp [hi]) (fun i hi hlt => by rw [hU.2 i hlt]; simp; omega) (hU.closed hA (by omega)) hrem le hR hF ?_
        · obtain ⟨F0, h0, hzz⟩ := hzz
          exact ih F0 τ hzz D a' ops ms _ L q3 hA hr hok.2 hk ⟨q4.defers, q4.size, fun t x hx => q4.slot t x (by rw [← h0 t]; exact hx)⟩ q5 fuel' listed' q1 q2
        · have hfull : left p seg listed = numbered p seg := by
            unfold left
            refine List.filter_eq_self.2 fun z hz => ?_
            obtain ⟨i, x⟩ := z
            obtain ⟨m, hm, rfl, rfl⟩ := mem_numbered.1 hz
            have := hU.2 (p + m) (by omega)
            simp [Array.getD_eq_getD_getElem?, this]
          have hsnd : ∀ {l : List AOper} {q : Nat}, (numbered q l).map (·.2) = l := by
            intro l
            induction l with
            | nil => intro q; rfl
            | cons x r ihl => intro q; simp [numbered, ihl]
          rw [hfull, hsnd]
          exact hqc.mono hz
  | nil _ ih =>
    intro C a ops is L le ht hk hF hR
    cases ht
    exact ⟨rfl, says_code ih le hk hF hR⟩
  | @op d ao g rest K fr σ v σ' hw ha _ ih =>
    intro C a ops is L le ht hk hF hR
    cases ht with
    | cons h1 h2 h3 =>
      rw [wpOps_cons]
      exact sound_op h1 h2 hw ha hF hR fun D a' q1 q2 q3 => ih D a' ops _ L (le.trans q2) h3 hk q3 q1
  | @nilq d neg x g rest K fr σ y hw hx hy _ ih =>
    intro C a ops is L le ht hk hF hR
    cases ht with
    | cons h1 h2 h3 =>
      rw [wpOps_cons]
      exact sound_nilq h1 h2 hw hx hy hF hR fun b a' q3 => ih b C a' ops _ L le h3 hk q3 hR
  | @no d o' g rest K fr σ hw _ ih =>
    intro C a ops is L le ht hk hF hR
    cases ht with
    | cons h1 h2 h3 =>
      rw [wpOps_cons]
      exact sound_no h1 h2 hw hF fun a' q3 => ih C a' ops _ L le h3 hk q3 hR
  | @call d fo args g rest K fr σ n pre cap vs Q hw hfo hargs hok _ ih =>
    intro C a ops is L le ht hk hF hR
    cases ht with
    | cons h1 h2 h3 =>
      rw [wpOps_cons]
      exact sound_call h1 h2 hw hfo hargs hok hF hR fun D a' r σ' hQ q1 q2 q3 => ih r σ' hQ D a' ops _ L (le.trans q2) h3 hk q3 q1
  | @old K fr σ _ ih =>
    have key : ∀ (C : Cx) (a : Act), FrR C nt fr a → Rl C σ → ∀ t x, look fr t = some x → ∀ y ∈ x.all, Old σ.next y := fun C a hF hR t x hx => (hF.slot t x hx).2.old hR.F
    cases K with
    | nil =>
      intro C a L le hk hF hR
      exact ih (key C a hF hR) hR.old C a L le hk hF hR
    | cons k K =>
      cases k with
      | ops l =>
        intro C a ops is L le ht hk hF hR
        exact ih (key C a hF hR) hR.old C a ops is L le ht hk hF hR
      | segs l =>
        intro C a ops ms p L le hA hS hok hk hF hR fuel listed hU hrem
        exact ih (key C a hF hR) hR.old C a ops ms p L le hA hS hok hk hF hR fuel listed hU hrem
      | _ =>
        intro C a L le hk hF hR
        exact ih (key C a hF hR) hR.old C a L le hk hF hR
  | @shift K fr σ fr' σ' hs _ ih =>
    have key : ∀ (C : Cx) (a : Act), C0.Le C → FrR C nt fr a → Rl C σ → ∃ D, D.w = C.w ∧ C0.Le D ∧ FrR D nt fr' a ∧ Rl D σ' := by
      intro C a le hF hR
      obtain ⟨D, h1, h3, h4⟩ := hs C a hF hR
      exact ⟨D, h1.w, h1.of le h0, h3, h4⟩
    cases K with
    | nil =>
      intro C a L le hk hF hR
      obtain ⟨D, h1, h2, h3, h4⟩ := key C a le hF hR
      rw [← h1]
      exact says_code ih h2 hk h3 h4
    | cons k K =>
      cases k with
      | ops l =>
        intro C a ops is L le ht hk hF hR
        obtain ⟨D, h1, h2, h3, h4⟩ := key C a le hF hR
        rw [← h1]
        exact ih D a ops is L h2 ht hk h3 h4
      | segs l =>
        intro C a ops ms p L le hA hS hok hk hF hR fuel listed hU hrem
        obtain ⟨D, h1, h2, h3, h4⟩ := key C a le hF hR
        rw [← h1]
        exact ih D a ops ms p L h2 hA hS hok hk h3 h4 fuel listed hU hrem
      | _ =>
        intro C a L le hk hF hR
        obtain ⟨D, h1, h2, h3, h4⟩ := key C a le hF hR
        rw [← h1]
        exact says_code ih h2 hk h3 h4

end Go.Proofs.Ytjlhfjpnnildhaa.Am
