/- The abstract machine, part 4: each operation that reads, or only computes, is what the model's does. -/
import Derived.Test.YtjlhfjpnnildhaaAm3
set_option linter.unusedVariables false
set_option linter.unusedSimpArgs false
namespace Go.Proofs.Ytjlhfjpnnildhaa.Am
open Go.RowKit

def OpOk (P : Program) (C : Cx) (a : Act) (o : Oper) (x : AV) (σ' : Store) : Prop :=
  ∃ D v, Rl D σ' ∧ C.Le D ∧ RpV D x v ∧ ((execOp a.eval o).run P C.w = .ok (.value v) D.w ∨ (v = undef ∧ (execOp a.eval o).run P C.w = .ok .skip D.w))
theorem OpOk.pure {P : Program} {C : Cx} {a : Act} {o : Oper} {x : AV} {σ : Store} {v : Value} (hR : Rl C σ) (hx : RpV C x v) (h : (execOp a.eval o).run P C.w = .ok (.value v) C.w) : OpOk P C a o x σ :=
  ⟨C, v, hR, .refl C, hx, .inl h⟩

theorem ceOf_sound {C : Cx} {v : Value} {x : Ce} (h : ceOf v = some x) : Rp C x v := by
  unfold ceOf at h
  split at h <;> first
    | (injection h with h; subst h; constructor; done)
    | (injection h with h; subst h; rename_i s; exact Rp.str s.data.toList)
    | (injection h with h; subst h; exact .any _ (fun _ e => (by cases e)) (fun _ e => (by cases e)))
    | cases h
theorem cesOf_sound {C : Cx} : ∀ {vs : List Value} {xs : List Ce}, cesOf vs = some xs → vs.length = xs.length ∧ ∀ i (hi : i < xs.length) (hv : i < vs.length), Rp C xs[i] vs[i]
  | [], xs, h => by
    simp [cesOf] at h
    subst h
    exact ⟨rfl, fun i hi => absurd hi (by simp)⟩
  | v :: vs, xs, h => by
    simp only [cesOf, List.mapM_cons] at h
    cases h1 : ceOf v with
    | none => simp [h1] at h
    | some x =>
      cases h2 : List.mapM ceOf vs with
      | none => simp [h1, h2] at h
      | some ys =>
        simp [h1, h2] at h
        subst h
        obtain ⟨hl, hr⟩ := cesOf_sound (C := C) (vs := vs) (xs := ys) h2
        refine ⟨by simp [hl], fun i hi hv => ?_⟩
        cases i with
        | zero => exact ceOf_sound h1
        | succ i => exact hr i (by simpa using hi) (by simpa using hv)
theorem opd_sound {C : Cx} {nt : Nat} {fr : Fr} {a : Act} (hF : FrR C nt fr a) {x : Operand} {y : Opd} (h : opdOf x = some y) {v : AV} (hv : y.ev fr = some v) : RpV C v (a.eval x) := by
  unfold opdOf at h
  split at h
  · injection h with h
    subst h
    exact (hF.slot _ _ hv).2
  · rename_i cs
    obtain ⟨xs, hx, rfl⟩ := Option.map_eq_some_iff.1 h
    simp only [Opd.ev] at hv
    injection hv with hv
    subst hv
    obtain ⟨hl, hr⟩ := cesOf_sound (C := C) hx
    exact .agg (by simpa using hl) fun i hi => by
      have := hr i hi (by rw [hl]; exact hi)
      simpa using this
  · rename_i u _
    obtain ⟨c, hc, rfl⟩ := Option.map_eq_some_iff.1 h
    simp only [Opd.ev] at hv
    injection hv with hv
    subst hv
    exact .c (ceOf_sound hc)
  · injection h with h
    subst h
    simp only [Opd.ev] at hv
    injection hv with hv
    subst hv
    exact .c (.fn _ [] [] #[] #[] rfl rfl (fun i hi => absurd hi (by simp)) (fun i hi => absurd hi (by simp)))
  · cases h
theorem opd_c {C : Cx} {nt : Nat} {fr : Fr} {a : Act} (hF : FrR C nt fr a) {x : Operand} {y : Opd} (h : opdOf x = some y) {v : Ce} (hv : y.ev fr = some (.c v)) : Rp C v (a.eval x) := by
  have := opd_sound hF h hv
  cases this with
  | c h => exact h

theorem mapM_sound {α β : Type} {f : α → Option β} {R : α → β → Prop} (hf : ∀ x y, f x = some y → R x y) : ∀ {xs : List α} {ys : List β}, xs.mapM f = some ys → xs.length = ys.length ∧ ∀ i (hx : i < xs.length) (hy : i < ys.length), R xs[i] ys[i]
  | [], ys, h => by
    simp at h
    subst h
    exact ⟨rfl, fun i hi => absurd hi (by simp)⟩
  | x :: xs, ys, h => by
    simp only [List.mapM_cons] at h
    cases h1 : f x with
    | none => simp [h1] at h
    | some y =>
      cases h2 : List.mapM f xs with
      | none => simp [h1, h2] at h
      | some zs =>
        simp [h1, h2] at h
        subst h
        obtain ⟨hl, hr⟩ := mapM_sound hf h2
        refine ⟨by simp [hl], fun i hx hy => ?_⟩
        cases i with
        | zero => exact hf _ _ h1
        | succ i => exact hr i (by simpa using hx) (by simpa using hy)
theorem evs_sound {C : Cx} {nt : Nat} {fr : Fr} {a : Act} (hF : FrR C nt fr a) : ∀ {xs : List Operand} {ys : List Opd} {vs : List AV}, xs.mapM opdOf = some ys → evs fr ys = some vs → xs.length = vs.length ∧ ∀ i (hx : i < xs.length) (hv : i < vs.length), RpV C vs[i] (a.eval xs[i])
  | [], ys, vs, h, h2 => by
    simp at h
    subst h
    simp [evs] at h2
    subst h2
    exact ⟨rfl, fun i hi => absurd hi (by simp)⟩
  | x :: xs, ys, vs, h, h2 => by
    simp only [List.mapM_cons] at h
    cases h1 : opdOf x with
    | none => simp [h1] at h
    | some y =>
      cases h3 : List.mapM opdOf xs with
      | none => simp [h1, h3] at h
      | some zs =>
        simp [h1, h3] at h
        subst h
        simp only [evs] at h2
        split at h2
        · rename_i v vs' e1 e2
          injection h2 with h2
          subst h2
          obtain ⟨hl, hr⟩ := evs_sound hF h3 e2
          refine ⟨by simp [hl], fun i hx hv => ?_⟩
          cases i with
          | zero => exact opd_sound hF h1 e1
          | succ i => exact hr i (by simpa using hx) (by simpa using hv)
        · cases h2
theorem evc_sound {C : Cx} {nt : Nat} {fr : Fr} {a : Act} (hF : FrR C nt fr a) : ∀ {xs : List Operand} {ys : List Opd} {vs : List Ce}, xs.mapM opdOf = some ys → evc fr ys = some vs → xs.length = vs.length ∧ ∀ i (hx : i < xs.length) (hv : i < vs.length), Rp C vs[i] (a.eval xs[i])
  | [], ys, vs, h, h2 => by
    simp at h
    subst h
    simp [evc] at h2
    subst h2
    exact ⟨rfl, fun i hi => absurd hi (by simp)⟩
  | x :: xs, ys, vs, h, h2 => by
    simp only [List.mapM_cons] at h
    cases h1 : opdOf x with
    | none => simp [h1] at h
    | some y =>
      cases h3 : List.mapM opdOf xs with
      | none => simp [h1, h3] at h
      | some zs =>
        simp [h1, h3] at h
        subst h
        simp only [evc] at h2
        split at h2
        · rename_i v vs' e1 e2
          injection h2 with h2
          subst h2
          obtain ⟨hl, hr⟩ := evc_sound hF h3 e2
          refine ⟨by simp [hl], fun i hx hv => ?_⟩
          cases i with
          | zero => exact opd_c hF h1 e1
          | succ i => exact hr i (by simpa using hx) (by simpa using hv)
        · cases h2

theorem cells_sound {C : Cx} {x : AV} {v : Value} (h : RpV C x v) {cs : List Ce} (hc : x.cells = some cs) : v.cells.size = cs.length ∧ ∀ i (hi : i < cs.length) (hv : i < v.cells.size), Rp C cs[i] v.cells[i] := by
  cases h with
  | c h =>
    simp only [AV.cells] at hc
    injection hc with hc
    subst hc
    rename_i y
    have e := h.oneCells
    refine ⟨by rw [e]; rfl, fun i hi hv => ?_⟩
    have : i = 0 := by simp at hi; exact hi
    subst this
    simpa [e] using h
  | agg hl h =>
    simp only [AV.cells] at hc
    injection hc with hc
    subst hc
    exact ⟨hl, fun i hi hv => h i hi⟩
  | tup => simp [AV.cells] at hc
  | un => simp [AV.cells] at hc

theorem add_lit' (b o n : Nat) : (⟨b, o, none⟩ : Addr).add n = ⟨b, o + n, none⟩ := by unfold Addr.add; split <;> simp_all

/-- What lies behind a pointer. -/
theorem at_sound {C : Cx} {σ : Store} (hR : Rl C σ) {p : Ce} {v : Value} (hp : Rp C p v) {cs : List Ce} (h : σ.at_ p = some cs) :
    ∃ b o, v = .pointer (some ⟨b, o, none⟩) ∧ ∃ vs : Nat → Value, ∀ j (hj : j < cs.length), C.w.cell? ⟨b, o + j, none⟩ = some (vs j) ∧ Rp C cs[j] (vs j) := by
  cases hp with
  | fp cs' b o vs hl hM cell hh =>
    simp only [Store.at_] at h
    injection h with h
    subst h
    exact ⟨b, o, rfl, vs, fun j hj => ⟨cell j hj, hh j hj⟩⟩
  | ptr id v i j hF hv =>
    simp only [Store.at_] at h
    split at h
    · rename_i v' es hg
      split at h
      · rename_i e
        subst e
        obtain ⟨e, he, h2⟩ := Option.bind_eq_some_iff.1 h
        split at h2
        · rename_i hje
          injection h2 with h2
          subst h2
          obtain ⟨hi, rfl⟩ := List.getElem?_eq_some_iff.1 he
          have hne : es ≠ [] := by intro e; subst e; simp at hi
          obtain ⟨cc, t, hb, hz, hl, hc⟩ := hR.blk id _ es hg hne
          refine ⟨_, _, rfl, fun k => cc.getD ((C.μ id v').base + (i * (C.μ id v').s + (j + k))) undef, fun k hk => ?_⟩
          simp only [List.length_drop] at hk
          obtain ⟨u, h3, h4⟩ := hc i (j + k) hi (by omega)
          refine ⟨?_, ?_⟩
          · have : (C.μ id v').base + (i * (C.μ id v').s + j) + k = (C.μ id v').base + (i * (C.μ id v').s + (j + k)) := by omega
            rw [this]
            simp [World.cell?, hb, h3]
          · have : es[i][j + k]'(by omega) = (List.drop j es[i])[k]'(by simp; omega) := by simp
            rw [← this]
            simpa [h3] using h4
        · cases h2
      · cases h
    · cases h
  | _ => simp [Store.at_] at h

/-- A slice's elements, as they lie. -/
theorem els_sound {C : Cx} {σ : Store} (hR : Rl C σ) {y : Ce} {v : Value} (hy : Rp C y v) {ys : List (List Ce)} (h : σ.els y = some ys) :
    ∃ a cap, v = .slice a ys.length cap ∧ ys.length ≤ cap ∧ (ys = [] ∨ ∃ b o s, a = some ⟨b, o, none⟩ ∧ (∀ i (hi : i < ys.length), ys[i].length = s) ∧
      ∃ vs : Nat → Nat → Value, ∀ i j (hi : i < ys.length) (hj : j < ys[i].length), C.w.cell? ⟨b, o + (i * s + j), none⟩ = some (vs i j) ∧ Rp C ys[i][j] (vs i j)) := by
  cases hy with
  | nils => simp [Store.els] at h; subst h; exact ⟨none, 0, rfl, by simp, .inl rfl⟩
  | emp a => simp [Store.els] at h; subst h; exact ⟨a, 0, rfl, by simp, .inl rfl⟩
  | fz0 a cap => simp [Store.els] at h; subst h; exact ⟨a, cap, rfl, by simp, .inl rfl⟩
  | fz es b o cap s vs hl hM hc hs cell hh =>
    simp [Store.els] at h
    subst h
    exact ⟨_, cap, rfl, hc, .inr ⟨b, o, s, rfl, hs, vs, fun i j hi hj => ⟨cell i j hi (by rw [← hs i hi]; exact hj), hh i j hi hj⟩⟩⟩
  | sl0 id v i a hF =>
    simp only [Store.els] at h
    split at h
    · split at h
      · injection h with h
        simp at h
        subst h
        exact ⟨a, 0, rfl, by simp, .inl rfl⟩
      · cases h
    · cases h
  | sl id v i n c cap hF hn hc hv hk =>
    simp only [Store.els] at h
    split at h
    · rename_i v' es hg
      split at h
      · rename_i e
        obtain ⟨rfl, hle⟩ := e
        injection h with h
        have hlen : ys.length = n := by rw [← h]; simp; omega
        refine ⟨_, cap, by rw [hlen], by omega, ?_⟩
        by_cases hn0 : n = 0
        · left
          exact List.eq_nil_of_length_eq_zero (by omega)
        · right
          have hne : es ≠ [] := by intro e; subst e; simp at hle; omega
          obtain ⟨cc, t, hb, hz, hl, hcc⟩ := hR.blk id _ es hg hne
          have hyi : ∀ k (hk : k < ys.length), ys[k] = es[i + k]'(by omega) := by
            intro k hk
            subst h
            simp
          refine ⟨_, _, (C.μ id v').s, rfl, fun k hk => by rw [hyi k hk]; exact hl _ _, fun k j => cc.getD ((C.μ id v').base + ((i + k) * (C.μ id v').s + j)) undef, fun k j hk hj => ?_⟩
          have hj' : j < (es[i + k]'(by omega)).length := by rw [← hyi k hk]; exact hj
          obtain ⟨u, h3, h4⟩ := hcc (i + k) j (by omega) hj'
          refine ⟨?_, ?_⟩
          · have : (C.μ id v').base + i * (C.μ id v').s + (k * (C.μ id v').s + j) = (C.μ id v').base + ((i + k) * (C.μ id v').s + j) := by rw [Nat.add_mul]; omega
            rw [this]
            simp [World.cell?, hb, h3]
          · have : ys[k][j] = (es[i + k]'(by omega))[j] := by simp [hyi k hk]
            rw [this]
            simpa [h3] using h4
      · cases h
    · cases h
  | _ => simp [Store.els] at h

theorem run_sizeOf {P : Program} {t : TypeId} {s : Nat} (h : sizeIn P t = some s) (w : World) : (sizeOf t).run P w = .ok s w := by
  unfold sizeIn at h
  obtain ⟨i, hi, rfl⟩ := Option.map_eq_some_iff.1 h
  simp [sizeOf, typeInfo, hi]
theorem run_isAgg {P : Program} {t : TypeId} {g : Bool} (h : aggIn P t = some g) (w : World) : (isAgg t).run P w = .ok g w := by
  unfold aggIn at h
  split at h
  · rename_i hu; injection h with h; subst h; simp [isAgg, run_underlying hu]
  · rename_i hu; injection h with h; subst h; simp [isAgg, run_underlying hu]
  · rename_i d hd1 hd2 hu
    injection h with h
    subst h
    simp only [isAgg, Sem.run_bind, run_underlying hu, Result.andThen_ok]
    rfl
  · cases h
theorem run_zeroValue {P : Program} {t : TypeId} {z : List Ce} (h : zeroIn P t = some z) : ∃ v, (∀ w, (zeroValue t).run P w = .ok v w) ∧ cesOf v.cells.toList = some z := by
  unfold zeroIn at h
  obtain ⟨v, hv, hz⟩ := Option.bind_eq_some_iff.1 h
  obtain ⟨i, hi, hv'⟩ := Option.bind_eq_some_iff.1 hv
  exact ⟨v, fun w => by simp [zeroValue, typeInfo, hi, hv'], hz⟩

/-- Cells taken from where they lie, as one value. -/
theorem take_loaded {P : Program} {C : Cx} {t : TypeId} {g : Bool} {s : Nat} (hg : aggIn P t = some g) (hs : sizeIn P t = some s) {b o : Nat} {cs : List Ce} {vs : Nat → Value}
    (hc : ∀ j (hj : j < cs.length), C.w.cell? ⟨b, o + j, none⟩ = some (vs j) ∧ Rp C cs[j] (vs j)) {x : AV} (h : takeA g s cs = some x) :
    ∃ v, (loadVar t ⟨b, o, none⟩).run P C.w = .ok v C.w ∧ RpV C x v := by
  unfold takeA at h
  split at h
  · rename_i e
    subst e
    split at h
    · rename_i hle
      injection h with h
      subst h
      have hl := run_loadCells (P := P) C.w ⟨b, o, none⟩ s vs (fun j hj => by rw [add_lit']; exact (hc j (by omega)).1)
      refine ⟨.agg ((List.range s).map vs).toArray, by simp [loadVar, run_isAgg hg, run_sizeOf hs, hl], .agg (by simp; omega) fun i hi => ?_⟩
      simp only [List.length_take] at hi
      simpa using (hc i (by omega)).2
    · cases h
  · rename_i e
    have e' : g = false := by simpa using e
    subst e'
    split at h
    · rename_i y rest
      injection h with h
      subst h
      obtain ⟨h1, h2⟩ := hc 0 (by simp)
      refine ⟨vs 0, ?_, .c (by simpa using h2)⟩
      simp only [Nat.add_zero] at h1
      simp [loadVar, run_isAgg hg, h1]
    · cases h
/-- A part of a value that is held. -/
theorem take_part {P : Program} {C : Cx} {t : TypeId} {g : Bool} {s : Nat} (hg : aggIn P t = some g) (hs : sizeIn P t = some s) {off : Nat} {cs : List Ce} {vs : Array Value} (hl : vs.size = cs.length)
    (hc : ∀ i (hi : i < cs.length), Rp C cs[i] (vs[i]'(by omega))) (ho : off ≤ cs.length) {x : AV} (h : takeA g s (cs.drop off) = some x) (w : World) :
    ∃ v, (part t vs off).run P w = .ok v w ∧ RpV C x v := by
  unfold takeA at h
  split at h
  · rename_i e
    subst e
    split at h
    · rename_i hle
      simp only [List.length_drop] at hle
      injection h with h
      subst h
      refine ⟨.agg (vs.extract off (off + s)), by simp [part, run_isAgg hg, run_sizeOf hs], .agg (by simp; omega) fun i hi => ?_⟩
      simp only [List.length_take, List.length_drop] at hi
      have := hc (off + i) (by omega)
      simpa using this
    · cases h
  · rename_i e
    have e' : g = false := by simpa using e
    subst e'
    split at h
    · rename_i y rest hd
      injection h with h
      subst h
      have hlt : off < cs.length := by
        have := congrArg List.length hd
        simp at this
        omega
      have hy : cs[off] = y := by
        have h0 : (cs.drop off)[0]? = some y := by rw [hd]; rfl
        simp [hlt] at h0
        exact h0
      refine ⟨vs[off]'(by omega), by simp [part, run_isAgg hg, hl, hlt], .c ?_⟩
      rw [← hy]
      exact hc off hlt
    · cases h

end Go.Proofs.Ytjlhfjpnnildhaa.Am
