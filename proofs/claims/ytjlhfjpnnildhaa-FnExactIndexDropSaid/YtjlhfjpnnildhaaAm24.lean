/- The abstract machine, part 24: what is owned is lent to a function that makes something anew; trees as values that nobody writes. -/
import Derived.Test.YtjlhfjpnnildhaaAm23
set_option linter.unusedVariables false
set_option linter.unusedSimpArgs false
namespace Go.Proofs.Ytjlhfjpnnildhaa.Am
open Go.RowKit

theorem Tidy.move {C D : Cx} {n : Nat} {x : Ce} (h : Tidy n x) (hw : D.w = C.w) (hF : ∀ id v, n ≤ id → C.F id v → D.F id v ∧ D.μ id v = C.μ id v) {v : Value} (hx : Rp C x v) : Rp D x v := by
  cases h with
  | flat h => exact h.move hx
  | sl id v i m c h =>
    cases hx with
    | sl0 _ _ _ a hf => exact .sl0 _ _ _ _ (hF _ _ h hf).1
    | sl _ _ _ _ _ cap hf hn hc hv hk =>
      obtain ⟨h1, h2⟩ := hF _ _ h hf
      have := Rp.sl (C := D) id v i m c cap h1 hn hc (by rw [h2]; exact hv) (by rw [h2, hw]; exact hk)
      rw [h2] at this
      exact this
  | ptr id v i j h =>
    cases hx with
    | ptr _ _ _ _ hf hv =>
      obtain ⟨h1, h2⟩ := hF _ _ h hf
      have := Rp.ptr (C := D) id v i j h1 (by rw [h2]; exact hv)
      rw [h2] at this
      exact this
theorem tidyV_move {C D : Cx} {n : Nat} (hw : D.w = C.w) (hF : ∀ id v, n ≤ id → C.F id v → D.F id v ∧ D.μ id v = C.μ id v) {x : AV} {v : Value} (hx : RpV C x v) : (∀ y ∈ x.all, Tidy n y) → RpV D x v := by
  induction hx with
  | c h => exact fun ht => .c ((ht _ (by simp [AV.all])).move hw hF h)
  | agg hl h => exact fun ht => .agg hl fun i hi => (ht _ (by simp [AV.all])).move hw hF (h i hi)
  | @tup xs vs hl h ih =>
    refine fun ht => .tup hl fun i hi => ih i hi fun y hy => ht y ?_
    have : ∀ (vs : List AV) (i : Nat) (hi : i < vs.length), y ∈ vs[i].all → y ∈ AV.all.allL vs := by
      intro vs
      induction vs with
      | nil => intro i hi; simp at hi
      | cons v r ih =>
        intro i hi hy
        simp only [AV.all.allL, List.mem_append]
        cases i with
        | zero => exact .inl hy
        | succ i => exact .inr (ih i (by simpa using hi) hy)
    simp only [AV.all]
    exact this xs i hi hy
  | un v => exact fun _ => .un v

theorem Ok.lent {P : Program} {f : Nat} {args args' : List AV} {σ : Store} {Q : AV → Store → Prop} (h : Ok P f args' (Store.none σ.next) Q) (hl : args'.length = args.length)
    (hf : ∀ i (hi : i < args.length), FrzV σ 0 args[i] (args'[i]'(by omega)) ∨ args[i] = args'[i]'(by omega))
    (hq : ∀ r τ, Q r τ → ∃ l, τ = E (Store.none σ.next) l ∧ TidyL σ.next l ∧ ∀ y ∈ r.all, Tidy σ.next y) :
    Ok P f args σ (fun r σ' => ∃ l, σ' = E σ l ∧ Q r (E (Store.none σ.next) l)) := by
  refine ⟨h.1, fun C cargs hR ⟨hal, ha⟩ => ?_⟩
  let C' : Cx := ⟨C.μ, C.F, fun _ => False, C.w⟩
  have hR' : Rl C' (Store.none σ.next) := ⟨hR.F, fun id v es hg => by simp [Store.none] at hg, fun b => ⟨fun h => h.elim, fun ⟨id, v, es, hg, _⟩ => by simp [Store.none] at hg⟩, fun id v es id' v' es' hg => by simp [Store.none] at hg, fun id v es hg => by simp [Store.none] at hg⟩
  have hle : C.Le C' := ⟨fun _ _ h => ⟨h, rfl⟩, rfl, rfl, rfl, Nat.le_refl _, fun _ _ _ => rfl, fun b cs t h => ⟨cs, h, rfl⟩, fun _ _ h => h.elim⟩
  refine (h.2 C' cargs hR' ⟨by omega, fun i hi => ?_⟩).mono ?_
  · rcases hf i (by omega) with h | h
    · exact h.sound (D := C') hR rfl rfl (fun id v _ hlt => absurd hlt (by omega)) (fun b h => h.elim) (fun _ _ _ _ _ _ h => h) (ha i (by omega))
    · rw [← h]; exact (ha i (by omega)).mono hle
  · rintro e w' ⟨D', τ, r, v, rfl, rfl, hQ, hRD, hx, hle'⟩
    obtain ⟨l, rfl, ht, htr⟩ := hq r τ hQ
    let μ := fun id v => if id < σ.next then C.μ id v else D'.μ id v
    let F := fun id v => if id < σ.next then C.F id v else D'.F id v
    let D : Cx := ⟨μ, F, Mof μ (E σ l), D'.w⟩
    have newb : ∀ id v es, σ.next ≤ id → (E (Store.none σ.next) l).get id = some (v, es) → es ≠ [] → ¬ (D'.μ id v).b < C.w.heap.size := by
      intro id v es hn hg hne hlt
      exact hle'.M _ hlt ((hRD.M _).2 ⟨id, v, es, hg, hne, rfl⟩)
    have getn : ∀ id, σ.next ≤ id → (E σ l).get id = (E (Store.none σ.next) l).get id := by
      intro id hn
      rw [E_ge (by omega), E_ge (by show ¬ id < σ.next; omega)]
      rfl
    have oldb : ∀ id v es, σ.get id = some (v, es) → es ≠ [] → (C.μ id v).b < C.w.heap.size := by
      intro id v es hg hne
      obtain ⟨cs, t, hb, _⟩ := hR.blk id v es hg hne
      exact lt_of_block hb
    have hFo : ∀ id v, C.F id v → D.F id v ∧ D.μ id v = C.μ id v := by
      intro id v hf
      have := hR.F id v hf
      exact ⟨by show (if id < σ.next then C.F id v else D'.F id v); rw [if_pos this]; exact hf, if_pos this⟩
    have hFn : ∀ id v, σ.next ≤ id → D'.F id v → D.F id v ∧ D.μ id v = D'.μ id v := by
      intro id v hn hf
      exact ⟨by show (if id < σ.next then C.F id v else D'.F id v); rw [if_neg (Nat.not_lt.2 hn)]; exact hf, if_neg (Nat.not_lt.2 hn)⟩
    have hLe : C.Le D := by
      refine ⟨hFo, hle'.os, hle'.tape, hle'.output, hle'.size, fun b hb _ => hle'.keep b hb (fun h => h), hle'.shp, fun b hb hm => ?_⟩
      obtain ⟨id, v1, es, hg, hne, hbb⟩ := hm
      by_cases hn : id < σ.next
      · rw [E_lt hn] at hg
        have : μ id v1 = C.μ id v1 := if_pos hn
        rw [this] at hbb
        exact (hR.M b).2 ⟨id, v1, es, hg, hne, hbb⟩
      · rw [getn id (by omega)] at hg
        have : μ id v1 = D'.μ id v1 := if_neg hn
        rw [this] at hbb
        exact absurd hb (by rw [← hbb]; exact newb id v1 es (by omega) hg hne)
    refine ⟨D, E σ l, r, v, rfl, rfl, ⟨l, rfl, hQ⟩, ⟨fun id v hf => ?_, fun id v1 es hg => ?_, fun b => Iff.rfl, fun id v1 es id' v1' es' hg hne hg' hne' hbb => ?_, fun id v1 es hg hne => ?_⟩, tidyV_move (C := D') (D := D) rfl hFn hx htr, hLe⟩
    · simp only [D, F] at hf
      split at hf
      · rw [E_next]; omega
      · exact hRD.F id v hf
    · by_cases hn : id < σ.next
      · rw [E_lt hn] at hg
        obtain ⟨a1, a2, a3⟩ := hR.live id v1 es hg
        simp only [D, F, μ, if_pos hn]
        exact ⟨a1, a2, a3⟩
      · rw [getn id (by omega)] at hg
        obtain ⟨a1, a2, a3⟩ := hRD.live id v1 es hg
        simp only [D, F, μ, if_neg hn]
        exact ⟨a1, a2, a3⟩
    · simp only [D, μ] at hbb
      by_cases hn : id < σ.next
      · rw [E_lt hn] at hg
        rw [if_pos hn] at hbb
        by_cases hn' : id' < σ.next
        · rw [E_lt hn'] at hg'
          rw [if_pos hn'] at hbb
          exact hR.inj id v1 es id' v1' es' hg hne hg' hne' hbb
        · rw [getn id' (by omega)] at hg'
          rw [if_neg hn'] at hbb
          exact absurd (oldb id v1 es hg hne) (by rw [hbb]; exact newb id' v1' es' (by omega) hg' hne')
      · rw [getn id (by omega)] at hg
        rw [if_neg hn] at hbb
        by_cases hn' : id' < σ.next
        · rw [E_lt hn'] at hg'
          rw [if_pos hn'] at hbb
          exact absurd (oldb id' v1' es' hg' hne') (by rw [← hbb]; exact newb id v1 es (by omega) hg hne)
        · rw [getn id' (by omega)] at hg'
          rw [if_neg hn'] at hbb
          exact hRD.inj id v1 es id' v1' es' hg hne hg' hne' hbb
    · by_cases hn : id < σ.next
      · rw [E_lt hn] at hg
        have e : D.μ id v1 = C.μ id v1 := if_pos hn
        obtain ⟨cs, t, hb, hz, hs, hc⟩ := hR.blk id v1 es hg hne
        rw [e]
        refine ⟨cs, t, ?_, hz, hs, fun i j hi hj => ?_⟩
        · show D'.w.heap[_]? = _
          rw [hle'.keep _ (lt_of_block hb) (fun h => h)]
          exact hb
        · obtain ⟨u, h1, h2⟩ := hc i j hi hj
          exact ⟨u, h1, h2.mono hLe⟩
      · have hg2 := hg
        rw [getn id (by omega)] at hg
        have e : D.μ id v1 = D'.μ id v1 := if_neg hn
        obtain ⟨cs, t, hb, hz, hs, hc⟩ := hRD.blk id v1 es hg hne
        rw [e]
        refine ⟨cs, t, hb, hz, hs, fun i j hi hj => ?_⟩
        obtain ⟨u, h1, h2⟩ := hc i j hi hj
        refine ⟨u, h1, Tidy.move (n := σ.next) (C := D') (D := D) ?_ rfl hFn h2⟩
        rw [E_ge hn] at hg2
        exact ht _ (List.mem_of_getElem? hg2) _ (List.getElem_mem hi) _ (List.getElem_mem hj)

/-! ### Trees as values -/
theorem Ok.old' {P : Program} {f : Nat} {args : List AV} {σ : Store} {Q Q' : AV → Store → Prop} (h1 : Ok P f args σ Q') (hk : OldS σ → (∀ x ∈ args, ∀ y ∈ x.all, Old σ.next y) → Ok P f args σ Q) : Ok P f args σ Q := by
  refine ⟨h1.1, fun C cargs hR ha => ?_⟩
  obtain ⟨hl, hv⟩ := ha
  refine (hk hR.old fun x hx y hy => ?_).2 C cargs hR ⟨hl, hv⟩
  obtain ⟨i, hi, rfl⟩ := List.mem_iff_getElem.1 hx
  exact (hv i hi).old hR.F y hy
theorem New.pure {P : Program} {f : Nat} {args : List AV} {y : Ce} (h : ∀ σ, Ok P f args σ (New σ y)) : Pure P f args (.c y) := by
  constructor
  intro σ
  refine .old' (h σ) fun hS ha => Ok.pure (h σ) (.c y) (fun id y hy => (hS id y hy).1) ?_
  rintro r σ1 ⟨x, l, rfl, rfl, _, hh⟩
  exact ⟨fun id y hy => by rw [E_lt (hS id y hy).1]; exact hy, .c (hh.frz fun a ha => ha.1)⟩
theorem NewL.pure {P : Program} {f : Nat} {args : List AV} {ys : List Ce} (h : ∀ σ, Ok P f args σ (NewL σ ys)) : Pure P f args (.agg ys) := by
  constructor
  intro σ
  refine .old' (h σ) fun hS ha => Ok.pure (h σ) (.agg ys) (fun id y hy => (hS id y hy).1) ?_
  rintro r σ1 ⟨xs, l, rfl, rfl, _, U, h1, h2, h3, h4⟩
  exact ⟨fun id y hy => by rw [E_lt (hS id y hy).1]; exact hy, .agg h1.symm fun i hi => (h4 i (by omega) hi).frz fun a ha => (h2 i a ha).1⟩
theorem Ok.lentNew {P : Program} {f : Nat} {args args' : List AV} {σ : Store} {y : Ce} (h : ∀ σ, Ok P f args' σ (New σ y)) (hl : args'.length = args.length)
    (hf : ∀ i (hi : i < args.length), FrzV σ 0 args[i] (args'[i]'(by omega)) ∨ args[i] = args'[i]'(by omega)) : Ok P f args σ (New σ y) := by
  refine (Ok.lent (h (Store.none σ.next)) hl hf ?_).mono ?_
  · rintro r τ ⟨x, l, rfl, rfl, ht, hh⟩
    refine ⟨l, rfl, ht, fun z hz => ?_⟩
    simp [AV.all] at hz
    subst hz
    exact hh.tidy fun a ha => ha.1
  · rintro r σ' ⟨l, rfl, x, l', rfl, e, ht, hh⟩
    refine ⟨x, l, rfl, rfl, ?_, ?_⟩
    · have hll : l = l' := by
        have e1 : (E (Store.none σ.next) l).next = (E (Store.none σ.next) l').next := by rw [e]
        have e2 : ∀ k : Nat, l[k]? = l'[k]? := by
          intro k
          have := congrArg (fun s => s.get ((Store.none σ.next).next + k)) e
          simpa only [E_at] using this
        exact List.ext_getElem? e2
      subst hll
      exact ht
    · refine (hh.frame fun a ha => ?_).mono fun a ha => ha
      rw [E_ge (by have := ha.1; show ¬ a < σ.next; exact Nat.not_lt.2 this), E_ge (by have := ha.1; exact Nat.not_lt.2 this)]
      rfl

theorem Made.new {σ : Store} {s : Nat} {ys : List (List Ce)} (hy : ∀ e ∈ ys, e.length = s ∧ ∀ x ∈ e, Flat x) {r : AV} {σ' : Store} (h : Made σ s ys r σ') : New σ (.fz ys) r σ' := by
  obtain ⟨v, junk, hj, rfl, rfl⟩ := h
  have hall : ∀ e ∈ ys ++ junk, e.length = s ∧ ∀ x ∈ e, Flat x := by
    intro e he
    rcases List.mem_append.1 he with h | h
    · exact hy e h
    · exact hj e h
  refine ⟨_, _, rfl, rfl, ?_, ?_⟩
  · intro b hb e he x hx
    simp at hb
    subst hb
    exact .flat ((hall e he).2 x hx)
  · exact .o ys (σ.next + 0) v s ys junk (fun _ _ _ => False) (by rw [E_at]; rfl) (by simp [E_next]) rfl (fun i hi => rfl) (fun e he => (hall e he).1) (fun e he => (hj e he).2) (fun _ _ _ h => h.elim) (fun _ _ _ _ _ h => h.elim)
      fun i j hi hj => .c ((hy _ (List.getElem_mem hi)).2 _ (List.getElem_mem hj))
theorem Makes.new {P : Program} {f : Nat} {args : List AV} {s : Nat} {ys : List (List Ce)} (hy : ∀ e ∈ ys, e.length = s ∧ ∀ x ∈ e, Flat x) (h : Makes P f args s ys) (σ : Store) : Ok P f args σ (New σ (.fz ys)) :=
  (h.at_ σ).mono fun r σ' hq => hq.new hy

end Go.Proofs.Ytjlhfjpnnildhaa.Am
