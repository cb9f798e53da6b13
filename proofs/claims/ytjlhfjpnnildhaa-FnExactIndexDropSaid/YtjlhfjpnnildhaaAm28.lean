/- The abstract machine, part 28: trees that grow; several results. -/
import Derived.Test.YtjlhfjpnnildhaaAm26
set_option linter.unusedVariables false
set_option linter.unusedSimpArgs false
namespace Go.Proofs.Ytjlhfjpnnildhaa.Am
open Go.RowKit

/-- A store with blocks more, whose cells lead nowhere below. -/
def Gr (σ τ : Store) : Prop := ∃ l, τ = E σ l ∧ TidyL σ.next l
theorem Gr.start (σ : Store) : Gr σ (E σ []) := ⟨[], rfl, fun b hb => by simp at hb⟩
theorem Gr.next {σ τ : Store} (h : Gr σ τ) : σ.next ≤ τ.next := by
  obtain ⟨l, rfl, _⟩ := h
  simp [E_next]
theorem Gr.lt {σ τ : Store} (h : Gr σ τ) {a : Nat} (ha : a < σ.next) : τ.get a = σ.get a := by
  obtain ⟨l, rfl, _⟩ := h
  exact E_lt ha
theorem Gr.trans {σ τ ρ : Store} (h : Gr σ τ) (k : Gr τ ρ) : Gr σ ρ := by
  obtain ⟨l, rfl, h1⟩ := h
  obtain ⟨m, rfl, h2⟩ := k
  refine ⟨l ++ m, E_E, fun b hb e he x hx => ?_⟩
  rcases List.mem_append.1 hb with hb | hb
  · exact h1 b hb e he x hx
  · exact (h2 b hb e he x hx).mono (by simp [E_next])
theorem Gr.new {σ τ : Store} (h : Gr σ τ) {v : Nat} {es : List (List Ce)} (ht : ∀ e ∈ es, ∀ x ∈ e, Tidy σ.next x) : Gr σ (τ.new (v, es)) := by
  obtain ⟨l, rfl, h1⟩ := h
  refine ⟨l ++ [(v, es)], E_new, fun b hb e he x hx => ?_⟩
  rcases List.mem_append.1 hb with hb | hb
  · exact h1 b hb e he x hx
  · simp at hb
    subst hb
    exact ht e he x hx
theorem Gr.put {σ τ : Store} (h : Gr σ τ) {id v : Nat} {es : List (List Ce)} (h0 : σ.next ≤ id) (h1 : id < τ.next) (ht : ∀ e ∈ es, ∀ x ∈ e, Tidy σ.next x) : Gr σ (τ.put id (v, es)) := by
  obtain ⟨l, rfl, h2⟩ := h
  obtain ⟨k, rfl⟩ : ∃ k, id = σ.next + k := ⟨id - σ.next, by omega⟩
  rw [E_next] at h1
  refine ⟨l.set k (v, es), E_put (by omega), fun b hb e he x hx => ?_⟩
  rcases List.mem_or_eq_of_mem_set hb with hb | hb
  · exact h2 b hb e he x hx
  · subst hb
    exact ht e he x hx
theorem Gr.tidy {σ τ : Store} (h : Gr σ τ) {id : Nat} {y : Nat × List (List Ce)} (h0 : σ.next ≤ id) (hg : τ.get id = some y) : ∀ e ∈ y.2, ∀ x ∈ e, Tidy σ.next x := by
  obtain ⟨l, rfl, h2⟩ := h
  rw [E_ge (by omega)] at hg
  exact h2 y (List.mem_of_getElem? hg)
theorem Gr.getlt {σ τ : Store} (h : Gr σ τ) {id : Nat} {y : Nat × List (List Ce)} (h0 : σ.next ≤ id) (hg : τ.get id = some y) : id < τ.next := by
  obtain ⟨l, rfl, h2⟩ := h
  rw [E_ge (by omega)] at hg
  have := (List.getElem?_eq_some_iff.1 hg).1
  rw [E_next]
  omega

/-- A slice's tree whose block holds elements of size s. -/
structure Row (τ : Store) (S : Nat → Prop) (s : Nat) (ys : List (List Ce)) (x : Ce) : Prop where
  has : Has τ S (.fz ys) x
  sz : ∀ id v i n c w es, x = .sl id v i n c → τ.get id = some (w, es) → ∀ e ∈ es, e.length = s
theorem Row.mono {τ : Store} {S S' : Nat → Prop} {s : Nat} {ys : List (List Ce)} {x : Ce} (h : Row τ S s ys x) (hS : ∀ a, S a → S' a) : Row τ S' s ys x := ⟨h.has.mono hS, h.sz⟩
theorem Row.frame {τ τ' : Store} {S : Nat → Prop} {s : Nat} {ys : List (List Ce)} {x : Ce} (h : Row τ S s ys x) (hf : ∀ a, S a → τ'.get a = τ.get a) : Row τ' S s ys x := by
  refine ⟨h.has.frame hf, fun id v i n c w es hx hg => ?_⟩
  have hS : S id := by
    have := h.has
    subst hx
    cases this with
    | o ys id v s cs junk T hg hS => exact hS
  exact h.sz id v i n c w es hx (by rw [← hf id hS]; exact hg)
theorem Row.nils {τ : Store} {S : Nat → Prop} {s : Nat} : Row τ S s [] .nils := ⟨.nil, fun id v i n c w es hx => by cases hx⟩
theorem Has.one {τ : Store} {id v s : Nat} {S : Nat → Prop} (hg : τ.get id = some (v, [])) (hS : S id) : Has τ S (.fz []) (.sl id v 0 0 0) :=
  .o [] id v s [] [] (fun _ _ _ => False) hg hS rfl (fun i hi => by simp at hi) (fun e he => by simp at he) (fun e he => by simp at he) (fun _ _ _ h => h.elim) (fun _ _ _ _ _ h => h.elim) (fun i j hi => by simp at hi)
theorem Row.empty {τ : Store} {id v s : Nat} {S : Nat → Prop} (hg : τ.get id = some (v, [])) (hS : S id) : Row τ S s [] (.sl id v 0 0 0) :=
  ⟨.one (s := s) hg hS, fun id' v' i n c w es hx h => by cases hx; rw [hg] at h; cases h; intro e he; simp at he⟩

/-- One more element, with what it owns. -/
theorem Row.push {τ : Store} {S : Nat → Prop} {s bytes : Nat} {ys : List (List Ce)} {x : Ce} (h : Row τ S s ys x) (hS : ∀ a, S a → a < τ.next) {T : Nat → Prop} {e ye : List Ce} (he : HasL τ T ye e) (hT : ∀ a, T a → a < τ.next) (hd : ∀ a, S a → ¬ T a)
    (hes : ye.length = s) (hb : (ys.length + 1) * bytes ≤ 140737488355328) :
    ∃ x' τ', appA τ s bytes x [e] = some (x', τ') ∧ τ.next ≤ τ'.next ∧ (∀ a, a < τ.next → ¬ S a → τ'.get a = τ.get a) ∧ Row τ' (fun a => S a ∨ T a ∨ (τ.next ≤ a ∧ a < τ'.next)) s (ys ++ [ye]) x' ∧
      ∀ σ, Gr σ τ → (∀ a, S a → σ.next ≤ a) → (∀ z ∈ e, Tidy σ.next z) → Gr σ τ' := by
  obtain ⟨U, he1, he2, he3, he4⟩ := he
  have hel : e.length = s := by omega
  have hall1 : ∀ q ∈ [e], q.length = s := fun q hq => by simp at hq; subst hq; exact hel
  cases h.has with
  | c h' => cases h'
  | nil =>
    refine ⟨.sl τ.next 0 0 1 1, τ.new (0, [e]), ?_, Nat.le_succ _, fun a ha _ => ?_, ⟨?_, ?_⟩, fun σ hg _ ht => hg.new fun q hq => by simp at hq; subst hq; exact ht⟩
    · unfold appA
      rw [if_pos hall1]
      simp only [List.length_singleton]
      rw [if_pos (by simpa using hb)]
    · show (if a = τ.next then _ else _) = _
      rw [if_neg (by omega)]
    · have hgn : (τ.new (0, [e])).get τ.next = some (0, [e]) := if_pos rfl
      have hfr : ∀ a, T a → (τ.new (0, [e])).get a = τ.get a := fun a ha => if_neg (by have := hT a ha; omega)
      exact Has.o [ye] τ.next 0 s [e] [] (fun i j a => i = 0 ∧ U j a) hgn (.inr (.inr ⟨Nat.le_refl _, Nat.lt_succ_self _⟩)) rfl (fun i hi => by
          have : i = 0 := by simpa using hi
          subst this
          exact he1) (fun q hq => hall1 q (by simpa using hq)) (fun q hq => by simp at hq) (fun i j a ha => ⟨.inr (.inl (he2 j a ha.2)), by have := hT a (he2 j a ha.2); omega⟩) (fun i j i' j' a h1 h2 => ⟨h1.1.trans h2.1.symm, he3 j j' a h1.2 h2.2⟩)
        (fun i j hi hj => by
          have : i = 0 := by simpa using hi
          subst this
          exact ((he4 j hj (by simp at hj ⊢; omega)).frame fun a ha => hfr a (he2 j a ha)).mono fun a ha => ⟨rfl, ha⟩)
    · intro id v i n c w es hx hg
      cases hx
      have : (τ.new (0, [e])).get τ.next = some (0, [e]) := if_pos rfl
      rw [this] at hg
      cases hg
      exact hall1
  | o ys id v s' cs junk T0 hg hSid hl hsz hall hj hT0 hd0 hh =>
    have hall' : ∀ q ∈ cs ++ junk, q.length = s := h.sz _ _ _ _ _ _ _ rfl hg
    have hidl := hS id hSid
    -- the new tree, whatever spare room is left
    have tree : ∀ (v' : Nat) (junk' : List (List Ce)), (∀ q ∈ junk', q ∈ junk) → Row (τ.put id (v', cs ++ [e] ++ junk')) (fun a => S a ∨ T a ∨ (τ.next ≤ a ∧ a < (τ.put id (v', cs ++ [e] ++ junk')).next)) s (ys ++ [ye]) (.sl id v' 0 (ys ++ [ye]).length ((ys ++ [ye]).length + junk'.length)) := by
      intro v' junk' hjj
      have hgn : (τ.put id (v', cs ++ [e] ++ junk')).get id = some (v', cs ++ [e] ++ junk') := if_pos rfl
      have hne : ∀ a, a ≠ id → (τ.put id (v', cs ++ [e] ++ junk')).get a = τ.get a := fun a ha => if_neg ha
      have hall2 : ∀ q ∈ cs ++ [e] ++ junk', q.length = s := by
        intro q hq
        simp only [List.mem_append] at hq
        rcases hq with (hq | hq) | hq
        · exact hall' q (List.mem_append_left _ hq)
        · exact hall1 q hq
        · exact hall' q (List.mem_append_right _ (hjj q hq))
      refine ⟨Has.o (ys ++ [ye]) id v' s (cs ++ [e]) junk' (fun i j a => (i < ys.length ∧ T0 i j a) ∨ (i = ys.length ∧ U j a)) hgn (Or.inl hSid) (by simp [hl]) (fun i hi => ?_) hall2 (fun q hq => hj q (hjj q hq)) (fun i j a ha => ?_) (fun i j i' j' a h1 h2 => ?_) (fun i j hi hjy => ?_), fun id' v2 i n c w es hx hg' => ?_⟩
      · by_cases c : i < ys.length
        · rw [List.getElem_append_left (by omega), List.getElem_append_left c]; exact hsz i c
        · have hi2 : i = ys.length := by simp at hi; omega
          subst hi2
          rw [List.getElem_append_right (by omega), List.getElem_append_right (by omega)]
          simp [hl, he1]
      · rcases ha with ⟨_, ha⟩ | ⟨_, ha⟩
        · exact ⟨.inl (hT0 i j a ha).1, (hT0 i j a ha).2⟩
        · refine ⟨.inr (.inl (he2 j a ha)), fun e' => ?_⟩
          subst e'
          exact hd _ hSid (he2 j _ ha)
      · rcases h1 with ⟨c1, h1⟩ | ⟨c1, h1⟩ <;> rcases h2 with ⟨c2, h2⟩ | ⟨c2, h2⟩
        · exact hd0 _ _ _ _ a h1 h2
        · exact absurd (he2 _ _ h2) (hd a (hT0 _ _ a h1).1)
        · exact absurd (he2 _ _ h1) (hd a (hT0 _ _ a h2).1)
        · exact ⟨by omega, he3 _ _ a h1 h2⟩
      · by_cases c : i < ys.length
        · have e1 : (ys ++ [ye])[i] = ys[i] := List.getElem_append_left c
          have e2 : (cs ++ [e])[i]'(by simp; omega) = cs[i]'(by omega) := List.getElem_append_left (by omega)
          simp only [e1, e2]
          exact ((hh i j c (by rw [← e1]; exact hjy)).frame fun a ha => hne a (hT0 i j a ha).2).mono fun a ha => .inl ⟨c, ha⟩
        · have hi2 : i = ys.length := by simp at hi; omega
          subst hi2
          have e1 : (ys ++ [ye])[ys.length]'hi = ye := by rw [List.getElem_append_right (by omega)]; simp
          have e2 : (cs ++ [e])[ys.length]'(by simp; omega) = e := by rw [List.getElem_append_right (by omega)]; simp [hl]
          simp only [e1, e2]
          have hjy' : j < ye.length := by rw [← e1]; exact hjy
          exact ((he4 j hjy' (by omega)).frame fun a ha => hne a fun e' => by subst e'; exact hd _ hSid (he2 j _ ha)).mono fun a ha => .inr ⟨trivial, ha⟩
      · cases hx
        rw [hgn] at hg'
        cases hg'
        exact hall2
    have hfr : ∀ (v' : Nat) (es' : List (List Ce)) (a : Nat), a < τ.next → ¬ S a → (τ.put id (v', es')).get a = τ.get a := fun v' es' a _ ha => if_neg fun e => ha (by rw [e]; exact hSid)
    have hgr : ∀ (v' : Nat) (junk' : List (List Ce)), (∀ q ∈ junk', q ∈ junk) → ∀ σ, Gr σ τ → (∀ a, S a → σ.next ≤ a) → (∀ z ∈ e, Tidy σ.next z) → Gr σ (τ.put id (v', cs ++ [e] ++ junk')) := by
      intro v' junk' hjj σ hG hlo ht
      refine hG.put (hlo id hSid) hidl fun q hq => ?_
      have hold := hG.tidy (hlo id hSid) hg
      simp only [List.mem_append] at hq
      rcases hq with (hq | hq) | hq
      · exact hold q (List.mem_append_left _ hq)
      · simp at hq; subst hq; exact ht
      · exact hold q (List.mem_append_right _ (hjj q hq))
    by_cases c : 1 ≤ junk.length
    · refine ⟨.sl id v 0 (ys ++ [ye]).length ((ys ++ [ye]).length + (junk.drop 1).length), τ.put id (v, cs ++ [e] ++ junk.drop 1), ?_, Nat.le_refl _, hfr v (cs ++ [e] ++ junk.drop 1), ?_, hgr v (junk.drop 1) fun q hq => List.mem_of_mem_drop hq⟩
      · have e2 : splice (cs ++ junk) (0 + ys.length) [e] = cs ++ [e] ++ junk.drop 1 := by
          simp only [splice, Nat.zero_add, List.length_singleton]
          rw [← hl, List.take_left' rfl, List.drop_append]
          rw [List.drop_eq_nil_of_le (by omega), Nat.add_sub_cancel_left]
          simp
        unfold appA
        rw [if_pos hall1]
        simp only [hg]
        rw [if_pos ⟨trivial, by simp [hl], by omega, hall'⟩, if_pos (by simp; omega), e2]
        simp only [List.length_append, List.length_singleton, List.length_drop]
        rw [show ys.length + 1 + (junk.length - 1) = ys.length + junk.length by omega]
      · exact tree v (junk.drop 1) fun q hq => List.mem_of_mem_drop hq
    · refine ⟨.sl id (v + 1) 0 (ys ++ [ye]).length ((ys ++ [ye]).length + 0), τ.put id (v + 1, cs ++ [e] ++ []), ?_, Nat.le_refl _, hfr (v + 1) (cs ++ [e] ++ []), ?_, hgr (v + 1) [] fun q hq => by simp at hq⟩
      · unfold appA
        rw [if_pos hall1]
        simp only [hg]
        have e3 : (List.drop 0 (cs ++ junk)).take ys.length = cs := by rw [List.drop_zero, ← hl, List.take_left' rfl]
        rw [if_pos ⟨trivial, by simp [hl], by omega, hall'⟩, if_neg (by simp only [List.length_singleton]; omega), if_pos (by simpa using hb), e3]
        simp
      · exact tree (v + 1) [] fun q hq => by simp at hq

/-! ### Values of several cells -/
inductive HasV (τ : Store) : (Nat → Prop) → AV → AV → Prop where
  | c {S : Nat → Prop} {y x : Ce} (h : Has τ S y x) : HasV τ S (.c y) (.c x)
  | agg {S : Nat → Prop} {ys xs : List Ce} (h : HasL τ S ys xs) : HasV τ S (.agg ys) (.agg xs)
  | tup {S : Nat → Prop} {ys xs : List AV} (U : Nat → Nat → Prop) (hl : xs.length = ys.length) (hU : ∀ i a, U i a → S a) (hd : ∀ i i' a, U i a → U i' a → i = i') (h : ∀ i (hy : i < ys.length) (hx : i < xs.length), HasV τ (U i) ys[i] xs[i]) : HasV τ S (.tup ys) (.tup xs)
theorem HasV.frame {τ τ' : Store} {S : Nat → Prop} {y x : AV} (h : HasV τ S y x) : (∀ a, S a → τ'.get a = τ.get a) → HasV τ' S y x := by
  induction h with
  | c h => exact fun hf => .c (h.frame hf)
  | agg h => exact fun hf => .agg (h.frame hf)
  | tup U hl hU hd h ih => exact fun hf => .tup U hl hU hd fun i hy hx => ih i hy hx fun a ha => hf a (hU i a ha)
theorem HasV.mono' {τ : Store} {S S' : Nat → Prop} {y x : AV} (h : HasV τ S y x) (hS : ∀ a, S a → S' a) : HasV τ S' y x := by
  cases h with
  | c h => exact .c (h.mono hS)
  | agg h => exact .agg (h.mono hS)
  | tup U hl hU hd h => exact .tup U hl (fun i a ha => hS a (hU i a ha)) hd h
theorem HasL.frz {τ : Store} {S : Nat → Prop} {ys xs : List Ce} (h : HasL τ S ys xs) {n : Nat} (hn : ∀ a, S a → n ≤ a) : FrzV τ n (.agg xs) (.agg ys) := by
  obtain ⟨U, h1, h2, h3, h4⟩ := h
  exact .agg h1.symm fun i hi => (h4 i (by omega) hi).frz fun a ha => hn a (h2 i a ha)
theorem HasV.frz {τ : Store} {S : Nat → Prop} {y x : AV} (h : HasV τ S y x) : ∀ {n : Nat}, (∀ a, S a → n ≤ a) → FrzV τ n x y := by
  induction h with
  | c h => exact fun hn => .c (h.frz hn)
  | agg h => exact fun hn => h.frz hn
  | tup U hl hU hd h ih => exact fun hn => .tup hl.symm fun i hi => ih i (by omega) hi fun a ha => hn a (hU i a ha)
theorem HasV.tidy {τ : Store} {S : Nat → Prop} {y x : AV} (h : HasV τ S y x) {n : Nat} : (∀ a, S a → n ≤ a) → ∀ z ∈ x.all, Tidy n z := by
  induction h with
  | c h =>
    intro hn z hz
    simp [AV.all] at hz
    subst hz
    exact h.tidy hn
  | agg h =>
    intro hn z hz
    obtain ⟨U, h1, h2, h3, h4⟩ := h
    simp only [AV.all] at hz
    obtain ⟨j, hj, rfl⟩ := List.mem_iff_getElem.1 hz
    exact (h4 j (by omega) hj).tidy fun a ha => hn a (h2 j a ha)
  | tup U hl hU hd h ih =>
    intro hn z hz
    obtain ⟨i, hi, hz⟩ := mem_allL (by simpa only [AV.all] using hz)
    exact ih i (by omega) hi (fun a ha => hn a (hU i a ha)) z hz
theorem HasL.tidy {τ : Store} {S : Nat → Prop} {ys xs : List Ce} (h : HasL τ S ys xs) {n : Nat} (hn : ∀ a, S a → n ≤ a) : ∀ z ∈ xs, Tidy n z :=
  (HasV.agg h).tidy hn
theorem HasL.two {τ : Store} {S S' : Nat → Prop} {y x : Ce} {ys xs : List Ce} (h : Has τ S y x) (k : HasL τ S' ys xs) (hd : ∀ a, S a → ¬ S' a) : HasL τ (fun a => S a ∨ S' a) (y :: ys) (x :: xs) := by
  obtain ⟨U, h1, h2, h3, h4⟩ := k
  refine ⟨fun j a => (j = 0 ∧ S a) ∨ ∃ m, j = m + 1 ∧ U m a, by simp [h1], fun j a ha => ?_, fun j j' a h h' => ?_, fun j hy hx => ?_⟩
  · rcases ha with ⟨_, ha⟩ | ⟨m, _, ha⟩
    · exact .inl ha
    · exact .inr (h2 m a ha)
  · rcases h with ⟨c, h⟩ | ⟨m, c, h⟩ <;> rcases h' with ⟨c', h'⟩ | ⟨m', c', h'⟩
    · omega
    · exact absurd (h2 _ _ h') (hd a h)
    · exact absurd (h2 _ _ h) (hd a h')
    · have := h3 m m' a h h'
      omega
  · cases j with
    | zero => exact h.mono fun a ha => .inl ⟨rfl, ha⟩
    | succ j => exact (h4 j (by simpa using hy) (by simpa using hx)).mono fun a ha => .inr ⟨j, rfl, ha⟩
theorem HasL.nil {τ : Store} {S : Nat → Prop} : HasL τ S [] [] := ⟨fun _ _ => False, rfl, fun _ _ h => h.elim, fun _ _ _ h => h.elim, fun j hy => by simp at hy⟩
theorem HasV.pair {τ : Store} {S S1 S2 : Nat → Prop} {y1 x1 y2 x2 : AV} (h1 : HasV τ S1 y1 x1) (h2 : HasV τ S2 y2 x2) (s1 : ∀ a, S1 a → S a) (s2 : ∀ a, S2 a → S a) (hd : ∀ a, S1 a → ¬ S2 a) : HasV τ S (.tup [y1, y2]) (.tup [x1, x2]) := by
  refine .tup (fun i a => (i = 0 ∧ S1 a) ∨ (i = 1 ∧ S2 a)) rfl (fun i a ha => ?_) (fun i i' a h h' => ?_) (fun i hy hx => ?_)
  · rcases ha with ⟨_, ha⟩ | ⟨_, ha⟩
    · exact s1 a ha
    · exact s2 a ha
  · rcases h with ⟨c, h⟩ | ⟨c, h⟩ <;> rcases h' with ⟨c', h'⟩ | ⟨c', h'⟩
    · omega
    · exact absurd h' (hd a h)
    · exact absurd h (hd a h')
    · omega
  · match i, hy, hx with
    | 0, _, _ => exact h1.mono' fun a ha => .inl ⟨rfl, ha⟩
    | 1, _, _ => exact h2.mono' fun a ha => .inr ⟨rfl, ha⟩
/-- The call makes anew what reads as y. -/
def NewV (σ : Store) (y : AV) (r : AV) (τ : Store) : Prop := Gr σ τ ∧ HasV τ (fun a => σ.next ≤ a ∧ a < τ.next) y r
theorem New.v {σ τ : Store} {y : Ce} {r : AV} (h : New σ y r τ) : NewV σ (.c y) r τ := by
  obtain ⟨x, l, rfl, rfl, ht, hh⟩ := h
  exact ⟨⟨l, rfl, ht⟩, .c hh⟩
theorem NewV.n {σ τ : Store} {y : Ce} {r : AV} (h : NewV σ (.c y) r τ) : New σ y r τ := by
  obtain ⟨⟨l, rfl, ht⟩, hh⟩ := h
  cases hh with
  | c hh => exact ⟨_, l, rfl, rfl, ht, hh⟩
theorem NewL.v {σ τ : Store} {ys : List Ce} {r : AV} (h : NewL σ ys r τ) : NewV σ (.agg ys) r τ := by
  obtain ⟨x, l, rfl, rfl, ht, hh⟩ := h
  exact ⟨⟨l, rfl, ht⟩, .agg hh⟩
theorem NewV.l {σ τ : Store} {ys : List Ce} {r : AV} (h : NewV σ (.agg ys) r τ) : NewL σ ys r τ := by
  obtain ⟨⟨l, rfl, ht⟩, hh⟩ := h
  cases hh with
  | agg hh => exact ⟨_, l, rfl, rfl, ht, hh⟩
theorem NewV.pure {P : Program} {f : Nat} {args : List AV} {y : AV} (h : ∀ σ, Ok P f args σ (NewV σ y)) : Pure P f args y := by
  constructor
  intro σ
  refine .old' (h σ) fun hS ha => Ok.pure (h σ) y (fun id y hy => (hS id y hy).1) ?_
  rintro r σ1 ⟨hg, hh⟩
  exact ⟨fun id y hy => by rw [hg.lt (hS id y hy).1]; exact hy, hh.frz fun a ha => ha.1⟩
theorem E_inj {σ : Store} {l m : List (Nat × List (List Ce))} (h : E σ l = E σ m) : l = m := by
  refine List.ext_getElem? fun k => ?_
  have := congrArg (fun s => s.get (σ.next + k)) h
  simpa only [E_at] using this
theorem Ok.lentV {P : Program} {f : Nat} {args args' : List AV} {σ : Store} {y : AV} (h : ∀ σ, Ok P f args' σ (NewV σ y)) (hl : args'.length = args.length)
    (hf : ∀ i (hi : i < args.length), FrzV σ 0 args[i] (args'[i]'(by omega)) ∨ args[i] = args'[i]'(by omega)) : Ok P f args σ (NewV σ y) := by
  refine (Ok.lent (h (Store.none σ.next)) hl hf ?_).mono ?_
  · rintro r τ ⟨⟨l, rfl, ht⟩, hh⟩
    exact ⟨l, rfl, ht, hh.tidy fun a ha => ha.1⟩
  · rintro r σ' ⟨l, rfl, ⟨l', e, ht⟩, hh⟩
    obtain rfl := E_inj e
    refine ⟨⟨l, rfl, ht⟩, hh.frame fun a ha => ?_⟩
    have h1 : ¬ a < σ.next := by have := ha.1; exact Nat.not_lt.2 this
    rw [E_ge h1, E_ge (by exact h1)]
    rfl
/-- Arguments, some of them lent. -/
inductive Lend (σ : Store) : List AV → List AV → Prop where
  | nil : Lend σ [] []
  | own {x y : AV} {us bs : List AV} (h : FrzV σ 0 x y) (r : Lend σ us bs) : Lend σ (x :: us) (y :: bs)
  | same {a : AV} {us bs : List AV} (r : Lend σ us bs) : Lend σ (a :: us) (a :: bs)
theorem Lend.spec {σ : Store} {us bs : List AV} (h : Lend σ us bs) : ∃ hl : bs.length = us.length, ∀ i (hi : i < us.length), FrzV σ 0 us[i] (bs[i]'(by omega)) ∨ us[i] = bs[i]'(by omega) := by
  induction h with
  | nil => exact ⟨rfl, fun i hi => by simp at hi⟩
  | own h r ih =>
    obtain ⟨hl, hz⟩ := ih
    refine ⟨by simp [hl], fun i hi => ?_⟩
    cases i with
    | zero => exact .inl h
    | succ i => exact hz i (by simpa using hi)
  | same r ih =>
    obtain ⟨hl, hz⟩ := ih
    refine ⟨by simp [hl], fun i hi => ?_⟩
    cases i with
    | zero => exact .inr rfl
    | succ i => exact hz i (by simpa using hi)
theorem Lend.pure {P : Program} {σ : Store} {n : Nat} {args args' : List AV} {r : AV} (h : Lend σ args args') (hp : Pure P n args' r) (hs : Solid r) : Ok P n args σ (fun r' σ' => r' = r ∧ σ' = σ) :=
  let ⟨hl, hz⟩ := h.spec
  Ok.lend (hp.at_ _) hs hl hz
theorem Lend.new {P : Program} {σ : Store} {n : Nat} {args args' : List AV} {y : AV} (h : Lend σ args args') (hp : ∀ σ, Ok P n args' σ (NewV σ y)) : Ok P n args σ (NewV σ y) :=
  let ⟨hl, hz⟩ := h.spec
  Ok.lentV hp hl hz
theorem HasV.lend {τ : Store} {S : Nat → Prop} {y x : AV} (h : HasV τ S y x) : FrzV τ 0 x y := h.frz fun _ _ => Nat.zero_le _
section
variable {P : Program} {n0 nt : Nat} {rets : List RV} {R : AV → Store → Prop} {K : List AK} {fr : Fr} {σ : Store}
theorem Go.lcall {d : Option Nat} {f : Opd} {args : List Opd} {g : Option (Nat × Bool)} {rest : List AOper} {n : Nat} {pre cap : List Ce} {vs args' : List AV} {r : AV} (hw : wants fr g = some true) (hf : f.ev fr = some (.c (.fn n pre cap))) (ha : evs fr args = some vs)
    (hp : Pure P n args' r) (hs : Solid r) (hz : Lend σ (pre.map AV.c ++ vs ++ cap.map AV.c) args') (h : Go P n0 nt rets R (.ops rest :: K) (putA fr d r) σ) : Go P n0 nt rets R (.ops (⟨d, .call f args, g⟩ :: rest) :: K) fr σ :=
  .call _ hw hf ha (hz.pure hp hs) (by rintro r' σ' ⟨rfl, rfl⟩; exact h)
/-- A lent call in a part by itself. -/
theorem Go.slcall {d : Option Nat} {f : Opd} {args : List Opd} {g : Option (Nat × Bool)} {rest : List (List AOper)} {n : Nat} {pre cap : List Ce} {vs args' : List AV} {r : AV} (hw : wants fr g = some true) (hf : f.ev fr = some (.c (.fn n pre cap))) (ha : evs fr args = some vs)
    (hp : Pure P n args' r) (hs : Solid r) (hz : Lend σ (pre.map AV.c ++ vs ++ cap.map AV.c) args') (h : Go P n0 nt rets R (.segs rest :: K) (putA fr d r) σ) : Go P n0 nt rets R (.segs ([⟨d, .call f args, g⟩] :: rest) :: K) fr σ :=
  .scall _ hw hf ha (hz.pure hp hs) (by rintro r' σ' ⟨rfl, rfl⟩; exact h)
end
/-- The end, in words of the caller's store alone. -/
def Ends (σ : Store) (r2 : AV) (r : AV) (σ' : Store) : Prop := (∀ id, id < σ.next → σ'.get id = σ.get id) ∧ FrzV σ' σ.next r r2
theorem Pure.run2 {P : Program} (hm : P.follows .mixedOrders = true) {fz : List Nat} {f : Nat} {af : AFn} (h : compFn P fz f = some af) {args : List AV} {r2 : AV} (hn : args.length ≤ af.nt)
    (hg : ∀ σ, OldS σ → Go P σ.next af.nt af.rets (Ends σ r2) [.code af.body] (frOf 0 args) (E σ [])) : Pure P f args r2 := by
  constructor
  intro σ
  refine .old h fun hS ha => ?_
  refine Ok.pure (Ok.run hm h hn (fun hS _ => hg σ hS)) r2 (fun id y hy => (hS id y hy).1) ?_
  rintro r σ1 ⟨h1, h2⟩
  exact ⟨fun id y hy => by rw [h1 id (hS id y hy).1]; exact hy, h2⟩

/-! ### A slice that grows by elements that own something -/
structure Grow (σ τ : Store) (s : Nat) (ys : List (List Ce)) (x : Ce) : Prop where
  gr : Gr σ τ
  row : Row τ (fun a => σ.next ≤ a ∧ a < τ.next) s ys x
theorem Grow.nils {σ τ : Store} {s : Nat} (h : Gr σ τ) : Grow σ τ s [] .nils := ⟨h, .nils⟩
theorem Grow.empty {σ : Store} {s : Nat} : Grow σ (E σ [(0, [])]) s [] (.sl (σ.next + 0) 0 0 0 0) :=
  ⟨⟨[(0, [])], rfl, fun b hb e he => by simp at hb; subst hb; simp at he⟩, .empty (v := 0) (by rw [E_at]; rfl) ⟨Nat.le_add_right _ _, by simp [E_next]⟩⟩
theorem Grow.v {σ τ : Store} {s : Nat} {ys : List (List Ce)} {x : Ce} (h : Grow σ τ s ys x) : NewV σ (.c (.fz ys)) (.c x) τ := ⟨h.gr, .c h.row.has⟩
/-- .. while something else is made. -/
theorem Grow.later {σ τ ρ : Store} {s : Nat} {ys : List (List Ce)} {x : Ce} (h : Grow σ τ s ys x) (g : Gr τ ρ) : Gr σ ρ ∧ Row ρ (fun a => σ.next ≤ a ∧ a < τ.next) s ys x :=
  ⟨h.gr.trans g, h.row.frame fun a ha => g.lt ha.2⟩
section
variable {P : Program} {n0 nt : Nat} {rets : List RV} {R : AV → Store → Prop} {K : List AK} {fr : Fr} {σ : Store}
theorem Go.qd {s1 s2 : AOper} {seg : List AOper} {rest : List (List AOper)} (h : Qc P (fun F τ => Go P n0 nt rets R (.segs rest :: K) F τ) (s1 :: s2 :: seg) fr σ) : Go P n0 nt rets R (.segs ((s1 :: s2 :: seg) :: rest) :: K) fr σ := .qc _ h fun _ _ h => h
theorem Qc.pcall {Z : Fr → Store → Prop} {d : Option Nat} {f : Opd} {args : List Opd} {g : Option (Nat × Bool)} {rest : List AOper} {n : Nat} {pre cap : List Ce} {vs : List AV} {r : AV} (hw : wants fr g = some true) (hf : f.ev fr = some (.c (.fn n pre cap))) (ha : evs fr args = some vs)
    (hp : Pure P n (pre.map .c ++ vs ++ cap.map .c) r) (h : Qc P Z rest (putA fr d r) σ) : Qc P Z (⟨d, .call f args, g⟩ :: rest) fr σ :=
  .call _ hw hf ha (hp.at_ σ) (by rintro r' σ' ⟨rfl, rfl⟩; exact h)
theorem aop_grow {σ0 : Store} {n s bytes : Nat} {ys : List (List Ce)} {ye e : List Ce} {xc : Ce} {x y : Opd} (hx : x.ev fr = some (.c xc)) (hy : y.ev fr = some (.c (.fz [e]))) (hg : Gr σ0 σ) (hr : Row σ (fun a => σ0.next ≤ a ∧ a < n) s ys xc) (h0 : σ0.next ≤ n) (hn : n ≤ σ.next) (hch : HasL σ (fun a => n ≤ a ∧ a < σ.next) ye e)
    (hes : ye.length = s) (hb : (ys.length + 1) * bytes ≤ 140737488355328) : ∃ x' τ', aop (.app s bytes x y) fr σ = some (.c x', τ') ∧ Grow σ0 τ' s (ys ++ [ye]) x' := by
  obtain ⟨x', τ', h1, h2, h3, h4, h5⟩ := hr.push (fun a ha => by have := ha.2; omega) hch (fun a ha => ha.2) (fun a ha ha' => by have := ha.2; have := ha'.1; omega) hes hb
  refine ⟨x', τ', ?_, h5 σ0 hg (fun a ha => ha.1) (hch.tidy fun a ha => by have := ha.1; omega), h4.mono fun a ha => ?_⟩
  · simp only [aop, hx, hy, Store.els, Option.bind_some, h1, Option.map_some]
  · rcases ha with ha | ha | ha <;> have := ha.1 <;> have := ha.2 <;> constructor <;> omega
theorem Go.grow {σ0 : Store} {d : Option Nat} {g : Option (Nat × Bool)} {rest : List AOper} {n s bytes : Nat} {ys : List (List Ce)} {ye e : List Ce} {xc : Ce} {x y : Opd} (hw : wants fr g = some true) (hx : x.ev fr = some (.c xc)) (hy : y.ev fr = some (.c (.fz [e]))) (hg : Gr σ0 σ ∧ Row σ (fun a => σ0.next ≤ a ∧ a < n) s ys xc) (h0 : σ0.next ≤ n) (hn : n ≤ σ.next) (hch : HasL σ (fun a => n ≤ a ∧ a < σ.next) ye e)
    (hes : ye.length = s) (hb : (ys.length + 1) * bytes ≤ 140737488355328) (h : ∀ x' τ', Grow σ0 τ' s (ys ++ [ye]) x' → Go P n0 nt rets R (.ops rest :: K) (putA fr d (.c x')) τ') : Go P n0 nt rets R (.ops (⟨d, .op (.app s bytes x y), g⟩ :: rest) :: K) fr σ :=
  let ⟨_, _, h1, h2⟩ := aop_grow (bytes := bytes) hx hy hg.1 hg.2 h0 hn hch hes hb
  .op hw h1 (h _ _ h2)
theorem Go.sgrow {σ0 : Store} {d : Option Nat} {g : Option (Nat × Bool)} {rest : List (List AOper)} {n s bytes : Nat} {ys : List (List Ce)} {ye e : List Ce} {xc : Ce} {x y : Opd} (hw : wants fr g = some true) (hx : x.ev fr = some (.c xc)) (hy : y.ev fr = some (.c (.fz [e]))) (hg : Gr σ0 σ ∧ Row σ (fun a => σ0.next ≤ a ∧ a < n) s ys xc) (h0 : σ0.next ≤ n) (hn : n ≤ σ.next) (hch : HasL σ (fun a => n ≤ a ∧ a < σ.next) ye e)
    (hes : ye.length = s) (hb : (ys.length + 1) * bytes ≤ 140737488355328) (h : ∀ x' τ', Grow σ0 τ' s (ys ++ [ye]) x' → Go P n0 nt rets R (.segs rest :: K) (putA fr d (.c x')) τ') : Go P n0 nt rets R (.segs ([⟨d, .op (.app s bytes x y), g⟩] :: rest) :: K) fr σ :=
  let ⟨_, _, h1, h2⟩ := aop_grow (bytes := bytes) hx hy hg.1 hg.2 h0 hn hch hes hb
  .sop hw h1 (h _ _ h2)
end
end Go.Proofs.Ytjlhfjpnnildhaa.Am
