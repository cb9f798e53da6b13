/- Joined texts: Am28, Am29, Am31, Am32, Am30, Am27. -/
import Derived.OpenShut
import Derived.Below
import Derived.Carry
import Derived.SizedLaws
import Derived.ChangeArms
import Derived.DataReads
import Derived.Test.YtdgnfdljkghpjaaGreatU1
import Derived.Test.YtdgnfdljkghpjaaGreatU2
/- The abstract machine, part 28: trees that grow; several results. -/
set_option linter.unusedVariables false
set_option linter.unusedSimpArgs false
namespace Go.Proofs.YtdgnfdljkghpjaaGreat.Am
open Go.RowKit

/-- A store with blocks more, whose cells lead nowhere below. -/
def Gr (σ τ : Store) : Prop := ∃ l, τ = E σ l ∧ TidyL σ.next l
theorem Gr.start (σ : Store) : Gr σ (E σ []) := ⟨[], rfl, fun b hb => by simp at hb⟩
theorem Gr.next {σ τ : Store} (h : Gr σ τ) : σ.next ≤ τ.next := by
  obtain ⟨l, rfl, _⟩ := h
  simp [E_next]
theorem Gr.lt {σ τ : Store} (h : Gr σ τ) {a : Nat} (ha : a < σ.next) : τ.get a = σ.get a := by
  obtain ⟨l, rfl, _⟩ := h
  exact E_lt ha
theorem Gr.trans {σ τ ρ : Store} (h : Gr σ τ) (k : Gr τ ρ) : Gr σ ρ := by
  obtain ⟨l, rfl, h1⟩ := h
  obtain ⟨m, rfl, h2⟩ := k
  refine ⟨l ++ m, E_E, fun b hb e he x hx => ?_⟩
  rcases List.mem_append.1 hb with hb | hb
  · exact h1 b hb e he x hx
  · exact (h2 b hb e he x hx).mono (by simp [E_next])
theorem Gr.new {σ τ : Store} (h : Gr σ τ) {v : Nat} {es : List (List Ce)} (ht : ∀ e ∈ es, ∀ x ∈ e, Tidy σ.next x) : Gr σ (τ.new (v, es)) := by
  obtain ⟨l, rfl, h1⟩ := h
  refine ⟨l ++ [(v, es)], E_new, fun b hb e he x hx => ?_⟩
  rcases List.mem_append.1 hb with hb | hb
  · exact h1 b hb e he x hx
  · simp at hb
    subst hb
    exact ht e he x hx
theorem Gr.put {σ τ : Store} (h : Gr σ τ) {id v : Nat} {es : List (List Ce)} (h0 : σ.next ≤ id) (h1 : id < τ.next) (ht : ∀ e ∈ es, ∀ x ∈ e, Tidy σ.next x) : Gr σ (τ.put id (v, es)) := by
  obtain ⟨l, rfl, h2⟩ := h
  obtain ⟨k, rfl⟩ : ∃ k, id = σ.next + k := ⟨id - σ.next, by omega⟩
  rw [E_next] at h1
  refine ⟨l.set k (v, es), E_put (by omega), fun b hb e he x hx => ?_⟩
  rcases List.mem_or_eq_of_mem_set hb with hb | hb
  · exact h2 b hb e he x hx
  · subst hb
    exact ht e he x hx
theorem Gr.tidy {σ τ : Store} (h : Gr σ τ) {id : Nat} {y : Nat × List (List Ce)} (h0 : σ.next ≤ id) (hg : τ.get id = some y) : ∀ e ∈ y.2, ∀ x ∈ e, Tidy σ.next x := by
  obtain ⟨l, rfl, h2⟩ := h
  rw [E_ge (by omega)] at hg
  exact h2 y (List.mem_of_getElem? hg)
/-- A slice's tree whose block holds elements of size s. -/
structure Row (τ : Store) (S : Nat → Prop) (s : Nat) (ys : List (List Ce)) (x : Ce) : Prop where
  has : Has τ S (.fz ys) x
  sz : ∀ id v i n c w es, x = .sl id v i n c → τ.get id = some (w, es) → ∀ e ∈ es, e.length = s
theorem Row.mono {τ : Store} {S S' : Nat → Prop} {s : Nat} {ys : List (List Ce)} {x : Ce} (h : Row τ S s ys x) (hS : ∀ a, S a → S' a) : Row τ S' s ys x := ⟨h.has.mono hS, h.sz⟩
theorem Row.frame {τ τ' : Store} {S : Nat → Prop} {s : Nat} {ys : List (List Ce)} {x : Ce} (h : Row τ S s ys x) (hf : ∀ a, S a → τ'.get a = τ.get a) : Row τ' S s ys x := by
  refine ⟨h.has.frame hf, fun id v i n c w es hx hg => ?_⟩
  have hS : S id := by
    have := h.has
    subst hx
    cases this with
    | o ys id v s cs junk T hg hS => exact hS
  exact h.sz id v i n c w es hx (by rw [← hf id hS]; exact hg)
theorem Row.nils {τ : Store} {S : Nat → Prop} {s : Nat} : Row τ S s [] .nils := ⟨.nil, fun id v i n c w es hx => by cases hx⟩
theorem Has.one {τ : Store} {id v s : Nat} {S : Nat → Prop} (hg : τ.get id = some (v, [])) (hS : S id) : Has τ S (.fz []) (.sl id v 0 0 0) :=
  .o [] id v s [] [] (fun _ _ _ => False) hg hS rfl (fun i hi => by simp at hi) (fun e he => by simp at he) (fun e he => by simp at he) (fun _ _ _ h => h.elim) (fun _ _ _ _ _ h => h.elim) (fun i j hi => by simp at hi)
theorem Row.empty {τ : Store} {id v s : Nat} {S : Nat → Prop} (hg : τ.get id = some (v, [])) (hS : S id) : Row τ S s [] (.sl id v 0 0 0) :=
  ⟨.one (s := s) hg hS, fun id' v' i n c w es hx h => by cases hx; rw [hg] at h; cases h; intro e he; simp at he⟩

/-- One more element, with what it owns. -/
theorem Row.push {τ : Store} {S : Nat → Prop} {s bytes : Nat} {ys : List (List Ce)} {x : Ce} (h : Row τ S s ys x) (hS : ∀ a, S a → a < τ.next) {T : Nat → Prop} {e ye : List Ce} (he : HasL τ T ye e) (hT : ∀ a, T a → a < τ.next) (hd : ∀ a, S a → ¬ T a)
    (hes : ye.length = s) (hb : (ys.length + 1) * bytes ≤ 140737488355328) :
    ∃ x' τ', appA τ s bytes x [e] = some (x', τ') ∧ τ.next ≤ τ'.next ∧ (∀ a, a < τ.next → ¬ S a → τ'.get a = τ.get a) ∧ Row τ' (fun a => S a ∨ T a ∨ (τ.next ≤ a ∧ a < τ'.next)) s (ys ++ [ye]) x' ∧
      ∀ σ, Gr σ τ → (∀ a, S a → σ.next ≤ a) → (∀ z ∈ e, Tidy σ.next z) → Gr σ τ' := by
  obtain ⟨U, he1, he2, he3, he4⟩ := he
  have hel : e.length = s := by omega
  have hall1 : ∀ q ∈ [e], q.length = s := fun q hq => by simp at hq; subst hq; exact hel
  cases h.has with
  | c h' => cases h'
  | nil =>
    refine ⟨.sl τ.next 0 0 1 1, τ.new (0, [e]), ?_, Nat.le_succ _, fun a ha _ => ?_, ⟨?_, ?_⟩, fun σ hg _ ht => hg.new fun q hq => by simp at hq; subst hq; exact ht⟩
    · unfold appA
      rw [if_pos hall1]
      simp only [List.length_singleton]
      rw [if_pos (by simpa using hb)]
    · show (if a = τ.next then _ else _) = _
      rw [if_neg (by omega)]
    · have hgn : (τ.new (0, [e])).get τ.next = some (0, [e]) := if_pos rfl
      have hfr : ∀ a, T a → (τ.new (0, [e])).get a = τ.get a := fun a ha => if_neg (by have := hT a ha; omega)
      exact Has.o [ye] τ.next 0 s [e] [] (fun i j a => i = 0 ∧ U j a) hgn (.inr (.inr ⟨Nat.le_refl _, Nat.lt_succ_self _⟩)) rfl (fun i hi => by
          have : i = 0 := by simpa using hi
          subst this
          exact he1) (fun q hq => hall1 q (by simpa using hq)) (fun q hq => by simp at hq) (fun i j a ha => ⟨.inr (.inl (he2 j a ha.2)), by have := hT a (he2 j a ha.2); omega⟩) (fun i j i' j' a h1 h2 => ⟨h1.1.trans h2.1.symm, he3 j j' a h1.2 h2.2⟩)
        (fun i j hi hj => by
          have : i = 0 := by simpa using hi
          subst this
          exact ((he4 j hj (by simp at hj ⊢; omega)).frame fun a ha => hfr a (he2 j a ha)).mono fun a ha => ⟨rfl, ha⟩)
    · intro id v i n c w es hx hg
      cases hx
      have : (τ.new (0, [e])).get τ.next = some (0, [e]) := if_pos rfl
      rw [this] at hg
      cases hg
      exact hall1
  | o ys id v s' cs junk T0 hg hSid hl hsz hall hj hT0 hd0 hh =>
    have hall' : ∀ q ∈ cs ++ junk, q.length = s := h.sz _ _ _ _ _ _ _ rfl hg
    have hidl := hS id hSid
    -- the new tree, whatever spare room is left
    have tree : ∀ (v' : Nat) (junk' : List (List Ce)), (∀ q ∈ junk', q ∈ junk) → Row (τ.put id (v', cs ++ [e] ++ junk')) (fun a => S a ∨ T a ∨ (τ.next ≤ a ∧ a < (τ.put id (v', cs ++ [e] ++ junk')).next)) s (ys ++ [ye]) (.sl id v' 0 (ys ++ [ye]).length ((ys ++ [ye]).length + junk'.length)) := by
      intro v' junk' hjj
      have hgn : (τ.put id (v', cs ++ [e] ++ junk')).get id = some (v', cs ++ [e] ++ junk') := if_pos rfl
      have hne : ∀ a, a ≠ id → (τ.put id (v', cs ++ [e] ++ junk')).get a = τ.get a := fun a ha => if_neg ha
      have hall2 : ∀ q ∈ cs ++ [e] ++ junk', q.length = s := by
        intro q hq
        simp only [List.mem_append] at hq
        rcases hq with (hq | hq) | hq
        · exact hall' q (List.mem_append_left _ hq)
        · exact hall1 q hq
        · exact hall' q (List.mem_append_right _ (hjj q hq))
      refine ⟨Has.o (ys ++ [ye]) id v' s (cs ++ [e]) junk' (fun i j a => (i < ys.length ∧ T0 i j a) ∨ (i = ys.length ∧ U j a)) hgn (Or.inl hSid) (by simp [hl]) (fun i hi => ?_) hall2 (fun q hq => hj q (hjj q hq)) (fun i j a ha => ?_) (fun i j i' j' a h1 h2 => ?_) (fun i j hi hjy => ?_), fun id' v2 i n c w es hx hg' => ?_⟩
      · by_cases c : i < ys.length
        · rw [List.getElem_append_left (by omega), List.getElem_append_left c]; exact hsz i c
        · have hi2 : i = ys.length := by simp at hi; omega
          subst hi2
          rw [List.getElem_append_right (by omega), List.getElem_append_right (by omega)]
          simp [hl, he1]
      · rcases ha with ⟨_, ha⟩ | ⟨_, ha⟩
        · exact ⟨.inl (hT0 i j a ha).1, (hT0 i j a ha).2⟩
        · refine ⟨.inr (.inl (he2 j a ha)), fun e' => ?_⟩
          subst e'
          exact hd _ hSid (he2 j _ ha)
      · rcases h1 with ⟨c1, h1⟩ | ⟨c1, h1⟩ <;> rcases h2 with ⟨c2, h2⟩ | ⟨c2, h2⟩
        · exact hd0 _ _ _ _ a h1 h2
        · exact absurd (he2 _ _ h2) (hd a (hT0 _ _ a h1).1)
        · exact absurd (he2 _ _ h1) (hd a (hT0 _ _ a h2).1)
        · exact ⟨by omega, he3 _ _ a h1 h2⟩
      · by_cases c : i < ys.length
        · have e1 : (ys ++ [ye])[i] = ys[i] := List.getElem_append_left c
          have e2 : (cs ++ [e])[i]'(by simp; omega) = cs[i]'(by omega) := List.getElem_append_left (by omega)
          simp only [e1, e2]
          exact ((hh i j c (by rw [← e1]; exact hjy)).frame fun a ha => hne a (hT0 i j a ha).2).mono fun a ha => .inl ⟨c, ha⟩
        · have hi2 : i = ys.length := by simp at hi; omega
          subst hi2
          have e1 : (ys ++ [ye])[ys.length]'hi = ye := by rw [List.getElem_append_right (by omega)]; simp
          have e2 : (cs ++ [e])[ys.length]'(by simp; omega) = e := by rw [List.getElem_append_right (by omega)]; simp [hl]
          simp only [e1, e2]
          have hjy' : j < ye.length := by rw [← e1]; exact hjy
          exact ((he4 j hjy' (by omega)).frame fun a ha => hne a fun e' => by subst e'; exact hd _ hSid (he2 j _ ha)).mono fun a ha => .inr ⟨trivial, ha⟩
      · cases hx
        rw [hgn] at hg'
        cases hg'
        exact hall2
    have hfr : ∀ (v' : Nat) (es' : List (List Ce)) (a : Nat), a < τ.next → ¬ S a → (τ.put id (v', es')).get a = τ.get a := fun v' es' a _ ha => if_neg fun e => ha (by rw [e]; exact hSid)
    have hgr : ∀ (v' : Nat) (junk' : List (List Ce)), (∀ q ∈ junk', q ∈ junk) → ∀ σ, Gr σ τ → (∀ a, S a → σ.next ≤ a) → (∀ z ∈ e, Tidy σ.next z) → Gr σ (τ.put id (v', cs ++ [e] ++ junk')) := by
      intro v' junk' hjj σ hG hlo ht
      refine hG.put (hlo id hSid) hidl fun q hq => ?_
      have hold := hG.tidy (hlo id hSid) hg
      simp only [List.mem_append] at hq
      rcases hq with (hq | hq) | hq
      · exact hold q (List.mem_append_left _ hq)
      · simp at hq; subst hq; exact ht
      · exact hold q (List.mem_append_right _ (hjj q hq))
    by_cases c : 1 ≤ junk.length
    · refine ⟨.sl id v 0 (ys ++ [ye]).length ((ys ++ [ye]).length + (junk.drop 1).length), τ.put id (v, cs ++ [e] ++ junk.drop 1), ?_, Nat.le_refl _, hfr v (cs ++ [e] ++ junk.drop 1), ?_, hgr v (junk.drop 1) fun q hq => List.mem_of_mem_drop hq⟩
      · have e2 : splice (cs ++ junk) (0 + ys.length) [e] = cs ++ [e] ++ junk.drop 1 := by
          simp only [splice, Nat.zero_add, List.length_singleton]
          rw [← hl, List.take_left' rfl, List.drop_append]
          rw [List.drop_eq_nil_of_le (by omega), Nat.add_sub_cancel_left]
          simp
        unfold appA
        rw [if_pos hall1]
        simp only [hg]
        rw [if_pos ⟨trivial, by simp [hl], by omega, hall'⟩, if_pos (by simp; omega), e2]
        simp only [List.length_append, List.length_singleton, List.length_drop]
        rw [show ys.length + 1 + (junk.length - 1) = ys.length + junk.length by omega]
      · exact tree v (junk.drop 1) fun q hq => List.mem_of_mem_drop hq
    · refine ⟨.sl id (v + 1) 0 (ys ++ [ye]).length ((ys ++ [ye]).length + 0), τ.put id (v + 1, cs ++ [e] ++ []), ?_, Nat.le_refl _, hfr (v + 1) (cs ++ [e] ++ []), ?_, hgr (v + 1) [] fun q hq => by simp at hq⟩
      · unfold appA
        rw [if_pos hall1]
        simp only [hg]
        have e3 : (List.drop 0 (cs ++ junk)).take ys.length = cs := by rw [List.drop_zero, ← hl, List.take_left' rfl]
        rw [if_pos ⟨trivial, by simp [hl], by omega, hall'⟩, if_neg (by simp only [List.length_singleton]; omega), if_pos (by simpa using hb), e3]
        simp
      · exact tree (v + 1) [] fun q hq => by simp at hq

/-! ### Values of several cells -/
inductive HasV (τ : Store) : (Nat → Prop) → AV → AV → Prop where
  | c {S : Nat → Prop} {y x : Ce} (h : Has τ S y x) : HasV τ S (.c y) (.c x)
  | agg {S : Nat → Prop} {ys xs : List Ce} (h : HasL τ S ys xs) : HasV τ S (.agg ys) (.agg xs)
  | tup {S : Nat → Prop} {ys xs : List AV} (U : Nat → Nat → Prop) (hl : xs.length = ys.length) (hU : ∀ i a, U i a → S a) (hd : ∀ i i' a, U i a → U i' a → i = i') (h : ∀ i (hy : i < ys.length) (hx : i < xs.length), HasV τ (U i) ys[i] xs[i]) : HasV τ S (.tup ys) (.tup xs)
theorem HasV.frame {τ τ' : Store} {S : Nat → Prop} {y x : AV} (h : HasV τ S y x) : (∀ a, S a → τ'.get a = τ.get a) → HasV τ' S y x := by
  induction h with
  | c h => exact fun hf => .c (h.frame hf)
  | agg h => exact fun hf => .agg (h.frame hf)
  | tup U hl hU hd h ih => exact fun hf => .tup U hl hU hd fun i hy hx => ih i hy hx fun a ha => hf a (hU i a ha)
theorem HasV.mono' {τ : Store} {S S' : Nat → Prop} {y x : AV} (h : HasV τ S y x) (hS : ∀ a, S a → S' a) : HasV τ S' y x := by
  cases h with
  | c h => exact .c (h.mono hS)
  | agg h => exact .agg (h.mono hS)
  | tup U hl hU hd h => exact .tup U hl (fun i a ha => hS a (hU i a ha)) hd h
theorem HasL.frz {τ : Store} {S : Nat → Prop} {ys xs : List Ce} (h : HasL τ S ys xs) {n : Nat} (hn : ∀ a, S a → n ≤ a) : FrzV τ n (.agg xs) (.agg ys) := by
  obtain ⟨U, h1, h2, h3, h4⟩ := h
  exact .agg h1.symm fun i hi => (h4 i (by omega) hi).frz fun a ha => hn a (h2 i a ha)
theorem HasV.frz {τ : Store} {S : Nat → Prop} {y x : AV} (h : HasV τ S y x) : ∀ {n : Nat}, (∀ a, S a → n ≤ a) → FrzV τ n x y := by
  induction h with
  | c h => exact fun hn => .c (h.frz hn)
  | agg h => exact fun hn => h.frz hn
  | tup U hl hU hd h ih => exact fun hn => .tup hl.symm fun i hi => ih i (by omega) hi fun a ha => hn a (hU i a ha)
theorem HasV.tidy {τ : Store} {S : Nat → Prop} {y x : AV} (h : HasV τ S y x) {n : Nat} : (∀ a, S a → n ≤ a) → ∀ z ∈ x.all, Tidy n z := by
  induction h with
  | c h =>
    intro hn z hz
    simp [AV.all] at hz
    subst hz
    exact h.tidy hn
  | agg h =>
    intro hn z hz
    obtain ⟨U, h1, h2, h3, h4⟩ := h
    simp only [AV.all] at hz
    obtain ⟨j, hj, rfl⟩ := List.mem_iff_getElem.1 hz
    exact (h4 j (by omega) hj).tidy fun a ha => hn a (h2 j a ha)
  | tup U hl hU hd h ih =>
    intro hn z hz
    obtain ⟨i, hi, hz⟩ := mem_allL (by simpa only [AV.all] using hz)
    exact ih i (by omega) hi (fun a ha => hn a (hU i a ha)) z hz
theorem HasL.tidy {τ : Store} {S : Nat → Prop} {ys xs : List Ce} (h : HasL τ S ys xs) {n : Nat} (hn : ∀ a, S a → n ≤ a) : ∀ z ∈ xs, Tidy n z :=
  (HasV.agg h).tidy hn
theorem HasL.two {τ : Store} {S S' : Nat → Prop} {y x : Ce} {ys xs : List Ce} (h : Has τ S y x) (k : HasL τ S' ys xs) (hd : ∀ a, S a → ¬ S' a) : HasL τ (fun a => S a ∨ S' a) (y :: ys) (x :: xs) := by
  obtain ⟨U, h1, h2, h3, h4⟩ := k
  refine ⟨fun j a => (j = 0 ∧ S a) ∨ ∃ m, j = m + 1 ∧ U m a, by simp [h1], fun j a ha => ?_, fun j j' a h h' => ?_, fun j hy hx => ?_⟩
  · rcases ha with ⟨_, ha⟩ | ⟨m, _, ha⟩
    · exact .inl ha
    · exact .inr (h2 m a ha)
  · rcases h with ⟨c, h⟩ | ⟨m, c, h⟩ <;> rcases h' with ⟨c', h'⟩ | ⟨m', c', h'⟩
    · omega
    · exact absurd (h2 _ _ h') (hd a h)
    · exact absurd (h2 _ _ h) (hd a h')
    · have := h3 m m' a h h'
      omega
  · cases j with
    | zero => exact h.mono fun a ha => .inl ⟨rfl, ha⟩
    | succ j => exact (h4 j (by simpa using hy) (by simpa using hx)).mono fun a ha => .inr ⟨j, rfl, ha⟩
theorem HasL.nil {τ : Store} {S : Nat → Prop} : HasL τ S [] [] := ⟨fun _ _ => False, rfl, fun _ _ h => h.elim, fun _ _ _ h => h.elim, fun j hy => by simp at hy⟩
theorem HasV.pair {τ : Store} {S S1 S2 : Nat → Prop} {y1 x1 y2 x2 : AV} (h1 : HasV τ S1 y1 x1) (h2 : HasV τ S2 y2 x2) (s1 : ∀ a, S1 a → S a) (s2 : ∀ a, S2 a → S a) (hd : ∀ a, S1 a → ¬ S2 a) : HasV τ S (.tup [y1, y2]) (.tup [x1, x2]) := by
  refine .tup (fun i a => (i = 0 ∧ S1 a) ∨ (i = 1 ∧ S2 a)) rfl (fun i a ha => ?_) (fun i i' a h h' => ?_) (fun i hy hx => ?_)
  · rcases ha with ⟨_, ha⟩ | ⟨_, ha⟩
    · exact s1 a ha
    · exact s2 a ha
  · rcases h with ⟨c, h⟩ | ⟨c, h⟩ <;> rcases h' with ⟨c', h'⟩ | ⟨c', h'⟩
    · omega
    · exact absurd h' (hd a h)
    · exact absurd h (hd a h')
    · omega
  · match i, hy, hx with
    | 0, _, _ => exact h1.mono' fun a ha => .inl ⟨rfl, ha⟩
    | 1, _, _ => exact h2.mono' fun a ha => .inr ⟨rfl, ha⟩
/-- The call makes anew what reads as y. -/
def NewV (σ : Store) (y : AV) (r : AV) (τ : Store) : Prop := Gr σ τ ∧ HasV τ (fun a => σ.next ≤ a ∧ a < τ.next) y r
theorem New.v {σ τ : Store} {y : Ce} {r : AV} (h : New σ y r τ) : NewV σ (.c y) r τ := by
  obtain ⟨x, l, rfl, rfl, ht, hh⟩ := h
  exact ⟨⟨l, rfl, ht⟩, .c hh⟩
theorem NewV.n {σ τ : Store} {y : Ce} {r : AV} (h : NewV σ (.c y) r τ) : New σ y r τ := by
  obtain ⟨⟨l, rfl, ht⟩, hh⟩ := h
  cases hh with
  | c hh => exact ⟨_, l, rfl, rfl, ht, hh⟩
theorem NewL.v {σ τ : Store} {ys : List Ce} {r : AV} (h : NewL σ ys r τ) : NewV σ (.agg ys) r τ := by
  obtain ⟨x, l, rfl, rfl, ht, hh⟩ := h
  exact ⟨⟨l, rfl, ht⟩, .agg hh⟩
theorem NewV.l {σ τ : Store} {ys : List Ce} {r : AV} (h : NewV σ (.agg ys) r τ) : NewL σ ys r τ := by
  obtain ⟨⟨l, rfl, ht⟩, hh⟩ := h
  cases hh with
  | agg hh => exact ⟨_, l, rfl, rfl, ht, hh⟩
theorem NewV.pure {P : Program} {f : Nat} {args : List AV} {y : AV} (h : ∀ σ, Ok P f args σ (NewV σ y)) : Pure P f args y := by
  constructor
  intro σ
  refine .old' (h σ) fun hS ha => Ok.pure (h σ) y (fun id y hy => (hS id y hy).1) ?_
  rintro r σ1 ⟨hg, hh⟩
  exact ⟨fun id y hy => by rw [hg.lt (hS id y hy).1]; exact hy, hh.frz fun a ha => ha.1⟩
theorem E_inj {σ : Store} {l m : List (Nat × List (List Ce))} (h : E σ l = E σ m) : l = m := by
  refine List.ext_getElem? fun k => ?_
  have := congrArg (fun s => s.get (σ.next + k)) h
  simpa only [E_at] using this
theorem Ok.lentV {P : Program} {f : Nat} {args args' : List AV} {σ : Store} {y : AV} (h : ∀ σ, Ok P f args' σ (NewV σ y)) (hl : args'.length = args.length)
    (hf : ∀ i (hi : i < args.length), FrzV σ 0 args[i] (args'[i]'(by omega)) ∨ args[i] = args'[i]'(by omega)) : Ok P f args σ (NewV σ y) := by
  refine (Ok.lent (h (Store.none σ.next)) hl hf ?_).mono ?_
  · rintro r τ ⟨⟨l, rfl, ht⟩, hh⟩
    exact ⟨l, rfl, ht, hh.tidy fun a ha => ha.1⟩
  · rintro r σ' ⟨l, rfl, ⟨l', e, ht⟩, hh⟩
    obtain rfl := E_inj e
    refine ⟨⟨l, rfl, ht⟩, hh.frame fun a ha => ?_⟩
    have h1 : ¬ a < σ.next := by have := ha.1; exact Nat.not_lt.2 this
    rw [E_ge h1, E_ge (by exact h1)]
    rfl
/-- Arguments, some of them lent. -/
inductive Lend (σ : Store) : List AV → List AV → Prop where
  | nil : Lend σ [] []
  | own {x y : AV} {us bs : List AV} (h : FrzV σ 0 x y) (r : Lend σ us bs) : Lend σ (x :: us) (y :: bs)
  | same {a : AV} {us bs : List AV} (r : Lend σ us bs) : Lend σ (a :: us) (a :: bs)
theorem Lend.spec {σ : Store} {us bs : List AV} (h : Lend σ us bs) : ∃ hl : bs.length = us.length, ∀ i (hi : i < us.length), FrzV σ 0 us[i] (bs[i]'(by omega)) ∨ us[i] = bs[i]'(by omega) := by
  induction h with
  | nil => exact ⟨rfl, fun i hi => by simp at hi⟩
  | own h r ih =>
    obtain ⟨hl, hz⟩ := ih
    refine ⟨by simp [hl], fun i hi => ?_⟩
    cases i with
    | zero => exact .inl h
    | succ i => exact hz i (by simpa using hi)
  | same r ih =>
    obtain ⟨hl, hz⟩ := ih
    refine ⟨by simp [hl], fun i hi => ?_⟩
    cases i with
    | zero => exact .inr rfl
    | succ i => exact hz i (by simpa using hi)
theorem Lend.pure {P : Program} {σ : Store} {n : Nat} {args args' : List AV} {r : AV} (h : Lend σ args args') (hp : Pure P n args' r) (hs : Solid r) : Ok P n args σ (fun r' σ' => r' = r ∧ σ' = σ) :=
  let ⟨hl, hz⟩ := h.spec
  Ok.lend (hp.at_ _) hs hl hz
theorem Lend.new {P : Program} {σ : Store} {n : Nat} {args args' : List AV} {y : AV} (h : Lend σ args args') (hp : ∀ σ, Ok P n args' σ (NewV σ y)) : Ok P n args σ (NewV σ y) :=
  let ⟨hl, hz⟩ := h.spec
  Ok.lentV hp hl hz
theorem HasV.lend {τ : Store} {S : Nat → Prop} {y x : AV} (h : HasV τ S y x) : FrzV τ 0 x y := h.frz fun _ _ => Nat.zero_le _
section
variable {P : Program} {n0 nt : Nat} {rets : List RV} {R : AV → Store → Prop} {K : List AK} {fr : Fr} {σ : Store}
theorem Go.lcall {d : Option Nat} {f : Opd} {args : List Opd} {g : Option (Nat × Bool)} {rest : List AOper} {n : Nat} {pre cap : List Ce} {vs args' : List AV} {r : AV} (hw : wants fr g = some true) (hf : f.ev fr = some (.c (.fn n pre cap))) (ha : evs fr args = some vs)
    (hp : Pure P n args' r) (hs : Solid r) (hz : Lend σ (pre.map AV.c ++ vs ++ cap.map AV.c) args') (h : Go P n0 nt rets R (.ops rest :: K) (putA fr d r) σ) : Go P n0 nt rets R (.ops (⟨d, .call f args, g⟩ :: rest) :: K) fr σ :=
  .call _ hw hf ha (hz.pure hp hs) (by rintro r' σ' ⟨rfl, rfl⟩; exact h)
/-- A lent call in a part by itself. -/
theorem Go.slcall {d : Option Nat} {f : Opd} {args : List Opd} {g : Option (Nat × Bool)} {rest : List (List AOper)} {n : Nat} {pre cap : List Ce} {vs args' : List AV} {r : AV} (hw : wants fr g = some true) (hf : f.ev fr = some (.c (.fn n pre cap))) (ha : evs fr args = some vs)
    (hp : Pure P n args' r) (hs : Solid r) (hz : Lend σ (pre.map AV.c ++ vs ++ cap.map AV.c) args') (h : Go P n0 nt rets R (.segs rest :: K) (putA fr d r) σ) : Go P n0 nt rets R (.segs ([⟨d, .call f args, g⟩] :: rest) :: K) fr σ :=
  .scall _ hw hf ha (hz.pure hp hs) (by rintro r' σ' ⟨rfl, rfl⟩; exact h)
end
/-- The end, in words of the caller's store alone. -/
def Ends (σ : Store) (r2 : AV) (r : AV) (σ' : Store) : Prop := (∀ id, id < σ.next → σ'.get id = σ.get id) ∧ FrzV σ' σ.next r r2
theorem Pure.run2 {P : Program} (hm : P.follows .mixedOrders = true) {fz : List Nat} {f : Nat} {af : AFn} (h : compFn P fz f = some af) {args : List AV} {r2 : AV} (hn : args.length ≤ af.nt)
    (hg : ∀ σ, OldS σ → Go P σ.next af.nt af.rets (Ends σ r2) [.code af.body] (frOf 0 args) (E σ [])) : Pure P f args r2 := by
  constructor
  intro σ
  refine .old h fun hS ha => ?_
  refine Ok.pure (Ok.run hm h hn (fun hS _ => hg σ hS)) r2 (fun id y hy => (hS id y hy).1) ?_
  rintro r σ1 ⟨h1, h2⟩
  exact ⟨fun id y hy => by rw [h1 id (hS id y hy).1]; exact hy, h2⟩

/-! ### A slice that grows by elements that own something -/
structure Grow (σ τ : Store) (s : Nat) (ys : List (List Ce)) (x : Ce) : Prop where
  gr : Gr σ τ
  row : Row τ (fun a => σ.next ≤ a ∧ a < τ.next) s ys x
theorem Grow.nils {σ τ : Store} {s : Nat} (h : Gr σ τ) : Grow σ τ s [] .nils := ⟨h, .nils⟩
theorem Grow.empty {σ : Store} {s : Nat} : Grow σ (E σ [(0, [])]) s [] (.sl (σ.next + 0) 0 0 0 0) :=
  ⟨⟨[(0, [])], rfl, fun b hb e he => by simp at hb; subst hb; simp at he⟩, .empty (v := 0) (by rw [E_at]; rfl) ⟨Nat.le_add_right _ _, by simp [E_next]⟩⟩
theorem Grow.v {σ τ : Store} {s : Nat} {ys : List (List Ce)} {x : Ce} (h : Grow σ τ s ys x) : NewV σ (.c (.fz ys)) (.c x) τ := ⟨h.gr, .c h.row.has⟩
/-- .. while something else is made. -/
theorem Grow.later {σ τ ρ : Store} {s : Nat} {ys : List (List Ce)} {x : Ce} (h : Grow σ τ s ys x) (g : Gr τ ρ) : Gr σ ρ ∧ Row ρ (fun a => σ.next ≤ a ∧ a < τ.next) s ys x :=
  ⟨h.gr.trans g, h.row.frame fun a ha => g.lt ha.2⟩
section
variable {P : Program} {n0 nt : Nat} {rets : List RV} {R : AV → Store → Prop} {K : List AK} {fr : Fr} {σ : Store}
theorem Qc.pcall {Z : Fr → Store → Prop} {d : Option Nat} {f : Opd} {args : List Opd} {g : Option (Nat × Bool)} {rest : List AOper} {n : Nat} {pre cap : List Ce} {vs : List AV} {r : AV} (hw : wants fr g = some true) (hf : f.ev fr = some (.c (.fn n pre cap))) (ha : evs fr args = some vs)
    (hp : Pure P n (pre.map .c ++ vs ++ cap.map .c) r) (h : Qc P Z rest (putA fr d r) σ) : Qc P Z (⟨d, .call f args, g⟩ :: rest) fr σ :=
  .call _ hw hf ha (hp.at_ σ) (by rintro r' σ' ⟨rfl, rfl⟩; exact h)
theorem aop_grow {σ0 : Store} {n s bytes : Nat} {ys : List (List Ce)} {ye e : List Ce} {xc : Ce} {x y : Opd} (hx : x.ev fr = some (.c xc)) (hy : y.ev fr = some (.c (.fz [e]))) (hg : Gr σ0 σ) (hr : Row σ (fun a => σ0.next ≤ a ∧ a < n) s ys xc) (h0 : σ0.next ≤ n) (hn : n ≤ σ.next) (hch : HasL σ (fun a => n ≤ a ∧ a < σ.next) ye e)
    (hes : ye.length = s) (hb : (ys.length + 1) * bytes ≤ 140737488355328) : ∃ x' τ', aop (.app s bytes x y) fr σ = some (.c x', τ') ∧ Grow σ0 τ' s (ys ++ [ye]) x' := by
  obtain ⟨x', τ', h1, h2, h3, h4, h5⟩ := hr.push (fun a ha => by have := ha.2; omega) hch (fun a ha => ha.2) (fun a ha ha' => by have := ha.2; have := ha'.1; omega) hes hb
  refine ⟨x', τ', ?_, h5 σ0 hg (fun a ha => ha.1) (hch.tidy fun a ha => by have := ha.1; omega), h4.mono fun a ha => ?_⟩
  · simp only [aop, hx, hy, Store.els, Option.bind_some, h1, Option.map_some]
  · rcases ha with ha | ha | ha <;> have := ha.1 <;> have := ha.2 <;> constructor <;> omega
theorem Go.grow {σ0 : Store} {d : Option Nat} {g : Option (Nat × Bool)} {rest : List AOper} {n s bytes : Nat} {ys : List (List Ce)} {ye e : List Ce} {xc : Ce} {x y : Opd} (hw : wants fr g = some true) (hx : x.ev fr = some (.c xc)) (hy : y.ev fr = some (.c (.fz [e]))) (hg : Gr σ0 σ ∧ Row σ (fun a => σ0.next ≤ a ∧ a < n) s ys xc) (h0 : σ0.next ≤ n) (hn : n ≤ σ.next) (hch : HasL σ (fun a => n ≤ a ∧ a < σ.next) ye e)
    (hes : ye.length = s) (hb : (ys.length + 1) * bytes ≤ 140737488355328) (h : ∀ x' τ', Grow σ0 τ' s (ys ++ [ye]) x' → Go P n0 nt rets R (.ops rest :: K) (putA fr d (.c x')) τ') : Go P n0 nt rets R (.ops (⟨d, .op (.app s bytes x y), g⟩ :: rest) :: K) fr σ :=
  let ⟨_, _, h1, h2⟩ := aop_grow (bytes := bytes) hx hy hg.1 hg.2 h0 hn hch hes hb
  .op hw h1 (h _ _ h2)
end
end Go.Proofs.YtdgnfdljkghpjaaGreat.Am

/- The abstract machine, part 29: slices.Clone, once for all types. -/
set_option linter.unusedVariables false
set_option linter.unusedSimpArgs false
namespace Go.Proofs.YtdgnfdljkghpjaaGreat.Am

/-! ### Freezing in the middle -/
/-- A frame some of whose values are known as frozen ones. -/
inductive FrzFr (τ : Store) (n : Nat) (fr : Fr) : Fr → Prop where
  | nil : FrzFr τ n fr []
  | frz {t : Nat} {y x : AV} {r : Fr} (hl : look fr t = some y) (h : FrzV τ n y x) (k : FrzFr τ n fr r) : FrzFr τ n fr ((t, x) :: r)
theorem FrzFr.at_ {τ : Store} {n : Nat} {fr fr' : Fr} (h : FrzFr τ n fr fr') : ∀ t x, look fr' t = some x → ∃ y, look fr t = some y ∧ FrzV τ n y x := by
  induction h with
  | nil => intro t x hx; simp [look] at hx
  | @frz t0 y x0 r hl hz k ih =>
    intro t x hx
    simp only [look] at hx
    split at hx
    · rename_i e
      subst e
      injection hx with hx
      subst hx
      exact ⟨y, hl, hz⟩
    · exact ih t x hx
/-! ### Slices of an owned slice -/
section
variable {fr : Fr} {σ : Store}
end

/-! ### slices.Delete, once for all types -/
end Go.Proofs.YtdgnfdljkghpjaaGreat.Am

/- Stacks: owned slices cut and lengthened, drawn segments that write. -/
set_option linter.unusedVariables false
set_option linter.unusedSimpArgs false
namespace Go.Proofs.YtdgnfdljkghpjaaGreat.Am

section
variable {fr : Fr} {σ : Store}
theorem Jk.drop {s : Nat} {ys junk : List (List Ce)} (h : ∀ e ∈ ys, e.length = s ∧ ∀ x ∈ e, Flat x) (hj : Jk s junk) (n : Nat) : Jk s (ys.drop n ++ junk) := fun e he =>
  (List.mem_append.1 he).elim (fun h1 => h e (List.mem_of_mem_drop h1)) (hj e)
/-- The last blocks are forgotten, or frozen. -/
theorem Go.freezeN {P : Program} {n0 nt : Nat} {rets : List RV} {R : AV → Store → Prop} {K : List AK} {fr fr' : Fr} {σ : Store} {l m : List (Nat × List (List Ce))} (hS : OldS σ) (hl : ∀ b ∈ l, ∀ e ∈ b.2, ∀ x ∈ e, Old (σ.next + l.length) x) (hn : n0 ≤ σ.next) (h : FrzFr (E σ (l ++ m)) (σ.next + l.length) fr fr') (hg : Go P n0 nt rets R K fr' (E σ l)) : Go P n0 nt rets R K fr (E σ (l ++ m)) := by
  refine .shift (Shift.frz (n := σ.next + l.length) h.at_ rfl (fun id y hy => ?_) (by omega)) hg
  by_cases hlt : id < σ.next
  · rw [E_lt hlt] at hy
    exact ⟨by rw [E_lt hlt]; exact hy, by omega, fun i j hi hj => ((hS id y hy).2 i j hi hj).mono (by omega)⟩
  · rw [E_ge hlt] at hy
    have hk : id - σ.next < l.length := by
      by_cases e : id - σ.next < l.length
      · exact e
      · rw [List.getElem?_eq_none (by omega)] at hy; cases hy
    exact ⟨by rw [E_ge hlt, List.getElem?_append_left hk]; exact hy, by omega, fun i j hi hj => hl y (List.mem_of_getElem? hy) _ (List.getElem_mem hi) _ (List.getElem_mem hj)⟩
theorem Qk.alloc {P : Program} {l m : List (Nat × List (List Ce))} {Z : Fr → Store → Prop} {d : Option Nat} {z : List Ce} {g : Option (Nat × Bool)} {rest : List AOper} (hw : wants fr g = some true) (h : Qk P (fun τ => ∃ m, τ = E σ (l ++ m)) Z rest (putA fr d (.c (.ptr (σ.next + (l ++ m).length) 0 0 0))) (E σ (l ++ (m ++ [(0, [z])])))) :
    Qk P (fun τ => ∃ m, τ = E σ (l ++ m)) Z (⟨d, .op (.alloc z), g⟩ :: rest) fr (E σ (l ++ m)) :=
  .wop rfl hw (by rw [aop_alloc, List.append_assoc]) ⟨_, rfl⟩ h
theorem Qk.lcall {P : Program} {l : List (Nat × List (List Ce))} {τ : Store} {Z : Fr → Store → Prop} {d : Option Nat} {f : Opd} {args : List Opd} {g : Option (Nat × Bool)} {rest : List AOper} {n : Nat} {pre cap : List Ce} {vs args' : List AV} {r : AV} (hw : wants fr g = some true) (hf : f.ev fr = some (.c (.fn n pre cap))) (ha : evs fr args = some vs)
    (hp : Pure P n args' r) (hs : Solid r) (hz : ∀ m, Lend (E σ (l ++ m)) (pre.map AV.c ++ vs ++ cap.map AV.c) args') (h : Qk P (fun τ => ∃ m, τ = E σ (l ++ m)) Z rest (putA fr d r) τ) : Qk P (fun τ => ∃ m, τ = E σ (l ++ m)) Z (⟨d, .call f args, g⟩ :: rest) fr τ :=
  .call hw hf ha (fun ρ ⟨m, hm⟩ => by subst hm; exact (hz m).pure hp hs) h
theorem Qk.pcall {P : Program} {I : Store → Prop} {τ : Store} {Z : Fr → Store → Prop} {d : Option Nat} {f : Opd} {args : List Opd} {g : Option (Nat × Bool)} {rest : List AOper} {n : Nat} {pre cap : List Ce} {vs : List AV} {r : AV} (hw : wants fr g = some true) (hf : f.ev fr = some (.c (.fn n pre cap))) (ha : evs fr args = some vs)
    (hp : Pure P n (pre.map .c ++ vs ++ cap.map .c) r) (h : Qk P I Z rest (putA fr d r) τ) : Qk P I Z (⟨d, .call f args, g⟩ :: rest) fr τ :=
  .call hw hf ha (fun ρ _ => hp.at_ ρ) h
theorem Qk.app {P : Program} {l L : List (Nat × List (List Ce))} {Z : Fr → Store → Prop} {d : Option Nat} {g : Option (Nat × Bool)} {rest : List AOper} {s bytes k v : Nat} {x y : Opd} {u : Ce} {ys junk zs : List (List Ce)} (hw : wants fr g = some true) (hx : x.ev fr = some (.c (vec (σ.next + k) v ys junk))) (hy : y.ev fr = some (.c u)) (hu : (E σ L).els u = some zs) (hl : L[k]? = some (v, ys ++ junk))
    (hys : ∀ e ∈ ys, e.length = s) (hj : Jk s junk) (hzs : ∀ e ∈ zs, e.length = s) (hb : (ys.length + zs.length) * bytes ≤ 140737488355328) (hI : ∀ z, ∃ m, L.set k z = l ++ m)
    (h : ∀ v' junk', Jk s junk' → Qk P (fun τ => ∃ m, τ = E σ (l ++ m)) Z rest (putA fr d (.c (vec (σ.next + k) v' (ys ++ zs) junk'))) (E σ (L.set k (v', ys ++ zs ++ junk')))) :
    Qk P (fun τ => ∃ m, τ = E σ (l ++ m)) Z (⟨d, .op (.app s bytes x y), g⟩ :: rest) fr (E σ L) := by
  obtain ⟨v', junk', hj', ha⟩ := aop_app (s := s) (bytes := bytes) hx hy hu hl hys hj hzs hb
  obtain ⟨m, hm⟩ := hI (v', ys ++ zs ++ junk')
  exact .wop rfl hw ha ⟨m, by rw [hm]⟩ (h v' junk' hj')
end
end Go.Proofs.YtdgnfdljkghpjaaGreat.Am

/- The abstract machine, part 32: ends told by existence; a reader's memory. -/
set_option linter.unusedVariables false
set_option linter.unusedSimpArgs false
namespace Go.Proofs.YtdgnfdljkghpjaaGreat.Am

/-- What a call leaves may be said otherwise, result by result. -/
theorem Ok.endsX {P : Program} {f : Nat} {args : List AV} {σ : Store} {Q Z : AV → Store → Prop} (h : Ok P f args σ Q)
    (hq : ∀ r σ1, Q r σ1 → ∃ r2 σ2, Z r2 σ2 ∧ σ2.next = σ.next ∧ (∀ id y, σ2.get id = some y → σ1.get id = some y ∧ id < σ.next ∧ (σ.get id = some y ∨ ∀ i j (hi : i < y.2.length) (hj : j < y.2[i].length), Old σ.next y.2[i][j])) ∧ FrzV σ1 σ.next r r2) :
    Ok P f args σ Z := by
  refine ⟨h.1, fun C cargs hR ha => (h.2 C cargs hR ha).mono ?_⟩
  rintro e w' ⟨D, σ1, r, v, rfl, rfl, hQ, hRD, hx, hle⟩
  obtain ⟨r2, σ2, hZ, hnext, hsub, hfrz⟩ := hq r σ1 hQ
  let D2 : Cx := ⟨D.μ, fun id v => D.F id v ∧ id < σ.next, Mof D.μ σ2, D.w⟩
  have hMsub : ∀ b, D2.M b → D.M b := by
    rintro b ⟨id, v', es, hg, hne, rfl⟩
    exact (hRD.M _).2 ⟨id, v', es, (hsub id _ hg).1, hne, rfl⟩
  have hcut : ∀ {x : Ce} {u : Value}, Rp D x u → Old σ.next x → Rp D2 x u := fun hx ho => Rp.cut (C := D) (D := D2) rfl rfl (fun id v hf hlt => ⟨hf, hlt⟩) hMsub hx ho
  have hRl : Rl D2 σ2 := by
    refine ⟨fun id v hf => by rw [hnext]; exact hf.2, fun id v' es hg => ?_, fun b => Iff.rfl, fun id v es id' v' es' h1 n1 h2 n2 hb => ?_, fun id v' es hg hne => ?_⟩
    · obtain ⟨g1, g2, _⟩ := hsub id _ hg
      obtain ⟨a1, a2, a3⟩ := hRD.live id v' es g1
      exact ⟨⟨a1, g2⟩, fun v1 hv1 => a2 v1 hv1.1, a3⟩
    · exact hRD.inj id v es id' v' es' (hsub id _ h1).1 n1 (hsub id' _ h2).1 n2 hb
    · obtain ⟨g1, g2, g3⟩ := hsub id _ hg
      obtain ⟨cs, t, hb, hz, hl, hc⟩ := hRD.blk id v' es g1 hne
      refine ⟨cs, t, hb, hz, hl, fun i j hi hj => ?_⟩
      obtain ⟨u, h1, h2⟩ := hc i j hi hj
      refine ⟨u, h1, hcut h2 ?_⟩
      rcases g3 with g3 | g3
      · obtain ⟨cs0, t0, hb0, hz0, hl0, hc0⟩ := hR.blk id v' es g3 hne
        obtain ⟨u0, _, k2⟩ := hc0 i j hi hj
        exact k2.old hR.F
      · exact g3 i j hi hj
  refine ⟨D2, σ2, r2, v, rfl, rfl, hZ, hRl, ?_, ?_⟩
  · refine hfrz.sound (D := D2) hRD rfl rfl (fun id v hf hlt => ⟨hf, hlt⟩) hMsub (fun id v' es hn hg hne hm => ?_) hx
    obtain ⟨id2, v2, es2, hg2, hne2, hb⟩ := hm
    have g := hsub id2 _ hg2
    have := hRD.inj id v' es id2 v2 es2 hg hne g.1 hne2 hb.symm
    omega
  · refine ⟨fun id v hf => ⟨⟨(hle.F id v hf).1, hR.F id v hf⟩, (hle.F id v hf).2⟩, hle.os, hle.tape, hle.output, hle.size, hle.keep, hle.shp, fun b hb hm => hle.M b hb (hMsub b hm)⟩

/-! ### A reader: a text of bytes and a place in it -/
def encB (b : UInt8) : List Ce := [.int .u8 (b.toNat : Int)]
/-- The cells of a reader. -/
def rdB (code : List UInt8) (p : Nat) : List (List Ce) := [[.fz (code.map encB), .int .i64 (p : Int)]]
def Rd (σ : Store) (id v : Nat) (code : List UInt8) (p : Nat) : Prop := σ.get id = some (v, rdB code p) ∧ id < σ.next ∧ p ≤ code.length ∧ code.length ≤ 1048576
def Rd.go (σ : Store) (id v : Nat) (code : List UInt8) (q : Nat) : Store := σ.put id (v, rdB code q)
theorem Rd.at_ {σ : Store} {id v : Nat} {code : List UInt8} {p q : Nat} (h : Rd σ id v code p) (hq : q ≤ code.length) : Rd (Rd.go σ id v code q) id v code q := ⟨if_pos rfl, h.2.1, hq, h.2.2.2⟩
theorem Rd.go_go {σ : Store} {id v : Nat} {code : List UInt8} {p q : Nat} : Rd.go (Rd.go σ id v code p) id v code q = Rd.go σ id v code q := by
  simp only [Rd.go, Store.put, Store.mk.injEq, true_and]
  funext a
  split <;> rfl
theorem Rd.same {σ : Store} {id v : Nat} {code : List UInt8} {p : Nat} (h : Rd σ id v code p) : Rd.go σ id v code p = σ := by
  cases σ with
  | mk nx g =>
    simp only [Rd.go, Store.put, Store.mk.injEq, true_and]
    funext a
    split
    · rename_i e; subst e; exact h.1.symm
    · rfl
theorem Rd.E {σ : Store} {id v : Nat} {code : List UInt8} {p : Nat} (h : Rd σ id v code p) (l : List (Nat × List (List Ce))) : Rd (E σ l) id v code p := ⟨by rw [E_lt h.2.1]; exact h.1, by have := h.2.1; rw [E_next]; omega, h.2.2⟩
theorem Rd.go_E {σ : Store} {id v : Nat} {code : List UInt8} {q : Nat} (h : id < σ.next) (l : List (Nat × List (List Ce))) : Rd.go (Am.E σ l) id v code q = Am.E (Rd.go σ id v code q) l := by
  have h2 : id < (Rd.go σ id v code q).next := h
  refine Store.ext rfl fun a => ?_
  by_cases e : a = id
  · subst e
    rw [E_lt h2]
    rw [show (Rd.go (Am.E σ l) a v code q).get a = some (v, rdB code q) from if_pos rfl, show (Rd.go σ a v code q).get a = some (v, rdB code q) from if_pos rfl]
  · rw [show (Rd.go (Am.E σ l) id v code q).get a = (Am.E σ l).get a from if_neg e]
    by_cases hl : a < σ.next
    · rw [E_lt hl, E_lt (show a < (Rd.go σ id v code q).next from hl), show (Rd.go σ id v code q).get a = σ.get a from if_neg e]
    · rw [E_ge hl, E_ge (show ¬ a < (Rd.go σ id v code q).next from hl)]
      rfl
section
variable {fr : Fr} {σ : Store} {id v : Nat} {code : List UInt8} {p0 p : Nat} {x y : Opd} {l : List (Nat × List (List Ce))}
end
/-- A call that reads on: its result is Z, and frozen; the reader stands elsewhere. -/
structure Draws (P : Program) (f : Nat) (args : List AV) (Z : AV → Prop) : Prop where
  at_ : ∀ (σ : Store) (id v : Nat) (code : List UInt8) (p : Nat), Rd σ id v code p → Ok P f (.c (.ptr id v 0 0) :: args) σ (fun r τ => ∃ q, q ≤ code.length ∧ Z r ∧ τ = Rd.go σ id v code q)
def FinR (σ : Store) (id v : Nat) (code : List UInt8) (Z : AV → Prop) (r : AV) (τ : Store) : Prop := ∃ q y l, q ≤ code.length ∧ Z y ∧ τ = E (Rd.go σ id v code q) l ∧ FrzV τ σ.next r y
theorem Draws.ends {P : Program} {f : Nat} {args : List AV} {Z : AV → Prop} {σ : Store} {id v : Nat} {code : List UInt8} {p : Nat} (hr : Rd σ id v code p) (h : Ok P f args σ (FinR σ id v code Z)) : Ok P f args σ (fun r τ => ∃ q, q ≤ code.length ∧ Z r ∧ τ = Rd.go σ id v code q) := by
  refine .old' h fun hS _ => h.endsX ?_
  rintro r σ1 ⟨q, y, l, hq, hZ, rfl, hf⟩
  refine ⟨y, Rd.go σ id v code q, ⟨q, hq, hZ, rfl⟩, rfl, fun a b hb => ?_, hf⟩
  have ha : a < σ.next := by
    by_cases e : a = id
    · rw [e]; exact hr.2.1
    · have : σ.get a = some b := by
        have h2 : (Rd.go σ id v code q).get a = some b := hb
        rwa [show (Rd.go σ id v code q).get a = σ.get a from if_neg e] at h2
      exact (hS a b this).1
  refine ⟨by rw [E_lt (show a < (Rd.go σ id v code q).next from ha)]; exact hb, ha, ?_⟩
  by_cases e : a = id
  · right
    subst e
    have h2 : (Rd.go σ a v code q).get a = some (v, rdB code q) := if_pos rfl
    rw [h2] at hb
    injection hb with hb
    subst hb
    intro i j hi hj
    have hold := (hS a _ hr.1).2
    have hi0 : i = 0 := by simp [rdB] at hi; omega
    subst hi0
    have hj2 : j = 0 ∨ j = 1 := by simp [rdB] at hj; omega
    rcases hj2 with rfl | rfl
    · exact hold 0 0 (by simp [rdB]) (by simp [rdB])
    · exact .int _ _
  · left
    rwa [show (Rd.go σ id v code q).get a = σ.get a from if_neg e] at hb
theorem Draws.run {P : Program} (hm : P.follows .mixedOrders = true) {fz : List Nat} {f : Nat} {af : AFn} (h : compFn P fz f = some af) {args : List AV} {Z : AV → Prop} (hn : (AV.c .nils :: args).length ≤ af.nt)
    (hg : ∀ σ id v code p, Rd σ id v code p → p ≤ code.length → code.length ≤ 1048576 → OldS σ → Go P σ.next af.nt af.rets (FinR σ id v code Z) [.code af.body] (frOf 0 (.c (.ptr id v 0 0) :: args)) (E (Rd.go σ id v code p) [])) : Draws P f args Z :=
  ⟨fun σ id v code p hr => Draws.ends hr (Ok.run hm h hn fun hS _ => by
    have := hg σ id v code p hr hr.2.2.1 hr.2.2.2 hS
    rwa [hr.same] at this)⟩
theorem FinR.c {σ : Store} {id v : Nat} {code : List UInt8} {Z : AV → Prop} {r : AV} {q : Nat} {l : List (Nat × List (List Ce))} (hq : q ≤ code.length) (hZ : Z r) (ho : ∀ y ∈ r.all, Old σ.next y) : FinR σ id v code Z r (E (Rd.go σ id v code q) l) :=
  ⟨q, r, l, hq, hZ, rfl, .refl ho⟩
theorem FinR.f {σ : Store} {id v : Nat} {code : List UInt8} {Z : AV → Prop} {r y : AV} {q : Nat} {l : List (Nat × List (List Ce))} (hq : q ≤ code.length) (hZ : Z y) (hf : FrzV (E (Rd.go σ id v code q) l) σ.next r y) : FinR σ id v code Z r (E (Rd.go σ id v code q) l) :=
  ⟨q, y, l, hq, hZ, rfl, hf⟩
section
variable {P : Program} {n0 nt : Nat} {rets : List RV} {R : AV → Store → Prop} {K : List AK} {fr : Fr} {σ : Store}
/-- A drawn call, what is owned beside the reader kept. -/
theorem Go.drawn {id v : Nat} {code : List UInt8} {p0 p : Nat} {l : List (Nat × List (List Ce))} {d : Option Nat} {f : Opd} {args : List Opd} {g : Option (Nat × Bool)} {rest : List AOper} {n : Nat} {as : List AV} {Z : AV → Prop} (hr : Rd σ id v code p0) (hq : p ≤ code.length) (hw : wants fr g = some true) (hf : f.ev fr = some (.c (.fn n [] []))) (ha : evs fr args = some (.c (.ptr id v 0 0) :: as))
    (hp : Draws P n as Z) (h : ∀ r q, q ≤ code.length → Z r → Go P n0 nt rets R (.ops rest :: K) (putA fr d r) (E (Rd.go σ id v code q) l)) : Go P n0 nt rets R (.ops (⟨d, .call f args, g⟩ :: rest) :: K) fr (E (Rd.go σ id v code p) l) :=
  .call _ hw hf ha (by simpa using hp.at_ (E (Rd.go σ id v code p) l) id v code p ((hr.at_ hq).E l)) (by
    rintro r τ ⟨q, hq2, hZ, rfl⟩
    rw [Rd.go_E (show id < (Rd.go σ id v code p).next from hr.2.1), Rd.go_go]
    exact h r q hq2 hZ)
theorem Qx.drawn {id v : Nat} {code : List UInt8} {p0 p : Nat} {l : List (Nat × List (List Ce))} {I : List (Nat × List (List Ce)) → Prop} {Y : Fr → Nat → List (Nat × List (List Ce)) → Prop} {d : Option Nat} {f : Opd} {args : List Opd} {g : Option (Nat × Bool)} {rest : List AOper} {n : Nat} {as : List AV} {Z : AV → Prop} (hr : Rd σ id v code p0) (hq : p ≤ code.length) (hw : wants fr g = some true) (hf : f.ev fr = some (.c (.fn n [] []))) (ha : evs fr args = some (.c (.ptr id v 0 0) :: as))
    (hp : Draws P n as Z) (h : ∀ r q, q ≤ code.length → Z r → Qx P (fun q l => E (Rd.go σ id v code q) l) I Y rest (putA fr d r) q l) : Qx P (fun q l => E (Rd.go σ id v code q) l) I Y (⟨d, .call f args, g⟩ :: rest) fr p l :=
  .call (fun r q => q ≤ code.length ∧ Z r) hw hf ha (fun b _ => by
    have := hp.at_ (E (Rd.go σ id v code p) b) id v code p ((hr.at_ hq).E b)
    refine (by simpa using this : Ok P n (([] : List Ce).map .c ++ (.c (.ptr id v 0 0) :: as) ++ ([] : List Ce).map .c) _ _).mono ?_
    rintro r τ ⟨q, hq2, hZ, rfl⟩
    exact ⟨q, ⟨hq2, hZ⟩, by rw [Rd.go_E (show id < (Rd.go σ id v code p).next from hr.2.1), Rd.go_go]⟩) fun r q ⟨h1, h2⟩ => h r q h1 h2
theorem Qx.pcall {S : Nat → List (Nat × List (List Ce)) → Store} {q : Nat} {l : List (Nat × List (List Ce))} {I : List (Nat × List (List Ce)) → Prop} {Y : Fr → Nat → List (Nat × List (List Ce)) → Prop} {d : Option Nat} {f : Opd} {args : List Opd} {g : Option (Nat × Bool)} {rest : List AOper} {n : Nat} {pre cap : List Ce} {vs : List AV} {r : AV} (hw : wants fr g = some true) (hf : f.ev fr = some (.c (.fn n pre cap))) (ha : evs fr args = some vs)
    (hp : Pure P n (pre.map .c ++ vs ++ cap.map .c) r) (h : Qx P S I Y rest (putA fr d r) q l) : Qx P S I Y (⟨d, .call f args, g⟩ :: rest) fr q l :=
  .call (fun r' q' => r' = r ∧ q' = q) hw hf ha (fun b _ => (hp.at_ _).mono fun r' τ ⟨h1, h2⟩ => ⟨q, ⟨h1, rfl⟩, h2⟩) fun r' q' ⟨h1, h2⟩ => by rw [h1, h2]; exact h
theorem Qx.alloc {id v : Nat} {code : List UInt8} {q : Nat} {l l0 : List (Nat × List (List Ce))} {Y : Fr → Nat → List (Nat × List (List Ce)) → Prop} {d : Option Nat} {z : List Ce} {g : Option (Nat × Bool)} {rest : List AOper} (hw : wants fr g = some true) (hl : ∃ m, l = l0 ++ m) (h : Qx P (fun q l => E (Rd.go σ id v code q) l) (fun l => ∃ m, l = l0 ++ m) Y rest (putA fr d (.c (.ptr (σ.next + l.length) 0 0 0))) q (l ++ [(0, [z])])) :
    Qx P (fun q l => E (Rd.go σ id v code q) l) (fun l => ∃ m, l = l0 ++ m) Y (⟨d, .op (.alloc z), g⟩ :: rest) fr q l :=
  .wop rfl hw (fun a => aop_alloc) (by obtain ⟨m, rfl⟩ := hl; exact ⟨m ++ [(0, [z])], by rw [List.append_assoc]⟩) h
end
end Go.Proofs.YtdgnfdljkghpjaaGreat.Am

/- The abstract machine, part 30: slices.IndexFunc, ContainsFunc, Index, Contains, once for all types. -/
set_option linter.unusedVariables false
set_option linter.unusedSimpArgs false
namespace Go.Proofs.YtdgnfdljkghpjaaGreat.Am

def indexFuncCode (g : Bool) (s : Nat) : AFn := ⟨19, [.t 4], (.seq (.region [⟨some 4, .op (.mv (.k (.int .i64 0))), none⟩]) (.seq (.seq (.region [⟨some 6, .op (.mv (.t 0)), none⟩, ⟨some 7, .op (.len false (.t 6)), none⟩, ⟨some 8, .op (.mv (.k (.int .i64 0))), none⟩]) (.block 0 (.loop (.seq (.region [⟨some 9, .op (.bin .lss (.t 8) (.t 7)), none⟩]) (.seq (.cond (.t 9) .skip (.exit 0)) (.seq (.block 1 (.seq (.region [⟨some 10, .op (.mv (.t 8)), none⟩, ⟨some 5, .op (.mv (.t 10)), none⟩]) (.seq (.region [⟨some 11, .op (.mv (.t 1)), none⟩, ⟨some 12, .op (.mv (.t 0)), none⟩, ⟨some 13, .op (.mv (.t 5)), none⟩, ⟨some 14, .op (.iaddr s (.t 12) (.t 13)), none⟩, ⟨some 15, .op (.load g s (.t 14)), none⟩, ⟨some 16, .call (.t 11) [(.t 15)], none⟩]) (.cond (.t 16) (.seq (.region [⟨some 17, .op (.mv (.t 5)), none⟩, ⟨some 4, .op (.mv (.t 17)), none⟩]) .ret) .skip)))) (.region [⟨some 18, .op (.bin .add (.t 8) (.k (.int .i64 1))), none⟩, ⟨some 8, .op (.mv (.t 18)), none⟩]))))))) (.seq (.region [⟨some 4, .op (.mv (.k (.int .i64 (-1)))), none⟩]) .ret)))⟩
def idxA {α : Type} (p : α → Bool) : List α → Int → Int
  | [], _ => -1
  | a :: r, i => if p a then i else idxA p r (i + 1)
theorem idxA_any {α : Type} {p : α → Bool} : ∀ {l : List α} {i : Int}, 0 ≤ i → (l.any p = true ↔ 0 ≤ idxA p l i)
  | [], i, h => by simp [idxA]
  | a :: r, i, h => by
    have := idxA_any (p := p) (l := r) (i := i + 1) (by omega)
    simp only [List.any_cons, idxA]
    cases p a
    · simp only [Bool.false_or, Bool.false_eq_true, if_false]; exact this
    · simp [h]
theorem aop_loadG {fr : Fr} {σ : Store} {g : Bool} {s : Nat} {a : Opd} {cs : List Ce} {v : AV} (ha : a.ev fr = some (.c (.fp cs))) (h : takeA g s cs = some v) : aop (.load g s a) fr σ = some (v, σ) := by
  simp [aop, ha, Store.at_, h]
theorem indexFuncA_ok {P : Program} (hm : P.follows .mixedOrders = true) {fz : List Nat} {n s : Nat} {g : Bool} (hc : compFn P fz n = some (indexFuncCode g s)) {α : Type} (enc : α → List Ce) (arg : α → AV) (hs : ∀ a, (enc a).length = s) (harg : ∀ a, takeA g s (enc a) = some (arg a)) (l : List α) (p : α → Bool) (f : Nat) (pre cap : List Ce) (hx : l.length ≤ 34359738368)
    (hp : ∀ i (hi : i < l.length), (∀ j (hj : j < i), p (l[j]'(by omega)) = false) → Pure P f (pre.map .c ++ [arg l[i]] ++ cap.map .c) (.c (.bool (p l[i])))) : Pure P n [.c (.fz (l.map enc)), .c (.fn f pre cap)] (.c (.int .i64 (idxA p l 0))) := by
  refine Pure.run hm hc (Nat.le_of_ble_eq_true rfl) fun σ hS hA => ?_
  clear hS hA
  repeat' first|refine yaG ?_|(exfalso;omega)|(refine yaS ?_ ?_<;>intro _)
  refine Go.keep [0, 1, 7, 8] (Go.loops (I := fun m fr τ => ∃ i : Nat, ∃ k : Int, m = l.length - i ∧ i ≤ l.length ∧ k = i ∧ (idxA p l 0 = idxA p (l.drop i) k ∧ ∀ j (hj : j < i) (hl : j < l.length), p l[j] = false) ∧
    fr = [(0, .c (.fz (l.map enc))), (1, .c (.fn f pre cap)), (7, .c (.int .i64 (l.length : Int))), (8, .c (.int .i64 k))] ∧ τ = E σ []) ?_ _ _ _ ⟨0, _, rfl, Nat.zero_le _, rfl, ⟨rfl, fun j hj => by omega⟩, rfl, rfl⟩)
  rintro m fr τ ⟨i, k, rfl, hi, hn, ⟨hsl, hno⟩, rfl, rfl⟩ hrec
  by_cases hlt : i < l.length
  · repeat' first|refine yaG ?_|((first|apply yG|apply yH|apply yI);exact rfl;(first|exact yX (enc := enc) rfl rfl hn hlt (hs _)|exact aop_loadG rfl (harg l[i])))|((first|apply Go.pcallB|apply Go.spcallB|apply Qg.pcallB);(iterate 3 exact rfl);exact hp i hlt (fun j hj => hno j hj (by omega));intro _ _)|(exfalso;omega)|(refine yaS ?_ ?_<;>intro _)
    · refine .ret rfl (.int ?_)
      rw [hsl, List.drop_eq_getElem_cons hlt, idxA, if_pos (by simp_all)]
    · rename_i b hb h
      refine Go.keep [0, 1, 7, 8] (hrec _ _ _ (by omega) ⟨i + 1, _, rfl, hlt, wrap_succ hn (by omega), ⟨?_, fun j hj hl => ?_⟩, rfl, rfl⟩)
      · rw [hsl, List.drop_eq_getElem_cons hlt, idxA, if_neg (by rw [hb, h]; simp), wrap64 (by omega) (by omega)]
      · by_cases e : j = i
        · subst e; rw [hb, h]
        · exact hno j (by omega) hl
  · repeat' first|refine yaG ?_|(exfalso;omega)|(refine yaS ?_ ?_<;>intro _)
    refine .ret rfl (.int ?_)
    rw [hsl, List.drop_eq_nil_of_le (by omega)]
    rfl
def containsFuncCode (f : Nat) : AFn := ⟨9, [.t 4], (.seq (.region [⟨some 4, .op (.mv (.k (.bool false))), none⟩]) (.seq (.region [⟨some 5, .op (.mv (.t 0)), none⟩, ⟨some 6, .op (.mv (.t 1)), none⟩, ⟨some 7, .call (.f f) [(.t 5), (.t 6)], none⟩, ⟨some 8, .op (.bin .geq (.t 7) (.k (.int .i64 0))), none⟩, ⟨some 4, .op (.mv (.t 8)), none⟩]) .ret))⟩
theorem any_idx {α : Type} {p : α → Bool} {l : List α} : decide (0 ≤ idxA p l 0) = l.any p := by
  have := idxA_any (p := p) (l := l) (i := 0) (by omega)
  cases h : l.any p
  · rw [decide_eq_false_iff_not, ← this, h]; simp
  · rw [decide_eq_true_iff, ← this, h]
theorem containsFuncA_ok {P : Program} (hm : P.follows .mixedOrders = true) {fz fz' : List Nat} {n n' s : Nat} {g : Bool} (hc : compFn P fz n = some (containsFuncCode n')) (hc' : compFn P fz' n' = some (indexFuncCode g s)) {α : Type} (enc : α → List Ce) (arg : α → AV) (hs : ∀ a, (enc a).length = s) (harg : ∀ a, takeA g s (enc a) = some (arg a)) (l : List α) (p : α → Bool) (f : Nat) (pre cap : List Ce) (hx : l.length ≤ 34359738368)
    (hp : ∀ i (hi : i < l.length), (∀ j (hj : j < i), p (l[j]'(by omega)) = false) → Pure P f (pre.map .c ++ [arg l[i]] ++ cap.map .c) (.c (.bool (p l[i])))) : Pure P n [.c (.fz (l.map enc)), .c (.fn f pre cap)] (.c (.bool (l.any p))) := by
  refine Pure.run hm hc (Nat.le_of_ble_eq_true rfl) fun σ hS hA => ?_
  clear hS hA
  repeat' first|refine yaG ?_|refine yaC (indexFuncA_ok hm hc' enc arg hs harg l p f pre cap hx hp) ?_|(exfalso;omega)|(refine yaS ?_ ?_<;>intro _)
  exact .ret rfl (.bool any_idx)
/-- slices.Index and Contains of numbers. -/
def indexIntCode : AFn := ⟨19, [.t 4], (.seq (.region [⟨some 4, .op (.mv (.k (.int .i64 0))), none⟩]) (.seq (.seq (.region [⟨some 6, .op (.mv (.t 0)), none⟩, ⟨some 7, .op (.len false (.t 6)), none⟩, ⟨some 8, .op (.mv (.k (.int .i64 0))), none⟩]) (.block 0 (.loop (.seq (.region [⟨some 9, .op (.bin .lss (.t 8) (.t 7)), none⟩]) (.seq (.cond (.t 9) .skip (.exit 0)) (.seq (.block 1 (.seq (.region [⟨some 10, .op (.mv (.t 8)), none⟩, ⟨some 5, .op (.mv (.t 10)), none⟩]) (.seq (.region [⟨some 11, .op (.mv (.t 1)), none⟩, ⟨some 12, .op (.mv (.t 0)), none⟩, ⟨some 13, .op (.mv (.t 5)), none⟩, ⟨some 14, .op (.iaddr 1 (.t 12) (.t 13)), none⟩, ⟨some 15, .op (.load false 1 (.t 14)), none⟩, ⟨some 16, .op (.bin .eql (.t 11) (.t 15)), none⟩]) (.cond (.t 16) (.seq (.region [⟨some 17, .op (.mv (.t 5)), none⟩, ⟨some 4, .op (.mv (.t 17)), none⟩]) .ret) .skip)))) (.region [⟨some 18, .op (.bin .add (.t 8) (.k (.int .i64 1))), none⟩, ⟨some 8, .op (.mv (.t 18)), none⟩]))))))) (.seq (.region [⟨some 4, .op (.mv (.k (.int .i64 (-1)))), none⟩]) .ret)))⟩
theorem indexInt_ok {P : Program} (hm : P.follows .mixedOrders = true) {fz : List Nat} {n : Nat} (hc : compFn P fz n = some indexIntCode) (l : List Int) (v : Int) (hx : l.length ≤ 34359738368) : Pure P n [.c (.fz (l.map fun n => [.int .i64 n])), .c (.int .i64 v)] (.c (.int .i64 (idxA (fun a => v == a) l 0))) := by
  refine Pure.run hm hc (Nat.le_of_ble_eq_true rfl) fun σ hS hA => ?_
  clear hS hA
  repeat' first|refine yaG ?_|(exfalso;omega)|(refine yaS ?_ ?_<;>intro _)
  refine Go.keep [0, 1, 7, 8] (Go.loops (I := fun m fr τ => ∃ i : Nat, ∃ k : Int, m = l.length - i ∧ i ≤ l.length ∧ k = i ∧ idxA (fun a => v == a) l 0 = idxA (fun a => v == a) (l.drop i) k ∧
    fr = [(0, .c (.fz (l.map fun n => [.int .i64 n]))), (1, .c (.int .i64 v)), (7, .c (.int .i64 (l.length : Int))), (8, .c (.int .i64 k))] ∧ τ = E σ []) ?_ _ _ _ ⟨0, _, rfl, Nat.zero_le _, rfl, rfl, rfl, rfl⟩)
  rintro m fr τ ⟨i, k, rfl, hi, hn, hsl, rfl, rfl⟩ hrec
  by_cases hlt : i < l.length
  · repeat' first|refine yaG ?_|((first|apply yG|apply yH|apply yI);exact rfl;(first|exact yX (enc := fun n => [.int .i64 n]) rfl rfl hn hlt rfl))|(exfalso;omega)|(refine yaS ?_ ?_<;>intro _)
    · refine .ret rfl (.int ?_)
      rw [hsl, List.drop_eq_getElem_cons hlt, idxA, if_pos (by simp_all)]
    · rename_i h
      refine Go.keep [0, 1, 7, 8] (hrec _ _ _ (by omega) ⟨i + 1, _, rfl, hlt, wrap_succ hn (by omega), ?_, rfl, rfl⟩)
      rw [hsl, List.drop_eq_getElem_cons hlt, idxA, if_neg (by simpa using h), wrap64 (by omega) (by omega)]
  · repeat' first|refine yaG ?_|(exfalso;omega)|(refine yaS ?_ ?_<;>intro _)
    refine .ret rfl (.int ?_)
    rw [hsl, List.drop_eq_nil_of_le (by omega)]
    rfl
theorem containsInt_ok {P : Program} (hm : P.follows .mixedOrders = true) {fz fz' : List Nat} {n n' : Nat} (hc : compFn P fz n = some (containsFuncCode n')) (hc' : compFn P fz' n' = some indexIntCode) (l : List Int) (v : Int) (hx : l.length ≤ 34359738368) : Pure P n [.c (.fz (l.map fun n => [.int .i64 n])), .c (.int .i64 v)] (.c (.bool (l.any fun a => v == a))) := by
  refine Pure.run hm hc (Nat.le_of_ble_eq_true rfl) fun σ hS hA => ?_
  clear hS hA
  repeat' first|refine yaG ?_|refine yaC (indexInt_ok hm hc' l v hx) ?_|(exfalso;omega)|(refine yaS ?_ ?_<;>intro _)
  exact .ret rfl (.bool any_idx)
end Go.Proofs.YtdgnfdljkghpjaaGreat.Am

/- The abstract machine, part 27: a row's arguments as abstract values, and what a contract says of a call. -/
set_option linter.unusedVariables false
set_option linter.unusedSimpArgs false
namespace Go.Proofs.YtdgnfdljkghpjaaGreat.Am
open Go.RowKit Go.ChangeShapes Go.WideShapes

/-- A world of which nothing is ours. -/
def Cx.at (W : World) : Cx := ⟨fun _ _ => ⟨0, 0, 0, false⟩, fun _ _ => False, fun _ => False, W⟩
theorem Rl.at (W : World) : Rl (Cx.at W) (Store.none 0) :=
  ⟨fun _ _ h => h.elim, fun id v es hg => by simp [Store.none] at hg, fun b => ⟨fun h => h.elim, fun ⟨id, v, es, hg, _⟩ => by simp [Store.none] at hg⟩, fun id v es id' v' es' hg => by simp [Store.none] at hg, fun id v es hg => by simp [Store.none] at hg⟩
theorem rpv_bool {D : Cx} {b : Bool} {v : Value} (h : RpV D (.c (.bool b)) v) : v = .bool b := by
  cases h with
  | c h => cases h; rfl
theorem Pure.calls {P : Program} {f : Nat} {args : List AV} {b : Bool} (h : Pure P f args (.c (.bool b))) {W : World} {cargs : Array Value} (ha : ∃ hl : cargs.size = args.length, ∀ i (hi : i < args.length), RpV (Cx.at W) args[i] (cargs[i]'(by omega))) :
    Calls P f cargs W fun e w' => e = .returned (.bool b) ∧ Below W.heap.size W w' := by
  refine ((h.at_ (Store.none 0)).2 (Cx.at W) cargs (Rl.at W) ha).mono ?_
  rintro e w' ⟨D, σ', r, v, rfl, rfl, ⟨rfl, rfl⟩, hR, hv, hle⟩
  exact ⟨by rw [rpv_bool hv], ⟨hle.os, hle.tape, hle.output, hle.size, fun k hk => hle.keep k hk (fun h => h.elim)⟩⟩

section
variable {H : Type} {enc : TypeId × Value → H} {P : Program} {W : World}
/-- What the rows say of a value of a type, as abstract cells. -/
structure Opens (enc : TypeId × Value → H) (P : Program) (W : World) (t : TypeId) {α : Type} (e : α → List Ce) (good : α → Prop) : Prop where
  op : ∀ fuel cs x, DataW.trod enc P W 0 (fun _ => true) true fuel t cs = some x → (∀ n ∈ x.1.weights P t, n ≤ reachBytes) →
    ∃ a, good a ∧ ∃ hl : cs.length = (e a).length, ∀ i (hi : i < (e a).length), Rp (Cx.at W) (e a)[i] (cs[i]'(by omega))
theorem Opens.one {t : TypeId} {α : Type} {e : α → List Ce} {good : α → Prop} (h : ∀ fuel cs x, DataW.trod enc P W 0 (fun _ => true) true fuel t cs = some x → (∀ n ∈ x.1.weights P t, n ≤ reachBytes) → ∃ a y v, good a ∧ e a = [y] ∧ cs = [v] ∧ Rp (Cx.at W) y v) : Opens enc P W t e good := by
  constructor
  intro fuel cs x h1 h2
  obtain ⟨a, y, v, hg, he, rfl, hr⟩ := h fuel cs x h1 h2
  refine ⟨a, hg, by simp [he], fun i hi => ?_⟩
  have hi' : i = 0 := by rw [he] at hi; simpa using hi
  subst hi'
  simp only [he, List.getElem_cons_zero]
  exact hr
theorem Opens.iso {t : TypeId} {α β : Type} {e : β → List Ce} {good : β → Prop} (h : Opens enc P W t e good) (g : β → α) {e' : α → List Ce} {good' : α → Prop} (he : ∀ b, e' (g b) = e b) (hg : ∀ b, good b → good' (g b)) : Opens enc P W t e' good' := by
  constructor
  intro fuel cs x h1 h2
  obtain ⟨a, h3, hl, h4⟩ := h.op fuel cs x h1 h2
  refine ⟨g a, hg a h3, by rw [he]; exact hl, fun i hi => ?_⟩
  simp only [he]
  exact h4 i (by rw [he] at hi; exact hi)
theorem Opens.int {t : TypeId} {k : IntKind} (ht : P.underlying t = some (.int k)) : Opens enc P W t (fun n : Int => [.int k n]) (fun n => (Lit.int k n).wf = true) := by
  refine Opens.one fun fuel cs x h1 _ => ?_
  obtain ⟨n, rfl, rfl, hw⟩ := DataW.trod_int ht h1
  exact ⟨n, _, _, hw, rfl, rfl, .int k n⟩
theorem Opens.bool {t : TypeId} (ht : P.underlying t = some .bool) : Opens enc P W t (fun b : Bool => [.bool b]) (fun _ => True) := by
  refine Opens.one fun fuel cs x h1 _ => ?_
  obtain ⟨n, rfl, rfl⟩ := DataW.trod_bool ht h1
  exact ⟨n, _, _, trivial, rfl, rfl, .bool n⟩
theorem Opens.str {t : TypeId} (ht : P.underlying t = some .string) : Opens enc P W t (fun s : List UInt8 => [.str s]) (fun s => s.length ≤ 140737488351232) := by
  refine Opens.one fun fuel cs x h1 h2 => ?_
  obtain ⟨s, rfl, rfl, hs⟩ := DataW.trod_string ht h1
  refine ⟨s.data.toList, _, _, ?_, rfl, rfl, .str _⟩
  have := h2 s.data.toList.length (by simp [DataW.weights])
  exact this
theorem list_choice {α : Type} {p : Nat → α → Prop} : ∀ n, (∀ i, i < n → ∃ a, p i a) → ∃ l : List α, l.length = n ∧ ∀ i (hi : i < l.length), p i l[i]
  | 0, _ => ⟨[], rfl, fun i hi => by simp at hi⟩
  | n + 1, h => by
    obtain ⟨l, h1, h2⟩ := list_choice n fun i hi => h i (by omega)
    obtain ⟨a, ha⟩ := h n (by omega)
    refine ⟨l ++ [a], by simp [h1], fun i hi => ?_⟩
    by_cases e : i < l.length
    · rw [List.getElem_append_left e]; exact h2 i e
    · have : i = l.length := by simp at hi; omega
      subst this
      have e1 : (l ++ [a])[l.length]'hi = a := by rw [List.getElem_append_right (Nat.le_refl _)]; simp
      rw [e1, h1]
      exact ha
theorem weightsAll_mem {e : TypeId} : ∀ {l : List (DataW H)} {d : DataW H} {n : Nat}, d ∈ l → n ∈ d.weights P e → n ∈ DataW.weightsAll P e l
  | y :: r, d, n, h, hn => by
    simp only [DataW.weightsAll, List.mem_append]
    rcases List.mem_cons.1 h with rfl | h
    · exact .inl hn
    · exact .inr (weightsAll_mem h hn)
theorem add_add {a : Addr} (h : a.spot = none) (m j : Nat) : (a.add m).add j = ⟨a.block, a.off + (m + j), none⟩ := by
  obtain ⟨b, o, s⟩ := a
  subst h
  simp only [Addr.add]
  split <;> split <;> simp_all [Nat.add_assoc]
theorem spot_of_cell {w : World} {a : Addr} {v : Value} (h : w.cell? a = some v) : a.spot = none ∧ a.block < w.heap.size := by
  unfold World.cell? at h
  split at h
  · rename_i hb
    refine ⟨?_, ?_⟩
    · split at h
      · cases h
      · rename_i hs
        simpa using hs
    · exact (Array.getElem?_eq_some_iff.1 hb).1
  · cases h
theorem Opens.slice {t el : TypeId} {α : Type} {e : α → List Ce} {good : α → Prop} {s : Nat} (ht : P.underlying t = some (.slice el)) (h : Opens enc P W el e good) (hs : P.cellsOf el = s) (hs0 : 0 < s) (he : ∀ a, (e a).length = s) :
    Opens enc P W t (fun l : List α => [.fz (l.map e)]) (fun l => l.length * P.bytesOf el ≤ 140737488351232 ∧ ∀ a ∈ l, good a) := by
  refine Opens.one fun fuel cs x h1 h2 => ?_
  rcases DataW.trod_slice ht h1 with ⟨rfl, rfl⟩ | ⟨a, len, cap, elems, rest, n, _, rfl, rfl, hb, hl, hm, hlen, hel, hsp, hns⟩
  · exact ⟨[], _, _, ⟨by simp, by simp⟩, rfl, rfl, .fz0 _ _⟩
  rw [hs] at hel
  have each : ∀ i, i < len → ∃ y, good y ∧ ∀ j (hj : j < (e y).length), ∃ v, W.cell? ((a.add (i * s)).add j) = some v ∧ Rp (Cx.at W) (e y)[j] v := by
    intro i hi
    have hi' : i < elems.length := by omega
    have h3 := hel i hi
    rw [List.getElem?_eq_getElem hi', Option.bind_eq_some_iff] at h3
    obtain ⟨cs, hc, hd⟩ := h3
    obtain ⟨y, hy, hl, hr⟩ := h.op n cs _ hd (fun m hm => h2 m (by
      simp only [DataW.weights, ht]
      refine List.mem_cons_of_mem _ (List.mem_append_left _ (weightsAll_mem (d := elems[i].1) (List.mem_map_of_mem (List.getElem_mem hi')) hm))))
    obtain ⟨_, hcl, hcc⟩ := World.cells?_some hc
    refine ⟨y, hy, fun j hj => ⟨cs[j]'(by omega), ?_, hr j hj⟩⟩
    rw [hcc j (by rw [← he y]; exact hj), List.getElem?_eq_getElem]
  obtain ⟨l, hll, hl2⟩ := list_choice len each
  refine ⟨l, _, _, ⟨?_, fun y hy => ?_⟩, rfl, rfl, ?_⟩
  · have := h2 _ (by
      simp only [DataW.weights, ht]
      exact List.mem_cons_self)
    simp only [List.length_map] at this
    have h5 : l.length * P.bytesOf el ≤ (elems.length + rest.length) * P.bytesOf el := Nat.mul_le_mul_right _ (by omega)
    exact Nat.le_trans h5 this
  · obtain ⟨i, hi, rfl⟩ := List.mem_iff_getElem.1 hy
    exact (hl2 i hi).1
  · rcases Nat.eq_zero_or_pos len with h0 | h0
    · have hl0 : l = [] := List.eq_nil_of_length_eq_zero (by omega)
      subst hl0
      subst h0
      exact .fz0 _ _
    · obtain ⟨v0, hv0, _⟩ := (hl2 0 (by omega)).2 0 (by rw [he]; exact hs0)
      have hsp0 : a.spot = none ∧ a.block < W.heap.size := by
        have := spot_of_cell hv0
        simpa [Addr.add] using this
      obtain ⟨b, o, sp⟩ := a
      obtain ⟨rfl, hbl⟩ := hsp0
      have hlm : (l.map e).length = len := by simp [hll]
      have key := Rp.fz (C := Cx.at W) (l.map e) b o cap s (fun i j => (W.cell? ⟨b, o + (i * s + j), none⟩).getD .nilFunc) hbl (fun h => h.elim) (by omega) (fun i hi => by simp [he]) (fun i j hi hj => by
        rw [hlm] at hi
        obtain ⟨v, hv, _⟩ := (hl2 i (by omega)).2 j (by rw [he]; exact hj)
        rw [add_add rfl] at hv
        show W.cell? _ = _
        rw [hv]
        rfl) (fun i j hi hj => by
        rw [hlm] at hi
        have hj' : j < (e (l[i]'(by omega))).length := by simpa using hj
        obtain ⟨v, hv, hr⟩ := (hl2 i (by omega)).2 j hj'
        rw [add_add rfl] at hv
        simp only [hv, Option.getD_some, List.getElem_map]
        exact hr)
      rw [hlm] at key
      exact key

/-- .. of the fields of a struct, from one on. -/
structure OpensF (enc : TypeId × Value → H) (P : Program) (W : World) (fs : Array Field) (k off : Nat) {α : Type} (e : α → List Ce) (good : α → Prop) : Prop where
  op : ∀ (cs : List Value) (n : Nat) (xs : List (DataW H × List MemPlace)), xs.length = fs.size → (∀ (i : Nat) (f : Field), fs[i]? = some f → DataW.trod enc P W 0 (fun _ => true) true n f.type ((cs.drop f.offset).take (P.cellsOf f.type)) = xs[i]?) →
    (∀ (i : Nat) (f : Field) (x : DataW H × List MemPlace), fs[i]? = some f → xs[i]? = some x → ∀ m ∈ x.1.weights P f.type, m ≤ reachBytes) →
    ∃ a, good a ∧ ∀ i (hi : i < (e a).length), ∃ v, cs[off + i]? = some v ∧ Rp (Cx.at W) (e a)[i] v
theorem OpensF.nil {fs : Array Field} {k off : Nat} : OpensF enc P W fs k off (fun _ : Unit => []) (fun _ => True) :=
  ⟨fun cs n xs _ _ _ => ⟨(), trivial, fun i hi => by simp at hi⟩⟩
theorem OpensF.cons {fs : Array Field} {k off s : Nat} {f : Field} {α β : Type} {e : α → List Ce} {good : α → Prop} {e' : β → List Ce} {good' : β → Prop} (hf : fs[k]? = some f) (h : Opens enc P W f.type e good) (ho : f.offset = off) (he : ∀ a, (e a).length = s) (hr : OpensF enc P W fs (k + 1) (off + s) e' good') :
    OpensF enc P W fs k off (fun p : α × β => e p.1 ++ e' p.2) (fun p => good p.1 ∧ good' p.2) := by
  constructor
  intro cs n xs hxl hx hw
  obtain ⟨b, hb, hb2⟩ := hr.op cs n xs hxl hx hw
  have hk : k < xs.length := by rw [hxl]; exact (Array.getElem?_eq_some_iff.1 hf).1
  have h1 := hx k f hf
  rw [List.getElem?_eq_getElem hk] at h1
  obtain ⟨a, ha, hl, ha2⟩ := h.op n _ _ h1 (hw k f _ hf (List.getElem?_eq_getElem hk))
  refine ⟨(a, b), ⟨ha, hb⟩, fun i hi => ?_⟩
  by_cases c : i < (e a).length
  · refine ⟨_, ?_, by
      simp only [List.getElem_append_left c]
      exact ha2 i c⟩
    have h2 : ((cs.drop f.offset).take (P.cellsOf f.type))[i]? = some (((cs.drop f.offset).take (P.cellsOf f.type))[i]'(by omega)) := List.getElem?_eq_getElem _
    rw [List.getElem?_take] at h2
    split at h2
    · rw [List.getElem?_drop] at h2
      rw [← h2]
      congr 1
      omega
    · cases h2
  · have hi' : i - (e a).length < (e' b).length := by simp only [List.length_append] at hi; omega
    obtain ⟨v, h2, h3⟩ := hb2 (i - (e a).length) hi'
    refine ⟨v, ?_, ?_⟩
    · rw [← h2, he]
      congr 1
      have := he a
      omega
    · simp only [List.getElem_append_right (Nat.le_of_not_lt c)]
      exact h3
theorem Opens.struct {t : TypeId} {fs : Array Field} {α : Type} {e : α → List Ce} {good : α → Prop} {s : Nat} (ht : P.underlying t = some (.struct fs)) (h : OpensF enc P W fs 0 0 e good) (hs : P.cellsOf t = s) (he : ∀ a, (e a).length = s) : Opens enc P W t e good := by
  constructor
  intro fuel cs x h1 h2
  obtain ⟨xs, n, rfl, rfl, hl, hxl, hx⟩ := DataW.trod_struct ht h1
  obtain ⟨a, ha, ha2⟩ := h.op cs n xs hxl hx (fun i f y hf hy m hm => h2 m (by
    simp only [DataW.weights, ht]
    refine DataW.weights_mem_each (j := i) (t := f.type) (d := y.1) ?_ ?_ m hm
    · rw [List.getElem?_map, Array.getElem?_toList, hf]; rfl
    · rw [List.getElem?_map, hy]; rfl))
  refine ⟨a, ha, by rw [he, hl, hs], fun i hi => ?_⟩
  obtain ⟨v, h3, h4⟩ := ha2 i hi
  rw [Nat.zero_add] at h3
  obtain ⟨_, rfl⟩ := List.getElem?_eq_some_iff.1 h3
  exact h4
/-- An argument of a row. -/
theorem Opens.agg {t : TypeId} {fs : Array Field} {α : Type} {e : α → List Ce} {good : α → Prop} (h : Opens enc P W t e good) (ht : P.underlying t = some (.struct fs)) {r : Reach} {b0 : Nat} {v : Value} (hv : Value.okWide P W r b0 t v) {d : DataW H} {ps : List MemPlace} (hd : DataW.Trod enc P W 0 (fun _ => true) true t v d ps) (hw : ∀ n ∈ d.weights P t, n ≤ reachBytes) :
    ∃ a, good a ∧ RpV (Cx.at W) (.agg (e a)) v := by
  simp only [Value.okWide, ht] at hv
  obtain ⟨cs, rfl, _, _⟩ := hv
  obtain ⟨fuel, hf⟩ := hd
  obtain ⟨a, ha, hl, hr⟩ := h.op fuel _ _ hf hw
  refine ⟨a, ha, .agg (by simpa [Value.cells] using hl) fun i hi => ?_⟩
  have := hr i hi
  simpa [Value.cells] using this
theorem Opens.c {t : TypeId} {α : Type} {e : α → Ce} {good : α → Prop} (h : Opens enc P W t (fun a => [e a]) good) {v : Value} (hv : v.cells = #[v]) {d : DataW H} {ps : List MemPlace} (hd : DataW.Trod enc P W 0 (fun _ => true) true t v d ps) (hw : ∀ n ∈ d.weights P t, n ≤ reachBytes) :
    ∃ a, good a ∧ RpV (Cx.at W) (.c (e a)) v := by
  obtain ⟨fuel, hf⟩ := hd
  rw [hv] at hf
  obtain ⟨a, ha, hl, hr⟩ := h.op fuel _ _ hf hw
  exact ⟨a, ha, .c (hr 0 (by simp))⟩
theorem cells_slice {t el : TypeId} (ht : P.underlying t = some (.slice el)) {r : Reach} {b0 : Nat} {v : Value} (hv : Value.okWide P W r b0 t v) : v.cells = #[v] := by
  obtain ⟨a, len, cap, rfl⟩ := okWide_slice ht hv
  rfl
theorem cells_int {t : TypeId} {k : IntKind} (ht : P.underlying t = some (.int k)) {r : Reach} {b0 : Nat} {v : Value} (hv : Value.okWide P W r b0 t v) : v.cells = #[v] := by
  obtain ⟨n, rfl⟩ := okWide_int ht hv
  rfl
end
end Go.Proofs.YtdgnfdljkghpjaaGreat.Am
