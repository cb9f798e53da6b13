/- The abstract machine, part 18: regions whose order is drawn. -/
import Derived.Test.YtjlhfjpnnildhaaAm17
set_option linter.unusedVariables false
set_option linter.unusedSimpArgs false
namespace Go.Proofs.Ytjlhfjpnnildhaa.Am
open Go.RowKit

/-! ### An operation looks at its operands only -/
theorem Opd.ev_congr {fr fr' : Fr} {x : Opd} (h : ∀ t ∈ x.tmps, look fr t = look fr' t) : x.ev fr = x.ev fr' := by
  cases x with
  | t i => exact h i (by simp [Opd.tmps])
  | _ => rfl
theorem evo_congr {fr fr' : Fr} {x : Option Opd} (h : ∀ t ∈ ol x, look fr t = look fr' t) : evo fr x = evo fr' x := by
  cases x with
  | none => rfl
  | some x => simp only [evo]; rw [Opd.ev_congr h]
theorem fillA_congr {fr fr' : Fr} : ∀ {ps : List (Nat × Nat × Opd)} {z : List Ce}, (∀ t ∈ ps.flatMap (fun p => p.2.2.tmps), look fr t = look fr' t) → fillA fr z ps = fillA fr' z ps
  | [], z, h => rfl
  | (off, s, x) :: r, z, h => by
    have e := Opd.ev_congr (fr := fr) (fr' := fr') (x := x) (fun t ht => h t (by simp [ht]))
    simp only [fillA, e]
    split
    · split
      · exact fillA_congr fun t ht => h t (by simp only [List.flatMap_cons, List.mem_append]; exact .inr ht)
      · rfl
    · rfl
theorem fillS_congr {fr fr' : Fr} {s : Nat} : ∀ {ps : List (Nat × Opd)} {z : List (List Ce)}, (∀ t ∈ ps.flatMap (fun p => p.2.tmps), look fr t = look fr' t) → fillS fr s z ps = fillS fr' s z ps
  | [], z, h => rfl
  | (i, x) :: r, z, h => by
    have e := Opd.ev_congr (fr := fr) (fr' := fr') (x := x) (fun t ht => h t (by simp [ht]))
    simp only [fillS, e]
    split
    · split
      · exact fillS_congr fun t ht => h t (by simp only [List.flatMap_cons, List.mem_append]; exact .inr ht)
      · rfl
    · rfl
theorem evs_congr {fr fr' : Fr} : ∀ {xs : List Opd}, (∀ t ∈ xs.flatMap Opd.tmps, look fr t = look fr' t) → evs fr xs = evs fr' xs
  | [], h => rfl
  | x :: r, h => by
    have e := Opd.ev_congr (fr := fr) (fr' := fr') (x := x) (fun t ht => h t (by simp [ht]))
    have e' : evs fr r = evs fr' r := evs_congr fun t ht => h t (by simp only [List.flatMap_cons, List.mem_append]; exact .inr ht)
    simp only [evs, e, e']
theorem evc_congr {fr fr' : Fr} : ∀ {xs : List Opd}, (∀ t ∈ xs.flatMap Opd.tmps, look fr t = look fr' t) → evc fr xs = evc fr' xs
  | [], h => rfl
  | x :: r, h => by
    have e := Opd.ev_congr (fr := fr) (fr' := fr') (x := x) (fun t ht => h t (by simp [ht]))
    have e' : evc fr r = evc fr' r := evc_congr fun t ht => h t (by simp only [List.flatMap_cons, List.mem_append]; exact .inr ht)
    simp only [evc, e, e']
theorem aop_congr {fr fr' : Fr} {σ : Store} {o : AOp} (h : ∀ t ∈ o.tmps, look fr t = look fr' t) : aop o fr σ = aop o fr' σ := by
  cases o <;> simp only [AOp.tmps, List.mem_append] at h
  case alloc => rfl
  case build z ps => simp only [aop, fillA_congr h]
  case mksl fz s n z ps => simp only [aop, fillS_congr h]
  case mkfn f p c => simp only [aop, evc_congr (fun t ht => h t (.inl ht)), evc_congr (fun t ht => h t (.inr ht))]
  case slice s x a b c =>
    simp only [aop, Opd.ev_congr (fun t ht => h t (.inl (.inl (.inl ht)))), evo_congr (fun t ht => h t (.inl (.inl (.inr ht)))), evo_congr (fun t ht => h t (.inl (.inr ht))), evo_congr (fun t ht => h t (.inr ht))]
  case strsl x a b =>
    simp only [aop, Opd.ev_congr (fun t ht => h t (.inl (.inl ht))), evo_congr (fun t ht => h t (.inl (.inr ht))), evo_congr (fun t ht => h t (.inr ht))]
  case pick a b c =>
    simp only [aop, Opd.ev_congr (fun t ht => h t (.inl (.inl ht))), Opd.ev_congr (fun t ht => h t (.inl (.inr ht))), Opd.ev_congr (fun t ht => h t (.inr ht))]
  all_goals first
    | (simp only [aop, Opd.ev_congr h]; done)
    | (simp only [aop, Opd.ev_congr (fun t ht => h t (.inl ht)), Opd.ev_congr (fun t ht => h t (.inr ht))]; done)
theorem wants_congr {fr fr' : Fr} {g : Option (Nat × Bool)} (h : ∀ t b, g = some (t, b) → look fr t = look fr' t) : wants fr g = wants fr' g := by
  cases g with
  | none => rfl
  | some x => simp only [wants, h x.1 x.2 rfl]

theorem mem_numbered {α : Type} : ∀ {l : List α} {p i : Nat} {x : α}, (i, x) ∈ numbered p l ↔ ∃ k, ∃ h : k < l.length, i = p + k ∧ x = l[k]
  | [], p, i, x => by simp [numbered]
  | y :: l, p, i, x => by
    simp only [numbered, List.mem_cons, Prod.mk.injEq, mem_numbered]
    constructor
    · rintro (⟨rfl, rfl⟩ | ⟨k, h, rfl, rfl⟩)
      · exact ⟨0, by simp, by simp, by simp⟩
      · exact ⟨k + 1, by simp; omega, by omega, by simp⟩
    · rintro ⟨k, h, rfl, rfl⟩
      cases k with
      | zero => exact .inl ⟨by simp, by simp⟩
      | succ k => exact .inr ⟨k, by simpa using h, by omega, by simp⟩

/-! ### A segment's facts -/
def QF (P : Program) (σ : Store) (F : Fr) (x : AOper) : Prop :=
  ∃ v, (∀ d, x.dst = some d → look F d = some v) ∧
    ((wants F x.guard = some true ∧ ((∃ o, x.op = .op o ∧ aop o F σ = some (v, σ)) ∨
      ∃ f args n pre cap vs, x.op = .call f args ∧ f.ev F = some (.c (.fn n pre cap)) ∧ evs F args = some vs ∧ Ok P n (pre.map .c ++ vs ++ cap.map .c) σ (fun r' σ' => r' = v ∧ σ' = σ))) ∨
     (wants F x.guard = some false ∧ v = .tup []))
def LateOk : List AOper → Prop
  | [] => True
  | o :: r => (∀ y ∈ o :: r, ∀ t ∈ o.looks, y.dst ≠ some t) ∧ (∀ d, o.dst = some d → ∀ y ∈ r, y.dst ≠ some d) ∧ LateOk r
theorem look_putA_ne {fr : Fr} {d : Option Nat} {v : AV} {t : Nat} (h : d ≠ some t) : look (putA fr d v) t = look fr t := by
  cases d with
  | none => rfl
  | some d => simp only [putA, look]; rw [if_neg (fun e => h (by rw [e]))]
theorem Qs.facts {P : Program} {σ : Store} {seg : List AOper} {fr F : Fr} (h : Qs P σ seg fr F) : LateOk seg → (∀ t, (∀ y ∈ seg, y.dst ≠ some t) → look F t = look fr t) ∧ ∀ x ∈ seg, QF P σ F x := by
  have key : ∀ {d : Option Nat} {g : Option (Nat × Bool)} {op : AO} {rest : List AOper} {fr F : Fr} {v : AV}, LateOk (⟨d, op, g⟩ :: rest) →
      ((∀ t, (∀ y ∈ rest, y.dst ≠ some t) → look F t = look (putA fr d v) t) ∧ ∀ x ∈ rest, QF P σ F x) →
      (∀ t, (∀ y ∈ (⟨d, op, g⟩ :: rest : List AOper), y.dst ≠ some t) → look F t = look fr t) ∧ (∀ d', d = some d' → look F d' = some v) ∧ (∀ t ∈ (⟨d, op, g⟩ : AOper).looks, look fr t = look F t) := by
    intro d g op rest fr F v hl ⟨h1, h2⟩
    obtain ⟨l1, l2, l3⟩ := hl
    have a : ∀ t, (∀ y ∈ (⟨d, op, g⟩ :: rest : List AOper), y.dst ≠ some t) → look F t = look fr t := by
      intro t ht
      rw [h1 t fun y hy => ht y (List.mem_cons_of_mem _ hy)]
      exact look_putA_ne (ht ⟨d, op, g⟩ (by simp))
    refine ⟨a, fun d' hd => ?_, fun t ht => (a t fun y hy => l1 y hy t ht).symm⟩
    subst hd
    rw [h1 d' fun y hy => l2 d' rfl y hy]
    simp [putA, look]
  have gd : ∀ {d : Option Nat} {g : Option (Nat × Bool)} {op : AO} {fr F : Fr}, (∀ t ∈ (⟨d, op, g⟩ : AOper).looks, look fr t = look F t) → wants fr g = wants F g := by
    intro d g op fr F hh
    refine wants_congr fun t b e => hh t ?_
    subst e
    simp [AOper.looks]
  induction h with
  | nil => exact fun _ => ⟨fun _ _ => rfl, fun x hx => by simp at hx⟩
  | same he _ ih => exact fun hl => ⟨fun t ht => ((ih hl).1 t ht).trans (he t), (ih hl).2⟩
  | @op d o g rest fr F v hw ha _ ih =>
    intro hl
    have := ih hl.2.2
    obtain ⟨a, b, c⟩ := key hl this
    refine ⟨a, fun x hx => ?_⟩
    rcases List.mem_cons.1 hx with rfl | hx
    · exact ⟨v, b, .inl ⟨by rw [← gd c]; exact hw, .inl ⟨o, rfl, by rw [← aop_congr fun t ht => c t (by simp [AOper.looks, ht])]; exact ha⟩⟩⟩
    · exact this.2 x hx
  | @no d o g rest fr F hw _ ih =>
    intro hl
    have := ih hl.2.2
    obtain ⟨a, b, c⟩ := key hl this
    refine ⟨a, fun x hx => ?_⟩
    rcases List.mem_cons.1 hx with rfl | hx
    · exact ⟨.tup [], b, .inr ⟨by rw [← gd c]; exact hw, rfl⟩⟩
    · exact this.2 x hx
  | @call d f args g rest fr F n pre cap vs r hw hf hargs hok _ ih =>
    intro hl
    have := ih hl.2.2
    obtain ⟨a, b, c⟩ := key hl this
    refine ⟨a, fun x hx => ?_⟩
    rcases List.mem_cons.1 hx with rfl | hx
    · exact ⟨r, b, .inl ⟨by rw [← gd c]; exact hw, .inr ⟨f, args, n, pre, cap, vs, rfl, by rw [← Opd.ev_congr fun t ht => c t (by simp [AOper.looks, ht])]; exact hf, by rw [← evs_congr fun t ht => c t (by simp only [AOper.looks, List.mem_append]; exact .inl (.inr ht))]; exact hargs, hok⟩⟩⟩
    · exact this.2 x hx

/-! ### What comes after what -/
theorem testBit_maskOf {j : Nat} : ∀ {l : List Nat}, (maskOf l).testBit j = true ↔ j ∈ l
  | [] => by simp [maskOf]
  | x :: l => by
    have := testBit_maskOf (j := j) (l := l)
    simp only [maskOf, List.foldr_cons, Nat.testBit_or, Nat.one_shiftLeft, Nat.testBit_two_pow, Bool.or_eq_true, decide_eq_true_eq, List.mem_cons] at this ⊢
    rw [this]
    exact or_congr ⟨Eq.symm, Eq.symm⟩ Iff.rfl
theorem coverTo_sound {ms : List Nat} {D : Nat → Prop} (hD : ∀ i, D i → ∀ j, (ms.getD i 0).testBit j = true → D j) : ∀ (k m : Nat), (∀ j, m.testBit j = true → D j) → ∀ j, (coverTo ms k m).testBit j = true → D j
  | 0, m, h, j, hj => h j hj
  | k + 1, m, h, j, hj => by
    refine coverTo_sound hD k _ (fun i hi => ?_) j hj
    split at hi
    · rename_i hk
      rw [Nat.testBit_or, Bool.or_eq_true] at hi
      rcases hi with hi | hi
      · exact h i hi
      · exact hD k (h k hk) i hi
    · exact h i hi
theorem cutAt_sound {ms : List Nat} {q : Nat} (hc : cutAt (covers ms) q = true) {D : Nat → Prop} (hD : ∀ i, D i → ∀ j, (ms.getD i 0).testBit j = true → D j) {i : Nat} (hi : q ≤ i) (hl : i < ms.length) (h : ∀ j, (ms.getD i 0).testBit j = true → D j) {j : Nat} (hj : j < q) : D j := by
  unfold cutAt at hc
  rw [List.all_eq_true] at hc
  have hm : coverTo ms i (ms.getD i 0) ∈ (covers ms).drop q := by
    rw [List.mem_iff_getElem]
    refine ⟨i - q, by simp [covers]; omega, ?_⟩
    simp only [covers, List.getElem_drop, List.getElem_map, List.getElem_range]
    rw [show q + (i - q) = i by omega]
  have := hc _ hm
  rw [beq_iff_eq] at this
  have hb : (coverTo ms i (ms.getD i 0)).testBit j = true := by
    have e := congrArg (fun n => n.testBit j) this
    simp only [Nat.testBit_and, Nat.testBit_two_pow_sub_one, decide_eq_true hj, Bool.and_true] at e
    exact e
  exact coverTo_sound hD i _ h j hb

/-- The places, and what each comes after. -/
structure Aft (ops : Array Oper) (ms : List Nat) : Prop where
  len : ms.length = ops.size
  bit : ∀ i o, ops[i]? = some o → ∀ j, (ms.getD i 0).testBit j = true ↔ j ∈ aftOf o
  lt : ∀ i j, (ms.getD i 0).testBit j = true → j < i
def Upto (n p : Nat) (listed : Array Bool) : Prop := listed.size = n ∧ ∀ i, i < n → listed[i]? = some (decide (i < p))
def rem (n : Nat) (listed : Array Bool) : Nat := (List.range n).countP fun i => !listed.getD i true

theorem ready_iff {ops : Array Oper} {ms : List Nat} (hA : Aft ops ms) {listed : Array Bool} (hs : listed.size = ops.size) {i : Nat} :
    i ∈ Region.ready .any ops listed ↔ i < ops.size ∧ listed[i]? = some false ∧ ∀ j, (ms.getD i 0).testBit j = true → listed[j]? = some true := by
  unfold Region.ready
  rw [List.mem_filter, List.mem_range]
  refine and_congr_right fun hi => ?_
  obtain ⟨o, ho⟩ : ∃ o, ops[i]? = some o := ⟨ops[i], by simp [hi]⟩
  have hb := hA.bit i o ho
  have hli : listed[i]? = some (listed[i]'(by omega)) := by simp [hs, hi]
  simp only [ho, Option.map_some, Option.getD_some, Bool.and_eq_true, Array.getD_eq_getD_getElem?, hli]
  have e1 : ((!listed[i]'(by omega)) = true) ↔ some (listed[i]'(by omega)) = some false := by
    cases listed[i]'(by omega) <;> simp
  rw [e1]
  refine and_congr_right fun _ => ?_
  rw [Array.all_eq_true']
  constructor
  · intro h j hj
    rw [hb] at hj
    simp only [aftOf, List.mem_map, List.mem_filter, Array.mem_toList_iff] at hj
    obtain ⟨e, ⟨he1, he2⟩, rfl⟩ := hj
    have := h e he1
    rw [he2] at this
    simp only [Bool.not_true, Bool.false_or] at this
    cases hq : listed[e.on]? with
    | none => simp [hq] at this
    | some b => simpa [hq] using this
  · intro h e he
    cases hbd : Region.binds .any e with
    | false => simp
    | true =>
      have : listed[e.on]? = some true := h e.on ((hb _).2 (by simp only [aftOf, List.mem_map, List.mem_filter, Array.mem_toList_iff]; exact ⟨e, ⟨he, hbd⟩, rfl⟩))
      simp [this]

theorem countP_turn {p p' : Nat → Bool} {i : Nat} (h : ∀ j, j ≠ i → p' j = p j) (h1 : p i = true) (h2 : p' i = false) : ∀ n, (List.range n).countP p' + (if i < n then 1 else 0) = (List.range n).countP p
  | 0 => by simp
  | n + 1 => by
    have ih := countP_turn h h1 h2 n
    rw [List.range_succ, List.countP_append, List.countP_append]
    simp only [List.countP_cons, List.countP_nil]
    by_cases e : n = i
    · subst e
      simp only [h1, h2]
      simp at ih ⊢
      omega
    · rw [h n e]
      by_cases e2 : i < n
      · simp [e2] at ih ⊢
        have : i < n + 1 := by omega
        simp [this]
        omega
      · have : ¬ i < n + 1 := by omega
        simp [e2, this] at ih ⊢
        omega
theorem rem_set {n i : Nat} {listed : Array Bool} (hs : listed.size = n) (hi : listed[i]? = some false) : rem n (listed.setIfInBounds i true) + 1 = rem n listed := by
  have hlt : i < n := by
    rw [← hs]
    exact (Array.getElem?_eq_some_iff.1 hi).1
  have := countP_turn (p := fun j => !listed.getD j true) (p' := fun j => !(listed.setIfInBounds i true).getD j true) (i := i)
    (fun j hj => by simp [Array.getElem?_setIfInBounds_ne (Ne.symm hj)]) (by simp [hi]) (by simp [hs, hlt]) n
  simpa [rem, hlt] using this
theorem rem_pos {n i : Nat} {listed : Array Bool} (hs : listed.size = n) (hi : listed[i]? = some false) : 0 < rem n listed := by
  have := rem_set hs hi
  omega

section
variable {P : Program} {ops : Array Oper} {ms : List Nat} {Q : Exit → Act → World → Prop}
theorem any_nil (hA : Aft ops ms) {listed : Array Bool} (hU : Upto ops.size ops.size listed) {a : Act} {w : World} (h : Q .normal a w) (fuel : Nat) : wpAny P .any ops Q fuel listed a w := by
  have hr : Region.ready .any ops listed = [] := by
    rw [List.eq_nil_iff_forall_not_mem]
    intro i hi
    obtain ⟨h1, h2, _⟩ := (ready_iff hA hU.1).1 hi
    have := hU.2 i h1
    rw [h2] at this
    simp [h1] at this
  cases fuel with
  | zero => exact ⟨hr, h⟩
  | succ n => exact ⟨fun _ => h, fun i hi => by rw [hr] at hi; simp at hi⟩
theorem Upto.closed (hA : Aft ops ms) {p : Nat} {listed : Array Bool} (hU : Upto ops.size p listed) (hp : p ≤ ops.size) : ∀ i, listed[i]? = some true → ∀ j, (ms.getD i 0).testBit j = true → listed[j]? = some true := by
  intro i hi j hj
  have hlt : i < ops.size := by rw [← hU.1]; exact (Array.getElem?_eq_some_iff.1 hi).1
  have h1 := hU.2 i hlt
  rw [hi] at h1
  simp at h1
  have h2 := hA.lt i j hj
  rw [hU.2 j (by omega)]
  simp; omega
theorem any_one (hA : Aft ops ms) {p : Nat} {listed : Array Bool} (hU : Upto ops.size p listed) (hp : p < ops.size) (hcut : p + 1 < ops.size → cutAt (covers ms) (p + 1) = true) {fuel : Nat} (hf : rem ops.size listed ≤ fuel) {a : Act} {w : World}
    (h : ∀ fuel' listed', Upto ops.size (p + 1) listed' → rem ops.size listed' ≤ fuel' → wpOp P ops Q p (wpAny P .any ops Q fuel' listed') a w) : wpAny P .any ops Q fuel listed a w := by
  have hpl : listed[p]? = some false := by rw [hU.2 p hp]; simp
  have hrp : p ∈ Region.ready .any ops listed := by
    rw [ready_iff hA hU.1]
    refine ⟨hp, hpl, fun j hj => ?_⟩
    have := hA.lt p j hj
    rw [hU.2 j (by omega)]
    simp [this]
  have hpos := rem_pos hU.1 hpl
  cases fuel with
  | zero => omega
  | succ n =>
    refine ⟨fun e => by rw [e] at hrp; simp at hrp, fun i hi => ?_⟩
    obtain ⟨h1, h2, h3⟩ := (ready_iff hA hU.1).1 hi
    have hge : p ≤ i := by
      rw [hU.2 i h1] at h2
      simp at h2
      exact h2
    have : i = p := by
      by_cases e : i = p
      · exact e
      · have := cutAt_sound (hcut (by omega)) (D := fun j => listed[j]? = some true) (hU.closed hA (by omega)) (i := i) (by omega) (by rw [hA.len]; exact h1) h3 (j := p) (by omega)
        rw [hpl] at this
        cases this
    subst this
    have hrem := rem_set hU.1 hpl
    refine h n _ ⟨by simp [hU.1], fun j hj => ?_⟩ (by omega)
    by_cases e : i = j
    · subst e; simp [hU.1, hp]
    · rw [Array.getElem?_setIfInBounds_ne e, hU.2 j hj]
      congr 1
      simp
      omega

theorem look_filter {g : Nat → Bool} {t : Nat} : ∀ {F : Fr}, look (F.filter fun e => g e.1) t = if g t then look F t else none
  | [] => by simp [look]
  | (j, x) :: r => by
    simp only [List.filter_cons]
    have ih := look_filter (g := g) (t := t) (F := r)
    by_cases e : j = t
    · subst e
      cases hg : g j
      · simp only [hg, Bool.false_eq_true, if_false] at ih ⊢; exact ih
      · simp [look]
    · cases hg : g j
      · simp only [Bool.false_eq_true, if_false, look, if_neg e]; exact ih
      · simp only [if_true, look, if_neg e]; exact ih

open Classical in
theorem any_quiet {fz : List Nat} {nt p : Nat} {σ : Store} {F : Fr} {seg : List AOper} {C0 : Cx} (hA : Aft ops ms) (hq : p + seg.length ≤ ops.size)
    (hseg : ∀ k (h : k < seg.length), ∃ o, ops[p + k]? = some o ∧ compOper P fz nt ops o = some seg[k])
    (hlook : ∀ k k' (h : k < seg.length) (h' : k' < seg.length) t, t ∈ seg[k].looks → seg[k'].dst = some t → (ms.getD (p + k) 0).testBit (p + k') = true)
    (hcut : p + seg.length < ops.size → cutAt (covers ms) (p + seg.length) = true)
    (hQ : ∀ x ∈ seg, QF P σ F x)
    (hnext : ∀ (D : Cx) (a : Act) (listed : Array Bool) (fuel : Nat), Upto ops.size (p + seg.length) listed → rem ops.size listed ≤ fuel → C0.Le D → FrR D nt F a → Rl D σ → wpAny P .any ops Q fuel listed a D.w) :
    ∀ (fuel : Nat) (listed : Array Bool) (C : Cx) (a : Act), listed.size = ops.size → (∀ i, i < p → listed[i]? = some true) → (∀ i, p + seg.length ≤ i → i < ops.size → listed[i]? = some false) →
      (∀ i, listed[i]? = some true → ∀ j, (ms.getD i 0).testBit j = true → listed[j]? = some true) → rem ops.size listed ≤ fuel → C0.Le C → Rl C σ →
      a.defers = [] → a.tmps.size = nt → (∀ t x, look F t = some x → (∀ k (h : k < seg.length), seg[k].dst = some t → listed[p + k]? = some true) → t < nt ∧ RpV C x (a.tmps.getD t undef)) →
      wpAny P .any ops Q fuel listed a C.w := by
  intro fuel
  induction fuel with
  | zero =>
    intro listed C a hs hlo hhi hdc hrem le hR hd hn hF
    have all : ∀ i, i < p + seg.length → listed[i]? = some true := by
      intro i hi
      have hlt : i < listed.size := by omega
      cases hb : listed[i]'hlt with
      | true => simp [hlt, hb]
      | false =>
        have := rem_pos (n := ops.size) (i := i) hs (by simp [hlt, hb])
        omega
    refine hnext C a listed 0 ⟨hs, fun i hi => ?_⟩ hrem le ⟨hd, hn, fun t x hx => hF t x hx fun k h _ => all _ (by omega)⟩ hR
    by_cases e : i < p + seg.length
    · rw [all i e]; simp [e]
    · rw [hhi i (by omega) hi]; simp [e]
  | succ n ih =>
    intro listed C a hs hlo hhi hdc hrem le hR hd hn hF
    by_cases hall : ∀ i, i < p + seg.length → listed[i]? = some true
    · refine hnext C a listed (n + 1) ⟨hs, fun i hi => ?_⟩ hrem le ⟨hd, hn, fun t x hx => hF t x hx fun k h _ => hall _ (by omega)⟩ hR
      by_cases e : i < p + seg.length
      · rw [hall i e]; simp [e]
      · rw [hhi i (by omega) hi]; simp [e]
    · have hun : ∃ i, i < p + seg.length ∧ listed[i]? = some false := by
        simp only [not_forall] at hall
        obtain ⟨i, hi, hne⟩ := hall
        refine ⟨i, hi, ?_⟩
        have hlt : i < listed.size := by omega
        cases hb : listed[i]'hlt with
        | true => exact absurd (by simp [hlt, hb]) hne
        | false => simp [hlt, hb]
      have hready : Region.ready .any ops listed ≠ [] := by
        obtain ⟨i, hi, hf⟩ := hun
        have : ∀ m i, i < m → i < p + seg.length → listed[i]? = some false → ∃ r, r ∈ Region.ready .any ops listed := by
          intro m
          induction m with
          | zero => intro i hi; omega
          | succ m ihm =>
            intro i him hi hf
            by_cases hr : ∀ j, (ms.getD i 0).testBit j = true → listed[j]? = some true
            · exact ⟨i, (ready_iff hA hs).2 ⟨by omega, hf, hr⟩⟩
            · simp only [not_forall] at hr
              obtain ⟨j, hj, hne⟩ := hr
              have hji := hA.lt i j hj
              have hlt : j < listed.size := by omega
              refine ihm j (by omega) (by omega) ?_
              cases hb : listed[j]'hlt with
              | true => exact absurd (by simp [hlt, hb]) hne
              | false => simp [hlt, hb]
        obtain ⟨r, hr⟩ := this (i + 1) i (by omega) hi hf
        intro e
        rw [e] at hr
        simp at hr
      refine ⟨fun e => absurd e hready, fun i hi => ?_⟩
      obtain ⟨h1, h2, h3⟩ := (ready_iff hA hs).1 hi
      have hge : p ≤ i := by
        by_cases e : i < p
        · rw [hlo i e] at h2; cases h2
        · omega
      have hlt : i < p + seg.length := by
        by_cases e : i < p + seg.length
        · exact e
        · obtain ⟨j, hj, hf⟩ := hun
          have := cutAt_sound (hcut (by omega)) (D := fun j => listed[j]? = some true) hdc (i := i) (by omega) (by rw [hA.len]; exact h1) h3 (j := j) hj
          rw [hf] at this
          cases this
      obtain ⟨k, rfl⟩ : ∃ k, i = p + k := ⟨i - p, by omega⟩
      have hk : k < seg.length := by omega
      obtain ⟨o, ho, hc⟩ := hseg k hk
      obtain ⟨v, hv, hstep⟩ := hQ seg[k] (List.getElem_mem hk)
      let g : Nat → Bool := fun t => decide (∀ k (h : k < seg.length), seg[k].dst = some t → listed[p + k]? = some true)
      let F' : Fr := F.filter fun e => g e.1
      have hlk : ∀ t, look F' t = if g t then look F t else none := fun t => look_filter
      have hF' : FrR C nt F' a := by
        refine ⟨hd, hn, fun t x hx => ?_⟩
        rw [hlk] at hx
        split at hx
        · rename_i hg
          exact hF t x hx (of_decide_eq_true hg)
        · cases hx
      have hsame : ∀ t ∈ seg[k].looks, look F t = look F' t := by
        intro t ht
        rw [hlk, if_pos]
        exact decide_eq_true fun k' h' hd' => h3 _ (hlook k k' hk h' t ht hd')
      have hgd : wants F seg[k].guard = wants F' seg[k].guard := wants_congr fun t b e => hsame t (by simp [AOper.looks, e])
      have hafter : ∀ (D : Cx) (a' : Act), Rl D σ → C.Le D → FrR D nt (putA F' seg[k].dst v) a' → wpAny P .any ops Q n (listed.setIfInBounds (p + k) true) a' D.w := by
        intro D a' hRD hle hFD
        have hset : ∀ j, j ≠ p + k → (listed.setIfInBounds (p + k) true)[j]? = listed[j]? := fun j hj => Array.getElem?_setIfInBounds_ne (Ne.symm hj)
        have hself : (listed.setIfInBounds (p + k) true)[p + k]? = some true := by simp [hs, h1]
        refine ih _ D a' (by simp [hs]) (fun j hj => by rw [hset j (by omega)]; exact hlo j hj) (fun j hj hj2 => by rw [hset j (by omega)]; exact hhi j hj hj2) (fun j hj m hm => ?_) (by have := rem_set hs h2; omega) (le.trans hle) hRD hFD.defers hFD.size (fun t x hx hw => ?_)
        · by_cases e : m = p + k
          · subst e; exact hself
          · rw [hset m e]
            by_cases e2 : j = p + k
            · subst e2; exact h3 m hm
            · rw [hset j e2] at hj
              exact hdc j hj m hm
        · by_cases e : seg[k].dst = some t
          · have := hv t e
            rw [hx] at this
            injection this with this
            subst this
            exact hFD.slot t x (by rw [e]; simp [putA, look])
          · refine hFD.slot t x ?_
            rw [look_putA_ne e, hlk, if_pos]
            · exact hx
            · refine decide_eq_true fun k' h' hd' => ?_
              by_cases e2 : p + k' = p + k
              · have : k' = k := by omega
                subst this
                exact absurd hd' e
              · have := hw k' h' hd'
                rwa [hset _ e2] at this
      rcases hstep with ⟨hw, hop | ⟨f, args, m, pre, cap, vs, hop, hf, hargs, hok⟩⟩ | ⟨hw, rfl⟩
      · obtain ⟨ao, hop, ha⟩ := hop
        have hc' : compOper P fz nt ops o = some ⟨seg[k].dst, .op ao, seg[k].guard⟩ := by rw [hc, ← hop]
        refine sound_op ho hc' (by rw [← hgd]; exact hw) (σ := σ) (σ' := σ) (v := v) ?_ hF' hR fun D a' q1 q2 q3 => hafter D a' q1 q2 q3
        rw [← aop_congr fun t ht => hsame t (by simp [AOper.looks, hop, ht])]
        exact ha
      · have hc' : compOper P fz nt ops o = some ⟨seg[k].dst, .call f args, seg[k].guard⟩ := by rw [hc, ← hop]
        refine sound_call ho hc' (by rw [← hgd]; exact hw) (by rw [← Opd.ev_congr fun t ht => hsame t (by simp [AOper.looks, hop, ht])]; exact hf)
          (by rw [← evs_congr fun t ht => hsame t (by simp only [AOper.looks, hop, List.mem_append]; exact .inl (.inr ht))]; exact hargs) hok hF' hR ?_
        rintro D a' r σ' ⟨rfl, rfl⟩ q1 q2 q3
        exact hafter D a' q1 q2 q3
      · have hc' : compOper P fz nt ops o = some ⟨seg[k].dst, seg[k].op, seg[k].guard⟩ := hc
        exact sound_no ho hc' (by rw [← hgd]; exact hw) hF' fun a' q3 => hafter C a' hR (.refl C) q3

/-! ### A segment with calls that may write -/
def Feq (fr fr' : Fr) : Prop := ∀ t, look fr t = look fr' t
theorem Feq.put {fr fr' : Fr} (h : Feq fr fr') (d : Option Nat) (v : AV) : Feq (putA fr d v) (putA fr' d v) := by
  intro t
  cases d with
  | none => exact h t
  | some d => simp only [putA, look]; split <;> first | rfl | exact h t
theorem Feq.swap {fr : Fr} {d e : Option Nat} {v u : AV} (h : ∀ t, d = some t → e ≠ some t) : Feq (putA (putA fr d v) e u) (putA (putA fr e u) d v) := by
  intro t
  cases d with
  | none => rfl
  | some d =>
    cases e with
    | none => rfl
    | some e =>
      have hne : d ≠ e := fun c => h d rfl (by rw [c])
      simp only [putA, look]
      by_cases c : e = t
      · subst c; simp [hne]
      · simp [c]
theorem Qc.feq {Z : Fr → Store → Prop} (hZ : ∀ F F' τ, Feq F F' → Z F τ → Z F' τ) {seg : List AOper} {fr : Fr} {σ : Store} (h : Qc P Z seg fr σ) : ∀ {fr'}, Feq fr fr' → Qc P Z seg fr' σ := by
  induction h with
  | nil h => exact fun he => .nil (hZ _ _ _ he h)
  | op hw ha _ ih => exact fun he => .op (by rw [← wants_congr fun t _ _ => he t]; exact hw) (fun τ => by rw [← aop_congr fun t _ => he t]; exact ha τ) (ih (he.put _ _))
  | no hw _ ih => exact fun he => .no (by rw [← wants_congr fun t _ _ => he t]; exact hw) (ih (he.put _ _))
  | call Q hw hf hargs hok _ ih => exact fun he => .call Q (by rw [← wants_congr fun t _ _ => he t]; exact hw) (by rw [← Opd.ev_congr fun t _ => he t]; exact hf) (by rw [← evs_congr fun t _ => he t]; exact hargs) hok fun r σ' hq => ih r σ' hq (he.put _ _)
theorem Qc.mono {Z Z' : Fr → Store → Prop} (hZ : ∀ F τ, Z F τ → Z' F τ) {seg : List AOper} {fr : Fr} {σ : Store} (h : Qc P Z seg fr σ) : Qc P Z' seg fr σ := by
  induction h with
  | nil h => exact .nil (hZ _ _ h)
  | op hw ha _ ih => exact .op hw ha ih
  | no hw _ ih => exact .no hw ih
  | call Q hw hf hargs hok _ ih => exact .call Q hw hf hargs hok ih
/-- What an operation does now. -/
inductive Nw (P : Program) (N : Fr → Store → Prop) (x : AOper) (fr : Fr) (σ : Store) : Prop where
  | op (o : AOp) (v : AV) : x.op = .op o → wants fr x.guard = some true → (∀ τ, aop o fr τ = some (v, τ)) → N (putA fr x.dst v) σ → Nw P N x fr σ
  | no : wants fr x.guard = some false → N (putA fr x.dst (.tup [])) σ → Nw P N x fr σ
  | call (f : Opd) (args : List Opd) (n : Nat) (pre cap : List Ce) (vs : List AV) (Q : AV → Store → Prop) : x.op = .call f args → wants fr x.guard = some true → f.ev fr = some (.c (.fn n pre cap)) → evs fr args = some vs →
      Ok P n (pre.map .c ++ vs ++ cap.map .c) σ Q → (∀ r σ', Q r σ' → N (putA fr x.dst r) σ') → Nw P N x fr σ
theorem Qc.now {Z : Fr → Store → Prop} {x : AOper} {rest : List AOper} {fr : Fr} {σ : Store} (h : Qc P Z (x :: rest) fr σ) : Nw P (Qc P Z rest) x fr σ := by
  cases h with
  | op hw ha h => exact .op _ _ rfl hw ha h
  | no hw h => exact .no hw h
  | call Q hw hf hargs hok h => exact .call _ _ _ _ _ _ Q rfl hw hf hargs hok h
theorem Nw.qc {Z : Fr → Store → Prop} {x : AOper} {rest : List AOper} {fr : Fr} {σ : Store} (h : Nw P (Qc P Z rest) x fr σ) : Qc P Z (x :: rest) fr σ := by
  obtain ⟨d, op, g⟩ := x
  cases h with
  | op o v e hw ha h => simp only at e; subst e; exact .op hw ha h
  | no hw h => exact .no hw h
  | call f args n pre cap vs Q e hw hf hargs hok h => simp only at e; subst e; exact .call Q hw hf hargs hok h
/-- y and x may change places. -/
structure Apart (y x : AOper) : Prop where
  xy : ∀ t ∈ x.looks, y.dst ≠ some t
  yx : ∀ t ∈ y.looks, x.dst ≠ some t
  dd : ∀ t, y.dst = some t → x.dst ≠ some t
theorem look_skip {fr : Fr} {d : Option Nat} {v : AV} {t : Nat} (h : d ≠ some t) : look fr t = look (putA fr d v) t := (look_putA_ne h).symm
theorem Apart.wants {y x : AOper} (h : Apart y x) (fr : Fr) (v : AV) : wants (putA fr y.dst v) x.guard = Am.wants fr x.guard :=
  wants_congr fun t b e => look_putA_ne (h.xy t (by simp [AOper.looks, e]))
theorem Apart.aop {y x : AOper} (h : Apart y x) (fr : Fr) (v : AV) {o : AOp} (e : x.op = .op o) (τ : Store) : aop o (putA fr y.dst v) τ = Am.aop o fr τ :=
  aop_congr fun t ht => look_putA_ne (h.xy t (by simp [AOper.looks, e, ht]))
theorem Apart.ev {y x : AOper} (h : Apart y x) (fr : Fr) (v : AV) {f : Opd} {args : List Opd} (e : x.op = .call f args) : f.ev (putA fr y.dst v) = f.ev fr :=
  Opd.ev_congr fun t ht => look_putA_ne (h.xy t (by simp [AOper.looks, e, ht]))
theorem Apart.evs {y x : AOper} (h : Apart y x) (fr : Fr) (v : AV) {f : Opd} {args : List Opd} (e : x.op = .call f args) : evs (putA fr y.dst v) args = Am.evs fr args :=
  evs_congr fun t ht => look_putA_ne (h.xy t (by simp only [AOper.looks, e, List.mem_append]; exact .inl (.inr ht)))
theorem Apart.symm {y x : AOper} (h : Apart y x) : Apart x y := ⟨h.yx, h.xy, fun t e e' => h.dd t e' e⟩
/-- An operation that is no call, known to do v, goes ahead. -/
theorem Qc.ahead {Z : Fr → Store → Prop} (hZ : ∀ F F' τ, Feq F F' → Z F τ → Z F' τ) {x : AOper} {s2 : List AOper} {v : AV} : ∀ (s1 : List AOper) {fr : Fr} {σ : Store}, (∀ y ∈ s1, Apart y x) → Qc P Z (s1 ++ x :: s2) fr σ →
    ((∃ o, x.op = .op o ∧ Am.wants fr x.guard = some true ∧ ∀ τ, aop o fr τ = some (v, τ)) ∨ (Am.wants fr x.guard = some false ∧ v = .tup [])) → Qc P Z (s1 ++ s2) (putA fr x.dst v) σ
  | [], fr, σ, _, h, hv => by
    rcases hv with ⟨o, e, hw, ha⟩ | ⟨hw, rfl⟩
    · cases h.now with
      | op o' v' e' hw' ha' hn =>
        rw [e] at e'
        injection e' with e'
        subst e'
        have := ha σ
        rw [ha' σ] at this
        injection this with this
        injection this with this
        subst this
        exact hn
      | no hw' hn => rw [hw] at hw'; cases hw'
      | call f args n pre cap vs Q e' => rw [e] at e'; cases e'
    · cases h.now with
      | op o' v' e' hw' => rw [hw] at hw'; cases hw'
      | no hw' hn => exact hn
      | call f args n pre cap vs Q e' hw' => rw [hw] at hw'; cases hw'
  | y :: s1, fr, σ, hap, h, hv => by
    have hyx := hap y (by simp)
    have hap' : ∀ z ∈ s1, Apart z x := fun z hz => hap z (by simp [hz])
    have hv' : ∀ u, ((∃ o, x.op = .op o ∧ Am.wants (putA fr y.dst u) x.guard = some true ∧ ∀ τ, Am.aop o (putA fr y.dst u) τ = some (v, τ)) ∨ (Am.wants (putA fr y.dst u) x.guard = some false ∧ v = .tup [])) := by
      intro u
      rcases hv with ⟨o, e, hw, ha⟩ | ⟨hw, rfl⟩
      · exact .inl ⟨o, e, by rw [hyx.wants]; exact hw, fun τ => by rw [hyx.aop fr u e]; exact ha τ⟩
      · exact .inr ⟨by rw [hyx.wants]; exact hw, rfl⟩
    have go : ∀ {u σ'}, Qc P Z (s1 ++ x :: s2) (putA fr y.dst u) σ' → Qc P Z (s1 ++ s2) (putA (putA fr x.dst v) y.dst u) σ' := fun hq =>
      (Qc.ahead hZ s1 hap' hq (hv' _)).feq hZ (Feq.swap hyx.dd)
    refine Nw.qc ?_
    cases Qc.now h with
    | op o u e hw ha hn => exact .op o u e (by rw [hyx.symm.wants]; exact hw) (fun τ => by rw [hyx.symm.aop fr v e]; exact ha τ) (go hn)
    | no hw hn => exact .no (by rw [hyx.symm.wants]; exact hw) (go hn)
    | call f args n pre cap vs Q e hw hf hargs hok hn => exact .call f args n pre cap vs Q e (by rw [hyx.symm.wants]; exact hw) (by rw [hyx.symm.ev fr v e]; exact hf) (by rw [hyx.symm.evs fr v e]; exact hargs) hok fun r σ' hq => go (hn r σ' hq)
/-- A call goes ahead of what is no call. -/
theorem Qc.callAhead {Z : Fr → Store → Prop} (hZ : ∀ F F' τ, Feq F F' → Z F τ → Z F' τ) {x : AOper} {s2 : List AOper} (hx : x.op.isCall = true) : ∀ (s1 : List AOper) {fr : Fr} {σ : Store}, (∀ y ∈ s1, Apart y x) → (∀ y ∈ s1, y.op.isCall = false) → Qc P Z (s1 ++ x :: s2) fr σ →
    Nw P (Qc P Z (s1 ++ s2)) x fr σ
  | [], fr, σ, _, _, h => h.now
  | y :: s1, fr, σ, hap, hc, h => by
    have hyx := hap y (by simp)
    have hap' : ∀ z ∈ s1, Apart z x := fun z hz => hap z (by simp [hz])
    have hc' : ∀ z ∈ s1, z.op.isCall = false := fun z hz => hc z (by simp [hz])
    have key : ∀ {u}, Qc P Z (s1 ++ x :: s2) (putA fr y.dst u) σ → (∀ {w σ'}, Qc P Z (s1 ++ s2) (putA (putA fr y.dst u) x.dst w) σ' → Qc P Z (y :: (s1 ++ s2)) (putA fr x.dst w) σ') → Nw P (Qc P Z (y :: (s1 ++ s2))) x fr σ := by
      intro u hq hback
      cases Qc.callAhead hZ hx s1 hap' hc' hq with
      | op o w e hw ha hn => rw [e] at hx; cases hx
      | no hw hn => exact .no (by rw [← hyx.wants fr u]; exact hw) (hback hn)
      | call f args n pre cap vs Q e hw hf hargs hok hn => exact .call f args n pre cap vs Q e (by rw [← hyx.wants fr u]; exact hw) (by rw [← hyx.ev fr u e]; exact hf) (by rw [← hyx.evs fr u e]; exact hargs) hok fun r σ' hqq => hback (hn r σ' hqq)
    cases Qc.now h with
    | op o u e hw ha hn => exact key hn fun hq => Nw.qc (.op o u e (by rw [hyx.symm.wants]; exact hw) (fun τ => by rw [hyx.symm.aop fr _ e]; exact ha τ) (hq.feq hZ (Feq.swap hyx.dd)))
    | no hw hn => exact key hn fun hq => Nw.qc (.no (by rw [hyx.symm.wants]; exact hw) (hq.feq hZ (Feq.swap hyx.dd)))
    | call f args n pre cap vs Q e => have := hc y (by simp); rw [e] at this; cases this
/-- A state that there is. -/
def Live (nt : Nat) (fr : Fr) (σ : Store) : Prop := ∃ (C : Cx) (a : Act), Rl C σ ∧ FrR C nt fr a
theorem Qc.valid {fz : List Nat} {nt : Nat} {Z : Fr → Store → Prop} {x : AOper} {s2 : List AOper} (hx : x.op.isCall = false) : ∀ (s1 : List AOper) {fr : Fr} {σ : Store}, (∀ y ∈ s1, Apart y x) → (∀ y ∈ s1, ∃ o, compOper P fz nt ops o = some y) → Live nt fr σ → Qc P Z (s1 ++ x :: s2) fr σ →
    ∃ v, ((∃ o, x.op = .op o ∧ Am.wants fr x.guard = some true ∧ ∀ τ, aop o fr τ = some (v, τ)) ∨ (Am.wants fr x.guard = some false ∧ v = .tup []))
  | [], fr, σ, _, _, _, h => by
    cases h.now with
    | op o v e hw ha hn => exact ⟨v, .inl ⟨o, e, hw, ha⟩⟩
    | no hw hn => exact ⟨_, .inr ⟨hw, rfl⟩⟩
    | call f args n pre cap vs Q e => rw [e] at hx; cases hx
  | y :: s1, fr, σ, hap, hcm, ⟨C, a, hR, hF⟩, h => by
    have hyx := hap y (by simp)
    have hap' : ∀ z ∈ s1, Apart z x := fun z hz => hap z (by simp [hz])
    have hcm' : ∀ z ∈ s1, ∃ o, compOper P fz nt ops o = some z := fun z hz => hcm z (by simp [hz])
    obtain ⟨oo, hco⟩ := hcm y (by simp)
    have back : ∀ {u σ'}, Live nt (putA fr y.dst u) σ' → Qc P Z (s1 ++ x :: s2) (putA fr y.dst u) σ' → ∃ v, ((∃ o, x.op = .op o ∧ Am.wants fr x.guard = some true ∧ ∀ τ, Am.aop o fr τ = some (v, τ)) ∨ (Am.wants fr x.guard = some false ∧ v = .tup [])) := by
      intro u σ' hl hq
      obtain ⟨v, hv⟩ := Qc.valid hx s1 hap' hcm' hl hq
      refine ⟨v, ?_⟩
      rcases hv with ⟨o, e, hw, ha⟩ | ⟨hw, rfl⟩
      · exact .inl ⟨o, e, by rw [← hyx.wants fr u]; exact hw, fun τ => by rw [← hyx.aop fr u e]; exact ha τ⟩
      · exact .inr ⟨by rw [← hyx.wants fr u]; exact hw, rfl⟩
    obtain ⟨d, op, g⟩ := y
    cases Qc.now h with
    | op o u e hw ha hn =>
      simp only at e
      subst e
      obtain ⟨w1, w2, w3, fzb, w4⟩ := wants_sound hco hF hw
      simp only at w3 w4
      obtain ⟨D, q, hR', hle, hxx, hrun⟩ := aop_sound w4 (ha σ) hR hF
      refine back (u := u) (σ' := σ) ⟨D, a.put oo.dst q, hR', ?_⟩ hn
      rw [w3]
      exact (hF.mono hle).putA (fun t e => w2 t (w3.trans e)) hxx
    | no hw hn =>
      obtain ⟨w1, w2, w3, fzb, w4⟩ := wants_sound hco hF hw
      simp only at w3 w4
      refine back ⟨C, a.put oo.dst undef, hR, ?_⟩ hn
      rw [w3]
      exact hF.putA (fun t e => w2 t (w3.trans e)) (.tup rfl fun i hi => by simp at hi)
    | call f args n pre cap vs Q e hw hf hargs hok hn =>
      simp only at e
      subst e
      obtain ⟨w1, w2, w3, fzb, w4⟩ := wants_sound hco hF hw
      simp only at w3 w4
      obtain ⟨D, a', r, σ', hq, hRD, hFD⟩ := call_live w4 w2 w3 hf hargs hok hF hR
      exact back ⟨D, a', hRD, hFD⟩ (hn r σ' hq)
theorem chain_spec {ms : List Nat} {p : Nat} {seg : List AOper} (h : chainOk ms p seg = true) {k k' : Nat} (hk : k < seg.length) (hk' : k' < seg.length) (hlt : k < k') (hc : seg[k].op.isCall = true) (hc' : seg[k'].op.isCall = true) : (coverTo ms (p + k') (ms.getD (p + k') 0)).testBit (p + k) = true := by
  unfold chainOk at h
  simp only [List.all_eq_true, List.mem_filter, Bool.or_eq_true] at h
  have := h (p + k, seg[k]) ⟨mem_numbered.2 ⟨k, hk, rfl, rfl⟩, hc⟩ (p + k', seg[k']) ⟨mem_numbered.2 ⟨k', hk', rfl, rfl⟩, hc'⟩
  rcases this with h1 | h1
  · simp at h1; omega
  · exact h1
/-- What of a segment is still to come, in order. -/
def left (p : Nat) (seg : List AOper) (listed : Array Bool) : List (Nat × AOper) := (numbered p seg).filter fun x => !(listed.getD x.1 false)
theorem numbered_fst {α : Type} : ∀ {l : List α} {p : Nat}, ((numbered p l).map (·.1)).Pairwise (· < ·)
  | [], p => by simp [numbered]
  | x :: l, p => by
    simp only [numbered, List.map_cons, List.pairwise_cons]
    refine ⟨fun i hi => ?_, numbered_fst⟩
    obtain ⟨⟨j, y⟩, hm, rfl⟩ := List.mem_map.1 hi
    obtain ⟨k, _, rfl, _⟩ := mem_numbered.1 hm
    simp only
    omega
open Classical in
theorem any_qc {fz : List Nat} {nt p : Nat} {seg : List AOper} {C0 : Cx} {Z : Fr → Store → Prop} (hZ : ∀ F F' τ, Feq F F' → Z F τ → Z F' τ) (hA : Aft ops ms) (hq : p + seg.length ≤ ops.size) (hne : seg ≠ [])
    (hseg : ∀ k (h : k < seg.length), ∃ o, ops[p + k]? = some o ∧ compOper P fz nt ops o = some seg[k])
    (hdst : ∀ k k' (h : k < seg.length) (h' : k' < seg.length) d, k ≠ k' → seg[k].dst = some d → seg[k'].dst ≠ some d)
    (hlook : ∀ k k' (h : k < seg.length) (h' : k' < seg.length) t, t ∈ seg[k].looks → seg[k'].dst = some t → (ms.getD (p + k) 0).testBit (p + k') = true)
    (hchain : chainOk ms p seg = true)
    (hcut : p + seg.length < ops.size → cutAt (covers ms) (p + seg.length) = true)
    (hnext : ∀ (D : Cx) (a : Act) (F : Fr) (σ : Store) (listed : Array Bool) (fuel : Nat), Z F σ → Upto ops.size (p + seg.length) listed → rem ops.size listed ≤ fuel → C0.Le D → FrR D nt F a → Rl D σ → wpAny P .any ops Q fuel listed a D.w) :
    ∀ (fuel : Nat) (listed : Array Bool) (C : Cx) (a : Act) (fr : Fr) (σ : Store), listed.size = ops.size → (∀ i, i < p → listed[i]? = some true) → (∀ i, p + seg.length ≤ i → i < ops.size → listed[i]? = some false) →
      (∀ i, listed[i]? = some true → ∀ j, (ms.getD i 0).testBit j = true → listed[j]? = some true) → rem ops.size listed ≤ fuel → C0.Le C → Rl C σ → FrR C nt fr a →
      Qc P Z ((left p seg listed).map (·.2)) fr σ → wpAny P .any ops Q fuel listed a C.w := by
  intro fuel
  have done : ∀ (listed : Array Bool) (fuel : Nat) (C : Cx) (a : Act) (fr : Fr) (σ : Store), listed.size = ops.size → (∀ i, i < p + seg.length → listed[i]? = some true) → (∀ i, p + seg.length ≤ i → i < ops.size → listed[i]? = some false) → rem ops.size listed ≤ fuel → C0.Le C → Rl C σ → FrR C nt fr a →
      Qc P Z ((left p seg listed).map (·.2)) fr σ → wpAny P .any ops Q fuel listed a C.w := by
    intro listed fuel C a fr σ hs all hhi hrem le hR hF hqc
    have hnil : left p seg listed = [] := by
      unfold left
      rw [List.filter_eq_nil_iff]
      rintro ⟨i, x⟩ hx
      obtain ⟨k, hk, rfl, _⟩ := mem_numbered.1 hx
      have := all (p + k) (by omega)
      simp [Array.getD_eq_getD_getElem?, this]
    rw [hnil] at hqc
    cases hqc with
    | nil hz =>
      refine hnext C a fr σ listed fuel hz ⟨hs, fun i hi => ?_⟩ hrem le hF hR
      by_cases e : i < p + seg.length
      · rw [all i e]; simp [e]
      · rw [hhi i (by omega) hi]; simp [e]
  induction fuel with
  | zero =>
    intro listed C a fr σ hs hlo hhi hdc hrem le hR hF hqc
    refine done listed 0 C a fr σ hs (fun i hi => ?_) hhi hrem le hR hF hqc
    have hlt : i < listed.size := by omega
    cases hb : listed[i]'hlt with
    | true => simp [hlt, hb]
    | false =>
      have := rem_pos (n := ops.size) (i := i) hs (by simp [hlt, hb])
      omega
  | succ n ih =>
    intro listed C a fr σ hs hlo hhi hdc hrem le hR hF hqc
    by_cases hall : ∀ i, i < p + seg.length → listed[i]? = some true
    · exact done listed (n + 1) C a fr σ hs hall hhi hrem le hR hF hqc
    · have hun : ∃ i, i < p + seg.length ∧ listed[i]? = some false := by
        simp only [not_forall] at hall
        obtain ⟨i, hi, hne⟩ := hall
        refine ⟨i, hi, ?_⟩
        have hlt : i < listed.size := by omega
        cases hb : listed[i]'hlt with
        | true => exact absurd (by simp [hlt, hb]) hne
        | false => simp [hlt, hb]
      have hready : Region.ready .any ops listed ≠ [] := by
        obtain ⟨i, hi, hf⟩ := hun
        have : ∀ m i, i < m → i < p + seg.length → listed[i]? = some false → ∃ r, r ∈ Region.ready .any ops listed := by
          intro m
          induction m with
          | zero => intro i hi; omega
          | succ m ihm =>
            intro i him hi hf
            by_cases hr : ∀ j, (ms.getD i 0).testBit j = true → listed[j]? = some true
            · exact ⟨i, (ready_iff hA hs).2 ⟨by omega, hf, hr⟩⟩
            · simp only [not_forall] at hr
              obtain ⟨j, hj, hne⟩ := hr
              have hji := hA.lt i j hj
              have hlt : j < listed.size := by omega
              refine ihm j (by omega) (by omega) ?_
              cases hb : listed[j]'hlt with
              | true => exact absurd (by simp [hlt, hb]) hne
              | false => simp [hlt, hb]
        obtain ⟨r, hr⟩ := this (i + 1) i (by omega) hi hf
        intro e
        rw [e] at hr
        simp at hr
      refine ⟨fun e => absurd e hready, fun i hi => ?_⟩
      obtain ⟨h1, h2, h3⟩ := (ready_iff hA hs).1 hi
      have hge : p ≤ i := by
        by_cases e : i < p
        · rw [hlo i e] at h2; cases h2
        · omega
      have hlt : i < p + seg.length := by
        by_cases e : i < p + seg.length
        · exact e
        · obtain ⟨j, hj, hf⟩ := hun
          have := cutAt_sound (hcut (by omega)) (D := fun j => listed[j]? = some true) hdc (i := i) (by omega) (by rw [hA.len]; exact h1) h3 (j := j) hj
          rw [hf] at this
          cases this
      obtain ⟨k, rfl⟩ : ∃ k, i = p + k := ⟨i - p, by omega⟩
      have hk : k < seg.length := by omega
      obtain ⟨o, ho, hc⟩ := hseg k hk
      -- its place among what is left
      have hmem : (p + k, seg[k]) ∈ left p seg listed := by
        unfold left
        rw [List.mem_filter]
        refine ⟨mem_numbered.2 ⟨k, hk, rfl, rfl⟩, ?_⟩
        simp [Array.getD_eq_getD_getElem?, h2]
      obtain ⟨l1, l2, hl12⟩ := List.append_of_mem hmem
      have hpw : ((left p seg listed).map (·.1)).Pairwise (· < ·) := List.Pairwise.sublist (List.Sublist.map _ List.filter_sublist) numbered_fst
      have hl1lt : ∀ z ∈ l1, z.1 < p + k := by
        intro z hz
        rw [hl12, List.map_append, List.pairwise_append] at hpw
        exact hpw.2.2 z.1 (List.mem_map_of_mem hz) (p + k) (by simp)
      have hl2gt : ∀ z ∈ l2, p + k < z.1 := by
        intro z hz
        rw [hl12, List.map_append, List.pairwise_append, List.map_cons, List.pairwise_cons] at hpw
        exact hpw.2.1.1 z.1 (List.mem_map_of_mem hz)
      have hl1 : ∀ z ∈ l1, ∃ m, ∃ hm : m < seg.length, m < k ∧ z = (p + m, seg[m]) ∧ ¬ listed[p + m]? = some true := by
        intro z hz
        have hzm : z ∈ left p seg listed := by rw [hl12]; exact List.mem_append_left _ hz
        unfold left at hzm
        rw [List.mem_filter] at hzm
        obtain ⟨i, x⟩ := z
        obtain ⟨m, hm, rfl, rfl⟩ := mem_numbered.1 hzm.1
        have := hl1lt _ hz
        refine ⟨m, hm, by simp at this; omega, rfl, fun e => ?_⟩
        have h9 := hzm.2
        simp [Array.getD_eq_getD_getElem?, e] at h9
      have hap : ∀ y ∈ l1.map (·.2), Apart y seg[k] := by
        intro y hy
        obtain ⟨z, hz, rfl⟩ := List.mem_map.1 hy
        obtain ⟨m, hm, hmk, rfl, hnl⟩ := hl1 z hz
        refine ⟨fun t ht hd => hnl (h3 _ (hlook k m hk hm t ht hd)), fun t ht hd => ?_, fun t hd => hdst m k hm hk t (by omega) hd⟩
        have := hA.lt _ _ (hlook m k hm hk t ht hd)
        omega
      have hcm : ∀ y ∈ l1.map (·.2), ∃ o, compOper P fz nt ops o = some y := by
        intro y hy
        obtain ⟨z, hz, rfl⟩ := List.mem_map.1 hy
        obtain ⟨m, hm, _, rfl, _⟩ := hl1 z hz
        obtain ⟨o, _, h⟩ := hseg m hm
        exact ⟨o, h⟩
      have hleft : (left p seg (listed.setIfInBounds (p + k) true)) = l1 ++ l2 := by
        have e1 : left p seg (listed.setIfInBounds (p + k) true) = (left p seg listed).filter fun x => x.1 != p + k := by
          unfold left
          rw [List.filter_filter]
          refine List.filter_congr fun z hz => ?_
          obtain ⟨i, x⟩ := z
          obtain ⟨m, hm, rfl, rfl⟩ := mem_numbered.1 hz
          by_cases e : m = k
          · subst e
            simp [Array.getD_eq_getD_getElem?, hs, h1]
          · simp [Array.getD_eq_getD_getElem?, Array.getElem?_setIfInBounds_ne (show p + k ≠ p + m by omega), e]
        rw [e1, hl12, List.filter_append, List.filter_cons]
        have f1 : l1.filter (fun x => x.1 != p + k) = l1 := List.filter_eq_self.2 fun z hz => by have := hl1lt z hz; simp; omega
        have f2 : l2.filter (fun x => x.1 != p + k) = l2 := List.filter_eq_self.2 fun z hz => by have := hl2gt z hz; simp; omega
        rw [f1, f2]
        simp
      have hset : ∀ j, j ≠ p + k → (listed.setIfInBounds (p + k) true)[j]? = listed[j]? := fun j hj => Array.getElem?_setIfInBounds_ne (Ne.symm hj)
      have hself : (listed.setIfInBounds (p + k) true)[p + k]? = some true := by simp [hs, h1]
      have hafter : ∀ (D : Cx) (a' : Act) (F : Fr) (τ : Store), Rl D τ → C.Le D → FrR D nt F a' → Qc P Z (l1.map (·.2) ++ l2.map (·.2)) F τ → wpAny P .any ops Q n (listed.setIfInBounds (p + k) true) a' D.w := by
        intro D a' F τ hRD hle hFD hqd
        refine ih _ D a' F τ (by simp [hs]) (fun j hj => by rw [hset j (by omega)]; exact hlo j hj) (fun j hj hj2 => by rw [hset j (by omega)]; exact hhi j hj hj2) (fun j hj m hm => ?_) (by have := rem_set hs h2; omega) (le.trans hle) hRD hFD ?_
        · by_cases e : m = p + k
          · subst e; exact hself
          · rw [hset m e]
            by_cases e2 : j = p + k
            · subst e2; exact h3 m hm
            · rw [hset j e2] at hj
              exact hdc j hj m hm
        · rw [hleft, List.map_append]
          exact hqd
      rw [hl12, List.map_append, List.map_cons] at hqc
      cases hcall : seg[k].op.isCall with
      | false =>
        obtain ⟨v, hv⟩ := Qc.valid hcall _ hap hcm ⟨C, a, hR, hF⟩ hqc
        have hn := Qc.ahead hZ _ hap hqc hv
        rcases hv with ⟨ao, hop, hw, ha⟩ | ⟨hw, rfl⟩
        · have hc' : compOper P fz nt ops o = some ⟨seg[k].dst, .op ao, seg[k].guard⟩ := by rw [hc, ← hop]
          exact sound_op ho hc' hw (ha σ) hF hR fun D a' q1 q2 q3 => hafter D a' _ _ q1 q2 q3 hn
        · have hc' : compOper P fz nt ops o = some ⟨seg[k].dst, seg[k].op, seg[k].guard⟩ := hc
          exact sound_no ho hc' hw hF fun a' q3 => hafter C a' _ _ hR (.refl C) q3 hn
      | true =>
        have hnc : ∀ y ∈ l1.map (·.2), y.op.isCall = false := by
          intro y hy
          obtain ⟨z, hz, rfl⟩ := List.mem_map.1 hy
          obtain ⟨m, hm, hmk, rfl, hnl⟩ := hl1 z hz
          cases hcy : seg[m].op.isCall with
          | false => rfl
          | true => exact absurd (coverTo_sound (D := fun j => listed[j]? = some true) hdc (p + k) _ h3 (p + m) (chain_spec hchain hm hk hmk hcy hcall)) hnl
        cases Qc.callAhead hZ hcall _ hap hnc hqc with
        | op ao v e => rw [e] at hcall; cases hcall
        | no hw hn =>
          have hc' : compOper P fz nt ops o = some ⟨seg[k].dst, seg[k].op, seg[k].guard⟩ := hc
          exact sound_no ho hc' hw hF fun a' q3 => hafter C a' _ _ hR (.refl C) q3 hn
        | call f args m pre cap vs Q' e hw hf hargs hok hn =>
          have hc' : compOper P fz nt ops o = some ⟨seg[k].dst, .call f args, seg[k].guard⟩ := by rw [hc, ← e]
          exact sound_call ho hc' hw hf hargs hok hF hR fun D a' r σ' hq q1 q2 q3 => hafter D a' _ _ q1 q2 q3 (hn r σ' hq)
end

end Go.Proofs.Ytjlhfjpnnildhaa.Am
