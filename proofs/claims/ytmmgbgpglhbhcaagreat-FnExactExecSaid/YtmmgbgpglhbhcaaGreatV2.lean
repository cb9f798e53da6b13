/- Joined texts: Am18, Am19, Am20, Am21, Am22, Am23, Am24, Am25, Am26, Am28, Am29, Am31, Am32, Am30, Am27. -/
import Derived.OpenShut
import Derived.Below
import Derived.Carry
import Derived.SizedLaws
import Derived.ChangeArms
import Derived.DataReads
import Derived.Test.YtmmgbgpglhbhcaaGreatV1
set_option linter.unusedVariables false
set_option linter.unusedSimpArgs false
namespace Go.Proofs.YtmmgbgpglhbhcaaGreat.Am
open Go.RowKit

theorem Opd.ev_congr {fr fr' : Fr} {x : Opd} (h : ∀ t ∈ x.tmps, look fr t = look fr' t) : x.ev fr = x.ev fr' := by
 cases x with
 | t i => exact h i (by simp [Opd.tmps])
 | _ => rfl
theorem jcb {fr fr' : Fr} {x : Option Opd} (h : ∀ t ∈ ol x, look fr t = look fr' t) : evo fr x = evo fr' x := by
 cases x with
 | none => rfl
 | some x => simp only [evo]; rw [Opd.ev_congr h]
theorem zfp {fr fr' : Fr} : ∀ {ps : List (Nat × Nat × Opd)} {z : List Ce}, (∀ t ∈ ps.flatMap (fun p => p.2.2.tmps), look fr t = look fr' t) -> wis fr z ps = wis fr' z ps
 | [], z, h => rfl
 |(off, s, x) :: r, z, h => by
  have e := Opd.ev_congr (fr := fr) (fr' := fr') (x := x) (fun t ht => h t (by simp [ht]))
  simp only [wis, e]
  split
  ·split
   ·exact zfp fun t ht => h t (by simp only [List.flatMap_cons, List.mem_append]; exact .inr ht)
   ·rfl
  ·rfl
theorem jfp {fr fr' : Fr} {s : Nat} : ∀ {ps : List (Nat × Opd)} {z : List (List Ce)}, (∀ t ∈ ps.flatMap (fun p => p.2.tmps), look fr t = look fr' t) -> jhy fr s z ps = jhy fr' s z ps
 | [], z, h => rfl
 |(i, x) :: r, z, h => by
  have e := Opd.ev_congr (fr := fr) (fr' := fr') (x := x) (fun t ht => h t (by simp [ht]))
  simp only [jhy, e]
  split
  ·split
   ·exact jfp fun t ht => h t (by simp only [List.flatMap_cons, List.mem_append]; exact .inr ht)
   ·rfl
  ·rfl
theorem zbh {fr fr' : Fr} : ∀ {xs : List Opd}, (∀ t ∈ xs.flatMap Opd.tmps, look fr t = look fr' t) -> evs fr xs = evs fr' xs
 | [], h => rfl
 | x :: r, h => by
  have e := Opd.ev_congr (fr := fr) (fr' := fr') (x := x) (fun t ht => h t (by simp [ht]))
  have e' : evs fr r = evs fr' r := zbh fun t ht => h t (by simp only [List.flatMap_cons, List.mem_append]; exact .inr ht)
  simp only [evs, e, e']
theorem wfp {fr fr' : Fr} : ∀ {xs : List Opd}, (∀ t ∈ xs.flatMap Opd.tmps, look fr t = look fr' t) -> evc fr xs = evc fr' xs
 | [], h => rfl
 | x :: r, h => by
  have e := Opd.ev_congr (fr := fr) (fr' := fr') (x := x) (fun t ht => h t (by simp [ht]))
  have e' : evc fr r = evc fr' r := wfp fun t ht => h t (by simp only [List.flatMap_cons, List.mem_append]; exact .inr ht)
  simp only [evc, e, e']
theorem wah {fr fr' : Fr} {σ : wa} {o : AOp} (h : ∀ t ∈ o.tmps, look fr t = look fr' t) : aop o fr σ = aop o fr' σ := by
 cases o <;> simp only [AOp.tmps, List.mem_append] at h
 case alloc => rfl
 case stuck => rfl
 case build z ps => simp only [aop, zfp h]
 case mksl fz s n z ps => simp only [aop, jfp h]
 case mkfn f p c => simp only [aop, wfp (fun t ht => h t (.inl ht)), wfp (fun t ht => h t (.inr ht))]
 case slice s x a b c =>
  simp only [aop, Opd.ev_congr (fun t ht => h t (.inl (.inl (.inl ht)))), jcb (fun t ht => h t (.inl (.inl (.inr ht)))), jcb (fun t ht => h t (.inl (.inr ht))), jcb (fun t ht => h t (.inr ht))]
 case strsl x a b =>
  simp only [aop, Opd.ev_congr (fun t ht => h t (.inl (.inl ht))), jcb (fun t ht => h t (.inl (.inr ht))), jcb (fun t ht => h t (.inr ht))]
 case pick a b c =>
  simp only [aop, Opd.ev_congr (fun t ht => h t (.inl (.inl ht))), Opd.ev_congr (fun t ht => h t (.inl (.inr ht))), Opd.ev_congr (fun t ht => h t (.inr ht))]
 all_goals first
  |(simp only [aop, Opd.ev_congr h]; done)
  |(simp only [aop, Opd.ev_congr (fun t ht => h t (.inl ht)), Opd.ev_congr (fun t ht => h t (.inr ht))]; done)
theorem jo {fr fr' : Fr} {g : Option (Nat × Bool)} (h : ∀ t b, g = some (t, b) -> look fr t = look fr' t) : wants fr g = wants fr' g := by
 cases g with
 | none => rfl
 | some x => simp only [wants, h x.1 x.2 rfl]

theorem jj {α : Type} : ∀ {l : List α} {p i : Nat} {x : α}, (i, x) ∈ zq p l ↔ ∃ k, ∃ h : k < l.length, i = p + k /\ x = l[k]
 | [], p, i, x => by simp [zq]
 | y :: l, p, i, x => by
  simp only [zq, List.mem_cons, Prod.mk.injEq, jj]
  constructor
  ·rintro (⟨rfl, rfl⟩ | ⟨k, h, rfl, rfl⟩)
   ·exact ⟨0, by simp, by simp, by simp⟩
   ·exact ⟨k + 1, by simp; omega, by omega, by simp⟩
  ·rintro ⟨k, h, rfl, rfl⟩
   cases k with
   | zero => exact .inl ⟨by simp, by simp⟩
   | succ k => exact .inr ⟨k, by simpa using h, by omega, by simp⟩

def QF (P : Program) (σ : wa) (F : Fr) (x : jd) : Prop :=
 ∃ v, (∀ d, x.dst = some d -> look F d = some v) /\
  ((wants F x.guard = some true /\ ((∃ o, x.op = .op o /\ aop o F σ = some (v, σ)) \/
    ∃ f args n pre cap vs, x.op = .call f args /\ f.ev F = some (.c (.fn n pre cap)) /\ evs F args = some vs /\ Ok P n (pre.map .c ++ vs ++ cap.map .c) σ (fun r' σ' => r' = v /\ σ' = σ))) \/
   (wants F x.guard = some false /\ v = .tup []))
def wiw : List jd -> Prop
 | [] => True
 | o :: r => (∀ y ∈ o :: r, ∀ t ∈ o.looks, y.dst ≠ some t) /\ (∀ d, o.dst = some d -> ∀ y ∈ r, y.dst ≠ some d) /\ wiw r
theorem zar {fr : Fr} {d : Option Nat} {v : AV} {t : Nat} (h : d ≠ some t) : look (putA fr d v) t = look fr t := by
 cases d with
 | none => rfl
 | some d => simp only [putA, look]; rw [if_neg (fun e => h (by rw [e]))]
theorem Qs.facts {P : Program} {σ : wa} {seg : List jd} {fr F : Fr} (h : Qs P σ seg fr F) : wiw seg -> (∀ t, (∀ y ∈ seg, y.dst ≠ some t) -> look F t = look fr t) /\ ∀ x ∈ seg, QF P σ F x := by
 have key : ∀ {d : Option Nat} {g : Option (Nat × Bool)} {op : AO} {rest : List jd} {fr F : Fr} {v : AV}, wiw (⟨d, op, g⟩ :: rest) ->
  ((∀ t, (∀ y ∈ rest, y.dst ≠ some t) -> look F t = look (putA fr d v) t) /\ ∀ x ∈ rest, QF P σ F x) ->
  (∀ t, (∀ y ∈ (⟨d, op, g⟩ :: rest : List jd), y.dst ≠ some t) -> look F t = look fr t) /\ (∀ d', d = some d' -> look F d' = some v) /\ (∀ t ∈ (⟨d, op, g⟩ : jd).looks, look fr t = look F t) := by
  intro d g op rest fr F v hl ⟨h1, h2⟩
  obtain ⟨l1, l2, l3⟩ := hl
  have a : ∀ t, (∀ y ∈ (⟨d, op, g⟩ :: rest : List jd), y.dst ≠ some t) -> look F t = look fr t := by
   intro t ht
   rw [h1 t fun y hy => ht y (List.mem_cons_of_mem _ hy)]
   exact zar (ht ⟨d, op, g⟩ (by simp))
  refine ⟨a, fun d' hd => ?_, fun t ht => (a t fun y hy => l1 y hy t ht).symm⟩
  subst hd
  rw [h1 d' fun y hy => l2 d' rfl y hy]
  simp [putA, look]
 have gd : ∀ {d : Option Nat} {g : Option (Nat × Bool)} {op : AO} {fr F : Fr}, (∀ t ∈ (⟨d, op, g⟩ : jd).looks, look fr t = look F t) -> wants fr g = wants F g := by
  intro d g op fr F hh
  refine jo fun t b e => hh t ?_
  subst e
  simp [jd.looks]
 induction h with
 | nil => exact fun _ => ⟨fun _ _ => rfl, fun x hx => by simp at hx⟩
 | same he _ ih => exact fun hl => ⟨fun t ht => ((ih hl).1 t ht).trans (he t), (ih hl).2⟩
 | @op d o g rest fr F v hw ha _ ih =>
  intro hl
  have := ih hl.2.2
  obtain ⟨a, b, c⟩ := key hl this
  refine ⟨a, fun x hx => ?_⟩
  rcases List.mem_cons.1 hx with rfl | hx
  ·exact ⟨v, b, .inl ⟨by rw [<- gd c]; exact hw, .inl ⟨o, rfl, by rw [<- wah fun t ht => c t (by simp [jd.looks, ht])]; exact ha⟩⟩⟩
  ·exact this.2 x hx
 | @no d o g rest fr F hw _ ih =>
  intro hl
  have := ih hl.2.2
  obtain ⟨a, b, c⟩ := key hl this
  refine ⟨a, fun x hx => ?_⟩
  rcases List.mem_cons.1 hx with rfl | hx
  ·exact ⟨.tup [], b, .inr ⟨by rw [<- gd c]; exact hw, rfl⟩⟩
  ·exact this.2 x hx
 | @call d f args g rest fr F n pre cap vs r hw hf hargs hok _ ih =>
  intro hl
  have := ih hl.2.2
  obtain ⟨a, b, c⟩ := key hl this
  refine ⟨a, fun x hx => ?_⟩
  rcases List.mem_cons.1 hx with rfl | hx
  ·exact ⟨r, b, .inl ⟨by rw [<- gd c]; exact hw, .inr ⟨f, args, n, pre, cap, vs, rfl, by rw [<- Opd.ev_congr fun t ht => c t (by simp [jd.looks, ht])]; exact hf, by rw [<- zbh fun t ht => c t (by simp only [jd.looks, List.mem_append]; exact .inl (.inr ht))]; exact hargs, hok⟩⟩⟩
  ·exact this.2 x hx

theorem zcx {j : Nat} : ∀ {l : List Nat}, (ziv l).testBit j = true ↔ j ∈ l
 | [] => by simp [ziv]
 | x :: l => by
  have := zcx (j := j) (l := l)
  simp only [ziv, List.foldr_cons, Nat.testBit_or, Nat.one_shiftLeft, Nat.testBit_two_pow, Bool.or_eq_true, decide_eq_true_eq, List.mem_cons] at this ⊢
  rw [this]
  exact or_congr ⟨Eq.symm, Eq.symm⟩ Iff.rfl
theorem zbz {ms : List Nat} {D : Nat -> Prop} (hD : ∀ i, D i -> ∀ j, (ms.getD i 0).testBit j = true -> D j) : ∀ (k m : Nat), (∀ j, m.testBit j = true -> D j) -> ∀ j, (jbo ms k m).testBit j = true -> D j
 | 0, m, h, j, hj => h j hj
 | k + 1, m, h, j, hj => by
  refine zbz hD k _ (fun i hi => ?_) j hj
  split at hi
  ·rename_i hk
   rw [Nat.testBit_or, Bool.or_eq_true] at hi
   rcases hi with hi | hi
   ·exact h i hi
   ·exact hD k (h k hk) i hi
  ·exact h i hi
theorem zc1 {ms : List Nat} {q : Nat} (hc : whz (jbs ms) q = true) {D : Nat -> Prop} (hD : ∀ i, D i -> ∀ j, (ms.getD i 0).testBit j = true -> D j) {i : Nat} (hi : q <= i) (hl : i < ms.length) (h : ∀ j, (ms.getD i 0).testBit j = true -> D j) {j : Nat} (hj : j < q) : D j := by
 unfold whz at hc
 rw [List.all_eq_true] at hc
 have hm : jbo ms i (ms.getD i 0) ∈ (jbs ms).drop q := by
  rw [List.mem_iff_getElem]
  refine ⟨i - q, by simp [jbs]; omega, ?_⟩
  simp only [jbs, List.getElem_drop, List.getElem_map, List.getElem_range]
  rw [show q + (i - q) = i by omega]
 have := hc _ hm
 rw [beq_iff_eq] at this
 have hb : (jbo ms i (ms.getD i 0)).testBit j = true := by
  have e := congrArg (fun n => n.testBit j) this
  simp only [Nat.testBit_and, Nat.testBit_two_pow_sub_one, decide_eq_true hj, Bool.and_true] at e
  exact e
 exact zbz hD i _ h j hb

structure Aft (ops : Array Oper) (ms : List Nat) : Prop where
 len : ms.length = ops.size
 bit : ∀ i o, ops[i]? = some o -> ∀ j, (ms.getD i 0).testBit j = true ↔ j ∈ wiu o
 lt : ∀ i j, (ms.getD i 0).testBit j = true -> j < i
def Upto (n p : Nat) (listed : Array Bool) : Prop := listed.size = n /\ ∀ i, i < n -> listed[i]? = some (decide (i < p))
def rem (n : Nat) (listed : Array Bool) : Nat := (List.range n).countP fun i => !listed.getD i true

theorem jbh {ops : Array Oper} {ms : List Nat} (hA : Aft ops ms) {listed : Array Bool} (hs : listed.size = ops.size) {i : Nat} :
 i ∈ Region.ready .any ops listed ↔ i < ops.size /\ listed[i]? = some false /\ ∀ j, (ms.getD i 0).testBit j = true -> listed[j]? = some true := by
 unfold Region.ready
 rw [List.mem_filter, List.mem_range]
 refine and_congr_right fun hi => ?_
 obtain ⟨o, ho⟩ : ∃ o, ops[i]? = some o := ⟨ops[i], by simp [hi]⟩
 have hb := hA.bit i o ho
 have hli : listed[i]? = some (listed[i]'(by omega)) := by simp [hs, hi]
 simp only [ho, Option.map_some, Option.getD_some, Bool.and_eq_true, Array.getD_eq_getD_getElem?, hli]
 have e1 : ((!listed[i]'(by omega)) = true) ↔ some (listed[i]'(by omega)) = some false := by
  cases listed[i]'(by omega) <;> simp
 rw [e1]
 refine and_congr_right fun _ => ?_
 rw [Array.all_eq_true']
 constructor
 ·intro h j hj
  rw [hb] at hj
  simp only [wiu, List.mem_map, List.mem_filter, Array.mem_toList_iff] at hj
  obtain ⟨e, ⟨he1, he2⟩, rfl⟩ := hj
  have := h e he1
  rw [he2] at this
  simp only [Bool.not_true, Bool.false_or] at this
  cases hq : listed[e.on]? with
  | none => simp [hq] at this
  | some b => simpa [hq] using this
 ·intro h e he
  cases hbd : Region.binds .any e with
  | false => simp
  | true =>
   have : listed[e.on]? = some true := h e.on ((hb _).2 (by simp only [wiu, List.mem_map, List.mem_filter, Array.mem_toList_iff]; exact ⟨e, ⟨he, hbd⟩, rfl⟩))
   simp [this]

theorem zfq {p p' : Nat -> Bool} {i : Nat} (h : ∀ j, j ≠ i -> p' j = p j) (h1 : p i = true) (h2 : p' i = false) : ∀ n, (List.range n).countP p' + (if i < n then 1 else 0) = (List.range n).countP p
 | 0 => by simp
 | n + 1 => by
  have ih := zfq h h1 h2 n
  rw [List.range_succ, List.countP_append, List.countP_append]
  simp only [List.countP_cons, List.countP_nil]
  by_cases e : n = i
  ·subst e
   simp only [h1, h2]
   simp at ih ⊢
   omega
  ·rw [h n e]
   by_cases e2 : i < n
   ·simp [e2] at ih ⊢
    have : i < n + 1 := by omega
    simp [this]
    omega
   ·have : ¬ i < n + 1 := by omega
    simp [e2, this] at ih ⊢
    omega
theorem zh2 {n i : Nat} {listed : Array Bool} (hs : listed.size = n) (hi : listed[i]? = some false) : rem n (listed.setIfInBounds i true) + 1 = rem n listed := by
 have hlt : i < n := by
  rw [<- hs]
  exact (Array.getElem?_eq_some_iff.1 hi).1
 have := zfq (p := fun j => !listed.getD j true) (p' := fun j => !(listed.setIfInBounds i true).getD j true) (i := i)
  (fun j hj => by simp [Array.getElem?_setIfInBounds_ne (Ne.symm hj)]) (by simp [hi]) (by simp [hs, hlt]) n
 simpa [rem, hlt] using this
theorem jjt {n i : Nat} {listed : Array Bool} (hs : listed.size = n) (hi : listed[i]? = some false) : 0 < rem n listed := by
 have := zh2 hs hi
 omega

section
variable {P : Program} {ops : Array Oper} {ms : List Nat} {Q : Exit -> Act -> World -> Prop}
theorem any_nil (hA : Aft ops ms) {listed : Array Bool} (hU : Upto ops.size ops.size listed) {a : Act} {w : World} (h : Q .normal a w) (fuel : Nat) : wpAny P .any ops Q fuel listed a w := by
 have hr : Region.ready .any ops listed = [] := by
  rw [List.eq_nil_iff_forall_not_mem]
  intro i hi
  obtain ⟨h1, h2, _⟩ := (jbh hA hU.1).1 hi
  have := hU.2 i h1
  rw [h2] at this
  simp [h1] at this
 cases fuel with
 | zero => exact ⟨hr, h⟩
 | succ n => exact ⟨fun _ => h, fun i hi => by rw [hr] at hi; simp at hi⟩
theorem Upto.closed (hA : Aft ops ms) {p : Nat} {listed : Array Bool} (hU : Upto ops.size p listed) (hp : p <= ops.size) : ∀ i, listed[i]? = some true -> ∀ j, (ms.getD i 0).testBit j = true -> listed[j]? = some true := by
 intro i hi j hj
 have hlt : i < ops.size := by rw [<- hU.1]; exact (Array.getElem?_eq_some_iff.1 hi).1
 have h1 := hU.2 i hlt
 rw [hi] at h1
 simp at h1
 have h2 := hA.lt i j hj
 rw [hU.2 j (by omega)]
 simp; omega
theorem jc1 (hA : Aft ops ms) {p : Nat} {listed : Array Bool} (hU : Upto ops.size p listed) (hp : p < ops.size) (hcut : p + 1 < ops.size -> whz (jbs ms) (p + 1) = true) {fuel : Nat} (hf : rem ops.size listed <= fuel) {a : Act} {w : World}
 (h : ∀ fuel' listed', Upto ops.size (p + 1) listed' -> rem ops.size listed' <= fuel' -> wpOp P ops Q p (wpAny P .any ops Q fuel' listed') a w) : wpAny P .any ops Q fuel listed a w := by
 have hpl : listed[p]? = some false := by rw [hU.2 p hp]; simp
 have hrp : p ∈ Region.ready .any ops listed := by
  rw [jbh hA hU.1]
  refine ⟨hp, hpl, fun j hj => ?_⟩
  have := hA.lt p j hj
  rw [hU.2 j (by omega)]
  simp [this]
 have hpos := jjt hU.1 hpl
 cases fuel with
 | zero => omega
 | succ n =>
  refine ⟨fun e => by rw [e] at hrp; simp at hrp, fun i hi => ?_⟩
  obtain ⟨h1, h2, h3⟩ := (jbh hA hU.1).1 hi
  have hge : p <= i := by
   rw [hU.2 i h1] at h2
   simp at h2
   exact h2
  have : i = p := by
   by_cases e : i = p
   ·exact e
   ·have := zc1 (hcut (by omega)) (D := fun j => listed[j]? = some true) (hU.closed hA (by omega)) (i := i) (by omega) (by rw [hA.len]; exact h1) h3 (j := p) (by omega)
    rw [hpl] at this
    cases this
  subst this
  have hrem := zh2 hU.1 hpl
  refine h n _ ⟨by simp [hU.1], fun j hj => ?_⟩ (by omega)
  by_cases e : i = j
  ·subst e; simp [hU.1, hp]
  ·rw [Array.getElem?_setIfInBounds_ne e, hU.2 j hj]
   congr 1
   simp
   omega

theorem jfq {g : Nat -> Bool} {t : Nat} : ∀ {F : Fr}, look (F.filter fun e => g e.1) t = if g t then look F t else none
 | [] => by simp [look]
 |(j, x) :: r => by
  simp only [List.filter_cons]
  have ih := jfq (g := g) (t := t) (F := r)
  by_cases e : j = t
  ·subst e
   cases hg : g j
   ·simp only [hg, Bool.false_eq_true, if_false] at ih ⊢; exact ih
   ·simp [look]
  ·cases hg : g j
   ·simp only [Bool.false_eq_true, if_false, look, if_neg e]; exact ih
   ·simp only [if_true, look, if_neg e]; exact ih

open Classical in
theorem jld {fz : List Nat} {nt p : Nat} {σ : wa} {F : Fr} {seg : List jd} {C0 : Cx} (hA : Aft ops ms) (hq : p + seg.length <= ops.size)
 (hseg : ∀ k (h : k < seg.length), ∃ o, ops[p + k]? = some o /\ zn P fz nt ops o = some seg[k])
 (hlook : ∀ k k' (h : k < seg.length) (h' : k' < seg.length) t, t ∈ seg[k].looks -> seg[k'].dst = some t -> (ms.getD (p + k) 0).testBit (p + k') = true)
 (hcut : p + seg.length < ops.size -> whz (jbs ms) (p + seg.length) = true)
 (hQ : ∀ x ∈ seg, QF P σ F x)
 (hnext : ∀ (D : Cx) (a : Act) (listed : Array Bool) (fuel : Nat), Upto ops.size (p + seg.length) listed -> rem ops.size listed <= fuel -> C0.Le D -> FrR D nt F a -> Rl D σ -> wpAny P .any ops Q fuel listed a D.w) :
 ∀ (fuel : Nat) (listed : Array Bool) (C : Cx) (a : Act), listed.size = ops.size -> (∀ i, i < p -> listed[i]? = some true) -> (∀ i, p + seg.length <= i -> i < ops.size -> listed[i]? = some false) ->
  (∀ i, listed[i]? = some true -> ∀ j, (ms.getD i 0).testBit j = true -> listed[j]? = some true) -> rem ops.size listed <= fuel -> C0.Le C -> Rl C σ ->
  a.defers = [] -> a.tmps.size = nt -> (∀ t x, look F t = some x -> (∀ k (h : k < seg.length), seg[k].dst = some t -> listed[p + k]? = some true) -> t < nt /\ RpV C x (a.tmps.getD t undef)) ->
  wpAny P .any ops Q fuel listed a C.w := by
 intro fuel
 induction fuel with
 | zero =>
  intro listed C a hs hlo hhi hdc hrem le hR hd hn hF
  have all : ∀ i, i < p + seg.length -> listed[i]? = some true := by
   intro i hi
   have hlt : i < listed.size := by omega
   cases hb : listed[i]'hlt with
   | true => simp [hlt, hb]
   | false =>
    have := jjt (n := ops.size) (i := i) hs (by simp [hlt, hb])
    omega
  refine hnext C a listed 0 ⟨hs, fun i hi => ?_⟩ hrem le ⟨hd, hn, fun t x hx => hF t x hx fun k h _ => all _ (by omega)⟩ hR
  by_cases e : i < p + seg.length
  ·rw [all i e]; simp [e]
  ·rw [hhi i (by omega) hi]; simp [e]
 | succ n ih =>
  intro listed C a hs hlo hhi hdc hrem le hR hd hn hF
  by_cases hall : ∀ i, i < p + seg.length -> listed[i]? = some true
  ·refine hnext C a listed (n + 1) ⟨hs, fun i hi => ?_⟩ hrem le ⟨hd, hn, fun t x hx => hF t x hx fun k h _ => hall _ (by omega)⟩ hR
   by_cases e : i < p + seg.length
   ·rw [hall i e]; simp [e]
   ·rw [hhi i (by omega) hi]; simp [e]
  ·have hun : ∃ i, i < p + seg.length /\ listed[i]? = some false := by
    simp only [not_forall] at hall
    obtain ⟨i, hi, hne⟩ := hall
    refine ⟨i, hi, ?_⟩
    have hlt : i < listed.size := by omega
    cases hb : listed[i]'hlt with
    | true => exact absurd (by simp [hlt, hb]) hne
    | false => simp [hlt, hb]
   have hready : Region.ready .any ops listed ≠ [] := by
    obtain ⟨i, hi, hf⟩ := hun
    have : ∀ m i, i < m -> i < p + seg.length -> listed[i]? = some false -> ∃ r, r ∈ Region.ready .any ops listed := by
     intro m
     induction m with
     | zero => intro i hi; omega
     | succ m ihm =>
      intro i him hi hf
      by_cases hr : ∀ j, (ms.getD i 0).testBit j = true -> listed[j]? = some true
      ·exact ⟨i, (jbh hA hs).2 ⟨by omega, hf, hr⟩⟩
      ·simp only [not_forall] at hr
       obtain ⟨j, hj, hne⟩ := hr
       have hji := hA.lt i j hj
       have hlt : j < listed.size := by omega
       refine ihm j (by omega) (by omega) ?_
       cases hb : listed[j]'hlt with
       | true => exact absurd (by simp [hlt, hb]) hne
       | false => simp [hlt, hb]
    obtain ⟨r, hr⟩ := this (i + 1) i (by omega) hi hf
    intro e
    rw [e] at hr
    simp at hr
   refine ⟨fun e => absurd e hready, fun i hi => ?_⟩
   obtain ⟨h1, h2, h3⟩ := (jbh hA hs).1 hi
   have hge : p <= i := by
    by_cases e : i < p
    ·rw [hlo i e] at h2; cases h2
    ·omega
   have hlt : i < p + seg.length := by
    by_cases e : i < p + seg.length
    ·exact e
    ·obtain ⟨j, hj, hf⟩ := hun
     have := zc1 (hcut (by omega)) (D := fun j => listed[j]? = some true) hdc (i := i) (by omega) (by rw [hA.len]; exact h1) h3 (j := j) hj
     rw [hf] at this
     cases this
   obtain ⟨k, rfl⟩ : ∃ k, i = p + k := ⟨i - p, by omega⟩
   have hk : k < seg.length := by omega
   obtain ⟨o, ho, hc⟩ := hseg k hk
   obtain ⟨v, hv, hstep⟩ := hQ seg[k] (yab hk)
   let g : Nat -> Bool := fun t => decide (∀ k (h : k < seg.length), seg[k].dst = some t -> listed[p + k]? = some true)
   let F' : Fr := F.filter fun e => g e.1
   have hlk : ∀ t, look F' t = if g t then look F t else none := fun t => jfq
   have hF' : FrR C nt F' a := by
    refine ⟨hd, hn, fun t x hx => ?_⟩
    rw [hlk] at hx
    split at hx
    ·rename_i hg
     exact hF t x hx (of_decide_eq_true hg)
    ·cases hx
   have hsame : ∀ t ∈ seg[k].looks, look F t = look F' t := by
    intro t ht
    rw [hlk, if_pos]
    exact decide_eq_true fun k' h' hd' => h3 _ (hlook k k' hk h' t ht hd')
   have hgd : wants F seg[k].guard = wants F' seg[k].guard := jo fun t b e => hsame t (by simp [jd.looks, e])
   have hafter : ∀ (D : Cx) (a' : Act), Rl D σ -> C.Le D -> FrR D nt (putA F' seg[k].dst v) a' -> wpAny P .any ops Q n (listed.setIfInBounds (p + k) true) a' D.w := by
    intro D a' hRD hle hFD
    have hset : ∀ j, j ≠ p + k -> (listed.setIfInBounds (p + k) true)[j]? = listed[j]? := fun j hj => Array.getElem?_setIfInBounds_ne (Ne.symm hj)
    have hself : (listed.setIfInBounds (p + k) true)[p + k]? = some true := by simp [hs, h1]
    refine ih _ D a' (by simp [hs]) (fun j hj => by rw [hset j (by omega)]; exact hlo j hj) (fun j hj hj2 => by rw [hset j (by omega)]; exact hhi j hj hj2) (fun j hj m hm => ?_) (by have := zh2 hs h2; omega) (le.trans hle) hRD hFD.defers hFD.size (fun t x hx hw => ?_)
    ·by_cases e : m = p + k
     ·subst e; exact hself
     ·rw [hset m e]
      by_cases e2 : j = p + k
      ·subst e2; exact h3 m hm
      ·rw [hset j e2] at hj
       exact hdc j hj m hm
    ·by_cases e : seg[k].dst = some t
     ·have := hv t e
      rw [hx] at this
      injection this with this
      subst this
      exact hFD.slot t x (by rw [e]; simp [putA, look])
     ·refine hFD.slot t x ?_
      rw [zar e, hlk, if_pos]
      ·exact hx
      ·refine decide_eq_true fun k' h' hd' => ?_
       by_cases e2 : p + k' = p + k
       ·have : k' = k := by omega
        subst this
        exact absurd hd' e
       ·have := hw k' h' hd'
        rwa [hset _ e2] at this
   rcases hstep with ⟨hw, hop | ⟨f, args, m, pre, cap, vs, hop, hf, hargs, hok⟩⟩ | ⟨hw, rfl⟩
   ·obtain ⟨ao, hop, ha⟩ := hop
    have hc' : zn P fz nt ops o = some ⟨seg[k].dst, .op ao, seg[k].guard⟩ := by rw [hc, <- hop]
    refine zao ho hc' (by rw [<- hgd]; exact hw) (σ := σ) (σ' := σ) (v := v) ?_ hF' hR fun D a' q1 q2 q3 => hafter D a' q1 q2 q3
    rw [<- wah fun t ht => hsame t (by simp [jd.looks, hop, ht])]
    exact ha
   ·have hc' : zn P fz nt ops o = some ⟨seg[k].dst, .call f args, seg[k].guard⟩ := by rw [hc, <- hop]
    refine wa1 ho hc' (by rw [<- hgd]; exact hw) (by rw [<- Opd.ev_congr fun t ht => hsame t (by simp [jd.looks, hop, ht])]; exact hf)
     (by rw [<- zbh fun t ht => hsame t (by simp only [jd.looks, hop, List.mem_append]; exact .inl (.inr ht))]; exact hargs) hok hF' hR ?_
    rintro D a' r σ' ⟨rfl, rfl⟩ q1 q2 q3
    exact hafter D a' q1 q2 q3
   ·have hc' : zn P fz nt ops o = some ⟨seg[k].dst, seg[k].op, seg[k].guard⟩ := hc
    exact jbm ho hc' (by rw [<- hgd]; exact hw) hF' fun a' q3 => hafter C a' hR (.refl C) q3

def Feq (fr fr' : Fr) : Prop := ∀ t, look fr t = look fr' t
theorem Feq.put {fr fr' : Fr} (h : Feq fr fr') (d : Option Nat) (v : AV) : Feq (putA fr d v) (putA fr' d v) := by
 intro t
 cases d with
 | none => exact h t
 | some d => simp only [putA, look]; split <;> first | rfl | exact h t
theorem Feq.swap {fr : Fr} {d e : Option Nat} {v u : AV} (h : ∀ t, d = some t -> e ≠ some t) : Feq (putA (putA fr d v) e u) (putA (putA fr e u) d v) := by
 intro t
 cases d with
 | none => rfl
 | some d =>
  cases e with
  | none => rfl
  | some e =>
   have hne : d ≠ e := fun c => h d rfl (by rw [c])
   simp only [putA, look]
   by_cases c : e = t
   ·subst c; simp [hne]
   ·simp [c]
theorem Qc.feq {Z : Fr -> wa -> Prop} (hZ : ∀ F F' τ, Feq F F' -> Z F τ -> Z F' τ) {seg : List jd} {fr : Fr} {σ : wa} (h : Qc P Z seg fr σ) : ∀ {fr'}, Feq fr fr' -> Qc P Z seg fr' σ := by
 induction h with
 | nil h => exact fun he => .nil (hZ _ _ _ he h)
 | op hw ha _ ih => exact fun he => .op (by rw [<- jo fun t _ _ => he t]; exact hw) (fun τ => by rw [<- wah fun t _ => he t]; exact ha τ) (ih (he.put _ _))
 | no hw _ ih => exact fun he => .no (by rw [<- jo fun t _ _ => he t]; exact hw) (ih (he.put _ _))
 | call Q hw hf hargs hok _ ih => exact fun he => .call Q (by rw [<- jo fun t _ _ => he t]; exact hw) (by rw [<- Opd.ev_congr fun t _ => he t]; exact hf) (by rw [<- zbh fun t _ => he t]; exact hargs) hok fun r σ' hq => ih r σ' hq (he.put _ _)
theorem Qc.mono {Z Z' : Fr -> wa -> Prop} (hZ : ∀ F τ, Z F τ -> Z' F τ) {seg : List jd} {fr : Fr} {σ : wa} (h : Qc P Z seg fr σ) : Qc P Z' seg fr σ := by
 induction h with
 | nil h => exact .nil (hZ _ _ h)
 | op hw ha _ ih => exact .op hw ha ih
 | no hw _ ih => exact .no hw ih
 | call Q hw hf hargs hok _ ih => exact .call Q hw hf hargs hok ih
inductive Nw (P : Program) (N : Fr -> wa -> Prop) (x : jd) (fr : Fr) (σ : wa) : Prop where
 | op (o : AOp) (v : AV) : x.op = .op o -> wants fr x.guard = some true -> (∀ τ, aop o fr τ = some (v, τ)) -> N (putA fr x.dst v) σ -> Nw P N x fr σ
 | no : wants fr x.guard = some false -> N (putA fr x.dst (.tup [])) σ -> Nw P N x fr σ
 | call (f : Opd) (args : List Opd) (n : Nat) (pre cap : List Ce) (vs : List AV) (Q : AV -> wa -> Prop) : x.op = .call f args -> wants fr x.guard = some true -> f.ev fr = some (.c (.fn n pre cap)) -> evs fr args = some vs ->
  Ok P n (pre.map .c ++ vs ++ cap.map .c) σ Q -> (∀ r σ', Q r σ' -> N (putA fr x.dst r) σ') -> Nw P N x fr σ
theorem Qc.now {Z : Fr -> wa -> Prop} {x : jd} {rest : List jd} {fr : Fr} {σ : wa} (h : Qc P Z (x :: rest) fr σ) : Nw P (Qc P Z rest) x fr σ := by
 cases h with
 | op hw ha h => exact .op _ _ rfl hw ha h
 | no hw h => exact .no hw h
 | call Q hw hf hargs hok h => exact .call _ _ _ _ _ _ Q rfl hw hf hargs hok h
theorem Nw.qc {Z : Fr -> wa -> Prop} {x : jd} {rest : List jd} {fr : Fr} {σ : wa} (h : Nw P (Qc P Z rest) x fr σ) : Qc P Z (x :: rest) fr σ := by
 obtain ⟨d, op, g⟩ := x
 cases h with
 | op o v e hw ha h => simp only at e; subst e; exact .op hw ha h
 | no hw h => exact .no hw h
 | call f args n pre cap vs Q e hw hf hargs hok h => simp only at e; subst e; exact .call Q hw hf hargs hok h
structure wag (y x : jd) : Prop where
 xy : ∀ t ∈ x.looks, y.dst ≠ some t
 yx : ∀ t ∈ y.looks, x.dst ≠ some t
 dd : ∀ t, y.dst = some t -> x.dst ≠ some t
theorem wag.wants {y x : jd} (h : wag y x) (fr : Fr) (v : AV) : wants (putA fr y.dst v) x.guard = Am.wants fr x.guard :=
 jo fun t b e => zar (h.xy t (by simp [jd.looks, e]))
theorem wag.aop {y x : jd} (h : wag y x) (fr : Fr) (v : AV) {o : AOp} (e : x.op = .op o) (τ : wa) : aop o (putA fr y.dst v) τ = Am.aop o fr τ :=
 wah fun t ht => zar (h.xy t (by simp [jd.looks, e, ht]))
theorem wag.ev {y x : jd} (h : wag y x) (fr : Fr) (v : AV) {f : Opd} {args : List Opd} (e : x.op = .call f args) : f.ev (putA fr y.dst v) = f.ev fr :=
 Opd.ev_congr fun t ht => zar (h.xy t (by simp [jd.looks, e, ht]))
theorem wag.evs {y x : jd} (h : wag y x) (fr : Fr) (v : AV) {f : Opd} {args : List Opd} (e : x.op = .call f args) : evs (putA fr y.dst v) args = Am.evs fr args :=
 zbh fun t ht => zar (h.xy t (by simp only [jd.looks, e, List.mem_append]; exact .inl (.inr ht)))
theorem wag.symm {y x : jd} (h : wag y x) : wag x y := ⟨h.yx, h.xy, fun t e e' => h.dd t e' e⟩
theorem Qc.ahead {Z : Fr -> wa -> Prop} (hZ : ∀ F F' τ, Feq F F' -> Z F τ -> Z F' τ) {x : jd} {s2 : List jd} {v : AV} : ∀ (s1 : List jd) {fr : Fr} {σ : wa}, (∀ y ∈ s1, wag y x) -> Qc P Z (s1 ++ x :: s2) fr σ ->
 ((∃ o, x.op = .op o /\ Am.wants fr x.guard = some true /\ ∀ τ, aop o fr τ = some (v, τ)) \/ (Am.wants fr x.guard = some false /\ v = .tup [])) -> Qc P Z (s1 ++ s2) (putA fr x.dst v) σ
 | [], fr, σ, _, h, hv => by
  rcases hv with ⟨o, e, hw, ha⟩ | ⟨hw, rfl⟩
  ·cases h.now with
   | op o' v' e' hw' ha' hn =>
    rw [e] at e'
    injection e' with e'
    subst e'
    have := ha σ
    rw [ha' σ] at this
    injection this with this
    injection this with this
    subst this
    exact hn
   | no hw' hn => rw [hw] at hw'; cases hw'
   | call f args n pre cap vs Q e' => rw [e] at e'; cases e'
  ·cases h.now with
   | op o' v' e' hw' => rw [hw] at hw'; cases hw'
   | no hw' hn => exact hn
   | call f args n pre cap vs Q e' hw' => rw [hw] at hw'; cases hw'
 | y :: s1, fr, σ, hap, h, hv => by
  have hyx := hap y (by simp)
  have hap' : ∀ z ∈ s1, wag z x := fun z hz => hap z (by simp [hz])
  have hv' : ∀ u, ((∃ o, x.op = .op o /\ Am.wants (putA fr y.dst u) x.guard = some true /\ ∀ τ, Am.aop o (putA fr y.dst u) τ = some (v, τ)) \/ (Am.wants (putA fr y.dst u) x.guard = some false /\ v = .tup [])) := by
   intro u
   rcases hv with ⟨o, e, hw, ha⟩ | ⟨hw, rfl⟩
   ·exact .inl ⟨o, e, by rw [hyx.wants]; exact hw, fun τ => by rw [hyx.aop fr u e]; exact ha τ⟩
   ·exact .inr ⟨by rw [hyx.wants]; exact hw, rfl⟩
  have go : ∀ {u σ'}, Qc P Z (s1 ++ x :: s2) (putA fr y.dst u) σ' -> Qc P Z (s1 ++ s2) (putA (putA fr x.dst v) y.dst u) σ' := fun hq =>
   (Qc.ahead hZ s1 hap' hq (hv' _)).feq hZ (Feq.swap hyx.dd)
  refine Nw.qc ?_
  cases Qc.now h with
  | op o u e hw ha hn => exact .op o u e (by rw [hyx.symm.wants]; exact hw) (fun τ => by rw [hyx.symm.aop fr v e]; exact ha τ) (go hn)
  | no hw hn => exact .no (by rw [hyx.symm.wants]; exact hw) (go hn)
  | call f args n pre cap vs Q e hw hf hargs hok hn => exact .call f args n pre cap vs Q e (by rw [hyx.symm.wants]; exact hw) (by rw [hyx.symm.ev fr v e]; exact hf) (by rw [hyx.symm.evs fr v e]; exact hargs) hok fun r σ' hq => go (hn r σ' hq)
theorem Qc.callAhead {Z : Fr -> wa -> Prop} (hZ : ∀ F F' τ, Feq F F' -> Z F τ -> Z F' τ) {x : jd} {s2 : List jd} (hx : x.op.isCall = true) : ∀ (s1 : List jd) {fr : Fr} {σ : wa}, (∀ y ∈ s1, wag y x) -> (∀ y ∈ s1, y.op.isCall = false) -> Qc P Z (s1 ++ x :: s2) fr σ ->
 Nw P (Qc P Z (s1 ++ s2)) x fr σ
 | [], fr, σ, _, _, h => h.now
 | y :: s1, fr, σ, hap, hc, h => by
  have hyx := hap y (by simp)
  have hap' : ∀ z ∈ s1, wag z x := fun z hz => hap z (by simp [hz])
  have hc' : ∀ z ∈ s1, z.op.isCall = false := fun z hz => hc z (by simp [hz])
  have key : ∀ {u}, Qc P Z (s1 ++ x :: s2) (putA fr y.dst u) σ -> (∀ {w σ'}, Qc P Z (s1 ++ s2) (putA (putA fr y.dst u) x.dst w) σ' -> Qc P Z (y :: (s1 ++ s2)) (putA fr x.dst w) σ') -> Nw P (Qc P Z (y :: (s1 ++ s2))) x fr σ := by
   intro u hq hback
   cases Qc.callAhead hZ hx s1 hap' hc' hq with
   | op o w e hw ha hn => rw [e] at hx; cases hx
   | no hw hn => exact .no (by rw [<- hyx.wants fr u]; exact hw) (hback hn)
   | call f args n pre cap vs Q e hw hf hargs hok hn => exact .call f args n pre cap vs Q e (by rw [<- hyx.wants fr u]; exact hw) (by rw [<- hyx.ev fr u e]; exact hf) (by rw [<- hyx.evs fr u e]; exact hargs) hok fun r σ' hqq => hback (hn r σ' hqq)
  cases Qc.now h with
  | op o u e hw ha hn => exact key hn fun hq => Nw.qc (.op o u e (by rw [hyx.symm.wants]; exact hw) (fun τ => by rw [hyx.symm.aop fr _ e]; exact ha τ) (hq.feq hZ (Feq.swap hyx.dd)))
  | no hw hn => exact key hn fun hq => Nw.qc (.no (by rw [hyx.symm.wants]; exact hw) (hq.feq hZ (Feq.swap hyx.dd)))
  | call f args n pre cap vs Q e => have := hc y (by simp); rw [e] at this; cases this
def Live (nt : Nat) (fr : Fr) (σ : wa) : Prop := ∃ (C : Cx) (a : Act), Rl C σ /\ FrR C nt fr a
theorem Qc.valid {fz : List Nat} {nt : Nat} {Z : Fr -> wa -> Prop} {x : jd} {s2 : List jd} (hx : x.op.isCall = false) : ∀ (s1 : List jd) {fr : Fr} {σ : wa}, (∀ y ∈ s1, wag y x) -> (∀ y ∈ s1, ∃ o, zn P fz nt ops o = some y) -> Live nt fr σ -> Qc P Z (s1 ++ x :: s2) fr σ ->
 ∃ v, ((∃ o, x.op = .op o /\ Am.wants fr x.guard = some true /\ ∀ τ, aop o fr τ = some (v, τ)) \/ (Am.wants fr x.guard = some false /\ v = .tup []))
 | [], fr, σ, _, _, _, h => by
  cases h.now with
  | op o v e hw ha hn => exact ⟨v, .inl ⟨o, e, hw, ha⟩⟩
  | no hw hn => exact ⟨_, .inr ⟨hw, rfl⟩⟩
  | call f args n pre cap vs Q e => rw [e] at hx; cases hx
 | y :: s1, fr, σ, hap, hcm, ⟨C, a, hR, hF⟩, h => by
  have hyx := hap y (by simp)
  have hap' : ∀ z ∈ s1, wag z x := fun z hz => hap z (by simp [hz])
  have hcm' : ∀ z ∈ s1, ∃ o, zn P fz nt ops o = some z := fun z hz => hcm z (by simp [hz])
  obtain ⟨oo, hco⟩ := hcm y (by simp)
  have back : ∀ {u σ'}, Live nt (putA fr y.dst u) σ' -> Qc P Z (s1 ++ x :: s2) (putA fr y.dst u) σ' -> ∃ v, ((∃ o, x.op = .op o /\ Am.wants fr x.guard = some true /\ ∀ τ, Am.aop o fr τ = some (v, τ)) \/ (Am.wants fr x.guard = some false /\ v = .tup [])) := by
   intro u σ' hl hq
   obtain ⟨v, hv⟩ := Qc.valid hx s1 hap' hcm' hl hq
   refine ⟨v, ?_⟩
   rcases hv with ⟨o, e, hw, ha⟩ | ⟨hw, rfl⟩
   ·exact .inl ⟨o, e, by rw [<- hyx.wants fr u]; exact hw, fun τ => by rw [<- hyx.aop fr u e]; exact ha τ⟩
   ·exact .inr ⟨by rw [<- hyx.wants fr u]; exact hw, rfl⟩
  obtain ⟨d, op, g⟩ := y
  cases Qc.now h with
  | op o u e hw ha hn =>
   simp only at e
   subst e
   obtain ⟨w1, w2, w3, fzb, w4⟩ := j6 hco hF hw
   simp only at w3 w4
   obtain ⟨D, q, hR', hle, hxx, hrun⟩ := jdf w4 (ha σ) hR hF
   refine back (u := u) (σ' := σ) ⟨D, a.put oo.dst q, hR', ?_⟩ hn
   rw [w3]
   exact (hF.mono hle).putA (fun t e => w2 t (w3.trans e)) hxx
  | no hw hn =>
   obtain ⟨w1, w2, w3, fzb, w4⟩ := j6 hco hF hw
   simp only at w3 w4
   refine back ⟨C, a.put oo.dst undef, hR, ?_⟩ hn
   rw [w3]
   exact hF.putA (fun t e => w2 t (w3.trans e)) (.tup rfl fun i hi => by simp at hi)
  | call f args n pre cap vs Q e hw hf hargs hok hn =>
   simp only at e
   subst e
   obtain ⟨w1, w2, w3, fzb, w4⟩ := j6 hco hF hw
   simp only at w3 w4
   obtain ⟨D, a', r, σ', hq, hRD, hFD⟩ := jiw w4 w2 w3 hf hargs hok hF hR
   exact back ⟨D, a', hRD, hFD⟩ (hn r σ' hq)
theorem wd5 {hv : AO -> Bool} {ms : List Nat} {p : Nat} {seg : List jd} (h : zfo hv ms p seg = true) {k k' : Nat} (hk : k < seg.length) (hk' : k' < seg.length) (hlt : k < k') (hc : hv seg[k].op = true) (hc' : hv seg[k'].op = true) : (jbo ms (p + k') (ms.getD (p + k') 0)).testBit (p + k) = true := by
 unfold zfo at h
 simp only [List.all_eq_true, List.mem_filter, Bool.or_eq_true] at h
 have := h (p + k, seg[k]) ⟨jj.2 ⟨k, hk, rfl, rfl⟩, hc⟩ (p + k', seg[k']) ⟨jj.2 ⟨k', hk', rfl, rfl⟩, hc'⟩
 rcases this with h1 | h1
 ·simp at h1; omega
 ·exact h1
inductive Nx (P : Program) (N : Fr -> wa -> Prop) (x : jd) (fr : Fr) (σ : wa) : Prop where
 | op (o : AOp) (v : AV) (σ' : wa) : x.op = .op o -> wants fr x.guard = some true -> aop o fr σ = some (v, σ') -> N (putA fr x.dst v) σ' -> Nx P N x fr σ
 | no : wants fr x.guard = some false -> N (putA fr x.dst (.tup [])) σ -> Nx P N x fr σ
 | call (f : Opd) (args : List Opd) (n : Nat) (pre cap : List Ce) (vs : List AV) (Q : AV -> wa -> Prop) : x.op = .call f args -> wants fr x.guard = some true -> f.ev fr = some (.c (.fn n pre cap)) -> evs fr args = some vs ->
  Ok P n (pre.map .c ++ vs ++ cap.map .c) σ Q -> (∀ r σ', Q r σ' -> N (putA fr x.dst r) σ') -> Nx P N x fr σ
def left (p : Nat) (seg : List jd) (listed : Array Bool) : List (Nat × jd) := (zq p seg).filter fun x => !(listed.getD x.1 false)
theorem weq {α : Type} : ∀ {l : List α} {p : Nat}, ((zq p l).map (·.1)).Pairwise (· < ·)
 | [], p => by simp [zq]
 | x :: l, p => by
  simp only [zq, List.map_cons, List.pairwise_cons]
  refine ⟨fun i hi => ?_, weq⟩
  obtain ⟨⟨j, y⟩, hm, rfl⟩ := List.mem_map.1 hi
  obtain ⟨k, _, rfl, _⟩ := jj.1 hm
  simp only
  omega
open Classical in
theorem wld {fz : List Nat} {nt p : Nat} {seg : List jd} {C0 : Cx} {Z : Fr -> wa -> Prop} {W : List jd -> Fr -> wa -> Prop} {cf : AO -> AO -> Bool} (hWnil : ∀ F τ, W [] F τ -> Z F τ)
 (hW : ∀ (x : jd) (s1 s2 : List jd) (fr : Fr) (σ : wa), (∀ y ∈ s1, wag y x) -> (∀ y ∈ s1, ∃ o, zn P fz nt ops o = some y) -> (∀ y ∈ s1, cf y.op x.op = false) -> Live nt fr σ -> W (s1 ++ x :: s2) fr σ -> Nx P (W (s1 ++ s2)) x fr σ) (hA : Aft ops ms) (hq : p + seg.length <= ops.size) (hne : seg ≠ [])
 (hseg : ∀ k (h : k < seg.length), ∃ o, ops[p + k]? = some o /\ zn P fz nt ops o = some seg[k])
 (hdst : ∀ k k' (h : k < seg.length) (h' : k' < seg.length) d, k ≠ k' -> seg[k].dst = some d -> seg[k'].dst ≠ some d)
 (hlook : ∀ k k' (h : k < seg.length) (h' : k' < seg.length) t, t ∈ seg[k].looks -> seg[k'].dst = some t -> (ms.getD (p + k) 0).testBit (p + k') = true)
 (hchain : ∀ k k' (hk : k < seg.length) (hk' : k' < seg.length), k < k' -> cf seg[k].op seg[k'].op = true -> (jbo ms (p + k') (ms.getD (p + k') 0)).testBit (p + k) = true)
 (hcut : p + seg.length < ops.size -> whz (jbs ms) (p + seg.length) = true)
 (hnext : ∀ (D : Cx) (a : Act) (F : Fr) (σ : wa) (listed : Array Bool) (fuel : Nat), Z F σ -> Upto ops.size (p + seg.length) listed -> rem ops.size listed <= fuel -> C0.Le D -> FrR D nt F a -> Rl D σ -> wpAny P .any ops Q fuel listed a D.w) :
 ∀ (fuel : Nat) (listed : Array Bool) (C : Cx) (a : Act) (fr : Fr) (σ : wa), listed.size = ops.size -> (∀ i, i < p -> listed[i]? = some true) -> (∀ i, p + seg.length <= i -> i < ops.size -> listed[i]? = some false) ->
  (∀ i, listed[i]? = some true -> ∀ j, (ms.getD i 0).testBit j = true -> listed[j]? = some true) -> rem ops.size listed <= fuel -> C0.Le C -> Rl C σ -> FrR C nt fr a ->
  W ((left p seg listed).map (·.2)) fr σ -> wpAny P .any ops Q fuel listed a C.w := by
 intro fuel
 have done : ∀ (listed : Array Bool) (fuel : Nat) (C : Cx) (a : Act) (fr : Fr) (σ : wa), listed.size = ops.size -> (∀ i, i < p + seg.length -> listed[i]? = some true) -> (∀ i, p + seg.length <= i -> i < ops.size -> listed[i]? = some false) -> rem ops.size listed <= fuel -> C0.Le C -> Rl C σ -> FrR C nt fr a ->
  W ((left p seg listed).map (·.2)) fr σ -> wpAny P .any ops Q fuel listed a C.w := by
  intro listed fuel C a fr σ hs all hhi hrem le hR hF hqc
  have hnil : left p seg listed = [] := by
   unfold left
   rw [List.filter_eq_nil_iff]
   rintro ⟨i, x⟩ hx
   obtain ⟨k, hk, rfl, _⟩ := jj.1 hx
   have := all (p + k) (by omega)
   simp [Array.getD_eq_getD_getElem?, this]
  rw [hnil] at hqc
  refine hnext C a fr σ listed fuel (hWnil _ _ hqc) ⟨hs, fun i hi => ?_⟩ hrem le hF hR
  by_cases e : i < p + seg.length
  ·rw [all i e]; simp [e]
  ·rw [hhi i (by omega) hi]; simp [e]
 induction fuel with
 | zero =>
  intro listed C a fr σ hs hlo hhi hdc hrem le hR hF hqc
  refine done listed 0 C a fr σ hs (fun i hi => ?_) hhi hrem le hR hF hqc
  have hlt : i < listed.size := by omega
  cases hb : listed[i]'hlt with
  | true => simp [hlt, hb]
  | false =>
   have := jjt (n := ops.size) (i := i) hs (by simp [hlt, hb])
   omega
 | succ n ih =>
  intro listed C a fr σ hs hlo hhi hdc hrem le hR hF hqc
  by_cases hall : ∀ i, i < p + seg.length -> listed[i]? = some true
  ·exact done listed (n + 1) C a fr σ hs hall hhi hrem le hR hF hqc
  ·have hun : ∃ i, i < p + seg.length /\ listed[i]? = some false := by
    simp only [not_forall] at hall
    obtain ⟨i, hi, hne⟩ := hall
    refine ⟨i, hi, ?_⟩
    have hlt : i < listed.size := by omega
    cases hb : listed[i]'hlt with
    | true => exact absurd (by simp [hlt, hb]) hne
    | false => simp [hlt, hb]
   have hready : Region.ready .any ops listed ≠ [] := by
    obtain ⟨i, hi, hf⟩ := hun
    have : ∀ m i, i < m -> i < p + seg.length -> listed[i]? = some false -> ∃ r, r ∈ Region.ready .any ops listed := by
     intro m
     induction m with
     | zero => intro i hi; omega
     | succ m ihm =>
      intro i him hi hf
      by_cases hr : ∀ j, (ms.getD i 0).testBit j = true -> listed[j]? = some true
      ·exact ⟨i, (jbh hA hs).2 ⟨by omega, hf, hr⟩⟩
      ·simp only [not_forall] at hr
       obtain ⟨j, hj, hne⟩ := hr
       have hji := hA.lt i j hj
       have hlt : j < listed.size := by omega
       refine ihm j (by omega) (by omega) ?_
       cases hb : listed[j]'hlt with
       | true => exact absurd (by simp [hlt, hb]) hne
       | false => simp [hlt, hb]
    obtain ⟨r, hr⟩ := this (i + 1) i (by omega) hi hf
    intro e
    rw [e] at hr
    simp at hr
   refine ⟨fun e => absurd e hready, fun i hi => ?_⟩
   obtain ⟨h1, h2, h3⟩ := (jbh hA hs).1 hi
   have hge : p <= i := by
    by_cases e : i < p
    ·rw [hlo i e] at h2; cases h2
    ·omega
   have hlt : i < p + seg.length := by
    by_cases e : i < p + seg.length
    ·exact e
    ·obtain ⟨j, hj, hf⟩ := hun
     have := zc1 (hcut (by omega)) (D := fun j => listed[j]? = some true) hdc (i := i) (by omega) (by rw [hA.len]; exact h1) h3 (j := j) hj
     rw [hf] at this
     cases this
   obtain ⟨k, rfl⟩ : ∃ k, i = p + k := ⟨i - p, by omega⟩
   have hk : k < seg.length := by omega
   obtain ⟨o, ho, hc⟩ := hseg k hk
   -- its place among what is left
   have hmem : (p + k, seg[k]) ∈ left p seg listed := by
    unfold left
    rw [List.mem_filter]
    refine ⟨jj.2 ⟨k, hk, rfl, rfl⟩, ?_⟩
    simp [Array.getD_eq_getD_getElem?, h2]
   obtain ⟨l1, l2, hl12⟩ := List.append_of_mem hmem
   have hpw : ((left p seg listed).map (·.1)).Pairwise (· < ·) := List.Pairwise.sublist (List.Sublist.map _ List.filter_sublist) weq
   have hl1lt : ∀ z ∈ l1, z.1 < p + k := by
    intro z hz
    rw [hl12, yaq, List.pairwise_append] at hpw
    exact hpw.2.2 z.1 (List.mem_map_of_mem hz) (p + k) (by simp)
   have hl2gt : ∀ z ∈ l2, p + k < z.1 := by
    intro z hz
    rw [hl12, yaq, List.pairwise_append, List.map_cons, List.pairwise_cons] at hpw
    exact hpw.2.1.1 z.1 (List.mem_map_of_mem hz)
   have hl1 : ∀ z ∈ l1, ∃ m, ∃ hm : m < seg.length, m < k /\ z = (p + m, seg[m]) /\ ¬ listed[p + m]? = some true := by
    intro z hz
    have hzm : z ∈ left p seg listed := by rw [hl12]; exact List.mem_append_left _ hz
    unfold left at hzm
    rw [List.mem_filter] at hzm
    obtain ⟨i, x⟩ := z
    obtain ⟨m, hm, rfl, rfl⟩ := jj.1 hzm.1
    have := hl1lt _ hz
    refine ⟨m, hm, by simp at this; omega, rfl, fun e => ?_⟩
    have h9 := hzm.2
    simp [Array.getD_eq_getD_getElem?, e] at h9
   have hap : ∀ y ∈ l1.map (·.2), wag y seg[k] := by
    intro y hy
    obtain ⟨z, hz, rfl⟩ := List.mem_map.1 hy
    obtain ⟨m, hm, hmk, rfl, hnl⟩ := hl1 z hz
    refine ⟨fun t ht hd => hnl (h3 _ (hlook k m hk hm t ht hd)), fun t ht hd => ?_, fun t hd => hdst m k hm hk t (by omega) hd⟩
    have := hA.lt _ _ (hlook m k hm hk t ht hd)
    omega
   have hcm : ∀ y ∈ l1.map (·.2), ∃ o, zn P fz nt ops o = some y := by
    intro y hy
    obtain ⟨z, hz, rfl⟩ := List.mem_map.1 hy
    obtain ⟨m, hm, _, rfl, _⟩ := hl1 z hz
    obtain ⟨o, _, h⟩ := hseg m hm
    exact ⟨o, h⟩
   have hleft : (left p seg (listed.setIfInBounds (p + k) true)) = l1 ++ l2 := by
    have e1 : left p seg (listed.setIfInBounds (p + k) true) = (left p seg listed).filter fun x => x.1 != p + k := by
     unfold left
     rw [List.filter_filter]
     refine List.filter_congr fun z hz => ?_
     obtain ⟨i, x⟩ := z
     obtain ⟨m, hm, rfl, rfl⟩ := jj.1 hz
     by_cases e : m = k
     ·subst e
      simp [Array.getD_eq_getD_getElem?, hs, h1]
     ·simp [Array.getD_eq_getD_getElem?, Array.getElem?_setIfInBounds_ne (show p + k ≠ p + m by omega), e]
    rw [e1, hl12, List.filter_append, List.filter_cons]
    have f1 : l1.filter (fun x => x.1 != p + k) = l1 := List.filter_eq_self.2 fun z hz => by have := hl1lt z hz; simp; omega
    have f2 : l2.filter (fun x => x.1 != p + k) = l2 := List.filter_eq_self.2 fun z hz => by have := hl2gt z hz; simp; omega
    rw [f1, f2]
    simp
   have hset : ∀ j, j ≠ p + k -> (listed.setIfInBounds (p + k) true)[j]? = listed[j]? := fun j hj => Array.getElem?_setIfInBounds_ne (Ne.symm hj)
   have hself : (listed.setIfInBounds (p + k) true)[p + k]? = some true := by simp [hs, h1]
   have hafter : ∀ (D : Cx) (a' : Act) (F : Fr) (τ : wa), Rl D τ -> C.Le D -> FrR D nt F a' -> W (l1.map (·.2) ++ l2.map (·.2)) F τ -> wpAny P .any ops Q n (listed.setIfInBounds (p + k) true) a' D.w := by
    intro D a' F τ hRD hle hFD hqd
    refine ih _ D a' F τ (by simp [hs]) (fun j hj => by rw [hset j (by omega)]; exact hlo j hj) (fun j hj hj2 => by rw [hset j (by omega)]; exact hhi j hj hj2) (fun j hj m hm => ?_) (by have := zh2 hs h2; omega) (le.trans hle) hRD hFD ?_
    ·by_cases e : m = p + k
     ·subst e; exact hself
     ·rw [hset m e]
      by_cases e2 : j = p + k
      ·subst e2; exact h3 m hm
      ·rw [hset j e2] at hj
       exact hdc j hj m hm
    ·rw [hleft, yaq]
     exact hqd
   rw [hl12, yaq, List.map_cons] at hqc
   have hnc : ∀ y ∈ l1.map (·.2), cf y.op seg[k].op = false := by
    intro y hy
    obtain ⟨z, hz, rfl⟩ := List.mem_map.1 hy
    obtain ⟨m, hm, hmk, rfl, hnl⟩ := hl1 z hz
    cases hcy : cf seg[m].op seg[k].op with
    | false => rfl
    | true => exact absurd (zbz (D := fun j => listed[j]? = some true) hdc (p + k) _ h3 (p + m) (hchain m k hm hk hmk hcy)) hnl
   cases hW _ _ _ _ _ hap hcm hnc ⟨C, a, hR, hF⟩ hqc with
   | op ao v σ' hop hw ha hn =>
    have hc' : zn P fz nt ops o = some ⟨seg[k].dst, .op ao, seg[k].guard⟩ := by rw [hc, <- hop]
    exact zao ho hc' hw ha hF hR fun D a' q1 q2 q3 => hafter D a' _ _ q1 q2 q3 hn
   | no hw hn =>
    have hc' : zn P fz nt ops o = some ⟨seg[k].dst, seg[k].op, seg[k].guard⟩ := hc
    exact jbm ho hc' hw hF fun a' q3 => hafter C a' _ _ hR (.refl C) q3 hn
   | call f args m pre cap vs Q' e hw hf hargs hok hn =>
    have hc' : zn P fz nt ops o = some ⟨seg[k].dst, .call f args, seg[k].guard⟩ := by rw [hc, <- e]
    exact wa1 ho hc' hw hf hargs hok hF hR fun D a' r σ' hq q1 q2 q3 => hafter D a' _ _ q1 q2 q3 (hn r σ' hq)
theorem wnu {fz : List Nat} {nt p : Nat} {seg : List jd} {C0 : Cx} {Z : Fr -> wa -> Prop} {W : List jd -> Fr -> wa -> Prop} {hv : AO -> Bool} (hWnil : ∀ F τ, W [] F τ -> Z F τ)
 (hW : ∀ (x : jd) (s1 s2 : List jd) (fr : Fr) (σ : wa), (∀ y ∈ s1, wag y x) -> (∀ y ∈ s1, ∃ o, zn P fz nt ops o = some y) -> (hv x.op = true -> ∀ y ∈ s1, hv y.op = false) -> Live nt fr σ -> W (s1 ++ x :: s2) fr σ -> Nx P (W (s1 ++ s2)) x fr σ) (hA : Aft ops ms) (hq : p + seg.length <= ops.size) (hne : seg ≠ [])
 (hseg : ∀ k (h : k < seg.length), ∃ o, ops[p + k]? = some o /\ zn P fz nt ops o = some seg[k])
 (hdst : ∀ k k' (h : k < seg.length) (h' : k' < seg.length) d, k ≠ k' -> seg[k].dst = some d -> seg[k'].dst ≠ some d)
 (hlook : ∀ k k' (h : k < seg.length) (h' : k' < seg.length) t, t ∈ seg[k].looks -> seg[k'].dst = some t -> (ms.getD (p + k) 0).testBit (p + k') = true)
 (hchain : zfo hv ms p seg = true)
 (hcut : p + seg.length < ops.size -> whz (jbs ms) (p + seg.length) = true)
 (hnext : ∀ (D : Cx) (a : Act) (F : Fr) (σ : wa) (listed : Array Bool) (fuel : Nat), Z F σ -> Upto ops.size (p + seg.length) listed -> rem ops.size listed <= fuel -> C0.Le D -> FrR D nt F a -> Rl D σ -> wpAny P .any ops Q fuel listed a D.w) :
 ∀ (fuel : Nat) (listed : Array Bool) (C : Cx) (a : Act) (fr : Fr) (σ : wa), listed.size = ops.size -> (∀ i, i < p -> listed[i]? = some true) -> (∀ i, p + seg.length <= i -> i < ops.size -> listed[i]? = some false) ->
  (∀ i, listed[i]? = some true -> ∀ j, (ms.getD i 0).testBit j = true -> listed[j]? = some true) -> rem ops.size listed <= fuel -> C0.Le C -> Rl C σ -> FrR C nt fr a ->
  W ((left p seg listed).map (·.2)) fr σ -> wpAny P .any ops Q fuel listed a C.w :=
 wld (cf := fun a b => hv a && hv b) hWnil (fun x s1 s2 fr σ hap hcm hnc => hW x s1 s2 fr σ hap hcm fun hx y hy => by have := hnc y hy; simpa [hx] using this) hA hq hne hseg hdst hlook
  (fun k k' hk hk' hlt hc => by
    simp only [Bool.and_eq_true] at hc
    exact wd5 hchain hk hk' hlt hc.1 hc.2) hcut hnext
theorem Qc.next {fz : List Nat} {nt : Nat} {Z : Fr -> wa -> Prop} (hZ : ∀ F F' τ, Feq F F' -> Z F τ -> Z F' τ) (x : jd) (s1 s2 : List jd) (fr : Fr) (σ : wa) (hap : ∀ y ∈ s1, wag y x) (hcm : ∀ y ∈ s1, ∃ o, zn P fz nt ops o = some y) (hnc : x.op.isCall = true -> ∀ y ∈ s1, y.op.isCall = false) (hl : Live nt fr σ) (h : Qc P Z (s1 ++ x :: s2) fr σ) : Nx P (Qc P Z (s1 ++ s2)) x fr σ := by
 cases hcall : x.op.isCall with
 | false =>
  obtain ⟨v, hv⟩ := Qc.valid hcall _ hap hcm hl h
  have hn := Qc.ahead hZ _ hap h hv
  rcases hv with ⟨ao, hop, hw, ha⟩ | ⟨hw, rfl⟩
  ·exact .op ao v σ hop hw (ha σ) hn
  ·exact .no hw hn
 | true =>
  cases Qc.callAhead hZ hcall _ hap (hnc hcall) h with
  | op ao v e => rw [e] at hcall; cases hcall
  | no hw hn => exact .no hw hn
  | call f args m pre cap vs Q' e hw hf hargs hok hn => exact .call f args m pre cap vs Q' e hw hf hargs hok hn
theorem Qk.feq {I : wa -> Prop} {Z : Fr -> wa -> Prop} (hZ : ∀ F F' τ, Feq F F' -> Z F τ -> Z F' τ) {seg : List jd} {fr : Fr} {σ : wa} (h : Qk P I Z seg fr σ) : ∀ {fr'}, Feq fr fr' -> Qk P I Z seg fr' σ := by
 induction h with
 | nil h => exact fun he => .nil (hZ _ _ _ he h)
 | op hw ha _ ih => exact fun he => .op (by rw [<- jo fun t _ _ => he t]; exact hw) (fun τ hτ => by rw [<- wah fun t _ => he t]; exact ha τ hτ) (ih (he.put _ _))
 | no hw _ ih => exact fun he => .no (by rw [<- jo fun t _ _ => he t]; exact hw) (ih (he.put _ _))
 | call hw hf hargs hok _ ih => exact fun he => .call (by rw [<- jo fun t _ _ => he t]; exact hw) (by rw [<- Opd.ev_congr fun t _ => he t]; exact hf) (by rw [<- zbh fun t _ => he t]; exact hargs) hok (ih (he.put _ _))
 | wop ho hw ha hI _ ih => exact fun he => .wop ho (by rw [<- jo fun t _ _ => he t]; exact hw) (by rw [<- wah fun t _ => he t]; exact ha) hI (ih (he.put _ _))
theorem Qk.mono {I : wa -> Prop} {Z Z' : Fr -> wa -> Prop} (hZ : ∀ F τ, Z F τ -> Z' F τ) {seg : List jd} {fr : Fr} {σ : wa} (h : Qk P I Z seg fr σ) : Qk P I Z' seg fr σ := by
 induction h with
 | nil h => exact .nil (hZ _ _ h)
 | op hw ha _ ih => exact .op hw ha ih
 | no hw _ ih => exact .no hw ih
 | call hw hf hargs hok _ ih => exact .call hw hf hargs hok ih
 | wop ho hw ha hI _ ih => exact .wop ho hw ha hI ih
inductive Nk (P : Program) (I : wa -> Prop) (N : Fr -> wa -> Prop) (x : jd) (fr : Fr) (σ : wa) : Prop where
 | op (o : AOp) (v : AV) : x.op = .op o -> wants fr x.guard = some true -> (∀ τ, I τ -> aop o fr τ = some (v, τ)) -> N (putA fr x.dst v) σ -> Nk P I N x fr σ
 | no : wants fr x.guard = some false -> N (putA fr x.dst (.tup [])) σ -> Nk P I N x fr σ
 | call (f : Opd) (args : List Opd) (n : Nat) (pre cap : List Ce) (vs : List AV) (r : AV) : x.op = .call f args -> wants fr x.guard = some true -> f.ev fr = some (.c (.fn n pre cap)) -> evs fr args = some vs ->
  (∀ τ, I τ -> Ok P n (pre.map .c ++ vs ++ cap.map .c) τ (fun r' τ' => r' = r /\ τ' = τ)) -> N (putA fr x.dst r) σ -> Nk P I N x fr σ
 | wop (o : AOp) (v : AV) (σ' : wa) : x.op = .op o -> o.writes = true -> wants fr x.guard = some true -> aop o fr σ = some (v, σ') -> I σ' -> N (putA fr x.dst v) σ' -> Nk P I N x fr σ
theorem Qk.now {I : wa -> Prop} {Z : Fr -> wa -> Prop} {x : jd} {rest : List jd} {fr : Fr} {σ : wa} (h : Qk P I Z (x :: rest) fr σ) : Nk P I (Qk P I Z rest) x fr σ := by
 cases h with
 | op hw ha h => exact .op _ _ rfl hw ha h
 | no hw h => exact .no hw h
 | call hw hf hargs hok h => exact .call _ _ _ _ _ _ _ rfl hw hf hargs hok h
 | wop ho hw ha hI h => exact .wop _ _ _ rfl ho hw ha hI h
theorem Nk.qk {I : wa -> Prop} {Z : Fr -> wa -> Prop} {x : jd} {rest : List jd} {fr : Fr} {σ : wa} (h : Nk P I (Qk P I Z rest) x fr σ) : Qk P I Z (x :: rest) fr σ := by
 obtain ⟨d, op, g⟩ := x
 cases h with
 | op o v e hw ha h => simp only at e; subst e; exact .op hw ha h
 | no hw h => exact .no hw h
 | call f args n pre cap vs r e hw hf hargs hok h => simp only at e; subst e; exact .call hw hf hargs hok h
 | wop o v σ' e ho hw ha hI h => simp only at e; subst e; exact .wop ho hw ha hI h
theorem Qk.ahead {I : wa -> Prop} {Z : Fr -> wa -> Prop} (hZ : ∀ F F' τ, Feq F F' -> Z F τ -> Z F' τ) {x : jd} {s2 : List jd} : ∀ (s1 : List jd) {fr : Fr} {σ : wa}, I σ -> (∀ y ∈ s1, wag y x) -> (x.op.writes = true -> ∀ y ∈ s1, y.op.writes = false) -> Qk P I Z (s1 ++ x :: s2) fr σ ->
 Nk P I (fun F τ => I τ /\ Qk P I Z (s1 ++ s2) F τ) x fr σ
 | [], fr, σ, hI, _, _, h => by
  cases h.now with
  | op o v e hw ha hn => exact .op o v e hw ha ⟨hI, hn⟩
  | no hw hn => exact .no hw ⟨hI, hn⟩
  | call f args n pre cap vs r e hw hf hargs hok hn => exact .call f args n pre cap vs r e hw hf hargs hok ⟨hI, hn⟩
  | wop o v σ' e ho hw ha hI' hn => exact .wop o v σ' e ho hw ha hI' ⟨hI', hn⟩
 | y :: s1, fr, σ, hI, hap, hnc, h => by
  have hyx := hap y (by simp)
  have hap' : ∀ z ∈ s1, wag z x := fun z hz => hap z (by simp [hz])
  have hnc' : x.op.writes = true -> ∀ z ∈ s1, z.op.writes = false := fun hx z hz => hnc hx z (by simp [hz])
  have key : ∀ {u σ'}, I σ' -> Qk P I Z (s1 ++ x :: s2) (putA fr y.dst u) σ' -> (x.op.writes = true -> σ' = σ) ->
   (∀ {w τ}, I τ -> (x.op.writes = true \/ τ = σ') -> Qk P I Z (s1 ++ s2) (putA (putA fr y.dst u) x.dst w) τ -> Qk P I Z (y :: (s1 ++ s2)) (putA fr x.dst w) (if x.op.writes then τ else σ)) -> Nk P I (fun F τ => I τ /\ Qk P I Z (y :: (s1 ++ s2)) F τ) x fr σ := by
   intro u σ' hI' hq hxs hback
   cases Qk.ahead hZ s1 hI' hap' hnc' hq with
   | op o v e hw ha hn =>
    have hb := hback (w := v) hI' (.inr rfl) hn.2
    refine .op o v e (by rw [<- hyx.wants fr u]; exact hw) (fun τ hτ => by rw [<- hyx.aop fr u e]; exact ha τ hτ) ⟨hI, ?_⟩
    cases hx : x.op.writes with
    | false => rw [hx] at hb; exact hb
    | true => rw [hx] at hb; rw [<- hxs hx]; exact hb
   | no hw hn =>
    have hb := hback (w := .tup []) hI' (.inr rfl) hn.2
    refine .no (by rw [<- hyx.wants fr u]; exact hw) ⟨hI, ?_⟩
    cases hx : x.op.writes with
    | false => rw [hx] at hb; exact hb
    | true => rw [hx] at hb; rw [<- hxs hx]; exact hb
   | call f args n pre cap vs r e hw hf hargs hok hn =>
    have hb := hback (w := r) hI' (.inr rfl) hn.2
    refine .call f args n pre cap vs r e (by rw [<- hyx.wants fr u]; exact hw) (by rw [<- hyx.ev fr u e]; exact hf) (by rw [<- hyx.evs fr u e]; exact hargs) hok ⟨hI, ?_⟩
    rw [e] at hb
    exact hb
   | wop o v τ e ho hw ha hI2 hn =>
    have hx : x.op.writes = true := by rw [e]; exact ho
    have hb := hback (w := v) hI2 (.inl hx) hn.2
    rw [hx] at hb
    refine .wop o v τ e ho (by rw [<- hyx.wants fr u]; exact hw) (by rw [<- hyx.aop fr u e, <- hxs hx]; exact ha) hI2 ⟨hI2, hb⟩
  cases Qk.now h with
  | op o u e hw ha hn =>
   refine key hI hn (fun _ => rfl) fun {w τ} hτ hor hq => ?_
   have hτ2 : (if x.op.writes then τ else σ) = τ := by
    rcases hor with h1 | h1
    ·rw [if_pos h1]
    ·subst h1; split <;> rfl
   rw [hτ2]
   exact Nk.qk (.op o u e (by rw [hyx.symm.wants]; exact hw) (fun τ hτ => by rw [hyx.symm.aop fr _ e]; exact ha τ hτ) (hq.feq hZ (Feq.swap hyx.dd)))
  | no hw hn =>
   refine key hI hn (fun _ => rfl) fun {w τ} hτ hor hq => ?_
   have hτ2 : (if x.op.writes then τ else σ) = τ := by
    rcases hor with h1 | h1
    ·rw [if_pos h1]
    ·subst h1; split <;> rfl
   rw [hτ2]
   exact Nk.qk (.no (by rw [hyx.symm.wants]; exact hw) (hq.feq hZ (Feq.swap hyx.dd)))
  | call f args n pre cap vs r e hw hf hargs hok hn =>
   refine key hI hn (fun _ => rfl) fun {w τ} hτ hor hq => ?_
   have hτ2 : (if x.op.writes then τ else σ) = τ := by
    rcases hor with h1 | h1
    ·rw [if_pos h1]
    ·subst h1; split <;> rfl
   rw [hτ2]
   exact Nk.qk (.call f args n pre cap vs r e (by rw [hyx.symm.wants]; exact hw) (by rw [hyx.symm.ev fr _ e]; exact hf) (by rw [hyx.symm.evs fr _ e]; exact hargs) hok (hq.feq hZ (Feq.swap hyx.dd)))
  | wop o u σ' e ho hw ha hI' hn =>
   have hxw : x.op.writes = false := by
    cases hx : x.op.writes with
    | false => rfl
    | true =>
     have := hnc hx y (by simp)
     rw [e] at this
     rw [show AO.writes (.op o) = o.writes from rfl, ho] at this
     cases this
   refine key hI' hn (fun hx => by rw [hxw] at hx; cases hx) fun {w τ} hτ hor hq => ?_
   rw [hxw]
   have hτ2 : τ = σ' := by
    rcases hor with h1 | h1
    ·rw [hxw] at h1; cases h1
    ·exact h1
   subst hτ2
   exact Nk.qk (.wop o u τ e ho (by rw [hyx.symm.wants]; exact hw) (by rw [hyx.symm.aop fr _ e]; exact ha) hI' (hq.feq hZ (Feq.swap hyx.dd)))
theorem Qk.next {fz : List Nat} {nt : Nat} {I : wa -> Prop} {Z : Fr -> wa -> Prop} (hZ : ∀ F F' τ, Feq F F' -> Z F τ -> Z F' τ) (x : jd) (s1 s2 : List jd) (fr : Fr) (σ : wa) (hap : ∀ y ∈ s1, wag y x) (hcm : ∀ y ∈ s1, ∃ o, zn P fz nt ops o = some y) (hnc : x.op.writes = true -> ∀ y ∈ s1, y.op.writes = false) (hl : Live nt fr σ) (h : I σ /\ Qk P I Z (s1 ++ x :: s2) fr σ) : Nx P (fun F τ => I τ /\ Qk P I Z (s1 ++ s2) F τ) x fr σ := by
 cases Qk.ahead hZ s1 h.1 hap hnc h.2 with
 | op o v e hw ha hn => exact .op o v σ e hw (ha σ h.1) hn
 | no hw hn => exact .no hw hn
 | call f args n pre cap vs r e hw hf hargs hok hn => exact .call f args n pre cap vs _ e hw hf hargs (hok σ h.1) fun r' τ' hq => by obtain ⟨rfl, rfl⟩ := hq; exact hn
 | wop o v σ' e ho hw ha hI' hn => exact .op o v σ' e hw ha hn

theorem zle {ms : List Nat} {p : Nat} {seg : List jd} (h : stOk ms p seg = true) (k k' : Nat) (hk : k < seg.length) (hk' : k' < seg.length) (hlt : k < k') (hc : AO.clash seg[k].op seg[k'].op = true) : (jbo ms (p + k') (ms.getD (p + k') 0)).testBit (p + k) = true := by
 unfold stOk at h
 simp only [List.all_eq_true, Bool.or_eq_true] at h
 rcases h (p + k, seg[k]) (jj.2 ⟨k, hk, rfl, rfl⟩) (p + k', seg[k']) (jj.2 ⟨k', hk', rfl, rfl⟩) with (h1 | h1) | h1
 ·simp at h1; omega
 ·simp only at h1; rw [hc] at h1; cases h1
 ·exact h1
theorem Qw.feq {Z : Fr -> wa -> Prop} (hZ : ∀ F F' τ, Feq F F' -> Z F τ -> Z F' τ) {seg : List jd} {fr : Fr} {σ : wa} (h : Qw P Z seg fr σ) : ∀ {fr'}, Feq fr fr' -> Qw P Z seg fr' σ := by
 induction h with
 | nil h => exact fun he => .nil (hZ _ _ _ he h)
 | op hw ha _ ih => exact fun he => .op (by rw [<- jo fun t _ _ => he t]; exact hw) (fun τ => by rw [<- wah fun t _ => he t]; exact ha τ) (ih (he.put _ _))
 | no hw _ ih => exact fun he => .no (by rw [<- jo fun t _ _ => he t]; exact hw) (ih (he.put _ _))
 | rd ho hw ha _ ih => exact fun he => .rd ho (by rw [<- jo fun t _ _ => he t]; exact hw) (by rw [<- wah fun t _ => he t]; exact ha) (ih (he.put _ _))
 | wr ho hw ha _ ih => exact fun he => .wr ho (by rw [<- jo fun t _ _ => he t]; exact hw) (by rw [<- wah fun t _ => he t]; exact ha) (ih (he.put _ _))
theorem Qw.mono {Z Z' : Fr -> wa -> Prop} (hZ : ∀ F τ, Z F τ -> Z' F τ) {seg : List jd} {fr : Fr} {σ : wa} (h : Qw P Z seg fr σ) : Qw P Z' seg fr σ := by
 induction h with
 | nil h => exact .nil (hZ _ _ h)
 | op hw ha _ ih => exact .op hw ha ih
 | no hw _ ih => exact .no hw ih
 | rd ho hw ha _ ih => exact .rd ho hw ha ih
 | wr ho hw ha _ ih => exact .wr ho hw ha ih
inductive Nz (P : Program) (N : Fr -> wa -> Prop) (x : jd) (fr : Fr) (σ : wa) : Prop where
 | op (o : AOp) (v : AV) : x.op = .op o -> wants fr x.guard = some true -> (∀ τ, aop o fr τ = some (v, τ)) -> N (putA fr x.dst v) σ -> Nz P N x fr σ
 | no : wants fr x.guard = some false -> N (putA fr x.dst (.tup [])) σ -> Nz P N x fr σ
 | rd (o : AOp) (v : AV) : x.op = .op o -> o.touches = true -> wants fr x.guard = some true -> aop o fr σ = some (v, σ) -> N (putA fr x.dst v) σ -> Nz P N x fr σ
 | wr (o : AOp) (v : AV) (σ' : wa) : x.op = .op o -> o.stores = true -> wants fr x.guard = some true -> aop o fr σ = some (v, σ') -> N (putA fr x.dst v) σ' -> Nz P N x fr σ
theorem Qw.now {Z : Fr -> wa -> Prop} {x : jd} {rest : List jd} {fr : Fr} {σ : wa} (h : Qw P Z (x :: rest) fr σ) : Nz P (Qw P Z rest) x fr σ := by
 cases h with
 | op hw ha h => exact .op _ _ rfl hw ha h
 | no hw h => exact .no hw h
 | rd ho hw ha h => exact .rd _ _ rfl ho hw ha h
 | wr ho hw ha h => exact .wr _ _ _ rfl ho hw ha h
theorem Nz.qw {Z : Fr -> wa -> Prop} {x : jd} {rest : List jd} {fr : Fr} {σ : wa} (h : Nz P (Qw P Z rest) x fr σ) : Qw P Z (x :: rest) fr σ := by
 obtain ⟨d, op, g⟩ := x
 cases h with
 | op o v e hw ha h => simp only at e; subst e; exact .op hw ha h
 | no hw h => exact .no hw h
 | rd o v e ho hw ha h => simp only at e; subst e; exact .rd ho hw ha h
 | wr o v σ' e ho hw ha h => simp only at e; subst e; exact .wr ho hw ha h
theorem wg2 {o : AOp} (h : o.stores = true) : o.touches = true := by
 cases o <;> first | rfl | cases h
theorem Qw.ahead {Z : Fr -> wa -> Prop} (hZ : ∀ F F' τ, Feq F F' -> Z F τ -> Z F' τ) {x : jd} {s2 : List jd} : ∀ (s1 : List jd) {fr : Fr} {σ : wa}, (∀ y ∈ s1, wag y x) -> (∀ y ∈ s1, AO.clash y.op x.op = false) -> Qw P Z (s1 ++ x :: s2) fr σ -> Nz P (Qw P Z (s1 ++ s2)) x fr σ
 | [], fr, σ, _, _, h => h.now
 | y :: s1, fr, σ, hap, hnc, h => by
  have hyx := hap y (by simp)
  have hcl := hnc y (by simp)
  have hap' : ∀ z ∈ s1, wag z x := fun z hz => hap z (by simp [hz])
  have hnc' : ∀ z ∈ s1, AO.clash z.op x.op = false := fun z hz => hnc z (by simp [hz])
  cases Qw.now h with
  | op o u e hw ha hn =>
   have back : ∀ {w τ}, Qw P Z (s1 ++ s2) (putA (putA fr y.dst u) x.dst w) τ -> Qw P Z (y :: (s1 ++ s2)) (putA fr x.dst w) τ := fun {w τ} hq =>
    Nz.qw (.op o u e (by rw [hyx.symm.wants]; exact hw) (fun τ => by rw [hyx.symm.aop fr _ e]; exact ha τ) (hq.feq hZ (Feq.swap hyx.dd)))
   cases Qw.ahead hZ s1 hap' hnc' hn with
   | op o' v e' hw' ha' hn' => exact .op o' v e' (by rw [<- hyx.wants fr u]; exact hw') (fun τ => by rw [<- hyx.aop fr u e']; exact ha' τ) (back hn')
   | no hw' hn' => exact .no (by rw [<- hyx.wants fr u]; exact hw') (back hn')
   | rd o' v e' ho' hw' ha' hn' => exact .rd o' v e' ho' (by rw [<- hyx.wants fr u]; exact hw') (by rw [<- hyx.aop fr u e']; exact ha') (back hn')
   | wr o' v σ' e' ho' hw' ha' hn' => exact .wr o' v σ' e' ho' (by rw [<- hyx.wants fr u]; exact hw') (by rw [<- hyx.aop fr u e']; exact ha') (back hn')
  | no hw hn =>
   have back : ∀ {w τ}, Qw P Z (s1 ++ s2) (putA (putA fr y.dst (.tup [])) x.dst w) τ -> Qw P Z (y :: (s1 ++ s2)) (putA fr x.dst w) τ := fun {w τ} hq =>
    Nz.qw (.no (by rw [hyx.symm.wants]; exact hw) (hq.feq hZ (Feq.swap hyx.dd)))
   cases Qw.ahead hZ s1 hap' hnc' hn with
   | op o' v e' hw' ha' hn' => exact .op o' v e' (by rw [<- hyx.wants fr (.tup [])]; exact hw') (fun τ => by rw [<- hyx.aop fr (.tup []) e']; exact ha' τ) (back hn')
   | no hw' hn' => exact .no (by rw [<- hyx.wants fr (.tup [])]; exact hw') (back hn')
   | rd o' v e' ho' hw' ha' hn' => exact .rd o' v e' ho' (by rw [<- hyx.wants fr (.tup [])]; exact hw') (by rw [<- hyx.aop fr (.tup []) e']; exact ha') (back hn')
   | wr o' v σ' e' ho' hw' ha' hn' => exact .wr o' v σ' e' ho' (by rw [<- hyx.wants fr (.tup [])]; exact hw') (by rw [<- hyx.aop fr (.tup []) e']; exact ha') (back hn')
  | rd o u e ho hw ha hn =>
   have back : ∀ {w}, Qw P Z (s1 ++ s2) (putA (putA fr y.dst u) x.dst w) σ -> Qw P Z (y :: (s1 ++ s2)) (putA fr x.dst w) σ := fun {w} hq =>
    Nz.qw (.rd o u e ho (by rw [hyx.symm.wants]; exact hw) (by rw [hyx.symm.aop fr _ e]; exact ha) (hq.feq hZ (Feq.swap hyx.dd)))
   cases Qw.ahead hZ s1 hap' hnc' hn with
   | op o' v e' hw' ha' hn' => exact .op o' v e' (by rw [<- hyx.wants fr u]; exact hw') (fun τ => by rw [<- hyx.aop fr u e']; exact ha' τ) (back hn')
   | no hw' hn' => exact .no (by rw [<- hyx.wants fr u]; exact hw') (back hn')
   | rd o' v e' ho' hw' ha' hn' => exact .rd o' v e' ho' (by rw [<- hyx.wants fr u]; exact hw') (by rw [<- hyx.aop fr u e']; exact ha') (back hn')
   | wr o' v σ' e' ho' hw' ha' hn' =>
    exfalso
    rw [e, e', AO.clash, show AO.touches (.op o) = o.touches from rfl, show AO.stores (.op o') = o'.stores from rfl, ho, ho', Bool.and_self, Bool.or_true] at hcl
    cases hcl
  | wr o u σ1 e ho hw ha hn =>
   have back : ∀ {w}, Qw P Z (s1 ++ s2) (putA (putA fr y.dst u) x.dst w) σ1 -> Qw P Z (y :: (s1 ++ s2)) (putA fr x.dst w) σ := fun {w} hq =>
    Nz.qw (.wr o u σ1 e ho (by rw [hyx.symm.wants]; exact hw) (by rw [hyx.symm.aop fr _ e]; exact ha) (hq.feq hZ (Feq.swap hyx.dd)))
   have no : ∀ {o' : AOp}, x.op = .op o' -> o'.touches = true -> False := fun {o'} e' ht => by
    rw [e, e', AO.clash, show AO.stores (.op o) = o.stores from rfl, show AO.touches (.op o') = o'.touches from rfl, ho, ht, Bool.and_self, Bool.true_or] at hcl
    cases hcl
   cases Qw.ahead hZ s1 hap' hnc' hn with
   | op o' v e' hw' ha' hn' => exact .op o' v e' (by rw [<- hyx.wants fr u]; exact hw') (fun τ => by rw [<- hyx.aop fr u e']; exact ha' τ) (back hn')
   | no hw' hn' => exact .no (by rw [<- hyx.wants fr u]; exact hw') (back hn')
   | rd o' v e' ho' hw' ha' hn' => exact (no e' ho').elim
   | wr o' v σ' e' ho' hw' ha' hn' => exact (no e' (wg2 ho')).elim
theorem Qw.next {fz : List Nat} {nt : Nat} {Z : Fr -> wa -> Prop} (hZ : ∀ F F' τ, Feq F F' -> Z F τ -> Z F' τ) (x : jd) (s1 s2 : List jd) (fr : Fr) (σ : wa) (hap : ∀ y ∈ s1, wag y x) (hcm : ∀ y ∈ s1, ∃ o, zn P fz nt ops o = some y) (hnc : ∀ y ∈ s1, AO.clash y.op x.op = false) (hl : Live nt fr σ) (h : Qw P Z (s1 ++ x :: s2) fr σ) : Nx P (Qw P Z (s1 ++ s2)) x fr σ := by
 cases Qw.ahead hZ s1 hap hnc h with
 | op o v e hw ha hn => exact .op o v σ e hw (ha σ) hn
 | no hw hn => exact .no hw hn
 | rd o v e ho hw ha hn => exact .op o v σ e hw ha hn
 | wr o v σ' e ho hw ha hn => exact .op o v σ' e hw ha hn

end

section
variable {P : Program} {ops : Array Oper} {α β : Type} {S : α -> β -> wa} {I : β -> Prop}
theorem Qx.feq {Z : Fr -> α -> β -> Prop} (hZ : ∀ F F' a b, Feq F F' -> Z F a b -> Z F' a b) {seg : List jd} {fr : Fr} {a : α} {b : β} (h : Qx P S I Z seg fr a b) : ∀ {fr'}, Feq fr fr' -> Qx P S I Z seg fr' a b := by
 induction h with
 | nil h => exact fun he => .nil (hZ _ _ _ _ he h)
 | op hw ha _ ih => exact fun he => .op (by rw [<- jo fun t _ _ => he t]; exact hw) (fun a b hb => by rw [<- wah fun t _ => he t]; exact ha a b hb) (ih (he.put _ _))
 | no hw _ ih => exact fun he => .no (by rw [<- jo fun t _ _ => he t]; exact hw) (ih (he.put _ _))
 | call Q hw hf hargs hok _ ih => exact fun he => .call Q (by rw [<- jo fun t _ _ => he t]; exact hw) (by rw [<- Opd.ev_congr fun t _ => he t]; exact hf) (by rw [<- zbh fun t _ => he t]; exact hargs) hok fun r a' hq => ih r a' hq (he.put _ _)
 | wop ho hw ha hI _ ih => exact fun he => .wop ho (by rw [<- jo fun t _ _ => he t]; exact hw) (fun a => by rw [<- wah fun t _ => he t]; exact ha a) hI (ih (he.put _ _))
theorem Qx.mono {Z Z' : Fr -> α -> β -> Prop} (hZ : ∀ F a b, Z F a b -> Z' F a b) {seg : List jd} {fr : Fr} {a : α} {b : β} (h : Qx P S I Z seg fr a b) : Qx P S I Z' seg fr a b := by
 induction h with
 | nil h => exact .nil (hZ _ _ _ h)
 | op hw ha _ ih => exact .op hw ha ih
 | no hw _ ih => exact .no hw ih
 | call Q hw hf hargs hok _ ih => exact .call Q hw hf hargs hok ih
 | wop ho hw ha hI _ ih => exact .wop ho hw ha hI ih
inductive Ny (P : Program) {α β : Type} (S : α -> β -> wa) (I : β -> Prop) (N : Fr -> α -> β -> Prop) (x : jd) (fr : Fr) (a : α) (b : β) : Prop where
 | op (o : AOp) (v : AV) : x.op = .op o -> wants fr x.guard = some true -> (∀ a b, I b -> aop o fr (S a b) = some (v, S a b)) -> N (putA fr x.dst v) a b -> Ny P S I N x fr a b
 | no : wants fr x.guard = some false -> N (putA fr x.dst (.tup [])) a b -> Ny P S I N x fr a b
 | call (f : Opd) (args : List Opd) (n : Nat) (pre cap : List Ce) (vs : List AV) (Q : AV -> α -> Prop) : x.op = .call f args -> wants fr x.guard = some true -> f.ev fr = some (.c (.fn n pre cap)) -> evs fr args = some vs ->
  (∀ b, I b -> Ok P n (pre.map .c ++ vs ++ cap.map .c) (S a b) (fun r τ => ∃ a', Q r a' /\ τ = S a' b)) -> (∀ r a', Q r a' -> N (putA fr x.dst r) a' b) -> Ny P S I N x fr a b
 | wop (o : AOp) (v : AV) (b' : β) : x.op = .op o -> o.writes = true -> wants fr x.guard = some true -> (∀ a, aop o fr (S a b) = some (v, S a b')) -> I b' -> N (putA fr x.dst v) a b' -> Ny P S I N x fr a b
theorem Qx.now {Z : Fr -> α -> β -> Prop} {x : jd} {rest : List jd} {fr : Fr} {a : α} {b : β} (h : Qx P S I Z (x :: rest) fr a b) : Ny P S I (Qx P S I Z rest) x fr a b := by
 cases h with
 | op hw ha h => exact .op _ _ rfl hw ha h
 | no hw h => exact .no hw h
 | call Q hw hf hargs hok h => exact .call _ _ _ _ _ _ Q rfl hw hf hargs hok h
 | wop ho hw ha hI h => exact .wop _ _ _ rfl ho hw ha hI h
theorem Ny.qx {Z : Fr -> α -> β -> Prop} {x : jd} {rest : List jd} {fr : Fr} {a : α} {b : β} (h : Ny P S I (Qx P S I Z rest) x fr a b) : Qx P S I Z (x :: rest) fr a b := by
 obtain ⟨d, op, g⟩ := x
 cases h with
 | op o v e hw ha h => simp only at e; subst e; exact .op hw ha h
 | no hw h => exact .no hw h
 | call f args n pre cap vs Q e hw hf hargs hok h => simp only at e; subst e; exact .call Q hw hf hargs hok h
 | wop o v b' e ho hw ha hI h => simp only at e; subst e; exact .wop ho hw ha hI h
theorem Qx.callAhead {Z : Fr -> α -> β -> Prop} (hZ : ∀ F F' a b, Feq F F' -> Z F a b -> Z F' a b) {x : jd} {s2 : List jd} (hx : x.op.isCall = true) : ∀ (s1 : List jd) {fr : Fr} {a : α} {b : β}, I b -> (∀ y ∈ s1, wag y x) -> (∀ y ∈ s1, y.op.isCall = false) -> Qx P S I Z (s1 ++ x :: s2) fr a b ->
 Ny P S I (Qx P S I Z (s1 ++ s2)) x fr a b
 | [], fr, a, b, _, _, _, h => h.now
 | y :: s1, fr, a, b, hI, hap, hc, h => by
  have hyx := hap y (by simp)
  have hap' : ∀ z ∈ s1, wag z x := fun z hz => hap z (by simp [hz])
  have hc' : ∀ z ∈ s1, z.op.isCall = false := fun z hz => hc z (by simp [hz])
  have key : ∀ {u b1}, I b1 -> Qx P S I Z (s1 ++ x :: s2) (putA fr y.dst u) a b1 -> (∀ {w a'}, Qx P S I Z (s1 ++ s2) (putA (putA fr y.dst u) x.dst w) a' b1 -> Qx P S I Z (y :: (s1 ++ s2)) (putA fr x.dst w) a' b) -> Ny P S I (Qx P S I Z (y :: (s1 ++ s2))) x fr a b := by
   intro u b1 hI1 hq hback
   cases Qx.callAhead hZ hx s1 hI1 hap' hc' hq with
   | op o w e hw ha hn => rw [e] at hx; cases hx
   | no hw hn => exact .no (by rw [<- hyx.wants fr u]; exact hw) (hback hn)
   | call f args n pre cap vs Q e hw hf hargs hok hn => exact .call f args n pre cap vs Q e (by rw [<- hyx.wants fr u]; exact hw) (by rw [<- hyx.ev fr u e]; exact hf) (by rw [<- hyx.evs fr u e]; exact hargs) hok fun r a' hqq => hback (hn r a' hqq)
   | wop o w b' e ho hw ha hI' hn => rw [e] at hx; cases hx
  cases Qx.now h with
  | op o u e hw ha hn => exact key hI hn fun hq => Ny.qx (.op o u e (by rw [hyx.symm.wants]; exact hw) (fun a b hb => by rw [hyx.symm.aop fr _ e]; exact ha a b hb) (hq.feq hZ (Feq.swap hyx.dd)))
  | no hw hn => exact key hI hn fun hq => Ny.qx (.no (by rw [hyx.symm.wants]; exact hw) (hq.feq hZ (Feq.swap hyx.dd)))
  | call f args n pre cap vs Q e => have := hc y (by simp); rw [e] at this; cases this
  | wop o u b' e ho hw ha hI' hn => exact key hI' hn fun hq => Ny.qx (.wop o u b' e ho (by rw [hyx.symm.wants]; exact hw) (fun a => by rw [hyx.symm.aop fr _ e]; exact ha a) hI' (hq.feq hZ (Feq.swap hyx.dd)))
def Eff (S : α -> β -> wa) (x : jd) (fr : Fr) (v : AV) (b b1 : β) : Prop := (∃ o, x.op = .op o /\ Am.wants fr x.guard = some true /\ ∀ a, aop o fr (S a b) = some (v, S a b1)) \/ (Am.wants fr x.guard = some false /\ v = .tup [] /\ b1 = b)
theorem Eff.put {x y : jd} {fr : Fr} {v u : AV} {b b1 : β} (hyx : wag y x) : Eff S x (putA fr y.dst u) v b b1 ↔ Eff S x fr v b b1 := by
 constructor
 ·rintro (⟨o, e, hw, ha⟩ | ⟨hw, h1, h2⟩)
  ·exact .inl ⟨o, e, by rw [<- hyx.wants fr u]; exact hw, fun a => by rw [<- hyx.aop fr u e]; exact ha a⟩
  ·exact .inr ⟨by rw [<- hyx.wants fr u]; exact hw, h1, h2⟩
 ·rintro (⟨o, e, hw, ha⟩ | ⟨hw, h1, h2⟩)
  ·exact .inl ⟨o, e, by rw [hyx.wants]; exact hw, fun a => by rw [hyx.aop fr u e]; exact ha a⟩
  ·exact .inr ⟨by rw [hyx.wants]; exact hw, h1, h2⟩
structure Kn (S : α -> β -> wa) (I : β -> Prop) (x : jd) (fr : Fr) (v : AV) (f : β -> β) (b : β) : Prop where
 eff : ∀ b', I b' -> (b' = b \/ x.op.writes = false) -> I (f b') /\ Eff S x fr v b' (f b')
 id_ : x.op.writes = false -> ∀ b', f b' = b'
theorem Kn.put {x y : jd} {fr : Fr} {v u : AV} {f : β -> β} {b : β} (hyx : wag y x) : Kn S I x (putA fr y.dst u) v f b ↔ Kn S I x fr v f b :=
 ⟨fun h => ⟨fun b' hb hor => ⟨(h.eff b' hb hor).1, (Eff.put hyx).1 (h.eff b' hb hor).2⟩, h.id_⟩, fun h => ⟨fun b' hb hor => ⟨(h.eff b' hb hor).1, (Eff.put hyx).2 (h.eff b' hb hor).2⟩, h.id_⟩⟩
theorem Kn.at_ {x : jd} {fr : Fr} {v : AV} {f : β -> β} {b b1 : β} (h : Kn S I x fr v f b) (hx : x.op.writes = false) : Kn S I x fr v f b1 := ⟨fun b' hb _ => h.eff b' hb (.inr hx), h.id_⟩
theorem Qx.ahead {Z : Fr -> α -> β -> Prop} (hZ : ∀ F F' a b, Feq F F' -> Z F a b -> Z F' a b) (inj : ∀ a b b', S a b = S a b' -> b = b') {x : jd} {s2 : List jd} {v : AV} {f : β -> β} (hx : x.op.isCall = false) : ∀ (s1 : List jd) {fr : Fr} {a : α} {b : β}, I b -> (∀ y ∈ s1, wag y x) -> (x.op.writes = true -> ∀ y ∈ s1, y.op.writes = false) ->
 Kn S I x fr v f b -> Qx P S I Z (s1 ++ x :: s2) fr a b -> Qx P S I Z (s1 ++ s2) (putA fr x.dst v) a (f b)
 | [], fr, a, b, hI, _, _, hk, h => by
  have he := (hk.eff b hI (.inl rfl)).2
  cases h.now with
  | op o v' e hw ha hn =>
   rcases he with ⟨o2, e2, hw2, ha2⟩ | ⟨hw2, _⟩
   ·rw [e] at e2
    injection e2 with e2
    subst e2
    have h1 := ha2 a
    rw [ha a b hI] at h1
    injection h1 with h1
    injection h1 with h1 h2
    rw [<- inj a b _ h2, <- h1]
    exact hn
   ·rw [hw] at hw2; cases hw2
  | no hw hn =>
   rcases he with ⟨o2, e2, hw2, ha2⟩ | ⟨hw2, h1, h2⟩
   ·rw [hw] at hw2; cases hw2
   ·rw [h1, h2]; exact hn
  | call g args n pre cap vs Q e => rw [e] at hx; cases hx
  | wop o v' b' e ho hw ha hI' hn =>
   rcases he with ⟨o2, e2, hw2, ha2⟩ | ⟨hw2, _⟩
   ·rw [e] at e2
    injection e2 with e2
    subst e2
    have h1 := ha2 a
    rw [ha a] at h1
    injection h1 with h1
    injection h1 with h1 h2
    rw [<- inj a b' _ h2, <- h1]
    exact hn
   ·rw [hw] at hw2; cases hw2
 | y :: s1, fr, a, b, hI, hap, hnw, hk, h => by
  have hyx := hap y (by simp)
  have hap' : ∀ z ∈ s1, wag z x := fun z hz => hap z (by simp [hz])
  have hnw' : x.op.writes = true -> ∀ z ∈ s1, z.op.writes = false := fun hw z hz => hnw hw z (by simp [hz])
  have hIf := (hk.eff b hI (.inl rfl)).1
  refine Ny.qx ?_
  cases Qx.now h with
  | op o u e hw ha hn => exact .op o u e (by rw [hyx.symm.wants]; exact hw) (fun a b hb => by rw [hyx.symm.aop fr v e]; exact ha a b hb) ((Qx.ahead hZ inj hx s1 hI hap' hnw' ((Kn.put hyx).2 hk) hn).feq hZ (Feq.swap hyx.dd))
  | no hw hn => exact .no (by rw [hyx.symm.wants]; exact hw) ((Qx.ahead hZ inj hx s1 hI hap' hnw' ((Kn.put hyx).2 hk) hn).feq hZ (Feq.swap hyx.dd))
  | call g args n pre cap vs Q e hw hf hargs hok hn => exact .call g args n pre cap vs Q e (by rw [hyx.symm.wants]; exact hw) (by rw [hyx.symm.ev fr v e]; exact hf) (by rw [hyx.symm.evs fr v e]; exact hargs) hok fun r a' hq => (Qx.ahead hZ inj hx s1 hI hap' hnw' ((Kn.put hyx).2 hk) (hn r a' hq)).feq hZ (Feq.swap hyx.dd)
  | wop o u b' e ho hw ha hI' hn =>
   have hxw : x.op.writes = false := by
    cases hx2 : x.op.writes with
    | false => rfl
    | true =>
     have := hnw hx2 y (by simp)
     rw [e] at this
     rw [show AO.writes (.op o) = o.writes from rfl, ho] at this
     cases this
   have hq := Qx.ahead hZ inj hx s1 hI' hap' hnw' ((Kn.put hyx).2 (hk.at_ hxw)) hn
   rw [hk.id_ hxw b'] at hq
   rw [hk.id_ hxw b]
   exact .wop o u b' e ho (by rw [hyx.symm.wants]; exact hw) (fun a => by rw [hyx.symm.aop fr v e]; exact ha a) hI' (hq.feq hZ (Feq.swap hyx.dd))
theorem Qx.valid {fz : List Nat} {nt : Nat} {Z : Fr -> α -> β -> Prop} {x : jd} {s2 : List jd} (hx : x.op.isCall = false) : ∀ (s1 : List jd) {fr : Fr} {a : α} {b : β}, I b -> (∀ y ∈ s1, wag y x) -> (x.op.writes = true -> ∀ y ∈ s1, y.op.writes = false) -> (∀ y ∈ s1, ∃ o, zn P fz nt ops o = some y) -> Live nt fr (S a b) -> Qx P S I Z (s1 ++ x :: s2) fr a b ->
 ∃ v f, Kn S I x fr v f b
 | [], fr, a, b, hI, _, _, _, _, h => by
  cases h.now with
  | op o v e hw ha hn => exact ⟨v, fun b => b, ⟨fun b' hb _ => ⟨hb, .inl ⟨o, e, hw, fun a => ha a b' hb⟩⟩, fun _ _ => rfl⟩⟩
  | no hw hn => exact ⟨_, fun b => b, ⟨fun b' hb _ => ⟨hb, .inr ⟨hw, rfl, rfl⟩⟩, fun _ _ => rfl⟩⟩
  | call g args n pre cap vs Q e => rw [e] at hx; cases hx
  | wop o v b' e ho hw ha hI' hn =>
   have hxw : x.op.writes = true := by rw [e]; exact ho
   refine ⟨v, fun _ => b', ⟨fun b2 hb hor => ?_, fun h2 => by rw [hxw] at h2; cases h2⟩⟩
   rcases hor with rfl | h2
   ·exact ⟨hI', .inl ⟨o, e, hw, ha⟩⟩
   ·rw [hxw] at h2; cases h2
 | y :: s1, fr, a, b, hI, hap, hnw, hcm, ⟨C, a0, hR, hF⟩, h => by
  have hyx := hap y (by simp)
  have hap' : ∀ z ∈ s1, wag z x := fun z hz => hap z (by simp [hz])
  have hnw' : x.op.writes = true -> ∀ z ∈ s1, z.op.writes = false := fun hw z hz => hnw hw z (by simp [hz])
  have hcm' : ∀ z ∈ s1, ∃ o, zn P fz nt ops o = some z := fun z hz => hcm z (by simp [hz])
  obtain ⟨oo, hco⟩ := hcm y (by simp)
  have hnwy := hnw
  have back : ∀ {u a' b1}, I b1 -> (b1 = b \/ x.op.writes = false) -> Live nt (putA fr y.dst u) (S a' b1) -> Qx P S I Z (s1 ++ x :: s2) (putA fr y.dst u) a' b1 -> ∃ v f, Kn S I x fr v f b := by
   intro u a' b1 hI1 hor hl hq
   obtain ⟨v, f, hk⟩ := Qx.valid hx s1 hI1 hap' hnw' hcm' hl hq
   refine ⟨v, f, ?_⟩
   have hk2 := (Kn.put hyx).1 hk
   rcases hor with rfl | hw
   ·exact hk2
   ·exact hk2.at_ hw
  obtain ⟨d, op, g⟩ := y
  cases Qx.now h with
  | op o u e hw ha hn =>
   simp only at e
   subst e
   obtain ⟨w1, w2, w3, fzb, w4⟩ := j6 hco hF hw
   simp only at w3 w4
   obtain ⟨D, q, hR', hle, hxx, hrun⟩ := jdf w4 (ha a b hI) hR hF
   refine back (u := u) (a' := a) hI (.inl rfl) ⟨D, a0.put oo.dst q, hR', ?_⟩ hn
   rw [w3]
   exact (hF.mono hle).putA (fun t e => w2 t (w3.trans e)) hxx
  | no hw hn =>
   obtain ⟨w1, w2, w3, fzb, w4⟩ := j6 hco hF hw
   simp only at w3 w4
   refine back (a' := a) hI (.inl rfl) ⟨C, a0.put oo.dst undef, hR, ?_⟩ hn
   rw [w3]
   exact hF.putA (fun t e => w2 t (w3.trans e)) (.tup rfl fun i hi => by simp at hi)
  | call f args n pre cap vs Q e hw hf hargs hok hn =>
   simp only at e
   subst e
   obtain ⟨w1, w2, w3, fzb, w4⟩ := j6 hco hF hw
   simp only at w3 w4
   obtain ⟨D, a', r, σ', ⟨a1, hq, rfl⟩, hRD, hFD⟩ := jiw w4 w2 w3 hf hargs (hok b hI) hF hR
   exact back hI (.inl rfl) ⟨D, a', hRD, hFD⟩ (hn r a1 hq)
  | wop o u b' e ho hw ha hI' hn =>
   simp only at e
   subst e
   have hxw : x.op.writes = false := by
    cases hx2 : x.op.writes with
    | false => rfl
    | true =>
     have := hnwy hx2 _ (List.mem_cons_self ..)
     rw [show AO.writes (.op o) = o.writes from rfl, ho] at this
     cases this
   obtain ⟨w1, w2, w3, fzb, w4⟩ := j6 hco hF hw
   simp only at w3 w4
   obtain ⟨D, q, hR', hle, hxx, hrun⟩ := jdf w4 (ha a) hR hF
   refine back (u := u) (a' := a) hI' (.inr hxw) ⟨D, a0.put oo.dst q, hR', ?_⟩ hn
   rw [w3]
   exact (hF.mono hle).putA (fun t e => w2 t (w3.trans e)) hxx
def AO.both (a b : AO) : Bool := (a.isCall && b.isCall) || (a.writes && b.writes)
theorem Qx.next {fz : List Nat} {nt : Nat} {Z : Fr -> α -> β -> Prop} (hZ : ∀ F F' a b, Feq F F' -> Z F a b -> Z F' a b) (inj : ∀ a b b', S a b = S a b' -> b = b') (x : jd) (s1 s2 : List jd) (fr : Fr) (σ : wa) (hap : ∀ y ∈ s1, wag y x) (hcm : ∀ y ∈ s1, ∃ o, zn P fz nt ops o = some y) (hnc : ∀ y ∈ s1, AO.both y.op x.op = false) (hl : Live nt fr σ) (h : ∃ a b, σ = S a b /\ I b /\ Qx P S I Z (s1 ++ x :: s2) fr a b) : Nx P (fun F τ => ∃ a b, τ = S a b /\ I b /\ Qx P S I Z (s1 ++ s2) F a b) x fr σ := by
 obtain ⟨a, b, rfl, hI, h⟩ := h
 cases hcall : x.op.isCall with
 | false =>
  have hnw : x.op.writes = true -> ∀ y ∈ s1, y.op.writes = false := fun hw y hy => by
   have := hnc y hy
   rw [AO.both, hw, hcall, ybh, ybp, Bool.and_true] at this
   exact this
  obtain ⟨v, f, hk⟩ := Qx.valid hcall _ hI hap hnw hcm hl h
  have hn := Qx.ahead hZ inj hcall _ hI hap hnw hk h
  obtain ⟨hIf, he⟩ := hk.eff b hI (.inl rfl)
  rcases he with ⟨o, e, hw, ha⟩ | ⟨hw, h1, h2⟩
  ·exact .op o v _ e hw (ha a) ⟨a, f b, rfl, hIf, hn⟩
  ·subst h1
   rw [h2] at hn
   exact .no hw ⟨a, b, rfl, hI, hn⟩
 | true =>
  have hnc2 : ∀ y ∈ s1, y.op.isCall = false := fun y hy => by
   have := hnc y hy
   rw [AO.both, hcall, Bool.and_true] at this
   exact (Bool.or_eq_false_iff.1 this).1
  cases Qx.callAhead hZ hcall _ hI hap hnc2 h with
  | op o v e => rw [e] at hcall; cases hcall
  | no hw hn => exact .no hw ⟨a, b, rfl, hI, hn⟩
  | call f args m pre cap vs Q' e hw hf hargs hok hn => exact .call f args m pre cap vs _ e hw hf hargs (hok b hI) fun r τ ⟨a', hq, e2⟩ => ⟨a', b, e2, hI, hn r a' hq⟩
  | wop o v b' e => rw [e] at hcall; cases hcall
end
end Go.Proofs.YtmmgbgpglhbhcaaGreat.Am
namespace Go.Proofs.YtmmgbgpglhbhcaaGreat.Am
open Go.RowKit

inductive SR (P : Program) (fz : List Nat) (nt : Nat) (ops : Array Oper) (ms : List Nat) : Nat -> List (List jd) -> Prop where
 | nil {p} (e : p = ops.size) : SR P fz nt ops ms p []
 | cons {p s r} (ne : s ≠ []) (h : ∀ k (h : k < s.length), ∃ o, ops[p + k]? = some o /\ zn P fz nt ops o = some s[k]) (cut : p + s.length < ops.size -> whz (jbs ms) (p + s.length) = true) (hr : SR P fz nt ops ms (p + s.length) r) : SR P fz nt ops ms p (s :: r)
theorem SR.le {P : Program} {fz : List Nat} {nt : Nat} {ops : Array Oper} {ms : List Nat} {p : Nat} {l : List (List jd)} (h : SR P fz nt ops ms p l) : p <= ops.size := by
 induction h with
 | nil e => omega
 | cons _ _ _ _ ih => omega
theorem zix {P : Program} {fz : List Nat} {nt : Nat} {ops : Array Oper} {ms : List Nat} : ∀ {l : List jd} {q : Nat}, (∀ k (h : k < l.length), ∃ o, ops[q + k]? = some o /\ zn P fz nt ops o = some l[k]) -> q + l.length = ops.size -> SR P fz nt ops ms q (zho (jbs ms) q l)
 | [], q, h, hq => by
  simp only [zho]
  simp at hq
  exact .nil hq
 | o :: r, q, h, hq => by
  have ih := zix (P := P) (fz := fz) (nt := nt) (ops := ops) (ms := ms) (l := r) (q := q + 1) (fun k hk => by
   have := h (k + 1) (by simp; omega)
   rw [show q + 1 + k = q + (k + 1) by omega]
   simpa using this) (by simp at hq; omega)
  have h0 := h 0 (by simp)
  simp only [zho]
  split
  ·rename_i s ss hc hs
   rw [hs] at ih
   cases ih with
   | cons ne h' cut hr =>
    refine .cons (by simp) (fun k hk => ?_) (fun hlt => ?_) ?_
    ·cases k with
     | zero => exact h0
     | succ k =>
      have := h' k (by simpa using hk)
      rw [show q + (k + 1) = q + 1 + k by omega]
      simpa using this
    ·have := cut (by simp at hlt; omega)
     rw [show q + (o :: s).length = q + 1 + s.length by simp; omega]
     exact this
    ·rw [show q + (o :: s).length = q + 1 + s.length by simp; omega]
     exact hr
  ·rename_i ss hne
   refine .cons (by simp) (fun k hk => ?_) (fun hlt => ?_) ih
   ·have : k = 0 := by simpa using hk
    subst this
    exact h0
   ·cases hb : whz (jbs ms) (q + 1) with
    | true => rfl
    | false =>
     cases hs : zho (jbs ms) (q + 1) r with
     | cons s ss => exact absurd hs (hne s ss hb)
     | nil =>
      rw [hs] at ih
      have : q + 1 = ops.size := by
       cases ih
       assumption
      simp at hlt
      omega
theorem zer {P : Program} {fz : List Nat} {nt : Nat} {ops : Array Oper} : ∀ {l : List Oper} {as : List jd}, wal P fz nt ops l = some as -> as.length = l.length /\ ∀ k (h : k < as.length) (h' : k < l.length), zn P fz nt ops l[k] = some as[k]
 | [], as, h => by
  simp [wal] at h
  subst h
  exact ⟨rfl, fun k hk => by simp at hk⟩
 | o :: l, as, h => by
  simp only [wal] at h
  split at h
  ·rename_i x l' h1 h2
   injection h with h
   subst h
   obtain ⟨q1, q2⟩ := zer h2
   refine ⟨by simp [q1], fun k hk hk' => ?_⟩
   cases k with
   | zero => exact h1
   | succ k => exact q2 k (by simpa using hk) (by simpa using hk')
  ·cases h
theorem jbz {P : Program} {fz : List Nat} {nt : Nat} {ops : Array Oper} {l : List jd} {c : AC} (hl : wal P fz nt ops ops.toList = some l) (h : zh0 l (ops.toList.map wiu) = some c) :
 ∃ ms segs, c = .draw segs /\ Aft ops ms /\ SR P fz nt ops ms 0 segs /\ wb6 ms 0 segs = true := by
 unfold zh0 at h
 simp only at h
 split at h
 ·rename_i hc
  injection h with h
  subst h
  rw [yat] at hc
  obtain ⟨h1, h2⟩ := hc
  obtain ⟨q1, q2⟩ := zer hl
  have hbit : ∀ i o, ops[i]? = some o -> ∀ j, ((((ops.toList.map wiu).map ziv).getD i 0).testBit j = true ↔ j ∈ wiu o) := by
   intro i o ho j
   obtain ⟨hi, rfl⟩ := Array.getElem?_eq_some_iff.1 ho
   rw [List.getD_eq_getElem?_getD]
   simp [hi, zcx]
  refine ⟨_, _, rfl, ⟨by simp, hbit, fun i j hj => ?_⟩, zix (fun k hk => ?_) (by simp [q1]), h1⟩
  ·by_cases hi : i < ops.size
   ·have := (hbit i ops[i] (by simp [hi]) j).1 hj
    rw [List.all_eq_true] at h2
    have h3 := h2 (i, wiu ops[i]) (jj.2 ⟨i, by simp [hi], by simp, by simp⟩)
    rw [List.all_eq_true] at h3
    simpa using h3 j this
   ·rw [List.getD_eq_getElem?_getD] at hj
    simp [Nat.not_lt.1 hi] at hj
  ·have hk' : k < ops.size := by simpa [q1] using hk
   exact ⟨ops[k], by simp [hk'], by have := q2 k hk (by simpa using hk'); rw [Array.getElem_toList] at this; exact this⟩
 ·cases h
theorem wbs {ms : List Nat} {p : Nat} {seg : List jd} (h : jnb ms p seg = true) (h2 : 2 <= seg.length) :
 (∀ k k' (h : k < seg.length) (h' : k' < seg.length) d, k ≠ k' -> seg[k].dst = some d -> seg[k'].dst ≠ some d) /\
 ∀ k k' (h : k < seg.length) (h' : k' < seg.length) t, t ∈ seg[k].looks -> seg[k'].dst = some t -> (ms.getD (p + k) 0).testBit (p + k') = true := by
 have h : (zq p seg).all (fun x => (match x.2.dst with
  | some d => (zq p seg).all fun y => x.1 == y.1 || y.2.dst != some d
  | none => true) && x.2.looks.all fun t => (zq p seg).all fun y => y.2.dst != some t || (ms.getD x.1 0).testBit y.1) = true := by
  unfold jnb at h
  split at h
  ·simp at h2
  ·exact h
 rw [List.all_eq_true] at h
 refine ⟨fun k k' hk hk' d hne hd => ?_, fun k k' hk hk' t ht hd => ?_⟩
 ·have := h (p + k, seg[k]) (jj.2 ⟨k, hk, rfl, rfl⟩)
  rw [yat] at this
  have h3 := this.1
  simp only [hd, List.all_eq_true] at h3
  have := h3 (p + k', seg[k']) (jj.2 ⟨k', hk', rfl, rfl⟩)
  have e : (p + k == p + k') = false := by simp; omega
  simp only [e, Bool.false_or] at this
  simpa using this
 ·have := h (p + k, seg[k]) (jj.2 ⟨k, hk, rfl, rfl⟩)
  rw [yat] at this
  have h3 := this.2
  simp only [List.all_eq_true] at h3
  have := h3 t ht (p + k', seg[k']) (jj.2 ⟨k', hk', rfl, rfl⟩)
  simp only [hd, bne_self_eq_false, Bool.false_or] at this
  exact this
theorem jix : ∀ {seg : List jd}, (∀ k k' (h : k < seg.length) (h' : k' < seg.length) d, k ≠ k' -> seg[k].dst = some d -> seg[k'].dst ≠ some d) ->
 (∀ k k' (h : k < seg.length) (h' : k' < seg.length) t, t ∈ seg[k].looks -> seg[k'].dst = some t -> k' < k) -> wiw seg
 | [], _, _ => trivial
 | o :: r, h1, h2 => by
  refine ⟨fun y hy t ht hd => ?_, fun d hd y hy hy' => ?_, jix (fun k k' hk hk' d hne hd => ?_) (fun k k' hk hk' t ht hd => ?_)⟩
  ·obtain ⟨k', hk', rfl⟩ := List.mem_iff_getElem.1 hy
   have := h2 0 k' (by simp) hk' t ht hd
   omega
  ·obtain ⟨k', hk', rfl⟩ := List.mem_iff_getElem.1 hy
   exact h1 0 (k' + 1) (by simp) (by simpa using hk') d (by omega) hd (by simpa using hy')
  ·have := h1 (k + 1) (k' + 1) (by simpa using hk) (by simpa using hk') d (by omega) (by simpa using hd)
   simpa using this
  ·have := h2 (k + 1) (k' + 1) (by simpa using hk) (by simpa using hk') t (by simpa using ht) (by simpa using hd)
   omega

theorem zap {P : Program} {fz : List Nat} {nt id : Nat} {ops : Array Oper} {draw : Bool} {c : AC} (h : wq P fz nt (.region id ops draw) = some c) : (∃ l, c = .region l) \/ ∃ l, c = .draw l := by
 cases draw with
 | false =>
  simp only [wq] at h
  obtain ⟨x, h3, h4⟩ := Option.map_eq_some_iff.1 h
  exact .inl ⟨x, h4.symm⟩
 | true =>
  simp only [wq] at h
  split at h
  ·rename_i l hl
   obtain ⟨ms, segs, e, _⟩ := jbz hl h
   exact .inr ⟨_, e⟩
  ·cases h

def Cx.drew (C : Cx) : Cx := ⟨C.μ, C.F, C.M, { C.w with drawn := C.w.drawn + 1 }⟩
theorem Cx.le_drew (C : Cx) : C.Le C.drew := ⟨fun _ _ h => ⟨h, rfl⟩, rfl, rfl, rfl, yak _, fun _ _ _ => rfl, fun b cs t h => ⟨cs, h, rfl⟩, fun _ _ h => h⟩
theorem Rl.drew {C : Cx} {σ : wa} (h : Rl C σ) : Rl C.drew σ := by
 refine ⟨h.F, h.live, h.M, h.inj, fun id v es h1 h2 => ?_⟩
 obtain ⟨cs, t, a, b, c, d⟩ := h.blk id v es h1 h2
 refine ⟨cs, t, a, b, c, fun i j hi hj => ?_⟩
 obtain ⟨u, x, y⟩ := d i j hi hj
 exact ⟨u, x, y.mono C.le_drew⟩

def zki (C0 : Cx) (R : AV -> wa -> Prop) (e : Ending) (w' : World) : Prop := ∃ D σ' r v, e = .returned v /\ D.w = w' /\ R r σ' /\ Rl D σ' /\ RpV D r v /\ C0.Le D

def Says (P : Program) (fz : List Nat) (nt : Nat) (f : FuncId) (C0 : Cx) (R : AV -> wa -> Prop) : List AK -> Fr -> wa -> Prop
 | .ops todo :: K, fr, σ => ∀ (C : Cx) (a : Act) (ops : Array Oper) (is : List Nat) (L : List Item), C0.Le C -> TR P fz nt ops todo is -> KR P fz nt K L -> FrR C nt fr a -> Rl C σ ->
  wpOps P ops (fun e a' w' => e = .normal /\ Runs P f (zki C0 R) L a' w') is a C.w
 | .segs todo :: K, fr, σ => ∀ (C : Cx) (a : Act) (ops : Array Oper) (ms : List Nat) (p : Nat) (L : List Item), C0.Le C -> Aft ops ms -> SR P fz nt ops ms p todo -> wb6 ms p todo = true -> KR P fz nt K L -> FrR C nt fr a -> Rl C σ ->
  ∀ (fuel : Nat) (listed : Array Bool), Upto ops.size p listed -> rem ops.size listed <= fuel -> wpAny P .any ops (fun e a' w' => e = .normal /\ Runs P f (zki C0 R) L a' w') fuel listed a C.w
 | K, fr, σ => ∀ (C : Cx) (a : Act) (L : List Item), C0.Le C -> KR P fz nt K L -> FrR C nt fr a -> Rl C σ -> Runs P f (zki C0 R) L a C.w

theorem jaa {P : Program} {fz : List Nat} {nt : Nat} {f : FuncId} {C0 : Cx} {R : AV -> wa -> Prop} {K : List AK} {fr : Fr} {σ : wa} (h : Says P fz nt f C0 R K fr σ) {C : Cx} {a : Act} {L : List Item} (le : C0.Le C) (hk : KR P fz nt K L) (hF : FrR C nt fr a) (hR : Rl C σ) : Runs P f (zki C0 R) L a C.w := by
 cases hk with
 | nil => exact h C a _ le .nil hF hR
 | code h1 h2 => exact h C a _ le (.code h1 h2) hF hR
 | blk h1 => exact h C a _ le (.blk h1) hF hR
 | lp h1 h2 => exact h C a _ le (.lp h1 h2) hF hR

theorem Go.says {P : Program} (hm : P.follows .mixedOrders = true) {fz : List Nat} {nt : Nat} {rets : List RV} {f : FuncId} {fn : Func} (hf : P.funcs[f]? = some fn) (hr : jho P fn.results.toList = some rets) {R : AV -> wa -> Prop} (C0 : Cx) {n0 : Nat} (h0 : ∀ id v, C0.F id v -> id < n0) {K : List AK} {fr : Fr} {σ : wa} (h : Go P n0 nt rets R K fr σ) : Says P fz nt f C0 R K fr σ := by
 induction h with
 | skip _ ih =>
  intro C a L le hk hF hR
  cases hk with
  | code h1 h2 =>
   rename_i c' K'
   cases c'
   case region => rcases zap h1 with ⟨l, e⟩ | ⟨l, e⟩ <;> cases e
   all_goals simp [wq] at h1
   ·exact Runs.step (fun b cs => step_skip) (jaa ih le h2 hF hR)
   all_goals (split at h1 <;> simp at h1)
 | seq _ ih =>
  intro C a L le hk hF hR
  cases hk with
  | code h1 h2 =>
   rename_i c' K'
   cases c'
   case region => rcases zap h1 with ⟨l, e⟩ | ⟨l, e⟩ <;> cases e
   all_goals simp only [wq] at h1
   all_goals try (simp at h1; done)
   ·split at h1
    ·rename_i e1 e2
     injection h1 with h1
     injection h1 with h3 h4
     subst h3 h4
     exact Runs.step (fun b cs => step_seq) (jaa ih le (.code e1 (.code e2 h2)) hF hR)
    ·cases h1
   ·split at h1 <;> simp at h1
 | cond t hc _ ih =>
  intro C a L le hk hF hR
  cases hk with
  | code h1 h2 =>
   rename_i c' K'
   cases c'
   case region => rcases zap h1 with ⟨l, e⟩ | ⟨l, e⟩ <;> cases e
   all_goals simp only [wq] at h1
   all_goals try (simp at h1; done)
   ·split at h1 <;> simp at h1
   ·split at h1
    ·rename_i e1 e2 e3
     injection h1 with h1
     injection h1 with h3 h4 h5
     subst h3 h4 h5
     have hb := why (z6 hF e1 hc)
     refine Runs.step (fun b cs => step_cond hb) (jaa ih le ?_ hF hR)
     cases t
     ·exact .code e3 h2
     ·exact .code e2 h2
    ·cases h1
 | block _ ih =>
  intro C a L le hk hF hR
  cases hk with
  | code h1 h2 =>
   rename_i c' K'
   cases c'
   case region => rcases zap h1 with ⟨l, e⟩ | ⟨l, e⟩ <;> cases e
   all_goals simp only [wq] at h1
   all_goals try (simp at h1; done)
   ·split at h1 <;> simp at h1
   ·split at h1 <;> simp at h1
   ·obtain ⟨x, h3, h4⟩ := Option.map_eq_some_iff.1 h1
    injection h4 with h4 h5
    subst h4 h5
    exact Runs.step (fun b cs => step_block) (jaa ih le (.code h3 (.blk h2)) hF hR)
 | blk _ ih =>
  intro C a L le hk hF hR
  cases hk with
  | blk h2 => exact Runs.step (fun b cs => step_inBlock) (jaa ih le h2 hF hR)
 | loop _ ih =>
  intro C a L le hk hF hR
  cases hk with
  | code h1 h2 =>
   rename_i c' K'
   cases c'
   case region => rcases zap h1 with ⟨l, e⟩ | ⟨l, e⟩ <;> cases e
   all_goals simp only [wq] at h1
   all_goals try (simp at h1; done)
   ·split at h1 <;> simp at h1
   ·split at h1 <;> simp at h1
   ·obtain ⟨x, h3, h4⟩ := Option.map_eq_some_iff.1 h1
    injection h4 with h4
    subst h4
    exact Runs.step (fun b cs => step_loop) (jaa ih le (.code h3 (.lp h3 h2)) hF hR)
 | lp _ ih =>
  intro C a L le hk hF hR
  cases hk with
  | lp h1 h2 => exact Runs.step (fun b cs => step_inLoop) (jaa ih le (.code h1 (.lp h1 h2)) hF hR)
 | exit he _ ih =>
  intro C a L le hk hF hR
  cases hk with
  | code h1 h2 =>
   rename_i c' K'
   cases c'
   case region => rcases zap h1 with ⟨l, e⟩ | ⟨l, e⟩ <;> cases e
   all_goals simp only [wq] at h1
   all_goals try (simp at h1; done)
   ·split at h1 <;> simp at h1
   ·split at h1 <;> simp at h1
   ·injection h1 with h1
    injection h1 with h1
    subst h1
    obtain ⟨L1, h3, h4⟩ := zjt h2 he
    exact Runs.step (fun b cs => step_exit h3) (jaa ih le h4 hF hR)
 | ret hv hRv =>
  intro C a L le hk hF hR
  cases hk with
  | code h1 h2 =>
   rename_i c' K'
   cases c'
   case region => rcases zap h1 with ⟨l, e⟩ | ⟨l, e⟩ <;> cases e
   all_goals simp only [wq] at h1
   all_goals try (simp at h1; done)
   ·split at h1 <;> simp at h1
   ·split at h1 <;> simp at h1
   ·obtain ⟨u, hu, hx⟩ := who (P := P) hr hR hF hv
    intro b cs hb hkd
    refine ⟨.returned u, C.w, _, ⟨C, _, _, u, rfl, rfl, hRv, hR, hx, le⟩, Steps.one step_ret, ?_, ?_⟩
    ·simp [Frame.at, hb]
    ·refine ⟨rfl, by simp [Frame.at, hF.defers], by simp [Frame.at, hkd], fn, by simp [Frame.at, hb, hf], by simpa [Frame.at] using hu⟩
 | fin hv hRv =>
  intro C a L le hk hF hR
  cases hk
  obtain ⟨u, hu, hx⟩ := who (P := P) hr hR hF hv
  intro b cs hb hkd
  refine ⟨.returned u, C.w, _, ⟨C, _, _, u, rfl, rfl, hRv, hR, hx, le⟩, Steps.one step_end, ?_, ?_⟩
  ·simp [Frame.at, hb]
  ·refine ⟨rfl, by simp [Frame.at, hF.defers], by simp [Frame.at, hkd], fn, by simp [Frame.at, hb, hf], by simpa [Frame.at] using hu⟩
 | region _ ih =>
  intro C a L le hk hF hR
  cases hk with
  | code h1 h2 =>
   rename_i c' K'
   cases c'
   all_goals try simp only [wq] at h1
   all_goals try (simp at h1; done)
   ·rename_i id ops draw
    cases draw with
    | true =>
     simp only [wq] at h1
     split at h1
     ·rename_i l hl
      obtain ⟨ms, segs, e, _⟩ := jbz hl h1
      cases e
     ·cases h1
    | false =>
    simp only [wq] at h1
    obtain ⟨x, h3, h4⟩ := Option.map_eq_some_iff.1 h1
    injection h4 with h4
    subst h4
    have htr := jnu (ops := ops) 0 h3 (fun i hi => by simp only [Nat.zero_add, Array.length_toList] at hi ⊢; simp [hi])
    have e0 : ((List.range ops.toList.length).map (0 + ·)) = List.range ops.size := by simp
    rw [e0] at htr
    have := ih C a ops _ K' le htr h2 hF hR
    intro b cs hb hkd
    obtain ⟨e, a', w', ⟨rfl, hruns⟩, harr⟩ := wp_region (id := id) this b K' cs
    obtain ⟨e', w1, fr', q1, q2, q3, q4⟩ := hruns b cs hb hkd
    exact ⟨e', w1, fr', q1, .of_steps harr q2, q3, q4⟩
   ·split at h1 <;> simp at h1
   ·split at h1 <;> simp at h1
 | draw _ ih =>
  intro C a L le hk hF hR
  cases hk with
  | code h1 h2 =>
   rename_i c' K'
   cases c'
   all_goals try simp only [wq] at h1
   all_goals try (simp at h1; done)
   ·rename_i id ops draw
    cases draw with
    | false =>
     simp only [wq] at h1
     obtain ⟨x, h3, h4⟩ := Option.map_eq_some_iff.1 h1
     cases h4
    | true =>
    simp only [wq] at h1
    split at h1
    ·rename_i l hl
     obtain ⟨ms, segs, e, hA, hS, hok⟩ := jbz hl h1
     injection e with e
     subst e
     have := ih C.drew a ops ms 0 K' (le.trans C.le_drew) hA hS hok h2 (hF.mono C.le_drew) hR.drew ops.size (Array.replicate ops.size false) ⟨by simp, fun i hi => by simp [hi]⟩
      (by have := List.countP_le_length (p := fun i => !(Array.replicate ops.size false).getD i true) (l := List.range ops.size); simpa [rem] using this)
     intro b cs hb hkd
     obtain ⟨e, a', w', ⟨rfl, hruns⟩, harr⟩ := wp_region_any (id := id) hm this b K' cs
     obtain ⟨e', w1, fr', q1, q2, q3, q4⟩ := hruns b cs hb hkd
     exact ⟨e', w1, fr', q1, .of_steps harr q2, q3, q4⟩
    ·cases h1
   ·split at h1 <;> simp at h1
   ·split at h1 <;> simp at h1
 | segs _ ih =>
  intro C a ops ms p L le hA hS hok hk hF hR fuel listed hU hrem
  cases hS
  rename_i e
  subst e
  exact any_nil hA hU ⟨rfl, jaa ih le hk hF hR⟩ fuel
 | sop hw ha _ ih =>
  intro C a ops ms p L le hA hS hok hk hF hR fuel listed hU hrem
  cases hS with
  | cons ne h cut hr =>
   obtain ⟨o, h1, h2⟩ := h 0 (by simp)
   have hle := hr.le
   simp only [List.length_cons, List.length_nil] at hle
   refine jc1 hA hU (by omega) cut hrem fun fuel' listed' hU' hrem' => ?_
   refine zao h1 h2 hw ha hF hR fun D a' q1 q2 q3 => ih D a' ops ms _ L (le.trans q2) hA hr (by simp only [wb6, Bool.and_eq_true] at hok; exact hok.2) hk q3 q1 fuel' listed' hU' hrem'
 | sno hw _ ih =>
  intro C a ops ms p L le hA hS hok hk hF hR fuel listed hU hrem
  cases hS with
  | cons ne h cut hr =>
   obtain ⟨o, h1, h2⟩ := h 0 (by simp)
   have hle := hr.le
   simp only [List.length_cons, List.length_nil] at hle
   refine jc1 hA hU (by omega) cut hrem fun fuel' listed' hU' hrem' => ?_
   refine jbm h1 h2 hw hF fun a' q3 => ih C a' ops ms _ L le hA hr (by simp only [wb6, Bool.and_eq_true] at hok; exact hok.2) hk q3 hR fuel' listed' hU' hrem'
 | scall Q hw hfo hargs hok' _ ih =>
  intro C a ops ms p L le hA hS hok hk hF hR fuel listed hU hrem
  cases hS with
  | cons ne h cut hr =>
   obtain ⟨o, h1, h2⟩ := h 0 (by simp)
   have hle := hr.le
   simp only [List.length_cons, List.length_nil] at hle
   refine jc1 hA hU (by omega) cut hrem fun fuel' listed' hU' hrem' => ?_
   refine wa1 h1 h2 hw hfo hargs hok' hF hR fun D a' r σ' hQ q1 q2 q3 => ih r σ' hQ D a' ops ms _ L (le.trans q2) hA hr (by simp only [wb6, Bool.and_eq_true] at hok; exact hok.2) hk q3 q1 fuel' listed' hU' hrem'
 | @quiet s1 s2 seg rest K fr F σ hq _ ih =>
  intro C a ops ms p L le hA hS hok hk hF hR fuel listed hU hrem
  cases hS with
  | cons ne h cut hr =>
   have hle := hr.le
   simp only [wb6, Bool.and_eq_true] at hok
   obtain ⟨k1, k2⟩ := wbs hok.1.1 (by simp)
   have hlate : wiw (s1 :: s2 :: seg) := jix k1 fun k k' hk hk' t ht hd => by
    have := hA.lt _ _ (k2 k k' hk hk' t ht hd)
    omega
   obtain ⟨f1, f2⟩ := hq.facts hlate
   refine jld (C0 := C0) hA hle h k2 cut f2 (fun D a' listed' fuel' q1 q2 q3 q4 q5 => ih D a' ops ms _ L q3 hA hr hok.2 hk q4 q5 fuel' listed' q1 q2) fuel listed C a hU.1
    (fun i hi => by rw [hU.2 i (by omega)]; simp [hi]) (fun i hi hlt => by rw [hU.2 i hlt]; simp; omega) (hU.closed hA (by omega)) hrem le hR hF.defers hF.size (fun t x hx hw => ?_)
   refine hF.slot t x ?_
   rw [<- f1 t, hx]
   intro y hy hd
   obtain ⟨k, hk, rfl⟩ := List.mem_iff_getElem.1 hy
   have := hw k hk hd
   rw [hU.2 (p + k) (by omega)] at this
   simp at this
   omega
 | @qc seg rest K fr σ Z hqc _ ih =>
  intro C a ops ms p L le hA hS hok hk hF hR fuel listed hU hrem
  cases hS with
  | cons ne h cut hr =>
   have hle := hr.le
   simp only [wb6, Bool.and_eq_true] at hok
   have hz : ∀ F τ, Z F τ -> (∃ F0, Feq F0 F /\ Z F0 τ) := fun F τ h => ⟨F, fun _ => rfl, h⟩
   have hkk : (∀ k k' (h : k < seg.length) (h' : k' < seg.length) d, k ≠ k' -> seg[k].dst = some d -> seg[k'].dst ≠ some d) /\ ∀ k k' (h : k < seg.length) (h' : k' < seg.length) t, t ∈ seg[k].looks -> seg[k'].dst = some t -> (ms.getD (p + k) 0).testBit (p + k') = true \/ seg.length = 1 := by
    by_cases h2 : 2 <= seg.length
    ·obtain ⟨k1, k2⟩ := wbs hok.1.1 h2
     exact ⟨k1, fun k k' h h' t ht hd => .inl (k2 k k' h h' t ht hd)⟩
    ·have hp := List.length_pos_iff.2 ne
     exact ⟨fun k k' h h' d hne => by omega, fun k k' h h' t ht hd => .inr (by omega)⟩
   by_cases h1 : seg.length = 1
   ·obtain ⟨x, rfl⟩ := List.length_eq_one_iff.1 h1
    obtain ⟨o, g1, g2⟩ := h 0 (by simp)
    simp only [List.length_cons, List.length_nil] at hle
    refine jc1 hA hU (by omega) cut hrem fun fuel' listed' hU' hrem' => ?_
    have fin : ∀ {F τ}, Qc P Z [] F τ -> Z F τ := fun hq => by cases hq; assumption
    obtain ⟨xd, xo, xg⟩ := x
    cases hqc.now with
    | op ao v e hw ha hn =>
     simp only at e
     subst e
     exact zao g1 g2 hw (ha σ) hF hR fun D a' q1 q2 q3 => ih _ _ (fin hn) D a' ops ms _ L (le.trans q2) hA hr hok.2 hk q3 q1 fuel' listed' hU' hrem'
    | no hw hn => exact jbm g1 g2 hw hF fun a' q3 => ih _ _ (fin hn) C a' ops ms _ L le hA hr hok.2 hk q3 hR fuel' listed' hU' hrem'
    | call f args n pre cap vs Q' e hw hf hargs hok' hn =>
     simp only at e
     subst e
     exact wa1 g1 g2 hw hf hargs hok' hF hR fun D a' r σ' hQ q1 q2 q3 => ih _ _ (fin (hn r σ' hQ)) D a' ops ms _ L (le.trans q2) hA hr hok.2 hk q3 q1 fuel' listed' hU' hrem'
   ·have hZ' : ∀ F F' τ, Feq F F' -> (∃ F0, Feq F0 F /\ Z F0 τ) -> ∃ F0, Feq F0 F' /\ Z F0 τ := fun F F' τ he ⟨F0, h0, hz⟩ => ⟨F0, fun t => (h0 t).trans (he t), hz⟩
    have hch := hok.1.2
    simp only [jfo, Bool.and_eq_true] at hch
    refine wnu (C0 := C0) (Z := fun F τ => ∃ F0, Feq F0 F /\ Z F0 τ) (W := Qc P fun F τ => ∃ F0, Feq F0 F /\ Z F0 τ) (hv := AO.isCall) (fun F τ hq => by cases hq; assumption) (fun x s1 s2 fr σ => Qc.next hZ' x s1 s2 fr σ) hA hle ne h hkk.1 (fun k k' h h' t ht hd => (hkk.2 k k' h h' t ht hd).resolve_right h1) hch.1 cut
     (fun D a' F τ listed' fuel' hzz q1 q2 q3 q4 q5 => ?_) fuel listed C a fr σ hU.1 (fun i hi => by rw [hU.2 i (by omega)]; simp [hi]) (fun i hi hlt => by rw [hU.2 i hlt]; simp; omega) (hU.closed hA (by omega)) hrem le hR hF ?_
    ·obtain ⟨F0, h0, hzz⟩ := hzz
     exact ih F0 τ hzz D a' ops ms _ L q3 hA hr hok.2 hk ⟨q4.defers, q4.size, fun t x hx => q4.slot t x (by rw [<- h0 t]; exact hx)⟩ q5 fuel' listed' q1 q2
    ·have hfull : left p seg listed = zq p seg := by
      unfold left
      refine List.filter_eq_self.2 fun z hz => ?_
      obtain ⟨i, x⟩ := z
      obtain ⟨m, hm, rfl, rfl⟩ := jj.1 hz
      have := hU.2 (p + m) (by omega)
      simp [Array.getD_eq_getD_getElem?, this]
     have hsnd : ∀ {l : List jd} {q : Nat}, (zq q l).map (·.2) = l := by
      intro l
      induction l with
      | nil => intro q; rfl
      | cons x r ihl => intro q; simp [zq, ihl]
     rw [hfull, hsnd]
     exact hqc.mono hz
 | @qw seg rest K fr σ Z hqc _ ih =>
  intro C a ops ms p L le hA hS hok hk hF hR fuel listed hU hrem
  cases hS with
  | cons ne h cut hr =>
   have hle := hr.le
   simp only [wb6, Bool.and_eq_true] at hok
   have hz : ∀ F τ, Z F τ -> (∃ F0, Feq F0 F /\ Z F0 τ) := fun F τ h => ⟨F, fun _ => rfl, h⟩
   have hkk : (∀ k k' (h : k < seg.length) (h' : k' < seg.length) d, k ≠ k' -> seg[k].dst = some d -> seg[k'].dst ≠ some d) /\ ∀ k k' (h : k < seg.length) (h' : k' < seg.length) t, t ∈ seg[k].looks -> seg[k'].dst = some t -> (ms.getD (p + k) 0).testBit (p + k') = true \/ seg.length = 1 := by
    by_cases h2 : 2 <= seg.length
    ·obtain ⟨k1, k2⟩ := wbs hok.1.1 h2
     exact ⟨k1, fun k k' h h' t ht hd => .inl (k2 k k' h h' t ht hd)⟩
    ·have hp := List.length_pos_iff.2 ne
     exact ⟨fun k k' h h' d hne => by omega, fun k k' h h' t ht hd => .inr (by omega)⟩
   by_cases h1 : seg.length = 1
   ·obtain ⟨x, rfl⟩ := List.length_eq_one_iff.1 h1
    obtain ⟨o, g1, g2⟩ := h 0 (by simp)
    simp only [List.length_cons, List.length_nil] at hle
    refine jc1 hA hU (by omega) cut hrem fun fuel' listed' hU' hrem' => ?_
    have fin : ∀ {F τ}, Qw P Z [] F τ -> Z F τ := fun hq => by cases hq; assumption
    obtain ⟨xd, xo, xg⟩ := x
    cases hqc.now with
    | op ao v e hw ha hn =>
     simp only at e
     subst e
     exact zao g1 g2 hw (ha σ) hF hR fun D a' q1 q2 q3 => ih _ _ (fin hn) D a' ops ms _ L (le.trans q2) hA hr hok.2 hk q3 q1 fuel' listed' hU' hrem'
    | no hw hn => exact jbm g1 g2 hw hF fun a' q3 => ih _ _ (fin hn) C a' ops ms _ L le hA hr hok.2 hk q3 hR fuel' listed' hU' hrem'
    | rd ao v e ho hw ha hn =>
     simp only at e
     subst e
     exact zao g1 g2 hw ha hF hR fun D a' q1 q2 q3 => ih _ _ (fin hn) D a' ops ms _ L (le.trans q2) hA hr hok.2 hk q3 q1 fuel' listed' hU' hrem'
    | wr ao v σ' e ho hw ha hn =>
     simp only at e
     subst e
     exact zao g1 g2 hw ha hF hR fun D a' q1 q2 q3 => ih _ _ (fin hn) D a' ops ms _ L (le.trans q2) hA hr hok.2 hk q3 q1 fuel' listed' hU' hrem'
   ·have hZ' : ∀ F F' τ, Feq F F' -> (∃ F0, Feq F0 F /\ Z F0 τ) -> ∃ F0, Feq F0 F' /\ Z F0 τ := fun F F' τ he ⟨F0, h0, hz⟩ => ⟨F0, fun t => (h0 t).trans (he t), hz⟩
    have hch := hok.1.2
    simp only [jfo, Bool.and_eq_true] at hch
    refine wld (C0 := C0) (Z := fun F τ => ∃ F0, Feq F0 F /\ Z F0 τ) (W := Qw P fun F τ => ∃ F0, Feq F0 F /\ Z F0 τ) (cf := AO.clash) (fun F τ hq => by cases hq; assumption) (fun x s1 s2 fr σ => Qw.next hZ' x s1 s2 fr σ) hA hle ne h hkk.1 (fun k k' h h' t ht hd => (hkk.2 k k' h h' t ht hd).resolve_right h1) (zle hch.2.2) cut
     (fun D a' F τ listed' fuel' hzz q1 q2 q3 q4 q5 => ?_) fuel listed C a fr σ hU.1 (fun i hi => by rw [hU.2 i (by omega)]; simp [hi]) (fun i hi hlt => by rw [hU.2 i hlt]; simp; omega) (hU.closed hA (by omega)) hrem le hR hF ?_
    ·obtain ⟨F0, h0, hzz⟩ := hzz
     exact ih F0 τ hzz D a' ops ms _ L q3 hA hr hok.2 hk ⟨q4.defers, q4.size, fun t x hx => q4.slot t x (by rw [<- h0 t]; exact hx)⟩ q5 fuel' listed' q1 q2
    ·have hfull : left p seg listed = zq p seg := by
      unfold left
      refine List.filter_eq_self.2 fun z hz => ?_
      obtain ⟨i, x⟩ := z
      obtain ⟨m, hm, rfl, rfl⟩ := jj.1 hz
      have := hU.2 (p + m) (by omega)
      simp [Array.getD_eq_getD_getElem?, this]
     have hsnd : ∀ {l : List jd} {q : Nat}, (zq q l).map (·.2) = l := by
      intro l
      induction l with
      | nil => intro q; rfl
      | cons x r ihl => intro q; simp [zq, ihl]
     rw [hfull, hsnd]
     exact hqc.mono hz
 | @qk seg rest K fr σ I Z hI hqc _ ih =>
  intro C a ops ms p L le hA hS hok hk hF hR fuel listed hU hrem
  cases hS with
  | cons ne h cut hr =>
   have hle := hr.le
   simp only [wb6, Bool.and_eq_true] at hok
   have hz : ∀ F τ, Z F τ -> (∃ F0, Feq F0 F /\ Z F0 τ) := fun F τ h => ⟨F, fun _ => rfl, h⟩
   have hkk : (∀ k k' (h : k < seg.length) (h' : k' < seg.length) d, k ≠ k' -> seg[k].dst = some d -> seg[k'].dst ≠ some d) /\ ∀ k k' (h : k < seg.length) (h' : k' < seg.length) t, t ∈ seg[k].looks -> seg[k'].dst = some t -> (ms.getD (p + k) 0).testBit (p + k') = true \/ seg.length = 1 := by
    by_cases h2 : 2 <= seg.length
    ·obtain ⟨k1, k2⟩ := wbs hok.1.1 h2
     exact ⟨k1, fun k k' h h' t ht hd => .inl (k2 k k' h h' t ht hd)⟩
    ·have hp := List.length_pos_iff.2 ne
     exact ⟨fun k k' h h' d hne => by omega, fun k k' h h' t ht hd => .inr (by omega)⟩
   by_cases h1 : seg.length = 1
   ·obtain ⟨x, rfl⟩ := List.length_eq_one_iff.1 h1
    obtain ⟨o, g1, g2⟩ := h 0 (by simp)
    simp only [List.length_cons, List.length_nil] at hle
    refine jc1 hA hU (by omega) cut hrem fun fuel' listed' hU' hrem' => ?_
    have fin : ∀ {F τ}, Qk P I Z [] F τ -> Z F τ := fun hq => by cases hq; assumption
    obtain ⟨xd, xo, xg⟩ := x
    cases hqc.now with
    | op ao v e hw ha hn =>
     simp only at e
     subst e
     exact zao g1 g2 hw (ha σ hI) hF hR fun D a' q1 q2 q3 => ih _ _ (fin hn) D a' ops ms _ L (le.trans q2) hA hr hok.2 hk q3 q1 fuel' listed' hU' hrem'
    | no hw hn => exact jbm g1 g2 hw hF fun a' q3 => ih _ _ (fin hn) C a' ops ms _ L le hA hr hok.2 hk q3 hR fuel' listed' hU' hrem'
    | call f args n pre cap vs r e hw hf hargs hok' hn =>
     simp only at e
     subst e
     exact wa1 g1 g2 hw hf hargs (hok' σ hI) hF hR fun D a' r' σ' hQ q1 q2 q3 => by
      obtain ⟨rfl, rfl⟩ := hQ
      exact ih _ _ (fin hn) D a' ops ms _ L (le.trans q2) hA hr hok.2 hk q3 q1 fuel' listed' hU' hrem'
    | wop ao v σ' e ho hw ha hI' hn =>
     simp only at e
     subst e
     exact zao g1 g2 hw ha hF hR fun D a' q1 q2 q3 => ih _ _ (fin hn) D a' ops ms _ L (le.trans q2) hA hr hok.2 hk q3 q1 fuel' listed' hU' hrem'
   ·have hZ' : ∀ F F' τ, Feq F F' -> (∃ F0, Feq F0 F /\ Z F0 τ) -> ∃ F0, Feq F0 F' /\ Z F0 τ := fun F F' τ he ⟨F0, h0, hz⟩ => ⟨F0, fun t => (h0 t).trans (he t), hz⟩
    have hch := hok.1.2
    simp only [jfo, Bool.and_eq_true] at hch
    refine wnu (C0 := C0) (Z := fun F τ => ∃ F0, Feq F0 F /\ Z F0 τ) (W := fun l F τ => I τ /\ Qk P I (fun F τ => ∃ F0, Feq F0 F /\ Z F0 τ) l F τ) (hv := AO.writes) (fun F τ hq => by cases hq.2; assumption) (fun x s1 s2 fr σ => Qk.next hZ' x s1 s2 fr σ) hA hle ne h hkk.1 (fun k k' h h' t ht hd => (hkk.2 k k' h h' t ht hd).resolve_right h1) hch.2.1 cut
     (fun D a' F τ listed' fuel' hzz q1 q2 q3 q4 q5 => ?_) fuel listed C a fr σ hU.1 (fun i hi => by rw [hU.2 i (by omega)]; simp [hi]) (fun i hi hlt => by rw [hU.2 i hlt]; simp; omega) (hU.closed hA (by omega)) hrem le hR hF ?_
    ·obtain ⟨F0, h0, hzz⟩ := hzz
     exact ih F0 τ hzz D a' ops ms _ L q3 hA hr hok.2 hk ⟨q4.defers, q4.size, fun t x hx => q4.slot t x (by rw [<- h0 t]; exact hx)⟩ q5 fuel' listed' q1 q2
    ·have hfull : left p seg listed = zq p seg := by
      unfold left
      refine List.filter_eq_self.2 fun z hz => ?_
      obtain ⟨i, x⟩ := z
      obtain ⟨m, hm, rfl, rfl⟩ := jj.1 hz
      have := hU.2 (p + m) (by omega)
      simp [Array.getD_eq_getD_getElem?, this]
     have hsnd : ∀ {l : List jd} {q : Nat}, (zq q l).map (·.2) = l := by
      intro l
      induction l with
      | nil => intro q; rfl
      | cons x r ihl => intro q; simp [zq, ihl]
     rw [hfull, hsnd]
     exact ⟨hI, hqc.mono hz⟩
 | @qx α β seg rest K fr S I Z a0 b0 hinj hI hqc _ ih =>
  intro C a ops ms p L le hA hS hok hk hF hR fuel listed hU hrem
  cases hS with
  | cons ne h cut hr =>
   have hle := hr.le
   simp only [wb6, Bool.and_eq_true] at hok
   have hz : ∀ F a b, Z F a b -> (∃ F0, Feq F0 F /\ Z F0 a b) := fun F a b h => ⟨F, fun _ => rfl, h⟩
   have hkk : (∀ k k' (h : k < seg.length) (h' : k' < seg.length) d, k ≠ k' -> seg[k].dst = some d -> seg[k'].dst ≠ some d) /\ ∀ k k' (h : k < seg.length) (h' : k' < seg.length) t, t ∈ seg[k].looks -> seg[k'].dst = some t -> (ms.getD (p + k) 0).testBit (p + k') = true \/ seg.length = 1 := by
    by_cases h2 : 2 <= seg.length
    ·obtain ⟨k1, k2⟩ := wbs hok.1.1 h2
     exact ⟨k1, fun k k' h h' t ht hd => .inl (k2 k k' h h' t ht hd)⟩
    ·have hp := List.length_pos_iff.2 ne
     exact ⟨fun k k' h h' d hne => by omega, fun k k' h h' t ht hd => .inr (by omega)⟩
   by_cases h1 : seg.length = 1
   ·obtain ⟨x, rfl⟩ := List.length_eq_one_iff.1 h1
    obtain ⟨o, g1, g2⟩ := h 0 (by simp)
    simp only [List.length_cons, List.length_nil] at hle
    refine jc1 hA hU (by omega) cut hrem fun fuel' listed' hU' hrem' => ?_
    have fin : ∀ {F a b}, Qx P S I Z [] F a b -> Z F a b := fun hq => by cases hq; assumption
    obtain ⟨xd, xo, xg⟩ := x
    cases hqc.now with
    | op ao v e hw ha hn =>
     simp only at e
     subst e
     exact zao g1 g2 hw (ha a0 b0 hI) hF hR fun D a' q1 q2 q3 => ih _ _ _ (fin hn) D a' ops ms _ L (le.trans q2) hA hr hok.2 hk q3 q1 fuel' listed' hU' hrem'
    | no hw hn => exact jbm g1 g2 hw hF fun a' q3 => ih _ _ _ (fin hn) C a' ops ms _ L le hA hr hok.2 hk q3 hR fuel' listed' hU' hrem'
    | call f args n pre cap vs Q' e hw hf hargs hok' hn =>
     simp only at e
     subst e
     exact wa1 g1 g2 hw hf hargs (hok' b0 hI) hF hR fun D a' r σ' hQ q1 q2 q3 => by
      obtain ⟨a1, hQ, rfl⟩ := hQ
      exact ih _ _ _ (fin (hn r a1 hQ)) D a' ops ms _ L (le.trans q2) hA hr hok.2 hk q3 q1 fuel' listed' hU' hrem'
    | wop ao v b1 e ho hw ha hI' hn =>
     simp only at e
     subst e
     exact zao g1 g2 hw (ha a0) hF hR fun D a' q1 q2 q3 => ih _ _ _ (fin hn) D a' ops ms _ L (le.trans q2) hA hr hok.2 hk q3 q1 fuel' listed' hU' hrem'
   ·have hZ' : ∀ F F' a b, Feq F F' -> (∃ F0, Feq F0 F /\ Z F0 a b) -> ∃ F0, Feq F0 F' /\ Z F0 a b := fun F F' a b he ⟨F0, h0, hz⟩ => ⟨F0, fun t => (h0 t).trans (he t), hz⟩
    have hch := hok.1.2
    simp only [jfo, Bool.and_eq_true] at hch
    refine wld (C0 := C0) (Z := fun F τ => ∃ a b, τ = S a b /\ I b /\ ∃ F0, Feq F0 F /\ Z F0 a b) (W := fun l F τ => ∃ a b, τ = S a b /\ I b /\ Qx P S I (fun F a b => ∃ F0, Feq F0 F /\ Z F0 a b) l F a b) (cf := AO.both) (fun F τ hq => by obtain ⟨a, b, e, hb, hq⟩ := hq; cases hq; exact ⟨a, b, e, hb, by assumption⟩) (fun x s1 s2 fr σ => Qx.next hZ' hinj x s1 s2 fr σ) hA hle ne h hkk.1 (fun k k' h h' t ht hd => (hkk.2 k k' h h' t ht hd).resolve_right h1)
     (fun k k' hk hk' hlt hc => by
       rw [AO.both, Bool.or_eq_true, yat, yat] at hc
       rcases hc with hc | hc
       ·exact wd5 hch.1 hk hk' hlt hc.1 hc.2
       ·exact wd5 hch.2.1 hk hk' hlt hc.1 hc.2) cut
     (fun D a' F τ listed' fuel' hzz q1 q2 q3 q4 q5 => ?_) fuel listed C a fr (S a0 b0) hU.1 (fun i hi => by rw [hU.2 i (by omega)]; simp [hi]) (fun i hi hlt => by rw [hU.2 i hlt]; simp; omega) (hU.closed hA (by omega)) hrem le hR hF ?_
    ·obtain ⟨a1, b1, rfl, _, F0, h0, hzz⟩ := hzz
     exact ih F0 a1 b1 hzz D a' ops ms _ L q3 hA hr hok.2 hk ⟨q4.defers, q4.size, fun t x hx => q4.slot t x (by rw [<- h0 t]; exact hx)⟩ q5 fuel' listed' q1 q2
    ·have hfull : left p seg listed = zq p seg := by
      unfold left
      refine List.filter_eq_self.2 fun z hz => ?_
      obtain ⟨i, x⟩ := z
      obtain ⟨m, hm, rfl, rfl⟩ := jj.1 hz
      have := hU.2 (p + m) (by omega)
      simp [Array.getD_eq_getD_getElem?, this]
     have hsnd : ∀ {l : List jd} {q : Nat}, (zq q l).map (·.2) = l := by
      intro l
      induction l with
      | nil => intro q; rfl
      | cons x r ihl => intro q; simp [zq, ihl]
     rw [hfull, hsnd]
     exact ⟨a0, b0, rfl, hI, hqc.mono hz⟩
 | nil _ ih =>
  intro C a ops is L le ht hk hF hR
  cases ht
  exact ⟨rfl, jaa ih le hk hF hR⟩
 | @op d ao g rest K fr σ v σ' hw ha _ ih =>
  intro C a ops is L le ht hk hF hR
  cases ht with
  | cons h1 h2 h3 =>
   rw [wpOps_cons]
   exact zao h1 h2 hw ha hF hR fun D a' q1 q2 q3 => ih D a' ops _ L (le.trans q2) h3 hk q3 q1
 | @nilq d neg x g rest K fr σ y hw hx hy _ ih =>
  intro C a ops is L le ht hk hF hR
  cases ht with
  | cons h1 h2 h3 =>
   rw [wpOps_cons]
   exact jkr h1 h2 hw hx hy hF hR fun b a' q3 => ih b C a' ops _ L le h3 hk q3 hR
 | @no d o' g rest K fr σ hw _ ih =>
  intro C a ops is L le ht hk hF hR
  cases ht with
  | cons h1 h2 h3 =>
   rw [wpOps_cons]
   exact jbm h1 h2 hw hF fun a' q3 => ih C a' ops _ L le h3 hk q3 hR
 | @call d fo args g rest K fr σ n pre cap vs Q hw hfo hargs hok _ ih =>
  intro C a ops is L le ht hk hF hR
  cases ht with
  | cons h1 h2 h3 =>
   rw [wpOps_cons]
   exact wa1 h1 h2 hw hfo hargs hok hF hR fun D a' r σ' hQ q1 q2 q3 => ih r σ' hQ D a' ops _ L (le.trans q2) h3 hk q3 q1
 | @old K fr σ _ ih =>
  have key : ∀ (C : Cx) (a : Act), FrR C nt fr a -> Rl C σ -> ∀ t x, look fr t = some x -> ∀ y ∈ x.all, Old σ.next y := fun C a hF hR t x hx => (hF.slot t x hx).2.old hR.F
  cases K with
  | nil =>
   intro C a L le hk hF hR
   exact ih (key C a hF hR) hR.old C a L le hk hF hR
  | cons k K =>
   cases k with
   | ops l =>
    intro C a ops is L le ht hk hF hR
    exact ih (key C a hF hR) hR.old C a ops is L le ht hk hF hR
   | segs l =>
    intro C a ops ms p L le hA hS hok hk hF hR fuel listed hU hrem
    exact ih (key C a hF hR) hR.old C a ops ms p L le hA hS hok hk hF hR fuel listed hU hrem
   | _ =>
    intro C a L le hk hF hR
    exact ih (key C a hF hR) hR.old C a L le hk hF hR
 | @shift K fr σ fr' σ' hs _ ih =>
  have key : ∀ (C : Cx) (a : Act), C0.Le C -> FrR C nt fr a -> Rl C σ -> ∃ D, D.w = C.w /\ C0.Le D /\ FrR D nt fr' a /\ Rl D σ' := by
   intro C a le hF hR
   obtain ⟨D, h1, h3, h4⟩ := hs C a hF hR
   exact ⟨D, h1.w, h1.of le h0, h3, h4⟩
  cases K with
  | nil =>
   intro C a L le hk hF hR
   obtain ⟨D, h1, h2, h3, h4⟩ := key C a le hF hR
   rw [<- h1]
   exact jaa ih h2 hk h3 h4
  | cons k K =>
   cases k with
   | ops l =>
    intro C a ops is L le ht hk hF hR
    obtain ⟨D, h1, h2, h3, h4⟩ := key C a le hF hR
    rw [<- h1]
    exact ih D a ops is L h2 ht hk h3 h4
   | segs l =>
    intro C a ops ms p L le hA hS hok hk hF hR fuel listed hU hrem
    obtain ⟨D, h1, h2, h3, h4⟩ := key C a le hF hR
    rw [<- h1]
    exact ih D a ops ms p L h2 hA hS hok hk h3 h4 fuel listed hU hrem
   | _ =>
    intro C a L le hk hF hR
    obtain ⟨D, h1, h2, h3, h4⟩ := key C a le hF hR
    rw [<- h1]
    exact jaa ih h2 hk h3 h4

end Go.Proofs.YtmmgbgpglhbhcaaGreat.Am
namespace Go.Proofs.YtmmgbgpglhbhcaaGreat.Am
open Go.RowKit

structure AFn where
 nt : Nat
 rets : List RV
 body : AC
def wc (P : Program) (fz : List Nat) (f : Nat) : Option AFn :=
 match P.funcs[f]? with
 | some fn =>
  match fn.body with
  | some c =>
   if fn.name == "runtime.NumGoroutine" then none else
   match jho P fn.results.toList, wq P fz fn.ntmps c with
   | some rets, some b => some ⟨fn.ntmps, rets, b⟩
   | _, _ => none
  | none => none
 | none => none
def frOf : Nat -> List AV -> Fr
 | _, [] => []
 | k, x :: r => (k, x) :: frOf (k + 1) r

theorem wix : ∀ (args : List AV) (k t : Nat) (x : AV), look (frOf k args) t = some x -> k <= t /\ ∃ h : t - k < args.length, args[t - k] = x
 | [], k, t, x, h => by simp [frOf, look] at h
 | y :: r, k, t, x, h => by
  simp only [frOf, look] at h
  split at h
  ·rename_i e
   subst e
   injection h with h
   subst h
   exact ⟨Nat.le_refl _, by simp, by simp⟩
  ·rename_i e
   obtain ⟨h1, h2, h3⟩ := wix r (k + 1) t x h
   refine ⟨by omega, by simp; omega, ?_⟩
   have : t - k = (t - (k + 1)) + 1 := by omega
   simp only [this, List.getElem_cons_succ]
   exact h3

theorem Ok.of_go {P : Program} (hm : P.follows .mixedOrders = true) {fz : List Nat} {f : Nat} {af : AFn} (h : wc P fz f = some af) {args : List AV} {σ : wa} {R : AV -> wa -> Prop} (hn : args.length <= af.nt) (hg : Go P σ.next af.nt af.rets R [.code af.body] (frOf 0 args) σ) : Ok P f args σ R := by
 unfold wc at h
 split at h
 ·rename_i fn hf
  split at h
  ·rename_i c hb
   split at h
   ·cases h
   ·rename_i hname
    split at h
    ·rename_i rets b hrets hcode
     injection h with h
     subst h
     refine ⟨⟨fn, hf, by rw [hb]; rfl, by simpa using hname⟩, fun C cargs hR ⟨hl, hargs⟩ => ?_⟩
     have hs := fun C h0 => hg.says hm (fz := fz) hf hrets C h0
     have hF : FrR C fn.ntmps (frOf 0 args) { tmps := cargs ++ Array.replicate (fn.ntmps - cargs.size) undef, defers := [] } := by
      refine ⟨rfl, by simp; simp at hn; omega, fun t x hx => ?_⟩
      obtain ⟨_, h2, h3⟩ := wix args 0 t x hx
      simp only [Nat.sub_zero] at h2 h3
      refine ⟨by simp at hn; omega, ?_⟩
      have := hargs t h2
      rw [<- h3]
      have hlt : t < cargs.size := by omega
      rw [Array.getD_eq_getD_getElem?, Array.getElem?_append_left hlt, Array.getElem?_eq_getElem hlt]
      exact this
     have hruns := jaa (hs C hR.F) (Cx.Le.refl C) (.code hcode .nil) hF hR
     intro cs
     obtain ⟨e, w', fr, h1, h2, h3, h4⟩ := hruns { (default : Frame) with fn := f, kind := .normal } cs rfl rfl
     have henter : Frame.enter P f cargs .normal = ({ (default : Frame) with fn := f, kind := .normal } : Frame).at { tmps := cargs ++ Array.replicate (fn.ntmps - cargs.size) undef, defers := [] } [.code c] := by
      simp [Frame.enter, Frame.at, hf, hb]
     rw [henter]
     exact ⟨e, w', fr, h1, h2, h3, h4⟩
    ·cases h
  ·cases h
 ·cases h

theorem Ok.mono {P : Program} {f : Nat} {args : List AV} {σ : wa} {Q Q' : AV -> wa -> Prop} (h : Ok P f args σ Q) (hq : ∀ r σ', Q r σ' -> Q' r σ') : Ok P f args σ Q' := by
 refine ⟨h.1, fun C cargs hR ha => (h.2 C cargs hR ha).mono ?_⟩
 rintro e w' ⟨D, σ', r, v, h1, h2, h3, h4⟩
 exact ⟨D, σ', r, v, h1, h2, hq _ _ h3, h4⟩

theorem Rp.cut {C D : Cx} {n : Nat} (hw : D.w = C.w) (hμ : D.μ = C.μ) (hF : ∀ id v, C.F id v -> id < n -> D.F id v) (hM : ∀ b, D.M b -> C.M b) {x : Ce} {v : Value} (h : Rp C x v) (ho : Old n x) : Rp D x v := by
 induction h with
 | int k m => exact .int k m
 | bool b => exact .bool b
 | str s => exact .str s
 | nilp => exact .nilp
 | nils => exact .nils
 | nilf => exact .nilf
 | emp a => exact .emp a
 | any v h1 h2 => exact .any v h1 h2
 | fz0 a cap => exact .fz0 a cap
 | fz es b o cap s vs hl hMn hc hs cell h ih =>
  cases ho with
  | fz _ ho => exact .fz es b o cap s vs (by rw [hw]; exact hl) (fun hm => hMn (hM _ hm)) hc hs (by rw [hw]; exact cell) (fun i j hi hj => ih i j hi hj (ho i j hi hj))
 | fp cs b o vs hl hMn cell h ih =>
  cases ho with
  | fp _ ho => exact .fp cs b o vs (by rw [hw]; exact hl) (fun hm => hMn (hM _ hm)) (by rw [hw]; exact cell) (fun j hj => ih j hj (ho j hj))
 | sl0 id v i a hf =>
  cases ho with
  | sl _ _ _ _ _ ho => exact .sl0 _ _ _ _ (hF _ _ hf ho)
 | sl id v i m c cap hf hn hc hv hk =>
  cases ho with
  | sl _ _ _ _ _ ho =>
   have := Rp.sl (C := D) id v i m c cap (hF _ _ hf ho) hn hc (by rw [hμ]; exact hv) (by rw [hμ, hw]; exact hk)
   rw [hμ] at this
   exact this
 | ptr id v i j hf hv =>
  cases ho with
  | ptr _ _ _ _ ho =>
   have := Rp.ptr (C := D) id v i j (hF _ _ hf ho) (by rw [hμ]; exact hv)
   rw [hμ] at this
   exact this
 | fn f pre cap ps cs hp hc h1 h2 ih1 ih2 =>
  cases ho with
  | fn _ _ _ o1 o2 => exact .fn f pre cap ps cs hp hc (fun i hi => ih1 i hi (o1 i hi)) (fun i hi => ih2 i hi (o2 i hi))

inductive Frz (σ : wa) (n : Nat) : Ce -> Ce -> Prop where
 | same (x : Ce) (h : Old n x) : Frz σ n x x
 | sl (id v i m c : Nat) (es ys : List (List Ce)) (hn : n <= id) (hg : σ.get id = some (v, es)) (hi : i + m <= es.length) (hl : ys.length = m) (hs : ∀ k (hk : k < m), (ys[k]'(by omega)).length = (es[i + k]'(by omega)).length)
  (h : ∀ k j (hk : k < m) (hj : j < (ys[k]'(by omega)).length), Frz σ n ((es[i + k]'(by omega))[j]'(by have := hs k hk; omega)) ((ys[k]'(by omega))[j])) : Frz σ n (.sl id v i m c) (.fz ys)
 | nil : Frz σ n .nils (.fz [])
 | ptr (id v i j : Nat) (es : List (List Ce)) (e cs : List Ce) (hn : n <= id) (hg : σ.get id = some (v, es)) (he : es[i]? = some e) (hl : cs.length + j = e.length)
  (h : ∀ k (hk : k < cs.length), Frz σ n (e[j + k]'(by omega)) cs[k]) : Frz σ n (.ptr id v i j) (.fp cs)
 | fn (f : Nat) (pre cap pre' cap' : List Ce) (hp : pre'.length = pre.length) (hc : cap'.length = cap.length) (h1 : ∀ i (hi : i < pre.length), Frz σ n pre[i] (pre'[i]'(by omega))) (h2 : ∀ i (hi : i < cap.length), Frz σ n cap[i] (cap'[i]'(by omega))) : Frz σ n (.fn f pre cap) (.fn f pre' cap')
inductive FrzV (σ : wa) (n : Nat) : AV -> AV -> Prop where
 | c {x y : Ce} (h : Frz σ n x y) : FrzV σ n (.c x) (.c y)
 | agg {xs ys : List Ce} (hl : ys.length = xs.length) (h : ∀ i (hi : i < xs.length), Frz σ n xs[i] (ys[i]'(by omega))) : FrzV σ n (.agg xs) (.agg ys)
 | tup {xs ys : List AV} (hl : ys.length = xs.length) (h : ∀ i (hi : i < xs.length), FrzV σ n xs[i] (ys[i]'(by omega))) : FrzV σ n (.tup xs) (.tup ys)
 | un (x : AV) : FrzV σ n x .un

theorem Frz.sound {C D : Cx} {σ : wa} {n : Nat} (hR : Rl C σ) (hw : D.w = C.w) (hμ : D.μ = C.μ) (hF : ∀ id v, C.F id v -> id < n -> D.F id v) (hM : ∀ b, D.M b -> C.M b) (hN : ∀ id v es, n <= id -> σ.get id = some (v, es) -> es ≠ [] -> ¬ D.M (C.μ id v).b) {x y : Ce} (hz : Frz σ n x y) : ∀ {v : Value}, Rp C x v -> Rp D y v := by
 induction hz with
 | same x h => intro v hx; exact hx.cut hw hμ hF hM h
 | nil => intro v hx; cases hx; exact .fz0 _ _
 | sl id v i m c es ys hn hg hi hl hs h ih =>
  intro u hx
  obtain ⟨ad, cap, rfl, hcap, hc⟩ := jde hR hx (ys := (es.drop i).take m) (by simp only [wa.els, hg]; rw [if_pos (by simp; exact hi)])
  have hlen : ((es.drop i).take m).length = m := by simp; omega
  rw [hlen] at hcap hx ⊢
  rcases yax m with h0 | h0
  ·subst h0
   obtain rfl : ys = [] := yal hl
   exact .fz0 _ _
  ·have hne : es ≠ [] := by intro e; subst e; simp at hi; omega
   cases hx with
   | sl0 => omega
   | sl _ _ _ _ _ _ hf hnn hcc hvv hk =>
    obtain ⟨cs, t, hb, hz, hss, hcell⟩ := hR.blk id v es hg hne
    have hyl : ∀ k (hk : k < ys.length), ys[k].length = (C.μ id v).s := fun k hk => by rw [hs k (by omega)]; exact hss _ _
    have at_ : ∀ k j, k < m -> j < (C.μ id v).s -> ∃ u, cs[(C.μ id v).base + ((i + k) * (C.μ id v).s + j)]? = some u /\ ∀ (q : i + k < es.length) (q2 : j < es[i + k].length), Rp C es[i + k][j] u := by
     intro k j hk hj
     obtain ⟨u, h1, h2⟩ := hcell (i + k) j (by omega) (by rw [hss]; exact hj)
     exact ⟨u, h1, fun _ _ => h2⟩
    subst hl
    refine .fz ys _ _ cap (C.μ id v).s (fun k j => cs.getD ((C.μ id v).base + ((i + k) * (C.μ id v).s + j)) undef) (by rw [hw]; exact lt_of_block hb) (hN id v es hn hg hne) (by omega) hyl (fun k j hk hj => ?_) (fun k j hk hj => ?_)
    ·obtain ⟨u, h1, _⟩ := at_ k j hk hj
     rw [hw, show (C.μ id v).base + i * (C.μ id v).s + (k * (C.μ id v).s + j) = (C.μ id v).base + ((i + k) * (C.μ id v).s + j) by rw [yau]; omega]
     simp [World.cell?, hb, h1]
    ·have hj' : j < (C.μ id v).s := by rw [<- hyl k hk]; exact hj
     obtain ⟨u, h1, h2⟩ := at_ k j hk hj'
     have := ih k j hk hj (h2 (by omega) (by rw [hss]; exact hj'))
     simpa [h1] using this
 | ptr id v i j es e cs hn hg he hl h ih =>
  intro u hx
  obtain ⟨hi, rfl⟩ := List.getElem?_eq_some_iff.1 he
  have hne : es ≠ [] := by intro e; subst e; simp at hi
  obtain ⟨rfl, hFF, hvv⟩ := zhz hx
  obtain ⟨cc, t, hb, hz, hss, hcell⟩ := hR.blk id v es hg hne
  refine .fp cs _ _ (fun k => cc.getD ((C.μ id v).base + (i * (C.μ id v).s + (j + k))) undef) (by rw [hw]; exact lt_of_block hb) (hN id v es hn hg hne) (fun k hk => ?_) (fun k hk => ?_)
  ·obtain ⟨u, h1, _⟩ := hcell i (j + k) hi (by omega)
   rw [hw, show (C.μ id v).base + (i * (C.μ id v).s + j) + k = (C.μ id v).base + (i * (C.μ id v).s + (j + k)) by omega]
   simp [World.cell?, hb, h1]
  ·obtain ⟨u, h1, h2⟩ := hcell i (j + k) hi (by omega)
   have := ih k hk h2
   simpa [h1] using this
 | fn f pre cap pre' cap' hp hc h1 h2 ih1 ih2 =>
  intro u hx
  cases hx with
  | fn _ _ _ ps cs q1 q2 r1 r2 => exact .fn f pre' cap' ps cs (by omega) (by omega) (fun i hi => ih1 i (by omega) (r1 i (by omega))) (fun i hi => ih2 i (by omega) (r2 i (by omega)))
theorem FrzV.sound {C D : Cx} {σ : wa} {n : Nat} (hR : Rl C σ) (hw : D.w = C.w) (hμ : D.μ = C.μ) (hF : ∀ id v, C.F id v -> id < n -> D.F id v) (hM : ∀ b, D.M b -> C.M b) (hN : ∀ id v es, n <= id -> σ.get id = some (v, es) -> es ≠ [] -> ¬ D.M (C.μ id v).b) {x y : AV} (hz : FrzV σ n x y) : ∀ {v : Value}, RpV C x v -> RpV D y v := by
 induction hz with
 | c h => intro v hx; exact .c (h.sound hR hw hμ hF hM hN (wde hx))
 | agg hl h =>
  intro v hx
  cases hx with
  | agg q1 q2 => exact .agg (by omega) fun i hi => (h i (by omega)).sound hR hw hμ hF hM hN (q2 i (by omega))
 | tup hl h ih =>
  intro v hx
  cases hx with
  | tup q1 q2 => exact .tup (by omega) fun i hi => ih i (by omega) (q2 i (by omega))
 | un x => intro v _; exact .un v

theorem Ok.ends {P : Program} {f : Nat} {args : List AV} {σ : wa} {Q : AV -> wa -> Prop} (h : Ok P f args σ Q) (σ2 : wa) (r2 : AV) (hnext : σ2.next = σ.next)
 (hq : ∀ r σ1, Q r σ1 -> (∀ id y, σ2.get id = some y -> σ1.get id = some y /\ id < σ.next /\ (σ.get id = some y \/ ∀ i j (hi : i < y.2.length) (hj : j < y.2[i].length), Old σ.next y.2[i][j])) /\ FrzV σ1 σ.next r r2) :
 Ok P f args σ (fun r σ' => r = r2 /\ σ' = σ2) := by
 refine ⟨h.1, fun C cargs hR ha => (h.2 C cargs hR ha).mono ?_⟩
 rintro e w' ⟨D, σ1, r, v, rfl, rfl, hQ, hRD, hx, hle⟩
 obtain ⟨hsub, hfrz⟩ := hq r σ1 hQ
 let D2 : Cx := ⟨D.μ, fun id v => D.F id v /\ id < σ.next, Mof D.μ σ2, D.w⟩
 have hMsub : ∀ b, D2.M b -> D.M b := by
  rintro b ⟨id, v', es, hg, hne, rfl⟩
  exact (hRD.M _).2 ⟨id, v', es, (hsub id _ hg).1, hne, rfl⟩
 have hcut : ∀ {x : Ce} {u : Value}, Rp D x u -> Old σ.next x -> Rp D2 x u := fun hx ho => Rp.cut (C := D) (D := D2) rfl rfl (fun id v hf hlt => ⟨hf, hlt⟩) hMsub hx ho
 have hRl : Rl D2 σ2 := by
  refine ⟨fun id v hf => by rw [hnext]; exact hf.2, fun id v' es hg => ?_, fun b => Iff.rfl, fun id v es id' v' es' h1 n1 h2 n2 hb => ?_, fun id v' es hg hne => ?_⟩
  ·obtain ⟨g1, g2, _⟩ := hsub id _ hg
   obtain ⟨a1, a2, a3⟩ := hRD.live id v' es g1
   exact ⟨⟨a1, g2⟩, fun v1 hv1 => a2 v1 hv1.1, a3⟩
  ·exact hRD.inj id v es id' v' es' (hsub id _ h1).1 n1 (hsub id' _ h2).1 n2 hb
  ·obtain ⟨g1, g2, g3⟩ := hsub id _ hg
   obtain ⟨cs, t, hb, hz, hl, hc⟩ := hRD.blk id v' es g1 hne
   refine ⟨cs, t, hb, hz, hl, fun i j hi hj => ?_⟩
   obtain ⟨u, h1, h2⟩ := hc i j hi hj
   refine ⟨u, h1, hcut h2 ?_⟩
   rcases g3 with g3 | g3
   ·obtain ⟨cs0, t0, hb0, hz0, hl0, hc0⟩ := hR.blk id v' es g3 hne
    obtain ⟨u0, _, k2⟩ := hc0 i j hi hj
    exact k2.old hR.F
   ·exact g3 i j hi hj
 refine ⟨D2, σ2, r2, v, rfl, rfl, ⟨rfl, rfl⟩, hRl, ?_, ?_⟩
 ·refine hfrz.sound (D := D2) hRD rfl rfl (fun id v hf hlt => ⟨hf, hlt⟩) hMsub (fun id v' es hn hg hne hm => ?_) hx
  obtain ⟨id2, v2, es2, hg2, hne2, hb⟩ := hm
  have g := hsub id2 _ hg2
  have := hRD.inj id v' es id2 v2 es2 hg hne g.1 hne2 hb.symm
  omega
 ·refine ⟨fun id v hf => ⟨⟨(hle.F id v hf).1, hR.F id v hf⟩, (hle.F id v hf).2⟩, hle.os, hle.tape, hle.output, hle.size, hle.keep, hle.shp, fun b hb hm => hle.M b hb (hMsub b hm)⟩
theorem Ok.pure {P : Program} {f : Nat} {args : List AV} {σ : wa} {Q : AV -> wa -> Prop} (h : Ok P f args σ Q) (r2 : AV) (hlt : ∀ id y, σ.get id = some y -> id < σ.next)
 (hq : ∀ r σ1, Q r σ1 -> (∀ id y, σ.get id = some y -> σ1.get id = some y) /\ FrzV σ1 σ.next r r2) : Ok P f args σ (fun r σ' => r = r2 /\ σ' = σ) :=
 h.ends σ r2 rfl fun r σ1 hQ => ⟨fun id y hg => ⟨(hq r σ1 hQ).1 id y hg, hlt id y hg, .inl hg⟩, (hq r σ1 hQ).2⟩

inductive wcr : AV -> Prop where
 | int (k : IntKind) (n : Int) : wcr (.c (.int k n))
 | bool (b : Bool) : wcr (.c (.bool b))
 | str (s : List UInt8) : wcr (.c (.str s))
 | agg (cs : List Ce) (h : ∀ i (hi : i < cs.length), wcr (.c cs[i])) : wcr (.agg cs)
 | tup (vs : List AV) (h : ∀ i (hi : i < vs.length), wcr vs[i]) : wcr (.tup vs)
theorem wcr.move {C D : Cx} {x : AV} (hs : wcr x) : ∀ {v : Value}, RpV C x v -> RpV D x v := by
 induction hs with
 | int k n => intro v h; rw [wa7 (wde h)]; exact .c (.int _ _)
 | bool b => intro v h; rw [why (wde h)]; exact .c (.bool _)
 | str s => intro v h; rw [jfm (wde h)]; exact .c (.str _)
 | agg cs h ih =>
  intro v hx
  cases hx with
  | agg q1 q2 => exact .agg q1 fun i hi => wde (ih i hi (.c (q2 i hi)))
 | tup vs h ih =>
  intro v hx
  cases hx with
  | tup q1 q2 => exact .tup q1 fun i hi => ih i hi (q2 i hi)

def wa.none (n : Nat) : wa := ⟨n, fun _ => Option.none⟩
theorem Ok.lend {P : Program} {f : Nat} {args args' : List AV} {σ : wa} {r : AV} (h : Ok P f args' (wa.none σ.next) (fun r' σ' => r' = r /\ σ' = wa.none σ.next)) (hs : wcr r) (hl : args'.length = args.length)
 (hf : ∀ i (hi : i < args.length), FrzV σ 0 args[i] (args'[i]'(by omega)) \/ args[i] = args'[i]'(by omega)) : Ok P f args σ (fun r' σ' => r' = r /\ σ' = σ) := by
 refine ⟨h.1, fun C cargs hR ⟨hal, ha⟩ => ?_⟩
 let C' : Cx := ⟨C.μ, C.F, fun _ => False, C.w⟩
 have hR' : Rl C' (wa.none σ.next) := ⟨hR.F, fun id v es hg => by simp [wa.none] at hg, fun b => ⟨fun h => h.elim, fun ⟨id, v, es, hg, _⟩ => by simp [wa.none] at hg⟩, fun id v es id' v' es' hg => by simp [wa.none] at hg, fun id v es hg => by simp [wa.none] at hg⟩
 have hle : C.Le C' := ⟨fun _ _ h => ⟨h, rfl⟩, rfl, rfl, rfl, yak _, fun _ _ _ => rfl, fun b cs t h => ⟨cs, h, rfl⟩, fun _ _ h => h.elim⟩
 refine (h.2 C' cargs hR' ⟨by omega, fun i hi => ?_⟩).mono ?_
 ·rcases hf i (by omega) with h | h
  ·exact h.sound (D := C') hR rfl rfl (fun id v _ hlt => absurd hlt (by omega)) (fun b h => h.elim) (fun _ _ _ _ _ _ h => h) (ha i (by omega))
  ·rw [<- h]; exact (ha i (by omega)).mono hle
 ·rintro e w' ⟨D', σ', r', v, rfl, rfl, ⟨rfl, rfl⟩, hRD, hx, hle'⟩
  obtain ⟨g1, g2⟩ := hR.grow D'.w hle'.os hle'.tape hle'.output hle'.size (fun b hb => hle'.keep b hb (fun h => h))
  exact ⟨⟨C.μ, C.F, C.M, D'.w⟩, σ, r', v, rfl, rfl, ⟨rfl, rfl⟩, g1, hs.move hx, g2⟩

def keep (fr : Fr) : List Nat -> Fr
 | [] => []
 | t :: r => match look fr t with
  | some x => (t, x) :: keep fr r
  | none => keep fr r
theorem wfq {fr : Fr} : ∀ {ts : List Nat} {t : Nat} {x : AV}, look (keep fr ts) t = some x -> look fr t = some x
 | [], t, x, h => by simp [keep, look] at h
 | s :: ts, t, x, h => by
  simp only [keep] at h
  split at h
  ·rename_i y hy
   simp only [look] at h
   split at h
   ·rename_i e; subst e; injection h with h; subst h; exact hy
   ·exact wfq h
  ·exact wfq h
theorem wh0.keep {n0 nt : Nat} {fr : Fr} {σ : wa} (ts : List Nat) : wh0 n0 nt fr σ (Am.keep fr ts) σ := fun C a hF hR => ⟨C, ⟨rfl, fun _ _ _ h => ⟨h, rfl⟩, fun _ _ h => h⟩, ⟨hF.defers, hF.size, fun t x hx => hF.slot t x (wfq hx)⟩, hR⟩
theorem Go.keep {P : Program} {n0 nt : Nat} {rets : List RV} {R : AV -> wa -> Prop} {K : List AK} {fr : Fr} {σ : wa} (ts : List Nat) (h : Go P n0 nt rets R K (Am.keep fr ts) σ) : Go P n0 nt rets R K fr σ := .shift (wh0.keep ts) h

end Go.Proofs.YtmmgbgpglhbhcaaGreat.Am
namespace Go.Proofs.YtmmgbgpglhbhcaaGreat.Am
open Go.RowKit

def E (σ : wa) (l : List (Nat × List (List Ce))) : wa := ⟨σ.next + l.length, fun id => if id < σ.next then σ.get id else l[id - σ.next]?⟩
theorem wx {σ : wa} {l : List (Nat × List (List Ce))} : (E σ l).next = σ.next + l.length := rfl
theorem E_lt {σ : wa} {l : List (Nat × List (List Ce))} {id : Nat} (h : id < σ.next) : (E σ l).get id = σ.get id := if_pos h
theorem E_ge {σ : wa} {l : List (Nat × List (List Ce))} {id : Nat} (h : ¬ id < σ.next) : (E σ l).get id = l[id - σ.next]? := if_neg h
theorem E_at {σ : wa} {l : List (Nat × List (List Ce))} {k : Nat} : (E σ l).get (σ.next + k) = l[k]? := by
 rw [E_ge (by omega)]
 congr 1
 omega
theorem wa.ext {σ τ : wa} (h : σ.next = τ.next) (h2 : ∀ id, σ.get id = τ.get id) : σ = τ := by
 cases σ; cases τ
 simp only at h h2
 subst h
 congr
 exact funext h2
theorem jh2 {σ : wa} {x : Nat × List (List Ce)} {id : Nat} (h : id = σ.next) : (σ.new x).get id = some x := if_pos h
theorem jle {σ : wa} {x : Nat × List (List Ce)} {id : Nat} (h : id ≠ σ.next) : (σ.new x).get id = σ.get id := if_neg h
theorem zfi {σ : wa} {x : Nat × List (List Ce)} {id j : Nat} (h : j = id) : (σ.put id x).get j = some x := if_pos h
theorem ziy {σ : wa} {x : Nat × List (List Ce)} {id j : Nat} (h : j ≠ id) : (σ.put id x).get j = σ.get j := if_neg h
theorem wkr {σ : wa} (h : OldS σ) : E σ [] = σ := by
 refine wa.ext rfl fun id => ?_
 by_cases hn : id < σ.next
 ·rw [E_lt hn]
 ·rw [E_ge hn]
  cases hg : σ.get id with
  | none => simp
  | some y => exact absurd (h id y hg).1 hn
theorem jmd {σ : wa} {l : List (Nat × List (List Ce))} {x : Nat × List (List Ce)} : (E σ l).new x = E σ (l ++ [x]) := by
 refine wa.ext (by simp [E, wa.new]; omega) fun id => ?_
 by_cases e : id = σ.next + l.length
 ·rw [jh2 (by rw [wx]; exact e)]
  subst e
  rw [E_at]
  simp
 ·rw [jle (by rw [wx]; exact e)]
  by_cases hn : id < σ.next
  ·rw [E_lt hn, E_lt hn]
  ·rw [E_ge hn, E_ge hn, List.getElem?_append]
   split
   ·rfl
   ·rename_i h2
    have : id - σ.next - l.length ≠ 0 := by omega
    rw [List.getElem?_eq_none (by omega)]
    rw [List.getElem?_eq_none (by simp; omega)]
theorem wnb {σ : wa} {l : List (Nat × List (List Ce))} {k : Nat} (hk : k < l.length) {x : Nat × List (List Ce)} : (E σ l).put (σ.next + k) x = E σ (l.set k x) := by
 refine wa.ext (by simp [E, wa.put]) fun id => ?_
 by_cases e : id = σ.next + k
 ·subst e
  rw [zfi rfl, E_at]
  simp [hk]
 ·rw [ziy e]
  by_cases hn : id < σ.next
  ·rw [E_lt hn, E_lt hn]
  ·rw [E_ge hn, E_ge hn, List.getElem?_set_ne (by omega)]
theorem E_E {σ : wa} {l m : List (Nat × List (List Ce))} : E (E σ l) m = E σ (l ++ m) := by
 refine wa.ext (by simp [E]; omega) fun id => ?_
 by_cases hn : id < σ.next
 ·rw [E_lt (by rw [wx]; omega), E_lt hn, E_lt hn]
 ·rw [E_ge hn, List.getElem?_append]
  by_cases h2 : id < σ.next + l.length
  ·rw [E_lt (by rw [wx]; omega), E_ge hn, if_pos (by omega)]
  ·rw [E_ge (by rw [wx]; omega), if_neg (by omega)]
   rw [wx]
   congr 1
   omega

theorem wh0.frz {n0 nt n : Nat} {fr fr' : Fr} {σ σ2 : wa} (h1 : ∀ t x, look fr' t = some x -> ∃ y, look fr t = some y /\ FrzV σ n y x) (hnext : σ2.next = n)
 (hsub : ∀ id y, σ2.get id = some y -> σ.get id = some y /\ id < n /\ ∀ i j (hi : i < y.2.length) (hj : j < y.2[i].length), Old n y.2[i][j]) (hn : n0 <= n) : wh0 n0 nt fr σ fr' σ2 := by
 intro C a hF hR
 let D : Cx := ⟨C.μ, fun id v => C.F id v /\ id < n, Mof C.μ σ2, C.w⟩
 have hMsub : ∀ b, D.M b -> C.M b := by
  rintro b ⟨id, v', es, hg, hne, rfl⟩
  exact (hR.M _).2 ⟨id, v', es, (hsub id _ hg).1, hne, rfl⟩
 have hcut : ∀ {x : Ce} {u : Value}, Rp C x u -> Old n x -> Rp D x u := fun hx ho => Rp.cut (C := C) (D := D) rfl rfl (fun id v hf hlt => ⟨hf, hlt⟩) hMsub hx ho
 refine ⟨D, ⟨rfl, fun id v hlt hf => ⟨⟨hf, by omega⟩, rfl⟩, fun b _ hm => hMsub b hm⟩, ⟨hF.defers, hF.size, fun t x hx => ?_⟩, ⟨fun id v hf => by rw [hnext]; exact hf.2, fun id v' es hg => ?_, fun b => Iff.rfl, fun id v es id' v' es' h1 n1 h2 n2 hb => ?_, fun id v' es hg hne => ?_⟩⟩
 ·obtain ⟨y, hy, hz⟩ := h1 t x hx
  obtain ⟨q1, q2⟩ := hF.slot t y hy
  refine ⟨q1, hz.sound (D := D) hR rfl rfl (fun id v hf hlt => ⟨hf, hlt⟩) hMsub (fun id v' es hn hg hne hm => ?_) q2⟩
  obtain ⟨id2, v2, es2, hg2, hne2, hb⟩ := hm
  have g := hsub id2 _ hg2
  have := hR.inj id v' es id2 v2 es2 hg hne g.1 hne2 hb.symm
  omega
 ·obtain ⟨g1, g2, _⟩ := hsub id _ hg
  obtain ⟨a1, a2, a3⟩ := hR.live id v' es g1
  exact ⟨⟨a1, g2⟩, fun v1 hv1 => a2 v1 hv1.1, a3⟩
 ·exact hR.inj id v es id' v' es' (hsub id _ h1).1 n1 (hsub id' _ h2).1 n2 hb
 ·obtain ⟨g1, g2, g3⟩ := hsub id _ hg
  obtain ⟨cs, t, hb, hz, hl, hc⟩ := hR.blk id v' es g1 hne
  refine ⟨cs, t, hb, hz, hl, fun i j hi hj => ?_⟩
  obtain ⟨u, h1, h2⟩ := hc i j hi hj
  exact ⟨u, h1, hcut h2 (g3 i j hi hj)⟩

theorem Old.mono {n m : Nat} (h : n <= m) {x : Ce} (ho : Old n x) : Old m x := by
 induction ho with
 | int k i => exact .int k i
 | bool b => exact .bool b
 | str s => exact .str s
 | nilp => exact .nilp
 | nils => exact .nils
 | nilf => exact .nilf
 | emp => exact .emp
 | any => exact .any
 | fz es _ ih => exact .fz es ih
 | fp cs _ ih => exact .fp cs ih
 | sl id v i m c hlt => exact .sl _ _ _ _ _ (by omega)
 | ptr id v i j hlt => exact .ptr _ _ _ _ (by omega)
 | fn f pre cap _ _ ih1 ih2 => exact .fn f pre cap ih1 ih2
theorem FrzV.refl {σ : wa} {n : Nat} : ∀ {x : AV}, (∀ y ∈ x.all, Old n y) -> FrzV σ n x x
 | .c x, h => .c (.same x (h x (by simp [AV.all])))
 | .agg xs, h => .agg rfl fun i hi => .same _ (h _ (by simp [AV.all]))
 | .tup vs, h => .tup rfl fun i hi => FrzV.refl (x := vs[i]) fun y hy => h y (by
  simp only [AV.all]
  have : ∀ (vs : List AV) (i : Nat) (hi : i < vs.length), y ∈ vs[i].all -> y ∈ AV.all.allL vs := by
   intro vs
   induction vs with
   | nil => intro i hi; simp at hi
   | cons v r ih =>
    intro i hi hy
    simp only [AV.all.allL, List.mem_append]
    cases i with
    | zero => exact .inl hy
    | succ i => exact .inr (ih i (by simpa using hi) hy)
  exact this vs i hi hy)
 | .un, h => .un _
termination_by x => SizeOf.sizeOf x
decreasing_by
 have := List.sizeOf_lt_of_mem (yab hi)
 simp
 omega

section
variable {P : Program} {n0 nt : Nat} {rets : List RV} {R : AV -> wa -> Prop} {K : List AK} {fr : Fr} {σ : wa}
theorem Go.var {d s i : Nat} {z cs : List Ce} {w : AV} {rest : List jd} (h0 : n0 <= σ.next) (hi : i ≠ d) (hw : look fr i = some w) (hx : w.cells = some cs) (hl : cs.length = s) (hz : z.length = s)
 (h : Go P n0 nt rets R (.ops rest :: K) ((d, .c (.fp cs)) :: fr) σ) : Go P n0 nt rets R (.ops (⟨some d, .op (.alloc z), none⟩ :: ⟨none, .op (.store s (.t d) (.t i)), none⟩ :: rest) :: K) fr σ := by
 refine .old fun ho hS => .op (v := .c (.ptr σ.next 0 0 0)) (σ' := σ.new (0, [z])) rfl rfl (.op (v := .un) (σ' := (σ.new (0, [z])).put σ.next (0, [cs])) rfl ?_ (.shift (fr' := (d, .c (.fp cs)) :: fr) (σ' := σ) ?_ h))
 ·have e1 : (Opd.t d).ev (putA fr (some d) (.c (.ptr σ.next 0 0 0))) = some (.c (.ptr σ.next 0 0 0)) := by simp [Opd.ev, putA, look]
  have e0 : (Opd.t i).ev (putA fr (some d) (.c (.ptr σ.next 0 0 0))) = some w := by simp [Opd.ev, putA, look, Ne.symm hi, hw]
  have e2 : (σ.new (0, [z])).get σ.next = some (0, [z]) := jh2 rfl
  have e3 : jh z 0 cs = cs := by
   simp only [jh, List.take_zero, List.nil_append, Nat.zero_add]
   rw [yad (by omega)]
   simp
  simp [aop, e1, e0, hx, e2, hl, hz, e3]
 ·refine wh0.frz (n := σ.next) (fun t y hy => ?_) rfl (fun id y hg => ?_) h0
  ·simp only [look] at hy
   split at hy
   ·rename_i e
    subst e
    injection hy with hy
    subst hy
    refine ⟨.c (.ptr σ.next 0 0 0), by simp [putA, look], .c (.ptr σ.next 0 0 0 [cs] cs cs (Nat.le_refl _) (zfi rfl) rfl (by simp) fun k hk => ?_)⟩
    simp only [Nat.zero_add]
    refine .same _ (ho i w hw _ ?_)
    cases w <;> simp [AV.cells] at hx <;> subst hx <;> simp [AV.all]
   ·rename_i e
    exact ⟨y, by simp [putA, look, e, hy], .refl (ho t y hy)⟩
  ·obtain ⟨q1, q2⟩ := hS id y hg
   refine ⟨?_, q1, q2⟩
   rw [ziy (by omega), jle (by omega)]
   exact hg
theorem Go.var2 {d s i e : Nat} {z cs : List Ce} {w u : AV} {k : Nat} {rest : List jd} (h0 : n0 <= σ.next) (hi : i ≠ d) (hie : i ≠ e) (hde : d ≠ e) (hyd : k ≠ d) (hy : look fr k = some u) (hw : look fr i = some w) (hx : w.cells = some cs) (hl : cs.length = s) (hz : z.length = s)
 (h : Go P n0 nt rets R (.ops rest :: K) ((e, u) :: (d, .c (.fp cs)) :: fr) σ) : Go P n0 nt rets R (.ops (⟨some d, .op (.alloc z), none⟩ :: ⟨some e, .op (.mv (.t k)), none⟩ :: ⟨none, .op (.store s (.t d) (.t i)), none⟩ :: rest) :: K) fr σ := by
 refine .old fun ho hS => .op (v := .c (.ptr σ.next 0 0 0)) (σ' := σ.new (0, [z])) rfl rfl (.op (v := u) (σ' := σ.new (0, [z])) rfl (by simp [aop, Opd.ev, look, putA, Ne.symm hyd, hy]) (.op (v := .un) (σ' := (σ.new (0, [z])).put σ.next (0, [cs])) rfl ?_ (.shift (fr' := (e, u) :: (d, .c (.fp cs)) :: fr) (σ' := σ) ?_ h)))
 ·have e1 : (Opd.t d).ev (putA (putA fr (some d) (.c (.ptr σ.next 0 0 0))) (some e) u) = some (.c (.ptr σ.next 0 0 0)) := by simp [Opd.ev, putA, look, Ne.symm hde]
  have e0 : (Opd.t i).ev (putA (putA fr (some d) (.c (.ptr σ.next 0 0 0))) (some e) u) = some w := by simp [Opd.ev, putA, look, Ne.symm hi, Ne.symm hie, hw]
  have e2 : (σ.new (0, [z])).get σ.next = some (0, [z]) := jh2 rfl
  have e3 : jh z 0 cs = cs := by
   simp only [jh, List.take_zero, List.nil_append, Nat.zero_add]
   rw [yad (by omega)]
   simp
  simp [aop, e1, e0, hx, e2, hl, hz, e3]
 ·have hu : ∀ c ∈ u.all, Old σ.next c := ho k u hy
  refine wh0.frz (n := σ.next) (fun t y hy => ?_) rfl (fun id y hg => ?_) h0
  ·simp only [look] at hy
   split at hy
   ·rename_i e1
    subst e1
    injection hy with hy
    subst hy
    exact ⟨u, by simp [putA, look], .refl hu⟩
   ·rename_i e1
    split at hy
    ·rename_i e
     subst e
     injection hy with hy
     subst hy
     refine ⟨.c (.ptr σ.next 0 0 0), by simp [putA, look, e1], .c (.ptr σ.next 0 0 0 [cs] cs cs (Nat.le_refl _) (zfi rfl) rfl (by simp) fun k hk => ?_)⟩
     simp only [Nat.zero_add]
     refine .same _ (ho i w hw _ ?_)
     cases w <;> simp [AV.cells] at hx <;> subst hx <;> simp [AV.all]
    ·rename_i e
     exact ⟨y, by simp [putA, look, e, e1, hy], .refl (ho t y hy)⟩
  ·obtain ⟨q1, q2⟩ := hS id y hg
   refine ⟨?_, q1, q2⟩
   rw [ziy (by omega), jle (by omega)]
   exact hg
end

end Go.Proofs.YtmmgbgpglhbhcaaGreat.Am
namespace Go.Proofs.YtmmgbgpglhbhcaaGreat.Am
open Go.RowKit

def vec (id v : Nat) (ys junk : List (List Ce)) : Ce := .sl id v 0 ys.length (ys.length + junk.length)

inductive Flat : Ce -> Prop where
 | int (k : IntKind) (m : Int) : Flat (.int k m)
 | bool (b : Bool) : Flat (.bool b)
 | str (s : List UInt8) : Flat (.str s)
 | nilp : Flat .nilp
 | nils : Flat .nils
 | nilf : Flat .nilf
 | emp : Flat .emp
 | any : Flat .any
def Jk (s : Nat) (junk : List (List Ce)) : Prop := ∀ e ∈ junk, e.length = s /\ ∀ x ∈ e, Flat x
theorem Jk.nil {s : Nat} : Jk s [] := fun e he => by simp at he

structure Pure (P : Program) (f : Nat) (args : List AV) (r : AV) : Prop where
 at_ : ∀ σ, Ok P f args σ (fun r' σ' => r' = r /\ σ' = σ)
def Fin (σ : wa) (r2 : AV) (r : AV) (σ' : wa) : Prop := ∃ l, σ' = E σ l /\ FrzV σ' σ.next r r2
theorem Ok.old {P : Program} {fz : List Nat} {f : Nat} {af : AFn} (h : wc P fz f = some af) {args : List AV} {σ : wa} {Q : AV -> wa -> Prop} (hk : OldS σ -> (∀ x ∈ args, ∀ y ∈ x.all, Old σ.next y) -> Ok P f args σ Q) : Ok P f args σ Q := by
 refine ⟨?_, fun C cargs hR ha => ?_⟩
 ·unfold wc at h
  split at h
  ·rename_i fn hf
   split at h
   ·rename_i c hb
    split at h
    ·cases h
    ·rename_i hname
     exact ⟨fn, hf, by rw [hb]; rfl, by simpa using hname⟩
   ·cases h
  ·cases h
 ·obtain ⟨hl, hv⟩ := ha
  refine (hk hR.old fun x hx y hy => ?_).2 C cargs hR ⟨hl, hv⟩
  obtain ⟨i, hi, rfl⟩ := List.mem_iff_getElem.1 hx
  exact (hv i hi).old hR.F y hy
theorem Ok.run {P : Program} (hm : P.follows .mixedOrders = true) {fz : List Nat} {f : Nat} {af : AFn} (h : wc P fz f = some af) {args : List AV} {σ : wa} {R : AV -> wa -> Prop} (hn : args.length <= af.nt)
 (hg : OldS σ -> (∀ x ∈ args, ∀ y ∈ x.all, Old σ.next y) -> Go P σ.next af.nt af.rets R [.code af.body] (frOf 0 args) (E σ [])) : Ok P f args σ R :=
 .old h fun hS ha => .of_go hm h hn (by have := hg hS ha; rwa [wkr hS] at this)
theorem Pure.run {P : Program} (hm : P.follows .mixedOrders = true) {fz : List Nat} {f : Nat} {af : AFn} (h : wc P fz f = some af) {args : List AV} {r2 : AV} (hn : args.length <= af.nt)
 (hg : ∀ σ, OldS σ -> (∀ x ∈ args, ∀ y ∈ x.all, Old σ.next y) -> Go P σ.next af.nt af.rets (Fin σ r2) [.code af.body] (frOf 0 args) (E σ [])) : Pure P f args r2 := by
 constructor
 intro σ
 refine .old h fun hS ha => ?_
 refine Ok.pure (Ok.run hm h hn (hg σ)) r2 (fun id y hy => (hS id y hy).1) ?_
 rintro r σ1 ⟨l, rfl, hz⟩
 exact ⟨fun id y hy => by rw [E_lt (hS id y hy).1]; exact hy, hz⟩

def Made (σ : wa) (s : Nat) (ys : List (List Ce)) (r : AV) (σ' : wa) : Prop := ∃ v junk, Jk s junk /\ r = .c (vec (σ.next + 0) v ys junk) /\ σ' = E σ [(v, ys ++ junk)]
structure zg3 (P : Program) (f : Nat) (args : List AV) (s : Nat) (ys : List (List Ce)) : Prop where
 at_ : ∀ σ, Ok P f args σ (Made σ s ys)
theorem zg3.run {P : Program} (hm : P.follows .mixedOrders = true) {fz : List Nat} {f : Nat} {af : AFn} (h : wc P fz f = some af) {args : List AV} {s : Nat} {ys : List (List Ce)} (hn : args.length <= af.nt)
 (hg : ∀ σ, OldS σ -> (∀ x ∈ args, ∀ y ∈ x.all, Old σ.next y) -> Go P σ.next af.nt af.rets (Made σ s ys) [.code af.body] (frOf 0 args) (E σ [])) : zg3 P f args s ys :=
 ⟨fun σ => Ok.run hm h hn (hg σ)⟩

theorem Fin.same {σ : wa} {l : List (Nat × List (List Ce))} {r r2 : AV} (e : r = r2) (h : ∀ y ∈ r2.all, Old σ.next y) : Fin σ r2 r (E σ l) := by
 subst e
 exact ⟨l, rfl, .refl h⟩
theorem Fin.bool {σ : wa} {l : List (Nat × List (List Ce))} {b b2 : Bool} (e : b = b2) : Fin σ (.c (.bool b2)) (.c (.bool b)) (E σ l) :=
 .same (by rw [e]) (by intro y hy; simp [AV.all] at hy; subst hy; exact .bool _)
theorem Fin.int {σ : wa} {l : List (Nat × List (List Ce))} {k : IntKind} {b b2 : Int} (e : b = b2) : Fin σ (.c (.int k b2)) (.c (.int k b)) (E σ l) :=
 .same (by rw [e]) (by intro y hy; simp [AV.all] at hy; subst hy; exact .int _ _)
theorem Fin.str {σ : wa} {l : List (Nat × List (List Ce))} {b b2 : List UInt8} (e : b = b2) : Fin σ (.c (.str b2)) (.c (.str b)) (E σ l) :=
 .same (by rw [e]) (by intro y hy; simp [AV.all] at hy; subst hy; exact .str _)

section
variable {P : Program} {n0 nt : Nat} {rets : List RV} {R : AV -> wa -> Prop} {K : List AK} {fr : Fr} {σ : wa}
theorem Go.ite {c : Opd} {a b : AC} (t : Bool) (h : c.ev fr = some (.c (.bool t))) (h1 : t = true -> Go P n0 nt rets R (.code a :: K) fr σ) (h2 : t = false -> Go P n0 nt rets R (.code b :: K) fr σ) : Go P n0 nt rets R (.code (.cond c a b) :: K) fr σ := by
 refine .cond t h ?_
 cases t
 ·exact h2 rfl
 ·exact h1 rfl
theorem Go.iteD {c : Opd} {a b : AC} {p : Prop} {i : Decidable p} (h : c.ev fr = some (.c (.bool (@decide p i)))) (h1 : p -> Go P n0 nt rets R (.code a :: K) fr σ) (h2 : ¬ p -> Go P n0 nt rets R (.code b :: K) fr σ) : Go P n0 nt rets R (.code (.cond c a b) :: K) fr σ :=
 .ite _ h (fun e => h1 (of_decide_eq_true e)) (fun e => h2 (of_decide_eq_false e))
theorem Go.pcall {d : Option Nat} {f : Opd} {args : List Opd} {g : Option (Nat × Bool)} {rest : List jd} {n : Nat} {pre cap : List Ce} {vs : List AV} {r : AV} (hw : wants fr g = some true) (hf : f.ev fr = some (.c (.fn n pre cap))) (ha : evs fr args = some vs)
 (hp : Pure P n (pre.map .c ++ vs ++ cap.map .c) r) (h : Go P n0 nt rets R (.ops rest :: K) (putA fr d r) σ) : Go P n0 nt rets R (.ops (⟨d, .call f args, g⟩ :: rest) :: K) fr σ :=
 .call _ hw hf ha (hp.at_ σ) (by rintro r' σ' ⟨rfl, rfl⟩; exact h)
theorem Go.spcall {d : Option Nat} {f : Opd} {args : List Opd} {g : Option (Nat × Bool)} {rest : List (List jd)} {n : Nat} {pre cap : List Ce} {vs : List AV} {r : AV} (hw : wants fr g = some true) (hf : f.ev fr = some (.c (.fn n pre cap))) (ha : evs fr args = some vs)
 (hp : Pure P n (pre.map .c ++ vs ++ cap.map .c) r) (h : Go P n0 nt rets R (.segs rest :: K) (putA fr d r) σ) : Go P n0 nt rets R (.segs ([⟨d, .call f args, g⟩] :: rest) :: K) fr σ :=
 .scall _ hw hf ha (hp.at_ σ) (by rintro r' σ' ⟨rfl, rfl⟩; exact h)
def Qg (P : Program) (σ : wa) (l : List jd) (fr : Fr) (Post : Fr -> Prop) : Prop := ∃ F, Qs P σ l fr F /\ Post F
theorem Go.qs {s1 s2 : jd} {seg : List jd} {rest : List (List jd)} (h : Qg P σ (s1 :: s2 :: seg) fr fun F => Go P n0 nt rets R (.segs rest :: K) F σ) : Go P n0 nt rets R (.segs ((s1 :: s2 :: seg) :: rest) :: K) fr σ :=
 let ⟨_, h1, h2⟩ := h
 .quiet h1 h2
theorem Qg.nil {Post : Fr -> Prop} (h : Post fr) : Qg P σ [] fr Post := ⟨fr, .nil, h⟩
theorem Qg.op {d : Option Nat} {o : AOp} {g : Option (Nat × Bool)} {rest : List jd} {v : AV} {Post : Fr -> Prop} (hw : wants fr g = some true) (ha : aop o fr σ = some (v, σ)) (h : Qg P σ rest (putA fr d v) Post) : Qg P σ (⟨d, .op o, g⟩ :: rest) fr Post :=
 let ⟨F, h1, h2⟩ := h
 ⟨F, .op hw ha h1, h2⟩
theorem Qg.no {d : Option Nat} {o : AO} {g : Option (Nat × Bool)} {rest : List jd} {Post : Fr -> Prop} (hw : wants fr g = some false) (h : Qg P σ rest (putA fr d (.tup [])) Post) : Qg P σ (⟨d, o, g⟩ :: rest) fr Post :=
 let ⟨F, h1, h2⟩ := h
 ⟨F, .no hw h1, h2⟩
theorem Qg.pcall {d : Option Nat} {f : Opd} {args : List Opd} {g : Option (Nat × Bool)} {rest : List jd} {n : Nat} {pre cap : List Ce} {vs : List AV} {r : AV} {Post : Fr -> Prop} (hw : wants fr g = some true) (hf : f.ev fr = some (.c (.fn n pre cap))) (ha : evs fr args = some vs)
 (hp : Pure P n (pre.map .c ++ vs ++ cap.map .c) r) (h : Qg P σ rest (putA fr d r) Post) : Qg P σ (⟨d, .call f args, g⟩ :: rest) fr Post :=
 let ⟨F, h1, h2⟩ := h
 ⟨F, .call hw hf ha (hp.at_ σ) h1, h2⟩

theorem Go.pcallB {d : Option Nat} {f : Opd} {args : List Opd} {g : Option (Nat × Bool)} {rest : List jd} {n : Nat} {pre cap : List Ce} {vs : List AV} {B : Bool} (hw : wants fr g = some true) (hf : f.ev fr = some (.c (.fn n pre cap))) (ha : evs fr args = some vs)
 (hp : Pure P n (pre.map .c ++ vs ++ cap.map .c) (.c (.bool B))) (h : ∀ b, B = b -> Go P n0 nt rets R (.ops rest :: K) (putA fr d (.c (.bool b))) σ) : Go P n0 nt rets R (.ops (⟨d, .call f args, g⟩ :: rest) :: K) fr σ :=
 Go.pcall hw hf ha hp (h B rfl)
theorem Go.spcallB {d : Option Nat} {f : Opd} {args : List Opd} {g : Option (Nat × Bool)} {rest : List (List jd)} {n : Nat} {pre cap : List Ce} {vs : List AV} {B : Bool} (hw : wants fr g = some true) (hf : f.ev fr = some (.c (.fn n pre cap))) (ha : evs fr args = some vs)
 (hp : Pure P n (pre.map .c ++ vs ++ cap.map .c) (.c (.bool B))) (h : ∀ b, B = b -> Go P n0 nt rets R (.segs rest :: K) (putA fr d (.c (.bool b))) σ) : Go P n0 nt rets R (.segs ([⟨d, .call f args, g⟩] :: rest) :: K) fr σ :=
 Go.spcall hw hf ha hp (h B rfl)
theorem Qg.pcallB {d : Option Nat} {f : Opd} {args : List Opd} {g : Option (Nat × Bool)} {rest : List jd} {n : Nat} {pre cap : List Ce} {vs : List AV} {B : Bool} {Post : Fr -> Prop} (hw : wants fr g = some true) (hf : f.ev fr = some (.c (.fn n pre cap))) (ha : evs fr args = some vs)
 (hp : Pure P n (pre.map .c ++ vs ++ cap.map .c) (.c (.bool B))) (h : ∀ b, B = b -> Qg P σ rest (putA fr d (.c (.bool b))) Post) : Qg P σ (⟨d, .call f args, g⟩ :: rest) fr Post :=
 Qg.pcall hw hf ha hp (h B rfl)
theorem Go.pcallI {d : Option Nat} {f : Opd} {args : List Opd} {g : Option (Nat × Bool)} {rest : List jd} {n : Nat} {pre cap : List Ce} {vs : List AV} {k : IntKind} {B : Int} (hw : wants fr g = some true) (hf : f.ev fr = some (.c (.fn n pre cap))) (ha : evs fr args = some vs)
 (hp : Pure P n (pre.map .c ++ vs ++ cap.map .c) (.c (.int k B))) (h : ∀ b, B = b -> Go P n0 nt rets R (.ops rest :: K) (putA fr d (.c (.int k b))) σ) : Go P n0 nt rets R (.ops (⟨d, .call f args, g⟩ :: rest) :: K) fr σ :=
 Go.pcall hw hf ha hp (h B rfl)
theorem Go.spcallI {d : Option Nat} {f : Opd} {args : List Opd} {g : Option (Nat × Bool)} {rest : List (List jd)} {n : Nat} {pre cap : List Ce} {vs : List AV} {k : IntKind} {B : Int} (hw : wants fr g = some true) (hf : f.ev fr = some (.c (.fn n pre cap))) (ha : evs fr args = some vs)
 (hp : Pure P n (pre.map .c ++ vs ++ cap.map .c) (.c (.int k B))) (h : ∀ b, B = b -> Go P n0 nt rets R (.segs rest :: K) (putA fr d (.c (.int k b))) σ) : Go P n0 nt rets R (.segs ([⟨d, .call f args, g⟩] :: rest) :: K) fr σ :=
 Go.spcall hw hf ha hp (h B rfl)
theorem Qg.pcallI {d : Option Nat} {f : Opd} {args : List Opd} {g : Option (Nat × Bool)} {rest : List jd} {n : Nat} {pre cap : List Ce} {vs : List AV} {k : IntKind} {B : Int} {Post : Fr -> Prop} (hw : wants fr g = some true) (hf : f.ev fr = some (.c (.fn n pre cap))) (ha : evs fr args = some vs)
 (hp : Pure P n (pre.map .c ++ vs ++ cap.map .c) (.c (.int k B))) (h : ∀ b, B = b -> Qg P σ rest (putA fr d (.c (.int k b))) Post) : Qg P σ (⟨d, .call f args, g⟩ :: rest) fr Post :=
 Qg.pcall hw hf ha hp (h B rfl)
theorem jbf {t : Nat} {x : AV} (h : look fr t = some x) (u : Nat) : look ((t, x) :: fr) u = look fr u := by
 simp only [look]
 split
 ·rename_i e; subst e; exact h.symm
 ·rfl
theorem Go.same {fr' : Fr} (h : ∀ t, look fr' t = look fr t) (hg : Go P n0 nt rets R K fr' σ) : Go P n0 nt rets R K fr σ :=
 .shift (fun C a hF hR => ⟨C, ⟨rfl, fun _ _ _ h => ⟨h, rfl⟩, fun _ _ h => h⟩, ⟨hF.defers, hF.size, fun t x hx => hF.slot t x (by rw [<- h t]; exact hx)⟩, hR⟩) hg
theorem Go.guard {d : Option Nat} {o : AO} {t : Nat} {b : Bool} {rest : List jd} (B : Bool) (h : look fr t = some (.c (.bool B))) (h1 : B = true -> Go P n0 nt rets R (.ops (⟨d, o, some (t, b)⟩ :: rest) :: K) ((t, .c (.bool true)) :: fr) σ) (h2 : B = false -> Go P n0 nt rets R (.ops (⟨d, o, some (t, b)⟩ :: rest) :: K) ((t, .c (.bool false)) :: fr) σ) :
 Go P n0 nt rets R (.ops (⟨d, o, some (t, b)⟩ :: rest) :: K) fr σ := by
 cases B
 ·exact .same (jbf h) (h2 rfl)
 ·exact .same (jbf h) (h1 rfl)
theorem Go.sguard {d : Option Nat} {o : AO} {t : Nat} {b : Bool} {rest : List (List jd)} (B : Bool) (h : look fr t = some (.c (.bool B))) (h1 : B = true -> Go P n0 nt rets R (.segs ([⟨d, o, some (t, b)⟩] :: rest) :: K) ((t, .c (.bool true)) :: fr) σ) (h2 : B = false -> Go P n0 nt rets R (.segs ([⟨d, o, some (t, b)⟩] :: rest) :: K) ((t, .c (.bool false)) :: fr) σ) :
 Go P n0 nt rets R (.segs ([⟨d, o, some (t, b)⟩] :: rest) :: K) fr σ := by
 cases B
 ·exact .same (jbf h) (h2 rfl)
 ·exact .same (jbf h) (h1 rfl)
theorem Qg.guard {d : Option Nat} {o : AO} {t : Nat} {b : Bool} {rest : List jd} {Post : Fr -> Prop} (B : Bool) (h : look fr t = some (.c (.bool B))) (h1 : B = true -> Qg P σ (⟨d, o, some (t, b)⟩ :: rest) ((t, .c (.bool true)) :: fr) Post) (h2 : B = false -> Qg P σ (⟨d, o, some (t, b)⟩ :: rest) ((t, .c (.bool false)) :: fr) Post) :
 Qg P σ (⟨d, o, some (t, b)⟩ :: rest) fr Post := by
 have key : ∀ {fr'}, (∀ t, look fr' t = look fr t) -> Qg P σ (⟨d, o, some (t, b)⟩ :: rest) fr' Post -> Qg P σ (⟨d, o, some (t, b)⟩ :: rest) fr Post := fun he ⟨F, q1, q2⟩ => ⟨F, .same he q1, q2⟩
 cases B
 ·exact key (jbf h) (h2 rfl)
 ·exact key (jbf h) (h1 rfl)
theorem Go.loops {body : AC} {I : Nat -> Fr -> wa -> Prop} (h : ∀ m fr σ, I m fr σ -> (∀ m' fr' σ', m' < m -> I m' fr' σ' -> Go P n0 nt rets R (.lp body :: K) fr' σ') -> Go P n0 nt rets R (.code body :: .lp body :: K) fr σ)
 (m : Nat) (fr : Fr) (σ : wa) (hI : I m fr σ) : Go P n0 nt rets R (.code (.loop body) :: K) fr σ := by
 have key : ∀ m fr σ, I m fr σ -> Go P n0 nt rets R (.code body :: .lp body :: K) fr σ := by
  intro m
  induction m using Nat.strongRecOn with
  | _ m ih => exact fun fr σ hI => h m fr σ hI fun m' fr' σ' hlt hI' => .lp (ih m' hlt fr' σ' hI')
 exact .loop (key m fr σ hI)

theorem znc {l : List (Nat × List (List Ce))} {x : Opd} {v : AV} {cs : List Ce} (hx : x.ev fr = some v) (hc : v.cells = some cs) : aop (.box false x) fr (E σ l) = some (.c (.ptr (σ.next + l.length) 0 0 0), E σ (l ++ [(0, [cs])])) := by
 simp [aop, hx, hc, jmd, wx]
theorem wle {l : List (Nat × List (List Ce))} {z : List Ce} : aop (.alloc z) fr (E σ l) = some (.c (.ptr (σ.next + l.length) 0 0 0), E σ (l ++ [(0, [z])])) := by
 simp [aop, jmd, wx]
theorem wmd {l : List (Nat × List (List Ce))} {s n : Nat} {z : List Ce} {ps : List (Nat × Opd)} {es : List (List Ce)} (h : jhy fr s (List.replicate n z) ps = some es) : aop (.mksl false s n z ps) fr (E σ l) = some (.c (.sl (σ.next + l.length) 0 0 n n), E σ (l ++ [(0, es)])) := by
 simp [aop, h, jmd, wx]
theorem ja5 {l : List (Nat × List (List Ce))} {g : Bool} {s k v i j : Nat} {a : Opd} {es : List (List Ce)} {e : List Ce} {x : AV} (ha : a.ev fr = some (.c (.ptr (σ.next + k) v i j))) (hl : l[k]? = some (v, es)) (he : es[i]? = some e) (hj : j <= e.length) (hx : zb8 g s (e.drop j) = some x) :
 aop (.load g s a) fr (E σ l) = some (x, E σ l) := by
 simp [aop, ha, wa.at_, E_at, hl, he, hj, hx]
theorem jm {l : List (Nat × List (List Ce))} {s k v i j : Nat} {a y : Opd} {es : List (List Ce)} {e cs : List Ce} {x : AV} (ha : a.ev fr = some (.c (.ptr (σ.next + k) v i j))) (hy : y.ev fr = some x) (hc : x.cells = some cs) (hl : l[k]? = some (v, es)) (he : es[i]? = some e) (hs : cs.length = s) (hj : j + s <= e.length) :
 aop (.store s a y) fr (E σ l) = some (.un, E σ (l.set k (v, es.set i (jh e j cs)))) := by
 have hk : k < l.length := (List.getElem?_eq_some_iff.1 hl).1
 simp [aop, ha, hy, hc, E_at, hl, he, hs, hj, wnb hk]
theorem z3 {l : List (Nat × List (List Ce))} {s k v i m c n : Nat} {x y : Opd} {kd : IntKind} {es : List (List Ce)} {z : Int} (hx : x.ev fr = some (.c (.sl (σ.next + k) v i m c))) (hy : y.ev fr = some (.c (.int kd z))) (hz : z = (n : Int)) (hn : n < m) (hl : l[k]? = some (v, es)) {e : List Ce} (he : es[i + n]? = some e) (hs : e.length = s) :
 aop (.iaddr s x y) fr (E σ l) = some (.c (.ptr (σ.next + k) v (i + n) 0), E σ l) := by
 subst hz
 simp [aop, hx, hy, zit, hn, E_at, hl, he, hs]
theorem zks {τ : wa} {s n : Nat} {x y : Opd} {kd : IntKind} {es : List (List Ce)} {z : Int} {e : List Ce} (hx : x.ev fr = some (.c (.fz es))) (hy : y.ev fr = some (.c (.int kd z))) (hz : z = (n : Int)) (he : es[n]? = some e) (hs : e.length = s) :
 aop (.iaddr s x y) fr τ = some (.c (.fp e), τ) := by
 subst hz
 simp [aop, hx, hy, zit, he, hs]

theorem jks {τ : wa} {α : Type} {enc : α -> List Ce} {xs : List α} {s n : Nat} {x y : Opd} {kd : IntKind} {z : Int} (hx : x.ev fr = some (.c (.fz (xs.map enc)))) (hy : y.ev fr = some (.c (.int kd z))) (hz : z = (n : Int)) (hn : n < xs.length) (hs : (enc xs[n]).length = s) :
 aop (.iaddr s x y) fr τ = some (.c (.fp (enc xs[n])), τ) :=
 zks hx hy hz (by simp [hn]) hs

theorem zme {τ : wa} {α : Type} {enc : α -> List Ce} {xs : List α} {x : Opd} (hx : x.ev fr = some (.c (.fz (xs.map enc)))) : aop (.len false x) fr τ = some (.c (.int .i64 (xs.length : Int)), τ) := by
 simp [aop, hx]

theorem wjt {l : List (Nat × List (List Ce))} {s bytes k v : Nat} {x y : Opd} {u : Ce} {ys junk zs : List (List Ce)} (hx : x.ev fr = some (.c (vec (σ.next + k) v ys junk))) (hy : y.ev fr = some (.c u)) (hu : (E σ l).els u = some zs) (hl : l[k]? = some (v, ys ++ junk))
 (hys : ∀ e ∈ ys, e.length = s) (hj : Jk s junk) (hzs : ∀ e ∈ zs, e.length = s) (hb : (ys.length + zs.length) * bytes <= 140737488355328) :
 ∃ v' junk', Jk s junk' /\ aop (.app s bytes x y) fr (E σ l) = some (.c (vec (σ.next + k) v' (ys ++ zs) junk'), E σ (l.set k (v', ys ++ zs ++ junk'))) := by
 have hk : k < l.length := (List.getElem?_eq_some_iff.1 hl).1
 have hall : ∀ e ∈ ys ++ junk, e.length = s := by
  intro e he
  rcases List.mem_append.1 he with h | h
  ·exact hys e h
  ·exact (hj e h).1
 have hns : ∀ b, u ≠ .str b := by
  rintro b rfl
  simp [wa.els] at hu
 have h0 : aop (.app s bytes x y) fr (E σ l) = (((E σ l).els u).bind (appA (E σ l) s bytes (vec (σ.next + k) v ys junk))).map fun r => (.c r.1, r.2) := by
  simp only [aop, hx, hy]
 rw [h0, hu]
 simp only [Option.bind_some]
 by_cases c : zs.length <= junk.length
 ·refine ⟨v, junk.drop zs.length, fun e he => hj e (ybi he), ?_⟩
  have e2 : jh (ys ++ junk) (0 + ys.length) zs = ys ++ zs ++ junk.drop zs.length := by
   simp only [jh, Nat.zero_add, List.take_left', List.drop_append, Nat.add_sub_cancel_left]
   rw [yad (by omega)]
   simp
  have c2 : ys.length + zs.length <= ys.length + junk.length := by omega
  have e1 : appA (E σ l) s bytes (vec (σ.next + k) v ys junk) zs = some (.sl (σ.next + k) v 0 (ys.length + zs.length) (ys.length + junk.length), (E σ l).put (σ.next + k) (v, jh (ys ++ junk) (0 + ys.length) zs)) := by
   unfold appA vec
   rw [if_pos hzs]
   simp only [E_at, hl]
   rw [if_pos ⟨trivial, by simp, by omega, hall⟩, if_pos c2]
  rw [e1, e2, wnb hk]
  simp only [Option.map_some, vec, List.length_append, List.length_drop]
  rw [show ys.length + zs.length + (junk.length - zs.length) = ys.length + junk.length by omega]
 ·refine ⟨v + 1, [], Jk.nil, ?_⟩
  have c2 : ¬ ys.length + zs.length <= ys.length + junk.length := by omega
  have e1 : appA (E σ l) s bytes (vec (σ.next + k) v ys junk) zs = some (.sl (σ.next + k) (v + 1) 0 (ys.length + zs.length) (ys.length + zs.length), (E σ l).put (σ.next + k) (v + 1, ((ys ++ junk).drop 0).take ys.length ++ zs)) := by
   unfold appA vec
   rw [if_pos hzs]
   simp only [E_at, hl]
   rw [if_pos ⟨trivial, by simp, by omega, hall⟩, if_neg c2, if_pos hb]
  rw [e1, wnb hk]
  simp [vec]
theorem Go.app {d : Option Nat} {g : Option (Nat × Bool)} {rest : List jd} {l : List (Nat × List (List Ce))} {s bytes k v : Nat} {x y : Opd} {u : Ce} {ys junk zs : List (List Ce)} (hw : wants fr g = some true) (hx : x.ev fr = some (.c (vec (σ.next + k) v ys junk))) (hy : y.ev fr = some (.c u)) (hu : (E σ l).els u = some zs) (hl : l[k]? = some (v, ys ++ junk))
 (hys : ∀ e ∈ ys, e.length = s) (hj : Jk s junk) (hzs : ∀ e ∈ zs, e.length = s) (hb : (ys.length + zs.length) * bytes <= 140737488355328)
 (h : ∀ v' junk', Jk s junk' -> Go P n0 nt rets R (.ops rest :: K) (putA fr d (.c (vec (σ.next + k) v' (ys ++ zs) junk'))) (E σ (l.set k (v', ys ++ zs ++ junk')))) :
 Go P n0 nt rets R (.ops (⟨d, .op (.app s bytes x y), g⟩ :: rest) :: K) fr (E σ l) := by
 obtain ⟨v', junk', h1, h2⟩ := wjt hx hy hu hl hys hj hzs hb
 exact .op hw h2 (h v' junk' h1)
theorem Go.sapp {d : Option Nat} {g : Option (Nat × Bool)} {rest : List (List jd)} {l : List (Nat × List (List Ce))} {s bytes k v : Nat} {x y : Opd} {u : Ce} {ys junk zs : List (List Ce)} (hw : wants fr g = some true) (hx : x.ev fr = some (.c (vec (σ.next + k) v ys junk))) (hy : y.ev fr = some (.c u)) (hu : (E σ l).els u = some zs) (hl : l[k]? = some (v, ys ++ junk))
 (hys : ∀ e ∈ ys, e.length = s) (hj : Jk s junk) (hzs : ∀ e ∈ zs, e.length = s) (hb : (ys.length + zs.length) * bytes <= 140737488355328)
 (h : ∀ v' junk', Jk s junk' -> Go P n0 nt rets R (.segs rest :: K) (putA fr d (.c (vec (σ.next + k) v' (ys ++ zs) junk'))) (E σ (l.set k (v', ys ++ zs ++ junk')))) :
 Go P n0 nt rets R (.segs ([⟨d, .op (.app s bytes x y), g⟩] :: rest) :: K) fr (E σ l) := by
 obtain ⟨v', junk', h1, h2⟩ := wjt hx hy hu hl hys hj hzs hb
 exact .sop hw h2 (h v' junk' h1)
theorem Go.app1 {d : Option Nat} {g : Option (Nat × Bool)} {rest : List jd} {l : List (Nat × List (List Ce))} {s bytes k v : Nat} {x y : Opd} {u : Ce} {ys junk : List (List Ce)} {z : List Ce} (hw : wants fr g = some true) (hx : x.ev fr = some (.c (vec (σ.next + k) v ys junk))) (hy : y.ev fr = some (.c u)) (hu : (E σ l).els u = some [z]) (hl : l[k]? = some (v, ys ++ junk))
 (hys : ∀ e ∈ ys, e.length = s) (hj : Jk s junk) (hzs : z.length = s) (hb : (ys.length + 1) * bytes <= 140737488355328)
 (h : ∀ v' junk', Jk s junk' -> Go P n0 nt rets R (.ops rest :: K) (putA fr d (.c (vec (σ.next + k) v' (ys ++ [z]) junk'))) (E σ (l.set k (v', ys ++ [z] ++ junk')))) :
 Go P n0 nt rets R (.ops (⟨d, .op (.app s bytes x y), g⟩ :: rest) :: K) fr (E σ l) :=
 Go.app hw hx hy hu hl hys hj (by intro e he; simp at he; subst he; exact hzs) (by simpa using hb) h
theorem Go.sapp1 {d : Option Nat} {g : Option (Nat × Bool)} {rest : List (List jd)} {l : List (Nat × List (List Ce))} {s bytes k v : Nat} {x y : Opd} {u : Ce} {ys junk : List (List Ce)} {z : List Ce} (hw : wants fr g = some true) (hx : x.ev fr = some (.c (vec (σ.next + k) v ys junk))) (hy : y.ev fr = some (.c u)) (hu : (E σ l).els u = some [z]) (hl : l[k]? = some (v, ys ++ junk))
 (hys : ∀ e ∈ ys, e.length = s) (hj : Jk s junk) (hzs : z.length = s) (hb : (ys.length + 1) * bytes <= 140737488355328)
 (h : ∀ v' junk', Jk s junk' -> Go P n0 nt rets R (.segs rest :: K) (putA fr d (.c (vec (σ.next + k) v' (ys ++ [z]) junk'))) (E σ (l.set k (v', ys ++ [z] ++ junk')))) :
 Go P n0 nt rets R (.segs ([⟨d, .op (.app s bytes x y), g⟩] :: rest) :: K) fr (E σ l) :=
 Go.sapp hw hx hy hu hl hys hj (by intro e he; simp at he; subst he; exact hzs) (by simpa using hb) h
end

theorem jf {n : Int} (h1 : -9223372036854775808 <= n) (h2 : n <= 9223372036854775807) : IntKind.i64.wrap n = n := by
 rw [IntKind.wrap_i64]
 omega

theorem wb {n : Int} {i : Nat} (h : n = i) (hb : i + 1 <= 34359738368) : IntKind.i64.wrap (n + 1) = ((i + 1 : Nat) : Int) := by
 rw [jf (by omega) (by omega)]
 omega

theorem jiy {n : Int} {i : Nat} (h : n = ((i + 1 : Nat) : Int)) (hb : i + 1 <= 34359738368) : IntKind.i64.wrap (n - 1) = (i : Int) := by
 rw [jf (by omega) (by omega)]
 omega

section
variable {P : Program} {n0 nt : Nat} {rets : List RV} {R : AV -> wa -> Prop} {K : List AK} {fr : Fr} {σ : wa}
def adm (fr : Fr) : List AK -> Option (List AK)
 | .code .skip :: K => some K
 | .code (.seq a b) :: K => some (.code a :: .code b :: K)
 | .code (.region l) :: K => some (.ops l :: K)
 | .code (.draw s) :: K => some (.segs s :: K)
 | .code (.block id c) :: K => some (.code c :: .blk id :: K)
 | .code (.exit id) :: K => jh0 id K
 | .code (.cond c a b) :: K => match c.ev fr with
  | some (.c (.bool true)) => some (.code a :: K)
  | some (.c (.bool false)) => some (.code b :: K)
  | _ => none
 | .blk _ :: K => some K
 | .ops [] :: K => some K
 | .segs [] :: K => some K
 | _ => none
theorem Go.adm {K' : List AK} (h : adm fr K = some K') (g : Go P n0 nt rets R K' fr σ) : Go P n0 nt rets R K fr σ := by
 unfold Am.adm at h
 split at h
 ·injection h with h; subst h; exact .skip g
 ·injection h with h; subst h; exact .seq g
 ·injection h with h; subst h; exact .region g
 ·injection h with h; subst h; exact .draw g
 ·injection h with h; subst h; exact .block g
 ·exact .exit h g
 ·split at h
  ·rename_i hc; injection h with h; subst h; exact .cond true hc g
  ·rename_i hc; injection h with h; subst h; exact .cond false hc g
  ·cases h
 ·injection h with h; subst h; exact .blk g
 ·injection h with h; subst h; exact .nil g
 ·injection h with h; subst h; exact .segs g
 ·cases h
inductive Bq : Bool -> Prop -> Prop -> Prop where
 | d {p : Prop} {i : Decidable p} : Bq (@decide p i) p (¬ p)
 | e {x y : Int} : Bq (x == y) (x = y) (¬ x = y)
 | n {x y : Int} : Bq (x != y) (¬ x = y) (x = y)
 | b {B : Bool} : Bq B (B = true) (B = false)
theorem Bq.yes {B : Bool} {p r : Prop} (q : Bq B p r) (h : B = true) : p := by
 cases q
 ·exact of_decide_eq_true h
 ·exact eq_of_beq h
 ·simpa using h
 ·exact h
theorem Bq.no {B : Bool} {p r : Prop} (q : Bq B p r) (h : B = false) : r := by
 cases q
 ·exact of_decide_eq_false h
 ·simpa using h
 ·simpa using h
 ·exact h
theorem bqt : Bq true (true = true) (true = false) := .b
theorem bqf : Bq false (false = true) (false = false) := .b
theorem Go.iQ {c : Opd} {a b : AC} {B : Bool} {p r : Prop} (h : c.ev fr = some (.c (.bool B))) (q : Bq B p r) (h1 : p -> Go P n0 nt rets R (.code a :: K) fr σ) (h2 : r -> Go P n0 nt rets R (.code b :: K) fr σ) : Go P n0 nt rets R (.code (.cond c a b) :: K) fr σ :=
 .ite B h (fun e => h1 (q.yes e)) (fun e => h2 (q.no e))
theorem Go.gQ {d : Option Nat} {o : AO} {t : Nat} {b : Bool} {rest : List jd} {B : Bool} {p r : Prop} (h : look fr t = some (.c (.bool B))) (q : Bq B p r) (h1 : p -> Go P n0 nt rets R (.ops (⟨d, o, some (t, b)⟩ :: rest) :: K) ((t, .c (.bool true)) :: fr) σ) (h2 : r -> Go P n0 nt rets R (.ops (⟨d, o, some (t, b)⟩ :: rest) :: K) ((t, .c (.bool false)) :: fr) σ) :
 Go P n0 nt rets R (.ops (⟨d, o, some (t, b)⟩ :: rest) :: K) fr σ := .guard B h (fun e => h1 (q.yes e)) (fun e => h2 (q.no e))
theorem Go.sQ {d : Option Nat} {o : AO} {t : Nat} {b : Bool} {rest : List (List jd)} {B : Bool} {p r : Prop} (h : look fr t = some (.c (.bool B))) (q : Bq B p r) (h1 : p -> Go P n0 nt rets R (.segs ([⟨d, o, some (t, b)⟩] :: rest) :: K) ((t, .c (.bool true)) :: fr) σ) (h2 : r -> Go P n0 nt rets R (.segs ([⟨d, o, some (t, b)⟩] :: rest) :: K) ((t, .c (.bool false)) :: fr) σ) :
 Go P n0 nt rets R (.segs ([⟨d, o, some (t, b)⟩] :: rest) :: K) fr σ := .sguard B h (fun e => h1 (q.yes e)) (fun e => h2 (q.no e))
theorem Qg.gQ {d : Option Nat} {o : AO} {t : Nat} {b : Bool} {rest : List jd} {Post : Fr -> Prop} {B : Bool} {p r : Prop} (h : look fr t = some (.c (.bool B))) (q : Bq B p r) (h1 : p -> Qg P σ (⟨d, o, some (t, b)⟩ :: rest) ((t, .c (.bool true)) :: fr) Post) (h2 : r -> Qg P σ (⟨d, o, some (t, b)⟩ :: rest) ((t, .c (.bool false)) :: fr) Post) :
 Qg P σ (⟨d, o, some (t, b)⟩ :: rest) fr Post := .guard B h (fun e => h1 (q.yes e)) (fun e => h2 (q.no e))
theorem Go.v2 {d s i : Nat} {e : Nat} {z cs : List Ce} {w u : AV} {k : Nat} {rest : List jd} (h0 : n0 <= σ.next) (hh : (i != d && i != e && d != e && k != d) = true) (hy : look fr k = some u) (hw : look fr i = some w) (hx : w.cells = some cs) (hl : cs.length = s) (hz : z.length = s)
 (h : Go P n0 nt rets R (.ops rest :: K) ((e, u) :: (d, .c (.fp cs)) :: fr) σ) : Go P n0 nt rets R (.ops (⟨some d, .op (.alloc z), none⟩ :: ⟨some e, .op (.mv (.t k)), none⟩ :: ⟨none, .op (.store s (.t d) (.t i)), none⟩ :: rest) :: K) fr σ := by
 simp only [Bool.and_eq_true, bne_iff_ne] at hh
 exact .var2 h0 hh.1.1.1 hh.1.1.2 hh.1.2 hh.2 hy hw hx hl hz h
theorem Go.v1 {d s i : Nat} {z cs : List Ce} {w : AV} {rest : List jd} (h0 : n0 <= σ.next) (hi : (i != d) = true) (hi : true = true) (hw : look fr i = some w) (hx : w.cells = some cs) (hl : cs.length = s) (hz : z.length = s)
 (h : Go P n0 nt rets R (.ops rest :: K) ((d, .c (.fp cs)) :: fr) σ) : Go P n0 nt rets R (.ops (⟨some d, .op (.alloc z), none⟩ :: ⟨none, .op (.store s (.t d) (.t i)), none⟩ :: rest) :: K) fr σ := by
 rename_i hh
 simp only [bne_iff_ne] at hh
 exact .var h0 hh hw hx hl hz h
theorem aL {l : List (Nat × List (List Ce))} {g : Bool} {s k v i j : Nat} {a : Opd} {es : List (List Ce)} {e : List Ce} {x : AV} (ha : a.ev fr = some (.c (.ptr (σ.next + k) v i j))) (hl : l[k]? = some (v, es)) (he : es[i]? = some e) (hj : Nat.ble j e.length = true) (hx : zb8 g s (e.drop j) = some x) :
 aop (.load g s a) fr (E σ l) = some (x, E σ l) := ja5 ha hl he (yaa hj) hx
theorem aS {l : List (Nat × List (List Ce))} {s k v i j : Nat} {a y : Opd} {es : List (List Ce)} {e cs : List Ce} {x : AV} (ha : a.ev fr = some (.c (.ptr (σ.next + k) v i j))) (hy : y.ev fr = some x) (hc : x.cells = some cs) (hl : l[k]? = some (v, es)) (he : es[i]? = some e) (hs : cs.length = s) (hj : Nat.ble (j + s) e.length = true) :
 aop (.store s a y) fr (E σ l) = some (.un, E σ (l.set k (v, es.set i (jh e j cs)))) := jm ha hy hc hl he hs (yaa hj)
theorem jn0 {a b : Nat} : a <= a + b := ybj a b
end
abbrev yA := @Go.adm
abbrev yB := @Go.qs
abbrev yC := @Qg.nil
abbrev yD := @Go.v2
abbrev yE := @Go.v1
abbrev yF := @jn0
abbrev yH := @Go.sop
abbrev yG := @Go.op
abbrev yI := @Qg.op
abbrev yJ := @wle
abbrev yK := @znc
abbrev yL := @wmd
abbrev yM := @zme
abbrev yN := @Go.no
abbrev yO := @Go.sno
abbrev yP := @Qg.no
abbrev yQ := @Go.pcall
abbrev yR := @Go.spcall
abbrev yS := @Qg.pcall
abbrev yT := @Go.iQ
abbrev yU := @Go.gQ
abbrev yV := @Go.sQ
abbrev yW := @Qg.gQ
abbrev yX := @jks
theorem yaG {p q : Prop} (hq : q) (h : q -> p := by intro h;(repeat1' (first|(apply yA;exact rfl)|apply yB|apply yC|((first|apply yD|apply yE);(first|exact yF|(clear h;assumption));iterate 6 exact rfl)|((first|apply yG|apply yH|apply yI);exact rfl;(first|exact yJ|exact yK rfl rfl|exact yL rfl|exact yM rfl|exact rfl|exact aL rfl rfl rfl rfl rfl|exact aS rfl rfl rfl rfl rfl rfl rfl))|((first|apply yN|apply yO|apply yP);exact rfl)));exact h) : p := h hq
theorem yaN {p q : Prop} (hq : q) (h : q -> p := by intro h;(repeat1' (first|(apply yA;exact rfl)|apply yB|apply yC|((first|apply yG|apply yH|apply yI);exact rfl;(first|exact yJ|exact yK rfl rfl|exact yL rfl|exact yM rfl|exact rfl|exact aL rfl rfl rfl rfl rfl|exact aS rfl rfl rfl rfl rfl rfl rfl))|((first|apply yN|apply yO|apply yP);exact rfl)));exact h) : p := h hq
theorem yaC {P : Program} {f : Nat} {args : List AV} {r : AV} (c : Pure P f args r) {p q : Prop} (hq : q) (h : Pure P f args r -> q -> p := by intro c h;(first|apply yQ|apply yR|apply yS);(iterate 3 exact rfl);exact c;exact h) : p := h c hq
theorem yaS {p a b : Prop} (ha : a) (hb : b) (h : a -> b -> p := by intro a b;(first|apply yT|apply yU|apply yV|apply yW);exact rfl;(first|exact .d|exact .e|exact .n|((fail_if_success exact bqt);(fail_if_success exact bqf);exact .b));exact a;exact b) : p := h ha hb
theorem yaF {p : Prop} (h : False := by omega) : p := h.elim
end Go.Proofs.YtmmgbgpglhbhcaaGreat.Am
namespace Go.Proofs.YtmmgbgpglhbhcaaGreat.Am
open Go.RowKit

theorem Flat.old {x : Ce} (h : Flat x) (n : Nat) : Old n x := by
 cases h with
 | int k m => exact .int k m
 | bool b => exact .bool b
 | str s => exact .str s
 | nilp => exact .nilp
 | nils => exact .nils
 | nilf => exact .nilf
 | emp => exact .emp
 | any => exact .any
theorem Flat.move {C D : Cx} {x : Ce} (h : Flat x) {v : Value} (hx : Rp C x v) : Rp D x v := by
 cases h <;> cases hx <;> constructor <;> assumption
inductive Tidy (n : Nat) : Ce -> Prop where
 | flat {x : Ce} (h : Flat x) : Tidy n x
 | sl (id v i m c : Nat) (h : n <= id) : Tidy n (.sl id v i m c)
 | ptr (id v i j : Nat) (h : n <= id) : Tidy n (.ptr id v i j)
def wat (n : Nat) (l : List (Nat × List (List Ce))) : Prop := ∀ b ∈ l, ∀ e ∈ b.2, ∀ x ∈ e, Tidy n x
inductive Has (σ : wa) : (Nat -> Prop) -> Ce -> Ce -> Prop where
 | c {S : Nat -> Prop} {x : Ce} (h : Flat x) : Has σ S x x
 | nil {S : Nat -> Prop} : Has σ S (.fz []) .nils
 | o {S : Nat -> Prop} (ys : List (List Ce)) (id v s : Nat) (cs junk : List (List Ce)) (T : Nat -> Nat -> Nat -> Prop) (hg : σ.get id = some (v, cs ++ junk)) (hS : S id) (hl : cs.length = ys.length)
  (hs : ∀ i (hi : i < ys.length), (cs[i]'(by omega)).length = ys[i].length) (hall : ∀ e ∈ cs ++ junk, e.length = s) (hj : ∀ e ∈ junk, ∀ x ∈ e, Flat x)
  (hT : ∀ i j a, T i j a -> S a /\ a ≠ id) (hd : ∀ i j i' j' a, T i j a -> T i' j' a -> i = i' /\ j = j')
  (h : ∀ i j (hi : i < ys.length) (hj : j < ys[i].length), Has σ (T i j) ys[i][j] ((cs[i]'(by omega))[j]'(by have := hs i hi; omega))) :
  Has σ S (.fz ys) (.sl id v 0 ys.length (ys.length + junk.length))
theorem Has.mono {σ : wa} {S S' : Nat -> Prop} (hSS : ∀ a, S a -> S' a) {y x : Ce} (h : Has σ S y x) : Has σ S' y x := by
 cases h with
 | c h => exact .c h
 | nil => exact .nil
 | o ys id v s cs junk T hg hS hl hs hall hj hT hd h => exact .o ys id v s cs junk T hg (hSS _ hS) hl hs hall hj (fun i j a ha => ⟨hSS _ (hT i j a ha).1, (hT i j a ha).2⟩) hd h
theorem Has.frame {σ σ' : wa} {S : Nat -> Prop} {y x : Ce} (h : Has σ S y x) : (∀ a, S a -> σ'.get a = σ.get a) -> Has σ' S y x := by
 induction h with
 | c h => exact fun _ => .c h
 | nil => exact fun _ => .nil
 | o ys id v s cs junk T hg hS hl hs hall hj hT hd h ih =>
  intro hf
  exact .o ys id v s cs junk T (by rw [hf _ hS]; exact hg) hS hl hs hall hj hT hd fun i j hi hj => ih i j hi hj fun a ha => hf a (hT i j a ha).1
theorem Has.frz {σ : wa} {S : Nat -> Prop} {y x : Ce} (h : Has σ S y x) {n : Nat} (hn : ∀ a, S a -> n <= a) : Frz σ n x y := by
 induction h with
 | c h => exact .same _ (h.old n)
 | nil => exact .nil
 | o ys id v s cs junk T hg hS hl hs hall hj hT hd h ih =>
  refine .sl id v 0 _ _ (cs ++ junk) ys (hn _ hS) hg (by simp; omega) rfl (fun k hk => ?_) (fun k j hk hj => ?_)
  ·have e : (cs ++ junk)[0 + k]'(by simp; omega) = cs[k]'(by omega) := by
    simp only [Nat.zero_add]
    rw [yap (by omega)]
   rw [e]
   exact (hs k hk).symm
  ·have e : (cs ++ junk)[0 + k]'(by simp; omega) = cs[k]'(by omega) := by
    simp only [Nat.zero_add]
    rw [yap (by omega)]
   simp only [e]
   exact ih k j hk hj fun a ha => hn a (hT k j a ha).1
theorem Has.tidy {σ : wa} {S : Nat -> Prop} {y x : Ce} (h : Has σ S y x) {n : Nat} (hn : ∀ a, S a -> n <= a) : Tidy n x := by
 cases h with
 | c h => exact .flat h
 | nil => exact .flat .nils
 | o ys id v s cs junk T hg hS hl hs hall hj hT hd h => exact .sl _ _ _ _ _ (hn _ hS)
def HasL (σ : wa) (S : Nat -> Prop) (ys xs : List Ce) : Prop :=
 ∃ U : Nat -> Nat -> Prop, xs.length = ys.length /\ (∀ j a, U j a -> S a) /\ (∀ j j' a, U j a -> U j' a -> j = j') /\ ∀ j (hy : j < ys.length) (hx : j < xs.length), Has σ (U j) ys[j] xs[j]
theorem HasL.mono {σ : wa} {S S' : Nat -> Prop} (hSS : ∀ a, S a -> S' a) {ys xs : List Ce} (h : HasL σ S ys xs) : HasL σ S' ys xs :=
 let ⟨U, h1, h2, h3, h4⟩ := h
 ⟨U, h1, fun j a ha => hSS a (h2 j a ha), h3, h4⟩
theorem HasL.frame {σ σ' : wa} {S : Nat -> Prop} {ys xs : List Ce} (h : HasL σ S ys xs) (hf : ∀ a, S a -> σ'.get a = σ.get a) : HasL σ' S ys xs :=
 let ⟨U, h1, h2, h3, h4⟩ := h
 ⟨U, h1, h2, h3, fun j hy hx => (h4 j hy hx).frame fun a ha => hf a (h2 j a ha)⟩
theorem HasL.flat {σ : wa} {S : Nat -> Prop} {xs : List Ce} (h : ∀ x ∈ xs, Flat x) : HasL σ S xs xs :=
 ⟨fun _ _ => False, rfl, fun _ _ h => h.elim, fun _ _ _ h => h.elim, fun j hy hx => .c (h _ (yab hy))⟩

def New (σ : wa) (y : Ce) (r : AV) (σ' : wa) : Prop := ∃ x l, r = .c x /\ σ' = E σ l /\ wat σ.next l /\ Has σ' (fun a => σ.next <= a /\ a < σ'.next) y x
def NewL (σ : wa) (ys : List Ce) (r : AV) (σ' : wa) : Prop := ∃ xs l, r = .agg xs /\ σ' = E σ l /\ wat σ.next l /\ HasL σ' (fun a => σ.next <= a /\ a < σ'.next) ys xs

def jnc (s bytes f : Nat) (z : List Ce) : AFn := ⟨23, [.t 2], (.seq (.region [⟨some 2, .op (.mv (.k (.nils))), none⟩]) (.seq (.region [⟨some 5, .op (.mv (.t 0)), none⟩, ⟨some 6, .op (.len false (.t 5)), none⟩, ⟨some 7, .op (.mkslice s bytes z (.t 6) (.t 6)), none⟩, ⟨some 3, .op (.mv (.t 7)), none⟩]) (.seq (.seq (.region [⟨some 4, .op (.mv (.k (.int .i64 0))), none⟩]) (.block 0 (.loop (.seq (.seq (.region [⟨some 8, .op (.mv (.t 4)), none⟩, ⟨some 9, .op (.mv (.t 0)), none⟩, ⟨some 10, .op (.len false (.t 9)), none⟩, ⟨some 11, .op (.bin .lss (.t 8) (.t 10)), none⟩]) (.cond (.t 11) .skip (.exit 0))) (.seq (.block 1 (.region [⟨some 14, .op (.mv (.t 3)), none⟩, ⟨some 15, .op (.mv (.t 4)), none⟩, ⟨some 16, .op (.mv (.t 0)), none⟩, ⟨some 17, .op (.mv (.t 4)), none⟩, ⟨some 18, .op (.iaddr s (.t 16) (.t 17)), none⟩, ⟨some 19, .op (.load true s (.t 18)), none⟩, ⟨some 20, .call (.f f) [(.t 19)], none⟩, ⟨some 21, .op (.iaddr s (.t 14) (.t 15)), none⟩, ⟨none, .op (.store s (.t 21) (.t 20)), none⟩])) (.region [⟨some 12, .op (.mv (.t 4)), none⟩, ⟨some 13, .op (.bin .add (.t 12) (.k (.int .i64 1))), none⟩, ⟨some 4, .op (.mv (.t 13)), none⟩])))))) (.seq (.region [⟨some 22, .op (.mv (.t 3)), none⟩, ⟨some 2, .op (.mv (.t 22)), none⟩]) .ret))))⟩

theorem wiy {s : Nat} {cs : List Ce} (h : cs.length = s) : zb8 true s cs = some (.agg cs) := by
 simp [zb8, h]
 rw [yan (by omega)]
theorem zfr {fr : Fr} {σ : wa} {s : Nat} {a : Opd} {cs : List Ce} (ha : a.ev fr = some (.c (.fp cs))) (hs : cs.length = s) : aop (.load true s a) fr σ = some (.agg cs, σ) := by
 simp [aop, ha, wa.at_, wiy hs]
theorem wc1 {fr : Fr} {σ : wa} {l : List (Nat × List (List Ce))} {s bytes n : Nat} {z : List Ce} {x y : Opd} (hx : x.ev fr = some (.c (.int .i64 (n : Int)))) (hy : y.ev fr = some (.c (.int .i64 (n : Int)))) (hb : bytes * n <= 140737488355328) :
 aop (.mkslice s bytes z x y) fr (E σ l) = some (.c (.sl (σ.next + l.length) 0 0 n n), E σ (l ++ [(0, List.replicate n z)])) := by
 have : ((bytes : Int) * (n : Int) <= 140737488355328) := by rw [<- Int.natCast_mul]; omega
 simp only [aop, hx, hy]
 rw [if_pos ⟨by omega, by omega, this⟩]
 simp [jmd, wx]
theorem zd6 {s : Nat} {e cs : List Ce} (h1 : e.length = s) (h2 : cs.length = s) : jh e 0 cs = cs := by
 simp only [jh, List.take_zero, List.nil_append, Nat.zero_add]
 rw [yad (by omega)]
 simp

theorem jcx {P : Program} (hm : P.follows .mixedOrders = true) {fz : List Nat} {n s bytes f : Nat} {z : List Ce} (hc : wc P fz n = some (jnc s bytes f z)) {α : Type} (enc : α -> List Ce) (xs : List α) (hx : xs.length <= 34359738368) (hb : bytes <= 4096) (hz : z.length = s) (hs : ∀ a, (enc a).length = s)
 (hzf : ∀ x ∈ z, Flat x) (hf : ∀ a ∈ xs, ∀ σ, Ok P f [.agg (enc a)] σ (NewL σ (enc a))) (σ : wa) : Ok P n [.c (.fz (xs.map enc))] σ (New σ (.fz (xs.map enc))) := by
 refine Ok.run hm hc (yaa rfl) fun hS hA => ?_
 clear hS hA
 have hbn : bytes * xs.length <= 140737488355328 := yah (Nat.mul_le_mul hb hx) (by decide)
 repeat' first|refine yaG ?_|((first|apply yG|apply yH|apply yI);exact rfl;(first|exact wc1 rfl rfl hbn))|exact yaF|refine yaS ?_ ?_<;>intro _
 refine Go.keep [0, 3, 4] (Go.loops (I := fun m fr τ => ∃ i : Nat, ∃ n : Int, ∃ cs l', m = xs.length - i /\ i <= xs.length /\ n = i /\
  (cs.length = xs.length /\ wat σ.next ((0, cs) :: l') /\ (∀ e ∈ cs, e.length = s) /\ ∃ b : Nat -> Nat, b 0 = σ.next + 1 /\ (∀ k, b k <= b (k + 1)) /\ b i <= τ.next /\
    ∀ k (h1 : k < xs.length) (h2 : k < cs.length), k < i -> HasL τ (fun a => b k <= a /\ a < b (k + 1)) (enc xs[k]) cs[k]) /\
  fr = [(0, .c (.fz (xs.map enc))), (3, .c (.sl (σ.next + 0) 0 0 xs.length xs.length)), (4, .c (.int .i64 n))] /\ τ = E σ ((0, cs) :: l')) ?_ _ _ _
  ⟨0, _, List.replicate xs.length z, [], rfl, Nat.zero_le _, rfl, ⟨by simp, fun b hb e he x hx => by simp at hb; subst hb; rw [List.eq_of_mem_replicate he] at hx; exact .flat (hzf x hx), fun e he => by rw [List.eq_of_mem_replicate he]; exact hz, fun _ => σ.next + 1, rfl, fun _ => Nat.le_refl _, by simp [wx], fun k _ _ h => absurd h (by omega)⟩, rfl, rfl⟩)
 rintro m fr τ ⟨i, n, cs, l', rfl, hi, hn, ⟨hcl, htd, hcs, b, hb0, hbm, hbi, hh⟩, rfl, rfl⟩ hrec
 have hmono : ∀ k k', k <= k' -> b k <= b k' := by
  intro k k' h
  induction h with
  | refl => exact yak _
  | step _ ih => exact yah ih (hbm _)
 by_cases hlt : i < xs.length
 ·repeat' first|refine yaG ?_|((first|apply yG|apply yH|apply yI);exact rfl;(first|exact yX rfl rfl hn hlt (hs _)|exact zfr rfl (hs _)))|exact yaF|refine yaS ?_ ?_<;>intro _
  refine Go.call (NewL (E σ ((0, cs) :: l')) (enc xs[i])) rfl rfl rfl (hf _ (yab hlt) _) ?_
  rintro r σ1 ⟨ys', l2, rfl, rfl, htd2, hnew⟩
  rw [E_E] at hnew ⊢
  have hlc : i < cs.length := by omega
  have hyl : ys'.length = s := by
   obtain ⟨U, h1, _⟩ := hnew
   rw [h1, hs]
  have hcl2 : cs[i].length = s := hcs _ (yab hlc)
  have he : cs[0 + i]? = some cs[i] := by simp [hlc]
  have hsp := zd6 hcl2 hyl
  refine .op rfl (z3 (k := 0) (n := i) rfl rfl hn hlt rfl he hcl2) ?_
  refine .op rfl (jm (k := 0) rfl rfl rfl rfl he hyl (by omega)) ?_
  rw [hsp]
  repeat' first|refine yaG ?_|exact yaF|refine yaS ?_ ?_<;>intro _
  have hget : ∀ a, σ.next < a -> (E σ ((0, cs.set (0 + i) ys') :: (l' ++ l2))).get a = (E σ ((0, cs) :: l' ++ l2)).get a := by
   intro a ha
   rw [E_ge (by omega), E_ge (by omega)]
   obtain ⟨q, hq⟩ : ∃ q, a - σ.next = q + 1 := ⟨a - σ.next - 1, by omega⟩
   rw [hq]
   rfl
  have hN : (E σ ((0, cs) :: l' ++ l2)).next = σ.next + (l'.length + l2.length + 1) := by simp [wx]
  have hN1 : (E σ ((0, cs) :: l')).next = σ.next + (l'.length + 1) := by simp [wx]
  refine Go.keep [0, 3, 4] (hrec _ _ _ (by omega) ⟨i + 1, _, cs.set (0 + i) ys', l' ++ l2, rfl, hlt, wb hn (by omega), ⟨by simp [hcl], fun b hb e he x hx => ?_, fun e he' => ?_, fun k => if k <= i then b k else σ.next + (l'.length + l2.length + 1), by simp [hb0], fun k => ?_, ?_, fun k h1 h2 hk => ?_⟩, rfl, rfl⟩)
  ·rcases List.mem_cons.1 hb with rfl | hb
   ·rcases ybb he with h | h
    ·exact htd (0, cs) (by simp) e h x hx
    ·subst h
     obtain ⟨U, h1, h2, h3, h4⟩ := hnew
     obtain ⟨j, hj, rfl⟩ := List.mem_iff_getElem.1 hx
     refine (h4 j (by omega) hj).tidy fun a ha => ?_
     have := h2 j a ha
     omega
   ·rcases List.mem_append.1 hb with h | h
    ·exact htd b (by simp [h]) e he x hx
    ·cases htd2 b h e he x hx with
     | flat h => exact .flat h
     | sl id v i m c h => exact .sl _ _ _ _ _ (by omega)
     | ptr id v i j h => exact .ptr _ _ _ _ (by omega)
  ·rcases ybb he' with h | h
   ·exact hcs _ h
   ·rw [h]; exact hyl
  ·dsimp only
   by_cases h1 : k + 1 <= i
   ·rw [if_pos (by omega), if_pos h1]; exact hbm k
   ·rw [if_neg h1]
    split
    ·have := hmono k i (by omega)
     omega
    ·omega
  ·dsimp only
   rw [if_neg (by omega)]
   show _ <= (E σ ((0, cs.set (0 + i) ys') :: (l' ++ l2))).next
   simp [wx]
  ·dsimp only
   by_cases e : k = i
   ·subst e
    have e1 : (cs.set (0 + k) ys')[k] = ys' := by simp
    rw [e1, if_pos (yak _), if_neg (by omega)]
    refine (hnew.frame fun a ha => hget a (by omega)).mono fun a ha => ?_
    omega
   ·have e1 : (cs.set (0 + i) ys')[k] = cs[k]'(by omega) := by
     simp only [Nat.zero_add]
     rw [ybd (Ne.symm e)]
    rw [e1, if_pos (by omega), if_pos (by omega)]
    have hk0 := hmono 0 k (by omega)
    have hki := hmono (k + 1) i (by omega)
    refine (hh k h1 (by omega) (by omega)).frame fun a ha => ?_
    show (E σ ((0, cs.set (0 + i) ys') :: (l' ++ l2))).get a = _
    rw [hget a (by omega), E_ge (by omega), E_ge (by omega), List.getElem?_append_left (by simp; omega)]
 ·repeat' first|refine yaG ?_|exact yaF|refine yaS ?_ ?_<;>intro _
  have hii : i = xs.length := by omega
  subst hii
  have hch : ∀ k, ∃ U : Nat -> Nat -> Prop, ∀ (h1 : k < xs.length) (h2 : k < cs.length), (cs[k].length = (enc xs[k]).length /\ (∀ j a, U j a -> b k <= a /\ a < b (k + 1)) /\ (∀ j j' a, U j a -> U j' a -> j = j') /\ ∀ j (hy : j < (enc xs[k]).length) (hx : j < cs[k].length), Has (E σ ((0, cs) :: l')) (U j) (enc xs[k])[j] cs[k][j]) := by
   intro k
   by_cases h1 : k < xs.length
   ·obtain ⟨U, hU⟩ := hh k h1 (by omega) h1
    exact ⟨U, fun _ _ => hU⟩
   ·exact ⟨fun _ _ => False, fun h => absurd h h1⟩
  obtain ⟨U, hU⟩ := Classical.axiomOfChoice hch
  refine .ret rfl ⟨.sl (σ.next + 0) 0 0 xs.length xs.length, (0, cs) :: l', rfl, rfl, htd, ?_⟩
  have hb1 : ∀ k, σ.next + 1 <= b k := fun k => by have := hmono 0 k (by omega); omega
  have := Has.o (σ := E σ ((0, cs) :: l')) (S := fun a => σ.next <= a /\ a < (E σ ((0, cs) :: l')).next) (xs.map enc) (σ.next + 0) 0 s cs [] (fun k j a => k < xs.length /\ U k j a) (by rw [E_at]; simp) (by simp [wx]) (by simp [hcl])
   (fun k hk => by
     have h1 : k < xs.length := by simpa using hk
     rw [(hU k h1 (by omega)).1]
     simp) (fun e he => hcs e (by simpa using he)) (fun e he => by simp at he) (fun k j a ha => by
     have h3 := (hU k ha.1 (by omega)).2.1 j a ha.2
     have h4 := hb1 k
     have h5 := hmono (k + 1) xs.length (by omega)
     simp only [Nat.add_zero]
     omega)
   (fun k j k' j' a ha ha' => by
     have h3 := (hU k ha.1 (by omega)).2.1 j a ha.2
     have h4 := (hU k' ha'.1 (by omega)).2.1 j' a ha'.2
     have hkk : k = k' := by
      rcases Nat.lt_trichotomy k k' with h | h | h
      ·have := hmono (k + 1) k' h
       omega
      ·exact h
      ·have := hmono (k' + 1) k h
       omega
     subst hkk
     exact ⟨rfl, (hU k ha.1 (by omega)).2.2.1 j j' a ha.2 ha'.2⟩)
   (fun k j hk hj => by
     have h1 : k < xs.length := by simpa using hk
     have h2 : j < (enc xs[k]).length := by simpa using hj
     have h3 := (hU k h1 (by omega)).1
     have h4 := (hU k h1 (by omega)).2.2.2 j h2 (by omega)
     have e : (xs.map enc)[k] = enc xs[k] := by simp
     simp only [e]
     exact h4.mono fun a ha => ⟨h1, ha⟩)
  simpa using this
end Go.Proofs.YtmmgbgpglhbhcaaGreat.Am
namespace Go.Proofs.YtmmgbgpglhbhcaaGreat.Am
open Go.RowKit

theorem Tidy.move {C D : Cx} {n : Nat} {x : Ce} (h : Tidy n x) (hw : D.w = C.w) (hF : ∀ id v, n <= id -> C.F id v -> D.F id v /\ D.μ id v = C.μ id v) {v : Value} (hx : Rp C x v) : Rp D x v := by
 cases h with
 | flat h => exact h.move hx
 | sl id v i m c h =>
  cases hx with
  | sl0 _ _ _ a hf => exact .sl0 _ _ _ _ (hF _ _ h hf).1
  | sl _ _ _ _ _ cap hf hn hc hv hk =>
   obtain ⟨h1, h2⟩ := hF _ _ h hf
   have := Rp.sl (C := D) id v i m c cap h1 hn hc (by rw [h2]; exact hv) (by rw [h2, hw]; exact hk)
   rw [h2] at this
   exact this
 | ptr id v i j h =>
  cases hx with
  | ptr _ _ _ _ hf hv =>
   obtain ⟨h1, h2⟩ := hF _ _ h hf
   have := Rp.ptr (C := D) id v i j h1 (by rw [h2]; exact hv)
   rw [h2] at this
   exact this
theorem wks {C D : Cx} {n : Nat} (hw : D.w = C.w) (hF : ∀ id v, n <= id -> C.F id v -> D.F id v /\ D.μ id v = C.μ id v) {x : AV} {v : Value} (hx : RpV C x v) : (∀ y ∈ x.all, Tidy n y) -> RpV D x v := by
 induction hx with
 | c h => exact fun ht => .c ((ht _ (by simp [AV.all])).move hw hF h)
 | agg hl h => exact fun ht => .agg hl fun i hi => (ht _ (by simp [AV.all])).move hw hF (h i hi)
 | @tup xs vs hl h ih =>
  refine fun ht => .tup hl fun i hi => ih i hi fun y hy => ht y ?_
  have : ∀ (vs : List AV) (i : Nat) (hi : i < vs.length), y ∈ vs[i].all -> y ∈ AV.all.allL vs := by
   intro vs
   induction vs with
   | nil => intro i hi; simp at hi
   | cons v r ih =>
    intro i hi hy
    simp only [AV.all.allL, List.mem_append]
    cases i with
    | zero => exact .inl hy
    | succ i => exact .inr (ih i (by simpa using hi) hy)
  simp only [AV.all]
  exact this xs i hi hy
 | un v => exact fun _ => .un v

theorem Ok.lent {P : Program} {f : Nat} {args args' : List AV} {σ : wa} {Q : AV -> wa -> Prop} (h : Ok P f args' (wa.none σ.next) Q) (hl : args'.length = args.length)
 (hf : ∀ i (hi : i < args.length), FrzV σ 0 args[i] (args'[i]'(by omega)) \/ args[i] = args'[i]'(by omega))
 (hq : ∀ r τ, Q r τ -> ∃ l, τ = E (wa.none σ.next) l /\ wat σ.next l /\ ∀ y ∈ r.all, Tidy σ.next y) :
 Ok P f args σ (fun r σ' => ∃ l, σ' = E σ l /\ Q r (E (wa.none σ.next) l)) := by
 refine ⟨h.1, fun C cargs hR ⟨hal, ha⟩ => ?_⟩
 let C' : Cx := ⟨C.μ, C.F, fun _ => False, C.w⟩
 have hR' : Rl C' (wa.none σ.next) := ⟨hR.F, fun id v es hg => by simp [wa.none] at hg, fun b => ⟨fun h => h.elim, fun ⟨id, v, es, hg, _⟩ => by simp [wa.none] at hg⟩, fun id v es id' v' es' hg => by simp [wa.none] at hg, fun id v es hg => by simp [wa.none] at hg⟩
 have hle : C.Le C' := ⟨fun _ _ h => ⟨h, rfl⟩, rfl, rfl, rfl, yak _, fun _ _ _ => rfl, fun b cs t h => ⟨cs, h, rfl⟩, fun _ _ h => h.elim⟩
 refine (h.2 C' cargs hR' ⟨by omega, fun i hi => ?_⟩).mono ?_
 ·rcases hf i (by omega) with h | h
  ·exact h.sound (D := C') hR rfl rfl (fun id v _ hlt => absurd hlt (by omega)) (fun b h => h.elim) (fun _ _ _ _ _ _ h => h) (ha i (by omega))
  ·rw [<- h]; exact (ha i (by omega)).mono hle
 ·rintro e w' ⟨D', τ, r, v, rfl, rfl, hQ, hRD, hx, hle'⟩
  obtain ⟨l, rfl, ht, htr⟩ := hq r τ hQ
  let μ := fun id v => if id < σ.next then C.μ id v else D'.μ id v
  let F := fun id v => if id < σ.next then C.F id v else D'.F id v
  let D : Cx := ⟨μ, F, Mof μ (E σ l), D'.w⟩
  have newb : ∀ id v es, σ.next <= id -> (E (wa.none σ.next) l).get id = some (v, es) -> es ≠ [] -> ¬ (D'.μ id v).b < C.w.heap.size := by
   intro id v es hn hg hne hlt
   exact hle'.M _ hlt ((hRD.M _).2 ⟨id, v, es, hg, hne, rfl⟩)
  have getn : ∀ id, σ.next <= id -> (E σ l).get id = (E (wa.none σ.next) l).get id := by
   intro id hn
   rw [E_ge (by omega), E_ge (by show ¬ id < σ.next; omega)]
   rfl
  have oldb : ∀ id v es, σ.get id = some (v, es) -> es ≠ [] -> (C.μ id v).b < C.w.heap.size := by
   intro id v es hg hne
   obtain ⟨cs, t, hb, _⟩ := hR.blk id v es hg hne
   exact lt_of_block hb
  have hFo : ∀ id v, C.F id v -> D.F id v /\ D.μ id v = C.μ id v := by
   intro id v hf
   have := hR.F id v hf
   exact ⟨by show (if id < σ.next then C.F id v else D'.F id v); rw [if_pos this]; exact hf, if_pos this⟩
  have hFn : ∀ id v, σ.next <= id -> D'.F id v -> D.F id v /\ D.μ id v = D'.μ id v := by
   intro id v hn hf
   exact ⟨by show (if id < σ.next then C.F id v else D'.F id v); rw [if_neg (Nat.not_lt.2 hn)]; exact hf, if_neg (Nat.not_lt.2 hn)⟩
  have hLe : C.Le D := by
   refine ⟨hFo, hle'.os, hle'.tape, hle'.output, hle'.size, fun b hb _ => hle'.keep b hb (fun h => h), hle'.shp, fun b hb hm => ?_⟩
   obtain ⟨id, v1, es, hg, hne, hbb⟩ := hm
   by_cases hn : id < σ.next
   ·rw [E_lt hn] at hg
    have : μ id v1 = C.μ id v1 := if_pos hn
    rw [this] at hbb
    exact (hR.M b).2 ⟨id, v1, es, hg, hne, hbb⟩
   ·rw [getn id (by omega)] at hg
    have : μ id v1 = D'.μ id v1 := if_neg hn
    rw [this] at hbb
    exact absurd hb (by rw [<- hbb]; exact newb id v1 es (by omega) hg hne)
  refine ⟨D, E σ l, r, v, rfl, rfl, ⟨l, rfl, hQ⟩, ⟨fun id v hf => ?_, fun id v1 es hg => ?_, fun b => Iff.rfl, fun id v1 es id' v1' es' hg hne hg' hne' hbb => ?_, fun id v1 es hg hne => ?_⟩, wks (C := D') (D := D) rfl hFn hx htr, hLe⟩
  ·simp only [D, F] at hf
   split at hf
   ·rw [wx]; omega
   ·exact hRD.F id v hf
  ·by_cases hn : id < σ.next
   ·rw [E_lt hn] at hg
    obtain ⟨a1, a2, a3⟩ := hR.live id v1 es hg
    simp only [D, F, μ, if_pos hn]
    exact ⟨a1, a2, a3⟩
   ·rw [getn id (by omega)] at hg
    obtain ⟨a1, a2, a3⟩ := hRD.live id v1 es hg
    simp only [D, F, μ, if_neg hn]
    exact ⟨a1, a2, a3⟩
  ·simp only [D, μ] at hbb
   by_cases hn : id < σ.next
   ·rw [E_lt hn] at hg
    rw [if_pos hn] at hbb
    by_cases hn' : id' < σ.next
    ·rw [E_lt hn'] at hg'
     rw [if_pos hn'] at hbb
     exact hR.inj id v1 es id' v1' es' hg hne hg' hne' hbb
    ·rw [getn id' (by omega)] at hg'
     rw [if_neg hn'] at hbb
     exact absurd (oldb id v1 es hg hne) (by rw [hbb]; exact newb id' v1' es' (by omega) hg' hne')
   ·rw [getn id (by omega)] at hg
    rw [if_neg hn] at hbb
    by_cases hn' : id' < σ.next
    ·rw [E_lt hn'] at hg'
     rw [if_pos hn'] at hbb
     exact absurd (oldb id' v1' es' hg' hne') (by rw [<- hbb]; exact newb id v1 es (by omega) hg hne)
    ·rw [getn id' (by omega)] at hg'
     rw [if_neg hn'] at hbb
     exact hRD.inj id v1 es id' v1' es' hg hne hg' hne' hbb
  ·by_cases hn : id < σ.next
   ·rw [E_lt hn] at hg
    have e : D.μ id v1 = C.μ id v1 := if_pos hn
    obtain ⟨cs, t, hb, hz, hs, hc⟩ := hR.blk id v1 es hg hne
    rw [e]
    refine ⟨cs, t, ?_, hz, hs, fun i j hi hj => ?_⟩
    ·show D'.w.heap[_]? = _
     rw [hle'.keep _ (lt_of_block hb) (fun h => h)]
     exact hb
    ·obtain ⟨u, h1, h2⟩ := hc i j hi hj
     exact ⟨u, h1, h2.mono hLe⟩
   ·have hg2 := hg
    rw [getn id (by omega)] at hg
    have e : D.μ id v1 = D'.μ id v1 := if_neg hn
    obtain ⟨cs, t, hb, hz, hs, hc⟩ := hRD.blk id v1 es hg hne
    rw [e]
    refine ⟨cs, t, hb, hz, hs, fun i j hi hj => ?_⟩
    obtain ⟨u, h1, h2⟩ := hc i j hi hj
    refine ⟨u, h1, Tidy.move (n := σ.next) (C := D') (D := D) ?_ rfl hFn h2⟩
    rw [E_ge hn] at hg2
    exact ht _ (List.mem_of_getElem? hg2) _ (yab hi) _ (yab hj)

theorem Ok.old' {P : Program} {f : Nat} {args : List AV} {σ : wa} {Q Q' : AV -> wa -> Prop} (h1 : Ok P f args σ Q') (hk : OldS σ -> (∀ x ∈ args, ∀ y ∈ x.all, Old σ.next y) -> Ok P f args σ Q) : Ok P f args σ Q := by
 refine ⟨h1.1, fun C cargs hR ha => ?_⟩
 obtain ⟨hl, hv⟩ := ha
 refine (hk hR.old fun x hx y hy => ?_).2 C cargs hR ⟨hl, hv⟩
 obtain ⟨i, hi, rfl⟩ := List.mem_iff_getElem.1 hx
 exact (hv i hi).old hR.F y hy
theorem New.pure {P : Program} {f : Nat} {args : List AV} {y : Ce} (h : ∀ σ, Ok P f args σ (New σ y)) : Pure P f args (.c y) := by
 constructor
 intro σ
 refine .old' (h σ) fun hS ha => Ok.pure (h σ) (.c y) (fun id y hy => (hS id y hy).1) ?_
 rintro r σ1 ⟨x, l, rfl, rfl, _, hh⟩
 exact ⟨fun id y hy => by rw [E_lt (hS id y hy).1]; exact hy, .c (hh.frz fun a ha => ha.1)⟩
theorem NewL.pure {P : Program} {f : Nat} {args : List AV} {ys : List Ce} (h : ∀ σ, Ok P f args σ (NewL σ ys)) : Pure P f args (.agg ys) := by
 constructor
 intro σ
 refine .old' (h σ) fun hS ha => Ok.pure (h σ) (.agg ys) (fun id y hy => (hS id y hy).1) ?_
 rintro r σ1 ⟨xs, l, rfl, rfl, _, U, h1, h2, h3, h4⟩
 exact ⟨fun id y hy => by rw [E_lt (hS id y hy).1]; exact hy, .agg h1.symm fun i hi => (h4 i (by omega) hi).frz fun a ha => (h2 i a ha).1⟩
theorem Made.new {σ : wa} {s : Nat} {ys : List (List Ce)} (hy : ∀ e ∈ ys, e.length = s /\ ∀ x ∈ e, Flat x) {r : AV} {σ' : wa} (h : Made σ s ys r σ') : New σ (.fz ys) r σ' := by
 obtain ⟨v, junk, hj, rfl, rfl⟩ := h
 have hall : ∀ e ∈ ys ++ junk, e.length = s /\ ∀ x ∈ e, Flat x := by
  intro e he
  rcases List.mem_append.1 he with h | h
  ·exact hy e h
  ·exact hj e h
 refine ⟨_, _, rfl, rfl, ?_, ?_⟩
 ·intro b hb e he x hx
  simp at hb
  subst hb
  exact .flat ((hall e he).2 x hx)
 ·exact .o ys (σ.next + 0) v s ys junk (fun _ _ _ => False) (by rw [E_at]; rfl) (by simp [wx]) rfl (fun i hi => rfl) (fun e he => (hall e he).1) (fun e he => (hj e he).2) (fun _ _ _ h => h.elim) (fun _ _ _ _ _ h => h.elim)
   fun i j hi hj => .c ((hy _ (yab hi)).2 _ (yab hj))
theorem zg3.new {P : Program} {f : Nat} {args : List AV} {s : Nat} {ys : List (List Ce)} (hy : ∀ e ∈ ys, e.length = s /\ ∀ x ∈ e, Flat x) (h : zg3 P f args s ys) (σ : wa) : Ok P f args σ (New σ (.fz ys)) :=
 (h.at_ σ).mono fun r σ' hq => hq.new hy

end Go.Proofs.YtmmgbgpglhbhcaaGreat.Am
namespace Go.Proofs.YtmmgbgpglhbhcaaGreat.Am
open Go.RowKit

def wbh {α : Type} (g : α -> Int -> Int) : List α -> Int -> Int
 | [], left => left
 | x :: r, left => if g x left < 0 then -1 else wbh g r (g x left)
def szL {α : Type} (g : α -> Int -> Int) (xs : List α) (left : Int) : Int := if left - xs.length < 0 then -1 else wbh g xs (left - xs.length)
theorem ziz {α : Type} {g : α -> Int -> Int} (hg : ∀ a l, 0 <= l -> g a l <= l) : ∀ (xs : List α) (left : Int), 0 <= left -> wbh g xs left <= left
 | [], left, h => ybf _
 | x :: r, left, h => by
  simp only [wbh]
  have := hg x left h
  split
  ·omega
  ·have := ziz hg r (g x left) (by omega)
   omega
theorem jaf {α : Type} {g : α -> Int -> Int} (hg : ∀ a l, 0 <= l -> g a l <= l) (xs : List α) (left : Int) (h : 0 <= left) : szL g xs left <= left := by
 simp only [szL]
 split
 ·omega
 ·have := ziz hg xs (left - xs.length) (by omega)
  omega
theorem zhp {α : Type} {g : α -> Int -> Int} (hg : ∀ a l, 0 <= l -> g a l <= l) : ∀ {xs : List α} {left : Int}, 0 <= left -> 0 <= wbh g xs left -> ∀ x ∈ xs, ∃ l, 0 <= l /\ l <= left /\ 0 <= g x l
 | y :: r, left, h, hs, x, hx => by
  simp only [wbh] at hs
  split at hs
  ·omega
  ·rename_i h0
   have h1 := hg y left h
   rcases List.mem_cons.1 hx with rfl | hx
   ·exact ⟨left, h, ybf _, by omega⟩
   ·obtain ⟨l, a, b, c⟩ := zhp hg (by omega) hs x hx
    exact ⟨l, a, by omega, c⟩
theorem wnc {α : Type} {g : α -> Int -> Int} (hg : ∀ a l, 0 <= l -> g a l <= l) {xs : List α} {left : Int} (h : 0 <= left) (hs : 0 <= szL g xs left) : (xs.length : Int) <= left /\ ∀ x ∈ xs, ∃ l, 0 <= l /\ l <= left /\ 0 <= g x l := by
 simp only [szL] at hs
 split at hs
 ·omega
 ·refine ⟨by omega, fun x hx => ?_⟩
  obtain ⟨l, a, b, c⟩ := zhp hg (by omega) hs x hx
  exact ⟨l, a, by omega, c⟩

def znd (s f : Nat) : AFn := ⟨27, [.t 4], (.seq (.region [⟨some 4, .op (.mv (.k (.int .i64 0))), none⟩]) (.seq (.region [⟨some 6, .op (.mv (.t 1)), none⟩, ⟨some 7, .op (.mv (.t 0)), none⟩, ⟨some 8, .op (.len false (.t 7)), none⟩, ⟨some 9, .op (.bin .sub (.t 6) (.t 8)), none⟩, ⟨some 1, .op (.mv (.t 9)), none⟩]) (.seq (.seq (.region [⟨some 10, .op (.mv (.t 1)), none⟩, ⟨some 11, .op (.bin .lss (.t 10) (.k (.int .i64 0))), none⟩]) (.cond (.t 11) (.seq (.region [⟨some 4, .op (.mv (.k (.int .i64 (-1)))), none⟩]) .ret) .skip)) (.seq (.seq (.region [⟨some 5, .op (.mv (.k (.int .i64 0))), none⟩]) (.block 0 (.loop (.seq (.seq (.region [⟨some 12, .op (.mv (.t 5)), none⟩, ⟨some 13, .op (.mv (.t 0)), none⟩, ⟨some 14, .op (.len false (.t 13)), none⟩, ⟨some 15, .op (.bin .lss (.t 12) (.t 14)), none⟩]) (.cond (.t 15) .skip (.exit 0))) (.seq (.block 1 (.seq (.region [⟨some 18, .op (.mv (.t 0)), none⟩, ⟨some 19, .op (.mv (.t 5)), none⟩, ⟨some 20, .op (.iaddr s (.t 18) (.t 19)), none⟩, ⟨some 21, .op (.load true s (.t 20)), none⟩, ⟨some 22, .op (.mv (.t 1)), none⟩, ⟨some 23, .call (.f f) [(.t 21), (.t 22)], none⟩, ⟨some 1, .op (.mv (.t 23)), none⟩]) (.seq (.region [⟨some 24, .op (.mv (.t 1)), none⟩, ⟨some 25, .op (.bin .lss (.t 24) (.k (.int .i64 0))), none⟩]) (.cond (.t 25) (.seq (.region [⟨some 4, .op (.mv (.k (.int .i64 (-1)))), none⟩]) .ret) .skip)))) (.region [⟨some 16, .op (.mv (.t 5)), none⟩, ⟨some 17, .op (.bin .add (.t 16) (.k (.int .i64 1))), none⟩, ⟨some 5, .op (.mv (.t 17)), none⟩])))))) (.seq (.region [⟨some 26, .op (.mv (.t 1)), none⟩, ⟨some 4, .op (.mv (.t 26)), none⟩]) .ret)))))⟩
theorem wcx {P : Program} (hm : P.follows .mixedOrders = true) {fz : List Nat} {n s f : Nat} (hc : wc P fz n = some (znd s f)) {α : Type} (enc : α -> List Ce) (g : α -> Int -> Int) (xs : List α) (left : Int) (hx : xs.length <= 1125899906842624) (h0 : 0 <= left) (h1 : left <= 34359738368) (hs : ∀ a, (enc a).length = s)
 (hg : ∀ a l, 0 <= l -> g a l <= l) (hf : ∀ a ∈ xs, ∀ l, 0 <= l -> l <= left -> Pure P f [.agg (enc a), .c (.int .i64 l)] (.c (.int .i64 (g a l)))) : Pure P n [.c (.fz (xs.map enc)), .c (.int .i64 left)] (.c (.int .i64 (szL g xs left))) := by
 refine Pure.run hm hc (yaa rfl) fun σ hS hA => ?_
 clear hS hA
 have hw : IntKind.i64.wrap (left - xs.length) = left - xs.length := jf (by omega) (by omega)
 repeat' first|refine yaG ?_|exact yaF|refine yaS ?_ ?_<;>intro _
 ·refine .ret rfl (.int ?_)
  rename_i h
  rw [hw] at h
  rw [szL, if_pos h]
 rename_i hnn
 rw [hw] at hnn
 have hsz : szL g xs left = wbh g xs (left - xs.length) := by rw [szL, if_neg hnn]
 rw [hsz, hw]
 refine Go.keep [0, 1, 5] (Go.loops (I := fun m fr τ => ∃ i : Nat, ∃ n l : Int, m = xs.length - i /\ i <= xs.length /\ n = i /\ (0 <= l /\ l <= left /\ wbh g xs (left - xs.length) = wbh g (xs.drop i) l) /\
  fr = [(0, .c (.fz (xs.map enc))), (1, .c (.int .i64 l)), (5, .c (.int .i64 n))] /\ τ = E σ []) ?_ _ _ _ ⟨0, _, _, rfl, yae _, rfl, ⟨by omega, by omega, rfl⟩, rfl, rfl⟩)
 rintro m fr τ ⟨i, n, l, rfl, hi, hn, ⟨hl0, hl1, hsl⟩, rfl, rfl⟩ hrec
 by_cases hlt : i < xs.length
 ·have hp := hf _ (yab hlt) l hl0 hl1
  have hgl := hg xs[i] l hl0
  repeat' first|refine yaG ?_|((first|apply yG|apply yH|apply yI);exact rfl;(first|exact yX rfl rfl hn hlt (hs _)|exact zfr rfl (hs _)))|((first|apply Go.pcallI|apply Go.spcallI|apply Qg.pcallI);(iterate 3 exact rfl);exact hp;intro _ _)|exact yaF|refine yaS ?_ ?_<;>intro _
  ·refine .ret rfl (.int ?_)
   rw [hsl, yac hlt, wbh, if_pos (by omega)]
  ·refine Go.keep [0, 1, 5] (hrec _ _ _ (by omega) ⟨i + 1, _, _, rfl, hlt, wb hn (by omega), ⟨?_, ?_, ?_⟩, rfl, rfl⟩)
   ·omega
   ·omega
   ·rw [hsl, yac hlt, wbh, if_neg (by omega)]
    congr 1
 ·repeat' first|refine yaG ?_|exact yaF|refine yaS ?_ ?_<;>intro _
  refine .ret rfl (.int ?_)
  rw [hsl, yad (by omega)]
  rfl

def jnd (s f : Nat) : AFn := ⟨27, [.t 4], (.seq (.region [⟨some 4, .op (.mv (.k (.bool false))), none⟩]) (.seq (.seq (.region [⟨some 6, .op (.mv (.t 0)), none⟩, ⟨some 7, .op (.len false (.t 6)), none⟩, ⟨some 8, .op (.mv (.t 1)), none⟩, ⟨some 9, .op (.len false (.t 8)), none⟩, ⟨some 10, .op (.bin .neq (.t 7) (.t 9)), none⟩]) (.cond (.t 10) (.seq (.region [⟨some 4, .op (.mv (.k (.bool false))), none⟩]) .ret) .skip)) (.seq (.seq (.region [⟨some 5, .op (.mv (.k (.int .i64 0))), none⟩]) (.block 0 (.loop (.seq (.seq (.region [⟨some 11, .op (.mv (.t 5)), none⟩, ⟨some 12, .op (.mv (.t 0)), none⟩, ⟨some 13, .op (.len false (.t 12)), none⟩, ⟨some 14, .op (.bin .lss (.t 11) (.t 13)), none⟩]) (.cond (.t 14) .skip (.exit 0))) (.seq (.block 1 (.seq (.draw [[⟨some 17, .op (.mv (.t 0)), none⟩, ⟨some 18, .op (.mv (.t 5)), none⟩, ⟨some 19, .op (.iaddr s (.t 17) (.t 18)), none⟩, ⟨some 20, .op (.load true s (.t 19)), none⟩, ⟨some 21, .op (.mv (.t 1)), none⟩, ⟨some 22, .op (.mv (.t 5)), none⟩, ⟨some 23, .op (.iaddr s (.t 21) (.t 22)), none⟩, ⟨some 24, .op (.load true s (.t 23)), none⟩], [⟨some 25, .call (.f f) [(.t 20), (.t 24)], none⟩], [⟨some 26, .op (.un .not (.t 25)), none⟩]]) (.cond (.t 26) (.seq (.region [⟨some 4, .op (.mv (.k (.bool false))), none⟩]) .ret) .skip))) (.region [⟨some 15, .op (.mv (.t 5)), none⟩, ⟨some 16, .op (.bin .add (.t 15) (.k (.int .i64 1))), none⟩, ⟨some 5, .op (.mv (.t 16)), none⟩])))))) (.seq (.region [⟨some 4, .op (.mv (.k (.bool true))), none⟩]) .ret))))⟩
theorem wdf {P : Program} (hm : P.follows .mixedOrders = true) {fz : List Nat} {n s f : Nat} (hc : wc P fz n = some (jnd s f)) {α : Type} [DecidableEq α] (enc : α -> List Ce) (xs ys : List α) (hx : xs.length <= 34359738368) (hs : ∀ a, (enc a).length = s)
 (hf : ∀ a ∈ xs, ∀ b, Pure P f [.agg (enc a), .agg (enc b)] (.c (.bool (a == b)))) : Pure P n [.c (.fz (xs.map enc)), .c (.fz (ys.map enc))] (.c (.bool (xs == ys))) := by
 refine Pure.run hm hc (yaa rfl) fun σ hS hA => ?_
 clear hS hA
 repeat' first|refine yaG ?_|exact yaF|refine yaS ?_ ?_<;>intro _
 ·refine .ret rfl (.bool ?_)
  rw [eq_comm, beq_eq_false_iff_ne]
  rintro rfl
  simp at *
 refine Go.keep [0, 1, 5] (Go.loops (I := fun m fr τ => ∃ i : Nat, ∃ n : Int, m = xs.length - i /\ i <= xs.length /\ n = i /\ (xs.length = ys.length /\ (xs == ys) = (xs.drop i == ys.drop i)) /\
  fr = [(0, .c (.fz (xs.map enc))), (1, .c (.fz (ys.map enc))), (5, .c (.int .i64 n))] /\ τ = E σ []) ?_ _ _ _ ⟨0, _, rfl, yae _, rfl, ⟨by omega, rfl⟩, rfl, rfl⟩)
 rintro m fr τ ⟨i, n, rfl, hi, hn, ⟨hl, hsl⟩, rfl, rfl⟩ hrec
 by_cases hlt : i < xs.length
 ·have hlt2 : i < ys.length := by omega
  have hp := hf _ (yab hlt) ys[i]
  repeat' first|refine yaG ?_|((first|apply yG|apply yH|apply yI);exact rfl;(first|exact yX rfl rfl hn hlt (hs _)|exact yX rfl rfl hn hlt2 (hs _)|exact zfr rfl (hs _)))|((first|apply Go.pcallB|apply Go.spcallB|apply Qg.pcallB);(iterate 3 exact rfl);exact hp;intro _ _)|exact yaF|refine yaS ?_ ?_<;>intro _
  ·refine .ret rfl (.bool ?_)
   rw [hsl, yac hlt, yac hlt2, List.cons_beq_cons]
   clear hrec
   simp_all
  ·refine Go.keep [0, 1, 5] (hrec _ _ _ (by omega) ⟨i + 1, _, rfl, hlt, wb hn (by omega), ⟨hl, ?_⟩, rfl, rfl⟩)
   rw [hsl, yac hlt, yac hlt2, List.cons_beq_cons]
   clear hrec
   simp_all
 ·repeat' first|refine yaG ?_|exact yaF|refine yaS ?_ ?_<;>intro _
  refine .ret rfl (.bool ?_)
  rw [hsl, yad (by omega), yad (by omega)]
  rfl
theorem jaz {fr : Fr} {σ : wa} {l : List (Nat × List (List Ce))} {k v i t j s : Nat} {g : Bool} {es : List (List Ce)} {e : List Ce} {x : AV} (hp : look fr t = some (.c (.ptr (σ.next + k) v i j))) (hl : l[k]? = some (v, es)) (he : es[i]? = some e) (hj : j <= e.length) (hx : zb8 g s (e.drop j) = some x) :
 retv fr (E σ l) [.m t g s] = some x := by
 simp [retv, revs, RV.ev, hp, wa.at_, E_at, hl, he, hj, hx]
theorem Tidy.mono {n m : Nat} (h : n <= m) {x : Ce} (ht : Tidy m x) : Tidy n x := by
 cases ht with
 | flat h => exact .flat h
 | sl id v i m c h => exact .sl _ _ _ _ _ (by omega)
 | ptr id v i j h => exact .ptr _ _ _ _ (by omega)
theorem wat.nil {n : Nat} : wat n [] := fun b hb => by simp at hb
theorem wat.cons {n v : Nat} {es : List (List Ce)} {l : List (Nat × List (List Ce))} (h : ∀ e ∈ es, ∀ x ∈ e, Tidy n x) (hl : wat n l) : wat n ((v, es) :: l) := by
 intro b hb e he x hx
 rcases List.mem_cons.1 hb with rfl | hb
 ·exact h e he x hx
 ·exact hl b hb e he x hx
theorem wat.one {n v : Nat} {e : List Ce} {l : List (Nat × List (List Ce))} (h : ∀ x ∈ e, Tidy n x) (hl : wat n l) : wat n ((v, [e]) :: l) :=
 .cons (fun e' he x hx => by simp at he; subst he; exact h x hx) hl
theorem wn0 {σ : wa} {a a' b b' : Nat × List (List Ce)} {l : List (Nat × List (List Ce))} {id : Nat} (h : σ.next + 2 <= id) : (E σ (a' :: b' :: l)).get id = (E σ (a :: b :: l)).get id := by
 rw [E_ge (by omega), E_ge (by omega)]
 obtain ⟨q, hq⟩ : ∃ q, id - σ.next = q + 2 := ⟨id - σ.next - 2, by omega⟩
 rw [hq]
 rfl
end Go.Proofs.YtmmgbgpglhbhcaaGreat.Am
namespace Go.Proofs.YtmmgbgpglhbhcaaGreat.Am
open Go.RowKit

theorem Has.open {σ : wa} {S : Nat -> Prop} {ys : List (List Ce)} {x : Ce} (h : Has σ S (.fz ys) x) (hne : 0 < ys.length) : ∃ (id v s : Nat) (cs junk : List (List Ce)) (T : Nat -> Nat -> Nat -> Prop), x = .sl id v 0 ys.length (ys.length + junk.length) /\ σ.get id = some (v, cs ++ junk) /\ S id /\ ∃ hl : cs.length = ys.length,
 ∃ hs : ∀ i (hi : i < ys.length), (cs[i]'(by omega)).length = ys[i].length, (∀ e ∈ cs ++ junk, e.length = s) /\ (∀ e ∈ junk, ∀ x ∈ e, Flat x) /\ (∀ i j a, T i j a -> S a /\ a ≠ id) /\ (∀ i j i' j' a, T i j a -> T i' j' a -> i = i' /\ j = j') /\
  ∀ i j (hi : i < ys.length) (hj : j < ys[i].length), Has σ (T i j) ys[i][j] ((cs[i]'(by omega))[j]'(by have := hs i hi; omega)) := by
 cases h with
 | c h => cases h
 | nil => simp at hne
 | o ys id v s cs junk T hg hS hl hs hall hj hT hd h => exact ⟨id, v, s, cs, junk, T, rfl, hg, hS, hl, hs, hall, hj, hT, hd, h⟩
theorem zkt {e : List Ce} {j : Nat} {z : Ce} (h : j < e.length) : jh e j [z] = e.set j z := by
 simp only [jh, List.length_singleton]
 rw [List.set_eq_take_append_cons_drop, if_pos h]
 simp
theorem Has.write {σ : wa} {S : Nat -> Prop} {ys : List (List Ce)} {x : Ce} (h : Has σ S (.fz ys) x) {i j : Nat} (hi : i < ys.length) (hj : j < ys[i].length) : ∃ (id v : Nat) (c : Nat) (es : List (List Ce)) (e : List Ce), x = .sl id v 0 ys.length c /\ σ.get id = some (v, es) /\ es[0 + i]? = some e /\ e.length = ys[i].length /\ S id /\
 ∀ z, Flat z -> Has (σ.put id (v, es.set (0 + i) (jh e (0 + j) [z]))) S (.fz (ys.set i (ys[i].set j z))) x := by
 obtain ⟨id, v, s, cs, junk, T, rfl, hg, hS, hl, hs, hall, hjk, hT, hd, hh⟩ := h.open (by omega)
 have hic : i < cs.length := by omega
 refine ⟨id, v, _, cs ++ junk, cs[i], rfl, hg, by rw [ybo, yba hic, yaf hic], hs i hi, hS, fun z hz => ?_⟩
 have hlen : cs[i].length = ys[i].length := hs i hi
 simp only [Nat.zero_add]
 rw [zkt (by omega), List.set_append_left _ _ hic]
 have hy : (ys.set i (ys[i].set j z)).length = ys.length := by simp
 have key := Has.o (σ := σ.put id (v, cs.set i (cs[i].set j z) ++ junk)) (S := S) (ys.set i (ys[i].set j z)) id v s (cs.set i (cs[i].set j z)) junk T (zfi rfl) hS (by simp [hl])
  (fun k hk => by
    have hk' : k < ys.length := by simpa using hk
    by_cases e : k = i
    ·subst e; simp [hlen]
    ·rw [ybd (Ne.symm e), ybd (Ne.symm e)]; exact hs k hk')
  (fun e he => by
    rcases List.mem_append.1 he with h1 | h1
    ·rcases ybb h1 with h2 | h2
     ·exact hall e (List.mem_append_left _ h2)
     ·subst h2
      rw [yar]
      exact hall _ (List.mem_append_left _ (yab hic))
    ·exact hall e (List.mem_append_right _ h1)) hjk hT hd
  (fun k m hk hm => by
    have hk' : k < ys.length := by simpa using hk
    have fr : ∀ {k m} {y x : Ce}, Has σ (T k m) y x -> Has (σ.put id (v, cs.set i (cs[i].set j z) ++ junk)) (T k m) y x := fun h => h.frame fun a ha => ziy (hT _ _ a ha).2
    by_cases e : k = i
    ·subst e
     have e1 : (ys.set k (ys[k].set j z))[k] = ys[k].set j z := by simp
     have e2 : (cs.set k (cs[k].set j z))[k]'(by simp; omega) = cs[k].set j z := by simp
     simp only [e1, e2]
     by_cases e3 : m = j
     ·subst e3
      simp only [List.getElem_set_self]
      exact .c hz
     ·have hm' : m < ys[k].length := by simpa using hm
      rw [ybd (Ne.symm e3), ybd (Ne.symm e3)]
      exact fr (hh k m hk' hm')
    ·have e1 : (ys.set i (ys[i].set j z))[k] = ys[k] := by rw [ybd (Ne.symm e)]
     have e2 : (cs.set i (cs[i].set j z))[k]'(by simp; omega) = cs[k]'(by omega) := by rw [List.getElem_set_ne (Ne.symm e)]
     simp only [e1, e2]
     exact fr (hh k m hk' (by simpa only [e1] using hm)))
 rw [hy] at key
 exact key
theorem Has.child {σ : wa} {S : Nat -> Prop} {ys : List (List Ce)} {x : Ce} (h : Has σ S (.fz ys) x) {i j : Nat} (hi : i < ys.length) (hj : j < ys[i].length) : ∃ (id v : Nat) (c : Nat) (es : List (List Ce)) (e : List Ce) (T : Nat -> Prop), x = .sl id v 0 ys.length c /\ σ.get id = some (v, es) /\ es[0 + i]? = some e /\ e.length = ys[i].length /\ (∀ a, T a -> S a) /\
 ∃ hj' : j < e.length, Has σ T ys[i][j] e[j] /\ ∀ σ' y', (∀ a, ¬ T a -> σ'.get a = σ.get a) -> Has σ' T y' e[j] -> Has σ' S (.fz (ys.set i (ys[i].set j y'))) x := by
 obtain ⟨id, v, s, cs, junk, T, rfl, hg, hS, hl, hs, hall, hjk, hT, hd, hh⟩ := h.open (by omega)
 have hic : i < cs.length := by omega
 have hlen : cs[i].length = ys[i].length := hs i hi
 refine ⟨id, v, _, cs ++ junk, cs[i], T i j, rfl, hg, by rw [ybo, yba hic, yaf hic], hlen, fun a ha => (hT i j a ha).1, by omega, hh i j hi hj, fun σ' y' hf hy' => ?_⟩
 have hy : (ys.set i (ys[i].set j y')).length = ys.length := by simp
 have key := Has.o (σ := σ') (S := S) (ys.set i (ys[i].set j y')) id v s cs junk T (by rw [hf id (fun h => (hT i j id h).2 rfl)]; exact hg) hS (by simp [hl])
  (fun k hk => by
    have hk' : k < ys.length := by simpa using hk
    by_cases e : k = i
    ·subst e; simp [hlen]
    ·rw [ybd (Ne.symm e)]; exact hs k hk') hall hjk hT hd
  (fun k m hk hm => by
    have hk' : k < ys.length := by simpa using hk
    have fr : ∀ {k m} {y x : Ce}, ¬ (k = i /\ m = j) -> Has σ (T k m) y x -> Has σ' (T k m) y x := fun hne h => h.frame fun a ha => hf a fun h2 => hne (hd _ _ _ _ a ha h2)
    by_cases e : k = i
    ·subst e
     have e1 : (ys.set k (ys[k].set j y'))[k] = ys[k].set j y' := by simp
     simp only [e1]
     by_cases e3 : m = j
     ·subst e3
      simp only [List.getElem_set_self]
      exact hy'
     ·have hm' : m < ys[k].length := by simpa using hm
      rw [ybd (Ne.symm e3)]
      exact fr (by omega) (hh k m hk' hm')
    ·have e1 : (ys.set i (ys[i].set j y'))[k] = ys[k] := by rw [ybd (Ne.symm e)]
     simp only [e1]
     exact fr (by omega) (hh k m hk' (by simpa only [e1] using hm)))
 rw [hy] at key
 exact key

theorem wd {fr : Fr} {σ : wa} {s id v i m c n : Nat} {x y : Opd} {kd : IntKind} {es : List (List Ce)} {z : Int} (hx : x.ev fr = some (.c (.sl id v i m c))) (hy : y.ev fr = some (.c (.int kd z))) (hz : z = (n : Int)) (hn : n < m) (hl : σ.get id = some (v, es)) {e : List Ce} (he : es[i + n]? = some e) (hs : e.length = s) :
 aop (.iaddr s x y) fr σ = some (.c (.ptr id v (i + n) 0), σ) := by
 subst hz
 simp [aop, hx, hy, zit, hn, hl, he, hs]
theorem wi {fr : Fr} {σ : wa} {id v i j : Nat} {a y : Opd} {es : List (List Ce)} {e : List Ce} {z : Ce} (ha : a.ev fr = some (.c (.ptr id v i j))) (hy : y.ev fr = some (.c z)) (hl : σ.get id = some (v, es)) (he : es[i]? = some e) (hj : j < e.length) :
 aop (.store 1 a y) fr σ = some (.un, σ.put id (v, es.set i (jh e j [z]))) := by
 have : j + 1 <= e.length := by omega
 simp [aop, ha, hy, AV.cells, hl, he, this]
theorem zo {fr : Fr} {σ : wa} {id v i j : Nat} {a : Opd} {es : List (List Ce)} {e : List Ce} (ha : a.ev fr = some (.c (.ptr id v i j))) (hl : σ.get id = some (v, es)) (he : es[i]? = some e) (hj : j < e.length) :
 aop (.load false 1 a) fr σ = some (.c e[j], σ) := by
 have h1 : j <= e.length := by omega
 have h2 : e.drop j = e[j] :: e.drop (j + 1) := yac hj
 simp only [aop, ha, wa.at_, hl, he, if_true, Option.bind_some, if_pos h1, h2, zb8]
 rfl

theorem jki {fr : Fr} {σ : wa} {S : Nat -> Prop} {ys : List (List Ce)} {x : Ce} {o : Opd} (hx : o.ev fr = some (.c x)) (h : Has σ S (.fz ys) x) : aop (.len false o) fr σ = some (.c (.int .i64 (ys.length : Int)), σ) := by
 cases h with
 | c h => cases h
 | nil => simp [aop, hx]
 | o ys id v s cs junk T hg hS hl hs hall hj hT hd h => simp [aop, hx]

structure zdg (P : Program) (f : Nat) (y y' : Ce) (k k' : Int) : Prop where
 at_ : ∀ σ S x, Has σ S y x -> Ok P f [.c x, .c (.int .i64 k)] σ (fun r σ' => r = .c (.int .i64 k') /\ σ'.next = σ.next /\ (∀ a, ¬ S a -> σ'.get a = σ.get a) /\ Has σ' S y' x)

def jiz (nt q : Nat) (B : AC) : AFn := ⟨nt, [.t 4], (.seq (.region [⟨some 4, .op (.mv (.k (.int .i64 0))), none⟩]) (.seq (.seq (.region [⟨some 5, .op (.mv (.k (.int .i64 0))), none⟩]) (.block 0 (.loop (.seq (.seq (.region [⟨some 6, .op (.mv (.t 5)), none⟩, ⟨some 7, .op (.mv (.t 0)), none⟩, ⟨some 8, .op (.len false (.t 7)), none⟩, ⟨some 9, .op (.bin .lss (.t 6) (.t 8)), none⟩]) (.cond (.t 9) .skip (.exit 0))) (.seq (.block 1 B) (.region [⟨some 10, .op (.mv (.t 5)), none⟩, ⟨some 11, .op (.bin .add (.t 10) (.k (.int .i64 1))), none⟩, ⟨some 5, .op (.mv (.t 11)), none⟩])))))) (.seq (.region [⟨some q, .op (.mv (.t 1)), none⟩, ⟨some 4, .op (.mv (.t q)), none⟩]) .ret)))⟩
def jx {α : Type} (m : α -> Int -> α) (c : α -> Int) : List α -> Int -> List α
 | [], _ => []
 | a :: r, k => m a k :: jx m c r (k + c a)
def cntL {α : Type} (c : α -> Int) : List α -> Int
 | [] => 0
 | a :: r => c a + cntL c r
theorem wy {α : Type} {m : α -> Int -> α} {c : α -> Int} : ∀ {xs : List α} {k : Int}, (jx m c xs k).length = xs.length
 | [], k => rfl
 | a :: r, k => by simp [jx, wy]
theorem jer {α : Type} {m : α -> Int -> α} {c : α -> Int} : ∀ {xs ys : List α} {k : Int}, jx m c (xs ++ ys) k = jx m c xs k ++ jx m c ys (k + cntL c xs)
 | [], ys, k => by simp [jx, cntL]
 | a :: r, ys, k => by
  simp only [List.cons_append, jx, jer, cntL]
  rw [Int.add_assoc]
theorem zc2 {α : Type} {c : α -> Int} : ∀ {xs ys : List α}, cntL c (xs ++ ys) = cntL c xs + cntL c ys
 | [], ys => by simp [cntL]
 | a :: r, ys => by
  simp only [List.cons_append, cntL, zc2]
  omega
theorem ze {α : Type} {c : α -> Int} (h : ∀ a, 0 <= c a) : ∀ xs : List α, 0 <= cntL c xs
 | [] => ybf _
 | a :: r => by
  have := ze h r
  have := h a
  simp only [cntL]
  omega
theorem zau {P : Program} (hm : P.follows .mixedOrders = true) {fz : List Nat} {n nt q : Nat} {B : AC} (hc : wc P fz n = some (jiz nt q B)) (hnt : 2 <= nt) (hq : 12 <= q) {α : Type} (enc : α -> List Ce) (m : α -> Int -> α) (c : α -> Int) (hc0 : ∀ a, 0 <= c a) (xs : List α) (k : Int) (hx : xs.length <= 34359738368) (hk0 : 0 <= k) (hk : k + cntL c xs <= 34359738368)
 (hB : ∀ (n0 : Nat) (rets : List RV) (R : AV -> wa -> Prop) (K : List AK) (σ τ : wa) (S : Nat -> Prop) (x : Ce) (i : Nat) (ni : Int) (ki : Int) (ys : List α) (hi : i < ys.length) (fr : Fr), n0 <= τ.next -> ys.length <= 34359738368 -> ni = (i : Int) -> 0 <= ki -> ki + c ys[i] <= 34359738368 ->
   look fr 0 = some (.c x) -> look fr 1 = some (.c (.int .i64 ki)) -> look fr 5 = some (.c (.int .i64 ni)) -> ys[i] ∈ xs -> Has τ S (.fz (ys.map enc)) x ->
   (∀ fr' τ', look fr' 0 = some (.c x) -> look fr' 1 = some (.c (.int .i64 (ki + c ys[i]))) -> look fr' 5 = some (.c (.int .i64 ni)) -> τ'.next = τ.next -> (∀ a, ¬ S a -> τ'.get a = τ.get a) -> Has τ' S (.fz ((ys.set i (m ys[i] ki)).map enc)) x -> Go P n0 nt rets R K fr' τ') ->
   Go P n0 nt rets R (.code B :: K) fr τ) : zdg P n (.fz (xs.map enc)) (.fz ((jx m c xs k).map enc)) k (k + cntL c xs) := by
 constructor
 intro σ S x hh
 refine .old hc fun hS hA => .of_go hm hc (by simpa [jiz] using hnt) ?_
 have hlen : (xs.map enc).length = xs.length := by simp
 repeat' first|refine yaG ?_|exact yaF|refine yaS ?_ ?_<;>intro _
 refine Go.keep [0, 1, 5] (Go.loops (I := fun mm fr τ => ∃ i : Nat, ∃ n ki : Int, mm = xs.length - i /\ i <= xs.length /\ n = i /\ (ki = k + cntL c (xs.take i) /\ τ.next = σ.next /\ (∀ a, ¬ S a -> τ.get a = σ.get a) /\ Has τ S (.fz ((jx m c (xs.take i) k ++ xs.drop i).map enc)) x) /\
  fr = [(0, .c x), (1, .c (.int .i64 ki)), (5, .c (.int .i64 n))]) ?_ _ _ _ ⟨0, _, _, rfl, Nat.zero_le _, rfl, ⟨by simp [cntL], rfl, fun _ _ => rfl, by simpa [jx] using hh⟩, rfl⟩)
 rintro mm fr τ ⟨i, n, ki, rfl, hi, hn, ⟨hki, hnx, hfr, hhi⟩, rfl⟩ hrec
 by_cases hlt : i < xs.length
 ·have hmap : (((jx m c (xs.take i) k ++ xs.drop i).map enc).length : Int) = xs.length := by simp [wy]; omega
  repeat' first|refine yaG ?_|((first|apply yG|apply yH|apply yI);exact rfl;(first|exact jki rfl hhi))|exact yaF|refine yaS ?_ ?_<;>intro _
  rw [hmap]
  repeat' first|refine yaG ?_|exact yaF|refine yaS ?_ ?_<;>intro _
  ·have hyl : (jx m c (xs.take i) k ++ xs.drop i).length = xs.length := by simp [wy]; omega
   have hyi : (jx m c (xs.take i) k ++ xs.drop i)[i]'(by omega) = xs[i] := by
    rw [List.getElem_append_right (by simp [wy]; omega)]
    simp [wy, Nat.min_eq_left (Nat.le_of_lt hlt)]
   have htk : xs.take (i + 1) = xs.take i ++ [xs[i]] := yai hlt
   have hcs : cntL c (xs.take (i + 1)) = cntL c (xs.take i) + c xs[i] := by rw [htk, zc2]; simp [cntL]
   have hle : cntL c (xs.take (i + 1)) <= cntL c xs := by
    have h1 : cntL c xs = cntL c (xs.take (i + 1)) + cntL c (xs.drop (i + 1)) := by rw [<- zc2, List.take_append_drop]
    have := ze hc0 (xs.drop (i + 1))
    omega
   have hn0 := ze hc0 (xs.take i)
   refine hB _ _ _ _ σ τ S _ i n ki (jx m c (xs.take i) k ++ xs.drop i) (by omega) _ (by omega) (by omega) hn (by omega) (by rw [hyi]; omega) rfl rfl rfl (by rw [hyi]; exact yab hlt) hhi ?_
   intro fr' τ' h0 h1 h5 hnx' hfr' hh'
   rw [hyi] at h1 hh'
   refine .same (fr' := (0, .c x) :: (1, .c (.int .i64 (ki + c xs[i]))) :: (5, .c (.int .i64 n)) :: fr') (fun t => ?_) ?_
   ·simp only [look]
    split
    ·rename_i e; subst e; exact h0.symm
    ·split
     ·rename_i e; subst e; exact h1.symm
     ·split
      ·rename_i e; subst e; exact h5.symm
      ·rfl
   repeat' first|refine yaG ?_|exact yaF|refine yaS ?_ ?_<;>intro _
   refine Go.keep [0, 1, 5] (hrec _ _ _ (by omega) ⟨i + 1, _, _, rfl, hlt, wb hn (by omega), ⟨by omega, by omega, fun a ha => (hfr' a ha).trans (hfr a ha), ?_⟩, rfl⟩)
   have he : (jx m c (xs.take i) k ++ xs.drop i).set i (m xs[i] ki) = jx m c (xs.take (i + 1)) k ++ xs.drop (i + 1) := by
    have h00 : i - (jx m c (xs.take i) k).length = 0 := by simp [wy]; omega
    rw [htk, jer, List.set_append_right _ _ (by simp [wy]; omega), h00, List.drop_eq_getElem_cons hlt, List.set_cons_zero, List.append_assoc, hki]
    rfl
   rw [<- he]
   exact hh'
 ·have hmap : (((jx m c (xs.take i) k ++ xs.drop i).map enc).length : Int) = xs.length := by simp [wy]; omega
  repeat' first|refine yaG ?_|((first|apply yG|apply yH|apply yI);exact rfl;(first|exact jki rfl hhi))|exact yaF|refine yaS ?_ ?_<;>intro _
  rw [hmap]
  repeat' first|refine yaG ?_|exact yaF|refine yaS ?_ ?_<;>intro _
  ·refine .op (v := .c (.int .i64 ki)) (σ' := τ) rfl (by simp [aop, Opd.ev, putA, look]) ?_
   repeat' first|refine yaG ?_|exact yaF|refine yaS ?_ ?_<;>intro _
   have hii : i = xs.length := by omega
   subst hii
   rw [List.take_length] at hki hhi
   rw [List.drop_length, ybg] at hhi
   refine .ret rfl ⟨by rw [hki], hnx, hfr, hhi⟩
end Go.Proofs.YtmmgbgpglhbhcaaGreat.Am
namespace Go.Proofs.YtmmgbgpglhbhcaaGreat.Am
open Go.RowKit

def Gr (σ τ : wa) : Prop := ∃ l, τ = E σ l /\ wat σ.next l
theorem Gr.next {σ τ : wa} (h : Gr σ τ) : σ.next <= τ.next := by
 obtain ⟨l, rfl, _⟩ := h
 simp [wx]
theorem Gr.lt {σ τ : wa} (h : Gr σ τ) {a : Nat} (ha : a < σ.next) : τ.get a = σ.get a := by
 obtain ⟨l, rfl, _⟩ := h
 exact E_lt ha
inductive HasV (τ : wa) : (Nat -> Prop) -> AV -> AV -> Prop where
 | c {S : Nat -> Prop} {y x : Ce} (h : Has τ S y x) : HasV τ S (.c y) (.c x)
 | agg {S : Nat -> Prop} {ys xs : List Ce} (h : HasL τ S ys xs) : HasV τ S (.agg ys) (.agg xs)
 | tup {S : Nat -> Prop} {ys xs : List AV} (U : Nat -> Nat -> Prop) (hl : xs.length = ys.length) (hU : ∀ i a, U i a -> S a) (hd : ∀ i i' a, U i a -> U i' a -> i = i') (h : ∀ i (hy : i < ys.length) (hx : i < xs.length), HasV τ (U i) ys[i] xs[i]) : HasV τ S (.tup ys) (.tup xs)
theorem HasV.frame {τ τ' : wa} {S : Nat -> Prop} {y x : AV} (h : HasV τ S y x) : (∀ a, S a -> τ'.get a = τ.get a) -> HasV τ' S y x := by
 induction h with
 | c h => exact fun hf => .c (h.frame hf)
 | agg h => exact fun hf => .agg (h.frame hf)
 | tup U hl hU hd h ih => exact fun hf => .tup U hl hU hd fun i hy hx => ih i hy hx fun a ha => hf a (hU i a ha)
theorem HasV.mono' {τ : wa} {S S' : Nat -> Prop} {y x : AV} (h : HasV τ S y x) (hS : ∀ a, S a -> S' a) : HasV τ S' y x := by
 cases h with
 | c h => exact .c (h.mono hS)
 | agg h => exact .agg (h.mono hS)
 | tup U hl hU hd h => exact .tup U hl (fun i a ha => hS a (hU i a ha)) hd h
theorem HasL.frz {τ : wa} {S : Nat -> Prop} {ys xs : List Ce} (h : HasL τ S ys xs) {n : Nat} (hn : ∀ a, S a -> n <= a) : FrzV τ n (.agg xs) (.agg ys) := by
 obtain ⟨U, h1, h2, h3, h4⟩ := h
 exact .agg h1.symm fun i hi => (h4 i (by omega) hi).frz fun a ha => hn a (h2 i a ha)
theorem HasV.frz {τ : wa} {S : Nat -> Prop} {y x : AV} (h : HasV τ S y x) : ∀ {n : Nat}, (∀ a, S a -> n <= a) -> FrzV τ n x y := by
 induction h with
 | c h => exact fun hn => .c (h.frz hn)
 | agg h => exact fun hn => h.frz hn
 | tup U hl hU hd h ih => exact fun hn => .tup hl.symm fun i hi => ih i (by omega) hi fun a ha => hn a (hU i a ha)
theorem HasV.tidy {τ : wa} {S : Nat -> Prop} {y x : AV} (h : HasV τ S y x) {n : Nat} : (∀ a, S a -> n <= a) -> ∀ z ∈ x.all, Tidy n z := by
 induction h with
 | c h =>
  intro hn z hz
  simp [AV.all] at hz
  subst hz
  exact h.tidy hn
 | agg h =>
  intro hn z hz
  obtain ⟨U, h1, h2, h3, h4⟩ := h
  simp only [AV.all] at hz
  obtain ⟨j, hj, rfl⟩ := List.mem_iff_getElem.1 hz
  exact (h4 j (by omega) hj).tidy fun a ha => hn a (h2 j a ha)
 | tup U hl hU hd h ih =>
  intro hn z hz
  obtain ⟨i, hi, hz⟩ := zh1 (by simpa only [AV.all] using hz)
  exact ih i (by omega) hi (fun a ha => hn a (hU i a ha)) z hz
theorem HasL.tidy {τ : wa} {S : Nat -> Prop} {ys xs : List Ce} (h : HasL τ S ys xs) {n : Nat} (hn : ∀ a, S a -> n <= a) : ∀ z ∈ xs, Tidy n z :=
 (HasV.agg h).tidy hn
theorem HasL.two {τ : wa} {S S' : Nat -> Prop} {y x : Ce} {ys xs : List Ce} (h : Has τ S y x) (k : HasL τ S' ys xs) (hd : ∀ a, S a -> ¬ S' a) : HasL τ (fun a => S a \/ S' a) (y :: ys) (x :: xs) := by
 obtain ⟨U, h1, h2, h3, h4⟩ := k
 refine ⟨fun j a => (j = 0 /\ S a) \/ ∃ m, j = m + 1 /\ U m a, by simp [h1], fun j a ha => ?_, fun j j' a h h' => ?_, fun j hy hx => ?_⟩
 ·rcases ha with ⟨_, ha⟩ | ⟨m, _, ha⟩
  ·exact .inl ha
  ·exact .inr (h2 m a ha)
 ·rcases h with ⟨c, h⟩ | ⟨m, c, h⟩ <;> rcases h' with ⟨c', h'⟩ | ⟨m', c', h'⟩
  ·omega
  ·exact absurd (h2 _ _ h') (hd a h)
  ·exact absurd (h2 _ _ h) (hd a h')
  ·have := h3 m m' a h h'
   omega
 ·cases j with
  | zero => exact h.mono fun a ha => .inl ⟨rfl, ha⟩
  | succ j => exact (h4 j (by simpa using hy) (by simpa using hx)).mono fun a ha => .inr ⟨j, rfl, ha⟩
theorem HasL.nil {τ : wa} {S : Nat -> Prop} : HasL τ S [] [] := ⟨fun _ _ => False, rfl, fun _ _ h => h.elim, fun _ _ _ h => h.elim, fun j hy => by simp at hy⟩
theorem HasV.pair {τ : wa} {S S1 S2 : Nat -> Prop} {y1 x1 y2 x2 : AV} (h1 : HasV τ S1 y1 x1) (h2 : HasV τ S2 y2 x2) (s1 : ∀ a, S1 a -> S a) (s2 : ∀ a, S2 a -> S a) (hd : ∀ a, S1 a -> ¬ S2 a) : HasV τ S (.tup [y1, y2]) (.tup [x1, x2]) := by
 refine .tup (fun i a => (i = 0 /\ S1 a) \/ (i = 1 /\ S2 a)) rfl (fun i a ha => ?_) (fun i i' a h h' => ?_) (fun i hy hx => ?_)
 ·rcases ha with ⟨_, ha⟩ | ⟨_, ha⟩
  ·exact s1 a ha
  ·exact s2 a ha
 ·rcases h with ⟨c, h⟩ | ⟨c, h⟩ <;> rcases h' with ⟨c', h'⟩ | ⟨c', h'⟩
  ·omega
  ·exact absurd h' (hd a h)
  ·exact absurd h (hd a h')
  ·omega
 ·match i, hy, hx with
  | 0, _, _ => exact h1.mono' fun a ha => .inl ⟨rfl, ha⟩
  | 1, _, _ => exact h2.mono' fun a ha => .inr ⟨rfl, ha⟩
def NewV (σ : wa) (y : AV) (r : AV) (τ : wa) : Prop := Gr σ τ /\ HasV τ (fun a => σ.next <= a /\ a < τ.next) y r
theorem New.v {σ τ : wa} {y : Ce} {r : AV} (h : New σ y r τ) : NewV σ (.c y) r τ := by
 obtain ⟨x, l, rfl, rfl, ht, hh⟩ := h
 exact ⟨⟨l, rfl, ht⟩, .c hh⟩
theorem NewV.pure {P : Program} {f : Nat} {args : List AV} {y : AV} (h : ∀ σ, Ok P f args σ (NewV σ y)) : Pure P f args y := by
 constructor
 intro σ
 refine .old' (h σ) fun hS ha => Ok.pure (h σ) y (fun id y hy => (hS id y hy).1) ?_
 rintro r σ1 ⟨hg, hh⟩
 exact ⟨fun id y hy => by rw [hg.lt (hS id y hy).1]; exact hy, hh.frz fun a ha => ha.1⟩
theorem znv {σ : wa} {l m : List (Nat × List (List Ce))} (h : E σ l = E σ m) : l = m := by
 refine List.ext_getElem? fun k => ?_
 have := congrArg (fun s => s.get (σ.next + k)) h
 simpa only [E_at] using this
theorem Ok.lentV {P : Program} {f : Nat} {args args' : List AV} {σ : wa} {y : AV} (h : ∀ σ, Ok P f args' σ (NewV σ y)) (hl : args'.length = args.length)
 (hf : ∀ i (hi : i < args.length), FrzV σ 0 args[i] (args'[i]'(by omega)) \/ args[i] = args'[i]'(by omega)) : Ok P f args σ (NewV σ y) := by
 refine (Ok.lent (h (wa.none σ.next)) hl hf ?_).mono ?_
 ·rintro r τ ⟨⟨l, rfl, ht⟩, hh⟩
  exact ⟨l, rfl, ht, hh.tidy fun a ha => ha.1⟩
 ·rintro r σ' ⟨l, rfl, ⟨l', e, ht⟩, hh⟩
  obtain rfl := znv e
  refine ⟨⟨l, rfl, ht⟩, hh.frame fun a ha => ?_⟩
  have h1 : ¬ a < σ.next := by have := ha.1; exact Nat.not_lt.2 this
  rw [E_ge h1, E_ge (by exact h1)]
  rfl
inductive Lend (σ : wa) : List AV -> List AV -> Prop where
 | nil : Lend σ [] []
 | own {x y : AV} {us bs : List AV} (h : FrzV σ 0 x y) (r : Lend σ us bs) : Lend σ (x :: us) (y :: bs)
 | same {a : AV} {us bs : List AV} (r : Lend σ us bs) : Lend σ (a :: us) (a :: bs)
theorem Lend.spec {σ : wa} {us bs : List AV} (h : Lend σ us bs) : ∃ hl : bs.length = us.length, ∀ i (hi : i < us.length), FrzV σ 0 us[i] (bs[i]'(by omega)) \/ us[i] = bs[i]'(by omega) := by
 induction h with
 | nil => exact ⟨rfl, fun i hi => by simp at hi⟩
 | own h r ih =>
  obtain ⟨hl, hz⟩ := ih
  refine ⟨by simp [hl], fun i hi => ?_⟩
  cases i with
  | zero => exact .inl h
  | succ i => exact hz i (by simpa using hi)
 | same r ih =>
  obtain ⟨hl, hz⟩ := ih
  refine ⟨by simp [hl], fun i hi => ?_⟩
  cases i with
  | zero => exact .inr rfl
  | succ i => exact hz i (by simpa using hi)
theorem Lend.pure {P : Program} {σ : wa} {n : Nat} {args args' : List AV} {r : AV} (h : Lend σ args args') (hp : Pure P n args' r) (hs : wcr r) : Ok P n args σ (fun r' σ' => r' = r /\ σ' = σ) :=
 let ⟨hl, hz⟩ := h.spec
 Ok.lend (hp.at_ _) hs hl hz
theorem Lend.new {P : Program} {σ : wa} {n : Nat} {args args' : List AV} {y : AV} (h : Lend σ args args') (hp : ∀ σ, Ok P n args' σ (NewV σ y)) : Ok P n args σ (NewV σ y) :=
 let ⟨hl, hz⟩ := h.spec
 Ok.lentV hp hl hz
theorem HasV.lend {τ : wa} {S : Nat -> Prop} {y x : AV} (h : HasV τ S y x) : FrzV τ 0 x y := h.frz fun _ _ => yae _
section
variable {P : Program} {n0 nt : Nat} {rets : List RV} {R : AV -> wa -> Prop} {K : List AK} {fr : Fr} {σ : wa}
theorem Go.lcall {d : Option Nat} {f : Opd} {args : List Opd} {g : Option (Nat × Bool)} {rest : List jd} {n : Nat} {pre cap : List Ce} {vs args' : List AV} {r : AV} (hw : wants fr g = some true) (hf : f.ev fr = some (.c (.fn n pre cap))) (ha : evs fr args = some vs)
 (hp : Pure P n args' r) (hs : wcr r) (hz : Lend σ (pre.map AV.c ++ vs ++ cap.map AV.c) args') (h : Go P n0 nt rets R (.ops rest :: K) (putA fr d r) σ) : Go P n0 nt rets R (.ops (⟨d, .call f args, g⟩ :: rest) :: K) fr σ :=
 .call _ hw hf ha (hz.pure hp hs) (by rintro r' σ' ⟨rfl, rfl⟩; exact h)
theorem Go.slcall {d : Option Nat} {f : Opd} {args : List Opd} {g : Option (Nat × Bool)} {rest : List (List jd)} {n : Nat} {pre cap : List Ce} {vs args' : List AV} {r : AV} (hw : wants fr g = some true) (hf : f.ev fr = some (.c (.fn n pre cap))) (ha : evs fr args = some vs)
 (hp : Pure P n args' r) (hs : wcr r) (hz : Lend σ (pre.map AV.c ++ vs ++ cap.map AV.c) args') (h : Go P n0 nt rets R (.segs rest :: K) (putA fr d r) σ) : Go P n0 nt rets R (.segs ([⟨d, .call f args, g⟩] :: rest) :: K) fr σ :=
 .scall _ hw hf ha (hz.pure hp hs) (by rintro r' σ' ⟨rfl, rfl⟩; exact h)
end
def Ends (σ : wa) (r2 : AV) (r : AV) (σ' : wa) : Prop := (∀ id, id < σ.next -> σ'.get id = σ.get id) /\ FrzV σ' σ.next r r2
theorem Pure.run2 {P : Program} (hm : P.follows .mixedOrders = true) {fz : List Nat} {f : Nat} {af : AFn} (h : wc P fz f = some af) {args : List AV} {r2 : AV} (hn : args.length <= af.nt)
 (hg : ∀ σ, OldS σ -> Go P σ.next af.nt af.rets (Ends σ r2) [.code af.body] (frOf 0 args) (E σ [])) : Pure P f args r2 := by
 constructor
 intro σ
 refine .old h fun hS ha => ?_
 refine Ok.pure (Ok.run hm h hn (fun hS _ => hg σ hS)) r2 (fun id y hy => (hS id y hy).1) ?_
 rintro r σ1 ⟨h1, h2⟩
 exact ⟨fun id y hy => by rw [h1 id (hS id y hy).1]; exact hy, h2⟩

section
variable {P : Program} {n0 nt : Nat} {rets : List RV} {R : AV -> wa -> Prop} {K : List AK} {fr : Fr} {σ : wa}
theorem Go.qd {s1 s2 : jd} {seg : List jd} {rest : List (List jd)} (h : Qc P (fun F τ => Go P n0 nt rets R (.segs rest :: K) F τ) (s1 :: s2 :: seg) fr σ) : Go P n0 nt rets R (.segs ((s1 :: s2 :: seg) :: rest) :: K) fr σ := .qc _ h fun _ _ h => h
end
end Go.Proofs.YtmmgbgpglhbhcaaGreat.Am
namespace Go.Proofs.YtmmgbgpglhbhcaaGreat.Am
def zlf (s bytes : Nat) (z : List Ce) : AFn := ⟨8, [.t 2], (.seq (.region [⟨some 2, .op (.mv (.k (.nils))), none⟩]) (.seq (.seq (.region [⟨some 3, .op (.mv (.t 0)), none⟩, ⟨some 4, .op (.eq false false [.sl] (.t 3) (.k (.nils))), none⟩]) (.cond (.t 4) (.seq (.region [⟨some 2, .op (.mv (.k (.nils))), none⟩]) .ret) .skip)) (.seq (.region [⟨some 5, .op (.mksl false s 0 z []), none⟩, ⟨some 6, .op (.mv (.t 0)), none⟩, ⟨some 7, .op (.app s bytes (.t 5) (.t 6)), none⟩, ⟨some 2, .op (.mv (.t 7)), none⟩]) .ret)))⟩
def wm5 (σ : wa) (s : Nat) (ys : List (List Ce)) (r : AV) (τ : wa) : Prop := (ys = [] /\ r = .c .nils /\ τ = E σ []) \/ Made σ s ys r τ
theorem jme {P : Program} (hm : P.follows .mixedOrders = true) {fz : List Nat} {n s bytes : Nat} {z : List Ce} (hc : wc P fz n = some (zlf s bytes z)) (ys : List (List Ce)) (hs : ∀ e ∈ ys, e.length = s) (hb : ys.length * bytes <= 140737488355328) (σ : wa) :
 Ok P n [.c (.fz ys)] σ (wm5 σ s ys) := by
 refine Ok.run hm hc (yaa rfl) fun hS hA => ?_
 clear hS hA
 have tail : ∀ {fr : Fr} {K}, look fr 0 = some (.c (.fz ys)) -> Go P σ.next 8 [.t 2] (wm5 σ s ys) (.code (.region [⟨some 5, .op (.mksl false s 0 z []), none⟩, ⟨some 6, .op (.mv (.t 0)), none⟩, ⟨some 7, .op (.app s bytes (.t 5) (.t 6)), none⟩, ⟨some 2, .op (.mv (.t 7)), none⟩]) :: .code .ret :: K) fr (E σ []) := by
  intro fr K h0
  refine .same (fr' := (0, .c (.fz ys)) :: fr) (fun t => ?_) ?_
  ·simp only [look]
   split
   ·rename_i e; subst e; exact h0.symm
   ·rfl
  repeat' first|refine yaG ?_|exact yaF|refine yaS ?_ ?_<;>intro _
  refine Go.app (ys := []) (junk := []) (zs := ys) rfl rfl rfl rfl rfl (by simp) Jk.nil hs (by simpa using hb) fun v junk hj => ?_
  repeat' first|refine yaG ?_|exact yaF|refine yaS ?_ ?_<;>intro _
  exact .ret rfl (.inr ⟨v, junk, hj, rfl, rfl⟩)
 cases ys with
 | nil =>
  repeat' first|refine yaG ?_|exact yaF|refine yaS ?_ ?_<;>intro _
  refine .nilq rfl rfl (.fz _) fun b => ?_
  cases b with
  | true =>
   repeat' first|refine yaG ?_|exact yaF|refine yaS ?_ ?_<;>intro _
   exact .ret rfl (.inl ⟨rfl, rfl, rfl⟩)
  | false =>
   repeat (first | (apply Go.nil) | (apply Go.cond false; exact rfl) | (apply Go.skip))
   apply Go.seq
   exact tail rfl
 | cons a r =>
  apply Go.seq; apply Go.region; apply Go.op; exact rfl; exact rfl; apply Go.nil; apply Go.seq; apply Go.seq; apply Go.region
  apply Go.op; exact rfl; exact rfl; apply Go.op; exact rfl; exact rfl; apply Go.nil; apply Go.cond false; exact rfl
  apply Go.skip; apply Go.seq
  exact tail rfl
inductive jkt (τ : wa) (n : Nat) (fr : Fr) : Fr -> Prop where
 | nil : jkt τ n fr []
 | frz {t : Nat} {y x : AV} {r : Fr} (hl : look fr t = some y) (h : FrzV τ n y x) (k : jkt τ n fr r) : jkt τ n fr ((t, x) :: r)
theorem jkt.at_ {τ : wa} {n : Nat} {fr fr' : Fr} (h : jkt τ n fr fr') : ∀ t x, look fr' t = some x -> ∃ y, look fr t = some y /\ FrzV τ n y x := by
 induction h with
 | nil => intro t x hx; simp [look] at hx
 | @frz t0 y x0 r hl hz k ih =>
  intro t x hx
  simp only [look] at hx
  split at hx
  ·rename_i e
   subst e
   injection hx with hx
   subst hx
   exact ⟨y, hl, hz⟩
  ·exact ih t x hx
section
variable {fr : Fr} {σ : wa}
theorem jdg {s id v b n c : Nat} {x : Opd} {lo hi mx : Option Opd} {lo' hi' mx' : Option AV} {l h m : Nat} {es : List (List Ce)} (hx : x.ev fr = some (.c (.sl id v b n c))) (h1 : evo fr lo = some lo') (h2 : evo fr hi = some hi') (h3 : evo fr mx = some mx') (hl : zah 0 lo' = some l) (hh : zah n hi' = some h) (hm : zah c mx' = some m)
 (hg : σ.get id = some (v, es)) (hs : ∀ e ∈ es, e.length = s) (hlh : l <= h) (hhm : h <= m) (hmc : m <= c) : aop (.slice s x lo hi mx) fr σ = some (.c (.sl id v (b + l) (h - l) (m - l)), σ) := by
 have : jhm σ s (.sl id v b n c) lo' hi' mx' = some (.sl id v (b + l) (h - l) (m - l)) := by
  simp only [jhm, hl, hh, hm, hg]
  exact if_pos ⟨trivial, hs, hlh, hhm, hmc⟩
 simp only [aop, hx, h1, h2, h3, this, Option.map_some]
theorem jlf {s id v b n c : Nat} {z : List Ce} {x : Opd} {es : List (List Ce)} (hx : x.ev fr = some (.c (.sl id v b n c))) (hg : σ.get id = some (v, es)) (hz : z.length = s) (hs : ∀ e ∈ es, e.length = s) (hb : b + n <= es.length) : aop (.clear z x) fr σ = some (.un, σ.put id (v, jh es b (List.replicate n z))) := by
 simp only [aop, hx, hg]
 exact if_pos ⟨trivial, hb, fun e he => by rw [hs e he, hz]⟩
theorem wiz {d n : Nat} {k : IntKind} {z : Int} (h : z = (n : Int)) : zah d (some (.c (.int k z))) = some n := by
 subst h
 simp [zah]
end
section
variable {fr : Fr} {σ : wa}
theorem Jk.drop {s : Nat} {ys junk : List (List Ce)} (h : ∀ e ∈ ys, e.length = s /\ ∀ x ∈ e, Flat x) (hj : Jk s junk) (n : Nat) : Jk s (ys.drop n ++ junk) := fun e he =>
 (List.mem_append.1 he).elim (fun h1 => h e (ybi h1)) (hj e)
theorem wme {l : List (Nat × List (List Ce))} {s k v n : Nat} {x hi : Opd} {kd : IntKind} {z : Int} {ys junk : List (List Ce)} (hx : x.ev fr = some (.c (vec (σ.next + k) v ys junk))) (hh : hi.ev fr = some (.c (.int kd z))) (hz : z = (n : Int)) (hn : n <= ys.length) (hl : l[k]? = some (v, ys ++ junk)) (hs : ∀ e ∈ ys ++ junk, e.length = s) :
 aop (.slice s x none (some hi) none) fr (E σ l) = some (.c (vec (σ.next + k) v (ys.take n) (ys.drop n ++ junk)), E σ l) := by
 have hb : zah ys.length (some (.c (.int kd z))) = some n := by simp [zah, hz]
 have hh' : evo fr (some hi) = some (some (.c (.int kd z))) := by simp [evo, hh]
 have := jdg (s := s) (σ := E σ l) (lo := none) (hi := some hi) (mx := none) hx rfl hh' rfl (l := 0) (h := n) (m := ys.length + junk.length) rfl hb rfl (es := ys ++ junk) (by rw [E_at]; exact hl) hs (yae _) (by omega) (yak _)
 rw [this]
 have e1 : (ys.take n).length = n := by simp; omega
 have e2 : n + (ys.drop n ++ junk).length = ys.length + junk.length := by simp; omega
 simp only [vec, e1, e2, Nat.sub_zero, Nat.add_zero]
theorem zmf {l : List (Nat × List (List Ce))} {s k v n : Nat} {x lo : Opd} {kd : IntKind} {z : Int} {ys junk : List (List Ce)} (hx : x.ev fr = some (.c (vec (σ.next + k) v ys junk))) (hh : lo.ev fr = some (.c (.int kd z))) (hz : z = (n : Int)) (hn : n <= ys.length) (hl : l[k]? = some (v, ys ++ junk)) (hs : ∀ e ∈ ys ++ junk, e.length = s) :
 aop (.slice s x (some lo) none none) fr (E σ l) = some (.c (.sl (σ.next + k) v n (ys.length - n) (ys.length + junk.length - n)), E σ l) := by
 have hb : zah 0 (some (.c (.int kd z))) = some n := by simp [zah, hz]
 have hh' : evo fr (some lo) = some (some (.c (.int kd z))) := by simp [evo, hh]
 have := jdg (s := s) (σ := E σ l) (lo := some lo) (hi := none) (mx := none) hx hh' rfl rfl (l := n) (h := ys.length) (m := ys.length + junk.length) hb rfl rfl (es := ys ++ junk) (by rw [E_at]; exact hl) hs hn (by omega) (yak _)
 rw [this]
 simp
theorem zh3 {l : List (Nat × List (List Ce))} {k v n c N : Nat} {ys junk : List (List Ce)} (hl : l[k]? = some (v, ys ++ junk)) (ho : ∀ e ∈ ys, ∀ x ∈ e, Flat x) (hn : n <= ys.length) (hN : N <= σ.next + k) : FrzV (E σ l) N (.c (.sl (σ.next + k) v n (ys.length - n) c)) (.c (.fz (ys.drop n))) := by
 refine .c (.sl _ _ _ _ _ (ys ++ junk) _ hN (by rw [E_at]; exact hl) (by simp; omega) (by simp) (fun i hi => ?_) (fun i j hi hj => ?_))
 ·rw [yap (by omega), List.getElem_drop]
 ·have e : (ys ++ junk)[n + i]'(by simp; omega) = (ys.drop n)[i]'(by simp; omega) := by
   rw [yap (by omega), List.getElem_drop]
  simp only [e]
  exact .same _ ((ho _ (ybi (yab _)) _ (yab hj)).old _)
theorem jnv {l : List (Nat × List (List Ce))} {k : Nat} {b : Nat × List (List Ce)} (hl : l[k]? = some b) : (E σ l).get (σ.next + k) = some b := by rw [E_at]; exact hl
theorem Go.freezeN {P : Program} {n0 nt : Nat} {rets : List RV} {R : AV -> wa -> Prop} {K : List AK} {fr fr' : Fr} {σ : wa} {l m : List (Nat × List (List Ce))} (hS : OldS σ) (hl : ∀ b ∈ l, ∀ e ∈ b.2, ∀ x ∈ e, Old (σ.next + l.length) x) (hn : n0 <= σ.next) (h : jkt (E σ (l ++ m)) (σ.next + l.length) fr fr') (hg : Go P n0 nt rets R K fr' (E σ l)) : Go P n0 nt rets R K fr (E σ (l ++ m)) := by
 refine .shift (wh0.frz (n := σ.next + l.length) h.at_ rfl (fun id y hy => ?_) (by omega)) hg
 by_cases hlt : id < σ.next
 ·rw [E_lt hlt] at hy
  exact ⟨by rw [E_lt hlt]; exact hy, by omega, fun i j hi hj => ((hS id y hy).2 i j hi hj).mono (by omega)⟩
 ·rw [E_ge hlt] at hy
  have hk : id - σ.next < l.length := by
   by_cases e : id - σ.next < l.length
   ·exact e
   ·rw [List.getElem?_eq_none (by omega)] at hy; cases hy
  exact ⟨by rw [E_ge hlt, yba hk]; exact hy, by omega, fun i j hi hj => hl y (List.mem_of_getElem? hy) _ (yab hi) _ (yab hj)⟩
theorem Go.qkd {P : Program} {n0 nt : Nat} {rets : List RV} {R : AV -> wa -> Prop} {K : List AK} {seg : List jd} {rest : List (List jd)} (l : List (Nat × List (List Ce))) (h : Qk P (fun τ => ∃ m, τ = E σ (l ++ m)) (fun F τ => Go P n0 nt rets R (.segs rest :: K) F τ) seg fr (E σ l)) : Go P n0 nt rets R (.segs (seg :: rest) :: K) fr (E σ l) :=
 .qk (fun τ => ∃ m, τ = E σ (l ++ m)) _ ⟨[], by simp⟩ h fun _ _ h => h
theorem Qk.lcall {P : Program} {l : List (Nat × List (List Ce))} {τ : wa} {Z : Fr -> wa -> Prop} {d : Option Nat} {f : Opd} {args : List Opd} {g : Option (Nat × Bool)} {rest : List jd} {n : Nat} {pre cap : List Ce} {vs args' : List AV} {r : AV} (hw : wants fr g = some true) (hf : f.ev fr = some (.c (.fn n pre cap))) (ha : evs fr args = some vs)
 (hp : Pure P n args' r) (hs : wcr r) (hz : ∀ m, Lend (E σ (l ++ m)) (pre.map AV.c ++ vs ++ cap.map AV.c) args') (h : Qk P (fun τ => ∃ m, τ = E σ (l ++ m)) Z rest (putA fr d r) τ) : Qk P (fun τ => ∃ m, τ = E σ (l ++ m)) Z (⟨d, .call f args, g⟩ :: rest) fr τ :=
 .call hw hf ha (fun ρ ⟨m, hm⟩ => by subst hm; exact (hz m).pure hp hs) h
theorem Qk.pcall {P : Program} {I : wa -> Prop} {τ : wa} {Z : Fr -> wa -> Prop} {d : Option Nat} {f : Opd} {args : List Opd} {g : Option (Nat × Bool)} {rest : List jd} {n : Nat} {pre cap : List Ce} {vs : List AV} {r : AV} (hw : wants fr g = some true) (hf : f.ev fr = some (.c (.fn n pre cap))) (ha : evs fr args = some vs)
 (hp : Pure P n (pre.map .c ++ vs ++ cap.map .c) r) (h : Qk P I Z rest (putA fr d r) τ) : Qk P I Z (⟨d, .call f args, g⟩ :: rest) fr τ :=
 .call hw hf ha (fun ρ _ => hp.at_ ρ) h
theorem Go.qkm {P : Program} {n0 nt : Nat} {rets : List RV} {R : AV -> wa -> Prop} {K : List AK} {seg : List jd} {rest : List (List jd)} (l m : List (Nat × List (List Ce))) (h : Qk P (fun τ => ∃ m, τ = E σ (l ++ m)) (fun F τ => Go P n0 nt rets R (.segs rest :: K) F τ) seg fr (E σ (l ++ m))) : Go P n0 nt rets R (.segs (seg :: rest) :: K) fr (E σ (l ++ m)) :=
 .qk (fun τ => ∃ m, τ = E σ (l ++ m)) _ ⟨m, rfl⟩ h fun _ _ h => h
theorem Qk.app {P : Program} {l L : List (Nat × List (List Ce))} {Z : Fr -> wa -> Prop} {d : Option Nat} {g : Option (Nat × Bool)} {rest : List jd} {s bytes k v : Nat} {x y : Opd} {u : Ce} {ys junk zs : List (List Ce)} (hw : wants fr g = some true) (hx : x.ev fr = some (.c (vec (σ.next + k) v ys junk))) (hy : y.ev fr = some (.c u)) (hu : (E σ L).els u = some zs) (hl : L[k]? = some (v, ys ++ junk))
 (hys : ∀ e ∈ ys, e.length = s) (hj : Jk s junk) (hzs : ∀ e ∈ zs, e.length = s) (hb : (ys.length + zs.length) * bytes <= 140737488355328) (hI : ∀ z, ∃ m, L.set k z = l ++ m)
 (h : ∀ v' junk', Jk s junk' -> Qk P (fun τ => ∃ m, τ = E σ (l ++ m)) Z rest (putA fr d (.c (vec (σ.next + k) v' (ys ++ zs) junk'))) (E σ (L.set k (v', ys ++ zs ++ junk')))) :
 Qk P (fun τ => ∃ m, τ = E σ (l ++ m)) Z (⟨d, .op (.app s bytes x y), g⟩ :: rest) fr (E σ L) := by
 obtain ⟨v', junk', hj', ha⟩ := wjt (s := s) (bytes := bytes) hx hy hu hl hys hj hzs hb
 obtain ⟨m, hm⟩ := hI (v', ys ++ zs ++ junk')
 exact .wop rfl hw ha ⟨m, by rw [hm]⟩ (h v' junk' hj')
theorem Go.join {P : Program} {n0 nt : Nat} {rets : List RV} {R : AV -> wa -> Prop} {K K' : List AK} {fr : Fr} {σ : wa} (I : Fr -> wa -> Prop) (h1 : ∀ fr σ, I fr σ -> Go P n0 nt rets R K fr σ) (h2 : (∀ fr σ, I fr σ -> Go P n0 nt rets R K fr σ) -> Go P n0 nt rets R (K' ++ K) fr σ) : Go P n0 nt rets R (K' ++ K) fr σ := h2 h1
end
section
variable {fr : Fr} {σ : wa} {id v : Nat} {code : List UInt8} {p0 p : Nat} {x y : Opd} {l : List (Nat × List (List Ce))}
end
section
variable {P : Program} {n0 nt : Nat} {rets : List RV} {R : AV -> wa -> Prop} {K : List AK} {fr : Fr} {σ : wa}
end
def wdg (g : Bool) (s : Nat) : AFn := ⟨19, [.t 4], (.seq (.region [⟨some 4, .op (.mv (.k (.int .i64 0))), none⟩]) (.seq (.seq (.region [⟨some 6, .op (.mv (.t 0)), none⟩, ⟨some 7, .op (.len false (.t 6)), none⟩, ⟨some 8, .op (.mv (.k (.int .i64 0))), none⟩]) (.block 0 (.loop (.seq (.region [⟨some 9, .op (.bin .lss (.t 8) (.t 7)), none⟩]) (.seq (.cond (.t 9) .skip (.exit 0)) (.seq (.block 1 (.seq (.region [⟨some 10, .op (.mv (.t 8)), none⟩, ⟨some 5, .op (.mv (.t 10)), none⟩]) (.seq (.region [⟨some 11, .op (.mv (.t 1)), none⟩, ⟨some 12, .op (.mv (.t 0)), none⟩, ⟨some 13, .op (.mv (.t 5)), none⟩, ⟨some 14, .op (.iaddr s (.t 12) (.t 13)), none⟩, ⟨some 15, .op (.load g s (.t 14)), none⟩, ⟨some 16, .call (.t 11) [(.t 15)], none⟩]) (.cond (.t 16) (.seq (.region [⟨some 17, .op (.mv (.t 5)), none⟩, ⟨some 4, .op (.mv (.t 17)), none⟩]) .ret) .skip)))) (.region [⟨some 18, .op (.bin .add (.t 8) (.k (.int .i64 1))), none⟩, ⟨some 8, .op (.mv (.t 18)), none⟩]))))))) (.seq (.region [⟨some 4, .op (.mv (.k (.int .i64 (-1)))), none⟩]) .ret)))⟩
def idxA {α : Type} (p : α -> Bool) : List α -> Int -> Int
 | [], _ => -1
 | a :: r, i => if p a then i else idxA p r (i + 1)
theorem wki {α : Type} {p : α -> Bool} : ∀ {l : List α} {i : Int}, 0 <= i -> (l.any p = true ↔ 0 <= idxA p l i)
 | [], i, h => by simp [idxA]
 | a :: r, i, h => by
  have := wki (p := p) (l := r) (i := i + 1) (by omega)
  simp only [List.any_cons, idxA]
  cases p a
  ·simp only [Bool.false_or, Bool.false_eq_true, if_false]; exact this
  ·simp [h]
theorem wlf {fr : Fr} {σ : wa} {g : Bool} {s : Nat} {a : Opd} {cs : List Ce} {v : AV} (ha : a.ev fr = some (.c (.fp cs))) (h : zb8 g s cs = some v) : aop (.load g s a) fr σ = some (v, σ) := by
 simp [aop, ha, wa.at_, h]
theorem wbb {P : Program} (hm : P.follows .mixedOrders = true) {fz : List Nat} {n s : Nat} {g : Bool} (hc : wc P fz n = some (wdg g s)) {α : Type} (enc : α -> List Ce) (arg : α -> AV) (hs : ∀ a, (enc a).length = s) (harg : ∀ a, zb8 g s (enc a) = some (arg a)) (l : List α) (p : α -> Bool) (f : Nat) (pre cap : List Ce) (hx : l.length <= 34359738368)
 (hp : ∀ i (hi : i < l.length), (∀ j (hj : j < i), p (l[j]'(by omega)) = false) -> Pure P f (pre.map .c ++ [arg l[i]] ++ cap.map .c) (.c (.bool (p l[i])))) : Pure P n [.c (.fz (l.map enc)), .c (.fn f pre cap)] (.c (.int .i64 (idxA p l 0))) := by
 refine Pure.run hm hc (yaa rfl) fun σ hS hA => ?_
 clear hS hA
 repeat' first|refine yaG ?_|exact yaF|refine yaS ?_ ?_<;>intro _
 refine Go.keep [0, 1, 7, 8] (Go.loops (I := fun m fr τ => ∃ i : Nat, ∃ k : Int, m = l.length - i /\ i <= l.length /\ k = i /\ (idxA p l 0 = idxA p (l.drop i) k /\ ∀ j (hj : j < i) (hl : j < l.length), p l[j] = false) /\
  fr = [(0, .c (.fz (l.map enc))), (1, .c (.fn f pre cap)), (7, .c (.int .i64 (l.length : Int))), (8, .c (.int .i64 k))] /\ τ = E σ []) ?_ _ _ _ ⟨0, _, rfl, yae _, rfl, ⟨rfl, fun j hj => by omega⟩, rfl, rfl⟩)
 rintro m fr τ ⟨i, k, rfl, hi, hn, ⟨hsl, hno⟩, rfl, rfl⟩ hrec
 by_cases hlt : i < l.length
 ·repeat' first|refine yaG ?_|((first|apply yG|apply yH|apply yI);exact rfl;(first|exact yX (enc := enc) rfl rfl hn hlt (hs _)|exact wlf rfl (harg l[i])))|((first|apply Go.pcallB|apply Go.spcallB|apply Qg.pcallB);(iterate 3 exact rfl);exact hp i hlt (fun j hj => hno j hj (by omega));intro _ _)|exact yaF|refine yaS ?_ ?_<;>intro _
  ·refine .ret rfl (.int ?_)
   rw [hsl, List.drop_eq_getElem_cons hlt, idxA, if_pos (by simp_all)]
  ·rename_i b hb h
   refine Go.keep [0, 1, 7, 8] (hrec _ _ _ (by omega) ⟨i + 1, _, rfl, hlt, wb hn (by omega), ⟨?_, fun j hj hl => ?_⟩, rfl, rfl⟩)
   ·rw [hsl, List.drop_eq_getElem_cons hlt, idxA, if_neg (by rw [hb, h]; simp), jf (by omega) (by omega)]
   ·by_cases e : j = i
    ·subst e; rw [hb, h]
    ·exact hno j (by omega) hl
 ·repeat' first|refine yaG ?_|exact yaF|refine yaS ?_ ?_<;>intro _
  refine .ret rfl (.int ?_)
  rw [hsl, yad (by omega)]
  rfl
def zb7 (f : Nat) : AFn := ⟨9, [.t 4], (.seq (.region [⟨some 4, .op (.mv (.k (.bool false))), none⟩]) (.seq (.region [⟨some 5, .op (.mv (.t 0)), none⟩, ⟨some 6, .op (.mv (.t 1)), none⟩, ⟨some 7, .call (.f f) [(.t 5), (.t 6)], none⟩, ⟨some 8, .op (.bin .geq (.t 7) (.k (.int .i64 0))), none⟩, ⟨some 4, .op (.mv (.t 8)), none⟩]) .ret))⟩
theorem wbz {α : Type} {p : α -> Bool} {l : List α} : decide (0 <= idxA p l 0) = l.any p := by
 have := wki (p := p) (l := l) (i := 0) (by omega)
 cases h : l.any p
 ·rw [decide_eq_false_iff_not, <- this, h]; simp
 ·rw [decide_eq_true_iff, <- this, h]
theorem zj {P : Program} (hm : P.follows .mixedOrders = true) {fz fz' : List Nat} {n n' s : Nat} {g : Bool} (hc : wc P fz n = some (zb7 n')) (hc' : wc P fz' n' = some (wdg g s)) {α : Type} (enc : α -> List Ce) (arg : α -> AV) (hs : ∀ a, (enc a).length = s) (harg : ∀ a, zb8 g s (enc a) = some (arg a)) (l : List α) (p : α -> Bool) (f : Nat) (pre cap : List Ce) (hx : l.length <= 34359738368)
 (hp : ∀ i (hi : i < l.length), (∀ j (hj : j < i), p (l[j]'(by omega)) = false) -> Pure P f (pre.map .c ++ [arg l[i]] ++ cap.map .c) (.c (.bool (p l[i])))) : Pure P n [.c (.fz (l.map enc)), .c (.fn f pre cap)] (.c (.bool (l.any p))) := by
 refine Pure.run hm hc (yaa rfl) fun σ hS hA => ?_
 clear hS hA
 repeat' first|refine yaG ?_|refine yaC (wbb hm hc' enc arg hs harg l p f pre cap hx hp) ?_|exact yaF|refine yaS ?_ ?_<;>intro _
 exact .ret rfl (.bool wbz)
def wer : AFn := ⟨19, [.t 4], (.seq (.region [⟨some 4, .op (.mv (.k (.int .i64 0))), none⟩]) (.seq (.seq (.region [⟨some 6, .op (.mv (.t 0)), none⟩, ⟨some 7, .op (.len false (.t 6)), none⟩, ⟨some 8, .op (.mv (.k (.int .i64 0))), none⟩]) (.block 0 (.loop (.seq (.region [⟨some 9, .op (.bin .lss (.t 8) (.t 7)), none⟩]) (.seq (.cond (.t 9) .skip (.exit 0)) (.seq (.block 1 (.seq (.region [⟨some 10, .op (.mv (.t 8)), none⟩, ⟨some 5, .op (.mv (.t 10)), none⟩]) (.seq (.region [⟨some 11, .op (.mv (.t 1)), none⟩, ⟨some 12, .op (.mv (.t 0)), none⟩, ⟨some 13, .op (.mv (.t 5)), none⟩, ⟨some 14, .op (.iaddr 1 (.t 12) (.t 13)), none⟩, ⟨some 15, .op (.load false 1 (.t 14)), none⟩, ⟨some 16, .op (.bin .eql (.t 11) (.t 15)), none⟩]) (.cond (.t 16) (.seq (.region [⟨some 17, .op (.mv (.t 5)), none⟩, ⟨some 4, .op (.mv (.t 17)), none⟩]) .ret) .skip)))) (.region [⟨some 18, .op (.bin .add (.t 8) (.k (.int .i64 1))), none⟩, ⟨some 8, .op (.mv (.t 18)), none⟩]))))))) (.seq (.region [⟨some 4, .op (.mv (.k (.int .i64 (-1)))), none⟩]) .ret)))⟩
theorem zju {P : Program} (hm : P.follows .mixedOrders = true) {fz : List Nat} {n : Nat} (hc : wc P fz n = some wer) (l : List Int) (v : Int) (hx : l.length <= 34359738368) : Pure P n [.c (.fz (l.map fun n => [.int .i64 n])), .c (.int .i64 v)] (.c (.int .i64 (idxA (fun a => v == a) l 0))) := by
 refine Pure.run hm hc (yaa rfl) fun σ hS hA => ?_
 clear hS hA
 repeat' first|refine yaG ?_|exact yaF|refine yaS ?_ ?_<;>intro _
 refine Go.keep [0, 1, 7, 8] (Go.loops (I := fun m fr τ => ∃ i : Nat, ∃ k : Int, m = l.length - i /\ i <= l.length /\ k = i /\ idxA (fun a => v == a) l 0 = idxA (fun a => v == a) (l.drop i) k /\
  fr = [(0, .c (.fz (l.map fun n => [.int .i64 n]))), (1, .c (.int .i64 v)), (7, .c (.int .i64 (l.length : Int))), (8, .c (.int .i64 k))] /\ τ = E σ []) ?_ _ _ _ ⟨0, _, rfl, yae _, rfl, rfl, rfl, rfl⟩)
 rintro m fr τ ⟨i, k, rfl, hi, hn, hsl, rfl, rfl⟩ hrec
 by_cases hlt : i < l.length
 ·repeat' first|refine yaG ?_|((first|apply yG|apply yH|apply yI);exact rfl;(first|exact yX (enc := fun n => [.int .i64 n]) rfl rfl hn hlt rfl))|exact yaF|refine yaS ?_ ?_<;>intro _
  ·refine .ret rfl (.int ?_)
   rw [hsl, List.drop_eq_getElem_cons hlt, idxA, if_pos (by simp_all)]
  ·rename_i h
   refine Go.keep [0, 1, 7, 8] (hrec _ _ _ (by omega) ⟨i + 1, _, rfl, hlt, wb hn (by omega), ?_, rfl, rfl⟩)
   rw [hsl, List.drop_eq_getElem_cons hlt, idxA, if_neg (by simpa using h), jf (by omega) (by omega)]
 ·repeat' first|refine yaG ?_|exact yaF|refine yaS ?_ ?_<;>intro _
  refine .ret rfl (.int ?_)
  rw [hsl, yad (by omega)]
  rfl
theorem jg3 {P : Program} (hm : P.follows .mixedOrders = true) {fz fz' : List Nat} {n n' : Nat} (hc : wc P fz n = some (zb7 n')) (hc' : wc P fz' n' = some wer) (l : List Int) (v : Int) (hx : l.length <= 34359738368) : Pure P n [.c (.fz (l.map fun n => [.int .i64 n])), .c (.int .i64 v)] (.c (.bool (l.any fun a => v == a))) := by
 refine Pure.run hm hc (yaa rfl) fun σ hS hA => ?_
 clear hS hA
 repeat' first|refine yaG ?_|refine yaC (zju hm hc' l v hx) ?_|exact yaF|refine yaS ?_ ?_<;>intro _
 exact .ret rfl (.bool wbz)
end Go.Proofs.YtmmgbgpglhbhcaaGreat.Am
namespace Go.Proofs.YtmmgbgpglhbhcaaGreat.Am
open Go.RowKit Go.ChangeShapes Go.WideShapes

def Cx.at (W : World) : Cx := ⟨fun _ _ => ⟨0, 0, 0, false⟩, fun _ _ => False, fun _ => False, W⟩
theorem Rl.at (W : World) : Rl (Cx.at W) (wa.none 0) :=
 ⟨fun _ _ h => h.elim, fun id v es hg => by simp [wa.none] at hg, fun b => ⟨fun h => h.elim, fun ⟨id, v, es, hg, _⟩ => by simp [wa.none] at hg⟩, fun id v es id' v' es' hg => by simp [wa.none] at hg, fun id v es hg => by simp [wa.none] at hg⟩
theorem jmf {D : Cx} {b : Bool} {v : Value} (h : RpV D (.c (.bool b)) v) : v = .bool b := by
 cases h with
 | c h => cases h; rfl
theorem Pure.calls {P : Program} {f : Nat} {args : List AV} {b : Bool} (h : Pure P f args (.c (.bool b))) {W : World} {cargs : Array Value} (ha : ∃ hl : cargs.size = args.length, ∀ i (hi : i < args.length), RpV (Cx.at W) args[i] (cargs[i]'(by omega))) :
 Calls P f cargs W fun e w' => e = .returned (.bool b) /\ Below W.heap.size W w' := by
 refine ((h.at_ (wa.none 0)).2 (Cx.at W) cargs (Rl.at W) ha).mono ?_
 rintro e w' ⟨D, σ', r, v, rfl, rfl, ⟨rfl, rfl⟩, hR, hv, hle⟩
 exact ⟨by rw [jmf hv], ⟨hle.os, hle.tape, hle.output, hle.size, fun k hk => hle.keep k hk (fun h => h.elim)⟩⟩

section
variable {H : Type} {enc : TypeId × Value -> H} {P : Program} {W : World}
structure jp (enc : TypeId × Value -> H) (P : Program) (W : World) (t : TypeId) {α : Type} (e : α -> List Ce) (good : α -> Prop) : Prop where
 op : ∀ fuel cs x, DataW.trod enc P W 0 (fun _ => true) true fuel t cs = some x -> (∀ n ∈ x.1.weights P t, n <= reachBytes) ->
  ∃ a, good a /\ ∃ hl : cs.length = (e a).length, ∀ i (hi : i < (e a).length), Rp (Cx.at W) (e a)[i] (cs[i]'(by omega))
theorem jp.one {t : TypeId} {α : Type} {e : α -> List Ce} {good : α -> Prop} (h : ∀ fuel cs x, DataW.trod enc P W 0 (fun _ => true) true fuel t cs = some x -> (∀ n ∈ x.1.weights P t, n <= reachBytes) -> ∃ a y v, good a /\ e a = [y] /\ cs = [v] /\ Rp (Cx.at W) y v) : jp enc P W t e good := by
 constructor
 intro fuel cs x h1 h2
 obtain ⟨a, y, v, hg, he, rfl, hr⟩ := h fuel cs x h1 h2
 refine ⟨a, hg, by simp [he], fun i hi => ?_⟩
 have hi' : i = 0 := by rw [he] at hi; simpa using hi
 subst hi'
 simp only [he, List.getElem_cons_zero]
 exact hr
theorem jp.iso {t : TypeId} {α β : Type} {e : β -> List Ce} {good : β -> Prop} (h : jp enc P W t e good) (g : β -> α) {e' : α -> List Ce} {good' : α -> Prop} (he : ∀ b, e' (g b) = e b) (hg : ∀ b, good b -> good' (g b)) : jp enc P W t e' good' := by
 constructor
 intro fuel cs x h1 h2
 obtain ⟨a, h3, hl, h4⟩ := h.op fuel cs x h1 h2
 refine ⟨g a, hg a h3, by rw [he]; exact hl, fun i hi => ?_⟩
 simp only [he]
 exact h4 i (by rw [he] at hi; exact hi)
theorem jp.int {t : TypeId} {k : IntKind} (ht : P.underlying t = some (.int k)) : jp enc P W t (fun n : Int => [.int k n]) (fun n => (Lit.int k n).wf = true) := by
 refine jp.one fun fuel cs x h1 _ => ?_
 obtain ⟨n, rfl, rfl, hw⟩ := DataW.trod_int ht h1
 exact ⟨n, _, _, hw, rfl, rfl, .int k n⟩
theorem jp.bool {t : TypeId} (ht : P.underlying t = some .bool) : jp enc P W t (fun b : Bool => [.bool b]) (fun _ => True) := by
 refine jp.one fun fuel cs x h1 _ => ?_
 obtain ⟨n, rfl, rfl⟩ := DataW.trod_bool ht h1
 exact ⟨n, _, _, trivial, rfl, rfl, .bool n⟩
theorem jp.str {t : TypeId} (ht : P.underlying t = some .string) : jp enc P W t (fun s : List UInt8 => [.str s]) (fun s => s.length <= 140737488351232) := by
 refine jp.one fun fuel cs x h1 h2 => ?_
 obtain ⟨s, rfl, rfl, hs⟩ := DataW.trod_string ht h1
 refine ⟨s.data.toList, _, _, ?_, rfl, rfl, .str _⟩
 have := h2 s.data.toList.length (by simp [DataW.weights])
 exact this
theorem jfr {α : Type} {p : Nat -> α -> Prop} : ∀ n, (∀ i, i < n -> ∃ a, p i a) -> ∃ l : List α, l.length = n /\ ∀ i (hi : i < l.length), p i l[i]
 | 0, _ => ⟨[], rfl, fun i hi => by simp at hi⟩
 | n + 1, h => by
  obtain ⟨l, h1, h2⟩ := jfr n fun i hi => h i (by omega)
  obtain ⟨a, ha⟩ := h n (by omega)
  refine ⟨l ++ [a], by simp [h1], fun i hi => ?_⟩
  by_cases e : i < l.length
  ·rw [yap e]; exact h2 i e
  ·have : i = l.length := by simp at hi; omega
   subst this
   have e1 : (l ++ [a])[l.length]'hi = a := by rw [List.getElem_append_right (Nat.le_refl _)]; simp
   rw [e1, h1]
   exact ha
theorem zcy {e : TypeId} : ∀ {l : List (DataW H)} {d : DataW H} {n : Nat}, d ∈ l -> n ∈ d.weights P e -> n ∈ DataW.weightsAll P e l
 | y :: r, d, n, h, hn => by
  simp only [DataW.weightsAll, List.mem_append]
  rcases List.mem_cons.1 h with rfl | h
  ·exact .inl hn
  ·exact .inr (zcy h hn)
theorem zlg {a : Addr} (h : a.spot = none) (m j : Nat) : (a.add m).add j = ⟨a.block, a.off + (m + j), none⟩ := by
 obtain ⟨b, o, s⟩ := a
 subst h
 simp only [Addr.add]
 split <;> split <;> simp_all [Nat.add_assoc]
theorem zi0 {w : World} {a : Addr} {v : Value} (h : w.cell? a = some v) : a.spot = none /\ a.block < w.heap.size := by
 unfold World.cell? at h
 split at h
 ·rename_i hb
  refine ⟨?_, ?_⟩
  ·split at h
   ·cases h
   ·rename_i hs
    simpa using hs
  ·exact (Array.getElem?_eq_some_iff.1 hb).1
 ·cases h
theorem jp.slice {t el : TypeId} {α : Type} {e : α -> List Ce} {good : α -> Prop} {s : Nat} (ht : P.underlying t = some (.slice el)) (h : jp enc P W el e good) (hs : P.cellsOf el = s) (hs0 : 0 < s) (he : ∀ a, (e a).length = s) :
 jp enc P W t (fun l : List α => [.fz (l.map e)]) (fun l => l.length * P.bytesOf el <= 140737488351232 /\ ∀ a ∈ l, good a) := by
 refine jp.one fun fuel cs x h1 h2 => ?_
 rcases DataW.trod_slice ht h1 with ⟨rfl, rfl⟩ | ⟨a, len, cap, elems, rest, n, _, rfl, rfl, hb, hl, hm, hlen, hel, hsp, hns⟩
 ·exact ⟨[], _, _, ⟨by simp, by simp⟩, rfl, rfl, .fz0 _ _⟩
 rw [hs] at hel
 have each : ∀ i, i < len -> ∃ y, good y /\ ∀ j (hj : j < (e y).length), ∃ v, W.cell? ((a.add (i * s)).add j) = some v /\ Rp (Cx.at W) (e y)[j] v := by
  intro i hi
  have hi' : i < elems.length := by omega
  have h3 := hel i hi
  rw [yaf hi', Option.bind_eq_some_iff] at h3
  obtain ⟨cs, hc, hd⟩ := h3
  obtain ⟨y, hy, hl, hr⟩ := h.op n cs _ hd (fun m hm => h2 m (by
   simp only [DataW.weights, ht]
   refine List.mem_cons_of_mem _ (List.mem_append_left _ (zcy (d := elems[i].1) (List.mem_map_of_mem (yab hi')) hm))))
  obtain ⟨_, hcl, hcc⟩ := World.cells?_some hc
  refine ⟨y, hy, fun j hj => ⟨cs[j]'(by omega), ?_, hr j hj⟩⟩
  rw [hcc j (by rw [<- he y]; exact hj), yaf]
 obtain ⟨l, hll, hl2⟩ := jfr len each
 refine ⟨l, _, _, ⟨?_, fun y hy => ?_⟩, rfl, rfl, ?_⟩
 ·have := h2 _ (by
   simp only [DataW.weights, ht]
   exact List.mem_cons_self)
  simp only [List.length_map] at this
  have h5 : l.length * P.bytesOf el <= (elems.length + rest.length) * P.bytesOf el := yam _ (by omega)
  exact yah h5 this
 ·obtain ⟨i, hi, rfl⟩ := List.mem_iff_getElem.1 hy
  exact (hl2 i hi).1
 ·rcases yax len with h0 | h0
  ·have hl0 : l = [] := yal (by omega)
   subst hl0
   subst h0
   exact .fz0 _ _
  ·obtain ⟨v0, hv0, _⟩ := (hl2 0 (by omega)).2 0 (by rw [he]; exact hs0)
   have hsp0 : a.spot = none /\ a.block < W.heap.size := by
    have := zi0 hv0
    simpa [Addr.add] using this
   obtain ⟨b, o, sp⟩ := a
   obtain ⟨rfl, hbl⟩ := hsp0
   have hlm : (l.map e).length = len := by simp [hll]
   have key := Rp.fz (C := Cx.at W) (l.map e) b o cap s (fun i j => (W.cell? ⟨b, o + (i * s + j), none⟩).getD .nilFunc) hbl (fun h => h.elim) (by omega) (fun i hi => by simp [he]) (fun i j hi hj => by
    rw [hlm] at hi
    obtain ⟨v, hv, _⟩ := (hl2 i (by omega)).2 j (by rw [he]; exact hj)
    rw [zlg rfl] at hv
    show W.cell? _ = _
    rw [hv]
    rfl) (fun i j hi hj => by
    rw [hlm] at hi
    have hj' : j < (e (l[i]'(by omega))).length := by simpa using hj
    obtain ⟨v, hv, hr⟩ := (hl2 i (by omega)).2 j hj'
    rw [zlg rfl] at hv
    simp only [hv, Option.getD_some, List.getElem_map]
    exact hr)
   rw [hlm] at key
   exact key

structure jhp (enc : TypeId × Value -> H) (P : Program) (W : World) (fs : Array Field) (k off : Nat) {α : Type} (e : α -> List Ce) (good : α -> Prop) : Prop where
 op : ∀ (cs : List Value) (n : Nat) (xs : List (DataW H × List MemPlace)), xs.length = fs.size -> (∀ (i : Nat) (f : Field), fs[i]? = some f -> DataW.trod enc P W 0 (fun _ => true) true n f.type ((cs.drop f.offset).take (P.cellsOf f.type)) = xs[i]?) ->
  (∀ (i : Nat) (f : Field) (x : DataW H × List MemPlace), fs[i]? = some f -> xs[i]? = some x -> ∀ m ∈ x.1.weights P f.type, m <= reachBytes) ->
  ∃ a, good a /\ ∀ i (hi : i < (e a).length), ∃ v, cs[off + i]? = some v /\ Rp (Cx.at W) (e a)[i] v
theorem jhp.nil {fs : Array Field} {k off : Nat} : jhp enc P W fs k off (fun _ : Unit => []) (fun _ => True) :=
 ⟨fun cs n xs _ _ _ => ⟨(), trivial, fun i hi => by simp at hi⟩⟩
theorem jhp.cons {fs : Array Field} {k off s : Nat} {f : Field} {α β : Type} {e : α -> List Ce} {good : α -> Prop} {e' : β -> List Ce} {good' : β -> Prop} (hf : fs[k]? = some f) (h : jp enc P W f.type e good) (ho : f.offset = off) (he : ∀ a, (e a).length = s) (hr : jhp enc P W fs (k + 1) (off + s) e' good') :
 jhp enc P W fs k off (fun p : α × β => e p.1 ++ e' p.2) (fun p => good p.1 /\ good' p.2) := by
 constructor
 intro cs n xs hxl hx hw
 obtain ⟨b, hb, hb2⟩ := hr.op cs n xs hxl hx hw
 have hk : k < xs.length := by rw [hxl]; exact (Array.getElem?_eq_some_iff.1 hf).1
 have h1 := hx k f hf
 rw [yaf hk] at h1
 obtain ⟨a, ha, hl, ha2⟩ := h.op n _ _ h1 (hw k f _ hf (yaf hk))
 refine ⟨(a, b), ⟨ha, hb⟩, fun i hi => ?_⟩
 by_cases c : i < (e a).length
 ·refine ⟨_, ?_, by
   simp only [List.getElem_append_left c]
   exact ha2 i c⟩
  have h2 : ((cs.drop f.offset).take (P.cellsOf f.type))[i]? = some (((cs.drop f.offset).take (P.cellsOf f.type))[i]'(by omega)) := yaf _
  rw [List.getElem?_take] at h2
  split at h2
  ·rw [List.getElem?_drop] at h2
   rw [<- h2]
   congr 1
   omega
  ·cases h2
 ·have hi' : i - (e a).length < (e' b).length := by simp only [List.length_append] at hi; omega
  obtain ⟨v, h2, h3⟩ := hb2 (i - (e a).length) hi'
  refine ⟨v, ?_, ?_⟩
  ·rw [<- h2, he]
   congr 1
   have := he a
   omega
  ·simp only [List.getElem_append_right (Nat.le_of_not_lt c)]
   exact h3
theorem jp.struct {t : TypeId} {fs : Array Field} {α : Type} {e : α -> List Ce} {good : α -> Prop} {s : Nat} (ht : P.underlying t = some (.struct fs)) (h : jhp enc P W fs 0 0 e good) (hs : P.cellsOf t = s) (he : ∀ a, (e a).length = s) : jp enc P W t e good := by
 constructor
 intro fuel cs x h1 h2
 obtain ⟨xs, n, rfl, rfl, hl, hxl, hx⟩ := DataW.trod_struct ht h1
 obtain ⟨a, ha, ha2⟩ := h.op cs n xs hxl hx (fun i f y hf hy m hm => h2 m (by
  simp only [DataW.weights, ht]
  refine DataW.weights_mem_each (j := i) (t := f.type) (d := y.1) ?_ ?_ m hm
  ·rw [List.getElem?_map, Array.getElem?_toList, hf]; rfl
  ·rw [List.getElem?_map, hy]; rfl))
 refine ⟨a, ha, by rw [he, hl, hs], fun i hi => ?_⟩
 obtain ⟨v, h3, h4⟩ := ha2 i hi
 rw [ybo] at h3
 obtain ⟨_, rfl⟩ := List.getElem?_eq_some_iff.1 h3
 exact h4
theorem jp.agg {t : TypeId} {fs : Array Field} {α : Type} {e : α -> List Ce} {good : α -> Prop} (h : jp enc P W t e good) (ht : P.underlying t = some (.struct fs)) {r : Reach} {b0 : Nat} {v : Value} (hv : Value.okWide P W r b0 t v) {d : DataW H} {ps : List MemPlace} (hd : DataW.Trod enc P W 0 (fun _ => true) true t v d ps) (hw : ∀ n ∈ d.weights P t, n <= reachBytes) :
 ∃ a, good a /\ RpV (Cx.at W) (.agg (e a)) v := by
 simp only [Value.okWide, ht] at hv
 obtain ⟨cs, rfl, _, _⟩ := hv
 obtain ⟨fuel, hf⟩ := hd
 obtain ⟨a, ha, hl, hr⟩ := h.op fuel _ _ hf hw
 refine ⟨a, ha, .agg (by simpa [Value.cells] using hl) fun i hi => ?_⟩
 have := hr i hi
 simpa [Value.cells] using this
theorem jp.c {t : TypeId} {α : Type} {e : α -> Ce} {good : α -> Prop} (h : jp enc P W t (fun a => [e a]) good) {v : Value} (hv : v.cells = #[v]) {d : DataW H} {ps : List MemPlace} (hd : DataW.Trod enc P W 0 (fun _ => true) true t v d ps) (hw : ∀ n ∈ d.weights P t, n <= reachBytes) :
 ∃ a, good a /\ RpV (Cx.at W) (.c (e a)) v := by
 obtain ⟨fuel, hf⟩ := hd
 rw [hv] at hf
 obtain ⟨a, ha, hl, hr⟩ := h.op fuel _ _ hf hw
 exact ⟨a, ha, .c (hr 0 (by simp))⟩
theorem wfr {t el : TypeId} (ht : P.underlying t = some (.slice el)) {r : Reach} {b0 : Nat} {v : Value} (hv : Value.okWide P W r b0 t v) : v.cells = #[v] := by
 obtain ⟨a, len, cap, rfl⟩ := okWide_slice ht hv
 rfl
end
end Go.Proofs.YtmmgbgpglhbhcaaGreat.Am
