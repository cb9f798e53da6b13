/- The abstract machine, part 20: contracts out of runs; what may be said otherwise; lending. -/
import Derived.Test.YtjlhfjpnnildhaaAm19
set_option linter.unusedVariables false
set_option linter.unusedSimpArgs false
namespace Go.Proofs.Ytjlhfjpnnildhaa.Am
open Go.RowKit

structure AFn where
  nt : Nat
  rets : List RV
  body : AC
def compFn (P : Program) (fz : List Nat) (f : Nat) : Option AFn :=
  match P.funcs[f]? with
  | some fn =>
    match fn.body with
    | some c =>
      if fn.name == "runtime.NumGoroutine" then none else
      match retsOf P fn.results.toList, compCode P fz fn.ntmps c with
      | some rets, some b => some ⟨fn.ntmps, rets, b⟩
      | _, _ => none
    | none => none
  | none => none
def frOf : Nat → List AV → Fr
  | _, [] => []
  | k, x :: r => (k, x) :: frOf (k + 1) r

theorem look_frOf : ∀ (args : List AV) (k t : Nat) (x : AV), look (frOf k args) t = some x → k ≤ t ∧ ∃ h : t - k < args.length, args[t - k] = x
  | [], k, t, x, h => by simp [frOf, look] at h
  | y :: r, k, t, x, h => by
    simp only [frOf, look] at h
    split at h
    · rename_i e
      subst e
      injection h with h
      subst h
      exact ⟨Nat.le_refl _, by simp, by simp⟩
    · rename_i e
      obtain ⟨h1, h2, h3⟩ := look_frOf r (k + 1) t x h
      refine ⟨by omega, by simp; omega, ?_⟩
      have : t - k = (t - (k + 1)) + 1 := by omega
      simp only [this, List.getElem_cons_succ]
      exact h3

theorem Ok.of_go {P : Program} (hm : P.follows .mixedOrders = true) {fz : List Nat} {f : Nat} {af : AFn} (h : compFn P fz f = some af) {args : List AV} {σ : Store} {R : AV → Store → Prop} (hn : args.length ≤ af.nt) (hg : Go P σ.next af.nt af.rets R [.code af.body] (frOf 0 args) σ) : Ok P f args σ R := by
  unfold compFn at h
  split at h
  · rename_i fn hf
    split at h
    · rename_i c hb
      split at h
      · cases h
      · rename_i hname
        split at h
        · rename_i rets b hrets hcode
          injection h with h
          subst h
          refine ⟨⟨fn, hf, by rw [hb]; rfl, by simpa using hname⟩, fun C cargs hR ⟨hl, hargs⟩ => ?_⟩
          have hs := fun C h0 => hg.says hm (fz := fz) hf hrets C h0
          have hF : FrR C fn.ntmps (frOf 0 args) { tmps := cargs ++ Array.replicate (fn.ntmps - cargs.size) undef, defers := [] } := by
            refine ⟨rfl, by simp; simp at hn; omega, fun t x hx => ?_⟩
            obtain ⟨_, h2, h3⟩ := look_frOf args 0 t x hx
            simp only [Nat.sub_zero] at h2 h3
            refine ⟨by simp at hn; omega, ?_⟩
            have := hargs t h2
            rw [← h3]
            have hlt : t < cargs.size := by omega
            rw [Array.getD_eq_getD_getElem?, Array.getElem?_append_left hlt, Array.getElem?_eq_getElem hlt]
            exact this
          have hruns := says_code (hs C hR.F) (Cx.Le.refl C) (.code hcode .nil) hF hR
          intro cs
          obtain ⟨e, w', fr, h1, h2, h3, h4⟩ := hruns { (default : Frame) with fn := f, kind := .normal } cs rfl rfl
          have henter : Frame.enter P f cargs .normal = ({ (default : Frame) with fn := f, kind := .normal } : Frame).at { tmps := cargs ++ Array.replicate (fn.ntmps - cargs.size) undef, defers := [] } [.code c] := by
            simp [Frame.enter, Frame.at, hf, hb]
          rw [henter]
          exact ⟨e, w', fr, h1, h2, h3, h4⟩
        · cases h
    · cases h
  · cases h

theorem Ok.mono {P : Program} {f : Nat} {args : List AV} {σ : Store} {Q Q' : AV → Store → Prop} (h : Ok P f args σ Q) (hq : ∀ r σ', Q r σ' → Q' r σ') : Ok P f args σ Q' := by
  refine ⟨h.1, fun C cargs hR ha => (h.2 C cargs hR ha).mono ?_⟩
  rintro e w' ⟨D, σ', r, v, h1, h2, h3, h4⟩
  exact ⟨D, σ', r, v, h1, h2, hq _ _ h3, h4⟩

/-- .. stays what it is when greater ids are forgotten. -/
theorem Rp.cut {C D : Cx} {n : Nat} (hw : D.w = C.w) (hμ : D.μ = C.μ) (hF : ∀ id v, C.F id v → id < n → D.F id v) (hM : ∀ b, D.M b → C.M b) {x : Ce} {v : Value} (h : Rp C x v) (ho : Old n x) : Rp D x v := by
  induction h with
  | int k m => exact .int k m
  | bool b => exact .bool b
  | str s => exact .str s
  | nilp => exact .nilp
  | nils => exact .nils
  | nilf => exact .nilf
  | emp a => exact .emp a
  | any v h1 h2 => exact .any v h1 h2
  | fz0 a cap => exact .fz0 a cap
  | fz es b o cap s vs hl hMn hc hs cell h ih =>
    cases ho with
    | fz _ ho => exact .fz es b o cap s vs (by rw [hw]; exact hl) (fun hm => hMn (hM _ hm)) hc hs (by rw [hw]; exact cell) (fun i j hi hj => ih i j hi hj (ho i j hi hj))
  | fp cs b o vs hl hMn cell h ih =>
    cases ho with
    | fp _ ho => exact .fp cs b o vs (by rw [hw]; exact hl) (fun hm => hMn (hM _ hm)) (by rw [hw]; exact cell) (fun j hj => ih j hj (ho j hj))
  | sl0 id v i a hf =>
    cases ho with
    | sl _ _ _ _ _ ho => exact .sl0 _ _ _ _ (hF _ _ hf ho)
  | sl id v i m c cap hf hn hc hv hk =>
    cases ho with
    | sl _ _ _ _ _ ho =>
      have := Rp.sl (C := D) id v i m c cap (hF _ _ hf ho) hn hc (by rw [hμ]; exact hv) (by rw [hμ, hw]; exact hk)
      rw [hμ] at this
      exact this
  | ptr id v i j hf hv =>
    cases ho with
    | ptr _ _ _ _ ho =>
      have := Rp.ptr (C := D) id v i j (hF _ _ hf ho) (by rw [hμ]; exact hv)
      rw [hμ] at this
      exact this
  | fn f pre cap ps cs hp hc h1 h2 ih1 ih2 =>
    cases ho with
    | fn _ _ _ o1 o2 => exact .fn f pre cap ps cs hp hc (fun i hi => ih1 i hi (o1 i hi)) (fun i hi => ih2 i hi (o2 i hi))

/-! ### Freezing -/
/-- x, in a store, read as y, which nobody writes: what y leads to is not written by 'keep'. -/
inductive Frz (σ : Store) (n : Nat) : Ce → Ce → Prop where
  | same (x : Ce) (h : Old n x) : Frz σ n x x
  | sl (id v i m c : Nat) (es ys : List (List Ce)) (hn : n ≤ id) (hg : σ.get id = some (v, es)) (hi : i + m ≤ es.length) (hl : ys.length = m) (hs : ∀ k (hk : k < m), (ys[k]'(by omega)).length = (es[i + k]'(by omega)).length)
      (h : ∀ k j (hk : k < m) (hj : j < (ys[k]'(by omega)).length), Frz σ n ((es[i + k]'(by omega))[j]'(by have := hs k hk; omega)) ((ys[k]'(by omega))[j])) : Frz σ n (.sl id v i m c) (.fz ys)
  | nil : Frz σ n .nils (.fz [])
  | ptr (id v i j : Nat) (es : List (List Ce)) (e cs : List Ce) (hn : n ≤ id) (hg : σ.get id = some (v, es)) (he : es[i]? = some e) (hl : cs.length + j = e.length)
      (h : ∀ k (hk : k < cs.length), Frz σ n (e[j + k]'(by omega)) cs[k]) : Frz σ n (.ptr id v i j) (.fp cs)
  | fn (f : Nat) (pre cap pre' cap' : List Ce) (hp : pre'.length = pre.length) (hc : cap'.length = cap.length) (h1 : ∀ i (hi : i < pre.length), Frz σ n pre[i] (pre'[i]'(by omega))) (h2 : ∀ i (hi : i < cap.length), Frz σ n cap[i] (cap'[i]'(by omega))) : Frz σ n (.fn f pre cap) (.fn f pre' cap')
inductive FrzV (σ : Store) (n : Nat) : AV → AV → Prop where
  | c {x y : Ce} (h : Frz σ n x y) : FrzV σ n (.c x) (.c y)
  | agg {xs ys : List Ce} (hl : ys.length = xs.length) (h : ∀ i (hi : i < xs.length), Frz σ n xs[i] (ys[i]'(by omega))) : FrzV σ n (.agg xs) (.agg ys)
  | tup {xs ys : List AV} (hl : ys.length = xs.length) (h : ∀ i (hi : i < xs.length), FrzV σ n xs[i] (ys[i]'(by omega))) : FrzV σ n (.tup xs) (.tup ys)
  | un (x : AV) : FrzV σ n x .un

theorem Frz.sound {C D : Cx} {σ : Store} {n : Nat} (hR : Rl C σ) (hw : D.w = C.w) (hμ : D.μ = C.μ) (hF : ∀ id v, C.F id v → id < n → D.F id v) (hM : ∀ b, D.M b → C.M b) (hN : ∀ id v es, n ≤ id → σ.get id = some (v, es) → es ≠ [] → ¬ D.M (C.μ id v).b) {x y : Ce} (hz : Frz σ n x y) : ∀ {v : Value}, Rp C x v → Rp D y v := by
  induction hz with
  | same x h => intro v hx; exact hx.cut hw hμ hF hM h
  | nil => intro v hx; cases hx; exact .fz0 _ _
  | sl id v i m c es ys hn hg hi hl hs h ih =>
    intro u hx
    obtain ⟨ad, cap, rfl, hcap, hc⟩ := els_sound hR hx (ys := (es.drop i).take m) (by simp only [Store.els, hg]; rw [if_pos (by simp; exact hi)])
    have hlen : ((es.drop i).take m).length = m := by simp; omega
    rw [hlen] at hcap hx ⊢
    rcases Nat.eq_zero_or_pos m with h0 | h0
    · subst h0
      obtain rfl : ys = [] := List.eq_nil_of_length_eq_zero hl
      exact .fz0 _ _
    · have hne : es ≠ [] := by intro e; subst e; simp at hi; omega
      cases hx with
      | sl0 => omega
      | sl _ _ _ _ _ _ hf hnn hcc hvv hk =>
        obtain ⟨cs, t, hb, hz, hss, hcell⟩ := hR.blk id v es hg hne
        have hyl : ∀ k (hk : k < ys.length), ys[k].length = (C.μ id v).s := fun k hk => by rw [hs k (by omega)]; exact hss _ _
        have at_ : ∀ k j, k < m → j < (C.μ id v).s → ∃ u, cs[(C.μ id v).base + ((i + k) * (C.μ id v).s + j)]? = some u ∧ ∀ (q : i + k < es.length) (q2 : j < es[i + k].length), Rp C es[i + k][j] u := by
          intro k j hk hj
          obtain ⟨u, h1, h2⟩ := hcell (i + k) j (by omega) (by rw [hss]; exact hj)
          exact ⟨u, h1, fun _ _ => h2⟩
        subst hl
        refine .fz ys _ _ cap (C.μ id v).s (fun k j => cs.getD ((C.μ id v).base + ((i + k) * (C.μ id v).s + j)) undef) (by rw [hw]; exact lt_of_block hb) (hN id v es hn hg hne) (by omega) hyl (fun k j hk hj => ?_) (fun k j hk hj => ?_)
        · obtain ⟨u, h1, _⟩ := at_ k j hk hj
          rw [hw, show (C.μ id v).base + i * (C.μ id v).s + (k * (C.μ id v).s + j) = (C.μ id v).base + ((i + k) * (C.μ id v).s + j) by rw [Nat.add_mul]; omega]
          simp [World.cell?, hb, h1]
        · have hj' : j < (C.μ id v).s := by rw [← hyl k hk]; exact hj
          obtain ⟨u, h1, h2⟩ := at_ k j hk hj'
          have := ih k j hk hj (h2 (by omega) (by rw [hss]; exact hj'))
          simpa [h1] using this
  | ptr id v i j es e cs hn hg he hl h ih =>
    intro u hx
    obtain ⟨hi, rfl⟩ := List.getElem?_eq_some_iff.1 he
    have hne : es ≠ [] := by intro e; subst e; simp at hi
    obtain ⟨rfl, hFF, hvv⟩ := ptr_ptr hx
    obtain ⟨cc, t, hb, hz, hss, hcell⟩ := hR.blk id v es hg hne
    refine .fp cs _ _ (fun k => cc.getD ((C.μ id v).base + (i * (C.μ id v).s + (j + k))) undef) (by rw [hw]; exact lt_of_block hb) (hN id v es hn hg hne) (fun k hk => ?_) (fun k hk => ?_)
    · obtain ⟨u, h1, _⟩ := hcell i (j + k) hi (by omega)
      rw [hw, show (C.μ id v).base + (i * (C.μ id v).s + j) + k = (C.μ id v).base + (i * (C.μ id v).s + (j + k)) by omega]
      simp [World.cell?, hb, h1]
    · obtain ⟨u, h1, h2⟩ := hcell i (j + k) hi (by omega)
      have := ih k hk h2
      simpa [h1] using this
  | fn f pre cap pre' cap' hp hc h1 h2 ih1 ih2 =>
    intro u hx
    cases hx with
    | fn _ _ _ ps cs q1 q2 r1 r2 => exact .fn f pre' cap' ps cs (by omega) (by omega) (fun i hi => ih1 i (by omega) (r1 i (by omega))) (fun i hi => ih2 i (by omega) (r2 i (by omega)))
theorem FrzV.sound {C D : Cx} {σ : Store} {n : Nat} (hR : Rl C σ) (hw : D.w = C.w) (hμ : D.μ = C.μ) (hF : ∀ id v, C.F id v → id < n → D.F id v) (hM : ∀ b, D.M b → C.M b) (hN : ∀ id v es, n ≤ id → σ.get id = some (v, es) → es ≠ [] → ¬ D.M (C.μ id v).b) {x y : AV} (hz : FrzV σ n x y) : ∀ {v : Value}, RpV C x v → RpV D y v := by
  induction hz with
  | c h => intro v hx; exact .c (h.sound hR hw hμ hF hM hN (rpv_c hx))
  | agg hl h =>
    intro v hx
    cases hx with
    | agg q1 q2 => exact .agg (by omega) fun i hi => (h i (by omega)).sound hR hw hμ hF hM hN (q2 i (by omega))
  | tup hl h ih =>
    intro v hx
    cases hx with
    | tup q1 q2 => exact .tup (by omega) fun i hi => ih i (by omega) (q2 i (by omega))
  | un x => intro v _; exact .un v

/-- The end of a function that leaves the caller's store as σ2 says. -/
theorem Ok.ends {P : Program} {f : Nat} {args : List AV} {σ : Store} {Q : AV → Store → Prop} (h : Ok P f args σ Q) (σ2 : Store) (r2 : AV) (hnext : σ2.next = σ.next)
    (hq : ∀ r σ1, Q r σ1 → (∀ id y, σ2.get id = some y → σ1.get id = some y ∧ id < σ.next ∧ (σ.get id = some y ∨ ∀ i j (hi : i < y.2.length) (hj : j < y.2[i].length), Old σ.next y.2[i][j])) ∧ FrzV σ1 σ.next r r2) :
    Ok P f args σ (fun r σ' => r = r2 ∧ σ' = σ2) := by
  refine ⟨h.1, fun C cargs hR ha => (h.2 C cargs hR ha).mono ?_⟩
  rintro e w' ⟨D, σ1, r, v, rfl, rfl, hQ, hRD, hx, hle⟩
  obtain ⟨hsub, hfrz⟩ := hq r σ1 hQ
  let D2 : Cx := ⟨D.μ, fun id v => D.F id v ∧ id < σ.next, Mof D.μ σ2, D.w⟩
  have hMsub : ∀ b, D2.M b → D.M b := by
    rintro b ⟨id, v', es, hg, hne, rfl⟩
    exact (hRD.M _).2 ⟨id, v', es, (hsub id _ hg).1, hne, rfl⟩
  have hcut : ∀ {x : Ce} {u : Value}, Rp D x u → Old σ.next x → Rp D2 x u := fun hx ho => Rp.cut (C := D) (D := D2) rfl rfl (fun id v hf hlt => ⟨hf, hlt⟩) hMsub hx ho
  have hRl : Rl D2 σ2 := by
    refine ⟨fun id v hf => by rw [hnext]; exact hf.2, fun id v' es hg => ?_, fun b => Iff.rfl, fun id v es id' v' es' h1 n1 h2 n2 hb => ?_, fun id v' es hg hne => ?_⟩
    · obtain ⟨g1, g2, _⟩ := hsub id _ hg
      obtain ⟨a1, a2, a3⟩ := hRD.live id v' es g1
      exact ⟨⟨a1, g2⟩, fun v1 hv1 => a2 v1 hv1.1, a3⟩
    · exact hRD.inj id v es id' v' es' (hsub id _ h1).1 n1 (hsub id' _ h2).1 n2 hb
    · obtain ⟨g1, g2, g3⟩ := hsub id _ hg
      obtain ⟨cs, t, hb, hz, hl, hc⟩ := hRD.blk id v' es g1 hne
      refine ⟨cs, t, hb, hz, hl, fun i j hi hj => ?_⟩
      obtain ⟨u, h1, h2⟩ := hc i j hi hj
      refine ⟨u, h1, hcut h2 ?_⟩
      rcases g3 with g3 | g3
      · obtain ⟨cs0, t0, hb0, hz0, hl0, hc0⟩ := hR.blk id v' es g3 hne
        obtain ⟨u0, _, k2⟩ := hc0 i j hi hj
        exact k2.old hR.F
      · exact g3 i j hi hj
  refine ⟨D2, σ2, r2, v, rfl, rfl, ⟨rfl, rfl⟩, hRl, ?_, ?_⟩
  · refine hfrz.sound (D := D2) hRD rfl rfl (fun id v hf hlt => ⟨hf, hlt⟩) hMsub (fun id v' es hn hg hne hm => ?_) hx
    obtain ⟨id2, v2, es2, hg2, hne2, hb⟩ := hm
    have g := hsub id2 _ hg2
    have := hRD.inj id v' es id2 v2 es2 hg hne g.1 hne2 hb.symm
    omega
  · refine ⟨fun id v hf => ⟨⟨(hle.F id v hf).1, hR.F id v hf⟩, (hle.F id v hf).2⟩, hle.os, hle.tape, hle.output, hle.size, hle.keep, hle.shp, fun b hb hm => hle.M b hb (hMsub b hm)⟩
/-- The end of a function that leaves the caller's store as it was. -/
theorem Ok.pure {P : Program} {f : Nat} {args : List AV} {σ : Store} {Q : AV → Store → Prop} (h : Ok P f args σ Q) (r2 : AV) (hlt : ∀ id y, σ.get id = some y → id < σ.next)
    (hq : ∀ r σ1, Q r σ1 → (∀ id y, σ.get id = some y → σ1.get id = some y) ∧ FrzV σ1 σ.next r r2) : Ok P f args σ (fun r σ' => r = r2 ∧ σ' = σ) :=
  h.ends σ r2 rfl fun r σ1 hQ => ⟨fun id y hg => ⟨(hq r σ1 hQ).1 id y hg, hlt id y hg, .inl hg⟩, (hq r σ1 hQ).2⟩

/-! ### Lending: a function that only reads is handed what is owned -/
/-- A value that leads nowhere. -/
inductive Solid : AV → Prop where
  | int (k : IntKind) (n : Int) : Solid (.c (.int k n))
  | bool (b : Bool) : Solid (.c (.bool b))
  | str (s : List UInt8) : Solid (.c (.str s))
  | agg (cs : List Ce) (h : ∀ i (hi : i < cs.length), Solid (.c cs[i])) : Solid (.agg cs)
  | tup (vs : List AV) (h : ∀ i (hi : i < vs.length), Solid vs[i]) : Solid (.tup vs)
theorem Solid.move {C D : Cx} {x : AV} (hs : Solid x) : ∀ {v : Value}, RpV C x v → RpV D x v := by
  induction hs with
  | int k n => intro v h; rw [rp_int (rpv_c h)]; exact .c (.int _ _)
  | bool b => intro v h; rw [rp_bool (rpv_c h)]; exact .c (.bool _)
  | str s => intro v h; rw [rp_str (rpv_c h)]; exact .c (.str _)
  | agg cs h ih =>
    intro v hx
    cases hx with
    | agg q1 q2 => exact .agg q1 fun i hi => rpv_c (ih i hi (.c (q2 i hi)))
  | tup vs h ih =>
    intro v hx
    cases hx with
    | tup q1 q2 => exact .tup q1 fun i hi => ih i hi (q2 i hi)

def Store.none (n : Nat) : Store := ⟨n, fun _ => Option.none⟩
/-- 'args' read as 'args'' while nobody writes. -/
theorem Ok.lend {P : Program} {f : Nat} {args args' : List AV} {σ : Store} {r : AV} (h : Ok P f args' (Store.none σ.next) (fun r' σ' => r' = r ∧ σ' = Store.none σ.next)) (hs : Solid r) (hl : args'.length = args.length)
    (hf : ∀ i (hi : i < args.length), FrzV σ 0 args[i] (args'[i]'(by omega)) ∨ args[i] = args'[i]'(by omega)) : Ok P f args σ (fun r' σ' => r' = r ∧ σ' = σ) := by
  refine ⟨h.1, fun C cargs hR ⟨hal, ha⟩ => ?_⟩
  let C' : Cx := ⟨C.μ, C.F, fun _ => False, C.w⟩
  have hR' : Rl C' (Store.none σ.next) := ⟨hR.F, fun id v es hg => by simp [Store.none] at hg, fun b => ⟨fun h => h.elim, fun ⟨id, v, es, hg, _⟩ => by simp [Store.none] at hg⟩, fun id v es id' v' es' hg => by simp [Store.none] at hg, fun id v es hg => by simp [Store.none] at hg⟩
  have hle : C.Le C' := ⟨fun _ _ h => ⟨h, rfl⟩, rfl, rfl, rfl, Nat.le_refl _, fun _ _ _ => rfl, fun b cs t h => ⟨cs, h, rfl⟩, fun _ _ h => h.elim⟩
  refine (h.2 C' cargs hR' ⟨by omega, fun i hi => ?_⟩).mono ?_
  · rcases hf i (by omega) with h | h
    · exact h.sound (D := C') hR rfl rfl (fun id v _ hlt => absurd hlt (by omega)) (fun b h => h.elim) (fun _ _ _ _ _ _ h => h) (ha i (by omega))
    · rw [← h]; exact (ha i (by omega)).mono hle
  · rintro e w' ⟨D', σ', r', v, rfl, rfl, ⟨rfl, rfl⟩, hRD, hx, hle'⟩
    obtain ⟨g1, g2⟩ := hR.grow D'.w hle'.os hle'.tape hle'.output hle'.size (fun b hb => hle'.keep b hb (fun h => h))
    exact ⟨⟨C.μ, C.F, C.M, D'.w⟩, σ, r', v, rfl, rfl, ⟨rfl, rfl⟩, g1, hs.move hx, g2⟩

/-! ### Saying otherwise -/
/-- Some slots are kept. -/
def keep (fr : Fr) : List Nat → Fr
  | [] => []
  | t :: r => match look fr t with
    | some x => (t, x) :: keep fr r
    | none => keep fr r
theorem look_keep {fr : Fr} : ∀ {ts : List Nat} {t : Nat} {x : AV}, look (keep fr ts) t = some x → look fr t = some x
  | [], t, x, h => by simp [keep, look] at h
  | s :: ts, t, x, h => by
    simp only [keep] at h
    split at h
    · rename_i y hy
      simp only [look] at h
      split at h
      · rename_i e; subst e; injection h with h; subst h; exact hy
      · exact look_keep h
    · exact look_keep h
theorem Shift.keep {n0 nt : Nat} {fr : Fr} {σ : Store} (ts : List Nat) : Shift n0 nt fr σ (Am.keep fr ts) σ := fun C a hF hR => ⟨C, ⟨rfl, fun _ _ _ h => ⟨h, rfl⟩, fun _ _ h => h⟩, ⟨hF.defers, hF.size, fun t x hx => hF.slot t x (look_keep hx)⟩, hR⟩
theorem Go.keep {P : Program} {n0 nt : Nat} {rets : List RV} {R : AV → Store → Prop} {K : List AK} {fr : Fr} {σ : Store} (ts : List Nat) (h : Go P n0 nt rets R K (Am.keep fr ts) σ) : Go P n0 nt rets R K fr σ := .shift (Shift.keep ts) h

end Go.Proofs.Ytjlhfjpnnildhaa.Am
