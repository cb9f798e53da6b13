/- The abstract machine, part 1: abstract values, what they stand for in a world of the model, and what keeps that. -/
import Derived.Orders
import Derived.RowKit3
import Derived.OneCell
set_option linter.unusedVariables false
set_option linter.unusedSimpArgs false
namespace Go.Proofs.Ytjlhfjpnnildhaa.Am
open Go.RowKit

/-- An abstract cell: what one cell of memory may hold. -/
inductive Ce where
  | int (k : IntKind) (n : Int)
  | bool (b : Bool)
  | str (s : List UInt8)
  | nilp
  | nils
  | nilf
  | emp                                   -- an empty slice without capacity, nil or not
  | any                                   -- of which nothing is known
  | fz (es : List (List Ce))              -- a slice that nobody writes any more: its elements, each as its cells
  | fp (cs : List Ce)                     -- a pointer to cells that nobody writes any more
  | sl (id v i n c : Nat)                 -- a slice of an owned block: from element i, n elements, c at least in its capacity
  | ptr (id v i j : Nat)                  -- a pointer into an owned block: element i, cell j
  | fn (f : Nat) (pre cap : List Ce)
  deriving Inhabited

/-- An abstract value. -/
inductive AV where
  | c (x : Ce)
  | agg (cs : List Ce)
  | tup (vs : List AV)
  | un
  deriving Inhabited

structure Loc where
  b : Nat
  s : Nat
  base : Nat
  virt : Bool

/-- What is known of a world: where ids live, which of them have a place, which blocks are written by us. -/
structure Cx where
  μ : Nat → Nat → Loc
  F : Nat → Nat → Prop
  M : Nat → Prop
  w : World

inductive Rp (C : Cx) : Ce → Value → Prop where
  | int (k : IntKind) (n : Int) : Rp C (.int k n) (.int k n)
  | bool (b : Bool) : Rp C (.bool b) (.bool b)
  | str (s : List UInt8) : Rp C (.str s) (.string ⟨s.toArray⟩)
  | nilp : Rp C .nilp (.pointer none)
  | nils : Rp C .nils (.slice none 0 0)
  | nilf : Rp C .nilf .nilFunc
  | emp (a : Option Addr) : Rp C .emp (.slice a 0 0)
  | any (v : Value) (h1 : ∀ cs, v ≠ .agg cs) (h2 : ∀ cs, v ≠ .tuple cs) : Rp C .any v
  | fz0 (a : Option Addr) (cap : Nat) : Rp C (.fz []) (.slice a 0 cap)
  | fz (es : List (List Ce)) (b o cap s : Nat) (vs : Nat → Nat → Value) (hl : b < C.w.heap.size) (hM : ¬ C.M b) (hc : es.length ≤ cap)
      (hs : ∀ i (hi : i < es.length), es[i].length = s)
      (cell : ∀ i j, i < es.length → j < s → C.w.cell? ⟨b, o + (i * s + j), none⟩ = some (vs i j))
      (h : ∀ i j (hi : i < es.length) (hj : j < es[i].length), Rp C (es[i][j]) (vs i j)) : Rp C (.fz es) (.slice (some ⟨b, o, none⟩) es.length cap)
  | fp (cs : List Ce) (b o : Nat) (vs : Nat → Value) (hl : b < C.w.heap.size) (hM : ¬ C.M b)
      (cell : ∀ j, j < cs.length → C.w.cell? ⟨b, o + j, none⟩ = some (vs j))
      (h : ∀ j (hj : j < cs.length), Rp C (cs[j]) (vs j)) : Rp C (.fp cs) (.pointer (some ⟨b, o, none⟩))
  | sl0 (id v i : Nat) (a : Option Addr) (hF : C.F id v) : Rp C (.sl id v i 0 0) (.slice a 0 0)
  | sl (id v i n c cap : Nat) (hF : C.F id v) (hn : n ≤ c) (hc : c ≤ cap) (hv : (C.μ id v).virt = false)
      (hk : ∃ cs t, C.w.heap[(C.μ id v).b]? = some (.cells cs t (0, 0)) ∧ (C.μ id v).base + (i + cap) * (C.μ id v).s ≤ cs.size) :
      Rp C (.sl id v i n c) (.slice (some ⟨(C.μ id v).b, (C.μ id v).base + i * (C.μ id v).s, none⟩) n cap)
  | ptr (id v i j : Nat) (hF : C.F id v) (hv : (C.μ id v).virt = false) : Rp C (.ptr id v i j) (.pointer (some ⟨(C.μ id v).b, (C.μ id v).base + (i * (C.μ id v).s + j), none⟩))
  | fn (f : Nat) (pre cap : List Ce) (ps cs : Array Value) (hp : ps.size = pre.length) (hc : cs.size = cap.length)
      (h1 : ∀ i (hi : i < pre.length), Rp C pre[i] (ps[i]'(by omega))) (h2 : ∀ i (hi : i < cap.length), Rp C cap[i] (cs[i]'(by omega))) : Rp C (.fn f pre cap) (.func (.func f) ps cs)

inductive RpV (C : Cx) : AV → Value → Prop where
  | c {x : Ce} {v : Value} (h : Rp C x v) : RpV C (.c x) v
  | agg {cs : List Ce} {vs : Array Value} (hl : vs.size = cs.length) (h : ∀ i (hi : i < cs.length), Rp C cs[i] (vs[i]'(by omega))) : RpV C (.agg cs) (.agg vs)
  | tup {xs : List AV} {vs : Array Value} (hl : vs.size = xs.length) (h : ∀ i (hi : i < xs.length), RpV C xs[i] (vs[i]'(by omega))) : RpV C (.tup xs) (.tuple vs)
  | un (v : Value) : RpV C .un v

/-- A cell's value is none of several cells. -/
theorem Rp.one {C : Cx} {x : Ce} {v : Value} (h : Rp C x v) : (∀ cs, v ≠ .agg cs) ∧ (∀ cs, v ≠ .tuple cs) := by
  cases h <;> first | exact ⟨by assumption, by assumption⟩ | exact ⟨fun _ e => (by cases e), fun _ e => (by cases e)⟩
theorem Rp.oneCells {C : Cx} {x : Ce} {v : Value} (h : Rp C x v) : v.cells = #[v] := by
  have := h.one
  cases v <;> first | rfl | exact absurd rfl (this.1 _)

/-- What is known grows. -/
structure Cx.Le (C D : Cx) : Prop where
  F : ∀ id v, C.F id v → D.F id v ∧ D.μ id v = C.μ id v
  os : D.w.os = C.w.os
  tape : D.w.tape = C.w.tape
  output : D.w.output = C.w.output
  size : C.w.heap.size ≤ D.w.heap.size
  keep : ∀ b, b < C.w.heap.size → ¬ C.M b → D.w.heap[b]? = C.w.heap[b]?
  shp : ∀ (b : Nat) cs t, C.w.heap[b]? = some (.cells cs t (0, 0)) → ∃ cs', D.w.heap[b]? = some (.cells cs' t (0, 0)) ∧ cs'.size = cs.size
  M : ∀ b, b < C.w.heap.size → D.M b → C.M b
theorem Cx.Le.refl (C : Cx) : C.Le C := ⟨fun _ _ h => ⟨h, rfl⟩, rfl, rfl, rfl, Nat.le_refl _, fun _ _ _ => rfl, fun _ cs _ h => ⟨cs, h, rfl⟩, fun _ _ h => h⟩
theorem Cx.Le.trans {A B D : Cx} (h : A.Le B) (k : B.Le D) : A.Le D where
  F id v hf := ⟨(k.F id v (h.F id v hf).1).1, ((k.F id v (h.F id v hf).1).2).trans (h.F id v hf).2⟩
  os := k.os.trans h.os
  tape := k.tape.trans h.tape
  output := k.output.trans h.output
  size := Nat.le_trans h.size k.size
  keep b hb hM := (k.keep b (Nat.lt_of_lt_of_le hb h.size) (fun hm => hM (h.M b hb hm))).trans (h.keep b hb hM)
  shp b cs t hc := by
    obtain ⟨cs1, h1, e1⟩ := h.shp b cs t hc
    obtain ⟨cs2, h2, e2⟩ := k.shp b cs1 t h1
    exact ⟨cs2, h2, e2.trans e1⟩
  M b hb hm := h.M b hb (k.M b (Nat.lt_of_lt_of_le hb h.size) hm)

theorem Cx.Le.cell {C D : Cx} (h : C.Le D) {b o : Nat} (hb : b < C.w.heap.size) (hM : ¬ C.M b) : D.w.cell? ⟨b, o, none⟩ = C.w.cell? ⟨b, o, none⟩ := by
  simp only [World.cell?, h.keep b hb hM]

theorem Rp.mono {C D : Cx} (le : C.Le D) {x : Ce} {v : Value} (h : Rp C x v) : Rp D x v := by
  induction h with
  | int k n => exact .int k n
  | bool b => exact .bool b
  | str s => exact .str s
  | nilp => exact .nilp
  | nils => exact .nils
  | nilf => exact .nilf
  | emp a => exact .emp a
  | any v h1 h2 => exact .any v h1 h2
  | fz0 a cap => exact .fz0 a cap
  | fz es b o cap s vs hl hM hc hs cell h ih =>
    exact .fz es b o cap s vs (Nat.lt_of_lt_of_le hl le.size) (fun hm => hM (le.M b hl hm)) hc hs (fun i j hi hj => (le.cell hl hM).trans (cell i j hi hj)) ih
  | fp cs b o vs hl hM cell h ih =>
    exact .fp cs b o vs (Nat.lt_of_lt_of_le hl le.size) (fun hm => hM (le.M b hl hm)) (fun j hj => (le.cell hl hM).trans (cell j hj)) ih
  | sl0 id v i a hF => exact .sl0 id v i a (le.F id v hF).1
  | sl id v i n c cap hF hn hc hv hk =>
    obtain ⟨hF', e⟩ := le.F id v hF
    obtain ⟨cs, t, hb, hz⟩ := hk
    obtain ⟨cs', hb', hz'⟩ := le.shp _ cs t hb
    have := Rp.sl (C := D) id v i n c cap hF' hn hc (by rw [e]; exact hv) (by rw [e]; exact ⟨cs', t, hb', by omega⟩)
    rw [e] at this
    exact this
  | ptr id v i j hF hv =>
    obtain ⟨hF', e⟩ := le.F id v hF
    have := Rp.ptr (C := D) id v i j hF' (by rw [e]; exact hv)
    rw [e] at this
    exact this
  | fn f pre cap ps cs hp hc h1 h2 ih1 ih2 => exact .fn f pre cap ps cs hp hc ih1 ih2

theorem RpV.mono {C D : Cx} (le : C.Le D) {x : AV} {v : Value} (h : RpV C x v) : RpV D x v := by
  induction h with
  | c h => exact .c (h.mono le)
  | agg hl h => exact .agg hl fun i hi => (h i hi).mono le
  | tup hl h ih => exact .tup hl ih
  | un v => exact .un v

/-! ### The store -/
structure Store where
  next : Nat
  get : Nat → Option (Nat × List (List Ce))
def Store.put (σ : Store) (id : Nat) (x : Nat × List (List Ce)) : Store := { σ with get := fun j => if j = id then some x else σ.get j }
def Store.new (σ : Store) (x : Nat × List (List Ce)) : Store := { next := σ.next + 1, get := fun j => if j = σ.next then some x else σ.get j }
def Store.del (σ : Store) (id : Nat) : Store := { σ with get := fun j => if j = id then none else σ.get j }

/-- The store is what the world holds. -/
structure Rl (C : Cx) (σ : Store) : Prop where
  F : ∀ id v, C.F id v → id < σ.next
  live : ∀ id v es, σ.get id = some (v, es) → C.F id v ∧ (∀ v', C.F id v' → v' ≤ v) ∧ ((C.μ id v).virt = true ↔ es = [])
  M : ∀ b, C.M b ↔ ∃ id v es, σ.get id = some (v, es) ∧ es ≠ [] ∧ (C.μ id v).b = b
  inj : ∀ id v es id' v' es', σ.get id = some (v, es) → es ≠ [] → σ.get id' = some (v', es') → es' ≠ [] → (C.μ id v).b = (C.μ id' v').b → id = id'
  blk : ∀ id v es, σ.get id = some (v, es) → es ≠ [] → ∃ cs t, C.w.heap[(C.μ id v).b]? = some (.cells cs t (0, 0)) ∧
    (C.μ id v).base + es.length * (C.μ id v).s ≤ cs.size ∧
    (∀ i (hi : i < es.length), es[i].length = (C.μ id v).s) ∧
    ∀ i j (hi : i < es.length) (hj : j < es[i].length), ∃ u, cs[(C.μ id v).base + (i * (C.μ id v).s + j)]? = some u ∧ Rp C es[i][j] u

/-! ### Frames -/
abbrev Fr := List (Nat × AV)
def look (fr : Fr) (t : Nat) : Option AV :=
  match fr with
  | [] => none
  | (j, x) :: r => if j = t then some x else look r t
structure FrR (C : Cx) (nt : Nat) (fr : Fr) (a : Act) : Prop where
  defers : a.defers = []
  size : a.tmps.size = nt
  slot : ∀ t x, look fr t = some x → t < nt ∧ RpV C x (a.tmps.getD t undef)
theorem FrR.mono {C D : Cx} (le : C.Le D) {nt : Nat} {fr : Fr} {a : Act} (h : FrR C nt fr a) : FrR D nt fr a := ⟨h.defers, h.size, fun t x hx => ⟨(h.slot t x hx).1, (h.slot t x hx).2.mono le⟩⟩
theorem FrR.put {C : Cx} {nt : Nat} {fr : Fr} {a : Act} (h : FrR C nt fr a) {d : Nat} (hd : d < nt) {x : AV} {v : Value} (hx : RpV C x v) : FrR C nt ((d, x) :: fr) (a.put (some d) v) := by
  refine ⟨h.defers, by simp [Act.put, h.size], fun t y hy => ?_⟩
  simp only [look] at hy
  split at hy
  · rename_i e
    subst e
    injection hy with hy
    subst hy
    refine ⟨hd, ?_⟩
    have : d < a.tmps.size := by rw [h.size]; exact hd
    simpa [Act.put, this] using hx
  · rename_i e
    obtain ⟨h1, h2⟩ := h.slot t y hy
    refine ⟨h1, ?_⟩
    have : (a.tmps.setIfInBounds d v).getD t undef = a.tmps.getD t undef := by
      simp [Array.getElem?_setIfInBounds_ne e]
    simpa [Act.put, this] using h2
theorem FrR.skip {C : Cx} {nt : Nat} {fr : Fr} {a : Act} (h : FrR C nt fr a) (v : Value) : FrR C nt fr (a.put none v) := h

end Go.Proofs.Ytjlhfjpnnildhaa.Am
