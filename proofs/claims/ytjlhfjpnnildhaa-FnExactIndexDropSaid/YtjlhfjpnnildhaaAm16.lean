/- The abstract machine, part 16: code, runs of it, and that they are the model's. -/
import Derived.Test.YtjlhfjpnnildhaaAm15
import Derived.Orders
import Derived.Eval
set_option linter.unusedVariables false
set_option linter.unusedSimpArgs false
namespace Go.Proofs.Ytjlhfjpnnildhaa.Am
open Go.RowKit

inductive AC where
  | skip
  | region (ops : List AOper)
  | draw (segs : List (List AOper))
  | seq (a b : AC)
  | cond (c : Opd) (a b : AC)
  | block (id : Nat) (c : AC)
  | loop (c : AC)
  | exit (id : Nat)
  | ret
  deriving Inhabited

def dstOk (nt : Nat) : Option Nat → Bool
  | some d => decide (d < nt)
  | none => true
def frzOf (fz : List Nat) : Option Nat → Bool
  | some d => fz.contains d
  | none => false
/-- fz: the slots of boxes and literals that nobody writes. -/
def compOper (P : Program) (fz : List Nat) (nt : Nat) (ops : Array Oper) (o : Oper) : Option AOper :=
  if dstOk nt o.dst then
    match compOp P (frzOf fz o.dst) o.op with
    | some op =>
      match o.guard with
      | none => some ⟨o.dst, op, none⟩
      | some (j, b) => match (ops[j]?).bind (·.dst) with
        | some t => some ⟨o.dst, op, some (t, b)⟩
        | none => none
    | none => none
  else none
def compOpers (P : Program) (fz : List Nat) (nt : Nat) (ops : Array Oper) : List Oper → Option (List AOper)
  | [] => some []
  | o :: r => match compOper P fz nt ops o, compOpers P fz nt ops r with
    | some x, some l => some (x :: l)
    | _, _ => none
/-! ### Regions whose order is drawn -/
def Opd.tmps : Opd → List Nat
  | .t i => [i]
  | _ => []
def ol (x : Option Opd) : List Nat := match x with | some x => x.tmps | none => []
def AOp.tmps : AOp → List Nat
  | .mv x | .box _ x | .load _ _ x | .nilc x | .un _ x | .conv _ x | .b2s x | .faddr _ x | .fld _ _ _ x | .ext x _ | .len _ x | .clear _ x => x.tmps
  | .pick a b c => a.tmps ++ b.tmps ++ c.tmps
  | .alloc _ => []
  | .build _ ps => ps.flatMap fun p => p.2.2.tmps
  | .mksl _ _ _ _ ps => ps.flatMap fun p => p.2.tmps
  | .store _ x y | .bin _ x y | .eq _ _ _ x y | .iaddr _ x y | .iarr _ _ x y | .idx x y | .idxa _ _ _ x y | .app _ _ x y | .mm _ x y => x.tmps ++ y.tmps
  | .mkfn _ p c => p.flatMap Opd.tmps ++ c.flatMap Opd.tmps
  | .mkslice _ _ _ x y => x.tmps ++ y.tmps
  | .slice _ x a b c => x.tmps ++ ol a ++ ol b ++ ol c
  | .strsl x a b => x.tmps ++ ol a ++ ol b
def AOper.looks (o : AOper) : List Nat :=
  (match o.op with | .op p => p.tmps | .call f args => f.tmps ++ args.flatMap Opd.tmps) ++ (match o.guard with | some (t, _) => [t] | none => [])
/-- The places that an operation comes after, at once. -/
def aftOf (o : Oper) : List Nat := (o.after.toList.filter (Region.binds .any)).map (·.on)
def maskOf (l : List Nat) : Nat := l.foldr (fun j m => (1 <<< j) ||| m) 0
/-- .. and through others. -/
def coverTo (ms : List Nat) : Nat → Nat → Nat
  | 0, m => m
  | j + 1, m => coverTo ms j (if m.testBit j then m ||| ms.getD j 0 else m)
def covers (ms : List Nat) : List Nat := (List.range ms.length).map fun i => coverTo ms i (ms.getD i 0)
/-- All from q on come after all ahead of q. -/
def cutAt (cs : List Nat) (q : Nat) : Bool := (cs.drop q).all fun m => m &&& (2 ^ q - 1) == 2 ^ q - 1
def segsOf (cs : List Nat) : Nat → List AOper → List (List AOper)
  | _, [] => []
  | q, o :: r => match cutAt cs (q + 1), segsOf cs (q + 1) r with
    | false, s :: ss => (o :: s) :: ss
    | _, ss => [o] :: ss
def numbered {α : Type} : Nat → List α → List (Nat × α)
  | _, [] => []
  | k, x :: r => (k, x) :: numbered (k + 1) r
/-- What is looked at is written just before, and once. -/
def segOk (ms : List Nat) (p : Nat) (seg : List AOper) : Bool :=
  match seg with
  | [_] => true
  | _ =>
    let l := numbered p seg
    l.all fun x => (match x.2.dst with
        | some d => l.all fun y => x.1 == y.1 || y.2.dst != some d
        | none => true) && x.2.looks.all fun t => l.all fun y => y.2.dst != some t || (ms.getD x.1 0).testBit y.1
def AO.isCall : AO → Bool
  | .call _ _ => true
  | _ => false
/-- Calls come in order. -/
def chainOk (ms : List Nat) (p : Nat) (seg : List AOper) : Bool :=
  let l := (numbered p seg).filter fun x => x.2.op.isCall
  l.all fun x => l.all fun y => !decide (x.1 < y.1) || (coverTo ms y.1 (ms.getD y.1 0)).testBit x.1
def segsOk (ms : List Nat) : Nat → List (List AOper) → Bool
  | _, [] => true
  | p, s :: r => (segOk ms p s && chainOk ms p s) && segsOk ms (p + s.length) r
def compDraw (l : List AOper) (afts : List (List Nat)) : Option AC :=
  let ms := afts.map maskOf
  let segs := segsOf (covers ms) 0 l
  if segsOk ms 0 segs && (numbered 0 afts).all (fun x => x.2.all (· < x.1)) then some (.draw segs) else none
def compCode (P : Program) (fz : List Nat) (nt : Nat) : Code → Option AC
  | .skip => some .skip
  | .region _ ops false => (compOpers P fz nt ops ops.toList).map .region
  | .region _ ops true => match compOpers P fz nt ops ops.toList with
    | some l => compDraw l (ops.toList.map aftOf)
    | none => none
  | .seq a b => match compCode P fz nt a, compCode P fz nt b with
    | some x, some y => some (.seq x y)
    | _, _ => none
  | .cond c a b => match opdOf c, compCode P fz nt a, compCode P fz nt b with
    | some c, some x, some y => some (.cond c x y)
    | _, _, _ => none
  | .block id c => (compCode P fz nt c).map (.block id)
  | .loop c => (compCode P fz nt c).map .loop
  | .exit id => some (.exit id)
  | .ret => some .ret
  | _ => none
/-- A result: a slot, or what lies behind one. -/
inductive RV where
  | t (i : Nat)
  | m (i : Nat) (agg : Bool) (s : Nat)
def retOf (P : Program) : ResultVar → Option RV
  | .tmp t => some (.t t)
  | .cell a t => match aggIn P t, sizeIn P t with
    | some g, some s => some (.m a g s)
    | _, _ => none
def retsOf (P : Program) (l : List ResultVar) : Option (List RV) := l.mapM (retOf P)

inductive AK where
  | code (c : AC)
  | ops (l : List AOper)
  | segs (l : List (List AOper))
  | blk (id : Nat)
  | lp (c : AC)

def exitA (id : Nat) : List AK → Option (List AK)
  | .blk id' :: k => if id' = id then some k else exitA id k
  | _ :: k => exitA id k
  | [] => none
def putA (fr : Fr) (d : Option Nat) (v : AV) : Fr := match d with | some d => (d, v) :: fr | none => fr
def wants (fr : Fr) : Option (Nat × Bool) → Option Bool
  | none => some true
  | some (t, b) => match look fr t with | some (.c (.bool x)) => some (x == b) | some (.tup []) => some false | _ => none
def RV.ev (fr : Fr) (σ : Store) : RV → Option AV
  | .t i => look fr i
  | .m i g s => match look fr i with
    | some (.c p) => (σ.at_ p).bind (takeA g s)
    | _ => none
def revs (fr : Fr) (σ : Store) : List RV → Option (List AV)
  | [] => some []
  | x :: r => match x.ev fr σ, revs fr σ r with
    | some v, some vs => some (v :: vs)
    | _, _ => none
def retv (fr : Fr) (σ : Store) (rets : List RV) : Option AV :=
  match revs fr σ rets with
  | some [v] => some v
  | some vs => some (.tup vs)
  | none => none

/-- A call's contract, in abstract words. -/
def Ok (P : Program) (f : Nat) (args : List AV) (σ : Store) (Q : AV → Store → Prop) : Prop :=
  (∃ fn, P.funcs[f]? = some fn ∧ fn.body.isSome = true ∧ (fn.name == "runtime.NumGoroutine") = false) ∧
  ∀ (C : Cx) (cargs : Array Value), Rl C σ → (∃ hl : cargs.size = args.length, ∀ i (hi : i < args.length), RpV C args[i] (cargs[i]'(by omega))) →
    Calls P f cargs C.w fun e w' => ∃ D σ' r v, e = .returned v ∧ D.w = w' ∧ Q r σ' ∧ Rl D σ' ∧ RpV D r v ∧ C.Le D

/-- What is known may be said otherwise. -/
structure Cx.LeF (n0 : Nat) (C D : Cx) : Prop where
  w : D.w = C.w
  F : ∀ id v, id < n0 → C.F id v → D.F id v ∧ D.μ id v = C.μ id v
  M : ∀ b, b < C.w.heap.size → D.M b → C.M b
theorem Cx.LeF.of {C0 C D : Cx} {n0 : Nat} (h : C0.Le C) (hF : ∀ id v, C0.F id v → id < n0) (k : Cx.LeF n0 C D) : C0.Le D where
  F id v hf := ⟨(k.F id v (hF id v hf) (h.F id v hf).1).1, ((k.F id v (hF id v hf) (h.F id v hf).1).2).trans (h.F id v hf).2⟩
  os := by rw [k.w]; exact h.os
  tape := by rw [k.w]; exact h.tape
  output := by rw [k.w]; exact h.output
  size := by rw [k.w]; exact h.size
  keep b hb hM := by rw [k.w]; exact h.keep b hb hM
  shp b cs t hc := by rw [k.w]; exact h.shp b cs t hc
  M b hb hm := h.M b hb (k.M b (Nat.lt_of_lt_of_le hb h.size) hm)
def Shift (n0 nt : Nat) (fr : Fr) (σ : Store) (fr' : Fr) (σ' : Store) : Prop :=
  ∀ C a, FrR C nt fr a → Rl C σ → ∃ D, Cx.LeF n0 C D ∧ FrR D nt fr' a ∧ Rl D σ'

/-! ### What does not lead beyond a number of ids -/
inductive Old (n : Nat) : Ce → Prop where
  | int (k : IntKind) (m : Int) : Old n (.int k m)
  | bool (b : Bool) : Old n (.bool b)
  | str (s : List UInt8) : Old n (.str s)
  | nilp : Old n .nilp
  | nils : Old n .nils
  | nilf : Old n .nilf
  | emp : Old n .emp
  | any : Old n .any
  | fz (es : List (List Ce)) (h : ∀ i j (hi : i < es.length) (hj : j < es[i].length), Old n es[i][j]) : Old n (.fz es)
  | fp (cs : List Ce) (h : ∀ j (hj : j < cs.length), Old n cs[j]) : Old n (.fp cs)
  | sl (id v i m c : Nat) (h : id < n) : Old n (.sl id v i m c)
  | ptr (id v i j : Nat) (h : id < n) : Old n (.ptr id v i j)
  | fn (f : Nat) (pre cap : List Ce) (h1 : ∀ i (hi : i < pre.length), Old n pre[i]) (h2 : ∀ i (hi : i < cap.length), Old n cap[i]) : Old n (.fn f pre cap)

theorem Rp.old {C : Cx} {n : Nat} (hF : ∀ id v, C.F id v → id < n) {x : Ce} {v : Value} (h : Rp C x v) : Old n x := by
  induction h with
  | int k m => exact .int k m
  | bool b => exact .bool b
  | str s => exact .str s
  | nilp => exact .nilp
  | nils => exact .nils
  | nilf => exact .nilf
  | emp => exact .emp
  | any => exact .any
  | fz0 => exact .fz _ (fun i j hi => absurd hi (by simp))
  | fz es b o cap s vs hl hM hc hs cell h ih => exact .fz es (fun i j hi hj => ih i j hi hj)
  | fp cs b o vs hl hM cell h ih => exact .fp cs ih
  | sl0 id v i a hf => exact .sl _ _ _ _ _ (hF _ _ hf)
  | sl id v i n c cap hf => exact .sl _ _ _ _ _ (hF _ _ hf)
  | ptr id v i j hf => exact .ptr _ _ _ _ (hF _ _ hf)
  | fn f pre cap ps cs hp hc h1 h2 ih1 ih2 => exact .fn _ _ _ ih1 ih2
/-- The cells of a value. -/
def AV.all : AV → List Ce
  | .c x => [x]
  | .agg xs => xs
  | .tup vs => allL vs
  | .un => []
where allL : List AV → List Ce
  | [] => []
  | v :: r => v.all ++ allL r
theorem mem_allL {y : Ce} : ∀ {vs : List AV}, y ∈ AV.all.allL vs → ∃ i, ∃ h : i < vs.length, y ∈ vs[i].all
  | [], h => by simp [AV.all.allL] at h
  | v :: r, h => by
    simp only [AV.all.allL, List.mem_append] at h
    rcases h with h | h
    · exact ⟨0, by simp, h⟩
    · obtain ⟨i, hi, h⟩ := mem_allL h
      exact ⟨i + 1, by simpa using hi, by simpa using h⟩
theorem RpV.old {C : Cx} {n : Nat} (hF : ∀ id v, C.F id v → id < n) {x : AV} {v : Value} (h : RpV C x v) : ∀ y ∈ x.all, Old n y := by
  induction h with
  | c h => intro y hy; simp [AV.all] at hy; subst hy; exact h.old hF
  | agg hl h =>
    intro y hy
    obtain ⟨i, hi, rfl⟩ := List.mem_iff_getElem.1 hy
    exact (h i hi).old hF
  | tup hl h ih =>
    intro y hy
    obtain ⟨i, hi, hy⟩ := mem_allL hy
    exact ih i hi y hy
  | un v => intro y hy; simp [AV.all] at hy

/-- What a store holds leads to what it knows. -/
def OldS (σ : Store) : Prop := ∀ id y, σ.get id = some y → id < σ.next ∧ ∀ i j (hi : i < y.2.length) (hj : j < y.2[i].length), Old σ.next y.2[i][j]
theorem Rl.old {C : Cx} {σ : Store} (h : Rl C σ) : OldS σ := by
  intro id ⟨v, es⟩ hg
  refine ⟨h.F id v (h.live id v es hg).1, fun i j hi hj => ?_⟩
  obtain ⟨cs, t, _, _, _, hc⟩ := h.blk id v es hg (by rintro rfl; simp at hi)
  obtain ⟨u, _, k⟩ := hc i j hi hj
  exact k.old h.F

/-- Operations of one segment, in the text's order: none writes. -/
inductive Qs (P : Program) (σ : Store) : List AOper → Fr → Fr → Prop where
  | nil {fr} : Qs P σ [] fr fr
  | same {l fr fr' F} : (∀ t, look fr' t = look fr t) → Qs P σ l fr' F → Qs P σ l fr F
  | op {d o g rest fr F v} : wants fr g = some true → aop o fr σ = some (v, σ) → Qs P σ rest (putA fr d v) F → Qs P σ (⟨d, .op o, g⟩ :: rest) fr F
  | no {d o g rest fr F} : wants fr g = some false → Qs P σ rest (putA fr d (.tup [])) F → Qs P σ (⟨d, o, g⟩ :: rest) fr F
  | call {d f args g rest fr F n pre cap vs r} : wants fr g = some true → f.ev fr = some (.c (.fn n pre cap)) → evs fr args = some vs →
      Ok P n (pre.map .c ++ vs ++ cap.map .c) σ (fun r' σ' => r' = r ∧ σ' = σ) → Qs P σ rest (putA fr d r) F → Qs P σ (⟨d, .call f args, g⟩ :: rest) fr F

/-- A segment with calls that may write: its other operations ask nothing of the store. -/
inductive Qc (P : Program) (Z : Fr → Store → Prop) : List AOper → Fr → Store → Prop where
  | nil {fr σ} : Z fr σ → Qc P Z [] fr σ
  | op {d o g rest fr σ v} : wants fr g = some true → (∀ τ, aop o fr τ = some (v, τ)) → Qc P Z rest (putA fr d v) σ → Qc P Z (⟨d, .op o, g⟩ :: rest) fr σ
  | no {d o g rest fr σ} : wants fr g = some false → Qc P Z rest (putA fr d (.tup [])) σ → Qc P Z (⟨d, o, g⟩ :: rest) fr σ
  | call {d f args g rest fr σ n pre cap vs} (Q : AV → Store → Prop) : wants fr g = some true → f.ev fr = some (.c (.fn n pre cap)) → evs fr args = some vs →
      Ok P n (pre.map .c ++ vs ++ cap.map .c) σ Q → (∀ r σ', Q r σ' → Qc P Z rest (putA fr d r) σ') → Qc P Z (⟨d, .call f args, g⟩ :: rest) fr σ
/-- What reads as a slice. -/
inductive SlLike : Ce → Prop where
  | nils : SlLike .nils
  | emp : SlLike .emp
  | fz (es : List (List Ce)) : SlLike (.fz es)
  | sl (id v i n c : Nat) : SlLike (.sl id v i n c)
inductive Go (P : Program) (n0 nt : Nat) (rets : List RV) (R : AV → Store → Prop) : List AK → Fr → Store → Prop where
  | skip {K fr σ} : Go P n0 nt rets R K fr σ → Go P n0 nt rets R (.code .skip :: K) fr σ
  | seq {a b K fr σ} : Go P n0 nt rets R (.code a :: .code b :: K) fr σ → Go P n0 nt rets R (.code (.seq a b) :: K) fr σ
  | cond {c a b K fr σ} (t : Bool) : c.ev fr = some (.c (.bool t)) → Go P n0 nt rets R (.code (if t then a else b) :: K) fr σ → Go P n0 nt rets R (.code (.cond c a b) :: K) fr σ
  | block {id c K fr σ} : Go P n0 nt rets R (.code c :: .blk id :: K) fr σ → Go P n0 nt rets R (.code (.block id c) :: K) fr σ
  | blk {id K fr σ} : Go P n0 nt rets R K fr σ → Go P n0 nt rets R (.blk id :: K) fr σ
  | loop {c K fr σ} : Go P n0 nt rets R (.code c :: .lp c :: K) fr σ → Go P n0 nt rets R (.code (.loop c) :: K) fr σ
  | lp {c K fr σ} : Go P n0 nt rets R (.code c :: .lp c :: K) fr σ → Go P n0 nt rets R (.lp c :: K) fr σ
  | exit {id K K' fr σ} : exitA id K = some K' → Go P n0 nt rets R K' fr σ → Go P n0 nt rets R (.code (.exit id) :: K) fr σ
  | ret {K fr σ v} : retv fr σ rets = some v → R v σ → Go P n0 nt rets R (.code .ret :: K) fr σ
  | fin {fr σ v} : retv fr σ rets = some v → R v σ → Go P n0 nt rets R [] fr σ
  | region {l K fr σ} : Go P n0 nt rets R (.ops l :: K) fr σ → Go P n0 nt rets R (.code (.region l) :: K) fr σ
  | draw {l K fr σ} : Go P n0 nt rets R (.segs l :: K) fr σ → Go P n0 nt rets R (.code (.draw l) :: K) fr σ
  | segs {K fr σ} : Go P n0 nt rets R K fr σ → Go P n0 nt rets R (.segs [] :: K) fr σ
  | sop {d o g rest K fr σ v σ'} : wants fr g = some true → aop o fr σ = some (v, σ') → Go P n0 nt rets R (.segs rest :: K) (putA fr d v) σ' → Go P n0 nt rets R (.segs ([⟨d, .op o, g⟩] :: rest) :: K) fr σ
  | sno {d o g rest K fr σ} : wants fr g = some false → Go P n0 nt rets R (.segs rest :: K) (putA fr d (.tup [])) σ → Go P n0 nt rets R (.segs ([⟨d, o, g⟩] :: rest) :: K) fr σ
  | scall {d f args g rest K fr σ n pre cap vs} (Q : AV → Store → Prop) : wants fr g = some true → f.ev fr = some (.c (.fn n pre cap)) → evs fr args = some vs →
      Ok P n (pre.map .c ++ vs ++ cap.map .c) σ Q → (∀ r σ', Q r σ' → Go P n0 nt rets R (.segs rest :: K) (putA fr d r) σ') → Go P n0 nt rets R (.segs ([⟨d, .call f args, g⟩] :: rest) :: K) fr σ
  | quiet {s1 s2 seg rest K fr F σ} : Qs P σ (s1 :: s2 :: seg) fr F → Go P n0 nt rets R (.segs rest :: K) F σ → Go P n0 nt rets R (.segs ((s1 :: s2 :: seg) :: rest) :: K) fr σ
  | qc {seg rest K fr σ} (Z : Fr → Store → Prop) : Qc P Z seg fr σ → (∀ F τ, Z F τ → Go P n0 nt rets R (.segs rest :: K) F τ) → Go P n0 nt rets R (.segs (seg :: rest) :: K) fr σ
  | nil {K fr σ} : Go P n0 nt rets R K fr σ → Go P n0 nt rets R (.ops [] :: K) fr σ
  | op {d o g rest K fr σ v σ'} : wants fr g = some true → aop o fr σ = some (v, σ') → Go P n0 nt rets R (.ops rest :: K) (putA fr d v) σ' → Go P n0 nt rets R (.ops (⟨d, .op o, g⟩ :: rest) :: K) fr σ
  | nilq {d neg x g rest K fr σ y} : wants fr g = some true → x.ev fr = some (.c y) → SlLike y → (∀ b, Go P n0 nt rets R (.ops rest :: K) (putA fr d (.c (.bool b))) σ) → Go P n0 nt rets R (.ops (⟨d, .op (.eq neg false [.sl] x (.k .nils)), g⟩ :: rest) :: K) fr σ
  | no {d o g rest K fr σ} : wants fr g = some false → Go P n0 nt rets R (.ops rest :: K) (putA fr d (.tup [])) σ → Go P n0 nt rets R (.ops (⟨d, o, g⟩ :: rest) :: K) fr σ
  | call {d f args g rest K fr σ n pre cap vs} (Q : AV → Store → Prop) : wants fr g = some true → f.ev fr = some (.c (.fn n pre cap)) → evs fr args = some vs →
      Ok P n (pre.map .c ++ vs ++ cap.map .c) σ Q → (∀ r σ', Q r σ' → Go P n0 nt rets R (.ops rest :: K) (putA fr d r) σ') → Go P n0 nt rets R (.ops (⟨d, .call f args, g⟩ :: rest) :: K) fr σ
  | old {K fr σ} : ((∀ t x, look fr t = some x → ∀ y ∈ x.all, Old σ.next y) → OldS σ → Go P n0 nt rets R K fr σ) → Go P n0 nt rets R K fr σ
  | shift {K fr σ fr' σ'} : Shift n0 nt fr σ fr' σ' → Go P n0 nt rets R K fr' σ' → Go P n0 nt rets R K fr σ

/-! ### Soundness -/
def Runs (P : Program) (f : FuncId) (R : Ending → World → Prop) (K : List Item) (a : Act) (w : World) : Prop :=
  ∀ (b : Frame) (cs : List Frame), b.fn = f → b.kind = .normal → ∃ e w' fr, R e w' ∧ Comes P (lone (b.at a K) cs w) (lone fr cs w') e ∧ fr.fn = f ∧ fr.leaving P w' e
theorem Runs.step {P : Program} {f : FuncId} {R : Ending → World → Prop} {K K' : List Item} {a a' : Act} {w w' : World} (hs : ∀ (b : Frame) (cs : List Frame), step P (lone (b.at a K) cs w) = .next (lone (b.at a' K') cs w')) (h : Runs P f R K' a' w') : Runs P f R K a w := by
  intro b cs hb hk
  obtain ⟨e, w1, fr, h1, h2, h3, h4⟩ := h b cs hb hk
  exact ⟨e, w1, fr, h1, .of_steps (.one (hs b cs)) h2, h3, h4⟩

inductive KR (P : Program) (fz : List Nat) (nt : Nat) : List AK → List Item → Prop where
  | nil : KR P fz nt [] []
  | code {c c' K K'} : compCode P fz nt c' = some c → KR P fz nt K K' → KR P fz nt (.code c :: K) (.code c' :: K')
  | blk {id K K'} : KR P fz nt K K' → KR P fz nt (.blk id :: K) (.inBlock id :: K')
  | lp {c c' K K'} : compCode P fz nt c' = some c → KR P fz nt K K' → KR P fz nt (.lp c :: K) (.inLoop c' :: K')

theorem exitA_sound {P : Program} {fz : List Nat} {nt id : Nat} {K K1 : List AK} {L : List Item} (h : KR P fz nt K L) (he : exitA id K = some K1) : ∃ L1, exitTo id L = some L1 ∧ KR P fz nt K1 L1 := by
  induction h with
  | nil => simp [exitA] at he
  | code _ _ ih => simp only [exitA] at he; obtain ⟨L1, h1, h2⟩ := ih he; exact ⟨L1, by simpa [exitTo] using h1, h2⟩
  | @blk id' K K' hk ih =>
    simp only [exitA] at he
    split at he
    · rename_i e
      injection he with he
      subst he e
      exact ⟨K', by simp [exitTo], hk⟩
    · rename_i e
      obtain ⟨L1, h1, h2⟩ := ih he
      exact ⟨L1, by simp [exitTo, e, h1], h2⟩
  | lp _ _ ih => simp only [exitA] at he; obtain ⟨L1, h1, h2⟩ := ih he; exact ⟨L1, by simpa [exitTo] using h1, h2⟩

/-- The operations still to do, and their places in the region. -/
inductive TR (P : Program) (fz : List Nat) (nt : Nat) (ops : Array Oper) : List AOper → List Nat → Prop where
  | nil : TR P fz nt ops [] []
  | cons {o ao i l is} : ops[i]? = some o → compOper P fz nt ops o = some ao → TR P fz nt ops l is → TR P fz nt ops (ao :: l) (i :: is)

theorem TR_of {P : Program} {fz : List Nat} {nt : Nat} {ops : Array Oper} : ∀ {l : List Oper} {as : List AOper} (k : Nat), compOpers P fz nt ops l = some as → (∀ i (hi : i < l.length), ops[k + i]? = some l[i]) → TR P fz nt ops as ((List.range l.length).map (k + ·))
  | [], as, k, h, _ => by simp [compOpers] at h; subst h; exact .nil
  | o :: l, as, k, h, hi => by
    simp only [compOpers] at h
    split at h
    · rename_i x l' h1 h2
      injection h with h
      subst h
      have := TR_of (k + 1) h2 (fun i hi' => by have := hi (i + 1) (by simpa using hi'); simpa [Nat.add_assoc, Nat.add_comm 1 i] using this)
      rw [List.length_cons, List.range_succ_eq_map, List.map_cons, List.map_map]
      refine .cons (by have := hi 0 (by simp); simpa only [Nat.add_zero, List.getElem_cons_zero] using this) h1 ?_
      have e : (fun x => k + x) ∘ Nat.succ = fun x => k + 1 + x := by funext x; simp; omega
      rw [e]
      exact this
    · cases h

theorem put_none_un {a : Act} (v : Value) : a.put none v = a := rfl
theorem FrR.putA {C : Cx} {nt : Nat} {fr : Fr} {a : Act} (h : FrR C nt fr a) {d : Option Nat} (hd : ∀ t, d = some t → t < nt) {x : AV} {v : Value} (hx : RpV C x v) : FrR C nt (Am.putA fr d x) (a.put d v) := by
  cases d with
  | none => exact h
  | some d => exact h.put (hd d rfl) hx

theorem wants_sound {P : Program} {fz : List Nat} {nt : Nat} {ops : Array Oper} {o : Oper} {ao : AOper} (hc : compOper P fz nt ops o = some ao) {C : Cx} {fr : Fr} {a : Act} (hF : FrR C nt fr a) {t : Bool} (h : wants fr ao.guard = some t) : Region.wanted o (yielded ops a.tmps) = t ∧ (∀ d, o.dst = some d → d < nt) ∧ o.dst = ao.dst ∧ ∃ f, compOp P f o.op = some ao.op := by
  unfold compOper at hc
  split at hc
  · rename_i hd
    split at hc
    · rename_i op hop
      have hd' : ∀ d, o.dst = some d → d < nt := by
        intro d e
        rw [e] at hd
        simpa [dstOk] using hd
      split at hc
      · rename_i hg
        injection hc with hc
        subst hc
        simp only [wants] at h
        injection h with h
        subst h
        exact ⟨by simp [Region.wanted, hg], hd', rfl, _, hop⟩
      · rename_i j b hg
        split at hc
        · rename_i t' ht
          injection hc with hc
          subst hc
          simp only [wants] at h
          split at h
          · rename_i x hx
            injection h with h
            subst h
            obtain ⟨h1, h2⟩ := hF.slot _ _ hx
            have h3 := rpv_c h2
            have h4 : a.tmps[t']? = some (.bool x) := by
              have hlt : t' < a.tmps.size := by rw [hF.size]; exact h1
              have := rp_bool h3
              rw [Array.getD_eq_getD_getElem?, Array.getElem?_eq_getElem hlt] at this
              simp only [Option.getD_some] at this
              rw [Array.getElem?_eq_getElem hlt, this]
            refine ⟨?_, hd', rfl, _, hop⟩
            simp only [Region.wanted, hg, yielded, ht, Option.bind_some, h4]
            cases x <;> cases b <;> rfl
          · rename_i hx
            injection h with h
            subst h
            obtain ⟨h1, h2⟩ := hF.slot _ _ hx
            have hlt : t' < a.tmps.size := by rw [hF.size]; exact h1
            have h4 : a.tmps[t']? = some (.tuple #[]) := by
              rw [Array.getElem?_eq_getElem hlt]
              rw [Array.getD_eq_getD_getElem?, Array.getElem?_eq_getElem hlt, Option.getD_some] at h2
              generalize a.tmps[t'] = u at h2
              cases h2 with
              | tup q1 q2 =>
                rename_i vs
                have : vs = #[] := Array.eq_empty_of_size_eq_zero q1
                rw [this]
            refine ⟨?_, hd', rfl, _, hop⟩
            simp only [Region.wanted, hg, yielded, ht, Option.bind_some, h4]
            rfl
          · cases h
        · cases hc
    · cases hc
  · cases hc

theorem retv_sound {P : Program} {fn : Func} {rets : List RV} (hr : retsOf P fn.results.toList = some rets) {C : Cx} {nt : Nat} {fr : Fr} {σ : Store} {a : Act} (hR : Rl C σ) (hF : FrR C nt fr a) {v : AV} (h : retv fr σ rets = some v) : ∃ u, (results fn a.tmps).run P C.w = .ok u C.w ∧ RpV C v u := by
  have one : ∀ (f : ResultVar → Sem Value), (∀ t, f (.tmp t) = pure (a.tmps.getD t undef)) → (∀ b t, f (.cell b t) = do loadVar t (← asAddr (a.tmps.getD b undef))) → ∀ (r : ResultVar) (x : RV) (v : AV), retOf P r = some x → x.ev fr σ = some v → ∃ u, (f r).run P C.w = .ok u C.w ∧ RpV C v u := by
    intro f h1 h2 r x v hx hv
    cases r with
    | tmp t =>
      simp only [retOf] at hx
      injection hx with hx
      subst hx
      exact ⟨_, by rw [h1]; rfl, (hF.slot _ _ hv).2⟩
    | cell b t =>
      simp only [retOf] at hx
      split at hx
      · rename_i g s hg hs
        injection hx with hx
        subst hx
        simp only [RV.ev] at hv
        split at hv
        · rename_i p hp
          obtain ⟨cs, hcs, hv⟩ := Option.bind_eq_some_iff.1 hv
          have hpv := rpv_c (hF.slot _ _ hp).2
          obtain ⟨bb, oo, he, vs, hc⟩ := at_sound hR hpv hcs
          obtain ⟨u, hu, hxu⟩ := take_loaded hg hs hc hv
          exact ⟨u, by rw [h2, he]; simp [asAddr, hu], hxu⟩
        · cases hv
      · cases hx
  have many : ∀ (f : ResultVar → Sem Value), (∀ t, f (.tmp t) = pure (a.tmps.getD t undef)) → (∀ b t, f (.cell b t) = do loadVar t (← asAddr (a.tmps.getD b undef))) → ∀ (l : List ResultVar) (rets : List RV) (vs : List AV), retsOf P l = some rets → revs fr σ rets = some vs →
      ∃ us : List Value, (l.mapM f).run P C.w = .ok us C.w ∧ us.length = vs.length ∧ ∀ i (hi : i < vs.length) (hu : i < us.length), RpV C vs[i] us[i] := by
    intro f h1 h2 l
    induction l with
    | nil =>
      intro rets vs h h'
      simp [retsOf] at h
      subst h
      simp [revs] at h'
      subst h'
      exact ⟨[], by simp, rfl, fun i hi => absurd hi (by simp)⟩
    | cons r l ih =>
      intro rets vs h h'
      simp only [retsOf, List.mapM_cons, Option.bind_eq_bind, Option.bind_eq_some_iff] at h
      obtain ⟨x, h3, xs, h4, h5⟩ := h
      injection h5 with h5
      subst h5
      simp only [revs] at h'
      split at h'
      · rename_i v vs' e1 e2
        injection h' with h'
        subst h'
        obtain ⟨u, g1, g2⟩ := one f h1 h2 r x v h3 e1
        obtain ⟨us, g3, g4, g5⟩ := ih xs vs' h4 e2
        refine ⟨u :: us, by simp [List.mapM_cons, g1, g3], by simp [g4], fun i hi hu => ?_⟩
        cases i with
        | zero => exact g2
        | succ i => exact g5 i (by simpa using hi) (by simpa using hu)
      · cases h'
  unfold retv at h
  obtain ⟨vs, hvs⟩ : ∃ vs, revs fr σ rets = some vs := by
    cases hx : revs fr σ rets with
    | none => simp [hx] at h
    | some vs => exact ⟨vs, rfl⟩
  rw [hvs] at h
  obtain ⟨us, hus, hlen, hat⟩ := many (fun (x : ResultVar) => match x with | .tmp t => (pure (a.tmps.getD t undef) : Sem Value) | .cell b t => do loadVar t (← asAddr (a.tmps.getD b undef))) (fun t => rfl) (fun b t => rfl) _ _ _ hr hvs
  have hres : (results fn a.tmps).run P C.w = .ok (if h : us.toArray.size = 1 then us.toArray[0] else .tuple us.toArray) C.w := by
    unfold results
    rw [Array.mapM_eq_mapM_toList]
    simp only [Sem.run_bind, Sem.run_map, Sem.run_pure]
    exact (congrArg (fun r => (Result.andThen r fun (a : List Value) w' => Result.ok a.toArray w').andThen fun (a : Array Value) w' => Result.ok (if h : a.size = 1 then a[0] else Value.tuple a) w') hus)
  refine ⟨_, hres, ?_⟩
  split at h
  · rename_i x hx
    injection hx with hx
    subst hx
    injection h with h
    subst h
    simp only [List.length_cons, List.length_nil] at hlen
    have hu1 : us.toArray.size = 1 := by simp; omega
    rw [dif_pos hu1]
    have := hat 0 (by simp) (by omega)
    simpa using this
  · rename_i ws hne hx
    injection hx with hx
    subst hx
    injection h with h
    subst h
    have hu1 : ¬ us.toArray.size = 1 := by
      intro e
      have : vs.length = 1 := by simp at e; omega
      obtain ⟨v, rfl⟩ := List.length_eq_one_iff.1 this
      exact hne v rfl
    rw [dif_neg hu1]
    refine .tup (by simp; omega) fun i hi => ?_
    have := hat i hi (by omega)
    simpa using this
  · cases h

end Go.Proofs.Ytjlhfjpnnildhaa.Am
