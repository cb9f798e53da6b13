/- The abstract machine, part 22: steps, loops, contracts. -/
import Derived.Test.YtjlhfjpnnildhaaAm21
set_option linter.unusedVariables false
set_option linter.unusedSimpArgs false
namespace Go.Proofs.Ytjlhfjpnnildhaa.Am
open Go.RowKit

/-- A slice with what follows its elements in its block. -/
def vec (id v : Nat) (ys junk : List (List Ce)) : Ce := .sl id v 0 ys.length (ys.length + junk.length)

/-- A cell that leads nowhere. -/
inductive Flat : Ce → Prop where
  | int (k : IntKind) (m : Int) : Flat (.int k m)
  | bool (b : Bool) : Flat (.bool b)
  | str (s : List UInt8) : Flat (.str s)
  | nilp : Flat .nilp
  | nils : Flat .nils
  | nilf : Flat .nilf
  | emp : Flat .emp
  | any : Flat .any
/-- The spare room of a block: cells that lead nowhere. -/
def Jk (s : Nat) (junk : List (List Ce)) : Prop := ∀ e ∈ junk, e.length = s ∧ ∀ x ∈ e, Flat x
theorem Jk.nil {s : Nat} : Jk s [] := fun e he => by simp at he

/-! ### Contracts -/
/-- The call returns r (in words that nobody writes) and leaves the caller's store as it was. -/
structure Pure (P : Program) (f : Nat) (args : List AV) (r : AV) : Prop where
  at_ : ∀ σ, Ok P f args σ (fun r' σ' => r' = r ∧ σ' = σ)
/-- What is frozen at the end. -/
def Fin (σ : Store) (r2 : AV) (r : AV) (σ' : Store) : Prop := ∃ l, σ' = E σ l ∧ FrzV σ' σ.next r r2
theorem Ok.old {P : Program} {fz : List Nat} {f : Nat} {af : AFn} (h : compFn P fz f = some af) {args : List AV} {σ : Store} {Q : AV → Store → Prop} (hk : OldS σ → (∀ x ∈ args, ∀ y ∈ x.all, Old σ.next y) → Ok P f args σ Q) : Ok P f args σ Q := by
  refine ⟨?_, fun C cargs hR ha => ?_⟩
  · unfold compFn at h
    split at h
    · rename_i fn hf
      split at h
      · rename_i c hb
        split at h
        · cases h
        · rename_i hname
          exact ⟨fn, hf, by rw [hb]; rfl, by simpa using hname⟩
      · cases h
    · cases h
  · obtain ⟨hl, hv⟩ := ha
    refine (hk hR.old fun x hx y hy => ?_).2 C cargs hR ⟨hl, hv⟩
    obtain ⟨i, hi, rfl⟩ := List.mem_iff_getElem.1 hx
    exact (hv i hi).old hR.F y hy
/-- A contract out of a run, with what is known at its start. -/
theorem Ok.run {P : Program} (hm : P.follows .mixedOrders = true) {fz : List Nat} {f : Nat} {af : AFn} (h : compFn P fz f = some af) {args : List AV} {σ : Store} {R : AV → Store → Prop} (hn : args.length ≤ af.nt)
    (hg : OldS σ → (∀ x ∈ args, ∀ y ∈ x.all, Old σ.next y) → Go P σ.next af.nt af.rets R [.code af.body] (frOf 0 args) (E σ [])) : Ok P f args σ R :=
  .old h fun hS ha => .of_go hm h hn (by have := hg hS ha; rwa [E_nil hS] at this)
theorem Pure.run {P : Program} (hm : P.follows .mixedOrders = true) {fz : List Nat} {f : Nat} {af : AFn} (h : compFn P fz f = some af) {args : List AV} {r2 : AV} (hn : args.length ≤ af.nt)
    (hg : ∀ σ, OldS σ → (∀ x ∈ args, ∀ y ∈ x.all, Old σ.next y) → Go P σ.next af.nt af.rets (Fin σ r2) [.code af.body] (frOf 0 args) (E σ [])) : Pure P f args r2 := by
  constructor
  intro σ
  refine .old h fun hS ha => ?_
  refine Ok.pure (Ok.run hm h hn (hg σ)) r2 (fun id y hy => (hS id y hy).1) ?_
  rintro r σ1 ⟨l, rfl, hz⟩
  exact ⟨fun id y hy => by rw [E_lt (hS id y hy).1]; exact hy, hz⟩

/-- The call makes one slice anew: its elements ys, and nothing else that is kept. -/
def Made (σ : Store) (s : Nat) (ys : List (List Ce)) (r : AV) (σ' : Store) : Prop := ∃ v junk, Jk s junk ∧ r = .c (vec (σ.next + 0) v ys junk) ∧ σ' = E σ [(v, ys ++ junk)]
structure Makes (P : Program) (f : Nat) (args : List AV) (s : Nat) (ys : List (List Ce)) : Prop where
  at_ : ∀ σ, Ok P f args σ (Made σ s ys)
theorem Makes.run {P : Program} (hm : P.follows .mixedOrders = true) {fz : List Nat} {f : Nat} {af : AFn} (h : compFn P fz f = some af) {args : List AV} {s : Nat} {ys : List (List Ce)} (hn : args.length ≤ af.nt)
    (hg : ∀ σ, OldS σ → (∀ x ∈ args, ∀ y ∈ x.all, Old σ.next y) → Go P σ.next af.nt af.rets (Made σ s ys) [.code af.body] (frOf 0 args) (E σ [])) : Makes P f args s ys :=
  ⟨fun σ => Ok.run hm h hn (hg σ)⟩

theorem Fin.same {σ : Store} {l : List (Nat × List (List Ce))} {r r2 : AV} (e : r = r2) (h : ∀ y ∈ r2.all, Old σ.next y) : Fin σ r2 r (E σ l) := by
  subst e
  exact ⟨l, rfl, .refl h⟩
theorem Fin.bool {σ : Store} {l : List (Nat × List (List Ce))} {b b2 : Bool} (e : b = b2) : Fin σ (.c (.bool b2)) (.c (.bool b)) (E σ l) :=
  .same (by rw [e]) (by intro y hy; simp [AV.all] at hy; subst hy; exact .bool _)
theorem Fin.int {σ : Store} {l : List (Nat × List (List Ce))} {k : IntKind} {b b2 : Int} (e : b = b2) : Fin σ (.c (.int k b2)) (.c (.int k b)) (E σ l) :=
  .same (by rw [e]) (by intro y hy; simp [AV.all] at hy; subst hy; exact .int _ _)
theorem Fin.str {σ : Store} {l : List (Nat × List (List Ce))} {b b2 : List UInt8} (e : b = b2) : Fin σ (.c (.str b2)) (.c (.str b)) (E σ l) :=
  .same (by rw [e]) (by intro y hy; simp [AV.all] at hy; subst hy; exact .str _)

/-! ### Steps -/
section
variable {P : Program} {n0 nt : Nat} {rets : List RV} {R : AV → Store → Prop} {K : List AK} {fr : Fr} {σ : Store}
theorem Go.ite {c : Opd} {a b : AC} (t : Bool) (h : c.ev fr = some (.c (.bool t))) (h1 : t = true → Go P n0 nt rets R (.code a :: K) fr σ) (h2 : t = false → Go P n0 nt rets R (.code b :: K) fr σ) : Go P n0 nt rets R (.code (.cond c a b) :: K) fr σ := by
  refine .cond t h ?_
  cases t
  · exact h2 rfl
  · exact h1 rfl
theorem Go.iteD {c : Opd} {a b : AC} {p : Prop} {i : Decidable p} (h : c.ev fr = some (.c (.bool (@decide p i)))) (h1 : p → Go P n0 nt rets R (.code a :: K) fr σ) (h2 : ¬ p → Go P n0 nt rets R (.code b :: K) fr σ) : Go P n0 nt rets R (.code (.cond c a b) :: K) fr σ :=
  .ite _ h (fun e => h1 (of_decide_eq_true e)) (fun e => h2 (of_decide_eq_false e))
theorem Go.iteE {c : Opd} {a b : AC} {x y : Int} (h : c.ev fr = some (.c (.bool (x == y)))) (h1 : x = y → Go P n0 nt rets R (.code a :: K) fr σ) (h2 : ¬ x = y → Go P n0 nt rets R (.code b :: K) fr σ) : Go P n0 nt rets R (.code (.cond c a b) :: K) fr σ :=
  .ite _ h (fun e => h1 (eq_of_beq e)) (fun e => h2 (by simpa using e))
theorem Go.iteN {c : Opd} {a b : AC} {x y : Int} (h : c.ev fr = some (.c (.bool (x != y)))) (h1 : ¬ x = y → Go P n0 nt rets R (.code a :: K) fr σ) (h2 : x = y → Go P n0 nt rets R (.code b :: K) fr σ) : Go P n0 nt rets R (.code (.cond c a b) :: K) fr σ :=
  .ite _ h (fun e => h1 (by simpa using e)) (fun e => h2 (by simpa using e))
theorem Go.pcall {d : Option Nat} {f : Opd} {args : List Opd} {g : Option (Nat × Bool)} {rest : List AOper} {n : Nat} {pre cap : List Ce} {vs : List AV} {r : AV} (hw : wants fr g = some true) (hf : f.ev fr = some (.c (.fn n pre cap))) (ha : evs fr args = some vs)
    (hp : Pure P n (pre.map .c ++ vs ++ cap.map .c) r) (h : Go P n0 nt rets R (.ops rest :: K) (putA fr d r) σ) : Go P n0 nt rets R (.ops (⟨d, .call f args, g⟩ :: rest) :: K) fr σ :=
  .call _ hw hf ha (hp.at_ σ) (by rintro r' σ' ⟨rfl, rfl⟩; exact h)
theorem Go.spcall {d : Option Nat} {f : Opd} {args : List Opd} {g : Option (Nat × Bool)} {rest : List (List AOper)} {n : Nat} {pre cap : List Ce} {vs : List AV} {r : AV} (hw : wants fr g = some true) (hf : f.ev fr = some (.c (.fn n pre cap))) (ha : evs fr args = some vs)
    (hp : Pure P n (pre.map .c ++ vs ++ cap.map .c) r) (h : Go P n0 nt rets R (.segs rest :: K) (putA fr d r) σ) : Go P n0 nt rets R (.segs ([⟨d, .call f args, g⟩] :: rest) :: K) fr σ :=
  .scall _ hw hf ha (hp.at_ σ) (by rintro r' σ' ⟨rfl, rfl⟩; exact h)
/-- A segment none of whose operations writes, in the text's order. -/
def Qg (P : Program) (σ : Store) (l : List AOper) (fr : Fr) (Post : Fr → Prop) : Prop := ∃ F, Qs P σ l fr F ∧ Post F
theorem Go.qs {s1 s2 : AOper} {seg : List AOper} {rest : List (List AOper)} (h : Qg P σ (s1 :: s2 :: seg) fr fun F => Go P n0 nt rets R (.segs rest :: K) F σ) : Go P n0 nt rets R (.segs ((s1 :: s2 :: seg) :: rest) :: K) fr σ :=
  let ⟨_, h1, h2⟩ := h
  .quiet h1 h2
theorem Qg.nil {Post : Fr → Prop} (h : Post fr) : Qg P σ [] fr Post := ⟨fr, .nil, h⟩
theorem Qg.op {d : Option Nat} {o : AOp} {g : Option (Nat × Bool)} {rest : List AOper} {v : AV} {Post : Fr → Prop} (hw : wants fr g = some true) (ha : aop o fr σ = some (v, σ)) (h : Qg P σ rest (putA fr d v) Post) : Qg P σ (⟨d, .op o, g⟩ :: rest) fr Post :=
  let ⟨F, h1, h2⟩ := h
  ⟨F, .op hw ha h1, h2⟩
theorem Qg.no {d : Option Nat} {o : AO} {g : Option (Nat × Bool)} {rest : List AOper} {Post : Fr → Prop} (hw : wants fr g = some false) (h : Qg P σ rest (putA fr d (.tup [])) Post) : Qg P σ (⟨d, o, g⟩ :: rest) fr Post :=
  let ⟨F, h1, h2⟩ := h
  ⟨F, .no hw h1, h2⟩
theorem Qg.pcall {d : Option Nat} {f : Opd} {args : List Opd} {g : Option (Nat × Bool)} {rest : List AOper} {n : Nat} {pre cap : List Ce} {vs : List AV} {r : AV} {Post : Fr → Prop} (hw : wants fr g = some true) (hf : f.ev fr = some (.c (.fn n pre cap))) (ha : evs fr args = some vs)
    (hp : Pure P n (pre.map .c ++ vs ++ cap.map .c) r) (h : Qg P σ rest (putA fr d r) Post) : Qg P σ (⟨d, .call f args, g⟩ :: rest) fr Post :=
  let ⟨F, h1, h2⟩ := h
  ⟨F, .call hw hf ha (hp.at_ σ) h1, h2⟩

theorem Go.pcallB {d : Option Nat} {f : Opd} {args : List Opd} {g : Option (Nat × Bool)} {rest : List AOper} {n : Nat} {pre cap : List Ce} {vs : List AV} {B : Bool} (hw : wants fr g = some true) (hf : f.ev fr = some (.c (.fn n pre cap))) (ha : evs fr args = some vs)
    (hp : Pure P n (pre.map .c ++ vs ++ cap.map .c) (.c (.bool B))) (h : ∀ b, B = b → Go P n0 nt rets R (.ops rest :: K) (putA fr d (.c (.bool b))) σ) : Go P n0 nt rets R (.ops (⟨d, .call f args, g⟩ :: rest) :: K) fr σ :=
  Go.pcall hw hf ha hp (h B rfl)
theorem Go.spcallB {d : Option Nat} {f : Opd} {args : List Opd} {g : Option (Nat × Bool)} {rest : List (List AOper)} {n : Nat} {pre cap : List Ce} {vs : List AV} {B : Bool} (hw : wants fr g = some true) (hf : f.ev fr = some (.c (.fn n pre cap))) (ha : evs fr args = some vs)
    (hp : Pure P n (pre.map .c ++ vs ++ cap.map .c) (.c (.bool B))) (h : ∀ b, B = b → Go P n0 nt rets R (.segs rest :: K) (putA fr d (.c (.bool b))) σ) : Go P n0 nt rets R (.segs ([⟨d, .call f args, g⟩] :: rest) :: K) fr σ :=
  Go.spcall hw hf ha hp (h B rfl)
theorem Qg.pcallB {d : Option Nat} {f : Opd} {args : List Opd} {g : Option (Nat × Bool)} {rest : List AOper} {n : Nat} {pre cap : List Ce} {vs : List AV} {B : Bool} {Post : Fr → Prop} (hw : wants fr g = some true) (hf : f.ev fr = some (.c (.fn n pre cap))) (ha : evs fr args = some vs)
    (hp : Pure P n (pre.map .c ++ vs ++ cap.map .c) (.c (.bool B))) (h : ∀ b, B = b → Qg P σ rest (putA fr d (.c (.bool b))) Post) : Qg P σ (⟨d, .call f args, g⟩ :: rest) fr Post :=
  Qg.pcall hw hf ha hp (h B rfl)
theorem Go.pcallI {d : Option Nat} {f : Opd} {args : List Opd} {g : Option (Nat × Bool)} {rest : List AOper} {n : Nat} {pre cap : List Ce} {vs : List AV} {k : IntKind} {B : Int} (hw : wants fr g = some true) (hf : f.ev fr = some (.c (.fn n pre cap))) (ha : evs fr args = some vs)
    (hp : Pure P n (pre.map .c ++ vs ++ cap.map .c) (.c (.int k B))) (h : ∀ b, B = b → Go P n0 nt rets R (.ops rest :: K) (putA fr d (.c (.int k b))) σ) : Go P n0 nt rets R (.ops (⟨d, .call f args, g⟩ :: rest) :: K) fr σ :=
  Go.pcall hw hf ha hp (h B rfl)
theorem Go.spcallI {d : Option Nat} {f : Opd} {args : List Opd} {g : Option (Nat × Bool)} {rest : List (List AOper)} {n : Nat} {pre cap : List Ce} {vs : List AV} {k : IntKind} {B : Int} (hw : wants fr g = some true) (hf : f.ev fr = some (.c (.fn n pre cap))) (ha : evs fr args = some vs)
    (hp : Pure P n (pre.map .c ++ vs ++ cap.map .c) (.c (.int k B))) (h : ∀ b, B = b → Go P n0 nt rets R (.segs rest :: K) (putA fr d (.c (.int k b))) σ) : Go P n0 nt rets R (.segs ([⟨d, .call f args, g⟩] :: rest) :: K) fr σ :=
  Go.spcall hw hf ha hp (h B rfl)
theorem Qg.pcallI {d : Option Nat} {f : Opd} {args : List Opd} {g : Option (Nat × Bool)} {rest : List AOper} {n : Nat} {pre cap : List Ce} {vs : List AV} {k : IntKind} {B : Int} {Post : Fr → Prop} (hw : wants fr g = some true) (hf : f.ev fr = some (.c (.fn n pre cap))) (ha : evs fr args = some vs)
    (hp : Pure P n (pre.map .c ++ vs ++ cap.map .c) (.c (.int k B))) (h : ∀ b, B = b → Qg P σ rest (putA fr d (.c (.int k b))) Post) : Qg P σ (⟨d, .call f args, g⟩ :: rest) fr Post :=
  Qg.pcall hw hf ha hp (h B rfl)
theorem look_again {t : Nat} {x : AV} (h : look fr t = some x) (u : Nat) : look ((t, x) :: fr) u = look fr u := by
  simp only [look]
  split
  · rename_i e; subst e; exact h.symm
  · rfl
theorem Go.same {fr' : Fr} (h : ∀ t, look fr' t = look fr t) (hg : Go P n0 nt rets R K fr' σ) : Go P n0 nt rets R K fr σ :=
  .shift (fun C a hF hR => ⟨C, ⟨rfl, fun _ _ _ h => ⟨h, rfl⟩, fun _ _ h => h⟩, ⟨hF.defers, hF.size, fun t x hx => hF.slot t x (by rw [← h t]; exact hx)⟩, hR⟩) hg
/-- Is a guard's condition true? -/
theorem Go.guard {d : Option Nat} {o : AO} {t : Nat} {b : Bool} {rest : List AOper} (B : Bool) (h : look fr t = some (.c (.bool B))) (h1 : B = true → Go P n0 nt rets R (.ops (⟨d, o, some (t, b)⟩ :: rest) :: K) ((t, .c (.bool true)) :: fr) σ) (h2 : B = false → Go P n0 nt rets R (.ops (⟨d, o, some (t, b)⟩ :: rest) :: K) ((t, .c (.bool false)) :: fr) σ) :
    Go P n0 nt rets R (.ops (⟨d, o, some (t, b)⟩ :: rest) :: K) fr σ := by
  cases B
  · exact .same (look_again h) (h2 rfl)
  · exact .same (look_again h) (h1 rfl)
theorem Go.sguard {d : Option Nat} {o : AO} {t : Nat} {b : Bool} {rest : List (List AOper)} (B : Bool) (h : look fr t = some (.c (.bool B))) (h1 : B = true → Go P n0 nt rets R (.segs ([⟨d, o, some (t, b)⟩] :: rest) :: K) ((t, .c (.bool true)) :: fr) σ) (h2 : B = false → Go P n0 nt rets R (.segs ([⟨d, o, some (t, b)⟩] :: rest) :: K) ((t, .c (.bool false)) :: fr) σ) :
    Go P n0 nt rets R (.segs ([⟨d, o, some (t, b)⟩] :: rest) :: K) fr σ := by
  cases B
  · exact .same (look_again h) (h2 rfl)
  · exact .same (look_again h) (h1 rfl)
theorem Qg.guard {d : Option Nat} {o : AO} {t : Nat} {b : Bool} {rest : List AOper} {Post : Fr → Prop} (B : Bool) (h : look fr t = some (.c (.bool B))) (h1 : B = true → Qg P σ (⟨d, o, some (t, b)⟩ :: rest) ((t, .c (.bool true)) :: fr) Post) (h2 : B = false → Qg P σ (⟨d, o, some (t, b)⟩ :: rest) ((t, .c (.bool false)) :: fr) Post) :
    Qg P σ (⟨d, o, some (t, b)⟩ :: rest) fr Post := by
  have key : ∀ {fr'}, (∀ t, look fr' t = look fr t) → Qg P σ (⟨d, o, some (t, b)⟩ :: rest) fr' Post → Qg P σ (⟨d, o, some (t, b)⟩ :: rest) fr Post := fun he ⟨F, q1, q2⟩ => ⟨F, .same he q1, q2⟩
  cases B
  · exact key (look_again h) (h2 rfl)
  · exact key (look_again h) (h1 rfl)
theorem Go.guardD {d : Option Nat} {o : AO} {t : Nat} {b : Bool} {rest : List AOper} {p : Prop} {i : Decidable p} (h : look fr t = some (.c (.bool (@decide p i)))) (h1 : p → Go P n0 nt rets R (.ops (⟨d, o, some (t, b)⟩ :: rest) :: K) ((t, .c (.bool true)) :: fr) σ) (h2 : ¬ p → Go P n0 nt rets R (.ops (⟨d, o, some (t, b)⟩ :: rest) :: K) ((t, .c (.bool false)) :: fr) σ) : Go P n0 nt rets R (.ops (⟨d, o, some (t, b)⟩ :: rest) :: K) fr σ :=
  Go.guard _ h (fun e => h1 (by simpa using e)) (fun e => h2 (by simpa using e))
theorem Go.guardE {d : Option Nat} {o : AO} {t : Nat} {b : Bool} {rest : List AOper} {x y : Int} (h : look fr t = some (.c (.bool (x == y)))) (h1 : x = y → Go P n0 nt rets R (.ops (⟨d, o, some (t, b)⟩ :: rest) :: K) ((t, .c (.bool true)) :: fr) σ) (h2 : ¬ x = y → Go P n0 nt rets R (.ops (⟨d, o, some (t, b)⟩ :: rest) :: K) ((t, .c (.bool false)) :: fr) σ) : Go P n0 nt rets R (.ops (⟨d, o, some (t, b)⟩ :: rest) :: K) fr σ :=
  Go.guard _ h (fun e => h1 (by simpa using e)) (fun e => h2 (by simpa using e))
theorem Go.guardN {d : Option Nat} {o : AO} {t : Nat} {b : Bool} {rest : List AOper} {x y : Int} (h : look fr t = some (.c (.bool (x != y)))) (h1 : ¬ x = y → Go P n0 nt rets R (.ops (⟨d, o, some (t, b)⟩ :: rest) :: K) ((t, .c (.bool true)) :: fr) σ) (h2 : x = y → Go P n0 nt rets R (.ops (⟨d, o, some (t, b)⟩ :: rest) :: K) ((t, .c (.bool false)) :: fr) σ) : Go P n0 nt rets R (.ops (⟨d, o, some (t, b)⟩ :: rest) :: K) fr σ :=
  Go.guard _ h (fun e => h1 (by simpa using e)) (fun e => h2 (by simpa using e))
theorem Go.sguardD {d : Option Nat} {o : AO} {t : Nat} {b : Bool} {rest : List (List AOper)} {p : Prop} {i : Decidable p} (h : look fr t = some (.c (.bool (@decide p i)))) (h1 : p → Go P n0 nt rets R (.segs ([⟨d, o, some (t, b)⟩] :: rest) :: K) ((t, .c (.bool true)) :: fr) σ) (h2 : ¬ p → Go P n0 nt rets R (.segs ([⟨d, o, some (t, b)⟩] :: rest) :: K) ((t, .c (.bool false)) :: fr) σ) : Go P n0 nt rets R (.segs ([⟨d, o, some (t, b)⟩] :: rest) :: K) fr σ :=
  Go.sguard _ h (fun e => h1 (by simpa using e)) (fun e => h2 (by simpa using e))
theorem Go.sguardE {d : Option Nat} {o : AO} {t : Nat} {b : Bool} {rest : List (List AOper)} {x y : Int} (h : look fr t = some (.c (.bool (x == y)))) (h1 : x = y → Go P n0 nt rets R (.segs ([⟨d, o, some (t, b)⟩] :: rest) :: K) ((t, .c (.bool true)) :: fr) σ) (h2 : ¬ x = y → Go P n0 nt rets R (.segs ([⟨d, o, some (t, b)⟩] :: rest) :: K) ((t, .c (.bool false)) :: fr) σ) : Go P n0 nt rets R (.segs ([⟨d, o, some (t, b)⟩] :: rest) :: K) fr σ :=
  Go.sguard _ h (fun e => h1 (by simpa using e)) (fun e => h2 (by simpa using e))
theorem Go.sguardN {d : Option Nat} {o : AO} {t : Nat} {b : Bool} {rest : List (List AOper)} {x y : Int} (h : look fr t = some (.c (.bool (x != y)))) (h1 : ¬ x = y → Go P n0 nt rets R (.segs ([⟨d, o, some (t, b)⟩] :: rest) :: K) ((t, .c (.bool true)) :: fr) σ) (h2 : x = y → Go P n0 nt rets R (.segs ([⟨d, o, some (t, b)⟩] :: rest) :: K) ((t, .c (.bool false)) :: fr) σ) : Go P n0 nt rets R (.segs ([⟨d, o, some (t, b)⟩] :: rest) :: K) fr σ :=
  Go.sguard _ h (fun e => h1 (by simpa using e)) (fun e => h2 (by simpa using e))
theorem Qg.guardD {d : Option Nat} {o : AO} {t : Nat} {b : Bool} {rest : List AOper} {Post : Fr → Prop} {p : Prop} {i : Decidable p} (h : look fr t = some (.c (.bool (@decide p i)))) (h1 : p → Qg P σ (⟨d, o, some (t, b)⟩ :: rest) ((t, .c (.bool true)) :: fr) Post) (h2 : ¬ p → Qg P σ (⟨d, o, some (t, b)⟩ :: rest) ((t, .c (.bool false)) :: fr) Post) : Qg P σ (⟨d, o, some (t, b)⟩ :: rest) fr Post :=
  Qg.guard _ h (fun e => h1 (by simpa using e)) (fun e => h2 (by simpa using e))
theorem Qg.guardE {d : Option Nat} {o : AO} {t : Nat} {b : Bool} {rest : List AOper} {Post : Fr → Prop} {x y : Int} (h : look fr t = some (.c (.bool (x == y)))) (h1 : x = y → Qg P σ (⟨d, o, some (t, b)⟩ :: rest) ((t, .c (.bool true)) :: fr) Post) (h2 : ¬ x = y → Qg P σ (⟨d, o, some (t, b)⟩ :: rest) ((t, .c (.bool false)) :: fr) Post) : Qg P σ (⟨d, o, some (t, b)⟩ :: rest) fr Post :=
  Qg.guard _ h (fun e => h1 (by simpa using e)) (fun e => h2 (by simpa using e))
theorem Qg.guardN {d : Option Nat} {o : AO} {t : Nat} {b : Bool} {rest : List AOper} {Post : Fr → Prop} {x y : Int} (h : look fr t = some (.c (.bool (x != y)))) (h1 : ¬ x = y → Qg P σ (⟨d, o, some (t, b)⟩ :: rest) ((t, .c (.bool true)) :: fr) Post) (h2 : x = y → Qg P σ (⟨d, o, some (t, b)⟩ :: rest) ((t, .c (.bool false)) :: fr) Post) : Qg P σ (⟨d, o, some (t, b)⟩ :: rest) fr Post :=
  Qg.guard _ h (fun e => h1 (by simpa using e)) (fun e => h2 (by simpa using e))
/-- A loop, by a number that falls. -/
theorem Go.loops {body : AC} {I : Nat → Fr → Store → Prop} (h : ∀ m fr σ, I m fr σ → (∀ m' fr' σ', m' < m → I m' fr' σ' → Go P n0 nt rets R (.lp body :: K) fr' σ') → Go P n0 nt rets R (.code body :: .lp body :: K) fr σ)
    (m : Nat) (fr : Fr) (σ : Store) (hI : I m fr σ) : Go P n0 nt rets R (.code (.loop body) :: K) fr σ := by
  have key : ∀ m fr σ, I m fr σ → Go P n0 nt rets R (.code body :: .lp body :: K) fr σ := by
    intro m
    induction m using Nat.strongRecOn with
    | _ m ih => exact fun fr σ hI => h m fr σ hI fun m' fr' σ' hlt hI' => .lp (ih m' hlt fr' σ' hI')
  exact .loop (key m fr σ hI)

/-! ### Operations, in these words -/
theorem aop_new {l : List (Nat × List (List Ce))} {x : Opd} {v : AV} {cs : List Ce} (hx : x.ev fr = some v) (hc : v.cells = some cs) : aop (.box false x) fr (E σ l) = some (.c (.ptr (σ.next + l.length) 0 0 0), E σ (l ++ [(0, [cs])])) := by
  simp [aop, hx, hc, E_new, E_next]
theorem aop_alloc {l : List (Nat × List (List Ce))} {z : List Ce} : aop (.alloc z) fr (E σ l) = some (.c (.ptr (σ.next + l.length) 0 0 0), E σ (l ++ [(0, [z])])) := by
  simp [aop, E_new, E_next]
theorem aop_mksl {l : List (Nat × List (List Ce))} {s n : Nat} {z : List Ce} {ps : List (Nat × Opd)} {es : List (List Ce)} (h : fillS fr s (List.replicate n z) ps = some es) : aop (.mksl false s n z ps) fr (E σ l) = some (.c (.sl (σ.next + l.length) 0 0 n n), E σ (l ++ [(0, es)])) := by
  simp [aop, h, E_new, E_next]
theorem aop_load {l : List (Nat × List (List Ce))} {g : Bool} {s k v i j : Nat} {a : Opd} {es : List (List Ce)} {e : List Ce} {x : AV} (ha : a.ev fr = some (.c (.ptr (σ.next + k) v i j))) (hl : l[k]? = some (v, es)) (he : es[i]? = some e) (hj : j ≤ e.length) (hx : takeA g s (e.drop j) = some x) :
    aop (.load g s a) fr (E σ l) = some (x, E σ l) := by
  simp [aop, ha, Store.at_, E_at, hl, he, hj, hx]
theorem aop_store {l : List (Nat × List (List Ce))} {s k v i j : Nat} {a y : Opd} {es : List (List Ce)} {e cs : List Ce} {x : AV} (ha : a.ev fr = some (.c (.ptr (σ.next + k) v i j))) (hy : y.ev fr = some x) (hc : x.cells = some cs) (hl : l[k]? = some (v, es)) (he : es[i]? = some e) (hs : cs.length = s) (hj : j + s ≤ e.length) :
    aop (.store s a y) fr (E σ l) = some (.un, E σ (l.set k (v, es.set i (splice e j cs)))) := by
  have hk : k < l.length := (List.getElem?_eq_some_iff.1 hl).1
  simp [aop, ha, hy, hc, E_at, hl, he, hs, hj, E_put hk]
theorem aop_iaddr {l : List (Nat × List (List Ce))} {s k v i m c n : Nat} {x y : Opd} {kd : IntKind} {es : List (List Ce)} {z : Int} (hx : x.ev fr = some (.c (.sl (σ.next + k) v i m c))) (hy : y.ev fr = some (.c (.int kd z))) (hz : z = (n : Int)) (hn : n < m) (hl : l[k]? = some (v, es)) {e : List Ce} (he : es[i + n]? = some e) (hs : e.length = s) :
    aop (.iaddr s x y) fr (E σ l) = some (.c (.ptr (σ.next + k) v (i + n) 0), E σ l) := by
  subst hz
  simp [aop, hx, hy, iaddrA, hn, E_at, hl, he, hs]
theorem aop_iaddrF {τ : Store} {s n : Nat} {x y : Opd} {kd : IntKind} {es : List (List Ce)} {z : Int} {e : List Ce} (hx : x.ev fr = some (.c (.fz es))) (hy : y.ev fr = some (.c (.int kd z))) (hz : z = (n : Int)) (he : es[n]? = some e) (hs : e.length = s) :
    aop (.iaddr s x y) fr τ = some (.c (.fp e), τ) := by
  subst hz
  simp [aop, hx, hy, iaddrA, he, hs]

theorem aop_iaddrM {τ : Store} {α : Type} {enc : α → List Ce} {xs : List α} {s n : Nat} {x y : Opd} {kd : IntKind} {z : Int} (hx : x.ev fr = some (.c (.fz (xs.map enc)))) (hy : y.ev fr = some (.c (.int kd z))) (hz : z = (n : Int)) (hn : n < xs.length) (hs : (enc xs[n]).length = s) :
    aop (.iaddr s x y) fr τ = some (.c (.fp (enc xs[n])), τ) :=
  aop_iaddrF hx hy hz (by simp [hn]) hs

theorem aop_lenM {τ : Store} {α : Type} {enc : α → List Ce} {xs : List α} {x : Opd} (hx : x.ev fr = some (.c (.fz (xs.map enc)))) : aop (.len false x) fr τ = some (.c (.int .i64 (xs.length : Int)), τ) := by
  simp [aop, hx]

theorem aop_app {l : List (Nat × List (List Ce))} {s bytes k v : Nat} {x y : Opd} {u : Ce} {ys junk zs : List (List Ce)} (hx : x.ev fr = some (.c (vec (σ.next + k) v ys junk))) (hy : y.ev fr = some (.c u)) (hu : (E σ l).els u = some zs) (hl : l[k]? = some (v, ys ++ junk))
    (hys : ∀ e ∈ ys, e.length = s) (hj : Jk s junk) (hzs : ∀ e ∈ zs, e.length = s) (hb : (ys.length + zs.length) * bytes ≤ 140737488355328) :
    ∃ v' junk', Jk s junk' ∧ aop (.app s bytes x y) fr (E σ l) = some (.c (vec (σ.next + k) v' (ys ++ zs) junk'), E σ (l.set k (v', ys ++ zs ++ junk'))) := by
  have hk : k < l.length := (List.getElem?_eq_some_iff.1 hl).1
  have hall : ∀ e ∈ ys ++ junk, e.length = s := by
    intro e he
    rcases List.mem_append.1 he with h | h
    · exact hys e h
    · exact (hj e h).1
  have hns : ∀ b, u ≠ .str b := by
    rintro b rfl
    simp [Store.els] at hu
  have h0 : aop (.app s bytes x y) fr (E σ l) = (((E σ l).els u).bind (appA (E σ l) s bytes (vec (σ.next + k) v ys junk))).map fun r => (.c r.1, r.2) := by
    simp only [aop, hx, hy]
  rw [h0, hu]
  simp only [Option.bind_some]
  by_cases c : zs.length ≤ junk.length
  · refine ⟨v, junk.drop zs.length, fun e he => hj e (List.mem_of_mem_drop he), ?_⟩
    have e2 : splice (ys ++ junk) (0 + ys.length) zs = ys ++ zs ++ junk.drop zs.length := by
      simp only [splice, Nat.zero_add, List.take_left', List.drop_append, Nat.add_sub_cancel_left]
      rw [List.drop_eq_nil_of_le (by omega)]
      simp
    have c2 : ys.length + zs.length ≤ ys.length + junk.length := by omega
    have e1 : appA (E σ l) s bytes (vec (σ.next + k) v ys junk) zs = some (.sl (σ.next + k) v 0 (ys.length + zs.length) (ys.length + junk.length), (E σ l).put (σ.next + k) (v, splice (ys ++ junk) (0 + ys.length) zs)) := by
      unfold appA vec
      rw [if_pos hzs]
      simp only [E_at, hl]
      rw [if_pos ⟨trivial, by simp, by omega, hall⟩, if_pos c2]
    rw [e1, e2, E_put hk]
    simp only [Option.map_some, vec, List.length_append, List.length_drop]
    rw [show ys.length + zs.length + (junk.length - zs.length) = ys.length + junk.length by omega]
  · refine ⟨v + 1, [], Jk.nil, ?_⟩
    have c2 : ¬ ys.length + zs.length ≤ ys.length + junk.length := by omega
    have e1 : appA (E σ l) s bytes (vec (σ.next + k) v ys junk) zs = some (.sl (σ.next + k) (v + 1) 0 (ys.length + zs.length) (ys.length + zs.length), (E σ l).put (σ.next + k) (v + 1, ((ys ++ junk).drop 0).take ys.length ++ zs)) := by
      unfold appA vec
      rw [if_pos hzs]
      simp only [E_at, hl]
      rw [if_pos ⟨trivial, by simp, by omega, hall⟩, if_neg c2, if_pos hb]
    rw [e1, E_put hk]
    simp [vec]
theorem Go.app {d : Option Nat} {g : Option (Nat × Bool)} {rest : List AOper} {l : List (Nat × List (List Ce))} {s bytes k v : Nat} {x y : Opd} {u : Ce} {ys junk zs : List (List Ce)} (hw : wants fr g = some true) (hx : x.ev fr = some (.c (vec (σ.next + k) v ys junk))) (hy : y.ev fr = some (.c u)) (hu : (E σ l).els u = some zs) (hl : l[k]? = some (v, ys ++ junk))
    (hys : ∀ e ∈ ys, e.length = s) (hj : Jk s junk) (hzs : ∀ e ∈ zs, e.length = s) (hb : (ys.length + zs.length) * bytes ≤ 140737488355328)
    (h : ∀ v' junk', Jk s junk' → Go P n0 nt rets R (.ops rest :: K) (putA fr d (.c (vec (σ.next + k) v' (ys ++ zs) junk'))) (E σ (l.set k (v', ys ++ zs ++ junk')))) :
    Go P n0 nt rets R (.ops (⟨d, .op (.app s bytes x y), g⟩ :: rest) :: K) fr (E σ l) := by
  obtain ⟨v', junk', h1, h2⟩ := aop_app hx hy hu hl hys hj hzs hb
  exact .op hw h2 (h v' junk' h1)
theorem Go.sapp {d : Option Nat} {g : Option (Nat × Bool)} {rest : List (List AOper)} {l : List (Nat × List (List Ce))} {s bytes k v : Nat} {x y : Opd} {u : Ce} {ys junk zs : List (List Ce)} (hw : wants fr g = some true) (hx : x.ev fr = some (.c (vec (σ.next + k) v ys junk))) (hy : y.ev fr = some (.c u)) (hu : (E σ l).els u = some zs) (hl : l[k]? = some (v, ys ++ junk))
    (hys : ∀ e ∈ ys, e.length = s) (hj : Jk s junk) (hzs : ∀ e ∈ zs, e.length = s) (hb : (ys.length + zs.length) * bytes ≤ 140737488355328)
    (h : ∀ v' junk', Jk s junk' → Go P n0 nt rets R (.segs rest :: K) (putA fr d (.c (vec (σ.next + k) v' (ys ++ zs) junk'))) (E σ (l.set k (v', ys ++ zs ++ junk')))) :
    Go P n0 nt rets R (.segs ([⟨d, .op (.app s bytes x y), g⟩] :: rest) :: K) fr (E σ l) := by
  obtain ⟨v', junk', h1, h2⟩ := aop_app hx hy hu hl hys hj hzs hb
  exact .sop hw h2 (h v' junk' h1)
theorem Go.app1 {d : Option Nat} {g : Option (Nat × Bool)} {rest : List AOper} {l : List (Nat × List (List Ce))} {s bytes k v : Nat} {x y : Opd} {u : Ce} {ys junk : List (List Ce)} {z : List Ce} (hw : wants fr g = some true) (hx : x.ev fr = some (.c (vec (σ.next + k) v ys junk))) (hy : y.ev fr = some (.c u)) (hu : (E σ l).els u = some [z]) (hl : l[k]? = some (v, ys ++ junk))
    (hys : ∀ e ∈ ys, e.length = s) (hj : Jk s junk) (hzs : z.length = s) (hb : (ys.length + 1) * bytes ≤ 140737488355328)
    (h : ∀ v' junk', Jk s junk' → Go P n0 nt rets R (.ops rest :: K) (putA fr d (.c (vec (σ.next + k) v' (ys ++ [z]) junk'))) (E σ (l.set k (v', ys ++ [z] ++ junk')))) :
    Go P n0 nt rets R (.ops (⟨d, .op (.app s bytes x y), g⟩ :: rest) :: K) fr (E σ l) :=
  Go.app hw hx hy hu hl hys hj (by intro e he; simp at he; subst he; exact hzs) (by simpa using hb) h
theorem Go.sapp1 {d : Option Nat} {g : Option (Nat × Bool)} {rest : List (List AOper)} {l : List (Nat × List (List Ce))} {s bytes k v : Nat} {x y : Opd} {u : Ce} {ys junk : List (List Ce)} {z : List Ce} (hw : wants fr g = some true) (hx : x.ev fr = some (.c (vec (σ.next + k) v ys junk))) (hy : y.ev fr = some (.c u)) (hu : (E σ l).els u = some [z]) (hl : l[k]? = some (v, ys ++ junk))
    (hys : ∀ e ∈ ys, e.length = s) (hj : Jk s junk) (hzs : z.length = s) (hb : (ys.length + 1) * bytes ≤ 140737488355328)
    (h : ∀ v' junk', Jk s junk' → Go P n0 nt rets R (.segs rest :: K) (putA fr d (.c (vec (σ.next + k) v' (ys ++ [z]) junk'))) (E σ (l.set k (v', ys ++ [z] ++ junk')))) :
    Go P n0 nt rets R (.segs ([⟨d, .op (.app s bytes x y), g⟩] :: rest) :: K) fr (E σ l) :=
  Go.sapp hw hx hy hu hl hys hj (by intro e he; simp at he; subst he; exact hzs) (by simpa using hb) h
theorem frz_vec {l : List (Nat × List (List Ce))} {k v : Nat} {ys junk : List (List Ce)} (hl : l[k]? = some (v, ys ++ junk)) (ho : ∀ e ∈ ys, ∀ x ∈ e, Old σ.next x) : Frz (E σ l) σ.next (vec (σ.next + k) v ys junk) (.fz ys) := by
  refine .sl _ _ _ _ _ (ys ++ junk) ys (by omega) (by rw [E_at]; exact hl) (by simp) rfl (fun i hi => ?_) (fun i j hi hj => ?_)
  · simp only [Nat.zero_add]
    rw [List.getElem_append_left hi]
  · have e : (ys ++ junk)[0 + i]'(by simp; omega) = ys[i] := by
      simp only [Nat.zero_add]
      rw [List.getElem_append_left hi]
    simp only [e]
    exact .same _ (ho _ (List.getElem_mem hi) _ (List.getElem_mem hj))
end

theorem wrap64 {n : Int} (h1 : -9223372036854775808 ≤ n) (h2 : n ≤ 9223372036854775807) : IntKind.i64.wrap n = n := by
  rw [IntKind.wrap_i64]
  omega

theorem wrap_succ {n : Int} {i : Nat} (h : n = i) (hb : i + 1 ≤ 1099511627776) : IntKind.i64.wrap (n + 1) = ((i + 1 : Nat) : Int) := by
  rw [wrap64 (by omega) (by omega)]
  omega

theorem wrap_pred {n : Int} {i : Nat} (h : n = ((i + 1 : Nat) : Int)) (hb : i + 1 ≤ 1099511627776) : IntKind.i64.wrap (n - 1) = (i : Int) := by
  rw [wrap64 (by omega) (by omega)]
  omega

end Go.Proofs.Ytjlhfjpnnildhaa.Am
