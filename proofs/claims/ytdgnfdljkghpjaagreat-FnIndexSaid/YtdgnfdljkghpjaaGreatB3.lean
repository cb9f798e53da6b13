/- Joined texts: Am32, Am30, Am27. -/
import Derived.OpenShut
import Derived.Below
import Derived.Carry
import Derived.SizedLaws
import Derived.ChangeArms
import Derived.DataReads
import Derived.Test.YtdgnfdljkghpjaaGreatB1
import Derived.Test.YtdgnfdljkghpjaaGreatB2
/- The abstract machine, part 32: ends told by existence; a reader's memory. -/
set_option linter.unusedVariables false
set_option linter.unusedSimpArgs false
namespace Go.Proofs.YtdgnfdljkghpjaaGreat.Am

/-- What a call leaves may be said otherwise, result by result. -/
theorem Ok.endsX {P : Program} {f : Nat} {args : List AV} {σ : Store} {Q Z : AV → Store → Prop} (h : Ok P f args σ Q)
    (hq : ∀ r σ1, Q r σ1 → ∃ r2 σ2, Z r2 σ2 ∧ σ2.next = σ.next ∧ (∀ id y, σ2.get id = some y → σ1.get id = some y ∧ id < σ.next ∧ (σ.get id = some y ∨ ∀ i j (hi : i < y.2.length) (hj : j < y.2[i].length), Old σ.next y.2[i][j])) ∧ FrzV σ1 σ.next r r2) :
    Ok P f args σ Z := by
  refine ⟨h.1, fun C cargs hR ha => (h.2 C cargs hR ha).mono ?_⟩
  rintro e w' ⟨D, σ1, r, v, rfl, rfl, hQ, hRD, hx, hle⟩
  obtain ⟨r2, σ2, hZ, hnext, hsub, hfrz⟩ := hq r σ1 hQ
  let D2 : Cx := ⟨D.μ, fun id v => D.F id v ∧ id < σ.next, Mof D.μ σ2, D.w⟩
  have hMsub : ∀ b, D2.M b → D.M b := by
    rintro b ⟨id, v', es, hg, hne, rfl⟩
    exact (hRD.M _).2 ⟨id, v', es, (hsub id _ hg).1, hne, rfl⟩
  have hcut : ∀ {x : Ce} {u : Value}, Rp D x u → Old σ.next x → Rp D2 x u := fun hx ho => Rp.cut (C := D) (D := D2) rfl rfl (fun id v hf hlt => ⟨hf, hlt⟩) hMsub hx ho
  have hRl : Rl D2 σ2 := by
    refine ⟨fun id v hf => by rw [hnext]; exact hf.2, fun id v' es hg => ?_, fun b => Iff.rfl, fun id v es id' v' es' h1 n1 h2 n2 hb => ?_, fun id v' es hg hne => ?_⟩
    · obtain ⟨g1, g2, _⟩ := hsub id _ hg
      obtain ⟨a1, a2, a3⟩ := hRD.live id v' es g1
      exact ⟨⟨a1, g2⟩, fun v1 hv1 => a2 v1 hv1.1, a3⟩
    · exact hRD.inj id v es id' v' es' (hsub id _ h1).1 n1 (hsub id' _ h2).1 n2 hb
    · obtain ⟨g1, g2, g3⟩ := hsub id _ hg
      obtain ⟨cs, t, hb, hz, hl, hc⟩ := hRD.blk id v' es g1 hne
      refine ⟨cs, t, hb, hz, hl, fun i j hi hj => ?_⟩
      obtain ⟨u, h1, h2⟩ := hc i j hi hj
      refine ⟨u, h1, hcut h2 ?_⟩
      rcases g3 with g3 | g3
      · obtain ⟨cs0, t0, hb0, hz0, hl0, hc0⟩ := hR.blk id v' es g3 hne
        obtain ⟨u0, _, k2⟩ := hc0 i j hi hj
        exact k2.old hR.F
      · exact g3 i j hi hj
  refine ⟨D2, σ2, r2, v, rfl, rfl, hZ, hRl, ?_, ?_⟩
  · refine hfrz.sound (D := D2) hRD rfl rfl (fun id v hf hlt => ⟨hf, hlt⟩) hMsub (fun id v' es hn hg hne hm => ?_) hx
    obtain ⟨id2, v2, es2, hg2, hne2, hb⟩ := hm
    have g := hsub id2 _ hg2
    have := hRD.inj id v' es id2 v2 es2 hg hne g.1 hne2 hb.symm
    omega
  · refine ⟨fun id v hf => ⟨⟨(hle.F id v hf).1, hR.F id v hf⟩, (hle.F id v hf).2⟩, hle.os, hle.tape, hle.output, hle.size, hle.keep, hle.shp, fun b hb hm => hle.M b hb (hMsub b hm)⟩

/-! ### A reader: a text of bytes and a place in it -/
def encB (b : UInt8) : List Ce := [.int .u8 (b.toNat : Int)]
/-- The cells of a reader. -/
def rdB (code : List UInt8) (p : Nat) : List (List Ce) := [[.fz (code.map encB), .int .i64 (p : Int)]]
def Rd (σ : Store) (id v : Nat) (code : List UInt8) (p : Nat) : Prop := σ.get id = some (v, rdB code p) ∧ id < σ.next ∧ p ≤ code.length ∧ code.length ≤ 1048576
def Rd.go (σ : Store) (id v : Nat) (code : List UInt8) (q : Nat) : Store := σ.put id (v, rdB code q)
theorem Rd.at_ {σ : Store} {id v : Nat} {code : List UInt8} {p q : Nat} (h : Rd σ id v code p) (hq : q ≤ code.length) : Rd (Rd.go σ id v code q) id v code q := ⟨if_pos rfl, h.2.1, hq, h.2.2.2⟩
theorem Rd.go_go {σ : Store} {id v : Nat} {code : List UInt8} {p q : Nat} : Rd.go (Rd.go σ id v code p) id v code q = Rd.go σ id v code q := by
  simp only [Rd.go, Store.put, Store.mk.injEq, true_and]
  funext a
  split <;> rfl
theorem Rd.same {σ : Store} {id v : Nat} {code : List UInt8} {p : Nat} (h : Rd σ id v code p) : Rd.go σ id v code p = σ := by
  cases σ with
  | mk nx g =>
    simp only [Rd.go, Store.put, Store.mk.injEq, true_and]
    funext a
    split
    · rename_i e; subst e; exact h.1.symm
    · rfl
theorem Rd.E {σ : Store} {id v : Nat} {code : List UInt8} {p : Nat} (h : Rd σ id v code p) (l : List (Nat × List (List Ce))) : Rd (E σ l) id v code p := ⟨by rw [E_lt h.2.1]; exact h.1, by have := h.2.1; rw [E_next]; omega, h.2.2⟩
theorem Rd.go_E {σ : Store} {id v : Nat} {code : List UInt8} {q : Nat} (h : id < σ.next) (l : List (Nat × List (List Ce))) : Rd.go (Am.E σ l) id v code q = Am.E (Rd.go σ id v code q) l := by
  have h2 : id < (Rd.go σ id v code q).next := h
  refine Store.ext rfl fun a => ?_
  by_cases e : a = id
  · subst e
    rw [E_lt h2]
    rw [show (Rd.go (Am.E σ l) a v code q).get a = some (v, rdB code q) from if_pos rfl, show (Rd.go σ a v code q).get a = some (v, rdB code q) from if_pos rfl]
  · rw [show (Rd.go (Am.E σ l) id v code q).get a = (Am.E σ l).get a from if_neg e]
    by_cases hl : a < σ.next
    · rw [E_lt hl, E_lt (show a < (Rd.go σ id v code q).next from hl), show (Rd.go σ id v code q).get a = σ.get a from if_neg e]
    · rw [E_ge hl, E_ge (show ¬ a < (Rd.go σ id v code q).next from hl)]
      rfl
section
variable {fr : Fr} {σ : Store} {id v : Nat} {code : List UInt8} {p0 p : Nat} {x y : Opd} {l : List (Nat × List (List Ce))}
theorem Rd.get_ (h : Rd σ id v code p0) : (Am.E (Rd.go σ id v code p) l).get id = some (v, rdB code p) := by
  rw [E_lt (show id < (Rd.go σ id v code p).next from h.2.1)]
  exact if_pos rfl
theorem aop_rdb (h : Rd σ id v code p0) (hx : x.ev fr = some (.c (.ptr id v 0 0))) : aop (.load false 1 x) fr (E (Rd.go σ id v code p) l) = some (.c (.fz (code.map encB)), E (Rd.go σ id v code p) l) := by
  simp only [aop, hx, Store.at_, h.get_, rdB]
  rfl
theorem aop_rdp (h : Rd σ id v code p0) (hx : x.ev fr = some (.c (.ptr id v 0 1))) : aop (.load false 1 x) fr (E (Rd.go σ id v code p) l) = some (.c (.int .i64 (p : Int)), E (Rd.go σ id v code p) l) := by
  simp only [aop, hx, Store.at_, h.get_, rdB]
  rfl
theorem aop_rdput (h : Rd σ id v code p0) (hx : x.ev fr = some (.c (.ptr id v 0 1))) {z : Int} {q : Nat} (hy : y.ev fr = some (.c (.int .i64 z))) (hz : z = (q : Int)) : aop (.store 1 x y) fr (E (Rd.go σ id v code p) l) = some (.un, E (Rd.go σ id v code q) l) := by
  subst hz
  have h2 : aop (.store 1 x y) fr (E (Rd.go σ id v code p) l) = some (.un, Rd.go (E (Rd.go σ id v code p) l) id v code q) := by
    simp only [aop, hx, hy, AV.cells, Option.bind_some, h.get_, rdB]
    rfl
  rw [h2, Rd.go_E (show id < (Rd.go σ id v code p).next from h.2.1), Rd.go_go]
theorem aop_remR {k : IntKind} {a b : Int} (hx : x.ev fr = some (.c (.int k a))) (hy : y.ev fr = some (.c (.int k b))) (hb : b ≠ 0) : aop (.bin .rem x y) fr σ = some (.c (.int k (a.tmod b)), σ) := by
  simp [aop, hx, hy, binA, hb]
end
/-- A call that reads on: its result is Z, and frozen; the reader stands elsewhere. -/
structure Draws (P : Program) (f : Nat) (args : List AV) (Z : AV → Prop) : Prop where
  at_ : ∀ (σ : Store) (id v : Nat) (code : List UInt8) (p : Nat), Rd σ id v code p → Ok P f (.c (.ptr id v 0 0) :: args) σ (fun r τ => ∃ q, q ≤ code.length ∧ Z r ∧ τ = Rd.go σ id v code q)
def FinR (σ : Store) (id v : Nat) (code : List UInt8) (Z : AV → Prop) (r : AV) (τ : Store) : Prop := ∃ q y l, q ≤ code.length ∧ Z y ∧ τ = E (Rd.go σ id v code q) l ∧ FrzV τ σ.next r y
theorem Draws.ends {P : Program} {f : Nat} {args : List AV} {Z : AV → Prop} {σ : Store} {id v : Nat} {code : List UInt8} {p : Nat} (hr : Rd σ id v code p) (h : Ok P f args σ (FinR σ id v code Z)) : Ok P f args σ (fun r τ => ∃ q, q ≤ code.length ∧ Z r ∧ τ = Rd.go σ id v code q) := by
  refine .old' h fun hS _ => h.endsX ?_
  rintro r σ1 ⟨q, y, l, hq, hZ, rfl, hf⟩
  refine ⟨y, Rd.go σ id v code q, ⟨q, hq, hZ, rfl⟩, rfl, fun a b hb => ?_, hf⟩
  have ha : a < σ.next := by
    by_cases e : a = id
    · rw [e]; exact hr.2.1
    · have : σ.get a = some b := by
        have h2 : (Rd.go σ id v code q).get a = some b := hb
        rwa [show (Rd.go σ id v code q).get a = σ.get a from if_neg e] at h2
      exact (hS a b this).1
  refine ⟨by rw [E_lt (show a < (Rd.go σ id v code q).next from ha)]; exact hb, ha, ?_⟩
  by_cases e : a = id
  · right
    subst e
    have h2 : (Rd.go σ a v code q).get a = some (v, rdB code q) := if_pos rfl
    rw [h2] at hb
    injection hb with hb
    subst hb
    intro i j hi hj
    have hold := (hS a _ hr.1).2
    have hi0 : i = 0 := by simp [rdB] at hi; omega
    subst hi0
    have hj2 : j = 0 ∨ j = 1 := by simp [rdB] at hj; omega
    rcases hj2 with rfl | rfl
    · exact hold 0 0 (by simp [rdB]) (by simp [rdB])
    · exact .int _ _
  · left
    rwa [show (Rd.go σ id v code q).get a = σ.get a from if_neg e] at hb
theorem Draws.run {P : Program} (hm : P.follows .mixedOrders = true) {fz : List Nat} {f : Nat} {af : AFn} (h : compFn P fz f = some af) {args : List AV} {Z : AV → Prop} (hn : (AV.c .nils :: args).length ≤ af.nt)
    (hg : ∀ σ id v code p, Rd σ id v code p → p ≤ code.length → code.length ≤ 1048576 → OldS σ → Go P σ.next af.nt af.rets (FinR σ id v code Z) [.code af.body] (frOf 0 (.c (.ptr id v 0 0) :: args)) (E (Rd.go σ id v code p) [])) : Draws P f args Z :=
  ⟨fun σ id v code p hr => Draws.ends hr (Ok.run hm h hn fun hS _ => by
    have := hg σ id v code p hr hr.2.2.1 hr.2.2.2 hS
    rwa [hr.same] at this)⟩
theorem FinR.c {σ : Store} {id v : Nat} {code : List UInt8} {Z : AV → Prop} {r : AV} {q : Nat} {l : List (Nat × List (List Ce))} (hq : q ≤ code.length) (hZ : Z r) (ho : ∀ y ∈ r.all, Old σ.next y) : FinR σ id v code Z r (E (Rd.go σ id v code q) l) :=
  ⟨q, r, l, hq, hZ, rfl, .refl ho⟩
theorem FinR.f {σ : Store} {id v : Nat} {code : List UInt8} {Z : AV → Prop} {r y : AV} {q : Nat} {l : List (Nat × List (List Ce))} (hq : q ≤ code.length) (hZ : Z y) (hf : FrzV (E (Rd.go σ id v code q) l) σ.next r y) : FinR σ id v code Z r (E (Rd.go σ id v code q) l) :=
  ⟨q, y, l, hq, hZ, rfl, hf⟩
/-- A call that makes what is told by existence, and frozen. -/
structure Told (P : Program) (f : Nat) (args : List AV) (Z : AV → Prop) : Prop where
  at_ : ∀ σ, Ok P f args σ (fun r τ => Z r ∧ τ = σ)
theorem Told.run {P : Program} (hm : P.follows .mixedOrders = true) {fz : List Nat} {f : Nat} {af : AFn} (h : compFn P fz f = some af) {args : List AV} {Z : AV → Prop} (hn : args.length ≤ af.nt)
    (hg : ∀ σ, OldS σ → Go P σ.next af.nt af.rets (fun r τ => ∃ y, Z y ∧ Fin σ y r τ) [.code af.body] (frOf 0 args) (E σ [])) : Told P f args Z := by
  refine ⟨fun σ => ?_⟩
  have h1 : Ok P f args σ (fun r τ => ∃ y, Z y ∧ Fin σ y r τ) := Ok.run hm h hn fun hS _ => hg σ hS
  refine .old' h1 fun hS _ => h1.endsX ?_
  rintro r σ1 ⟨y, hZ, l, rfl, hf⟩
  exact ⟨y, σ, ⟨hZ, rfl⟩, rfl, fun a b hb => ⟨by rw [E_lt (hS a b hb).1]; exact hb, (hS a b hb).1, .inl hb⟩, hf⟩
section
variable {P : Program} {n0 nt : Nat} {rets : List RV} {R : AV → Store → Prop} {K : List AK} {fr : Fr} {σ : Store}
/-- A drawn call, what is owned beside the reader kept. -/
theorem Go.drawn {id v : Nat} {code : List UInt8} {p0 p : Nat} {l : List (Nat × List (List Ce))} {d : Option Nat} {f : Opd} {args : List Opd} {g : Option (Nat × Bool)} {rest : List AOper} {n : Nat} {as : List AV} {Z : AV → Prop} (hr : Rd σ id v code p0) (hq : p ≤ code.length) (hw : wants fr g = some true) (hf : f.ev fr = some (.c (.fn n [] []))) (ha : evs fr args = some (.c (.ptr id v 0 0) :: as))
    (hp : Draws P n as Z) (h : ∀ r q, q ≤ code.length → Z r → Go P n0 nt rets R (.ops rest :: K) (putA fr d r) (E (Rd.go σ id v code q) l)) : Go P n0 nt rets R (.ops (⟨d, .call f args, g⟩ :: rest) :: K) fr (E (Rd.go σ id v code p) l) :=
  .call _ hw hf ha (by simpa using hp.at_ (E (Rd.go σ id v code p) l) id v code p ((hr.at_ hq).E l)) (by
    rintro r τ ⟨q, hq2, hZ, rfl⟩
    rw [Rd.go_E (show id < (Rd.go σ id v code p).next from hr.2.1), Rd.go_go]
    exact h r q hq2 hZ)
/-- A segment with calls that read on. -/
theorem Go.qr {id v : Nat} {code : List UInt8} {q : Nat} {l : List (Nat × List (List Ce))} {seg : List AOper} {rest : List (List AOper)} (l0 : List (Nat × List (List Ce))) (hl : l = l0)
    (h : Qx P (fun q l => E (Rd.go σ id v code q) l) (fun l => ∃ m, l = l0 ++ m) (fun F q l => Go P n0 nt rets R (.segs rest :: K) F (E (Rd.go σ id v code q) l)) seg fr q l) : Go P n0 nt rets R (.segs (seg :: rest) :: K) fr (E (Rd.go σ id v code q) l) :=
  .qx (fun q l => E (Rd.go σ id v code q) l) (fun l => ∃ m, l = l0 ++ m) _ q l (fun a b b' e => E_inj e) ⟨[], by rw [List.append_nil]; exact hl⟩ h fun _ _ _ h => h
theorem Qx.drawn {id v : Nat} {code : List UInt8} {p0 p : Nat} {l : List (Nat × List (List Ce))} {I : List (Nat × List (List Ce)) → Prop} {Y : Fr → Nat → List (Nat × List (List Ce)) → Prop} {d : Option Nat} {f : Opd} {args : List Opd} {g : Option (Nat × Bool)} {rest : List AOper} {n : Nat} {as : List AV} {Z : AV → Prop} (hr : Rd σ id v code p0) (hq : p ≤ code.length) (hw : wants fr g = some true) (hf : f.ev fr = some (.c (.fn n [] []))) (ha : evs fr args = some (.c (.ptr id v 0 0) :: as))
    (hp : Draws P n as Z) (h : ∀ r q, q ≤ code.length → Z r → Qx P (fun q l => E (Rd.go σ id v code q) l) I Y rest (putA fr d r) q l) : Qx P (fun q l => E (Rd.go σ id v code q) l) I Y (⟨d, .call f args, g⟩ :: rest) fr p l :=
  .call (fun r q => q ≤ code.length ∧ Z r) hw hf ha (fun b _ => by
    have := hp.at_ (E (Rd.go σ id v code p) b) id v code p ((hr.at_ hq).E b)
    refine (by simpa using this : Ok P n (([] : List Ce).map .c ++ (.c (.ptr id v 0 0) :: as) ++ ([] : List Ce).map .c) _ _).mono ?_
    rintro r τ ⟨q, hq2, hZ, rfl⟩
    exact ⟨q, ⟨hq2, hZ⟩, by rw [Rd.go_E (show id < (Rd.go σ id v code p).next from hr.2.1), Rd.go_go]⟩) fun r q ⟨h1, h2⟩ => h r q h1 h2
theorem Qx.pcall {S : Nat → List (Nat × List (List Ce)) → Store} {q : Nat} {l : List (Nat × List (List Ce))} {I : List (Nat × List (List Ce)) → Prop} {Y : Fr → Nat → List (Nat × List (List Ce)) → Prop} {d : Option Nat} {f : Opd} {args : List Opd} {g : Option (Nat × Bool)} {rest : List AOper} {n : Nat} {pre cap : List Ce} {vs : List AV} {r : AV} (hw : wants fr g = some true) (hf : f.ev fr = some (.c (.fn n pre cap))) (ha : evs fr args = some vs)
    (hp : Pure P n (pre.map .c ++ vs ++ cap.map .c) r) (h : Qx P S I Y rest (putA fr d r) q l) : Qx P S I Y (⟨d, .call f args, g⟩ :: rest) fr q l :=
  .call (fun r' q' => r' = r ∧ q' = q) hw hf ha (fun b _ => (hp.at_ _).mono fun r' τ ⟨h1, h2⟩ => ⟨q, ⟨h1, rfl⟩, h2⟩) fun r' q' ⟨h1, h2⟩ => by rw [h1, h2]; exact h
theorem Qx.alloc {id v : Nat} {code : List UInt8} {q : Nat} {l l0 : List (Nat × List (List Ce))} {Y : Fr → Nat → List (Nat × List (List Ce)) → Prop} {d : Option Nat} {z : List Ce} {g : Option (Nat × Bool)} {rest : List AOper} (hw : wants fr g = some true) (hl : ∃ m, l = l0 ++ m) (h : Qx P (fun q l => E (Rd.go σ id v code q) l) (fun l => ∃ m, l = l0 ++ m) Y rest (putA fr d (.c (.ptr (σ.next + l.length) 0 0 0))) q (l ++ [(0, [z])])) :
    Qx P (fun q l => E (Rd.go σ id v code q) l) (fun l => ∃ m, l = l0 ++ m) Y (⟨d, .op (.alloc z), g⟩ :: rest) fr q l :=
  .wop rfl hw (fun a => aop_alloc) (by obtain ⟨m, rfl⟩ := hl; exact ⟨m ++ [(0, [z])], by rw [List.append_assoc]⟩) h
theorem aop_loadI {id v : Nat} {code : List UInt8} {l0 : List (Nat × List (List Ce))} {k u i j : Nat} {gg : Bool} {s : Nat} {a : Opd} {es : List (List Ce)} {e : List Ce} {x : AV} (ha : a.ev fr = some (.c (.ptr (σ.next + k) u i j))) (hl : l0[k]? = some (u, es)) (he : es[i]? = some e) (hj : Nat.ble j e.length = true) (hx : takeA gg s (e.drop j) = some x) :
    ∀ (q : Nat) (l : List (Nat × List (List Ce))), (∃ m, l = l0 ++ m) → aop (.load gg s a) fr (E (Rd.go σ id v code q) l) = some (x, E (Rd.go σ id v code q) l) := by
  rintro q _ ⟨m, rfl⟩
  have hk : k < l0.length := (List.getElem?_eq_some_iff.1 hl).1
  exact aop_load (σ := Rd.go σ id v code q) ha (by rw [List.getElem?_append_left hk]; exact hl) he (Nat.le_of_ble_eq_true hj) hx
theorem aop_iaddrI {id v : Nat} {code : List UInt8} {l0 : List (Nat × List (List Ce))} {k u i n m s c : Nat} {x y : Opd} {kd : IntKind} {z : Int} {es : List (List Ce)} {e : List Ce} (hx : x.ev fr = some (.c (.sl (σ.next + k) u i m c))) (hy : y.ev fr = some (.c (.int kd z))) (hz : z = (n : Int)) (hn : n < m) (hl : l0[k]? = some (u, es)) (he : es[i + n]? = some e) (hs : e.length = s) :
    ∀ (q : Nat) (l : List (Nat × List (List Ce))), (∃ m, l = l0 ++ m) → aop (.iaddr s x y) fr (E (Rd.go σ id v code q) l) = some (.c (.ptr (σ.next + k) u (i + n) 0), E (Rd.go σ id v code q) l) := by
  rintro q _ ⟨m', rfl⟩
  have hk : k < l0.length := (List.getElem?_eq_some_iff.1 hl).1
  exact aop_iaddrO hx hy hz hn (E_get (σ := Rd.go σ id v code q) (by rw [List.getElem?_append_left hk]; exact hl)) he hs
theorem Go.told {d : Option Nat} {f : Opd} {args : List Opd} {g : Option (Nat × Bool)} {rest : List AOper} {n : Nat} {pre cap : List Ce} {vs : List AV} {Z : AV → Prop} (hw : wants fr g = some true) (hf : f.ev fr = some (.c (.fn n pre cap))) (ha : evs fr args = some vs)
    (hp : Told P n (pre.map .c ++ vs ++ cap.map .c) Z) (h : ∀ r, Z r → Go P n0 nt rets R (.ops rest :: K) (putA fr d r) σ) : Go P n0 nt rets R (.ops (⟨d, .call f args, g⟩ :: rest) :: K) fr σ :=
  .call _ hw hf ha (hp.at_ σ) (by rintro r' σ' ⟨hz, rfl⟩; exact h r' hz)
end
end Go.Proofs.YtdgnfdljkghpjaaGreat.Am

/- The abstract machine, part 30: slices.IndexFunc, ContainsFunc, Index, Contains, once for all types. -/
set_option linter.unusedVariables false
set_option linter.unusedSimpArgs false
namespace Go.Proofs.YtdgnfdljkghpjaaGreat.Am

def indexFuncCode (g : Bool) (s : Nat) : AFn := ⟨19, [.t 4], (.seq (.region [⟨some 4, .op (.mv (.k (.int .i64 0))), none⟩]) (.seq (.seq (.region [⟨some 6, .op (.mv (.t 0)), none⟩, ⟨some 7, .op (.len false (.t 6)), none⟩, ⟨some 8, .op (.mv (.k (.int .i64 0))), none⟩]) (.block 0 (.loop (.seq (.region [⟨some 9, .op (.bin .lss (.t 8) (.t 7)), none⟩]) (.seq (.cond (.t 9) .skip (.exit 0)) (.seq (.block 1 (.seq (.region [⟨some 10, .op (.mv (.t 8)), none⟩, ⟨some 5, .op (.mv (.t 10)), none⟩]) (.seq (.region [⟨some 11, .op (.mv (.t 1)), none⟩, ⟨some 12, .op (.mv (.t 0)), none⟩, ⟨some 13, .op (.mv (.t 5)), none⟩, ⟨some 14, .op (.iaddr s (.t 12) (.t 13)), none⟩, ⟨some 15, .op (.load g s (.t 14)), none⟩, ⟨some 16, .call (.t 11) [(.t 15)], none⟩]) (.cond (.t 16) (.seq (.region [⟨some 17, .op (.mv (.t 5)), none⟩, ⟨some 4, .op (.mv (.t 17)), none⟩]) .ret) .skip)))) (.region [⟨some 18, .op (.bin .add (.t 8) (.k (.int .i64 1))), none⟩, ⟨some 8, .op (.mv (.t 18)), none⟩]))))))) (.seq (.region [⟨some 4, .op (.mv (.k (.int .i64 (-1)))), none⟩]) .ret)))⟩
def idxA {α : Type} (p : α → Bool) : List α → Int → Int
  | [], _ => -1
  | a :: r, i => if p a then i else idxA p r (i + 1)
theorem idxA_any {α : Type} {p : α → Bool} : ∀ {l : List α} {i : Int}, 0 ≤ i → (l.any p = true ↔ 0 ≤ idxA p l i)
  | [], i, h => by simp [idxA]
  | a :: r, i, h => by
    have := idxA_any (p := p) (l := r) (i := i + 1) (by omega)
    simp only [List.any_cons, idxA]
    cases p a
    · simp only [Bool.false_or, Bool.false_eq_true, if_false]; exact this
    · simp [h]
theorem aop_loadG {fr : Fr} {σ : Store} {g : Bool} {s : Nat} {a : Opd} {cs : List Ce} {v : AV} (ha : a.ev fr = some (.c (.fp cs))) (h : takeA g s cs = some v) : aop (.load g s a) fr σ = some (v, σ) := by
  simp [aop, ha, Store.at_, h]
theorem indexFuncA_ok {P : Program} (hm : P.follows .mixedOrders = true) {fz : List Nat} {n s : Nat} {g : Bool} (hc : compFn P fz n = some (indexFuncCode g s)) {α : Type} (enc : α → List Ce) (arg : α → AV) (hs : ∀ a, (enc a).length = s) (harg : ∀ a, takeA g s (enc a) = some (arg a)) (l : List α) (p : α → Bool) (f : Nat) (pre cap : List Ce) (hx : l.length ≤ 34359738368)
    (hp : ∀ i (hi : i < l.length), (∀ j (hj : j < i), p (l[j]'(by omega)) = false) → Pure P f (pre.map .c ++ [arg l[i]] ++ cap.map .c) (.c (.bool (p l[i])))) : Pure P n [.c (.fz (l.map enc)), .c (.fn f pre cap)] (.c (.int .i64 (idxA p l 0))) := by
  refine Pure.run hm hc (Nat.le_of_ble_eq_true rfl) fun σ hS hA => ?_
  clear hS hA
  repeat' first|refine yaG ?_|(exfalso;omega)|(refine yaS ?_ ?_<;>intro _)
  refine Go.keep [0, 1, 7, 8] (Go.loops (I := fun m fr τ => ∃ i : Nat, ∃ k : Int, m = l.length - i ∧ i ≤ l.length ∧ k = i ∧ (idxA p l 0 = idxA p (l.drop i) k ∧ ∀ j (hj : j < i) (hl : j < l.length), p l[j] = false) ∧
    fr = [(0, .c (.fz (l.map enc))), (1, .c (.fn f pre cap)), (7, .c (.int .i64 (l.length : Int))), (8, .c (.int .i64 k))] ∧ τ = E σ []) ?_ _ _ _ ⟨0, _, rfl, Nat.zero_le _, rfl, ⟨rfl, fun j hj => by omega⟩, rfl, rfl⟩)
  rintro m fr τ ⟨i, k, rfl, hi, hn, ⟨hsl, hno⟩, rfl, rfl⟩ hrec
  by_cases hlt : i < l.length
  · repeat' first|refine yaG ?_|((first|apply yG|apply yH|apply yI);exact rfl;(first|exact yX (enc := enc) rfl rfl hn hlt (hs _)|exact aop_loadG rfl (harg l[i])))|((first|apply Go.pcallB|apply Go.spcallB|apply Qg.pcallB);(iterate 3 exact rfl);exact hp i hlt (fun j hj => hno j hj (by omega));intro _ _)|(exfalso;omega)|(refine yaS ?_ ?_<;>intro _)
    · refine .ret rfl (.int ?_)
      rw [hsl, List.drop_eq_getElem_cons hlt, idxA, if_pos (by simp_all)]
    · rename_i b hb h
      refine Go.keep [0, 1, 7, 8] (hrec _ _ _ (by omega) ⟨i + 1, _, rfl, hlt, wrap_succ hn (by omega), ⟨?_, fun j hj hl => ?_⟩, rfl, rfl⟩)
      · rw [hsl, List.drop_eq_getElem_cons hlt, idxA, if_neg (by rw [hb, h]; simp), wrap64 (by omega) (by omega)]
      · by_cases e : j = i
        · subst e; rw [hb, h]
        · exact hno j (by omega) hl
  · repeat' first|refine yaG ?_|(exfalso;omega)|(refine yaS ?_ ?_<;>intro _)
    refine .ret rfl (.int ?_)
    rw [hsl, List.drop_eq_nil_of_le (by omega)]
    rfl
def containsFuncCode (f : Nat) : AFn := ⟨9, [.t 4], (.seq (.region [⟨some 4, .op (.mv (.k (.bool false))), none⟩]) (.seq (.region [⟨some 5, .op (.mv (.t 0)), none⟩, ⟨some 6, .op (.mv (.t 1)), none⟩, ⟨some 7, .call (.f f) [(.t 5), (.t 6)], none⟩, ⟨some 8, .op (.bin .geq (.t 7) (.k (.int .i64 0))), none⟩, ⟨some 4, .op (.mv (.t 8)), none⟩]) .ret))⟩
theorem any_idx {α : Type} {p : α → Bool} {l : List α} : decide (0 ≤ idxA p l 0) = l.any p := by
  have := idxA_any (p := p) (l := l) (i := 0) (by omega)
  cases h : l.any p
  · rw [decide_eq_false_iff_not, ← this, h]; simp
  · rw [decide_eq_true_iff, ← this, h]
theorem containsFuncA_ok {P : Program} (hm : P.follows .mixedOrders = true) {fz fz' : List Nat} {n n' s : Nat} {g : Bool} (hc : compFn P fz n = some (containsFuncCode n')) (hc' : compFn P fz' n' = some (indexFuncCode g s)) {α : Type} (enc : α → List Ce) (arg : α → AV) (hs : ∀ a, (enc a).length = s) (harg : ∀ a, takeA g s (enc a) = some (arg a)) (l : List α) (p : α → Bool) (f : Nat) (pre cap : List Ce) (hx : l.length ≤ 34359738368)
    (hp : ∀ i (hi : i < l.length), (∀ j (hj : j < i), p (l[j]'(by omega)) = false) → Pure P f (pre.map .c ++ [arg l[i]] ++ cap.map .c) (.c (.bool (p l[i])))) : Pure P n [.c (.fz (l.map enc)), .c (.fn f pre cap)] (.c (.bool (l.any p))) := by
  refine Pure.run hm hc (Nat.le_of_ble_eq_true rfl) fun σ hS hA => ?_
  clear hS hA
  repeat' first|refine yaG ?_|refine yaC (indexFuncA_ok hm hc' enc arg hs harg l p f pre cap hx hp) ?_|(exfalso;omega)|(refine yaS ?_ ?_<;>intro _)
  exact .ret rfl (.bool any_idx)
/-- slices.Index and Contains of numbers. -/
def indexIntCode : AFn := ⟨19, [.t 4], (.seq (.region [⟨some 4, .op (.mv (.k (.int .i64 0))), none⟩]) (.seq (.seq (.region [⟨some 6, .op (.mv (.t 0)), none⟩, ⟨some 7, .op (.len false (.t 6)), none⟩, ⟨some 8, .op (.mv (.k (.int .i64 0))), none⟩]) (.block 0 (.loop (.seq (.region [⟨some 9, .op (.bin .lss (.t 8) (.t 7)), none⟩]) (.seq (.cond (.t 9) .skip (.exit 0)) (.seq (.block 1 (.seq (.region [⟨some 10, .op (.mv (.t 8)), none⟩, ⟨some 5, .op (.mv (.t 10)), none⟩]) (.seq (.region [⟨some 11, .op (.mv (.t 1)), none⟩, ⟨some 12, .op (.mv (.t 0)), none⟩, ⟨some 13, .op (.mv (.t 5)), none⟩, ⟨some 14, .op (.iaddr 1 (.t 12) (.t 13)), none⟩, ⟨some 15, .op (.load false 1 (.t 14)), none⟩, ⟨some 16, .op (.bin .eql (.t 11) (.t 15)), none⟩]) (.cond (.t 16) (.seq (.region [⟨some 17, .op (.mv (.t 5)), none⟩, ⟨some 4, .op (.mv (.t 17)), none⟩]) .ret) .skip)))) (.region [⟨some 18, .op (.bin .add (.t 8) (.k (.int .i64 1))), none⟩, ⟨some 8, .op (.mv (.t 18)), none⟩]))))))) (.seq (.region [⟨some 4, .op (.mv (.k (.int .i64 (-1)))), none⟩]) .ret)))⟩
theorem indexInt_ok {P : Program} (hm : P.follows .mixedOrders = true) {fz : List Nat} {n : Nat} (hc : compFn P fz n = some indexIntCode) (l : List Int) (v : Int) (hx : l.length ≤ 34359738368) : Pure P n [.c (.fz (l.map fun n => [.int .i64 n])), .c (.int .i64 v)] (.c (.int .i64 (idxA (fun a => v == a) l 0))) := by
  refine Pure.run hm hc (Nat.le_of_ble_eq_true rfl) fun σ hS hA => ?_
  clear hS hA
  repeat' first|refine yaG ?_|(exfalso;omega)|(refine yaS ?_ ?_<;>intro _)
  refine Go.keep [0, 1, 7, 8] (Go.loops (I := fun m fr τ => ∃ i : Nat, ∃ k : Int, m = l.length - i ∧ i ≤ l.length ∧ k = i ∧ idxA (fun a => v == a) l 0 = idxA (fun a => v == a) (l.drop i) k ∧
    fr = [(0, .c (.fz (l.map fun n => [.int .i64 n]))), (1, .c (.int .i64 v)), (7, .c (.int .i64 (l.length : Int))), (8, .c (.int .i64 k))] ∧ τ = E σ []) ?_ _ _ _ ⟨0, _, rfl, Nat.zero_le _, rfl, rfl, rfl, rfl⟩)
  rintro m fr τ ⟨i, k, rfl, hi, hn, hsl, rfl, rfl⟩ hrec
  by_cases hlt : i < l.length
  · repeat' first|refine yaG ?_|((first|apply yG|apply yH|apply yI);exact rfl;(first|exact yX (enc := fun n => [.int .i64 n]) rfl rfl hn hlt rfl))|(exfalso;omega)|(refine yaS ?_ ?_<;>intro _)
    · refine .ret rfl (.int ?_)
      rw [hsl, List.drop_eq_getElem_cons hlt, idxA, if_pos (by simp_all)]
    · rename_i h
      refine Go.keep [0, 1, 7, 8] (hrec _ _ _ (by omega) ⟨i + 1, _, rfl, hlt, wrap_succ hn (by omega), ?_, rfl, rfl⟩)
      rw [hsl, List.drop_eq_getElem_cons hlt, idxA, if_neg (by simpa using h), wrap64 (by omega) (by omega)]
  · repeat' first|refine yaG ?_|(exfalso;omega)|(refine yaS ?_ ?_<;>intro _)
    refine .ret rfl (.int ?_)
    rw [hsl, List.drop_eq_nil_of_le (by omega)]
    rfl
theorem containsInt_ok {P : Program} (hm : P.follows .mixedOrders = true) {fz fz' : List Nat} {n n' : Nat} (hc : compFn P fz n = some (containsFuncCode n')) (hc' : compFn P fz' n' = some indexIntCode) (l : List Int) (v : Int) (hx : l.length ≤ 34359738368) : Pure P n [.c (.fz (l.map fun n => [.int .i64 n])), .c (.int .i64 v)] (.c (.bool (l.any fun a => v == a))) := by
  refine Pure.run hm hc (Nat.le_of_ble_eq_true rfl) fun σ hS hA => ?_
  clear hS hA
  repeat' first|refine yaG ?_|refine yaC (indexInt_ok hm hc' l v hx) ?_|(exfalso;omega)|(refine yaS ?_ ?_<;>intro _)
  exact .ret rfl (.bool any_idx)
end Go.Proofs.YtdgnfdljkghpjaaGreat.Am

/- The abstract machine, part 27: a row's arguments as abstract values, and what a contract says of a call. -/
set_option linter.unusedVariables false
set_option linter.unusedSimpArgs false
namespace Go.Proofs.YtdgnfdljkghpjaaGreat.Am
open Go.RowKit Go.ChangeShapes Go.WideShapes

/-- A world of which nothing is ours. -/
def Cx.at (W : World) : Cx := ⟨fun _ _ => ⟨0, 0, 0, false⟩, fun _ _ => False, fun _ => False, W⟩
theorem Rl.at (W : World) : Rl (Cx.at W) (Store.none 0) :=
  ⟨fun _ _ h => h.elim, fun id v es hg => by simp [Store.none] at hg, fun b => ⟨fun h => h.elim, fun ⟨id, v, es, hg, _⟩ => by simp [Store.none] at hg⟩, fun id v es id' v' es' hg => by simp [Store.none] at hg, fun id v es hg => by simp [Store.none] at hg⟩
theorem rpv_bool {D : Cx} {b : Bool} {v : Value} (h : RpV D (.c (.bool b)) v) : v = .bool b := by
  cases h with
  | c h => cases h; rfl
theorem Pure.calls {P : Program} {f : Nat} {args : List AV} {b : Bool} (h : Pure P f args (.c (.bool b))) {W : World} {cargs : Array Value} (ha : ∃ hl : cargs.size = args.length, ∀ i (hi : i < args.length), RpV (Cx.at W) args[i] (cargs[i]'(by omega))) :
    Calls P f cargs W fun e w' => e = .returned (.bool b) ∧ Below W.heap.size W w' := by
  refine ((h.at_ (Store.none 0)).2 (Cx.at W) cargs (Rl.at W) ha).mono ?_
  rintro e w' ⟨D, σ', r, v, rfl, rfl, ⟨rfl, rfl⟩, hR, hv, hle⟩
  exact ⟨by rw [rpv_bool hv], ⟨hle.os, hle.tape, hle.output, hle.size, fun k hk => hle.keep k hk (fun h => h.elim)⟩⟩

section
variable {H : Type} {enc : TypeId × Value → H} {P : Program} {W : World}
/-- What the rows say of a value of a type, as abstract cells. -/
structure Opens (enc : TypeId × Value → H) (P : Program) (W : World) (t : TypeId) {α : Type} (e : α → List Ce) (good : α → Prop) : Prop where
  op : ∀ fuel cs x, DataW.trod enc P W 0 (fun _ => true) true fuel t cs = some x → (∀ n ∈ x.1.weights P t, n ≤ reachBytes) →
    ∃ a, good a ∧ ∃ hl : cs.length = (e a).length, ∀ i (hi : i < (e a).length), Rp (Cx.at W) (e a)[i] (cs[i]'(by omega))
theorem Opens.one {t : TypeId} {α : Type} {e : α → List Ce} {good : α → Prop} (h : ∀ fuel cs x, DataW.trod enc P W 0 (fun _ => true) true fuel t cs = some x → (∀ n ∈ x.1.weights P t, n ≤ reachBytes) → ∃ a y v, good a ∧ e a = [y] ∧ cs = [v] ∧ Rp (Cx.at W) y v) : Opens enc P W t e good := by
  constructor
  intro fuel cs x h1 h2
  obtain ⟨a, y, v, hg, he, rfl, hr⟩ := h fuel cs x h1 h2
  refine ⟨a, hg, by simp [he], fun i hi => ?_⟩
  have hi' : i = 0 := by rw [he] at hi; simpa using hi
  subst hi'
  simp only [he, List.getElem_cons_zero]
  exact hr
theorem Opens.iso {t : TypeId} {α β : Type} {e : β → List Ce} {good : β → Prop} (h : Opens enc P W t e good) (g : β → α) {e' : α → List Ce} {good' : α → Prop} (he : ∀ b, e' (g b) = e b) (hg : ∀ b, good b → good' (g b)) : Opens enc P W t e' good' := by
  constructor
  intro fuel cs x h1 h2
  obtain ⟨a, h3, hl, h4⟩ := h.op fuel cs x h1 h2
  refine ⟨g a, hg a h3, by rw [he]; exact hl, fun i hi => ?_⟩
  simp only [he]
  exact h4 i (by rw [he] at hi; exact hi)
theorem Opens.int {t : TypeId} {k : IntKind} (ht : P.underlying t = some (.int k)) : Opens enc P W t (fun n : Int => [.int k n]) (fun n => (Lit.int k n).wf = true) := by
  refine Opens.one fun fuel cs x h1 _ => ?_
  obtain ⟨n, rfl, rfl, hw⟩ := DataW.trod_int ht h1
  exact ⟨n, _, _, hw, rfl, rfl, .int k n⟩
theorem Opens.bool {t : TypeId} (ht : P.underlying t = some .bool) : Opens enc P W t (fun b : Bool => [.bool b]) (fun _ => True) := by
  refine Opens.one fun fuel cs x h1 _ => ?_
  obtain ⟨n, rfl, rfl⟩ := DataW.trod_bool ht h1
  exact ⟨n, _, _, trivial, rfl, rfl, .bool n⟩
theorem Opens.str {t : TypeId} (ht : P.underlying t = some .string) : Opens enc P W t (fun s : List UInt8 => [.str s]) (fun s => s.length ≤ 140737488351232) := by
  refine Opens.one fun fuel cs x h1 h2 => ?_
  obtain ⟨s, rfl, rfl, hs⟩ := DataW.trod_string ht h1
  refine ⟨s.data.toList, _, _, ?_, rfl, rfl, .str _⟩
  have := h2 s.data.toList.length (by simp [DataW.weights])
  exact this
theorem list_choice {α : Type} {p : Nat → α → Prop} : ∀ n, (∀ i, i < n → ∃ a, p i a) → ∃ l : List α, l.length = n ∧ ∀ i (hi : i < l.length), p i l[i]
  | 0, _ => ⟨[], rfl, fun i hi => by simp at hi⟩
  | n + 1, h => by
    obtain ⟨l, h1, h2⟩ := list_choice n fun i hi => h i (by omega)
    obtain ⟨a, ha⟩ := h n (by omega)
    refine ⟨l ++ [a], by simp [h1], fun i hi => ?_⟩
    by_cases e : i < l.length
    · rw [List.getElem_append_left e]; exact h2 i e
    · have : i = l.length := by simp at hi; omega
      subst this
      have e1 : (l ++ [a])[l.length]'hi = a := by rw [List.getElem_append_right (Nat.le_refl _)]; simp
      rw [e1, h1]
      exact ha
theorem weightsAll_mem {e : TypeId} : ∀ {l : List (DataW H)} {d : DataW H} {n : Nat}, d ∈ l → n ∈ d.weights P e → n ∈ DataW.weightsAll P e l
  | y :: r, d, n, h, hn => by
    simp only [DataW.weightsAll, List.mem_append]
    rcases List.mem_cons.1 h with rfl | h
    · exact .inl hn
    · exact .inr (weightsAll_mem h hn)
theorem add_add {a : Addr} (h : a.spot = none) (m j : Nat) : (a.add m).add j = ⟨a.block, a.off + (m + j), none⟩ := by
  obtain ⟨b, o, s⟩ := a
  subst h
  simp only [Addr.add]
  split <;> split <;> simp_all [Nat.add_assoc]
theorem spot_of_cell {w : World} {a : Addr} {v : Value} (h : w.cell? a = some v) : a.spot = none ∧ a.block < w.heap.size := by
  unfold World.cell? at h
  split at h
  · rename_i hb
    refine ⟨?_, ?_⟩
    · split at h
      · cases h
      · rename_i hs
        simpa using hs
    · exact (Array.getElem?_eq_some_iff.1 hb).1
  · cases h
theorem Opens.slice {t el : TypeId} {α : Type} {e : α → List Ce} {good : α → Prop} {s : Nat} (ht : P.underlying t = some (.slice el)) (h : Opens enc P W el e good) (hs : P.cellsOf el = s) (hs0 : 0 < s) (he : ∀ a, (e a).length = s) :
    Opens enc P W t (fun l : List α => [.fz (l.map e)]) (fun l => l.length * P.bytesOf el ≤ 140737488351232 ∧ ∀ a ∈ l, good a) := by
  refine Opens.one fun fuel cs x h1 h2 => ?_
  rcases DataW.trod_slice ht h1 with ⟨rfl, rfl⟩ | ⟨a, len, cap, elems, rest, n, _, rfl, rfl, hb, hl, hm, hlen, hel, hsp, hns⟩
  · exact ⟨[], _, _, ⟨by simp, by simp⟩, rfl, rfl, .fz0 _ _⟩
  rw [hs] at hel
  have each : ∀ i, i < len → ∃ y, good y ∧ ∀ j (hj : j < (e y).length), ∃ v, W.cell? ((a.add (i * s)).add j) = some v ∧ Rp (Cx.at W) (e y)[j] v := by
    intro i hi
    have hi' : i < elems.length := by omega
    have h3 := hel i hi
    rw [List.getElem?_eq_getElem hi', Option.bind_eq_some_iff] at h3
    obtain ⟨cs, hc, hd⟩ := h3
    obtain ⟨y, hy, hl, hr⟩ := h.op n cs _ hd (fun m hm => h2 m (by
      simp only [DataW.weights, ht]
      refine List.mem_cons_of_mem _ (List.mem_append_left _ (weightsAll_mem (d := elems[i].1) (List.mem_map_of_mem (List.getElem_mem hi')) hm))))
    obtain ⟨_, hcl, hcc⟩ := World.cells?_some hc
    refine ⟨y, hy, fun j hj => ⟨cs[j]'(by omega), ?_, hr j hj⟩⟩
    rw [hcc j (by rw [← he y]; exact hj), List.getElem?_eq_getElem]
  obtain ⟨l, hll, hl2⟩ := list_choice len each
  refine ⟨l, _, _, ⟨?_, fun y hy => ?_⟩, rfl, rfl, ?_⟩
  · have := h2 _ (by
      simp only [DataW.weights, ht]
      exact List.mem_cons_self)
    simp only [List.length_map] at this
    have h5 : l.length * P.bytesOf el ≤ (elems.length + rest.length) * P.bytesOf el := Nat.mul_le_mul_right _ (by omega)
    exact Nat.le_trans h5 this
  · obtain ⟨i, hi, rfl⟩ := List.mem_iff_getElem.1 hy
    exact (hl2 i hi).1
  · rcases Nat.eq_zero_or_pos len with h0 | h0
    · have hl0 : l = [] := List.eq_nil_of_length_eq_zero (by omega)
      subst hl0
      subst h0
      exact .fz0 _ _
    · obtain ⟨v0, hv0, _⟩ := (hl2 0 (by omega)).2 0 (by rw [he]; exact hs0)
      have hsp0 : a.spot = none ∧ a.block < W.heap.size := by
        have := spot_of_cell hv0
        simpa [Addr.add] using this
      obtain ⟨b, o, sp⟩ := a
      obtain ⟨rfl, hbl⟩ := hsp0
      have hlm : (l.map e).length = len := by simp [hll]
      have key := Rp.fz (C := Cx.at W) (l.map e) b o cap s (fun i j => (W.cell? ⟨b, o + (i * s + j), none⟩).getD .nilFunc) hbl (fun h => h.elim) (by omega) (fun i hi => by simp [he]) (fun i j hi hj => by
        rw [hlm] at hi
        obtain ⟨v, hv, _⟩ := (hl2 i (by omega)).2 j (by rw [he]; exact hj)
        rw [add_add rfl] at hv
        show W.cell? _ = _
        rw [hv]
        rfl) (fun i j hi hj => by
        rw [hlm] at hi
        have hj' : j < (e (l[i]'(by omega))).length := by simpa using hj
        obtain ⟨v, hv, hr⟩ := (hl2 i (by omega)).2 j hj'
        rw [add_add rfl] at hv
        simp only [hv, Option.getD_some, List.getElem_map]
        exact hr)
      rw [hlm] at key
      exact key

/-- .. of the fields of a struct, from one on. -/
structure OpensF (enc : TypeId × Value → H) (P : Program) (W : World) (fs : Array Field) (k off : Nat) {α : Type} (e : α → List Ce) (good : α → Prop) : Prop where
  op : ∀ (cs : List Value) (n : Nat) (xs : List (DataW H × List MemPlace)), xs.length = fs.size → (∀ (i : Nat) (f : Field), fs[i]? = some f → DataW.trod enc P W 0 (fun _ => true) true n f.type ((cs.drop f.offset).take (P.cellsOf f.type)) = xs[i]?) →
    (∀ (i : Nat) (f : Field) (x : DataW H × List MemPlace), fs[i]? = some f → xs[i]? = some x → ∀ m ∈ x.1.weights P f.type, m ≤ reachBytes) →
    ∃ a, good a ∧ ∀ i (hi : i < (e a).length), ∃ v, cs[off + i]? = some v ∧ Rp (Cx.at W) (e a)[i] v
theorem OpensF.nil {fs : Array Field} {k off : Nat} : OpensF enc P W fs k off (fun _ : Unit => []) (fun _ => True) :=
  ⟨fun cs n xs _ _ _ => ⟨(), trivial, fun i hi => by simp at hi⟩⟩
theorem OpensF.cons {fs : Array Field} {k off s : Nat} {f : Field} {α β : Type} {e : α → List Ce} {good : α → Prop} {e' : β → List Ce} {good' : β → Prop} (hf : fs[k]? = some f) (h : Opens enc P W f.type e good) (ho : f.offset = off) (he : ∀ a, (e a).length = s) (hr : OpensF enc P W fs (k + 1) (off + s) e' good') :
    OpensF enc P W fs k off (fun p : α × β => e p.1 ++ e' p.2) (fun p => good p.1 ∧ good' p.2) := by
  constructor
  intro cs n xs hxl hx hw
  obtain ⟨b, hb, hb2⟩ := hr.op cs n xs hxl hx hw
  have hk : k < xs.length := by rw [hxl]; exact (Array.getElem?_eq_some_iff.1 hf).1
  have h1 := hx k f hf
  rw [List.getElem?_eq_getElem hk] at h1
  obtain ⟨a, ha, hl, ha2⟩ := h.op n _ _ h1 (hw k f _ hf (List.getElem?_eq_getElem hk))
  refine ⟨(a, b), ⟨ha, hb⟩, fun i hi => ?_⟩
  by_cases c : i < (e a).length
  · refine ⟨_, ?_, by
      simp only [List.getElem_append_left c]
      exact ha2 i c⟩
    have h2 : ((cs.drop f.offset).take (P.cellsOf f.type))[i]? = some (((cs.drop f.offset).take (P.cellsOf f.type))[i]'(by omega)) := List.getElem?_eq_getElem _
    rw [List.getElem?_take] at h2
    split at h2
    · rw [List.getElem?_drop] at h2
      rw [← h2]
      congr 1
      omega
    · cases h2
  · have hi' : i - (e a).length < (e' b).length := by simp only [List.length_append] at hi; omega
    obtain ⟨v, h2, h3⟩ := hb2 (i - (e a).length) hi'
    refine ⟨v, ?_, ?_⟩
    · rw [← h2, he]
      congr 1
      have := he a
      omega
    · simp only [List.getElem_append_right (Nat.le_of_not_lt c)]
      exact h3
theorem Opens.struct {t : TypeId} {fs : Array Field} {α : Type} {e : α → List Ce} {good : α → Prop} {s : Nat} (ht : P.underlying t = some (.struct fs)) (h : OpensF enc P W fs 0 0 e good) (hs : P.cellsOf t = s) (he : ∀ a, (e a).length = s) : Opens enc P W t e good := by
  constructor
  intro fuel cs x h1 h2
  obtain ⟨xs, n, rfl, rfl, hl, hxl, hx⟩ := DataW.trod_struct ht h1
  obtain ⟨a, ha, ha2⟩ := h.op cs n xs hxl hx (fun i f y hf hy m hm => h2 m (by
    simp only [DataW.weights, ht]
    refine DataW.weights_mem_each (j := i) (t := f.type) (d := y.1) ?_ ?_ m hm
    · rw [List.getElem?_map, Array.getElem?_toList, hf]; rfl
    · rw [List.getElem?_map, hy]; rfl))
  refine ⟨a, ha, by rw [he, hl, hs], fun i hi => ?_⟩
  obtain ⟨v, h3, h4⟩ := ha2 i hi
  rw [Nat.zero_add] at h3
  obtain ⟨_, rfl⟩ := List.getElem?_eq_some_iff.1 h3
  exact h4
/-- An argument of a row. -/
theorem Opens.agg {t : TypeId} {fs : Array Field} {α : Type} {e : α → List Ce} {good : α → Prop} (h : Opens enc P W t e good) (ht : P.underlying t = some (.struct fs)) {r : Reach} {b0 : Nat} {v : Value} (hv : Value.okWide P W r b0 t v) {d : DataW H} {ps : List MemPlace} (hd : DataW.Trod enc P W 0 (fun _ => true) true t v d ps) (hw : ∀ n ∈ d.weights P t, n ≤ reachBytes) :
    ∃ a, good a ∧ RpV (Cx.at W) (.agg (e a)) v := by
  simp only [Value.okWide, ht] at hv
  obtain ⟨cs, rfl, _, _⟩ := hv
  obtain ⟨fuel, hf⟩ := hd
  obtain ⟨a, ha, hl, hr⟩ := h.op fuel _ _ hf hw
  refine ⟨a, ha, .agg (by simpa [Value.cells] using hl) fun i hi => ?_⟩
  have := hr i hi
  simpa [Value.cells] using this
theorem Opens.c {t : TypeId} {α : Type} {e : α → Ce} {good : α → Prop} (h : Opens enc P W t (fun a => [e a]) good) {v : Value} (hv : v.cells = #[v]) {d : DataW H} {ps : List MemPlace} (hd : DataW.Trod enc P W 0 (fun _ => true) true t v d ps) (hw : ∀ n ∈ d.weights P t, n ≤ reachBytes) :
    ∃ a, good a ∧ RpV (Cx.at W) (.c (e a)) v := by
  obtain ⟨fuel, hf⟩ := hd
  rw [hv] at hf
  obtain ⟨a, ha, hl, hr⟩ := h.op fuel _ _ hf hw
  exact ⟨a, ha, .c (hr 0 (by simp))⟩
theorem cells_slice {t el : TypeId} (ht : P.underlying t = some (.slice el)) {r : Reach} {b0 : Nat} {v : Value} (hv : Value.okWide P W r b0 t v) : v.cells = #[v] := by
  obtain ⟨a, len, cap, rfl⟩ := okWide_slice ht hv
  rfl
end
end Go.Proofs.YtdgnfdljkghpjaaGreat.Am
