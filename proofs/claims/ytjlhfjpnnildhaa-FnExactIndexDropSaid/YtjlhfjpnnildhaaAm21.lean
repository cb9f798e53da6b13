/- The abstract machine, part 21: a store and what a call has made since; steps in these words. -/
import Derived.Test.YtjlhfjpnnildhaaAm20
set_option linter.unusedVariables false
set_option linter.unusedSimpArgs false
namespace Go.Proofs.Ytjlhfjpnnildhaa.Am
open Go.RowKit

/-- A store, and blocks made since. -/
def E (σ : Store) (l : List (Nat × List (List Ce))) : Store := ⟨σ.next + l.length, fun id => if id < σ.next then σ.get id else l[id - σ.next]?⟩
theorem E_next {σ : Store} {l : List (Nat × List (List Ce))} : (E σ l).next = σ.next + l.length := rfl
theorem E_lt {σ : Store} {l : List (Nat × List (List Ce))} {id : Nat} (h : id < σ.next) : (E σ l).get id = σ.get id := if_pos h
theorem E_ge {σ : Store} {l : List (Nat × List (List Ce))} {id : Nat} (h : ¬ id < σ.next) : (E σ l).get id = l[id - σ.next]? := if_neg h
theorem E_at {σ : Store} {l : List (Nat × List (List Ce))} {k : Nat} : (E σ l).get (σ.next + k) = l[k]? := by
  rw [E_ge (by omega)]
  congr 1
  omega
theorem Store.ext {σ τ : Store} (h : σ.next = τ.next) (h2 : ∀ id, σ.get id = τ.get id) : σ = τ := by
  cases σ; cases τ
  simp only at h h2
  subst h
  congr
  exact funext h2
theorem new_self {σ : Store} {x : Nat × List (List Ce)} {id : Nat} (h : id = σ.next) : (σ.new x).get id = some x := if_pos h
theorem new_ne {σ : Store} {x : Nat × List (List Ce)} {id : Nat} (h : id ≠ σ.next) : (σ.new x).get id = σ.get id := if_neg h
theorem put_self {σ : Store} {x : Nat × List (List Ce)} {id j : Nat} (h : j = id) : (σ.put id x).get j = some x := if_pos h
theorem put_ne {σ : Store} {x : Nat × List (List Ce)} {id j : Nat} (h : j ≠ id) : (σ.put id x).get j = σ.get j := if_neg h
theorem E_nil {σ : Store} (h : OldS σ) : E σ [] = σ := by
  refine Store.ext rfl fun id => ?_
  by_cases hn : id < σ.next
  · rw [E_lt hn]
  · rw [E_ge hn]
    cases hg : σ.get id with
    | none => simp
    | some y => exact absurd (h id y hg).1 hn
theorem E_new {σ : Store} {l : List (Nat × List (List Ce))} {x : Nat × List (List Ce)} : (E σ l).new x = E σ (l ++ [x]) := by
  refine Store.ext (by simp [E, Store.new]; omega) fun id => ?_
  by_cases e : id = σ.next + l.length
  · rw [new_self (by rw [E_next]; exact e)]
    subst e
    rw [E_at]
    simp
  · rw [new_ne (by rw [E_next]; exact e)]
    by_cases hn : id < σ.next
    · rw [E_lt hn, E_lt hn]
    · rw [E_ge hn, E_ge hn, List.getElem?_append]
      split
      · rfl
      · rename_i h2
        have : id - σ.next - l.length ≠ 0 := by omega
        rw [List.getElem?_eq_none (by omega)]
        rw [List.getElem?_eq_none (by simp; omega)]
theorem E_put {σ : Store} {l : List (Nat × List (List Ce))} {k : Nat} (hk : k < l.length) {x : Nat × List (List Ce)} : (E σ l).put (σ.next + k) x = E σ (l.set k x) := by
  refine Store.ext (by simp [E, Store.put]) fun id => ?_
  by_cases e : id = σ.next + k
  · subst e
    rw [put_self rfl, E_at]
    simp [hk]
  · rw [put_ne e]
    by_cases hn : id < σ.next
    · rw [E_lt hn, E_lt hn]
    · rw [E_ge hn, E_ge hn, List.getElem?_set_ne (by omega)]
theorem E_E {σ : Store} {l m : List (Nat × List (List Ce))} : E (E σ l) m = E σ (l ++ m) := by
  refine Store.ext (by simp [E]; omega) fun id => ?_
  by_cases hn : id < σ.next
  · rw [E_lt (by rw [E_next]; omega), E_lt hn, E_lt hn]
  · rw [E_ge hn, List.getElem?_append]
    by_cases h2 : id < σ.next + l.length
    · rw [E_lt (by rw [E_next]; omega), E_ge hn, if_pos (by omega)]
    · rw [E_ge (by rw [E_next]; omega), if_neg (by omega)]
      rw [E_next]
      congr 1
      omega

/-! ### What may be said otherwise: freezing, forgetting -/
theorem Shift.frz {n0 nt n : Nat} {fr fr' : Fr} {σ σ2 : Store} (h1 : ∀ t x, look fr' t = some x → ∃ y, look fr t = some y ∧ FrzV σ n y x) (hnext : σ2.next = n)
    (hsub : ∀ id y, σ2.get id = some y → σ.get id = some y ∧ id < n ∧ ∀ i j (hi : i < y.2.length) (hj : j < y.2[i].length), Old n y.2[i][j]) (hn : n0 ≤ n) : Shift n0 nt fr σ fr' σ2 := by
  intro C a hF hR
  let D : Cx := ⟨C.μ, fun id v => C.F id v ∧ id < n, Mof C.μ σ2, C.w⟩
  have hMsub : ∀ b, D.M b → C.M b := by
    rintro b ⟨id, v', es, hg, hne, rfl⟩
    exact (hR.M _).2 ⟨id, v', es, (hsub id _ hg).1, hne, rfl⟩
  have hcut : ∀ {x : Ce} {u : Value}, Rp C x u → Old n x → Rp D x u := fun hx ho => Rp.cut (C := C) (D := D) rfl rfl (fun id v hf hlt => ⟨hf, hlt⟩) hMsub hx ho
  refine ⟨D, ⟨rfl, fun id v hlt hf => ⟨⟨hf, by omega⟩, rfl⟩, fun b _ hm => hMsub b hm⟩, ⟨hF.defers, hF.size, fun t x hx => ?_⟩, ⟨fun id v hf => by rw [hnext]; exact hf.2, fun id v' es hg => ?_, fun b => Iff.rfl, fun id v es id' v' es' h1 n1 h2 n2 hb => ?_, fun id v' es hg hne => ?_⟩⟩
  · obtain ⟨y, hy, hz⟩ := h1 t x hx
    obtain ⟨q1, q2⟩ := hF.slot t y hy
    refine ⟨q1, hz.sound (D := D) hR rfl rfl (fun id v hf hlt => ⟨hf, hlt⟩) hMsub (fun id v' es hn hg hne hm => ?_) q2⟩
    obtain ⟨id2, v2, es2, hg2, hne2, hb⟩ := hm
    have g := hsub id2 _ hg2
    have := hR.inj id v' es id2 v2 es2 hg hne g.1 hne2 hb.symm
    omega
  · obtain ⟨g1, g2, _⟩ := hsub id _ hg
    obtain ⟨a1, a2, a3⟩ := hR.live id v' es g1
    exact ⟨⟨a1, g2⟩, fun v1 hv1 => a2 v1 hv1.1, a3⟩
  · exact hR.inj id v es id' v' es' (hsub id _ h1).1 n1 (hsub id' _ h2).1 n2 hb
  · obtain ⟨g1, g2, g3⟩ := hsub id _ hg
    obtain ⟨cs, t, hb, hz, hl, hc⟩ := hR.blk id v' es g1 hne
    refine ⟨cs, t, hb, hz, hl, fun i j hi hj => ?_⟩
    obtain ⟨u, h1, h2⟩ := hc i j hi hj
    exact ⟨u, h1, hcut h2 (g3 i j hi hj)⟩

theorem Old.mono {n m : Nat} (h : n ≤ m) {x : Ce} (ho : Old n x) : Old m x := by
  induction ho with
  | int k i => exact .int k i
  | bool b => exact .bool b
  | str s => exact .str s
  | nilp => exact .nilp
  | nils => exact .nils
  | nilf => exact .nilf
  | emp => exact .emp
  | any => exact .any
  | fz es _ ih => exact .fz es ih
  | fp cs _ ih => exact .fp cs ih
  | sl id v i m c hlt => exact .sl _ _ _ _ _ (by omega)
  | ptr id v i j hlt => exact .ptr _ _ _ _ (by omega)
  | fn f pre cap _ _ ih1 ih2 => exact .fn f pre cap ih1 ih2
/-- A value all of whose cells are known reads as itself. -/
theorem FrzV.refl {σ : Store} {n : Nat} : ∀ {x : AV}, (∀ y ∈ x.all, Old n y) → FrzV σ n x x
  | .c x, h => .c (.same x (h x (by simp [AV.all])))
  | .agg xs, h => .agg rfl fun i hi => .same _ (h _ (by simp [AV.all]))
  | .tup vs, h => .tup rfl fun i hi => FrzV.refl (x := vs[i]) fun y hy => h y (by
      simp only [AV.all]
      have : ∀ (vs : List AV) (i : Nat) (hi : i < vs.length), y ∈ vs[i].all → y ∈ AV.all.allL vs := by
        intro vs
        induction vs with
        | nil => intro i hi; simp at hi
        | cons v r ih =>
          intro i hi hy
          simp only [AV.all.allL, List.mem_append]
          cases i with
          | zero => exact .inl hy
          | succ i => exact .inr (ih i (by simpa using hi) hy)
      exact this vs i hi hy)
  | .un, h => .un _
termination_by x => SizeOf.sizeOf x
decreasing_by
  have := List.sizeOf_lt_of_mem (List.getElem_mem hi)
  simp
  omega

section
variable {P : Program} {n0 nt : Nat} {rets : List RV} {R : AV → Store → Prop} {K : List AK} {fr : Fr} {σ : Store}
/-- A variable that is made, filled and then only read. -/
theorem Go.var {d s i : Nat} {z cs : List Ce} {w : AV} {rest : List AOper} (h0 : n0 ≤ σ.next) (hi : i ≠ d) (hw : look fr i = some w) (hx : w.cells = some cs) (hl : cs.length = s) (hz : z.length = s)
    (h : Go P n0 nt rets R (.ops rest :: K) ((d, .c (.fp cs)) :: fr) σ) : Go P n0 nt rets R (.ops (⟨some d, .op (.alloc z), none⟩ :: ⟨none, .op (.store s (.t d) (.t i)), none⟩ :: rest) :: K) fr σ := by
  refine .old fun ho hS => .op (v := .c (.ptr σ.next 0 0 0)) (σ' := σ.new (0, [z])) rfl rfl (.op (v := .un) (σ' := (σ.new (0, [z])).put σ.next (0, [cs])) rfl ?_ (.shift (fr' := (d, .c (.fp cs)) :: fr) (σ' := σ) ?_ h))
  · have e1 : (Opd.t d).ev (putA fr (some d) (.c (.ptr σ.next 0 0 0))) = some (.c (.ptr σ.next 0 0 0)) := by simp [Opd.ev, putA, look]
    have e0 : (Opd.t i).ev (putA fr (some d) (.c (.ptr σ.next 0 0 0))) = some w := by simp [Opd.ev, putA, look, Ne.symm hi, hw]
    have e2 : (σ.new (0, [z])).get σ.next = some (0, [z]) := new_self rfl
    have e3 : splice z 0 cs = cs := by
      simp only [splice, List.take_zero, List.nil_append, Nat.zero_add]
      rw [List.drop_eq_nil_of_le (by omega)]
      simp
    simp [aop, e1, e0, hx, e2, hl, hz, e3]
  · refine Shift.frz (n := σ.next) (fun t y hy => ?_) rfl (fun id y hg => ?_) h0
    · simp only [look] at hy
      split at hy
      · rename_i e
        subst e
        injection hy with hy
        subst hy
        refine ⟨.c (.ptr σ.next 0 0 0), by simp [putA, look], .c (.ptr σ.next 0 0 0 [cs] cs cs (Nat.le_refl _) (put_self rfl) rfl (by simp) fun k hk => ?_)⟩
        simp only [Nat.zero_add]
        refine .same _ (ho i w hw _ ?_)
        cases w <;> simp [AV.cells] at hx <;> subst hx <;> simp [AV.all]
      · rename_i e
        exact ⟨y, by simp [putA, look, e, hy], .refl (ho t y hy)⟩
    · obtain ⟨q1, q2⟩ := hS id y hg
      refine ⟨?_, q1, q2⟩
      rw [put_ne (by omega), new_ne (by omega)]
      exact hg
/-- .. with a move between. -/
theorem Go.var2 {d s i e : Nat} {z cs : List Ce} {w u : AV} {k : Nat} {rest : List AOper} (h0 : n0 ≤ σ.next) (hi : i ≠ d) (hie : i ≠ e) (hde : d ≠ e) (hyd : k ≠ d) (hy : look fr k = some u) (hw : look fr i = some w) (hx : w.cells = some cs) (hl : cs.length = s) (hz : z.length = s)
    (h : Go P n0 nt rets R (.ops rest :: K) ((e, u) :: (d, .c (.fp cs)) :: fr) σ) : Go P n0 nt rets R (.ops (⟨some d, .op (.alloc z), none⟩ :: ⟨some e, .op (.mv (.t k)), none⟩ :: ⟨none, .op (.store s (.t d) (.t i)), none⟩ :: rest) :: K) fr σ := by
  refine .old fun ho hS => .op (v := .c (.ptr σ.next 0 0 0)) (σ' := σ.new (0, [z])) rfl rfl (.op (v := u) (σ' := σ.new (0, [z])) rfl (by simp [aop, Opd.ev, look, putA, Ne.symm hyd, hy]) (.op (v := .un) (σ' := (σ.new (0, [z])).put σ.next (0, [cs])) rfl ?_ (.shift (fr' := (e, u) :: (d, .c (.fp cs)) :: fr) (σ' := σ) ?_ h)))
  · have e1 : (Opd.t d).ev (putA (putA fr (some d) (.c (.ptr σ.next 0 0 0))) (some e) u) = some (.c (.ptr σ.next 0 0 0)) := by simp [Opd.ev, putA, look, Ne.symm hde]
    have e0 : (Opd.t i).ev (putA (putA fr (some d) (.c (.ptr σ.next 0 0 0))) (some e) u) = some w := by simp [Opd.ev, putA, look, Ne.symm hi, Ne.symm hie, hw]
    have e2 : (σ.new (0, [z])).get σ.next = some (0, [z]) := new_self rfl
    have e3 : splice z 0 cs = cs := by
      simp only [splice, List.take_zero, List.nil_append, Nat.zero_add]
      rw [List.drop_eq_nil_of_le (by omega)]
      simp
    simp [aop, e1, e0, hx, e2, hl, hz, e3]
  · have hu : ∀ c ∈ u.all, Old σ.next c := ho k u hy
    refine Shift.frz (n := σ.next) (fun t y hy => ?_) rfl (fun id y hg => ?_) h0
    · simp only [look] at hy
      split at hy
      · rename_i e1
        subst e1
        injection hy with hy
        subst hy
        exact ⟨u, by simp [putA, look], .refl hu⟩
      · rename_i e1
        split at hy
        · rename_i e
          subst e
          injection hy with hy
          subst hy
          refine ⟨.c (.ptr σ.next 0 0 0), by simp [putA, look, e1], .c (.ptr σ.next 0 0 0 [cs] cs cs (Nat.le_refl _) (put_self rfl) rfl (by simp) fun k hk => ?_)⟩
          simp only [Nat.zero_add]
          refine .same _ (ho i w hw _ ?_)
          cases w <;> simp [AV.cells] at hx <;> subst hx <;> simp [AV.all]
        · rename_i e
          exact ⟨y, by simp [putA, look, e, e1, hy], .refl (ho t y hy)⟩
    · obtain ⟨q1, q2⟩ := hS id y hg
      refine ⟨?_, q1, q2⟩
      rw [put_ne (by omega), new_ne (by omega)]
      exact hg
end

end Go.Proofs.Ytjlhfjpnnildhaa.Am
