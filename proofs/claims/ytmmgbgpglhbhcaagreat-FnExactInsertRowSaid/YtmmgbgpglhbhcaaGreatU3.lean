/- Joined texts: Am31, Am32, Am30, Am27. -/
import Derived.OpenShut
import Derived.Below
import Derived.Carry
import Derived.SizedLaws
import Derived.ChangeArms
import Derived.DataReads
import Derived.Test.YtmmgbgpglhbhcaaGreatU1
import Derived.Test.YtmmgbgpglhbhcaaGreatU2
set_option linter.unusedVariables false
set_option linter.unusedSimpArgs false
namespace Go.Proofs.YtmmgbgpglhbhcaaGreat.Am
section
variable {fr : Fr} {σ : Store}
theorem Jk.drop {s : Nat} {ys junk : List (List Ce)} (h : ∀ e ∈ ys, e.length = s ∧ ∀ x ∈ e, Flat x) (hj : Jk s junk) (n : Nat) : Jk s (ys.drop n ++ junk) := fun e he =>
  (List.mem_append.1 he).elim (fun h1 => h e (List.mem_of_mem_drop h1)) (hj e)
theorem aop_take {l : List (Nat × List (List Ce))} {s k v n : Nat} {x hi : Opd} {kd : IntKind} {z : Int} {ys junk : List (List Ce)} (hx : x.ev fr = some (.c (vec (σ.next + k) v ys junk))) (hh : hi.ev fr = some (.c (.int kd z))) (hz : z = (n : Int)) (hn : n ≤ ys.length) (hl : l[k]? = some (v, ys ++ junk)) (hs : ∀ e ∈ ys ++ junk, e.length = s) :
    aop (.slice s x none (some hi) none) fr (E σ l) = some (.c (vec (σ.next + k) v (ys.take n) (ys.drop n ++ junk)), E σ l) := by
  have hb : bound ys.length (some (.c (.int kd z))) = some n := by simp [bound, hz]
  have hh' : evo fr (some hi) = some (some (.c (.int kd z))) := by simp [evo, hh]
  have := aop_slice (s := s) (σ := E σ l) (lo := none) (hi := some hi) (mx := none) hx rfl hh' rfl (l := 0) (h := n) (m := ys.length + junk.length) rfl hb rfl (es := ys ++ junk) (by rw [E_at]; exact hl) hs (Nat.zero_le _) (by omega) (Nat.le_refl _)
  rw [this]
  have e1 : (ys.take n).length = n := by simp; omega
  have e2 : n + (ys.drop n ++ junk).length = ys.length + junk.length := by simp; omega
  simp only [vec, e1, e2, Nat.sub_zero, Nat.add_zero]
theorem aop_drop {l : List (Nat × List (List Ce))} {s k v n : Nat} {x lo : Opd} {kd : IntKind} {z : Int} {ys junk : List (List Ce)} (hx : x.ev fr = some (.c (vec (σ.next + k) v ys junk))) (hh : lo.ev fr = some (.c (.int kd z))) (hz : z = (n : Int)) (hn : n ≤ ys.length) (hl : l[k]? = some (v, ys ++ junk)) (hs : ∀ e ∈ ys ++ junk, e.length = s) :
    aop (.slice s x (some lo) none none) fr (E σ l) = some (.c (.sl (σ.next + k) v n (ys.length - n) (ys.length + junk.length - n)), E σ l) := by
  have hb : bound 0 (some (.c (.int kd z))) = some n := by simp [bound, hz]
  have hh' : evo fr (some lo) = some (some (.c (.int kd z))) := by simp [evo, hh]
  have := aop_slice (s := s) (σ := E σ l) (lo := some lo) (hi := none) (mx := none) hx hh' rfl rfl (l := n) (h := ys.length) (m := ys.length + junk.length) hb rfl rfl (es := ys ++ junk) (by rw [E_at]; exact hl) hs hn (by omega) (Nat.le_refl _)
  rw [this]
  simp
theorem frz_drop {l : List (Nat × List (List Ce))} {k v n c N : Nat} {ys junk : List (List Ce)} (hl : l[k]? = some (v, ys ++ junk)) (ho : ∀ e ∈ ys, ∀ x ∈ e, Flat x) (hn : n ≤ ys.length) (hN : N ≤ σ.next + k) : FrzV (E σ l) N (.c (.sl (σ.next + k) v n (ys.length - n) c)) (.c (.fz (ys.drop n))) := by
  refine .c (.sl _ _ _ _ _ (ys ++ junk) _ hN (by rw [E_at]; exact hl) (by simp; omega) (by simp) (fun i hi => ?_) (fun i j hi hj => ?_))
  · rw [List.getElem_append_left (by omega), List.getElem_drop]
  · have e : (ys ++ junk)[n + i]'(by simp; omega) = (ys.drop n)[i]'(by simp; omega) := by
      rw [List.getElem_append_left (by omega), List.getElem_drop]
    simp only [e]
    exact .same _ ((ho _ (List.mem_of_mem_drop (List.getElem_mem _)) _ (List.getElem_mem hj)).old _)
theorem E_get {l : List (Nat × List (List Ce))} {k : Nat} {b : Nat × List (List Ce)} (hl : l[k]? = some b) : (E σ l).get (σ.next + k) = some b := by rw [E_at]; exact hl
theorem Go.freezeN {P : Program} {n0 nt : Nat} {rets : List RV} {R : AV → Store → Prop} {K : List AK} {fr fr' : Fr} {σ : Store} {l m : List (Nat × List (List Ce))} (hS : OldS σ) (hl : ∀ b ∈ l, ∀ e ∈ b.2, ∀ x ∈ e, Old (σ.next + l.length) x) (hn : n0 ≤ σ.next) (h : FrzFr (E σ (l ++ m)) (σ.next + l.length) fr fr') (hg : Go P n0 nt rets R K fr' (E σ l)) : Go P n0 nt rets R K fr (E σ (l ++ m)) := by
  refine .shift (Shift.frz (n := σ.next + l.length) h.at_ rfl (fun id y hy => ?_) (by omega)) hg
  by_cases hlt : id < σ.next
  · rw [E_lt hlt] at hy
    exact ⟨by rw [E_lt hlt]; exact hy, by omega, fun i j hi hj => ((hS id y hy).2 i j hi hj).mono (by omega)⟩
  · rw [E_ge hlt] at hy
    have hk : id - σ.next < l.length := by
      by_cases e : id - σ.next < l.length
      · exact e
      · rw [List.getElem?_eq_none (by omega)] at hy; cases hy
    exact ⟨by rw [E_ge hlt, List.getElem?_append_left hk]; exact hy, by omega, fun i j hi hj => hl y (List.mem_of_getElem? hy) _ (List.getElem_mem hi) _ (List.getElem_mem hj)⟩
theorem Go.qkd {P : Program} {n0 nt : Nat} {rets : List RV} {R : AV → Store → Prop} {K : List AK} {seg : List AOper} {rest : List (List AOper)} (l : List (Nat × List (List Ce))) (h : Qk P (fun τ => ∃ m, τ = E σ (l ++ m)) (fun F τ => Go P n0 nt rets R (.segs rest :: K) F τ) seg fr (E σ l)) : Go P n0 nt rets R (.segs (seg :: rest) :: K) fr (E σ l) :=
  .qk (fun τ => ∃ m, τ = E σ (l ++ m)) _ ⟨[], by simp⟩ h fun _ _ h => h
theorem Qk.lcall {P : Program} {l : List (Nat × List (List Ce))} {τ : Store} {Z : Fr → Store → Prop} {d : Option Nat} {f : Opd} {args : List Opd} {g : Option (Nat × Bool)} {rest : List AOper} {n : Nat} {pre cap : List Ce} {vs args' : List AV} {r : AV} (hw : wants fr g = some true) (hf : f.ev fr = some (.c (.fn n pre cap))) (ha : evs fr args = some vs)
    (hp : Pure P n args' r) (hs : Solid r) (hz : ∀ m, Lend (E σ (l ++ m)) (pre.map AV.c ++ vs ++ cap.map AV.c) args') (h : Qk P (fun τ => ∃ m, τ = E σ (l ++ m)) Z rest (putA fr d r) τ) : Qk P (fun τ => ∃ m, τ = E σ (l ++ m)) Z (⟨d, .call f args, g⟩ :: rest) fr τ :=
  .call hw hf ha (fun ρ ⟨m, hm⟩ => by subst hm; exact (hz m).pure hp hs) h
theorem Qk.pcall {P : Program} {I : Store → Prop} {τ : Store} {Z : Fr → Store → Prop} {d : Option Nat} {f : Opd} {args : List Opd} {g : Option (Nat × Bool)} {rest : List AOper} {n : Nat} {pre cap : List Ce} {vs : List AV} {r : AV} (hw : wants fr g = some true) (hf : f.ev fr = some (.c (.fn n pre cap))) (ha : evs fr args = some vs)
    (hp : Pure P n (pre.map .c ++ vs ++ cap.map .c) r) (h : Qk P I Z rest (putA fr d r) τ) : Qk P I Z (⟨d, .call f args, g⟩ :: rest) fr τ :=
  .call hw hf ha (fun ρ _ => hp.at_ ρ) h
theorem Go.qkm {P : Program} {n0 nt : Nat} {rets : List RV} {R : AV → Store → Prop} {K : List AK} {seg : List AOper} {rest : List (List AOper)} (l m : List (Nat × List (List Ce))) (h : Qk P (fun τ => ∃ m, τ = E σ (l ++ m)) (fun F τ => Go P n0 nt rets R (.segs rest :: K) F τ) seg fr (E σ (l ++ m))) : Go P n0 nt rets R (.segs (seg :: rest) :: K) fr (E σ (l ++ m)) :=
  .qk (fun τ => ∃ m, τ = E σ (l ++ m)) _ ⟨m, rfl⟩ h fun _ _ h => h
theorem Qk.app {P : Program} {l L : List (Nat × List (List Ce))} {Z : Fr → Store → Prop} {d : Option Nat} {g : Option (Nat × Bool)} {rest : List AOper} {s bytes k v : Nat} {x y : Opd} {u : Ce} {ys junk zs : List (List Ce)} (hw : wants fr g = some true) (hx : x.ev fr = some (.c (vec (σ.next + k) v ys junk))) (hy : y.ev fr = some (.c u)) (hu : (E σ L).els u = some zs) (hl : L[k]? = some (v, ys ++ junk))
    (hys : ∀ e ∈ ys, e.length = s) (hj : Jk s junk) (hzs : ∀ e ∈ zs, e.length = s) (hb : (ys.length + zs.length) * bytes ≤ 140737488355328) (hI : ∀ z, ∃ m, L.set k z = l ++ m)
    (h : ∀ v' junk', Jk s junk' → Qk P (fun τ => ∃ m, τ = E σ (l ++ m)) Z rest (putA fr d (.c (vec (σ.next + k) v' (ys ++ zs) junk'))) (E σ (L.set k (v', ys ++ zs ++ junk')))) :
    Qk P (fun τ => ∃ m, τ = E σ (l ++ m)) Z (⟨d, .op (.app s bytes x y), g⟩ :: rest) fr (E σ L) := by
  obtain ⟨v', junk', hj', ha⟩ := aop_app (s := s) (bytes := bytes) hx hy hu hl hys hj hzs hb
  obtain ⟨m, hm⟩ := hI (v', ys ++ zs ++ junk')
  exact .wop rfl hw ha ⟨m, by rw [hm]⟩ (h v' junk' hj')
theorem Go.join {P : Program} {n0 nt : Nat} {rets : List RV} {R : AV → Store → Prop} {K K' : List AK} {fr : Fr} {σ : Store} (I : Fr → Store → Prop) (h1 : ∀ fr σ, I fr σ → Go P n0 nt rets R K fr σ) (h2 : (∀ fr σ, I fr σ → Go P n0 nt rets R K fr σ) → Go P n0 nt rets R (K' ++ K) fr σ) : Go P n0 nt rets R (K' ++ K) fr σ := h2 h1
end
section
variable {fr : Fr} {σ : Store} {id v : Nat} {code : List UInt8} {p0 p : Nat} {x y : Opd} {l : List (Nat × List (List Ce))}
end
section
variable {P : Program} {n0 nt : Nat} {rets : List RV} {R : AV → Store → Prop} {K : List AK} {fr : Fr} {σ : Store}
end
def indexFuncCode (g : Bool) (s : Nat) : AFn := ⟨19, [.t 4], (.seq (.region [⟨some 4, .op (.mv (.k (.int .i64 0))), none⟩]) (.seq (.seq (.region [⟨some 6, .op (.mv (.t 0)), none⟩, ⟨some 7, .op (.len false (.t 6)), none⟩, ⟨some 8, .op (.mv (.k (.int .i64 0))), none⟩]) (.block 0 (.loop (.seq (.region [⟨some 9, .op (.bin .lss (.t 8) (.t 7)), none⟩]) (.seq (.cond (.t 9) .skip (.exit 0)) (.seq (.block 1 (.seq (.region [⟨some 10, .op (.mv (.t 8)), none⟩, ⟨some 5, .op (.mv (.t 10)), none⟩]) (.seq (.region [⟨some 11, .op (.mv (.t 1)), none⟩, ⟨some 12, .op (.mv (.t 0)), none⟩, ⟨some 13, .op (.mv (.t 5)), none⟩, ⟨some 14, .op (.iaddr s (.t 12) (.t 13)), none⟩, ⟨some 15, .op (.load g s (.t 14)), none⟩, ⟨some 16, .call (.t 11) [(.t 15)], none⟩]) (.cond (.t 16) (.seq (.region [⟨some 17, .op (.mv (.t 5)), none⟩, ⟨some 4, .op (.mv (.t 17)), none⟩]) .ret) .skip)))) (.region [⟨some 18, .op (.bin .add (.t 8) (.k (.int .i64 1))), none⟩, ⟨some 8, .op (.mv (.t 18)), none⟩]))))))) (.seq (.region [⟨some 4, .op (.mv (.k (.int .i64 (-1)))), none⟩]) .ret)))⟩
def idxA {α : Type} (p : α → Bool) : List α → Int → Int
  | [], _ => -1
  | a :: r, i => if p a then i else idxA p r (i + 1)
theorem idxA_any {α : Type} {p : α → Bool} : ∀ {l : List α} {i : Int}, 0 ≤ i → (l.any p = true ↔ 0 ≤ idxA p l i)
  | [], i, h => by simp [idxA]
  | a :: r, i, h => by
    have := idxA_any (p := p) (l := r) (i := i + 1) (by omega)
    simp only [List.any_cons, idxA]
    cases p a
    · simp only [Bool.false_or, Bool.false_eq_true, if_false]; exact this
    · simp [h]
theorem aop_loadG {fr : Fr} {σ : Store} {g : Bool} {s : Nat} {a : Opd} {cs : List Ce} {v : AV} (ha : a.ev fr = some (.c (.fp cs))) (h : takeA g s cs = some v) : aop (.load g s a) fr σ = some (v, σ) := by
  simp [aop, ha, Store.at_, h]
theorem indexFuncA_ok {P : Program} (hm : P.follows .mixedOrders = true) {fz : List Nat} {n s : Nat} {g : Bool} (hc : compFn P fz n = some (indexFuncCode g s)) {α : Type} (enc : α → List Ce) (arg : α → AV) (hs : ∀ a, (enc a).length = s) (harg : ∀ a, takeA g s (enc a) = some (arg a)) (l : List α) (p : α → Bool) (f : Nat) (pre cap : List Ce) (hx : l.length ≤ 34359738368)
    (hp : ∀ i (hi : i < l.length), (∀ j (hj : j < i), p (l[j]'(by omega)) = false) → Pure P f (pre.map .c ++ [arg l[i]] ++ cap.map .c) (.c (.bool (p l[i])))) : Pure P n [.c (.fz (l.map enc)), .c (.fn f pre cap)] (.c (.int .i64 (idxA p l 0))) := by
  refine Pure.run hm hc (Nat.le_of_ble_eq_true rfl) fun σ hS hA => ?_
  clear hS hA
  repeat' first|refine yaG ?_|(exfalso;omega)|(refine yaS ?_ ?_<;>intro _)
  refine Go.keep [0, 1, 7, 8] (Go.loops (I := fun m fr τ => ∃ i : Nat, ∃ k : Int, m = l.length - i ∧ i ≤ l.length ∧ k = i ∧ (idxA p l 0 = idxA p (l.drop i) k ∧ ∀ j (hj : j < i) (hl : j < l.length), p l[j] = false) ∧
    fr = [(0, .c (.fz (l.map enc))), (1, .c (.fn f pre cap)), (7, .c (.int .i64 (l.length : Int))), (8, .c (.int .i64 k))] ∧ τ = E σ []) ?_ _ _ _ ⟨0, _, rfl, Nat.zero_le _, rfl, ⟨rfl, fun j hj => by omega⟩, rfl, rfl⟩)
  rintro m fr τ ⟨i, k, rfl, hi, hn, ⟨hsl, hno⟩, rfl, rfl⟩ hrec
  by_cases hlt : i < l.length
  · repeat' first|refine yaG ?_|((first|apply yG|apply yH|apply yI);exact rfl;(first|exact yX (enc := enc) rfl rfl hn hlt (hs _)|exact aop_loadG rfl (harg l[i])))|((first|apply Go.pcallB|apply Go.spcallB|apply Qg.pcallB);(iterate 3 exact rfl);exact hp i hlt (fun j hj => hno j hj (by omega));intro _ _)|(exfalso;omega)|(refine yaS ?_ ?_<;>intro _)
    · refine .ret rfl (.int ?_)
      rw [hsl, List.drop_eq_getElem_cons hlt, idxA, if_pos (by simp_all)]
    · rename_i b hb h
      refine Go.keep [0, 1, 7, 8] (hrec _ _ _ (by omega) ⟨i + 1, _, rfl, hlt, wrap_succ hn (by omega), ⟨?_, fun j hj hl => ?_⟩, rfl, rfl⟩)
      · rw [hsl, List.drop_eq_getElem_cons hlt, idxA, if_neg (by rw [hb, h]; simp), wrap64 (by omega) (by omega)]
      · by_cases e : j = i
        · subst e; rw [hb, h]
        · exact hno j (by omega) hl
  · repeat' first|refine yaG ?_|(exfalso;omega)|(refine yaS ?_ ?_<;>intro _)
    refine .ret rfl (.int ?_)
    rw [hsl, List.drop_eq_nil_of_le (by omega)]
    rfl
def containsFuncCode (f : Nat) : AFn := ⟨9, [.t 4], (.seq (.region [⟨some 4, .op (.mv (.k (.bool false))), none⟩]) (.seq (.region [⟨some 5, .op (.mv (.t 0)), none⟩, ⟨some 6, .op (.mv (.t 1)), none⟩, ⟨some 7, .call (.f f) [(.t 5), (.t 6)], none⟩, ⟨some 8, .op (.bin .geq (.t 7) (.k (.int .i64 0))), none⟩, ⟨some 4, .op (.mv (.t 8)), none⟩]) .ret))⟩
theorem any_idx {α : Type} {p : α → Bool} {l : List α} : decide (0 ≤ idxA p l 0) = l.any p := by
  have := idxA_any (p := p) (l := l) (i := 0) (by omega)
  cases h : l.any p
  · rw [decide_eq_false_iff_not, ← this, h]; simp
  · rw [decide_eq_true_iff, ← this, h]
theorem containsFuncA_ok {P : Program} (hm : P.follows .mixedOrders = true) {fz fz' : List Nat} {n n' s : Nat} {g : Bool} (hc : compFn P fz n = some (containsFuncCode n')) (hc' : compFn P fz' n' = some (indexFuncCode g s)) {α : Type} (enc : α → List Ce) (arg : α → AV) (hs : ∀ a, (enc a).length = s) (harg : ∀ a, takeA g s (enc a) = some (arg a)) (l : List α) (p : α → Bool) (f : Nat) (pre cap : List Ce) (hx : l.length ≤ 34359738368)
    (hp : ∀ i (hi : i < l.length), (∀ j (hj : j < i), p (l[j]'(by omega)) = false) → Pure P f (pre.map .c ++ [arg l[i]] ++ cap.map .c) (.c (.bool (p l[i])))) : Pure P n [.c (.fz (l.map enc)), .c (.fn f pre cap)] (.c (.bool (l.any p))) := by
  refine Pure.run hm hc (Nat.le_of_ble_eq_true rfl) fun σ hS hA => ?_
  clear hS hA
  repeat' first|refine yaG ?_|refine yaC (indexFuncA_ok hm hc' enc arg hs harg l p f pre cap hx hp) ?_|(exfalso;omega)|(refine yaS ?_ ?_<;>intro _)
  exact .ret rfl (.bool any_idx)
def indexIntCode : AFn := ⟨19, [.t 4], (.seq (.region [⟨some 4, .op (.mv (.k (.int .i64 0))), none⟩]) (.seq (.seq (.region [⟨some 6, .op (.mv (.t 0)), none⟩, ⟨some 7, .op (.len false (.t 6)), none⟩, ⟨some 8, .op (.mv (.k (.int .i64 0))), none⟩]) (.block 0 (.loop (.seq (.region [⟨some 9, .op (.bin .lss (.t 8) (.t 7)), none⟩]) (.seq (.cond (.t 9) .skip (.exit 0)) (.seq (.block 1 (.seq (.region [⟨some 10, .op (.mv (.t 8)), none⟩, ⟨some 5, .op (.mv (.t 10)), none⟩]) (.seq (.region [⟨some 11, .op (.mv (.t 1)), none⟩, ⟨some 12, .op (.mv (.t 0)), none⟩, ⟨some 13, .op (.mv (.t 5)), none⟩, ⟨some 14, .op (.iaddr 1 (.t 12) (.t 13)), none⟩, ⟨some 15, .op (.load false 1 (.t 14)), none⟩, ⟨some 16, .op (.bin .eql (.t 11) (.t 15)), none⟩]) (.cond (.t 16) (.seq (.region [⟨some 17, .op (.mv (.t 5)), none⟩, ⟨some 4, .op (.mv (.t 17)), none⟩]) .ret) .skip)))) (.region [⟨some 18, .op (.bin .add (.t 8) (.k (.int .i64 1))), none⟩, ⟨some 8, .op (.mv (.t 18)), none⟩]))))))) (.seq (.region [⟨some 4, .op (.mv (.k (.int .i64 (-1)))), none⟩]) .ret)))⟩
theorem indexInt_ok {P : Program} (hm : P.follows .mixedOrders = true) {fz : List Nat} {n : Nat} (hc : compFn P fz n = some indexIntCode) (l : List Int) (v : Int) (hx : l.length ≤ 34359738368) : Pure P n [.c (.fz (l.map fun n => [.int .i64 n])), .c (.int .i64 v)] (.c (.int .i64 (idxA (fun a => v == a) l 0))) := by
  refine Pure.run hm hc (Nat.le_of_ble_eq_true rfl) fun σ hS hA => ?_
  clear hS hA
  repeat' first|refine yaG ?_|(exfalso;omega)|(refine yaS ?_ ?_<;>intro _)
  refine Go.keep [0, 1, 7, 8] (Go.loops (I := fun m fr τ => ∃ i : Nat, ∃ k : Int, m = l.length - i ∧ i ≤ l.length ∧ k = i ∧ idxA (fun a => v == a) l 0 = idxA (fun a => v == a) (l.drop i) k ∧
    fr = [(0, .c (.fz (l.map fun n => [.int .i64 n]))), (1, .c (.int .i64 v)), (7, .c (.int .i64 (l.length : Int))), (8, .c (.int .i64 k))] ∧ τ = E σ []) ?_ _ _ _ ⟨0, _, rfl, Nat.zero_le _, rfl, rfl, rfl, rfl⟩)
  rintro m fr τ ⟨i, k, rfl, hi, hn, hsl, rfl, rfl⟩ hrec
  by_cases hlt : i < l.length
  · repeat' first|refine yaG ?_|((first|apply yG|apply yH|apply yI);exact rfl;(first|exact yX (enc := fun n => [.int .i64 n]) rfl rfl hn hlt rfl))|(exfalso;omega)|(refine yaS ?_ ?_<;>intro _)
    · refine .ret rfl (.int ?_)
      rw [hsl, List.drop_eq_getElem_cons hlt, idxA, if_pos (by simp_all)]
    · rename_i h
      refine Go.keep [0, 1, 7, 8] (hrec _ _ _ (by omega) ⟨i + 1, _, rfl, hlt, wrap_succ hn (by omega), ?_, rfl, rfl⟩)
      rw [hsl, List.drop_eq_getElem_cons hlt, idxA, if_neg (by simpa using h), wrap64 (by omega) (by omega)]
  · repeat' first|refine yaG ?_|(exfalso;omega)|(refine yaS ?_ ?_<;>intro _)
    refine .ret rfl (.int ?_)
    rw [hsl, List.drop_eq_nil_of_le (by omega)]
    rfl
theorem containsInt_ok {P : Program} (hm : P.follows .mixedOrders = true) {fz fz' : List Nat} {n n' : Nat} (hc : compFn P fz n = some (containsFuncCode n')) (hc' : compFn P fz' n' = some indexIntCode) (l : List Int) (v : Int) (hx : l.length ≤ 34359738368) : Pure P n [.c (.fz (l.map fun n => [.int .i64 n])), .c (.int .i64 v)] (.c (.bool (l.any fun a => v == a))) := by
  refine Pure.run hm hc (Nat.le_of_ble_eq_true rfl) fun σ hS hA => ?_
  clear hS hA
  repeat' first|refine yaG ?_|refine yaC (indexInt_ok hm hc' l v hx) ?_|(exfalso;omega)|(refine yaS ?_ ?_<;>intro _)
  exact .ret rfl (.bool any_idx)
end Go.Proofs.YtmmgbgpglhbhcaaGreat.Am
namespace Go.Proofs.YtmmgbgpglhbhcaaGreat.Am
open Go.RowKit Go.ChangeShapes Go.WideShapes

def Cx.at (W : World) : Cx := ⟨fun _ _ => ⟨0, 0, 0, false⟩, fun _ _ => False, fun _ => False, W⟩
theorem Rl.at (W : World) : Rl (Cx.at W) (Store.none 0) :=
  ⟨fun _ _ h => h.elim, fun id v es hg => by simp [Store.none] at hg, fun b => ⟨fun h => h.elim, fun ⟨id, v, es, hg, _⟩ => by simp [Store.none] at hg⟩, fun id v es id' v' es' hg => by simp [Store.none] at hg, fun id v es hg => by simp [Store.none] at hg⟩
theorem rpv_bool {D : Cx} {b : Bool} {v : Value} (h : RpV D (.c (.bool b)) v) : v = .bool b := by
  cases h with
  | c h => cases h; rfl
theorem Pure.calls {P : Program} {f : Nat} {args : List AV} {b : Bool} (h : Pure P f args (.c (.bool b))) {W : World} {cargs : Array Value} (ha : ∃ hl : cargs.size = args.length, ∀ i (hi : i < args.length), RpV (Cx.at W) args[i] (cargs[i]'(by omega))) :
    Calls P f cargs W fun e w' => e = .returned (.bool b) ∧ Below W.heap.size W w' := by
  refine ((h.at_ (Store.none 0)).2 (Cx.at W) cargs (Rl.at W) ha).mono ?_
  rintro e w' ⟨D, σ', r, v, rfl, rfl, ⟨rfl, rfl⟩, hR, hv, hle⟩
  exact ⟨by rw [rpv_bool hv], ⟨hle.os, hle.tape, hle.output, hle.size, fun k hk => hle.keep k hk (fun h => h.elim)⟩⟩

section
variable {H : Type} {enc : TypeId × Value → H} {P : Program} {W : World}
structure Opens (enc : TypeId × Value → H) (P : Program) (W : World) (t : TypeId) {α : Type} (e : α → List Ce) (good : α → Prop) : Prop where
  op : ∀ fuel cs x, DataW.trod enc P W 0 (fun _ => true) true fuel t cs = some x → (∀ n ∈ x.1.weights P t, n ≤ reachBytes) →
    ∃ a, good a ∧ ∃ hl : cs.length = (e a).length, ∀ i (hi : i < (e a).length), Rp (Cx.at W) (e a)[i] (cs[i]'(by omega))
theorem Opens.one {t : TypeId} {α : Type} {e : α → List Ce} {good : α → Prop} (h : ∀ fuel cs x, DataW.trod enc P W 0 (fun _ => true) true fuel t cs = some x → (∀ n ∈ x.1.weights P t, n ≤ reachBytes) → ∃ a y v, good a ∧ e a = [y] ∧ cs = [v] ∧ Rp (Cx.at W) y v) : Opens enc P W t e good := by
  constructor
  intro fuel cs x h1 h2
  obtain ⟨a, y, v, hg, he, rfl, hr⟩ := h fuel cs x h1 h2
  refine ⟨a, hg, by simp [he], fun i hi => ?_⟩
  have hi' : i = 0 := by rw [he] at hi; simpa using hi
  subst hi'
  simp only [he, List.getElem_cons_zero]
  exact hr
theorem Opens.iso {t : TypeId} {α β : Type} {e : β → List Ce} {good : β → Prop} (h : Opens enc P W t e good) (g : β → α) {e' : α → List Ce} {good' : α → Prop} (he : ∀ b, e' (g b) = e b) (hg : ∀ b, good b → good' (g b)) : Opens enc P W t e' good' := by
  constructor
  intro fuel cs x h1 h2
  obtain ⟨a, h3, hl, h4⟩ := h.op fuel cs x h1 h2
  refine ⟨g a, hg a h3, by rw [he]; exact hl, fun i hi => ?_⟩
  simp only [he]
  exact h4 i (by rw [he] at hi; exact hi)
theorem Opens.int {t : TypeId} {k : IntKind} (ht : P.underlying t = some (.int k)) : Opens enc P W t (fun n : Int => [.int k n]) (fun n => (Lit.int k n).wf = true) := by
  refine Opens.one fun fuel cs x h1 _ => ?_
  obtain ⟨n, rfl, rfl, hw⟩ := DataW.trod_int ht h1
  exact ⟨n, _, _, hw, rfl, rfl, .int k n⟩
theorem Opens.bool {t : TypeId} (ht : P.underlying t = some .bool) : Opens enc P W t (fun b : Bool => [.bool b]) (fun _ => True) := by
  refine Opens.one fun fuel cs x h1 _ => ?_
  obtain ⟨n, rfl, rfl⟩ := DataW.trod_bool ht h1
  exact ⟨n, _, _, trivial, rfl, rfl, .bool n⟩
theorem Opens.str {t : TypeId} (ht : P.underlying t = some .string) : Opens enc P W t (fun s : List UInt8 => [.str s]) (fun s => s.length ≤ 140737488351232) := by
  refine Opens.one fun fuel cs x h1 h2 => ?_
  obtain ⟨s, rfl, rfl, hs⟩ := DataW.trod_string ht h1
  refine ⟨s.data.toList, _, _, ?_, rfl, rfl, .str _⟩
  have := h2 s.data.toList.length (by simp [DataW.weights])
  exact this
theorem list_choice {α : Type} {p : Nat → α → Prop} : ∀ n, (∀ i, i < n → ∃ a, p i a) → ∃ l : List α, l.length = n ∧ ∀ i (hi : i < l.length), p i l[i]
  | 0, _ => ⟨[], rfl, fun i hi => by simp at hi⟩
  | n + 1, h => by
    obtain ⟨l, h1, h2⟩ := list_choice n fun i hi => h i (by omega)
    obtain ⟨a, ha⟩ := h n (by omega)
    refine ⟨l ++ [a], by simp [h1], fun i hi => ?_⟩
    by_cases e : i < l.length
    · rw [List.getElem_append_left e]; exact h2 i e
    · have : i = l.length := by simp at hi; omega
      subst this
      have e1 : (l ++ [a])[l.length]'hi = a := by rw [List.getElem_append_right (Nat.le_refl _)]; simp
      rw [e1, h1]
      exact ha
theorem weightsAll_mem {e : TypeId} : ∀ {l : List (DataW H)} {d : DataW H} {n : Nat}, d ∈ l → n ∈ d.weights P e → n ∈ DataW.weightsAll P e l
  | y :: r, d, n, h, hn => by
    simp only [DataW.weightsAll, List.mem_append]
    rcases List.mem_cons.1 h with rfl | h
    · exact .inl hn
    · exact .inr (weightsAll_mem h hn)
theorem add_add {a : Addr} (h : a.spot = none) (m j : Nat) : (a.add m).add j = ⟨a.block, a.off + (m + j), none⟩ := by
  obtain ⟨b, o, s⟩ := a
  subst h
  simp only [Addr.add]
  split <;> split <;> simp_all [Nat.add_assoc]
theorem spot_of_cell {w : World} {a : Addr} {v : Value} (h : w.cell? a = some v) : a.spot = none ∧ a.block < w.heap.size := by
  unfold World.cell? at h
  split at h
  · rename_i hb
    refine ⟨?_, ?_⟩
    · split at h
      · cases h
      · rename_i hs
        simpa using hs
    · exact (Array.getElem?_eq_some_iff.1 hb).1
  · cases h
theorem Opens.slice {t el : TypeId} {α : Type} {e : α → List Ce} {good : α → Prop} {s : Nat} (ht : P.underlying t = some (.slice el)) (h : Opens enc P W el e good) (hs : P.cellsOf el = s) (hs0 : 0 < s) (he : ∀ a, (e a).length = s) :
    Opens enc P W t (fun l : List α => [.fz (l.map e)]) (fun l => l.length * P.bytesOf el ≤ 140737488351232 ∧ ∀ a ∈ l, good a) := by
  refine Opens.one fun fuel cs x h1 h2 => ?_
  rcases DataW.trod_slice ht h1 with ⟨rfl, rfl⟩ | ⟨a, len, cap, elems, rest, n, _, rfl, rfl, hb, hl, hm, hlen, hel, hsp, hns⟩
  · exact ⟨[], _, _, ⟨by simp, by simp⟩, rfl, rfl, .fz0 _ _⟩
  rw [hs] at hel
  have each : ∀ i, i < len → ∃ y, good y ∧ ∀ j (hj : j < (e y).length), ∃ v, W.cell? ((a.add (i * s)).add j) = some v ∧ Rp (Cx.at W) (e y)[j] v := by
    intro i hi
    have hi' : i < elems.length := by omega
    have h3 := hel i hi
    rw [List.getElem?_eq_getElem hi', Option.bind_eq_some_iff] at h3
    obtain ⟨cs, hc, hd⟩ := h3
    obtain ⟨y, hy, hl, hr⟩ := h.op n cs _ hd (fun m hm => h2 m (by
      simp only [DataW.weights, ht]
      refine List.mem_cons_of_mem _ (List.mem_append_left _ (weightsAll_mem (d := elems[i].1) (List.mem_map_of_mem (List.getElem_mem hi')) hm))))
    obtain ⟨_, hcl, hcc⟩ := World.cells?_some hc
    refine ⟨y, hy, fun j hj => ⟨cs[j]'(by omega), ?_, hr j hj⟩⟩
    rw [hcc j (by rw [← he y]; exact hj), List.getElem?_eq_getElem]
  obtain ⟨l, hll, hl2⟩ := list_choice len each
  refine ⟨l, _, _, ⟨?_, fun y hy => ?_⟩, rfl, rfl, ?_⟩
  · have := h2 _ (by
      simp only [DataW.weights, ht]
      exact List.mem_cons_self)
    simp only [List.length_map] at this
    have h5 : l.length * P.bytesOf el ≤ (elems.length + rest.length) * P.bytesOf el := Nat.mul_le_mul_right _ (by omega)
    exact Nat.le_trans h5 this
  · obtain ⟨i, hi, rfl⟩ := List.mem_iff_getElem.1 hy
    exact (hl2 i hi).1
  · rcases Nat.eq_zero_or_pos len with h0 | h0
    · have hl0 : l = [] := List.eq_nil_of_length_eq_zero (by omega)
      subst hl0
      subst h0
      exact .fz0 _ _
    · obtain ⟨v0, hv0, _⟩ := (hl2 0 (by omega)).2 0 (by rw [he]; exact hs0)
      have hsp0 : a.spot = none ∧ a.block < W.heap.size := by
        have := spot_of_cell hv0
        simpa [Addr.add] using this
      obtain ⟨b, o, sp⟩ := a
      obtain ⟨rfl, hbl⟩ := hsp0
      have hlm : (l.map e).length = len := by simp [hll]
      have key := Rp.fz (C := Cx.at W) (l.map e) b o cap s (fun i j => (W.cell? ⟨b, o + (i * s + j), none⟩).getD .nilFunc) hbl (fun h => h.elim) (by omega) (fun i hi => by simp [he]) (fun i j hi hj => by
        rw [hlm] at hi
        obtain ⟨v, hv, _⟩ := (hl2 i (by omega)).2 j (by rw [he]; exact hj)
        rw [add_add rfl] at hv
        show W.cell? _ = _
        rw [hv]
        rfl) (fun i j hi hj => by
        rw [hlm] at hi
        have hj' : j < (e (l[i]'(by omega))).length := by simpa using hj
        obtain ⟨v, hv, hr⟩ := (hl2 i (by omega)).2 j hj'
        rw [add_add rfl] at hv
        simp only [hv, Option.getD_some, List.getElem_map]
        exact hr)
      rw [hlm] at key
      exact key

structure OpensF (enc : TypeId × Value → H) (P : Program) (W : World) (fs : Array Field) (k off : Nat) {α : Type} (e : α → List Ce) (good : α → Prop) : Prop where
  op : ∀ (cs : List Value) (n : Nat) (xs : List (DataW H × List MemPlace)), xs.length = fs.size → (∀ (i : Nat) (f : Field), fs[i]? = some f → DataW.trod enc P W 0 (fun _ => true) true n f.type ((cs.drop f.offset).take (P.cellsOf f.type)) = xs[i]?) →
    (∀ (i : Nat) (f : Field) (x : DataW H × List MemPlace), fs[i]? = some f → xs[i]? = some x → ∀ m ∈ x.1.weights P f.type, m ≤ reachBytes) →
    ∃ a, good a ∧ ∀ i (hi : i < (e a).length), ∃ v, cs[off + i]? = some v ∧ Rp (Cx.at W) (e a)[i] v
theorem OpensF.nil {fs : Array Field} {k off : Nat} : OpensF enc P W fs k off (fun _ : Unit => []) (fun _ => True) :=
  ⟨fun cs n xs _ _ _ => ⟨(), trivial, fun i hi => by simp at hi⟩⟩
theorem OpensF.cons {fs : Array Field} {k off s : Nat} {f : Field} {α β : Type} {e : α → List Ce} {good : α → Prop} {e' : β → List Ce} {good' : β → Prop} (hf : fs[k]? = some f) (h : Opens enc P W f.type e good) (ho : f.offset = off) (he : ∀ a, (e a).length = s) (hr : OpensF enc P W fs (k + 1) (off + s) e' good') :
    OpensF enc P W fs k off (fun p : α × β => e p.1 ++ e' p.2) (fun p => good p.1 ∧ good' p.2) := by
  constructor
  intro cs n xs hxl hx hw
  obtain ⟨b, hb, hb2⟩ := hr.op cs n xs hxl hx hw
  have hk : k < xs.length := by rw [hxl]; exact (Array.getElem?_eq_some_iff.1 hf).1
  have h1 := hx k f hf
  rw [List.getElem?_eq_getElem hk] at h1
  obtain ⟨a, ha, hl, ha2⟩ := h.op n _ _ h1 (hw k f _ hf (List.getElem?_eq_getElem hk))
  refine ⟨(a, b), ⟨ha, hb⟩, fun i hi => ?_⟩
  by_cases c : i < (e a).length
  · refine ⟨_, ?_, by
      simp only [List.getElem_append_left c]
      exact ha2 i c⟩
    have h2 : ((cs.drop f.offset).take (P.cellsOf f.type))[i]? = some (((cs.drop f.offset).take (P.cellsOf f.type))[i]'(by omega)) := List.getElem?_eq_getElem _
    rw [List.getElem?_take] at h2
    split at h2
    · rw [List.getElem?_drop] at h2
      rw [← h2]
      congr 1
      omega
    · cases h2
  · have hi' : i - (e a).length < (e' b).length := by simp only [List.length_append] at hi; omega
    obtain ⟨v, h2, h3⟩ := hb2 (i - (e a).length) hi'
    refine ⟨v, ?_, ?_⟩
    · rw [← h2, he]
      congr 1
      have := he a
      omega
    · simp only [List.getElem_append_right (Nat.le_of_not_lt c)]
      exact h3
theorem Opens.struct {t : TypeId} {fs : Array Field} {α : Type} {e : α → List Ce} {good : α → Prop} {s : Nat} (ht : P.underlying t = some (.struct fs)) (h : OpensF enc P W fs 0 0 e good) (hs : P.cellsOf t = s) (he : ∀ a, (e a).length = s) : Opens enc P W t e good := by
  constructor
  intro fuel cs x h1 h2
  obtain ⟨xs, n, rfl, rfl, hl, hxl, hx⟩ := DataW.trod_struct ht h1
  obtain ⟨a, ha, ha2⟩ := h.op cs n xs hxl hx (fun i f y hf hy m hm => h2 m (by
    simp only [DataW.weights, ht]
    refine DataW.weights_mem_each (j := i) (t := f.type) (d := y.1) ?_ ?_ m hm
    · rw [List.getElem?_map, Array.getElem?_toList, hf]; rfl
    · rw [List.getElem?_map, hy]; rfl))
  refine ⟨a, ha, by rw [he, hl, hs], fun i hi => ?_⟩
  obtain ⟨v, h3, h4⟩ := ha2 i hi
  rw [Nat.zero_add] at h3
  obtain ⟨_, rfl⟩ := List.getElem?_eq_some_iff.1 h3
  exact h4
theorem Opens.c {t : TypeId} {α : Type} {e : α → Ce} {good : α → Prop} (h : Opens enc P W t (fun a => [e a]) good) {v : Value} (hv : v.cells = #[v]) {d : DataW H} {ps : List MemPlace} (hd : DataW.Trod enc P W 0 (fun _ => true) true t v d ps) (hw : ∀ n ∈ d.weights P t, n ≤ reachBytes) :
    ∃ a, good a ∧ RpV (Cx.at W) (.c (e a)) v := by
  obtain ⟨fuel, hf⟩ := hd
  rw [hv] at hf
  obtain ⟨a, ha, hl, hr⟩ := h.op fuel _ _ hf hw
  exact ⟨a, ha, .c (hr 0 (by simp))⟩
theorem cells_slice {t el : TypeId} (ht : P.underlying t = some (.slice el)) {r : Reach} {b0 : Nat} {v : Value} (hv : Value.okWide P W r b0 t v) : v.cells = #[v] := by
  obtain ⟨a, len, cap, rfl⟩ := okWide_slice ht hv
  rfl
theorem cells_int {t : TypeId} {k : IntKind} (ht : P.underlying t = some (.int k)) {r : Reach} {b0 : Nat} {v : Value} (hv : Value.okWide P W r b0 t v) : v.cells = #[v] := by
  obtain ⟨n, rfl⟩ := okWide_int ht hv
  rfl
theorem cells_bool {t : TypeId} (ht : P.underlying t = some .bool) {r : Reach} {b0 : Nat} {v : Value} (hv : Value.okWide P W r b0 t v) : v.cells = #[v] := by
  obtain ⟨n, rfl⟩ := okWide_bool ht hv
  rfl
end
end Go.Proofs.YtmmgbgpglhbhcaaGreat.Am
