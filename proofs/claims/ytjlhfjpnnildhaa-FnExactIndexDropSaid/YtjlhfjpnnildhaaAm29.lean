/- The abstract machine, part 29: slices.Clone, once for all types. -/
import Derived.Test.YtjlhfjpnnildhaaAm28
set_option linter.unusedVariables false
set_option linter.unusedSimpArgs false
namespace Go.Proofs.Ytjlhfjpnnildhaa.Am

def cloneCode (s bytes : Nat) (z : List Ce) : AFn := ⟨8, [.t 2], (.seq (.region [⟨some 2, .op (.mv (.k (.nils))), none⟩]) (.seq (.seq (.region [⟨some 3, .op (.mv (.t 0)), none⟩, ⟨some 4, .op (.eq false false [.sl] (.t 3) (.k (.nils))), none⟩]) (.cond (.t 4) (.seq (.region [⟨some 2, .op (.mv (.k (.nils))), none⟩]) .ret) .skip)) (.seq (.region [⟨some 5, .op (.mksl false s 0 z []), none⟩, ⟨some 6, .op (.mv (.t 0)), none⟩, ⟨some 7, .op (.app s bytes (.t 5) (.t 6)), none⟩, ⟨some 2, .op (.mv (.t 7)), none⟩]) .ret)))⟩
/-- What a clone is. -/
def Cloned (σ : Store) (s : Nat) (ys : List (List Ce)) (r : AV) (τ : Store) : Prop := (ys = [] ∧ r = .c .nils ∧ τ = E σ []) ∨ Made σ s ys r τ
theorem clone_ok {P : Program} (hm : P.follows .mixedOrders = true) {fz : List Nat} {n s bytes : Nat} {z : List Ce} (hc : compFn P fz n = some (cloneCode s bytes z)) (ys : List (List Ce)) (hs : ∀ e ∈ ys, e.length = s) (hb : ys.length * bytes ≤ 140737488355328) (σ : Store) :
    Ok P n [.c (.fz ys)] σ (Cloned σ s ys) := by
  refine Ok.run hm hc (Nat.le_of_ble_eq_true rfl) fun hS hA => ?_
  clear hS hA
  have tail : ∀ {fr : Fr} {K}, look fr 0 = some (.c (.fz ys)) → Go P σ.next 8 [.t 2] (Cloned σ s ys) (.code (.region [⟨some 5, .op (.mksl false s 0 z []), none⟩, ⟨some 6, .op (.mv (.t 0)), none⟩, ⟨some 7, .op (.app s bytes (.t 5) (.t 6)), none⟩, ⟨some 2, .op (.mv (.t 7)), none⟩]) :: .code .ret :: K) fr (E σ []) := by
    intro fr K h0
    refine .same (fr' := (0, .c (.fz ys)) :: fr) (fun t => ?_) ?_
    · simp only [look]
      split
      · rename_i e; subst e; exact h0.symm
      · rfl
    repeat' first | (apply Go.seq) | (apply Go.skip) | (apply Go.region) | (apply Go.nil) | (apply Go.block) | (apply Go.blk) | (apply Go.draw) | (apply Go.segs) | (apply Go.qs) | (apply Qg.nil) | (apply Go.exit; exact rfl) | (apply Go.var2; first | exact Nat.le_add_right _ _ | assumption; decide; decide; decide; decide; exact rfl; exact rfl; exact rfl; exact rfl; exact rfl) | (apply Go.var; first | exact Nat.le_add_right _ _ | assumption; decide; exact rfl; exact rfl; exact rfl; exact rfl) | (apply Go.op; exact rfl; exact aop_alloc) | (apply Go.op; exact rfl; exact aop_new rfl rfl) | (apply Go.op; exact rfl; exact aop_mksl rfl) | (apply Go.op; exact rfl; exact aop_lenM rfl) | (apply Go.sop; exact rfl; exact aop_lenM rfl) | (apply Qg.op; exact rfl; exact aop_lenM rfl) | (apply Go.op; exact rfl; exact rfl) | (apply Go.no; exact rfl) | (apply Go.sop; exact rfl; exact rfl) | (apply Go.sno; exact rfl) | (apply Qg.op; exact rfl; exact rfl) | (apply Qg.no; exact rfl) | (apply Go.op; exact rfl; exact aop_load rfl rfl rfl (Nat.le_of_ble_eq_true rfl) rfl) | (apply Go.op; exact rfl; exact aop_store rfl rfl rfl rfl rfl rfl (Nat.le_of_ble_eq_true rfl)) | (apply Go.cond true; exact rfl) | (apply Go.cond false; exact rfl) | (exfalso; omega) | (apply Go.iteD; exact rfl) <;> intro _ | (apply Go.iteE; exact rfl) <;> intro _ | (apply Go.iteN; exact rfl) <;> intro _ | (apply Go.guardD; exact rfl) <;> intro _ | (apply Go.guardE; exact rfl) <;> intro _ | (apply Go.guardN; exact rfl) <;> intro _ | (apply Go.sguardD; exact rfl) <;> intro _ | (apply Go.sguardE; exact rfl) <;> intro _ | (apply Go.sguardN; exact rfl) <;> intro _ | (apply Qg.guardD; exact rfl) <;> intro _ | (apply Qg.guardE; exact rfl) <;> intro _ | (apply Qg.guardN; exact rfl) <;> intro _ | (apply Go.guard; exact rfl; fail_if_success (intro h; exact absurd h (by decide)); rotate_left; fail_if_success (intro h; exact absurd h (by decide)); rotate_right) <;> intro _ | (apply Go.sguard; exact rfl; fail_if_success (intro h; exact absurd h (by decide)); rotate_left; fail_if_success (intro h; exact absurd h (by decide)); rotate_right) <;> intro _ | (apply Qg.guard; exact rfl; fail_if_success (intro h; exact absurd h (by decide)); rotate_left; fail_if_success (intro h; exact absurd h (by decide)); rotate_right) <;> intro _ | (apply Go.ite; exact rfl; fail_if_success (intro h; exact absurd h (by decide)); rotate_left; fail_if_success (intro h; exact absurd h (by decide)); rotate_right) <;> intro _
    refine Go.app (ys := []) (junk := []) (zs := ys) rfl rfl rfl rfl rfl (by simp) Jk.nil hs (by simpa using hb) fun v junk hj => ?_
    repeat' first | (apply Go.seq) | (apply Go.skip) | (apply Go.region) | (apply Go.nil) | (apply Go.block) | (apply Go.blk) | (apply Go.draw) | (apply Go.segs) | (apply Go.qs) | (apply Qg.nil) | (apply Go.exit; exact rfl) | (apply Go.var2; first | exact Nat.le_add_right _ _ | assumption; decide; decide; decide; decide; exact rfl; exact rfl; exact rfl; exact rfl; exact rfl) | (apply Go.var; first | exact Nat.le_add_right _ _ | assumption; decide; exact rfl; exact rfl; exact rfl; exact rfl) | (apply Go.op; exact rfl; exact aop_alloc) | (apply Go.op; exact rfl; exact aop_new rfl rfl) | (apply Go.op; exact rfl; exact aop_mksl rfl) | (apply Go.op; exact rfl; exact aop_lenM rfl) | (apply Go.sop; exact rfl; exact aop_lenM rfl) | (apply Qg.op; exact rfl; exact aop_lenM rfl) | (apply Go.op; exact rfl; exact rfl) | (apply Go.no; exact rfl) | (apply Go.sop; exact rfl; exact rfl) | (apply Go.sno; exact rfl) | (apply Qg.op; exact rfl; exact rfl) | (apply Qg.no; exact rfl) | (apply Go.op; exact rfl; exact aop_load rfl rfl rfl (Nat.le_of_ble_eq_true rfl) rfl) | (apply Go.op; exact rfl; exact aop_store rfl rfl rfl rfl rfl rfl (Nat.le_of_ble_eq_true rfl)) | (apply Go.cond true; exact rfl) | (apply Go.cond false; exact rfl) | (exfalso; omega) | (apply Go.iteD; exact rfl) <;> intro _ | (apply Go.iteE; exact rfl) <;> intro _ | (apply Go.iteN; exact rfl) <;> intro _ | (apply Go.guardD; exact rfl) <;> intro _ | (apply Go.guardE; exact rfl) <;> intro _ | (apply Go.guardN; exact rfl) <;> intro _ | (apply Go.sguardD; exact rfl) <;> intro _ | (apply Go.sguardE; exact rfl) <;> intro _ | (apply Go.sguardN; exact rfl) <;> intro _ | (apply Qg.guardD; exact rfl) <;> intro _ | (apply Qg.guardE; exact rfl) <;> intro _ | (apply Qg.guardN; exact rfl) <;> intro _ | (apply Go.guard; exact rfl; fail_if_success (intro h; exact absurd h (by decide)); rotate_left; fail_if_success (intro h; exact absurd h (by decide)); rotate_right) <;> intro _ | (apply Go.sguard; exact rfl; fail_if_success (intro h; exact absurd h (by decide)); rotate_left; fail_if_success (intro h; exact absurd h (by decide)); rotate_right) <;> intro _ | (apply Qg.guard; exact rfl; fail_if_success (intro h; exact absurd h (by decide)); rotate_left; fail_if_success (intro h; exact absurd h (by decide)); rotate_right) <;> intro _ | (apply Go.ite; exact rfl; fail_if_success (intro h; exact absurd h (by decide)); rotate_left; fail_if_success (intro h; exact absurd h (by decide)); rotate_right) <;> intro _
    exact .ret rfl (.inr ⟨v, junk, hj, rfl, rfl⟩)
  cases ys with
  | nil =>
    repeat' first | (apply Go.seq) | (apply Go.skip) | (apply Go.region) | (apply Go.nil) | (apply Go.block) | (apply Go.blk) | (apply Go.draw) | (apply Go.segs) | (apply Go.qs) | (apply Qg.nil) | (apply Go.exit; exact rfl) | (apply Go.var2; first | exact Nat.le_add_right _ _ | assumption; decide; decide; decide; decide; exact rfl; exact rfl; exact rfl; exact rfl; exact rfl) | (apply Go.var; first | exact Nat.le_add_right _ _ | assumption; decide; exact rfl; exact rfl; exact rfl; exact rfl) | (apply Go.op; exact rfl; exact aop_alloc) | (apply Go.op; exact rfl; exact aop_new rfl rfl) | (apply Go.op; exact rfl; exact aop_mksl rfl) | (apply Go.op; exact rfl; exact aop_lenM rfl) | (apply Go.sop; exact rfl; exact aop_lenM rfl) | (apply Qg.op; exact rfl; exact aop_lenM rfl) | (apply Go.op; exact rfl; exact rfl) | (apply Go.no; exact rfl) | (apply Go.sop; exact rfl; exact rfl) | (apply Go.sno; exact rfl) | (apply Qg.op; exact rfl; exact rfl) | (apply Qg.no; exact rfl) | (apply Go.op; exact rfl; exact aop_load rfl rfl rfl (Nat.le_of_ble_eq_true rfl) rfl) | (apply Go.op; exact rfl; exact aop_store rfl rfl rfl rfl rfl rfl (Nat.le_of_ble_eq_true rfl)) | (apply Go.cond true; exact rfl) | (apply Go.cond false; exact rfl) | (exfalso; omega) | (apply Go.iteD; exact rfl) <;> intro _ | (apply Go.iteE; exact rfl) <;> intro _ | (apply Go.iteN; exact rfl) <;> intro _ | (apply Go.guardD; exact rfl) <;> intro _ | (apply Go.guardE; exact rfl) <;> intro _ | (apply Go.guardN; exact rfl) <;> intro _ | (apply Go.sguardD; exact rfl) <;> intro _ | (apply Go.sguardE; exact rfl) <;> intro _ | (apply Go.sguardN; exact rfl) <;> intro _ | (apply Qg.guardD; exact rfl) <;> intro _ | (apply Qg.guardE; exact rfl) <;> intro _ | (apply Qg.guardN; exact rfl) <;> intro _ | (apply Go.guard; exact rfl; fail_if_success (intro h; exact absurd h (by decide)); rotate_left; fail_if_success (intro h; exact absurd h (by decide)); rotate_right) <;> intro _ | (apply Go.sguard; exact rfl; fail_if_success (intro h; exact absurd h (by decide)); rotate_left; fail_if_success (intro h; exact absurd h (by decide)); rotate_right) <;> intro _ | (apply Qg.guard; exact rfl; fail_if_success (intro h; exact absurd h (by decide)); rotate_left; fail_if_success (intro h; exact absurd h (by decide)); rotate_right) <;> intro _ | (apply Go.ite; exact rfl; fail_if_success (intro h; exact absurd h (by decide)); rotate_left; fail_if_success (intro h; exact absurd h (by decide)); rotate_right) <;> intro _
    refine .nilq rfl rfl (.fz _) fun b => ?_
    cases b with
    | true =>
      repeat' first | (apply Go.seq) | (apply Go.skip) | (apply Go.region) | (apply Go.nil) | (apply Go.block) | (apply Go.blk) | (apply Go.draw) | (apply Go.segs) | (apply Go.qs) | (apply Qg.nil) | (apply Go.exit; exact rfl) | (apply Go.var2; first | exact Nat.le_add_right _ _ | assumption; decide; decide; decide; decide; exact rfl; exact rfl; exact rfl; exact rfl; exact rfl) | (apply Go.var; first | exact Nat.le_add_right _ _ | assumption; decide; exact rfl; exact rfl; exact rfl; exact rfl) | (apply Go.op; exact rfl; exact aop_alloc) | (apply Go.op; exact rfl; exact aop_new rfl rfl) | (apply Go.op; exact rfl; exact aop_mksl rfl) | (apply Go.op; exact rfl; exact aop_lenM rfl) | (apply Go.sop; exact rfl; exact aop_lenM rfl) | (apply Qg.op; exact rfl; exact aop_lenM rfl) | (apply Go.op; exact rfl; exact rfl) | (apply Go.no; exact rfl) | (apply Go.sop; exact rfl; exact rfl) | (apply Go.sno; exact rfl) | (apply Qg.op; exact rfl; exact rfl) | (apply Qg.no; exact rfl) | (apply Go.op; exact rfl; exact aop_load rfl rfl rfl (Nat.le_of_ble_eq_true rfl) rfl) | (apply Go.op; exact rfl; exact aop_store rfl rfl rfl rfl rfl rfl (Nat.le_of_ble_eq_true rfl)) | (apply Go.cond true; exact rfl) | (apply Go.cond false; exact rfl) | (exfalso; omega) | (apply Go.iteD; exact rfl) <;> intro _ | (apply Go.iteE; exact rfl) <;> intro _ | (apply Go.iteN; exact rfl) <;> intro _ | (apply Go.guardD; exact rfl) <;> intro _ | (apply Go.guardE; exact rfl) <;> intro _ | (apply Go.guardN; exact rfl) <;> intro _ | (apply Go.sguardD; exact rfl) <;> intro _ | (apply Go.sguardE; exact rfl) <;> intro _ | (apply Go.sguardN; exact rfl) <;> intro _ | (apply Qg.guardD; exact rfl) <;> intro _ | (apply Qg.guardE; exact rfl) <;> intro _ | (apply Qg.guardN; exact rfl) <;> intro _ | (apply Go.guard; exact rfl; fail_if_success (intro h; exact absurd h (by decide)); rotate_left; fail_if_success (intro h; exact absurd h (by decide)); rotate_right) <;> intro _ | (apply Go.sguard; exact rfl; fail_if_success (intro h; exact absurd h (by decide)); rotate_left; fail_if_success (intro h; exact absurd h (by decide)); rotate_right) <;> intro _ | (apply Qg.guard; exact rfl; fail_if_success (intro h; exact absurd h (by decide)); rotate_left; fail_if_success (intro h; exact absurd h (by decide)); rotate_right) <;> intro _ | (apply Go.ite; exact rfl; fail_if_success (intro h; exact absurd h (by decide)); rotate_left; fail_if_success (intro h; exact absurd h (by decide)); rotate_right) <;> intro _
      exact .ret rfl (.inl ⟨rfl, rfl, rfl⟩)
    | false =>
      repeat (first | (apply Go.nil) | (apply Go.cond false; exact rfl) | (apply Go.skip))
      apply Go.seq
      exact tail rfl
  | cons a r =>
    apply Go.seq; apply Go.region; apply Go.op; exact rfl; exact rfl; apply Go.nil; apply Go.seq; apply Go.seq; apply Go.region
    apply Go.op; exact rfl; exact rfl; apply Go.op; exact rfl; exact rfl; apply Go.nil; apply Go.cond false; exact rfl
    apply Go.skip; apply Go.seq
    exact tail rfl
theorem Cloned.new {σ τ : Store} {s : Nat} {ys : List (List Ce)} {r : AV} (h : Cloned σ s ys r τ) (hy : ∀ e ∈ ys, e.length = s ∧ ∀ x ∈ e, Flat x) : NewV σ (.c (.fz ys)) r τ := by
  rcases h with ⟨rfl, rfl, rfl⟩ | h
  · exact ⟨.start σ, .c .nil⟩
  · exact (Made.new hy h).v

/-! ### Freezing in the middle -/
/-- A frame some of whose values are known as frozen ones. -/
inductive FrzFr (τ : Store) (n : Nat) (fr : Fr) : Fr → Prop where
  | nil : FrzFr τ n fr []
  | frz {t : Nat} {y x : AV} {r : Fr} (hl : look fr t = some y) (h : FrzV τ n y x) (k : FrzFr τ n fr r) : FrzFr τ n fr ((t, x) :: r)
theorem FrzFr.at_ {τ : Store} {n : Nat} {fr fr' : Fr} (h : FrzFr τ n fr fr') : ∀ t x, look fr' t = some x → ∃ y, look fr t = some y ∧ FrzV τ n y x := by
  induction h with
  | nil => intro t x hx; simp [look] at hx
  | @frz t0 y x0 r hl hz k ih =>
    intro t x hx
    simp only [look] at hx
    split at hx
    · rename_i e
      subst e
      injection hx with hx
      subst hx
      exact ⟨y, hl, hz⟩
    · exact ih t x hx
theorem Go.freeze {P : Program} {nt : Nat} {rets : List RV} {R : AV → Store → Prop} {K : List AK} {fr fr' : Fr} {σ : Store} {l : List (Nat × List (List Ce))} (hS : OldS σ) (h : FrzFr (E σ l) σ.next fr fr') (hg : Go P σ.next nt rets R K fr' (E σ [])) : Go P σ.next nt rets R K fr (E σ l) := by
  refine .shift (Shift.frz (n := σ.next) h.at_ (by simp [E_next]) (fun id y hy => ?_) (Nat.le_refl _)) hg
  have hlt : id < σ.next := by
    by_cases e : id < σ.next
    · exact e
    · rw [E_ge e] at hy; simp at hy
  rw [E_lt hlt] at hy
  exact ⟨by rw [E_lt hlt]; exact hy, hlt, (hS id y hy).2⟩

/-! ### Slices of an owned slice -/
section
variable {fr : Fr} {σ : Store}
theorem aop_slice {s id v b n c : Nat} {x : Opd} {lo hi mx : Option Opd} {lo' hi' mx' : Option AV} {l h m : Nat} {es : List (List Ce)} (hx : x.ev fr = some (.c (.sl id v b n c))) (h1 : evo fr lo = some lo') (h2 : evo fr hi = some hi') (h3 : evo fr mx = some mx') (hl : bound 0 lo' = some l) (hh : bound n hi' = some h) (hm : bound c mx' = some m)
    (hg : σ.get id = some (v, es)) (hs : ∀ e ∈ es, e.length = s) (hlh : l ≤ h) (hhm : h ≤ m) (hmc : m ≤ c) : aop (.slice s x lo hi mx) fr σ = some (.c (.sl id v (b + l) (h - l) (m - l)), σ) := by
  have : sliceA σ s (.sl id v b n c) lo' hi' mx' = some (.sl id v (b + l) (h - l) (m - l)) := by
    simp only [sliceA, hl, hh, hm, hg]
    exact if_pos ⟨trivial, hs, hlh, hhm, hmc⟩
  simp only [aop, hx, h1, h2, h3, this, Option.map_some]
/-- Appending where there is room. -/
theorem aop_room {s bytes id v b n c : Nat} {x y : Opd} {yc : Ce} {es zs : List (List Ce)} (hx : x.ev fr = some (.c (.sl id v b n c))) (hy : y.ev fr = some (.c yc)) (hu : σ.els yc = some zs) (hg : σ.get id = some (v, es)) (hs : ∀ e ∈ es, e.length = s) (hzs : ∀ e ∈ zs, e.length = s) (hc : b + c ≤ es.length) (hn : n ≤ c) (hr : n + zs.length ≤ c) :
    aop (.app s bytes x y) fr σ = some (.c (.sl id v b (n + zs.length) c), σ.put id (v, splice es (b + n) zs)) := by
  have hns : ∀ q, yc ≠ .str q := by
    rintro q rfl
    simp [Store.els] at hu
  have h0 : aop (.app s bytes x y) fr σ = ((σ.els yc).bind (appA σ s bytes (.sl id v b n c))).map fun r => (.c r.1, r.2) := by
    simp only [aop, hx, hy]
  rw [h0, hu]
  simp only [Option.bind_some]
  unfold appA
  rw [if_pos hzs]
  simp only [hg]
  rw [if_pos ⟨trivial, hc, hn, hs⟩, if_pos hr]
  rfl
theorem aop_clear {s id v b n c : Nat} {z : List Ce} {x : Opd} {es : List (List Ce)} (hx : x.ev fr = some (.c (.sl id v b n c))) (hg : σ.get id = some (v, es)) (hz : z.length = s) (hs : ∀ e ∈ es, e.length = s) (hb : b + n ≤ es.length) : aop (.clear z x) fr σ = some (.un, σ.put id (v, splice es b (List.replicate n z))) := by
  simp only [aop, hx, hg]
  exact if_pos ⟨trivial, hb, fun e he => by rw [hs e he, hz]⟩
theorem bound_nat {d n : Nat} {k : IntKind} {z : Int} (h : z = (n : Int)) : bound d (some (.c (.int k z))) = some n := by
  subst h
  simp [bound]
end

/-! ### slices.Delete, once for all types -/
def deleteCode (s bytes : Nat) (z : List Ce) : AFn := ⟨33, [.t 6], (.seq (.region [⟨some 6, .op (.mv (.k (.nils))), none⟩]) (.seq (.region [⟨some 8, .op (.mv (.t 0)), none⟩, ⟨some 9, .op (.mv (.t 1)), none⟩, ⟨some 10, .op (.mv (.t 2)), none⟩, ⟨some 11, .op (.mv (.t 0)), none⟩, ⟨some 12, .op (.len false (.t 11)), none⟩, ⟨some 13, .op (.slice s (.t 8) (some (.t 9)) (some (.t 10)) (some (.t 12))), none⟩]) (.seq (.seq (.region [⟨some 14, .op (.mv (.t 1)), none⟩, ⟨some 15, .op (.mv (.t 2)), none⟩, ⟨some 16, .op (.bin .eql (.t 14) (.t 15)), none⟩]) (.cond (.t 16) (.seq (.region [⟨some 17, .op (.mv (.t 0)), none⟩, ⟨some 6, .op (.mv (.t 17)), none⟩]) .ret) .skip)) (.seq (.region [⟨some 18, .op (.mv (.t 0)), none⟩, ⟨some 19, .op (.len false (.t 18)), none⟩, ⟨some 7, .op (.mv (.t 19)), none⟩]) (.seq (.draw [[⟨some 20, .op (.mv (.t 0)), none⟩, ⟨some 21, .op (.mv (.t 1)), none⟩, ⟨some 22, .op (.slice s (.t 20) none (some (.t 21)) none), none⟩, ⟨some 23, .op (.mv (.t 0)), none⟩, ⟨some 24, .op (.mv (.t 2)), none⟩, ⟨some 25, .op (.slice s (.t 23) (some (.t 24)) none none), none⟩], [⟨some 26, .op (.app s bytes (.t 22) (.t 25)), none⟩], [⟨some 0, .op (.mv (.t 26)), none⟩]]) (.seq (.region [⟨some 27, .op (.mv (.t 0)), none⟩, ⟨some 28, .op (.mv (.t 0)), none⟩, ⟨some 29, .op (.len false (.t 28)), none⟩, ⟨some 30, .op (.mv (.t 7)), none⟩, ⟨some 31, .op (.slice s (.t 27) (some (.t 29)) (some (.t 30)) none), none⟩, ⟨none, .op (.clear z (.t 31)), none⟩]) (.seq (.region [⟨some 32, .op (.mv (.t 0)), none⟩, ⟨some 6, .op (.mv (.t 32)), none⟩]) .ret)))))))⟩
theorem delete_ok {P : Program} (hm : P.follows .mixedOrders = true) {fz : List Nat} {f s bytes : Nat} {z : List Ce} (hc : compFn P fz f = some (deleteCode s bytes z)) (hz : z.length = s) (ys junk : List (List Ce)) (hys : ∀ e ∈ ys ++ junk, e.length = s) (id v i j : Nat) (hij : i < j) (hj : j ≤ ys.length) (σ : Store) (hg : σ.get id = some (v, ys ++ junk)) :
    Ok P f [.c (vec id v ys junk), .c (.int .i64 i), .c (.int .i64 j)] σ (fun r σ' => r = .c (vec id v (ys.take i ++ ys.drop j) (List.replicate (j - i) z ++ junk)) ∧ σ' = σ.put id (v, ys.take i ++ ys.drop j ++ (List.replicate (j - i) z ++ junk))) := by
  refine .old hc fun hS hA => .of_go hm hc (by simp [deleteCode]) ?_
  clear hS hA
  have hl : ((ys.length : Nat) : Int) = ys.length := rfl
  repeat' first | (apply Go.seq) | (apply Go.skip) | (apply Go.region) | (apply Go.nil) | (apply Go.block) | (apply Go.blk) | (apply Go.draw) | (apply Go.segs) | (apply Go.qs) | (apply Qg.nil) | (apply Go.exit; exact rfl) | (apply Go.var2; first | exact Nat.le_add_right _ _ | assumption; decide; decide; decide; decide; exact rfl; exact rfl; exact rfl; exact rfl; exact rfl) | (apply Go.var; first | exact Nat.le_add_right _ _ | assumption; decide; exact rfl; exact rfl; exact rfl; exact rfl) | (apply Go.op; exact rfl; exact aop_alloc) | (apply Go.op; exact rfl; exact aop_new rfl rfl) | (apply Go.op; exact rfl; exact aop_mksl rfl) | (apply Go.op; exact rfl; exact aop_lenM rfl) | (apply Go.sop; exact rfl; exact aop_lenM rfl) | (apply Qg.op; exact rfl; exact aop_lenM rfl) | (apply Go.op; exact rfl; exact rfl) | (apply Go.no; exact rfl) | (apply Go.sop; exact rfl; exact rfl) | (apply Go.sno; exact rfl) | (apply Qg.op; exact rfl; exact rfl) | (apply Qg.no; exact rfl) | (apply Go.op; exact rfl; exact aop_load rfl rfl rfl (Nat.le_of_ble_eq_true rfl) rfl) | (apply Go.op; exact rfl; exact aop_store rfl rfl rfl rfl rfl rfl (Nat.le_of_ble_eq_true rfl)) | (apply Go.cond true; exact rfl) | (apply Go.cond false; exact rfl) | (apply Go.op; exact rfl; exact aop_slice (l := i) (h := j) (m := ys.length) rfl rfl rfl rfl (bound_nat rfl) (bound_nat rfl) (bound_nat rfl) hg hys (by omega) hj (by omega)) | (apply Go.sop; exact rfl; exact aop_slice (l := i) (h := j) (m := ys.length) rfl rfl rfl rfl (bound_nat rfl) (bound_nat rfl) (bound_nat rfl) hg hys (by omega) hj (by omega)) | (apply Qg.op; exact rfl; exact aop_slice (l := i) (h := j) (m := ys.length) rfl rfl rfl rfl (bound_nat rfl) (bound_nat rfl) (bound_nat rfl) hg hys (by omega) hj (by omega)) | (apply Go.op; exact rfl; exact aop_slice (l := 0) (h := i) (m := ys.length + junk.length) rfl rfl rfl rfl rfl (bound_nat rfl) rfl hg hys (by omega) (by omega) (by omega)) | (apply Go.sop; exact rfl; exact aop_slice (l := 0) (h := i) (m := ys.length + junk.length) rfl rfl rfl rfl rfl (bound_nat rfl) rfl hg hys (by omega) (by omega) (by omega)) | (apply Qg.op; exact rfl; exact aop_slice (l := 0) (h := i) (m := ys.length + junk.length) rfl rfl rfl rfl rfl (bound_nat rfl) rfl hg hys (by omega) (by omega) (by omega)) | (apply Go.op; exact rfl; exact aop_slice (l := j) (h := ys.length) (m := ys.length + junk.length) rfl rfl rfl rfl (bound_nat rfl) rfl rfl hg hys (by omega) (by omega) (by omega)) | (apply Go.sop; exact rfl; exact aop_slice (l := j) (h := ys.length) (m := ys.length + junk.length) rfl rfl rfl rfl (bound_nat rfl) rfl rfl hg hys (by omega) (by omega) (by omega)) | (apply Qg.op; exact rfl; exact aop_slice (l := j) (h := ys.length) (m := ys.length + junk.length) rfl rfl rfl rfl (bound_nat rfl) rfl rfl hg hys (by omega) (by omega) (by omega)) | (exfalso; omega) | (apply Go.iteD; exact rfl) <;> intro _ | (apply Go.iteE; exact rfl) <;> intro _ | (apply Go.iteN; exact rfl) <;> intro _ | (apply Go.guardD; exact rfl) <;> intro _ | (apply Go.guardE; exact rfl) <;> intro _ | (apply Go.guardN; exact rfl) <;> intro _ | (apply Go.sguardD; exact rfl) <;> intro _ | (apply Go.sguardE; exact rfl) <;> intro _ | (apply Go.sguardN; exact rfl) <;> intro _ | (apply Qg.guardD; exact rfl) <;> intro _ | (apply Qg.guardE; exact rfl) <;> intro _ | (apply Qg.guardN; exact rfl) <;> intro _ | (apply Go.guard; exact rfl; fail_if_success (intro h; exact absurd h (by decide)); rotate_left; fail_if_success (intro h; exact absurd h (by decide)); rotate_right) <;> intro _ | (apply Go.sguard; exact rfl; fail_if_success (intro h; exact absurd h (by decide)); rotate_left; fail_if_success (intro h; exact absurd h (by decide)); rotate_right) <;> intro _ | (apply Qg.guard; exact rfl; fail_if_success (intro h; exact absurd h (by decide)); rotate_left; fail_if_success (intro h; exact absurd h (by decide)); rotate_right) <;> intro _ | (apply Go.ite; exact rfl; fail_if_success (intro h; exact absurd h (by decide)); rotate_left; fail_if_success (intro h; exact absurd h (by decide)); rotate_right) <;> intro _
  have hels : σ.els (.sl id v (0 + j) (ys.length - j) (ys.length + junk.length - j)) = some (ys.drop j) := by
    simp only [Store.els, hg]
    rw [if_pos ⟨trivial, by simp; omega⟩, Nat.zero_add, List.drop_append_of_le_length hj, List.take_append_of_le_length (by simp), List.take_of_length_le (by simp)]
  refine .sop rfl (aop_room rfl rfl hels hg hys (fun e he => hys e (List.mem_append_left _ (List.mem_of_mem_drop he))) (by simp) (by omega) (by simp; omega)) ?_
  have hsp : splice (ys ++ junk) (0 + 0 + (i - 0)) (ys.drop j) = ys.take i ++ ys.drop j ++ ((ys ++ junk).drop (ys.length - (j - i))) := by
    simp only [splice, Nat.zero_add, Nat.sub_zero, List.length_drop]
    rw [List.take_append_of_le_length (by omega), show i + (ys.length - j) = ys.length - (j - i) by omega]
  rw [hsp]
  have hlen : i - 0 + (ys.drop j).length = ys.length - (j - i) := by simp; omega
  have hes2 : ∀ e ∈ ys.take i ++ ys.drop j ++ ((ys ++ junk).drop (ys.length - (j - i))), e.length = s := by
    intro e he
    simp only [List.mem_append] at he
    rcases he with (he | he) | he
    · exact hys e (List.mem_append_left _ (List.mem_of_mem_take he))
    · exact hys e (List.mem_append_left _ (List.mem_of_mem_drop he))
    · exact hys e (List.mem_of_mem_drop he)
  have hg2 : (σ.put id (v, ys.take i ++ ys.drop j ++ ((ys ++ junk).drop (ys.length - (j - i))))).get id = some (v, ys.take i ++ ys.drop j ++ ((ys ++ junk).drop (ys.length - (j - i)))) := if_pos rfl
  repeat' first | (apply Go.seq) | (apply Go.skip) | (apply Go.region) | (apply Go.nil) | (apply Go.block) | (apply Go.blk) | (apply Go.draw) | (apply Go.segs) | (apply Go.qs) | (apply Qg.nil) | (apply Go.exit; exact rfl) | (apply Go.var2; first | exact Nat.le_add_right _ _ | assumption; decide; decide; decide; decide; exact rfl; exact rfl; exact rfl; exact rfl; exact rfl) | (apply Go.var; first | exact Nat.le_add_right _ _ | assumption; decide; exact rfl; exact rfl; exact rfl; exact rfl) | (apply Go.op; exact rfl; exact aop_alloc) | (apply Go.op; exact rfl; exact aop_new rfl rfl) | (apply Go.op; exact rfl; exact aop_mksl rfl) | (apply Go.op; exact rfl; exact aop_lenM rfl) | (apply Go.sop; exact rfl; exact aop_lenM rfl) | (apply Qg.op; exact rfl; exact aop_lenM rfl) | (apply Go.op; exact rfl; exact rfl) | (apply Go.no; exact rfl) | (apply Go.sop; exact rfl; exact rfl) | (apply Go.sno; exact rfl) | (apply Qg.op; exact rfl; exact rfl) | (apply Qg.no; exact rfl) | (apply Go.op; exact rfl; exact aop_load rfl rfl rfl (Nat.le_of_ble_eq_true rfl) rfl) | (apply Go.op; exact rfl; exact aop_store rfl rfl rfl rfl rfl rfl (Nat.le_of_ble_eq_true rfl)) | (apply Go.cond true; exact rfl) | (apply Go.cond false; exact rfl) | (exfalso; omega) | (apply Go.iteD; exact rfl) <;> intro _ | (apply Go.iteE; exact rfl) <;> intro _ | (apply Go.iteN; exact rfl) <;> intro _ | (apply Go.guardD; exact rfl) <;> intro _ | (apply Go.guardE; exact rfl) <;> intro _ | (apply Go.guardN; exact rfl) <;> intro _ | (apply Go.sguardD; exact rfl) <;> intro _ | (apply Go.sguardE; exact rfl) <;> intro _ | (apply Go.sguardN; exact rfl) <;> intro _ | (apply Qg.guardD; exact rfl) <;> intro _ | (apply Qg.guardE; exact rfl) <;> intro _ | (apply Qg.guardN; exact rfl) <;> intro _ | (apply Go.guard; exact rfl; fail_if_success (intro h; exact absurd h (by decide)); rotate_left; fail_if_success (intro h; exact absurd h (by decide)); rotate_right) <;> intro _ | (apply Go.sguard; exact rfl; fail_if_success (intro h; exact absurd h (by decide)); rotate_left; fail_if_success (intro h; exact absurd h (by decide)); rotate_right) <;> intro _ | (apply Qg.guard; exact rfl; fail_if_success (intro h; exact absurd h (by decide)); rotate_left; fail_if_success (intro h; exact absurd h (by decide)); rotate_right) <;> intro _ | (apply Go.ite; exact rfl; fail_if_success (intro h; exact absurd h (by decide)); rotate_left; fail_if_success (intro h; exact absurd h (by decide)); rotate_right) <;> intro _
  rw [hlen]
  generalize hT : ys.take i ++ ys.drop j ++ ((ys ++ junk).drop (ys.length - (j - i))) = T at hes2 hg2 ⊢
  have hTl : T.length = ys.length + junk.length := by
    rw [← hT]
    simp only [List.length_append, List.length_take, List.length_drop]
    omega
  repeat' first | (apply Go.seq) | (apply Go.skip) | (apply Go.region) | (apply Go.nil) | (apply Go.block) | (apply Go.blk) | (apply Go.draw) | (apply Go.segs) | (apply Go.qs) | (apply Qg.nil) | (apply Go.exit; exact rfl) | (apply Go.var2; first | exact Nat.le_add_right _ _ | assumption; decide; decide; decide; decide; exact rfl; exact rfl; exact rfl; exact rfl; exact rfl) | (apply Go.var; first | exact Nat.le_add_right _ _ | assumption; decide; exact rfl; exact rfl; exact rfl; exact rfl) | (apply Go.op; exact rfl; exact aop_alloc) | (apply Go.op; exact rfl; exact aop_new rfl rfl) | (apply Go.op; exact rfl; exact aop_mksl rfl) | (apply Go.op; exact rfl; exact aop_lenM rfl) | (apply Go.sop; exact rfl; exact aop_lenM rfl) | (apply Qg.op; exact rfl; exact aop_lenM rfl) | (apply Go.op; exact rfl; exact rfl) | (apply Go.no; exact rfl) | (apply Go.sop; exact rfl; exact rfl) | (apply Go.sno; exact rfl) | (apply Qg.op; exact rfl; exact rfl) | (apply Qg.no; exact rfl) | (apply Go.op; exact rfl; exact aop_load rfl rfl rfl (Nat.le_of_ble_eq_true rfl) rfl) | (apply Go.op; exact rfl; exact aop_store rfl rfl rfl rfl rfl rfl (Nat.le_of_ble_eq_true rfl)) | (apply Go.cond true; exact rfl) | (apply Go.cond false; exact rfl) | (apply Go.op; exact rfl; exact aop_slice (l := ys.length - (j - i)) (h := ys.length) (m := ys.length + junk.length) rfl rfl rfl rfl (bound_nat rfl) (bound_nat rfl) rfl hg2 hes2 (by omega) (by omega) (by omega)) | (apply Go.sop; exact rfl; exact aop_slice (l := ys.length - (j - i)) (h := ys.length) (m := ys.length + junk.length) rfl rfl rfl rfl (bound_nat rfl) (bound_nat rfl) rfl hg2 hes2 (by omega) (by omega) (by omega)) | (apply Qg.op; exact rfl; exact aop_slice (l := ys.length - (j - i)) (h := ys.length) (m := ys.length + junk.length) rfl rfl rfl rfl (bound_nat rfl) (bound_nat rfl) rfl hg2 hes2 (by omega) (by omega) (by omega)) | (apply Go.op; exact rfl; exact aop_clear rfl hg2 hz hes2 (by omega)) | (apply Go.sop; exact rfl; exact aop_clear rfl hg2 hz hes2 (by omega)) | (apply Qg.op; exact rfl; exact aop_clear rfl hg2 hz hes2 (by omega)) | (exfalso; omega) | (apply Go.iteD; exact rfl) <;> intro _ | (apply Go.iteE; exact rfl) <;> intro _ | (apply Go.iteN; exact rfl) <;> intro _ | (apply Go.guardD; exact rfl) <;> intro _ | (apply Go.guardE; exact rfl) <;> intro _ | (apply Go.guardN; exact rfl) <;> intro _ | (apply Go.sguardD; exact rfl) <;> intro _ | (apply Go.sguardE; exact rfl) <;> intro _ | (apply Go.sguardN; exact rfl) <;> intro _ | (apply Qg.guardD; exact rfl) <;> intro _ | (apply Qg.guardE; exact rfl) <;> intro _ | (apply Qg.guardN; exact rfl) <;> intro _ | (apply Go.guard; exact rfl; fail_if_success (intro h; exact absurd h (by decide)); rotate_left; fail_if_success (intro h; exact absurd h (by decide)); rotate_right) <;> intro _ | (apply Go.sguard; exact rfl; fail_if_success (intro h; exact absurd h (by decide)); rotate_left; fail_if_success (intro h; exact absurd h (by decide)); rotate_right) <;> intro _ | (apply Qg.guard; exact rfl; fail_if_success (intro h; exact absurd h (by decide)); rotate_left; fail_if_success (intro h; exact absurd h (by decide)); rotate_right) <;> intro _ | (apply Go.ite; exact rfl; fail_if_success (intro h; exact absurd h (by decide)); rotate_left; fail_if_success (intro h; exact absurd h (by decide)); rotate_right) <;> intro _
  have hsp2 : splice T (0 + 0 + (ys.length - (j - i))) (List.replicate (ys.length - (ys.length - (j - i))) z) = ys.take i ++ ys.drop j ++ (List.replicate (j - i) z ++ junk) := by
    have hpre : (ys.take i ++ ys.drop j).length = ys.length - (j - i) := by
      simp only [List.length_append, List.length_take, List.length_drop]
      omega
    simp only [splice, Nat.zero_add, List.length_replicate]
    rw [show ys.length - (ys.length - (j - i)) = j - i by omega, show ys.length - (j - i) + (j - i) = ys.length by omega, ← hT]
    have h1 : (ys.take i ++ ys.drop j ++ (ys ++ junk).drop (ys.length - (j - i))).take (ys.length - (j - i)) = ys.take i ++ ys.drop j := List.take_left' hpre
    have h2 : (ys.take i ++ ys.drop j ++ (ys ++ junk).drop (ys.length - (j - i))).drop ys.length = junk := by
      rw [List.drop_append, List.drop_eq_nil_of_le (by omega), hpre, List.drop_drop, show ys.length - (j - i) + (ys.length - (ys.length - (j - i))) = ys.length by omega]
      simp
    rw [h1, h2, List.append_assoc]
  rw [hsp2]
  refine .ret rfl ⟨?_, ?_⟩
  · simp only [vec, List.length_append, List.length_take, List.length_drop, List.length_replicate, Nat.zero_add]
    congr 2 <;> omega
  · refine Store.ext rfl fun a => ?_
    by_cases e : a = id
    · subst e
      simp [Store.put]
    · simp [Store.put, e]
end Go.Proofs.Ytjlhfjpnnildhaa.Am
