/- Joined texts: Am29, F9, F10, F11, F12, F13, F14, Am31, Q1, Q2, Q3, Q4, Q5, Q6, Q7, Q8, Q9, Q10, Q11, Q12, Q13, Q14, Q15. -/
import Derived.Test.YtcfpdongfdhgjaaIp1
import Derived.Test.YtcfpdongfdhgjaaIp2
import Derived.Test.YtcfpdongfdhgjaaIp3
/- The abstract machine, part 29: slices.Clone, once for all types. -/
set_option linter.unusedVariables false
set_option linter.unusedSimpArgs false
namespace Go.Proofs.Ytcfpdongfdhgjaa.Am

def cloneCode (s bytes : Nat) (z : List Ce) : AFn := ⟨8, [.t 2], (.seq (.region [⟨some 2, .op (.mv (.k (.nils))), none⟩]) (.seq (.seq (.region [⟨some 3, .op (.mv (.t 0)), none⟩, ⟨some 4, .op (.eq false false [.sl] (.t 3) (.k (.nils))), none⟩]) (.cond (.t 4) (.seq (.region [⟨some 2, .op (.mv (.k (.nils))), none⟩]) .ret) .skip)) (.seq (.region [⟨some 5, .op (.mksl false s 0 z []), none⟩, ⟨some 6, .op (.mv (.t 0)), none⟩, ⟨some 7, .op (.app s bytes (.t 5) (.t 6)), none⟩, ⟨some 2, .op (.mv (.t 7)), none⟩]) .ret)))⟩
/-- What a clone is. -/
def Cloned (σ : Store) (s : Nat) (ys : List (List Ce)) (r : AV) (τ : Store) : Prop := (ys = [] ∧ r = .c .nils ∧ τ = E σ []) ∨ Made σ s ys r τ
theorem clone_ok {P : Program} (hm : P.follows .mixedOrders = true) {fz : List Nat} {n s bytes : Nat} {z : List Ce} (hc : compFn P fz n = some (cloneCode s bytes z)) (ys : List (List Ce)) (hs : ∀ e ∈ ys, e.length = s) (hb : ys.length * bytes ≤ 140737488355328) (σ : Store) :
    Ok P n [.c (.fz ys)] σ (Cloned σ s ys) := by
  refine Ok.run hm hc (Nat.le_of_ble_eq_true rfl) fun hS hA => ?_
  clear hS hA
  have tail : ∀ {fr : Fr} {K}, look fr 0 = some (.c (.fz ys)) → Go P σ.next 8 [.t 2] (Cloned σ s ys) (.code (.region [⟨some 5, .op (.mksl false s 0 z []), none⟩, ⟨some 6, .op (.mv (.t 0)), none⟩, ⟨some 7, .op (.app s bytes (.t 5) (.t 6)), none⟩, ⟨some 2, .op (.mv (.t 7)), none⟩]) :: .code .ret :: K) fr (E σ []) := by
    intro fr K h0
    refine .same (fr' := (0, .c (.fz ys)) :: fr) (fun t => ?_) ?_
    · simp only [look]
      split
      · rename_i e; subst e; exact h0.symm
      · rfl
    repeat' first | (apply Go.adm; exact rfl) | apply Go.qs | apply Qg.nil | ((first | apply Go.v2 | apply Go.v1); (first | exact leAdd | assumption); iterate 6 exact rfl) | ((first | apply Go.op | apply Go.sop | apply Qg.op); exact rfl; (first | exact aop_alloc | exact aop_new rfl rfl | exact aop_mksl rfl | exact aop_lenM rfl | exact rfl | exact aL rfl rfl rfl rfl rfl | exact aS rfl rfl rfl rfl rfl rfl rfl)) | ((first | apply Go.no | apply Go.sno | apply Qg.no); exact rfl) | (exfalso; omega) | (((first | apply Go.iQ | apply Go.gQ | apply Go.sQ | apply Qg.gQ); exact rfl; (first | exact .d | exact .e | exact .n | ((fail_if_success exact bqt); (fail_if_success exact bqf); exact .b))) <;> intro _)
    refine Go.app (ys := []) (junk := []) (zs := ys) rfl rfl rfl rfl rfl (by simp) Jk.nil hs (by simpa using hb) fun v junk hj => ?_
    repeat' first | (apply Go.adm; exact rfl) | apply Go.qs | apply Qg.nil | ((first | apply Go.v2 | apply Go.v1); (first | exact leAdd | assumption); iterate 6 exact rfl) | ((first | apply Go.op | apply Go.sop | apply Qg.op); exact rfl; (first | exact aop_alloc | exact aop_new rfl rfl | exact aop_mksl rfl | exact aop_lenM rfl | exact rfl | exact aL rfl rfl rfl rfl rfl | exact aS rfl rfl rfl rfl rfl rfl rfl)) | ((first | apply Go.no | apply Go.sno | apply Qg.no); exact rfl) | (exfalso; omega) | (((first | apply Go.iQ | apply Go.gQ | apply Go.sQ | apply Qg.gQ); exact rfl; (first | exact .d | exact .e | exact .n | ((fail_if_success exact bqt); (fail_if_success exact bqf); exact .b))) <;> intro _)
    exact .ret rfl (.inr ⟨v, junk, hj, rfl, rfl⟩)
  cases ys with
  | nil =>
    repeat' first | (apply Go.adm; exact rfl) | apply Go.qs | apply Qg.nil | ((first | apply Go.v2 | apply Go.v1); (first | exact leAdd | assumption); iterate 6 exact rfl) | ((first | apply Go.op | apply Go.sop | apply Qg.op); exact rfl; (first | exact aop_alloc | exact aop_new rfl rfl | exact aop_mksl rfl | exact aop_lenM rfl | exact rfl | exact aL rfl rfl rfl rfl rfl | exact aS rfl rfl rfl rfl rfl rfl rfl)) | ((first | apply Go.no | apply Go.sno | apply Qg.no); exact rfl) | (exfalso; omega) | (((first | apply Go.iQ | apply Go.gQ | apply Go.sQ | apply Qg.gQ); exact rfl; (first | exact .d | exact .e | exact .n | ((fail_if_success exact bqt); (fail_if_success exact bqf); exact .b))) <;> intro _)
    refine .nilq rfl rfl (.fz _) fun b => ?_
    cases b with
    | true =>
      repeat' first | (apply Go.adm; exact rfl) | apply Go.qs | apply Qg.nil | ((first | apply Go.v2 | apply Go.v1); (first | exact leAdd | assumption); iterate 6 exact rfl) | ((first | apply Go.op | apply Go.sop | apply Qg.op); exact rfl; (first | exact aop_alloc | exact aop_new rfl rfl | exact aop_mksl rfl | exact aop_lenM rfl | exact rfl | exact aL rfl rfl rfl rfl rfl | exact aS rfl rfl rfl rfl rfl rfl rfl)) | ((first | apply Go.no | apply Go.sno | apply Qg.no); exact rfl) | (exfalso; omega) | (((first | apply Go.iQ | apply Go.gQ | apply Go.sQ | apply Qg.gQ); exact rfl; (first | exact .d | exact .e | exact .n | ((fail_if_success exact bqt); (fail_if_success exact bqf); exact .b))) <;> intro _)
      exact .ret rfl (.inl ⟨rfl, rfl, rfl⟩)
    | false =>
      repeat (first | (apply Go.nil) | (apply Go.cond false; exact rfl) | (apply Go.skip))
      apply Go.seq
      exact tail rfl
  | cons a r =>
    apply Go.seq; apply Go.region; apply Go.op; exact rfl; exact rfl; apply Go.nil; apply Go.seq; apply Go.seq; apply Go.region
    apply Go.op; exact rfl; exact rfl; apply Go.op; exact rfl; exact rfl; apply Go.nil; apply Go.cond false; exact rfl
    apply Go.skip; apply Go.seq
    exact tail rfl
theorem Cloned.new {σ τ : Store} {s : Nat} {ys : List (List Ce)} {r : AV} (h : Cloned σ s ys r τ) (hy : ∀ e ∈ ys, e.length = s ∧ ∀ x ∈ e, Flat x) : NewV σ (.c (.fz ys)) r τ := by
  rcases h with ⟨rfl, rfl, rfl⟩ | h
  · exact ⟨.start σ, .c .nil⟩
  · exact (Made.new hy h).v

/-! ### Freezing in the middle -/
/-- A frame some of whose values are known as frozen ones. -/
inductive FrzFr (τ : Store) (n : Nat) (fr : Fr) : Fr → Prop where
  | nil : FrzFr τ n fr []
  | frz {t : Nat} {y x : AV} {r : Fr} (hl : look fr t = some y) (h : FrzV τ n y x) (k : FrzFr τ n fr r) : FrzFr τ n fr ((t, x) :: r)
theorem FrzFr.at_ {τ : Store} {n : Nat} {fr fr' : Fr} (h : FrzFr τ n fr fr') : ∀ t x, look fr' t = some x → ∃ y, look fr t = some y ∧ FrzV τ n y x := by
  induction h with
  | nil => intro t x hx; simp [look] at hx
  | @frz t0 y x0 r hl hz k ih =>
    intro t x hx
    simp only [look] at hx
    split at hx
    · rename_i e
      subst e
      injection hx with hx
      subst hx
      exact ⟨y, hl, hz⟩
    · exact ih t x hx
theorem Go.freeze {P : Program} {nt : Nat} {rets : List RV} {R : AV → Store → Prop} {K : List AK} {fr fr' : Fr} {σ : Store} {l : List (Nat × List (List Ce))} (hS : OldS σ) (h : FrzFr (E σ l) σ.next fr fr') (hg : Go P σ.next nt rets R K fr' (E σ [])) : Go P σ.next nt rets R K fr (E σ l) := by
  refine .shift (Shift.frz (n := σ.next) h.at_ (by simp [E_next]) (fun id y hy => ?_) (Nat.le_refl _)) hg
  have hlt : id < σ.next := by
    by_cases e : id < σ.next
    · exact e
    · rw [E_ge e] at hy; simp at hy
  rw [E_lt hlt] at hy
  exact ⟨by rw [E_lt hlt]; exact hy, hlt, (hS id y hy).2⟩

/-! ### Slices of an owned slice -/
section
variable {fr : Fr} {σ : Store}
end

/-! ### slices.Delete, once for all types -/
end Go.Proofs.Ytcfpdongfdhgjaa.Am

/- Entries: sameness, copies, dropping. -/
set_option linter.unusedVariables false
set_option linter.unusedSimpArgs false
namespace Go.Proofs.Ytcfpdongfdhgjaa.Am

/-! ### Copies -/
theorem clean_append {xs : List Val} : ∀ e ∈ xs.map encV, e.length = 3 ∧ ∀ x ∈ e, Flat x := by
  intro e he
  obtain ⟨a, _, rfl⟩ := List.mem_map.1 he
  exact ⟨rfl, flatV a⟩
theorem l1CopyVals_ok (xs : List Val) (hx : xs.length ≤ 34359738368) (σ : Store) : Ok Try.prog 19 [.c (.fz (xs.map encV))] σ (NewV σ (.c (.fz (xs.map encV)))) := by
  refine (Makes.new (s := 3) clean_append (Makes.run mixed c_spec_l1CopyVals_ok (Nat.le_of_ble_eq_true rfl) fun σ hS hA => ?_) σ).mono fun _ _ h => h.v
  clear hS hA
  repeat' first | (apply Go.adm; exact rfl) | apply Go.qs | apply Qg.nil | ((first | apply Go.v2 | apply Go.v1); (first | exact leAdd | assumption); iterate 6 exact rfl) | ((first | apply Go.op | apply Go.sop | apply Qg.op); exact rfl; (first | exact aop_alloc | exact aop_new rfl rfl | exact aop_mksl rfl | exact aop_lenM rfl | exact rfl | exact aL rfl rfl rfl rfl rfl | exact aS rfl rfl rfl rfl rfl rfl rfl)) | ((first | apply Go.no | apply Go.sno | apply Qg.no); exact rfl) | (exfalso; omega) | (((first | apply Go.iQ | apply Go.gQ | apply Go.sQ | apply Qg.gQ); exact rfl; (first | exact .d | exact .e | exact .n | ((fail_if_success exact bqt); (fail_if_success exact bqf); exact .b))) <;> intro _)
  refine Go.app (ys := []) (junk := []) (zs := xs.map encV) rfl rfl rfl rfl rfl (by simp) Jk.nil (fun e he => (clean_append e he).1) (by simp; omega) fun v junk hj => ?_
  repeat' first | (apply Go.adm; exact rfl) | apply Go.qs | apply Qg.nil | ((first | apply Go.v2 | apply Go.v1); (first | exact leAdd | assumption); iterate 6 exact rfl) | ((first | apply Go.op | apply Go.sop | apply Qg.op); exact rfl; (first | exact aop_alloc | exact aop_new rfl rfl | exact aop_mksl rfl | exact aop_lenM rfl | exact rfl | exact aL rfl rfl rfl rfl rfl | exact aS rfl rfl rfl rfl rfl rfl rfl)) | ((first | apply Go.no | apply Go.sno | apply Qg.no); exact rfl) | (exfalso; omega) | (((first | apply Go.iQ | apply Go.gQ | apply Go.sQ | apply Qg.gQ); exact rfl; (first | exact .d | exact .e | exact .n | ((fail_if_success exact bqt); (fail_if_success exact bqf); exact .b))) <;> intro _)
  exact .ret rfl ⟨v, junk, hj, rfl, rfl⟩
theorem cloneVals_ok (xs : List Val) (hx : xs.length ≤ 34359738368) (σ : Store) : Ok Try.prog 36 [.c (.fz (xs.map encV))] σ (NewV σ (.c (.fz (xs.map encV)))) :=
  (clone_ok mixed c_slices_Clone_Val_ok (xs.map encV) (fun e he => (clean_append e he).1) (by simp; omega) σ).mono fun _ _ h => h.new clean_append
end Go.Proofs.Ytcfpdongfdhgjaa.Am

/- Entries: copies of many, marks that are held. -/
set_option linter.unusedVariables false
set_option linter.unusedSimpArgs false
namespace Go.Proofs.Ytcfpdongfdhgjaa.Am

theorem entry_owned {τ : Store} {S : Nat → Prop} {k : Ce} {xk : Ce} {n : Int} (h : Has τ S k xk) : HasL τ S [k, .int .i64 n] [xk, .int .i64 n] :=
  (HasL.two h (HasL.flat (S := fun _ => False) (xs := [.int .i64 n]) (fun x hx => by simp at hx; subst hx; exact .int _ _)) (fun _ _ h => h)).mono fun a ha => ha.elim id (fun h => h.elim)
theorem take_succ_map {α β : Type} {f : α → β} {l : List α} {i : Nat} (h : i < l.length) : (l.take (i + 1)).map f = (l.take i).map f ++ [f l[i]] := by
  rw [List.take_succ_eq_append_getElem h, List.map_append]
  rfl
theorem copiedEntries_ok (l : List Entry) (hx : l.length ≤ 34359738368) (hk : ∀ e ∈ l, e.key.length ≤ 34359738368) (σ : Store) : Ok Try.prog 22 [.c (.fz (l.map encE))] σ (NewV σ (.c (.fz (l.map encE)))) := by
  refine Ok.run mixed c_impl_copiedEntries_ok (Nat.le_of_ble_eq_true rfl) fun hS hA => ?_
  clear hS hA
  repeat' first | (apply Go.adm; exact rfl) | apply Go.qs | apply Qg.nil | ((first | apply Go.v2 | apply Go.v1); (first | exact leAdd | assumption); iterate 6 exact rfl) | ((first | apply Go.op | apply Go.sop | apply Qg.op); exact rfl; (first | exact aop_alloc | exact aop_new rfl rfl | exact aop_mksl rfl | exact aop_lenM rfl | exact rfl | exact aL rfl rfl rfl rfl rfl | exact aS rfl rfl rfl rfl rfl rfl rfl)) | ((first | apply Go.no | apply Go.sno | apply Qg.no); exact rfl) | (exfalso; omega) | (((first | apply Go.iQ | apply Go.gQ | apply Go.sQ | apply Qg.gQ); exact rfl; (first | exact .d | exact .e | exact .n | ((fail_if_success exact bqt); (fail_if_success exact bqf); exact .b))) <;> intro _)
  refine Go.keep [3, 7, 8, 9] (Go.loops (I := fun m fr τ => ∃ i : Nat, ∃ n : Int, ∃ x : Ce, m = l.length - i ∧ i ≤ l.length ∧ n = i ∧ Grow σ τ 2 ((l.take i).map encE) x ∧
    fr = [(3, .c x), (7, .c (.fz (l.map encE))), (8, .c (.int .i64 (l.length : Int))), (9, .c (.int .i64 n))]) ?_ _ _ _ ⟨0, _, _, rfl, Nat.zero_le _, rfl, Grow.empty, rfl⟩)
  rintro m fr τ ⟨i, n, x, rfl, hi, hn, hG, rfl⟩ hrec
  have hle : σ.next ≤ τ.next := hG.gr.next
  by_cases hlt : i < l.length
  · repeat' first | (apply Go.adm; exact rfl) | (apply Go.qd) | apply Qc.nil | (apply Qc.op; exact rfl; (first | exact fun _ => rfl | exact fun _ => aop_lenM rfl | exact fun _ => aop_iaddrM (enc := encE) rfl rfl hn hlt rfl)) | (apply Qc.no; exact rfl) | ((first | apply Go.v2 | apply Go.v1); (first | exact leAdd | assumption); iterate 6 exact rfl) | ((first | apply Go.op | apply Go.sop); exact rfl; (first | exact aop_alloc | exact aop_new rfl rfl | exact aop_mksl rfl | exact aop_lenM rfl | exact rfl | exact aL rfl rfl rfl rfl rfl | exact aS rfl rfl rfl rfl rfl rfl rfl | exact aop_iaddrM (enc := encE) rfl rfl hn hlt rfl)) | ((first | apply Go.no | apply Go.sno); exact rfl) | (exfalso; omega) | (((first | apply Go.iQ | apply Go.gQ | apply Go.sQ | apply Qg.gQ); exact rfl; (first | exact .d | exact .e | exact .n | ((fail_if_success exact bqt); (fail_if_success exact bqf); exact .b))) <;> intro _)
    refine Qc.call _ rfl rfl rfl (cloneVals_ok l[i].key (hk _ (List.getElem_mem hlt)) τ) ?_
    rintro r τ2 ⟨hg2, hh2⟩
    cases hh2 with
    | c hh2 =>
    repeat' first | (apply Go.adm; exact rfl) | (apply Go.qd) | apply Qc.nil | (apply Qc.op; exact rfl; (first | exact fun _ => rfl | exact fun _ => aop_lenM rfl)) | (apply Qc.no; exact rfl) | ((first | apply Go.v2 | apply Go.v1); (first | exact leAdd | assumption); iterate 6 exact rfl) | ((first | apply Go.op | apply Go.sop); exact rfl; (first | exact aop_alloc | exact aop_new rfl rfl | exact aop_mksl rfl | exact aop_lenM rfl | exact rfl | exact aL rfl rfl rfl rfl rfl | exact aS rfl rfl rfl rfl rfl rfl rfl)) | ((first | apply Go.no | apply Go.sno); exact rfl) | (exfalso; omega) | (((first | apply Go.iQ | apply Go.gQ | apply Go.sQ | apply Qg.gQ); exact rfl; (first | exact .d | exact .e | exact .n | ((fail_if_success exact bqt); (fail_if_success exact bqf); exact .b))) <;> intro _)
    refine Go.sgrow ?_ ?_ ?_ (hG.later hg2) hle hg2.next (entry_owned (n := l[i].id) hh2) rfl ?_ fun x' τ3 hG3 => ?_
    · exact rfl
    · exact rfl
    · exact rfl
    · simp
      omega
    repeat' first | (apply Go.adm; exact rfl) | (apply Go.qd) | apply Qc.nil | (apply Qc.op; exact rfl; (first | exact fun _ => rfl | exact fun _ => aop_lenM rfl)) | (apply Qc.no; exact rfl) | ((first | apply Go.v2 | apply Go.v1); (first | exact leAdd | assumption); iterate 6 exact rfl) | ((first | apply Go.op | apply Go.sop); exact rfl; (first | exact aop_alloc | exact aop_new rfl rfl | exact aop_mksl rfl | exact aop_lenM rfl | exact rfl | exact aL rfl rfl rfl rfl rfl | exact aS rfl rfl rfl rfl rfl rfl rfl)) | ((first | apply Go.no | apply Go.sno); exact rfl) | (exfalso; omega) | (((first | apply Go.iQ | apply Go.gQ | apply Go.sQ | apply Qg.gQ); exact rfl; (first | exact .d | exact .e | exact .n | ((fail_if_success exact bqt); (fail_if_success exact bqf); exact .b))) <;> intro _)
    refine Go.keep [3, 7, 8, 9] (hrec _ _ _ (by omega) ⟨i + 1, _, x', rfl, hlt, wrap_succ hn (by omega), ?_, rfl⟩)
    rw [take_succ_map hlt]
    exact hG3
  · repeat' first | (apply Go.adm; exact rfl) | apply Go.qs | apply Qg.nil | ((first | apply Go.v2 | apply Go.v1); (first | exact leAdd | assumption); iterate 6 exact rfl) | ((first | apply Go.op | apply Go.sop | apply Qg.op); exact rfl; (first | exact aop_alloc | exact aop_new rfl rfl | exact aop_mksl rfl | exact aop_lenM rfl | exact rfl | exact aL rfl rfl rfl rfl rfl | exact aS rfl rfl rfl rfl rfl rfl rfl)) | ((first | apply Go.no | apply Go.sno | apply Qg.no); exact rfl) | (exfalso; omega) | (((first | apply Go.iQ | apply Go.gQ | apply Go.sQ | apply Qg.gQ); exact rfl; (first | exact .d | exact .e | exact .n | ((fail_if_success exact bqt); (fail_if_success exact bqf); exact .b))) <;> intro _)
    refine .ret rfl ?_
    rw [List.take_of_length_le (by omega)] at hG
    exact hG.v
theorem l11Copy_ok (l : List Entry) (hx : l.length ≤ 34359738368) (hk : ∀ e ∈ l, e.key.length ≤ 34359738368) (σ : Store) : Ok Try.prog 18 [.c (.fz (l.map encE))] σ (NewV σ (.c (.fz (l.map encE)))) := by
  refine Ok.run mixed c_spec_l11Copy_ok (Nat.le_of_ble_eq_true rfl) fun hS hA => ?_
  clear hS hA
  repeat' first | (apply Go.adm; exact rfl) | apply Go.qs | apply Qg.nil | ((first | apply Go.v2 | apply Go.v1); (first | exact leAdd | assumption); iterate 6 exact rfl) | ((first | apply Go.op | apply Go.sop | apply Qg.op); exact rfl; (first | exact aop_alloc | exact aop_new rfl rfl | exact aop_mksl rfl | exact aop_lenM rfl | exact rfl | exact aL rfl rfl rfl rfl rfl | exact aS rfl rfl rfl rfl rfl rfl rfl)) | ((first | apply Go.no | apply Go.sno | apply Qg.no); exact rfl) | (exfalso; omega) | (((first | apply Go.iQ | apply Go.gQ | apply Go.sQ | apply Qg.gQ); exact rfl; (first | exact .d | exact .e | exact .n | ((fail_if_success exact bqt); (fail_if_success exact bqf); exact .b))) <;> intro _)
  refine Go.keep [0, 3, 4] (Go.loops (I := fun m fr τ => ∃ i : Nat, ∃ n : Int, ∃ x : Ce, m = l.length - i ∧ i ≤ l.length ∧ n = i ∧ Grow σ τ 2 ((l.take i).map encE) x ∧
    fr = [(0, .c (.fz (l.map encE))), (3, .c x), (4, .c (.int .i64 n))]) ?_ _ _ _ ⟨0, _, _, rfl, Nat.zero_le _, rfl, Grow.empty, rfl⟩)
  rintro m fr τ ⟨i, n, x, rfl, hi, hn, hG, rfl⟩ hrec
  have hle : σ.next ≤ τ.next := hG.gr.next
  by_cases hlt : i < l.length
  · repeat' first | (apply Go.adm; exact rfl) | (apply Go.qd) | apply Qc.nil | (apply Qc.op; exact rfl; (first | exact fun _ => rfl | exact fun _ => aop_lenM rfl | exact fun _ => aop_iaddrM (enc := encE) rfl rfl hn hlt rfl)) | (apply Qc.no; exact rfl) | ((first | apply Go.v2 | apply Go.v1); (first | exact leAdd | assumption); iterate 6 exact rfl) | ((first | apply Go.op | apply Go.sop); exact rfl; (first | exact aop_alloc | exact aop_new rfl rfl | exact aop_mksl rfl | exact aop_lenM rfl | exact rfl | exact aL rfl rfl rfl rfl rfl | exact aS rfl rfl rfl rfl rfl rfl rfl | exact aop_iaddrM (enc := encE) rfl rfl hn hlt rfl)) | ((first | apply Go.no | apply Go.sno); exact rfl) | (exfalso; omega) | (((first | apply Go.iQ | apply Go.gQ | apply Go.sQ | apply Qg.gQ); exact rfl; (first | exact .d | exact .e | exact .n | ((fail_if_success exact bqt); (fail_if_success exact bqf); exact .b))) <;> intro _)
    refine Qc.call _ rfl rfl rfl (l1CopyVals_ok l[i].key (hk _ (List.getElem_mem hlt)) τ) ?_
    rintro r τ2 ⟨hg2, hh2⟩
    cases hh2 with
    | c hh2 =>
    repeat' first | (apply Go.adm; exact rfl) | (apply Go.qd) | apply Qc.nil | (apply Qc.op; exact rfl; (first | exact fun _ => rfl | exact fun _ => aop_lenM rfl | exact fun _ => aop_iaddrM (enc := encE) rfl rfl hn hlt rfl)) | (apply Qc.no; exact rfl) | ((first | apply Go.v2 | apply Go.v1); (first | exact leAdd | assumption); iterate 6 exact rfl) | ((first | apply Go.op | apply Go.sop); exact rfl; (first | exact aop_alloc | exact aop_new rfl rfl | exact aop_mksl rfl | exact aop_lenM rfl | exact rfl | exact aL rfl rfl rfl rfl rfl | exact aS rfl rfl rfl rfl rfl rfl rfl | exact aop_iaddrM (enc := encE) rfl rfl hn hlt rfl)) | ((first | apply Go.no | apply Go.sno); exact rfl) | (exfalso; omega) | (((first | apply Go.iQ | apply Go.gQ | apply Go.sQ | apply Qg.gQ); exact rfl; (first | exact .d | exact .e | exact .n | ((fail_if_success exact bqt); (fail_if_success exact bqf); exact .b))) <;> intro _)
    refine Go.sgrow ?_ ?_ ?_ (hG.later hg2) hle hg2.next (entry_owned (n := l[i].id) hh2) rfl ?_ fun x' τ3 hG3 => ?_
    · exact rfl
    · exact rfl
    · exact rfl
    · simp
      omega
    repeat' first | (apply Go.adm; exact rfl) | (apply Go.qd) | apply Qc.nil | (apply Qc.op; exact rfl; (first | exact fun _ => rfl | exact fun _ => aop_lenM rfl)) | (apply Qc.no; exact rfl) | ((first | apply Go.v2 | apply Go.v1); (first | exact leAdd | assumption); iterate 6 exact rfl) | ((first | apply Go.op | apply Go.sop); exact rfl; (first | exact aop_alloc | exact aop_new rfl rfl | exact aop_mksl rfl | exact aop_lenM rfl | exact rfl | exact aL rfl rfl rfl rfl rfl | exact aS rfl rfl rfl rfl rfl rfl rfl)) | ((first | apply Go.no | apply Go.sno); exact rfl) | (exfalso; omega) | (((first | apply Go.iQ | apply Go.gQ | apply Go.sQ | apply Qg.gQ); exact rfl; (first | exact .d | exact .e | exact .n | ((fail_if_success exact bqt); (fail_if_success exact bqf); exact .b))) <;> intro _)
    refine Go.keep [0, 3, 4] (hrec _ _ _ (by omega) ⟨i + 1, _, x', rfl, hlt, wrap_succ hn (by omega), ?_, rfl⟩)
    rw [take_succ_map hlt]
    exact hG3
  · repeat' first | (apply Go.adm; exact rfl) | apply Go.qs | apply Qg.nil | ((first | apply Go.v2 | apply Go.v1); (first | exact leAdd | assumption); iterate 6 exact rfl) | ((first | apply Go.op | apply Go.sop | apply Qg.op); exact rfl; (first | exact aop_alloc | exact aop_new rfl rfl | exact aop_mksl rfl | exact aop_lenM rfl | exact rfl | exact aL rfl rfl rfl rfl rfl | exact aS rfl rfl rfl rfl rfl rfl rfl)) | ((first | apply Go.no | apply Go.sno | apply Qg.no); exact rfl) | (exfalso; omega) | (((first | apply Go.iQ | apply Go.gQ | apply Go.sQ | apply Qg.gQ); exact rfl; (first | exact .d | exact .e | exact .n | ((fail_if_success exact bqt); (fail_if_success exact bqf); exact .b))) <;> intro _)
    refine .ret rfl ?_
    rw [List.take_of_length_le (by omega)] at hG
    exact hG.v

def heldV (v : Val) (k : Int) : Int := if v.k = k ∧ v.n = k + 1 ∧ v.s = mText (k + 2) then k + 3 else -1
def heldS {α : Type} (h : α → Int → Int) : List α → Int → Int
  | [], k => k
  | a :: r, k => if h a k < 0 then -1 else heldS h r (h a k)
theorem heldS_mark {α : Type} {h : α → Int → Int} {m : α → Int → α} {c : α → Int} (hm : ∀ a k, 0 ≤ k → h (m a k) k = k + c a) (hc : ∀ a, 0 ≤ c a) : ∀ (xs : List α) (k : Int), 0 ≤ k → heldS h (markL m c xs k) k = k + cntL c xs
  | [], k, _ => by simp [markL, heldS, cntL]
  | a :: r, k, hk => by
    have := hc a
    have := hm a k hk
    simp only [markL, heldS, cntL]
    rw [if_neg (by omega), this, heldS_mark hm hc r _ (by omega)]
    omega
theorem heldV_mark (v : Val) (k : Int) (hk : 0 ≤ k) : heldV (markV v k) k = k + 3 := by simp [heldV, markV]
theorem heldValS_ok (xs : List Val) (k : Int) (hx : xs.length ≤ 34359738368) (hk0 : 0 ≤ k) (hk : k + cntL (fun _ => 3) xs ≤ 34359738368) : Pure Try.prog 28 [.c (.fz (xs.map encV)), .c (.int .i64 k)] (.c (.int .i64 (heldS heldV xs k))) := by
  refine Pure.run mixed c_laws_heldValS_ok (Nat.le_of_ble_eq_true rfl) fun σ hS hA => ?_
  clear hS hA
  rw [cnt3] at hk
  repeat' first | (apply Go.adm; exact rfl) | apply Go.qs | apply Qg.nil | ((first | apply Go.v2 | apply Go.v1); (first | exact leAdd | assumption); iterate 6 exact rfl) | ((first | apply Go.op | apply Go.sop | apply Qg.op); exact rfl; (first | exact aop_alloc | exact aop_new rfl rfl | exact aop_mksl rfl | exact aop_lenM rfl | exact rfl | exact aL rfl rfl rfl rfl rfl | exact aS rfl rfl rfl rfl rfl rfl rfl)) | ((first | apply Go.no | apply Go.sno | apply Qg.no); exact rfl) | (exfalso; omega) | (((first | apply Go.iQ | apply Go.gQ | apply Go.sQ | apply Qg.gQ); exact rfl; (first | exact .d | exact .e | exact .n | ((fail_if_success exact bqt); (fail_if_success exact bqf); exact .b))) <;> intro _)
  refine Go.keep [0, 1, 5] (Go.loops (I := fun m fr τ => ∃ i : Nat, ∃ n l : Int, m = xs.length - i ∧ i ≤ xs.length ∧ n = i ∧ (l = k + 3 * i ∧ heldS heldV xs k = heldS heldV (xs.drop i) l) ∧
    fr = [(0, .c (.fz (xs.map encV))), (1, .c (.int .i64 l)), (5, .c (.int .i64 n))] ∧ τ = E σ []) ?_ _ _ _ ⟨0, _, _, rfl, Nat.zero_le _, rfl, ⟨by simp, rfl⟩, rfl, rfl⟩)
  rintro m fr τ ⟨i, n, l, rfl, hi, hn, ⟨hl, hsl⟩, rfl, rfl⟩ hrec
  by_cases hlt : i < xs.length
  · have hw1 : IntKind.i64.wrap (l + 1) = l + 1 := wrap64 (by omega) (by omega)
    have hw2 : IntKind.i64.wrap (l + 1 + 1) = l + 2 := by rw [wrap64 (by omega) (by omega)]; omega
    have hw3 : IntKind.i64.wrap (l + 2 + 1) = l + 3 := by rw [wrap64 (by omega) (by omega)]; omega
    have hdr := List.drop_eq_getElem_cons hlt
    have neg : ¬ (xs[i].k = l ∧ xs[i].n = l + 1 ∧ xs[i].s = mText (l + 2)) → heldS heldV xs k = -1 := fun h => by
      have hv : heldV xs[i] l = -1 := if_neg h
      rw [hsl, hdr, heldS, hv]
      rfl
    repeat' first | (apply Go.adm; exact rfl) | apply Go.qs | apply Qg.nil | ((first | apply Go.v2 | apply Go.v1); (first | exact leAdd | assumption); iterate 6 exact rfl) | ((first | apply Go.op | apply Go.sop | apply Qg.op); exact rfl; (first | exact aop_alloc | exact aop_new rfl rfl | exact aop_mksl rfl | exact aop_lenM rfl | exact rfl | exact aL rfl rfl rfl rfl rfl | exact aS rfl rfl rfl rfl rfl rfl rfl | exact aop_iaddrM (enc := encV) rfl rfl hn hlt rfl)) | ((first | apply Go.no | apply Go.sno | apply Qg.no); exact rfl) | (exfalso; omega) | (((first | apply Go.iQ | apply Go.gQ | apply Go.sQ | apply Qg.gQ); exact rfl; (first | exact .d | exact .e | exact .n | ((fail_if_success exact bqt); (fail_if_success exact bqf); exact .b))) <;> intro _)
    · refine .ret rfl (.int ?_)
      rename_i h9
      exact (neg fun e => h9 e.1).symm
    · refine .ret rfl (.int ?_)
      rename_i h9
      rw [hw1] at h9
      exact (neg fun e => h9 e.2.1).symm
    rename_i h1 h2
    rw [hw1] at h2 ⊢
    rw [hw2]
    repeat' first | (apply Go.adm; exact rfl) | apply Go.qs | apply Qg.nil | ((first | apply Go.v2 | apply Go.v1); (first | exact leAdd | assumption); iterate 6 exact rfl) | ((first | apply Go.op | apply Go.sop | apply Qg.op); exact rfl; (first | exact aop_alloc | exact aop_new rfl rfl | exact aop_mksl rfl | exact aop_lenM rfl | exact rfl | exact aL rfl rfl rfl rfl rfl | exact aS rfl rfl rfl rfl rfl rfl rfl | exact aop_iaddrM (enc := encV) rfl rfl hn hlt rfl)) | ((first | apply Go.no | apply Go.sno | apply Qg.no); exact rfl) | ((first | apply Go.pcall | apply Go.spcall | apply Qg.pcall); (iterate 3 exact rfl); exact markText_ok (l + 2) (by omega)) | (exfalso; omega) | (((first | apply Go.iQ | apply Go.gQ | apply Go.sQ | apply Qg.gQ); exact rfl; (first | exact .d | exact .e | exact .n | ((fail_if_success exact bqt); (fail_if_success exact bqf); exact .b))) <;> intro _)
    · refine .ret rfl (.int ?_)
      rename_i h9
      exact (neg fun e => by simp [e.2.2] at h9).symm
    · refine Go.keep [0, 1, 5] (hrec _ _ _ (by omega) ⟨i + 1, _, _, rfl, hlt, wrap_succ hn (by omega), ⟨hw3.trans (by omega), ?_⟩, rfl, rfl⟩)
      rename_i h3
      have hv : heldV xs[i] l = l + 3 := if_pos ⟨by simpa using h1, by simpa using h2, by simpa using h3⟩
      rw [hsl, hdr, heldS, hv, if_neg (by omega), hw3]
  · repeat' first | (apply Go.adm; exact rfl) | apply Go.qs | apply Qg.nil | ((first | apply Go.v2 | apply Go.v1); (first | exact leAdd | assumption); iterate 6 exact rfl) | ((first | apply Go.op | apply Go.sop | apply Qg.op); exact rfl; (first | exact aop_alloc | exact aop_new rfl rfl | exact aop_mksl rfl | exact aop_lenM rfl | exact rfl | exact aL rfl rfl rfl rfl rfl | exact aS rfl rfl rfl rfl rfl rfl rfl)) | ((first | apply Go.no | apply Go.sno | apply Qg.no); exact rfl) | (exfalso; omega) | (((first | apply Go.iQ | apply Go.gQ | apply Go.sQ | apply Qg.gQ); exact rfl; (first | exact .d | exact .e | exact .n | ((fail_if_success exact bqt); (fail_if_success exact bqf); exact .b))) <;> intro _)
    refine .ret rfl (.int ?_)
    rw [hsl, List.drop_eq_nil_of_le (by omega)]
    rfl
end Go.Proofs.Ytcfpdongfdhgjaa.Am

/- The order of entries; an index without one of its entries. Plain laws. -/
set_option linter.unusedVariables false
set_option linter.unusedSimpArgs false
namespace Go.Proofs.Ytcfpdongfdhgjaa.Am

/-- A three-way order among those that are R. -/
structure Cmp {α : Type} (R : α → Prop) (c : α → α → Int) : Prop where
  refl : ∀ a, R a → c a a = 0
  eq : ∀ a b, R a → R b → c a b = 0 → a = b
  flip : ∀ a b, R a → R b → (c a b < 0 ↔ 0 < c b a)
  trans : ∀ a b d, R a → R b → R d → c a b < 0 → c b d < 0 → c a d < 0
theorem Cmp.lex {α β γ : Type} {R : γ → Prop} {f : γ → α} {g : γ → β} {c : α → α → Int} {d : β → β → Int} {Rα : α → Prop} {Rβ : β → Prop} (hc : Cmp Rα c) (hd : Cmp Rβ d) (h1 : ∀ x, R x → Rα (f x)) (h2 : ∀ x, R x → Rβ (g x)) (inj : ∀ x y, f x = f y → g x = g y → x = y) {e : γ → γ → Int} (he : ∀ x y, e x y = if c (f x) (f y) = 0 then d (g x) (g y) else c (f x) (f y)) : Cmp R e := by
  refine ⟨fun a ha => ?_, fun a b ha hb h => ?_, fun a b ha hb => ?_, fun a b x ha hb hx p q => ?_⟩
  · rw [he, hc.refl _ (h1 a ha), if_pos rfl, hd.refl _ (h2 a ha)]
  · rw [he] at h
    split at h
    · rename_i h0
      exact inj a b (hc.eq _ _ (h1 a ha) (h1 b hb) h0) (hd.eq _ _ (h2 a ha) (h2 b hb) h)
    · contradiction
  · have f1 := hc.flip _ _ (h1 a ha) (h1 b hb)
    have f2 := hc.flip _ _ (h1 b hb) (h1 a ha)
    have f3 := hd.flip _ _ (h2 a ha) (h2 b hb)
    rw [he, he]
    split <;> split <;> omega
  · rw [he] at p q ⊢
    split at p
    · rename_i e1
      have e1' := hc.eq _ _ (h1 a ha) (h1 b hb) e1
      rw [e1']
      split at q
      · rename_i e2
        rw [if_pos e2]
        exact hd.trans _ _ _ (h2 a ha) (h2 b hb) (h2 x hx) p q
      · rename_i e2
        rw [if_neg e2]
        exact q
    · rename_i e1
      split at q
      · rename_i e2
        have e2' := hc.eq _ _ (h1 b hb) (h1 x hx) e2
        rw [← e2', if_neg e1]
        exact p
      · have := hc.trans _ _ _ (h1 a ha) (h1 b hb) (h1 x hx) p q
        rw [if_neg (by omega)]
        exact this
theorem cmpI_cmp : Cmp (fun _ => True) cmpI := by
  refine ⟨fun a _ => ?_, fun a b _ _ h => ?_, fun a b _ _ => ?_, fun a b d _ _ _ h k => ?_⟩ <;> simp only [cmpI] at *
  · simp
  · split at h
    · omega
    · split at h <;> omega
  · split <;> split <;> (try split) <;> (try split) <;> omega
  · split at h <;> split at k <;> (try split at h) <;> (try split at k) <;> (try omega)
theorem bytesLt_trans : ∀ {a b d : List UInt8}, bytesLt a b = true → bytesLt b d = true → bytesLt a d = true
  | [], [], _, h, _ => by simp [bytesLt, Op.bytesLess] at h
  | [], _ :: _, [], _, k => by simp [bytesLt, Op.bytesLess] at k
  | [], _ :: _, _ :: _, _, _ => by simp [bytesLt, Op.bytesLess]
  | _ :: _, [], _, h, _ => by simp [bytesLt, Op.bytesLess] at h
  | _ :: _, _ :: _, [], _, k => by simp [bytesLt, Op.bytesLess] at k
  | x :: a, y :: b, z :: d, h, k => by
    have ih := @bytesLt_trans a b d
    simp only [bytesLt, Op.bytesLess, Bool.or_eq_true, Bool.and_eq_true, decide_eq_true_eq, beq_iff_eq] at h k ih ⊢
    rcases h with h | ⟨rfl, h⟩ <;> rcases k with k | ⟨rfl, k⟩
    · exact .inl (UInt8.lt_trans h k)
    · exact .inl h
    · exact .inl k
    · exact .inr ⟨rfl, ih h k⟩
theorem cmpS_cmp : Cmp (fun _ => True) cmpS := by
  refine ⟨fun a _ => ?_, fun a b _ _ h => ?_, fun a b _ _ => ?_, fun a b d _ _ _ h k => ?_⟩
  · simp [cmpS, bytesLt_irrefl]
  · simp only [cmpS] at h
    split at h
    · omega
    · split at h
      · rename_i h8; exact beq_iff_eq.1 h8
      · omega
  · have h1 := bytesLt_cases a b
    simp only [cmpS, h1]
    cases h2 : bytesLt a b <;> by_cases e : a = b
    · subst e; simp
    · have e' : ¬ b = a := fun h => e h.symm
      simp [e]
    · subst e; rw [bytesLt_irrefl] at h2; cases h2
    · have e' : ¬ b = a := fun h => e h.symm
      simp [e, e']
  · have key : ∀ {x y : List UInt8}, cmpS x y < 0 ↔ bytesLt x y = true := by
      intro x y
      simp only [cmpS]
      split
      · simp_all
      · split <;> simp_all
    rw [key] at *
    exact bytesLt_trans h k
theorem order_cmp : Cmp (fun _ : Val => True) order := by
  have h2 : Cmp (fun _ : Int × List UInt8 => True) (fun p q => if cmpI p.1 q.1 = 0 then cmpS p.2 q.2 else cmpI p.1 q.1) := Cmp.lex (f := Prod.fst) (g := Prod.snd) cmpI_cmp cmpS_cmp (fun _ _ => trivial) (fun _ _ => trivial) (fun _ _ h k => Prod.ext h k) (fun _ _ => rfl)
  refine Cmp.lex (f := Val.k) (g := fun v => (v.n, v.s)) cmpI_cmp h2 (fun _ _ => trivial) (fun _ _ => trivial) (fun x y h k => ?_) (fun x y => ?_)
  · obtain ⟨a, b, c⟩ := x
    obtain ⟨a', b', c'⟩ := y
    simp_all
  · simp only [order, orI]
    split
    · split
      · split <;> simp_all
      · rfl
    · rfl
theorem orderOf_cmp : ∀ n, Cmp (fun l : List Val => l.length = n) orderOf
  | 0 => ⟨fun a h => by rw [List.eq_nil_of_length_eq_zero h]; rfl, fun a b h k _ => by rw [List.eq_nil_of_length_eq_zero h, List.eq_nil_of_length_eq_zero k], fun a b h k => by rw [List.eq_nil_of_length_eq_zero h, List.eq_nil_of_length_eq_zero k]; simp [orderOf], fun a b d h k _ p => by rw [List.eq_nil_of_length_eq_zero h, List.eq_nil_of_length_eq_zero k] at p; simp [orderOf] at p⟩
  | n + 1 => by
    have ih := orderOf_cmp n
    have key : Cmp (fun p : Val × List Val => p.2.length = n) (fun p q => if order p.1 q.1 = 0 then orderOf p.2 q.2 else order p.1 q.1) := Cmp.lex (f := Prod.fst) (g := Prod.snd) order_cmp ih (fun _ _ => trivial) (fun _ h => h) (fun _ _ h k => Prod.ext h k) (fun _ _ => rfl)
    have cons : ∀ {a : List Val}, a.length = n + 1 → ∃ v r, a = v :: r ∧ r.length = n := by
      intro a h
      cases a with
      | nil => simp at h
      | cons v r => exact ⟨v, r, rfl, by simpa using h⟩
    refine ⟨fun a h => ?_, fun a b h k e => ?_, fun a b h k => ?_, fun a b d h k l p q => ?_⟩
    · obtain ⟨v, r, rfl, hr⟩ := cons h
      exact key.refl (v, r) hr
    · obtain ⟨v, r, rfl, hr⟩ := cons h
      obtain ⟨w, s, rfl, hs⟩ := cons k
      have := key.eq (v, r) (w, s) hr hs e
      injection this with h1 h2
      rw [h1, h2]
    · obtain ⟨v, r, rfl, hr⟩ := cons h
      obtain ⟨w, s, rfl, hs⟩ := cons k
      exact key.flip (v, r) (w, s) hr hs
    · obtain ⟨v, r, rfl, hr⟩ := cons h
      obtain ⟨w, s, rfl, hs⟩ := cons k
      obtain ⟨u, t, rfl, ht⟩ := cons l
      exact key.trans (v, r) (w, s) (u, t) hr hs ht p q
theorem entOrd_cmp (n : Nat) : Cmp (fun e : Entry => e.key.length = n) entOrd := by
  refine Cmp.lex (f := Entry.key) (g := Entry.id) (orderOf_cmp n) cmpI_cmp (fun _ h => h) (fun _ _ => trivial) (fun x y h k => ?_) (fun x y => ?_)
  · obtain ⟨a, b⟩ := x
    obtain ⟨a', b'⟩ := y
    simp_all
  · simp only [entOrd, orI]
    split
    · split <;> simp_all
    · rfl
theorem okOne_spec {n0 : Nat} {p : Option Entry} {e : Entry} (h : okOne n0 p e = true) : e.key.length = n0 ∧ risen p e = true := by
  simp only [okOne, Bool.and_eq_true, decide_eq_true_eq] at h
  exact ⟨h.1.1.1.2, h.2⟩
theorem okRest_lt {n0 : Nat} : ∀ {l : List Entry} {q : Entry}, q.key.length = n0 → okRest n0 (some q) l = true → ∀ e ∈ l, e.key.length = n0 ∧ entOrd q e < 0
  | [], _, _, _, _, h => by simp at h
  | a :: r, q, hq, h, e, he => by
    rw [okRest_cons, Bool.and_eq_true] at h
    obtain ⟨h1, h2⟩ := okOne_spec h.1
    simp only [risen, decide_eq_true_eq] at h2
    rcases List.mem_cons.1 he with rfl | he
    · exact ⟨h1, h2⟩
    · obtain ⟨h3, h4⟩ := okRest_lt h1 h.2 e he
      exact ⟨h3, (entOrd_cmp n0).trans q a e hq h1 h3 h2 h4⟩
theorem okRest_sorted {n0 : Nat} : ∀ {l : List Entry} {p : Option Entry}, okRest n0 p l = true → l.Pairwise (fun a b => entOrd a b < 0) ∧ ∀ e ∈ l, e.key.length = n0
  | [], _, _ => ⟨.nil, fun e h => by simp at h⟩
  | a :: r, p, h => by
    rw [okRest_cons, Bool.and_eq_true] at h
    obtain ⟨h1, _⟩ := okOne_spec h.1
    obtain ⟨h3, h4⟩ := okRest_sorted h.2
    refine ⟨List.pairwise_cons.2 ⟨fun e he => (okRest_lt h1 h.2 e he).2, h3⟩, fun e he => ?_⟩
    rcases List.mem_cons.1 he with rfl | he
    · exact h1
    · exact h4 e he
theorem okEnts_sorted {l : List Entry} (h : okEnts l = true) : l.Pairwise (fun a b => entOrd a b < 0) ∧ ∃ n0, ∀ e ∈ l, e.key.length = n0 := by
  simp only [okEnts, Bool.and_eq_true] at h
  obtain ⟨h1, h2⟩ := okRest_sorted h.1
  exact ⟨h1, _, h2⟩
theorem okEnts_nodup {l : List Entry} (h : okEnts l = true) : l.Nodup := by
  obtain ⟨h1, n0, h2⟩ := okEnts_sorted h
  refine List.Pairwise.imp_of_mem (fun ha hb hab => ?_) h1
  rintro rfl
  have := (entOrd_cmp n0).refl _ (h2 _ ha)
  omega

/-- An index without an entry. -/
def without (l : List Entry) (e : Entry) : List Entry := l.filter fun x => !(x == e)
end Go.Proofs.Ytcfpdongfdhgjaa.Am

/- An index without an entry: the program and its reference. -/
set_option linter.unusedVariables false
set_option linter.unusedSimpArgs false
namespace Go.Proofs.Ytcfpdongfdhgjaa.Am

theorem solid_bool {τ : Store} {S : Nat → Prop} (b : Bool) : HasV τ S (.c (.bool b)) (.c (.bool b)) := .c (.c (.bool b))
/-- A tree and an answer. -/
theorem newPair {σ τ : Store} {y x : Ce} {b : Bool} (h : NewV σ (.c y) (.c x) τ) : NewV σ (.tup [.c y, .c (.bool b)]) (.tup [.c x, .c (.bool b)]) τ :=
  ⟨h.1, .pair h.2 (solid_bool (S := fun _ => False) b) (fun _ h => h) (fun _ h => h.elim) (fun _ _ h => h)⟩
theorem old_map {n : Nat} {e : Entry} : ∀ x ∈ encE e, Old n x := by
  have hv : ∀ (v : Val), ∀ x ∈ encV v, Old n x := fun v x hx => (flatV v x hx).old n
  intro x hx
  simp only [encE, List.mem_cons, List.not_mem_nil, or_false] at hx
  rcases hx with rfl | rfl
  · refine .fz _ fun i j hi hj => ?_
    have hi' : i < e.key.length := by simpa using hi
    have : (e.key.map encV)[i] = encV e.key[i] := by simp
    exact hv e.key[i] _ (by rw [← this]; exact List.getElem_mem hj)
  · exact .int _ _
theorem old_maps {n : Nat} {l : List Entry} : ∀ q ∈ l.map encE, ∀ x ∈ q, Old n x := by
  intro q hq x hx
  obtain ⟨e, _, rfl⟩ := List.mem_map.1 hq
  exact old_map x hx
theorem encE_len {l : List Entry} : ∀ q ∈ l.map encE, q.length = 2 := by
  intro q hq
  obtain ⟨e, _, rfl⟩ := List.mem_map.1 hq
  rfl
theorem Cloned.made {σ τ : Store} {s : Nat} {ys : List (List Ce)} {r : AV} (h : Cloned σ s ys r τ) (hy : ys ≠ []) : Made σ s ys r τ := h.resolve_left fun e => hy e.1
end Go.Proofs.Ytcfpdongfdhgjaa.Am

/- The law FnExactIndexDrop: its function returns true. -/
set_option linter.unusedVariables false
set_option linter.unusedSimpArgs false
namespace Go.Proofs.Ytcfpdongfdhgjaa.Am

def heldE (e : Entry) (k : Int) : Int := if heldS heldV e.key k < 0 then -1 else if e.id = heldS heldV e.key k then heldS heldV e.key k + 1 else -1
theorem heldE_mark (e : Entry) (k : Int) (hk : 0 ≤ k) : heldE (markE e k) k = k + cntE e := by
  have h := heldS_mark (c := fun _ => 3) heldV_mark (fun _ => by decide) e.key k hk
  have h0 := cntL_nonneg (c := fun _ : Val => 3) (fun _ => by decide) e.key
  simp only [heldE, markE, h, cntE]
  rw [if_neg (by omega)]
  simp
  omega
theorem heldS_or {α : Type} {h : α → Int → Int} {c : α → Int} (hh : ∀ a k, h a k = -1 ∨ h a k = k + c a) : ∀ (xs : List α) (k : Int), heldS h xs k = -1 ∨ heldS h xs k = k + cntL c xs
  | [], k => by simp [heldS, cntL]
  | a :: r, k => by
    simp only [heldS, cntL]
    split
    · exact .inl rfl
    · rename_i h0
      rcases hh a k with h1 | h1
      · omega
      · rw [h1]
        rcases heldS_or hh r (k + c a) with h2 | h2
        · exact .inl h2
        · right; rw [h2]; omega
theorem heldV_or (v : Val) (k : Int) : heldV v k = -1 ∨ heldV v k = k + 3 := by
  simp only [heldV]
  split
  · exact .inr rfl
  · exact .inl rfl
theorem heldEntryS_ok (xs : List Entry) (k : Int) (hx : xs.length ≤ 34359738368) (hkl : ∀ e ∈ xs, e.key.length ≤ 34359738368) (hk0 : 0 ≤ k) (hk : k + cntL cntE xs ≤ 34359738368) : Pure Try.prog 14 [.c (.fz (xs.map encE)), .c (.int .i64 k)] (.c (.int .i64 (heldS heldE xs k))) := by
  refine Pure.run mixed c_laws_heldEntryS_ok (Nat.le_of_ble_eq_true rfl) fun σ hS hA => ?_
  clear hS hA
  repeat' first | (apply Go.adm; exact rfl) | apply Go.qs | apply Qg.nil | ((first | apply Go.v2 | apply Go.v1); (first | exact leAdd | assumption); iterate 6 exact rfl) | ((first | apply Go.op | apply Go.sop | apply Qg.op); exact rfl; (first | exact aop_alloc | exact aop_new rfl rfl | exact aop_mksl rfl | exact aop_lenM rfl | exact rfl | exact aL rfl rfl rfl rfl rfl | exact aS rfl rfl rfl rfl rfl rfl rfl)) | ((first | apply Go.no | apply Go.sno | apply Qg.no); exact rfl) | (exfalso; omega) | (((first | apply Go.iQ | apply Go.gQ | apply Go.sQ | apply Qg.gQ); exact rfl; (first | exact .d | exact .e | exact .n | ((fail_if_success exact bqt); (fail_if_success exact bqf); exact .b))) <;> intro _)
  refine Go.keep [0, 1, 5] (Go.loops (I := fun m fr τ => ∃ i : Nat, ∃ n l : Int, m = xs.length - i ∧ i ≤ xs.length ∧ n = i ∧ (0 ≤ l ∧ l + cntL cntE (xs.drop i) ≤ 34359738368 ∧ heldS heldE xs k = heldS heldE (xs.drop i) l) ∧
    fr = [(0, .c (.fz (xs.map encE))), (1, .c (.int .i64 l)), (5, .c (.int .i64 n))] ∧ τ = E σ []) ?_ _ _ _ ⟨0, _, _, rfl, Nat.zero_le _, rfl, ⟨hk0, by simpa using hk, rfl⟩, rfl, rfl⟩)
  rintro m fr τ ⟨i, n, l, rfl, hi, hn, ⟨hl0, hl, hsl⟩, rfl, rfl⟩ hrec
  by_cases hlt : i < xs.length
  · have hdr := List.drop_eq_getElem_cons hlt
    have hn0 := cntL_nonneg cntE_nonneg (xs.drop (i + 1))
    have hn1 := cntL_nonneg (c := fun _ : Val => 3) (fun _ => by decide) xs[i].key
    rw [hdr] at hl
    simp only [cntL, cntE] at hl
    have neg : heldE xs[i] l = -1 → heldS heldE xs k = -1 := fun h => by
      rw [hsl, hdr, heldS, h]
      rfl
    have hor := heldS_or (c := fun _ => 3) heldV_or xs[i].key l
    repeat' first | (apply Go.adm; exact rfl) | apply Go.qs | apply Qg.nil | ((first | apply Go.v2 | apply Go.v1); (first | exact leAdd | assumption); iterate 6 exact rfl) | ((first | apply Go.op | apply Go.sop | apply Qg.op); exact rfl; (first | exact aop_alloc | exact aop_new rfl rfl | exact aop_mksl rfl | exact aop_lenM rfl | exact rfl | exact aL rfl rfl rfl rfl rfl | exact aS rfl rfl rfl rfl rfl rfl rfl | exact aop_iaddrM (enc := encE) rfl rfl hn hlt rfl)) | ((first | apply Go.no | apply Go.sno | apply Qg.no); exact rfl) | ((first | apply Go.pcallI | apply Go.spcallI | apply Qg.pcallI); (iterate 3 exact rfl); exact heldValS_ok xs[i].key l (hkl _ (List.getElem_mem hlt)) hl0 (by omega); intro _ _) | (exfalso; omega) | (((first | apply Go.iQ | apply Go.gQ | apply Go.sQ | apply Qg.gQ); exact rfl; (first | exact .d | exact .e | exact .n | ((fail_if_success exact bqt); (fail_if_success exact bqf); exact .b))) <;> intro _)
    · refine .ret rfl (.int ?_)
      refine (neg ?_).symm
      rw [heldE, if_pos (by omega)]
    · rename_i l1 h1 h2 h3
      refine .ret rfl (.int ?_)
      refine (neg ?_).symm
      rw [heldE, h1, if_neg h2, if_neg h3]
    · rename_i l1 h1 h2 h3
      have hw : IntKind.i64.wrap (l1 + 1) = l1 + 1 := wrap64 (by omega) (by omega)
      have hhe : heldE xs[i] l = l1 + 1 := by rw [heldE, h1, if_neg h2, if_pos h3]
      refine Go.keep [0, 1, 5] (hrec _ _ _ (by omega) ⟨i + 1, _, _, rfl, hlt, wrap_succ hn (by omega), ⟨?_, ?_, ?_⟩, rfl, rfl⟩)
      · rw [hw]; omega
      · rw [hw]; omega
      · rw [hsl, hdr, heldS, hhe, if_neg (by omega), hw]
  · repeat' first | (apply Go.adm; exact rfl) | apply Go.qs | apply Qg.nil | ((first | apply Go.v2 | apply Go.v1); (first | exact leAdd | assumption); iterate 6 exact rfl) | ((first | apply Go.op | apply Go.sop | apply Qg.op); exact rfl; (first | exact aop_alloc | exact aop_new rfl rfl | exact aop_mksl rfl | exact aop_lenM rfl | exact rfl | exact aL rfl rfl rfl rfl rfl | exact aS rfl rfl rfl rfl rfl rfl rfl)) | ((first | apply Go.no | apply Go.sno | apply Qg.no); exact rfl) | (exfalso; omega) | (((first | apply Go.iQ | apply Go.gQ | apply Go.sQ | apply Qg.gQ); exact rfl; (first | exact .d | exact .e | exact .n | ((fail_if_success exact bqt); (fail_if_success exact bqf); exact .b))) <;> intro _)
    refine .ret rfl (.int ?_)
    rw [hsl, List.drop_eq_nil_of_le (by omega)]
    rfl
/-- The call marks what a struct leads to. -/
structure MarksL (P : Program) (f : Nat) (ys : List Ce) (k k' : Int) : Prop where
  at_ : ∀ σ S xs, HasL σ S ys xs → Ok P f [.agg xs, .c (.int .i64 k)] σ (fun r σ' => r = .c (.int .i64 k') ∧ σ'.next = σ.next ∧ (∀ a, ¬ S a → σ'.get a = σ.get a))
theorem entry_open {τ : Store} {S : Nat → Prop} {e : Entry} {xs : List Ce} (h : HasL τ S (encE e) xs) : ∃ x S', xs = [x, .int .i64 e.id] ∧ (∀ a, S' a → S a) ∧ Has τ S' (.fz (e.key.map encV)) x := by
  obtain ⟨U, h1, h2, h3, h4⟩ := h
  match xs, h1 with
  | [x, y], _ =>
    have hx := h4 0 (by simp [encE]) (by simp)
    have hy := h4 1 (by simp [encE]) (by simp)
    simp only [encE, List.getElem_cons_zero, List.getElem_cons_succ] at hx hy
    cases hy with
    | c h => exact ⟨x, U 0, rfl, fun a ha => h2 0 a ha, hx⟩
theorem markEntry_ok (e : Entry) (k : Int) (hx : e.key.length ≤ 34359738368) (hk0 : 0 ≤ k) (hk : k + cntL (fun _ => 3) e.key ≤ 34359738368) : MarksL Try.prog 13 (encE e) k (k + cntL (fun _ => 3) e.key) := by
  constructor
  intro σ S xs hh
  obtain ⟨x, S', rfl, hS', hx'⟩ := entry_open hh
  refine .old c_laws_markEntry_ok fun hS hA => .of_go mixed c_laws_markEntry_ok (Nat.le_of_ble_eq_true rfl) ?_
  clear hS hA
  repeat' first | (apply Go.adm; exact rfl) | apply Go.qs | apply Qg.nil | ((first | apply Go.v2 | apply Go.v1); (first | exact leAdd | assumption); iterate 6 exact rfl) | ((first | apply Go.op | apply Go.sop | apply Qg.op); exact rfl; (first | exact aop_alloc | exact aop_new rfl rfl | exact aop_mksl rfl | exact aop_lenM rfl | exact rfl | exact aL rfl rfl rfl rfl rfl | exact aS rfl rfl rfl rfl rfl rfl rfl)) | ((first | apply Go.no | apply Go.sno | apply Qg.no); exact rfl) | (exfalso; omega) | (((first | apply Go.iQ | apply Go.gQ | apply Go.sQ | apply Qg.gQ); exact rfl; (first | exact .d | exact .e | exact .n | ((fail_if_success exact bqt); (fail_if_success exact bqf); exact .b))) <;> intro _)
  refine Go.call _ rfl rfl rfl ((markValS_ok e.key k hx hk0 hk).at_ σ S' _ hx') ?_
  rintro r τ1 ⟨rfl, hnx, hfr, -⟩
  repeat' first | (apply Go.adm; exact rfl) | apply Go.qs | apply Qg.nil | ((first | apply Go.v2 | apply Go.v1); (first | exact leAdd | assumption); iterate 6 exact rfl) | ((first | apply Go.op | apply Go.sop | apply Qg.op); exact rfl; (first | exact aop_alloc | exact aop_new rfl rfl | exact aop_mksl rfl | exact aop_lenM rfl | exact rfl | exact aL rfl rfl rfl rfl rfl | exact aS rfl rfl rfl rfl rfl rfl rfl)) | ((first | apply Go.no | apply Go.sno | apply Qg.no); exact rfl) | (exfalso; omega) | (((first | apply Go.iQ | apply Go.gQ | apply Go.sQ | apply Qg.gQ); exact rfl; (first | exact .d | exact .e | exact .n | ((fail_if_success exact bqt); (fail_if_success exact bqf); exact .b))) <;> intro _)
  exact .ret rfl ⟨rfl, hnx, fun a ha => hfr a fun h => ha (hS' a h)⟩
end Go.Proofs.Ytcfpdongfdhgjaa.Am

/- The law FnExactIndexDrop: its function returns true (the walk). -/
set_option linter.unusedVariables false
set_option linter.unusedSimpArgs false
namespace Go.Proofs.Ytcfpdongfdhgjaa.Am

theorem aop_neB {fr : Fr} {σ : Store} {x y : Opd} {b : Bool} (hx : x.ev fr = some (.c (.bool b))) (hy : y.ev fr = some (.c (.bool b))) : aop (.eq true false [.b] x y) fr σ = some (.c (.bool false), σ) := by
  cases b <;> simp [aop, hx, hy, eqKs, eqK]
theorem newPair_open {σ τ : Store} {y : Ce} {b : Bool} {r : AV} (h : NewV σ (.tup [.c y, .c (.bool b)]) r τ) : ∃ x, r = .tup [.c x, .c (.bool b)] ∧ Gr σ τ ∧ Has τ (fun a => σ.next ≤ a ∧ a < τ.next) y x := by
  obtain ⟨hg, hh⟩ := h
  generalize hy0 : (AV.tup [.c y, .c (.bool b)]) = y0 at hh
  cases hh with
  | c h => cases hy0
  | agg h => cases hy0
  | @tup S ys xs U hl hU hd h =>
    injection hy0 with hy0
    subst hy0
    match xs, hl with
    | [x1, x2], _ =>
      have h1 := h 0 (by simp) (by simp)
      have h2 := h 1 (by simp) (by simp)
      simp only [List.getElem_cons_zero, List.getElem_cons_succ] at h1 h2
      cases h1 with
      | c h1 =>
        cases h2 with
        | c h2 =>
          cases h2 with
          | c _ => exact ⟨_, rfl, hg, h1.mono fun a ha => hU 0 a ha⟩
theorem solid_end {σ : Store} {τ : Store} {b : Bool} : FrzV τ σ.next (.c (.bool b)) (.c (.bool b)) := .refl (by intro y hy; simp [AV.all] at hy; subst hy; exact .bool _)
theorem marked_keys {ws : List Entry} {k : Int} (h : ∀ e ∈ ws, e.key.length ≤ 34359738368) : ∀ e ∈ markL markE cntE ws k, e.key.length ≤ 34359738368 := by
  induction ws generalizing k with
  | nil => intro e he; simp [markL] at he
  | cons a r ih =>
    intro e he
    simp only [markL, List.mem_cons] at he
    rcases he with rfl | he
    · simp only [markE, markL_length]
      exact h a (by simp)
    · exact ih (fun e he => h e (by simp [he])) e he
theorem marked_cnt {ws : List Entry} {k : Int} : cntL cntE (markL markE cntE ws k) = cntL cntE ws := by
  induction ws generalizing k with
  | nil => rfl
  | cons a r ih => simp only [markL, cntL, ih, cntE, markE, cnt3, markL_length]
end Go.Proofs.Ytcfpdongfdhgjaa.Am

/- Stacks: owned slices cut and lengthened, drawn segments that write. -/
set_option linter.unusedVariables false
set_option linter.unusedSimpArgs false
namespace Go.Proofs.Ytcfpdongfdhgjaa.Am

section
variable {fr : Fr} {σ : Store}
theorem Jk.drop {s : Nat} {ys junk : List (List Ce)} (h : ∀ e ∈ ys, e.length = s ∧ ∀ x ∈ e, Flat x) (hj : Jk s junk) (n : Nat) : Jk s (ys.drop n ++ junk) := fun e he =>
  (List.mem_append.1 he).elim (fun h1 => h e (List.mem_of_mem_drop h1)) (hj e)
theorem Qk.alloc {P : Program} {l m : List (Nat × List (List Ce))} {Z : Fr → Store → Prop} {d : Option Nat} {z : List Ce} {g : Option (Nat × Bool)} {rest : List AOper} (hw : wants fr g = some true) (h : Qk P (fun τ => ∃ m, τ = E σ (l ++ m)) Z rest (putA fr d (.c (.ptr (σ.next + (l ++ m).length) 0 0 0))) (E σ (l ++ (m ++ [(0, [z])])))) :
    Qk P (fun τ => ∃ m, τ = E σ (l ++ m)) Z (⟨d, .op (.alloc z), g⟩ :: rest) fr (E σ (l ++ m)) :=
  .wop rfl hw (by rw [aop_alloc, List.append_assoc]) ⟨_, rfl⟩ h
theorem Qk.lcall {P : Program} {l : List (Nat × List (List Ce))} {τ : Store} {Z : Fr → Store → Prop} {d : Option Nat} {f : Opd} {args : List Opd} {g : Option (Nat × Bool)} {rest : List AOper} {n : Nat} {pre cap : List Ce} {vs args' : List AV} {r : AV} (hw : wants fr g = some true) (hf : f.ev fr = some (.c (.fn n pre cap))) (ha : evs fr args = some vs)
    (hp : Pure P n args' r) (hs : Solid r) (hz : ∀ m, Lend (E σ (l ++ m)) (pre.map AV.c ++ vs ++ cap.map AV.c) args') (h : Qk P (fun τ => ∃ m, τ = E σ (l ++ m)) Z rest (putA fr d r) τ) : Qk P (fun τ => ∃ m, τ = E σ (l ++ m)) Z (⟨d, .call f args, g⟩ :: rest) fr τ :=
  .call hw hf ha (fun ρ ⟨m, hm⟩ => by subst hm; exact (hz m).pure hp hs) h
theorem Qk.pcall {P : Program} {I : Store → Prop} {τ : Store} {Z : Fr → Store → Prop} {d : Option Nat} {f : Opd} {args : List Opd} {g : Option (Nat × Bool)} {rest : List AOper} {n : Nat} {pre cap : List Ce} {vs : List AV} {r : AV} (hw : wants fr g = some true) (hf : f.ev fr = some (.c (.fn n pre cap))) (ha : evs fr args = some vs)
    (hp : Pure P n (pre.map .c ++ vs ++ cap.map .c) r) (h : Qk P I Z rest (putA fr d r) τ) : Qk P I Z (⟨d, .call f args, g⟩ :: rest) fr τ :=
  .call hw hf ha (fun ρ _ => hp.at_ ρ) h
theorem Qk.app {P : Program} {l L : List (Nat × List (List Ce))} {Z : Fr → Store → Prop} {d : Option Nat} {g : Option (Nat × Bool)} {rest : List AOper} {s bytes k v : Nat} {x y : Opd} {u : Ce} {ys junk zs : List (List Ce)} (hw : wants fr g = some true) (hx : x.ev fr = some (.c (vec (σ.next + k) v ys junk))) (hy : y.ev fr = some (.c u)) (hu : (E σ L).els u = some zs) (hl : L[k]? = some (v, ys ++ junk))
    (hys : ∀ e ∈ ys, e.length = s) (hj : Jk s junk) (hzs : ∀ e ∈ zs, e.length = s) (hb : (ys.length + zs.length) * bytes ≤ 140737488355328) (hI : ∀ z, ∃ m, L.set k z = l ++ m)
    (h : ∀ v' junk', Jk s junk' → Qk P (fun τ => ∃ m, τ = E σ (l ++ m)) Z rest (putA fr d (.c (vec (σ.next + k) v' (ys ++ zs) junk'))) (E σ (L.set k (v', ys ++ zs ++ junk')))) :
    Qk P (fun τ => ∃ m, τ = E σ (l ++ m)) Z (⟨d, .op (.app s bytes x y), g⟩ :: rest) fr (E σ L) := by
  obtain ⟨v', junk', hj', ha⟩ := aop_app (s := s) (bytes := bytes) hx hy hu hl hys hj hzs hb
  obtain ⟨m, hm⟩ := hI (v', ys ++ zs ++ junk')
  exact .wop rfl hw ha ⟨m, by rw [hm]⟩ (h v' junk' hj')
end
end Go.Proofs.Ytcfpdongfdhgjaa.Am

/- Sorting in place, once for all element types: swaps, rotations. -/
set_option linter.unusedVariables false
set_option linter.unusedSimpArgs false
namespace Go.Proofs.Ytcfpdongfdhgjaa.Am

/-- The store whose block id holds a list's elements. -/
structure Fam (α : Type) where
  σ : Store
  id : Nat
  v : Nat
  ce : α → List Ce
  junk : List (List Ce)
  two : ∀ x, (ce x).length = 2
def Fam.S {α : Type} (F : Fam α) (l : List α) : Store := F.σ.put F.id (F.v, l.map F.ce ++ F.junk)
section
variable {α : Type} {F : Fam α}
theorem Fam.get (l : List α) : (F.S l).get F.id = some (F.v, l.map F.ce ++ F.junk) := if_pos rfl
theorem Fam.put (l l' : List α) : (F.S l).put F.id (F.v, l'.map F.ce ++ F.junk) = F.S l' := by
  simp only [Fam.S, Store.put]
  congr 1
  funext a
  split <;> rfl
theorem aop_si {fr : Fr} {l : List α} {x y : Opd} {kd : IntKind} {z : Int} {m c i : Nat} (hx : x.ev fr = some (.c (.sl F.id F.v 0 m c))) (hy : y.ev fr = some (.c (.int kd z))) (hz : z = (i : Int)) (hm : m = l.length) (hi : i < l.length) :
    aop (.iaddr 2 x y) fr (F.S l) = some (.c (.ptr F.id F.v i 0), F.S l) := by
  have := aop_iaddrO (s := 2) hx hy hz (by omega) (F.get l) (e := F.ce l[i]) (by rw [Nat.zero_add, List.getElem?_append_left (by simpa using hi)]; simp [hi]) (F.two _)
  rw [Nat.zero_add] at this
  exact this
theorem aop_sl {fr : Fr} {l : List α} {a : Opd} {i : Nat} (ha : a.ev fr = some (.c (.ptr F.id F.v i 0))) (hi : i < l.length) : aop (.load true 2 a) fr (F.S l) = some (.agg (F.ce l[i]), F.S l) := by
  have he : (l.map F.ce ++ F.junk)[i]? = some (F.ce l[i]) := by rw [List.getElem?_append_left (by simpa using hi)]; simp [hi]
  have h2 := F.two l[i]
  simp only [aop, ha, Store.at_, F.get l, he, if_true, Option.bind_some, Nat.zero_le, List.drop_zero, takeA, h2, Nat.le_refl]
  have : (F.ce l[i]).take 2 = F.ce l[i] := List.take_of_length_le (by omega)
  rw [this]
  rfl
theorem aop_ss {fr : Fr} {l : List α} {a y : Opd} {i : Nat} {x : α} (ha : a.ev fr = some (.c (.ptr F.id F.v i 0))) (hy : y.ev fr = some (.agg (F.ce x))) (hi : i < l.length) : aop (.store 2 a y) fr (F.S l) = some (.un, F.S (l.set i x)) := by
  have he : (l.map F.ce ++ F.junk)[i]? = some (F.ce l[i]) := by rw [List.getElem?_append_left (by simpa using hi)]; simp [hi]
  have h2 := F.two l[i]
  have h3 := F.two x
  have hs : (l.map F.ce ++ F.junk).set i (splice (F.ce l[i]) 0 (F.ce x)) = (l.set i x).map F.ce ++ F.junk := by
    have : splice (F.ce l[i]) 0 (F.ce x) = F.ce x := by
      rw [splice, List.take_zero, List.nil_append, List.drop_eq_nil_of_le (by omega), List.append_nil]
    rw [this, List.set_append_left _ _ (by simpa using hi), List.map_set]
  have h4 : ∀ q : Store × AV, True := fun _ => trivial
  simp only [aop, ha, hy, AV.cells, Option.bind_some, F.get l, he, if_true, h2, h3, Nat.zero_add, Nat.le_refl, and_self, hs]
  rw [F.put]
end
def sw {α : Type} (l : List α) (i j : Nat) : List α := match l[i]?, l[j]? with
  | some x, some y => (l.set i y).set j x
  | _, _ => l
theorem sw_eq {α : Type} {l : List α} {i j : Nat} (hi : i < l.length) (hj : j < l.length) : sw l i j = (l.set i l[j]).set j l[i] := by
  rw [sw, List.getElem?_eq_getElem hi, List.getElem?_eq_getElem hj]
theorem sw_len {α : Type} {l : List α} {i j : Nat} : (sw l i j).length = l.length := by
  rw [sw]
  split <;> simp
/-- swapRange -/
def swR {α : Type} (a b : Nat) : Nat → Nat → List α → List α
  | 0, _, l => l
  | n + 1, i, l => swR a b n (i + 1) (sw l (a + i) (b + i))
theorem swR_len {α : Type} {a b : Nat} : ∀ {n i : Nat} {l : List α}, (swR a b n i l).length = l.length
  | 0, _, l => rfl
  | n + 1, i, l => by rw [swR, swR_len, sw_len]
theorem swapRange_ok {P : Program} (hm : P.follows .mixedOrders = true) {fz : List Nat} {n : Nat} (hc : compFn P fz n = some c_slices_swapRangeCmpFunc_Entry) {α : Type} (F : Fam α) (l : List α) (a b k c : Nat) (za zb zk : Int) (ha : za = a) (hb : zb = b) (hk : zk = k) (f : Ce) (h1 : a + k ≤ l.length) (h2 : b + k ≤ l.length) (hx : l.length ≤ 34359738368) :
    Ok P n [.c (.sl F.id F.v 0 l.length c), .c (.int .i64 za), .c (.int .i64 zb), .c (.int .i64 zk), .c f] (F.S l) (fun r τ => r = .tup [] ∧ τ = F.S (swR a b k 0 l)) := by
  refine .of_go hm hc (Nat.le_of_ble_eq_true rfl) ?_
  repeat' first | (apply Go.adm; exact rfl) | apply Go.qs | apply Qg.nil | ((first | apply Go.v2 | apply Go.v1); (first | exact leAdd | assumption); iterate 6 exact rfl) | ((first | apply Go.op | apply Go.sop | apply Qg.op); exact rfl; (first | exact aop_alloc | exact aop_new rfl rfl | exact aop_mksl rfl | exact aop_lenM rfl | exact rfl | exact aL rfl rfl rfl rfl rfl | exact aS rfl rfl rfl rfl rfl rfl rfl)) | ((first | apply Go.no | apply Go.sno | apply Qg.no); exact rfl) | (exfalso; omega) | (((first | apply Go.iQ | apply Go.gQ | apply Go.sQ | apply Qg.gQ); exact rfl; (first | exact .d | exact .e | exact .n | ((fail_if_success exact bqt); (fail_if_success exact bqf); exact .b))) <;> intro _)
  refine Go.keep [0, 1, 2, 3, 10] (Go.loops (I := fun m fr τ => ∃ (i : Nat) (z : Int) (q : List α), m = k - i ∧ i ≤ k ∧ z = i ∧ q.length = l.length ∧ swR a b k 0 l = swR a b (k - i) i q ∧
    fr = [(0, .c (.sl F.id F.v 0 l.length c)), (1, .c (.int .i64 za)), (2, .c (.int .i64 zb)), (3, .c (.int .i64 zk)), (10, .c (.int .i64 z))] ∧ τ = F.S q) ?_ _ _ _ ⟨0, _, l, rfl, Nat.zero_le _, rfl, rfl, rfl, rfl, rfl⟩)
  rintro m fr τ ⟨i, z, q, rfl, hi, hz, hql, hsw, rfl, rfl⟩ hrec
  by_cases hlt : i < k
  · have ei : IntKind.i64.wrap (za + z) = ((a + i : Nat) : Int) := by rw [wrap64 (by omega) (by omega)]; omega
    have ej : IntKind.i64.wrap (zb + z) = ((b + i : Nat) : Int) := by rw [wrap64 (by omega) (by omega)]; omega
    have hi1 : a + i < q.length := by omega
    have hj1 : b + i < q.length := by omega
    rw [show k - i = (k - (i + 1)) + 1 by omega, swR, sw_eq hi1 hj1] at hsw
    repeat' first | (apply Go.adm; exact rfl) | apply Qg.nil | ((first | apply Go.v2 | apply Go.v1); (first | exact leAdd | assumption); iterate 6 exact rfl) | ((first | apply Go.op | apply Go.sop | apply Qg.op); exact rfl; (first | exact aop_alloc | exact aop_new rfl rfl | exact aop_mksl rfl | exact aop_lenM rfl | exact rfl | exact aL rfl rfl rfl rfl rfl | exact aS rfl rfl rfl rfl rfl rfl rfl)) | ((first | apply Go.no | apply Go.sno | apply Qg.no); exact rfl) | (exfalso; omega) | (((first | apply Go.iQ | apply Go.gQ | apply Go.sQ | apply Qg.gQ); exact rfl; (first | exact .d | exact .e | exact .n | ((fail_if_success exact bqt); (fail_if_success exact bqf); exact .b))) <;> intro _)
    refine Go.qw (fun F' τ => Go P (F.S l).next _ _ _ (.segs _ :: _) F' τ) ?_ fun _ _ h => h
    repeat' first | (apply Qw.op; exact rfl; exact fun _ => rfl) | (apply Qw.rd; exact rfl; exact rfl; first | exact aop_si rfl rfl ei hql.symm hi1 | exact aop_si rfl rfl ej hql.symm hj1 | exact aop_sl rfl hi1 | exact aop_sl rfl hj1) | (apply Qw.wr; exact rfl; exact rfl; exact aop_ss rfl rfl hi1) | apply Qw.nil
    repeat' first | (apply Go.adm; exact rfl) | apply Go.qs | apply Qg.nil | ((first | apply Go.v2 | apply Go.v1); (first | exact leAdd | assumption); iterate 6 exact rfl) | ((first | apply Go.op | apply Go.sop | apply Qg.op); exact rfl; (first | exact aop_alloc | exact aop_new rfl rfl | exact aop_mksl rfl | exact aop_lenM rfl | exact rfl | exact aL rfl rfl rfl rfl rfl | exact aS rfl rfl rfl rfl rfl rfl rfl | exact aop_si rfl rfl ej (by rw [List.length_set]; exact hql.symm) (by rw [List.length_set]; exact hj1) | exact aop_ss rfl rfl (by rw [List.length_set]; exact hj1))) | ((first | apply Go.no | apply Go.sno | apply Qg.no); exact rfl) | (exfalso; omega) | (((first | apply Go.iQ | apply Go.gQ | apply Go.sQ | apply Qg.gQ); exact rfl; (first | exact .d | exact .e | exact .n | ((fail_if_success exact bqt); (fail_if_success exact bqf); exact .b))) <;> intro _)
    refine Go.keep [0, 1, 2, 3, 10] (hrec _ _ _ (by omega) ⟨i + 1, _, _, rfl, hlt, wrap_succ hz (by omega), ?_, hsw, rfl, rfl⟩)
    simp [hql]
  · repeat' first | (apply Go.adm; exact rfl) | apply Go.qs | apply Qg.nil | ((first | apply Go.v2 | apply Go.v1); (first | exact leAdd | assumption); iterate 6 exact rfl) | ((first | apply Go.op | apply Go.sop | apply Qg.op); exact rfl; (first | exact aop_alloc | exact aop_new rfl rfl | exact aop_mksl rfl | exact aop_lenM rfl | exact rfl | exact aL rfl rfl rfl rfl rfl | exact aS rfl rfl rfl rfl rfl rfl rfl)) | ((first | apply Go.no | apply Go.sno | apply Qg.no); exact rfl) | (exfalso; omega) | (((first | apply Go.iQ | apply Go.gQ | apply Go.sQ | apply Qg.gQ); exact rfl; (first | exact .d | exact .e | exact .n | ((fail_if_success exact bqt); (fail_if_success exact bqf); exact .b))) <;> intro _)
    rw [show k - i = 0 by omega, swR] at hsw
    exact .fin rfl ⟨rfl, by rw [hsw]⟩
end Go.Proofs.Ytcfpdongfdhgjaa.Am

/- Sorting in place: rotations, insertion. -/
set_option linter.unusedVariables false
set_option linter.unusedSimpArgs false
namespace Go.Proofs.Ytcfpdongfdhgjaa.Am

theorem sw_mem {α : Type} {l : List α} {i j : Nat} {x : α} (h : x ∈ sw l i j) : x ∈ l := by
  rw [sw] at h
  split at h
  · rename_i a b ha hb
    rcases List.mem_or_eq_of_mem_set h with h | rfl
    · rcases List.mem_or_eq_of_mem_set h with h | rfl
      · exact h
      · exact List.mem_of_getElem? hb
    · exact List.mem_of_getElem? ha
  · exact h
theorem swR_mem {α : Type} {a b : Nat} {x : α} : ∀ {n i : Nat} {l : List α}, x ∈ swR a b n i l → x ∈ l
  | 0, _, l, h => h
  | n + 1, i, l, h => sw_mem (swR_mem (by rwa [swR] at h))
def rot {α : Type} (m : Nat) : Nat → Nat → Nat → List α → List α
  | 0, _, _, l => l
  | n + 1, i, j, l => if i = j then swR (m - i) m i 0 l else if j < i then rot m n (i - j) j (swR (m - i) m j 0 l) else rot m n i (j - i) (swR (m - i) (m + j - i) i 0 l)
theorem rot_len {α : Type} {m : Nat} : ∀ {n i j : Nat} {l : List α}, (rot m n i j l).length = l.length
  | 0, _, _, l => rfl
  | n + 1, i, j, l => by
    rw [rot]
    split
    · exact swR_len
    · split
      · rw [rot_len, swR_len]
      · rw [rot_len, swR_len]
theorem rot_mem {α : Type} {m : Nat} {x : α} : ∀ {n i j : Nat} {l : List α}, x ∈ rot m n i j l → x ∈ l
  | 0, _, _, l, h => h
  | n + 1, i, j, l, h => by
    rw [rot] at h
    split at h
    · exact swR_mem h
    · split at h
      · exact swR_mem (rot_mem h)
      · exact swR_mem (rot_mem h)
def rotF {α : Type} (a m b : Nat) (l : List α) : List α := rot m (b - a) (m - a) (b - m) l
theorem rotate_ok {P : Program} (hm : P.follows .mixedOrders = true) {fz fz' : List Nat} {n : Nat} (hc : compFn P fz n = some c_slices_rotateCmpFunc_Entry) (hc' : compFn P fz' 52 = some c_slices_swapRangeCmpFunc_Entry) {α : Type} (F : Fam α) (l : List α) (a m b c : Nat) (za zm zb : Int) (ha : za = a) (hzm : zm = m) (hb : zb = b) (f : Ce) (h1 : a < m) (h2 : m < b) (h3 : b ≤ l.length) (hx : l.length ≤ 34359738368) :
    Ok P n [.c (.sl F.id F.v 0 l.length c), .c (.int .i64 za), .c (.int .i64 zm), .c (.int .i64 zb), .c f] (F.S l) (fun r τ => r = .tup [] ∧ τ = F.S (rotF a m b l)) := by
  refine .of_go hm hc (Nat.le_of_ble_eq_true rfl) ?_
  rw [rotF]
  have e1 : IntKind.i64.wrap (zm - za) = ((m - a : Nat) : Int) := by rw [wrap64 (by omega) (by omega)]; omega
  have e2 : IntKind.i64.wrap (zb - zm) = ((b - m : Nat) : Int) := by rw [wrap64 (by omega) (by omega)]; omega
  repeat' first | (apply Go.adm; exact rfl) | apply Go.qs | apply Qg.nil | ((first | apply Go.v2 | apply Go.v1); (first | exact leAdd | assumption); iterate 6 exact rfl) | ((first | apply Go.op | apply Go.sop | apply Qg.op); exact rfl; (first | exact aop_alloc | exact aop_new rfl rfl | exact aop_mksl rfl | exact aop_lenM rfl | exact rfl | exact aL rfl rfl rfl rfl rfl | exact aS rfl rfl rfl rfl rfl rfl rfl)) | ((first | apply Go.no | apply Go.sno | apply Qg.no); exact rfl) | (exfalso; omega) | (((first | apply Go.iQ | apply Go.gQ | apply Go.sQ | apply Qg.gQ); exact rfl; (first | exact .d | exact .e | exact .n | ((fail_if_success exact bqt); (fail_if_success exact bqf); exact .b))) <;> intro _)
  refine Go.keep [0, 2, 4, 10, 11] (Go.loops (I := fun mm fr τ => ∃ (i j : Nat) (zi zj : Int) (q : List α), mm = i + j ∧ 1 ≤ i ∧ 1 ≤ j ∧ i ≤ m - a ∧ j ≤ b - m ∧ zi = i ∧ zj = j ∧ q.length = l.length ∧ (∃ k, i + j ≤ k ∧ rot m (b - a) (m - a) (b - m) l = rot m k i j q) ∧
    fr = [(0, .c (.sl F.id F.v 0 l.length c)), (2, .c (.int .i64 zm)), (4, .c f), (10, .c (.int .i64 zi)), (11, .c (.int .i64 zj))] ∧ τ = F.S q) ?_ _ _ _ ⟨m - a, b - m, _, _, l, rfl, by omega, by omega, Nat.le_refl _, Nat.le_refl _, e1, e2, rfl, ⟨b - a, by omega, rfl⟩, rfl, rfl⟩)
  rintro mm fr τ ⟨i, j, zi, zj, q, rfl, hi1, hj1, hi, hj, hzi, hzj, hql, ⟨k, hk, hr⟩, rfl, rfl⟩ hrec
  obtain ⟨k, rfl⟩ : ∃ k', k = k' + 1 := ⟨k - 1, by omega⟩
  rw [rot] at hr
  have e3 : IntKind.i64.wrap (zm - zi) = ((m - i : Nat) : Int) := by rw [wrap64 (by omega) (by omega)]; omega
  by_cases hij : i = j
  · subst hij
    have hzz : zi = zj := by omega
    subst hzz
    rw [if_pos rfl] at hr
    have cs := swapRange_ok hm hc' F q (m - i) m i c (IntKind.i64.wrap (zm - zi)) zm zi e3 hzm hzi f (by omega) (by omega) (by omega)
    rw [hql] at cs
    repeat' first | (apply Go.adm; exact rfl) | apply Go.qs | apply Qg.nil | ((first | apply Go.v2 | apply Go.v1); (first | exact leAdd | assumption); iterate 6 exact rfl) | ((first | apply Go.op | apply Go.sop | apply Qg.op); exact rfl; (first | exact aop_alloc | exact aop_new rfl rfl | exact aop_mksl rfl | exact aop_lenM rfl | exact rfl | exact aL rfl rfl rfl rfl rfl | exact aS rfl rfl rfl rfl rfl rfl rfl)) | ((first | apply Go.no | apply Go.sno | apply Qg.no); exact rfl) | (exfalso; omega) | (((first | apply Go.iQ | apply Go.gQ | apply Go.sQ | apply Qg.gQ); exact rfl; (first | exact .d | exact .e | exact .n | ((fail_if_success exact bqt); (fail_if_success exact bqf); exact .b))) <;> intro _)
    all_goals first
      | (exfalso; omega)
      | skip
    refine .call _ rfl rfl rfl cs ?_
    rintro r τ ⟨rfl, rfl⟩
    repeat' first | (apply Go.adm; exact rfl) | apply Go.qs | apply Qg.nil | ((first | apply Go.v2 | apply Go.v1); (first | exact leAdd | assumption); iterate 6 exact rfl) | ((first | apply Go.op | apply Go.sop | apply Qg.op); exact rfl; (first | exact aop_alloc | exact aop_new rfl rfl | exact aop_mksl rfl | exact aop_lenM rfl | exact rfl | exact aL rfl rfl rfl rfl rfl | exact aS rfl rfl rfl rfl rfl rfl rfl)) | ((first | apply Go.no | apply Go.sno | apply Qg.no); exact rfl) | (exfalso; omega) | (((first | apply Go.iQ | apply Go.gQ | apply Go.sQ | apply Qg.gQ); exact rfl; (first | exact .d | exact .e | exact .n | ((fail_if_success exact bqt); (fail_if_success exact bqf); exact .b))) <;> intro _)
    exact .fin rfl ⟨rfl, by rw [hr]⟩
  · rw [if_neg hij] at hr
    by_cases hlt : j < i
    · rw [if_pos hlt] at hr
      have cs := swapRange_ok hm hc' F q (m - i) m j c (IntKind.i64.wrap (zm - zi)) zm zj e3 hzm hzj f (by omega) (by omega) (by omega)
      rw [hql] at cs
      have e4 : IntKind.i64.wrap (zi - zj) = ((i - j : Nat) : Int) := by rw [wrap64 (by omega) (by omega)]; omega
      repeat' first | (apply Go.adm; exact rfl) | apply Go.qs | apply Qg.nil | ((first | apply Go.v2 | apply Go.v1); (first | exact leAdd | assumption); iterate 6 exact rfl) | ((first | apply Go.op | apply Go.sop | apply Qg.op); exact rfl; (first | exact aop_alloc | exact aop_new rfl rfl | exact aop_mksl rfl | exact aop_lenM rfl | exact rfl | exact aL rfl rfl rfl rfl rfl | exact aS rfl rfl rfl rfl rfl rfl rfl)) | ((first | apply Go.no | apply Go.sno | apply Qg.no); exact rfl) | (exfalso; omega) | (((first | apply Go.iQ | apply Go.gQ | apply Go.sQ | apply Qg.gQ); exact rfl; (first | exact .d | exact .e | exact .n | ((fail_if_success exact bqt); (fail_if_success exact bqf); exact .b))) <;> intro _)
      refine .call _ rfl rfl rfl cs ?_
      rintro r τ ⟨rfl, rfl⟩
      repeat' first | (apply Go.adm; exact rfl) | apply Go.qs | apply Qg.nil | ((first | apply Go.v2 | apply Go.v1); (first | exact leAdd | assumption); iterate 6 exact rfl) | ((first | apply Go.op | apply Go.sop | apply Qg.op); exact rfl; (first | exact aop_alloc | exact aop_new rfl rfl | exact aop_mksl rfl | exact aop_lenM rfl | exact rfl | exact aL rfl rfl rfl rfl rfl | exact aS rfl rfl rfl rfl rfl rfl rfl)) | ((first | apply Go.no | apply Go.sno | apply Qg.no); exact rfl) | (exfalso; omega) | (((first | apply Go.iQ | apply Go.gQ | apply Go.sQ | apply Qg.gQ); exact rfl; (first | exact .d | exact .e | exact .n | ((fail_if_success exact bqt); (fail_if_success exact bqf); exact .b))) <;> intro _)
      exact Go.keep [0, 2, 4, 10, 11] (hrec _ _ _ (by omega) ⟨i - j, j, _, _, _, rfl, by omega, hj1, by omega, hj, e4, hzj, by rw [swR_len]; exact hql, ⟨k, by omega, hr⟩, rfl, rfl⟩)
    · rw [if_neg hlt] at hr
      have e5 : IntKind.i64.wrap (IntKind.i64.wrap (zm + zj) - zi) = ((m + j - i : Nat) : Int) := by rw [wrap64 (n := zm + zj) (by omega) (by omega), wrap64 (by omega) (by omega)]; omega
      have cs := swapRange_ok hm hc' F q (m - i) (m + j - i) i c (IntKind.i64.wrap (zm - zi)) (IntKind.i64.wrap (IntKind.i64.wrap (zm + zj) - zi)) zi e3 e5 hzi f (by omega) (by omega) (by omega)
      rw [hql] at cs
      have e4 : IntKind.i64.wrap (zj - zi) = ((j - i : Nat) : Int) := by rw [wrap64 (by omega) (by omega)]; omega
      repeat' first | (apply Go.adm; exact rfl) | apply Go.qs | apply Qg.nil | ((first | apply Go.v2 | apply Go.v1); (first | exact leAdd | assumption); iterate 6 exact rfl) | ((first | apply Go.op | apply Go.sop | apply Qg.op); exact rfl; (first | exact aop_alloc | exact aop_new rfl rfl | exact aop_mksl rfl | exact aop_lenM rfl | exact rfl | exact aL rfl rfl rfl rfl rfl | exact aS rfl rfl rfl rfl rfl rfl rfl)) | ((first | apply Go.no | apply Go.sno | apply Qg.no); exact rfl) | (exfalso; omega) | (((first | apply Go.iQ | apply Go.gQ | apply Go.sQ | apply Qg.gQ); exact rfl; (first | exact .d | exact .e | exact .n | ((fail_if_success exact bqt); (fail_if_success exact bqf); exact .b))) <;> intro _)
      refine .call _ rfl rfl rfl cs ?_
      rintro r τ ⟨rfl, rfl⟩
      repeat' first | (apply Go.adm; exact rfl) | apply Go.qs | apply Qg.nil | ((first | apply Go.v2 | apply Go.v1); (first | exact leAdd | assumption); iterate 6 exact rfl) | ((first | apply Go.op | apply Go.sop | apply Qg.op); exact rfl; (first | exact aop_alloc | exact aop_new rfl rfl | exact aop_mksl rfl | exact aop_lenM rfl | exact rfl | exact aL rfl rfl rfl rfl rfl | exact aS rfl rfl rfl rfl rfl rfl rfl)) | ((first | apply Go.no | apply Go.sno | apply Qg.no); exact rfl) | (exfalso; omega) | (((first | apply Go.iQ | apply Go.gQ | apply Go.sQ | apply Qg.gQ); exact rfl; (first | exact .d | exact .e | exact .n | ((fail_if_success exact bqt); (fail_if_success exact bqf); exact .b))) <;> intro _)
      exact Go.keep [0, 2, 4, 10, 11] (hrec _ _ _ (by omega) ⟨i, j - i, _, _, _, rfl, hi1, by omega, hi, by omega, hzi, e4, by rw [swR_len]; exact hql, ⟨k, by omega, hr⟩, rfl, rfl⟩)
/-! ### Insertion -/
def ltA {α : Type} (c : α → α → Int) (l : List α) (i j : Nat) : Bool := match l[i]?, l[j]? with
  | some x, some y => decide (c x y < 0)
  | _, _ => false
theorem ltA_eq {α : Type} {c : α → α → Int} {l : List α} {i j : Nat} (hi : i < l.length) (hj : j < l.length) : ltA c l i j = decide (c l[i] l[j] < 0) := by
  rw [ltA, List.getElem?_eq_getElem hi, List.getElem?_eq_getElem hj]
def insIn {α : Type} (c : α → α → Int) (a : Nat) : Nat → List α → List α
  | 0, l => l
  | j + 1, l => if a < j + 1 ∧ ltA c l (j + 1) j = true then insIn c a j (sw l (j + 1) j) else l
def insOut {α : Type} (c : α → α → Int) (a : Nat) : Nat → Nat → List α → List α
  | 0, _, l => l
  | n + 1, i, l => insOut c a n (i + 1) (insIn c a i l)
theorem insIn_len {α : Type} {c : α → α → Int} {a : Nat} : ∀ {j : Nat} {l : List α}, (insIn c a j l).length = l.length
  | 0, l => rfl
  | j + 1, l => by
    rw [insIn]
    split
    · rw [insIn_len, sw_len]
    · rfl
theorem insIn_mem {α : Type} {c : α → α → Int} {a : Nat} {x : α} : ∀ {j : Nat} {l : List α}, x ∈ insIn c a j l → x ∈ l
  | 0, l, h => h
  | j + 1, l, h => by
    rw [insIn] at h
    split at h
    · exact sw_mem (insIn_mem h)
    · exact h
theorem insOut_len {α : Type} {c : α → α → Int} {a : Nat} : ∀ {n i : Nat} {l : List α}, (insOut c a n i l).length = l.length
  | 0, _, l => rfl
  | n + 1, i, l => by rw [insOut, insOut_len, insIn_len]
theorem insOut_mem {α : Type} {c : α → α → Int} {a : Nat} {x : α} : ∀ {n i : Nat} {l : List α}, x ∈ insOut c a n i l → x ∈ l
  | 0, _, l, h => h
  | n + 1, i, l, h => insIn_mem (insOut_mem (by rwa [insOut] at h))
def insF {α : Type} (c : α → α → Int) (a b : Nat) (l : List α) : List α := insOut c a (b - (a + 1)) (a + 1) l
/-- What the order's function does, while the elements are moved about. -/
def Cmps {α : Type} (P : Program) (F : Fam α) (D : α → Prop) (c : α → α → Int) (g : Nat) (pre cap : List Ce) : Prop :=
  ∀ (q : List α) (x y : α), D x → D y → Ok P g (pre.map .c ++ [.agg (F.ce x), .agg (F.ce y)] ++ cap.map .c) (F.S q) (fun r τ => r = .c (.int .i64 (c x y)) ∧ τ = F.S q)
theorem insertion_ok {P : Program} (hm : P.follows .mixedOrders = true) {fz : List Nat} {n : Nat} (hc : compFn P fz n = some c_slices_insertionSortCmpFunc_Entry) {α : Type} (F : Fam α) (D : α → Prop) (co : α → α → Int) (g : Nat) (pre cap : List Ce) (hcmp : Cmps P F D co g pre cap) (l : List α) (a b c : Nat) (za zb : Int) (ha : za = a) (hb : zb = b) (hD : ∀ x ∈ l, D x) (h3 : b ≤ l.length) (hab : a ≤ b) (hx : l.length ≤ 34359738368) :
    Ok P n [.c (.sl F.id F.v 0 l.length c), .c (.int .i64 za), .c (.int .i64 zb), .c (.fn g pre cap)] (F.S l) (fun r τ => r = .tup [] ∧ τ = F.S (insF co a b l)) := by
  refine .of_go hm hc (Nat.le_of_ble_eq_true rfl) ?_
  rw [insF]
  have e1 : IntKind.i64.wrap (za + 1) = ((a + 1 : Nat) : Int) := by rw [wrap64 (by omega) (by omega)]; omega
  repeat' first | (apply Go.adm; exact rfl) | apply Go.qs | apply Qg.nil | ((first | apply Go.v2 | apply Go.v1); (first | exact leAdd | assumption); iterate 6 exact rfl) | ((first | apply Go.op | apply Go.sop | apply Qg.op); exact rfl; (first | exact aop_alloc | exact aop_new rfl rfl | exact aop_mksl rfl | exact aop_lenM rfl | exact rfl | exact aL rfl rfl rfl rfl rfl | exact aS rfl rfl rfl rfl rfl rfl rfl)) | ((first | apply Go.no | apply Go.sno | apply Qg.no); exact rfl) | (exfalso; omega) | (((first | apply Go.iQ | apply Go.gQ | apply Go.sQ | apply Qg.gQ); exact rfl; (first | exact .d | exact .e | exact .n | ((fail_if_success exact bqt); (fail_if_success exact bqf); exact .b))) <;> intro _)
  refine Go.keep [0, 1, 2, 3, 8] (Go.loops (I := fun mm fr τ => ∃ (i : Nat) (z : Int) (q : List α), mm = b - i ∧ a + 1 ≤ i ∧ z = i ∧ q.length = l.length ∧ (∀ x ∈ q, D x) ∧ insOut co a (b - (a + 1)) (a + 1) l = insOut co a (b - i) i q ∧
    fr = [(0, .c (.sl F.id F.v 0 l.length c)), (1, .c (.int .i64 za)), (2, .c (.int .i64 zb)), (3, .c (.fn g pre cap)), (8, .c (.int .i64 z))] ∧ τ = F.S q) ?_ _ _ _ ⟨a + 1, _, l, rfl, Nat.le_refl _, e1, rfl, hD, rfl, rfl, rfl⟩)
  rintro mm fr τ ⟨i, z, q, rfl, hai, hz, hql, hqD, hr, rfl, rfl⟩ hrec
  by_cases hlt : i < b
  · rw [show b - i = (b - (i + 1)) + 1 by omega, insOut] at hr
    repeat' first | (apply Go.adm; exact rfl) | apply Go.qs | apply Qg.nil | ((first | apply Go.v2 | apply Go.v1); (first | exact leAdd | assumption); iterate 6 exact rfl) | ((first | apply Go.op | apply Go.sop | apply Qg.op); exact rfl; (first | exact aop_alloc | exact aop_new rfl rfl | exact aop_mksl rfl | exact aop_lenM rfl | exact rfl | exact aL rfl rfl rfl rfl rfl | exact aS rfl rfl rfl rfl rfl rfl rfl)) | ((first | apply Go.no | apply Go.sno | apply Qg.no); exact rfl) | (exfalso; omega) | (((first | apply Go.iQ | apply Go.gQ | apply Go.sQ | apply Qg.gQ); exact rfl; (first | exact .d | exact .e | exact .n | ((fail_if_success exact bqt); (fail_if_success exact bqf); exact .b))) <;> intro _)
    refine Go.keep [0, 1, 2, 3, 8, 9] (Go.loops (I := fun mm fr τ => ∃ (j : Nat) (zj : Int) (u : List α), mm = j ∧ j ≤ i ∧ a ≤ j ∧ zj = j ∧ u.length = l.length ∧ (∀ x ∈ u, D x) ∧ insIn co a i q = insIn co a j u ∧
      fr = [(0, .c (.sl F.id F.v 0 l.length c)), (1, .c (.int .i64 za)), (2, .c (.int .i64 zb)), (3, .c (.fn g pre cap)), (8, .c (.int .i64 z)), (9, .c (.int .i64 zj))] ∧ τ = F.S u) ?_ _ _ _ ⟨i, _, q, rfl, Nat.le_refl _, by omega, hz, hql, hqD, rfl, rfl, rfl⟩)
    rintro mm fr τ ⟨j, zj, u, hmm, hji, haj, hzj, hul, huD, hin, rfl, rfl⟩ hrecj
    have out : ∀ fr τ, fr = [(0, AV.c (.sl F.id F.v 0 l.length c)), (1, .c (.int .i64 za)), (2, .c (.int .i64 zb)), (3, .c (.fn g pre cap)), (8, .c (.int .i64 (IntKind.i64.wrap (z + 1))))] → τ = F.S (insIn co a i q) → _ := fun fr τ p1 p2 =>
      hrec (b - (i + 1)) fr τ (by omega) ⟨i + 1, _, insIn co a i q, rfl, by omega, wrap_succ hz (by omega), by rw [insIn_len]; exact hql, fun x hx => hqD x (insIn_mem hx), hr, p1, p2⟩
    clear hrec
    by_cases hj : a < j
    · obtain ⟨j, rfl⟩ : ∃ j', j = j' + 1 := ⟨j - 1, by omega⟩
      rw [insIn] at hin
      have hj1 : j + 1 < u.length := by omega
      have hj0 : j < u.length := by omega
      have e2 : IntKind.i64.wrap (zj - 1) = (j : Int) := by rw [wrap64 (by omega) (by omega)]; omega
      have cc := hcmp u u[j + 1] u[j] (huD _ (List.getElem_mem hj1)) (huD _ (List.getElem_mem hj0))
      rw [ltA_eq hj1 hj0] at hin
      repeat' first | (apply Go.adm; exact rfl) | apply Go.qs | apply Qg.nil | ((first | apply Go.v2 | apply Go.v1); (first | exact leAdd | assumption); iterate 6 exact rfl) | ((first | apply Go.op | apply Go.sop | apply Qg.op); exact rfl; (first | exact aop_alloc | exact aop_new rfl rfl | exact aop_mksl rfl | exact aop_lenM rfl | exact rfl | exact aL rfl rfl rfl rfl rfl | exact aS rfl rfl rfl rfl rfl rfl rfl | exact aop_si rfl rfl hzj hul.symm hj1 | exact aop_si rfl rfl e2 hul.symm hj0 | exact aop_sl rfl hj1 | exact aop_sl rfl hj0)) | ((first | apply Go.no | apply Go.sno | apply Qg.no); exact rfl) | (exfalso; omega) | (((first | apply Go.iQ | apply Go.gQ | apply Go.sQ | apply Qg.gQ); exact rfl; (first | exact .d | exact .e | exact .n | ((fail_if_success exact bqt); (fail_if_success exact bqf); exact .b))) <;> intro _)
      refine Go.scall _ rfl rfl rfl cc ?_
      rintro r τ ⟨rfl, rfl⟩
      generalize hco : co u[j + 1] u[j] = o at hin
      by_cases ho : o < 0
      · rw [if_pos ⟨hj, decide_eq_true ho⟩, sw_eq hj1 hj0] at hin
        repeat' first | (apply Go.adm; exact rfl) | apply Qg.nil | ((first | apply Go.v2 | apply Go.v1); (first | exact leAdd | assumption); iterate 6 exact rfl) | ((first | apply Go.op | apply Go.sop | apply Qg.op); exact rfl; (first | exact aop_alloc | exact aop_new rfl rfl | exact aop_mksl rfl | exact aop_lenM rfl | exact rfl | exact aL rfl rfl rfl rfl rfl | exact aS rfl rfl rfl rfl rfl rfl rfl)) | ((first | apply Go.no | apply Go.sno | apply Qg.no); exact rfl) | (exfalso; omega) | (((first | apply Go.iQ | apply Go.gQ | apply Go.sQ | apply Qg.gQ); exact rfl; (first | exact .d | exact .e | exact .n | ((fail_if_success exact bqt); (fail_if_success exact bqf); exact .b))) <;> intro _)
        all_goals first
          | (exfalso; omega)
          | skip
        refine Go.qw (fun F' τ => Go P (F.S l).next _ _ _ (.segs _ :: _) F' τ) ?_ fun _ _ h => h
        repeat' first | (apply Qw.op; exact rfl; exact fun _ => rfl) | (apply Qw.rd; exact rfl; exact rfl; first | exact aop_si rfl rfl hzj hul.symm hj1 | exact aop_si rfl rfl e2 hul.symm hj0 | exact aop_sl rfl hj1 | exact aop_sl rfl hj0) | (apply Qw.wr; exact rfl; exact rfl; exact aop_ss rfl rfl hj1) | apply Qw.nil
        repeat' first | (apply Go.adm; exact rfl) | apply Go.qs | apply Qg.nil | ((first | apply Go.v2 | apply Go.v1); (first | exact leAdd | assumption); iterate 6 exact rfl) | ((first | apply Go.op | apply Go.sop | apply Qg.op); exact rfl; (first | exact aop_alloc | exact aop_new rfl rfl | exact aop_mksl rfl | exact aop_lenM rfl | exact rfl | exact aL rfl rfl rfl rfl rfl | exact aS rfl rfl rfl rfl rfl rfl rfl | exact aop_si rfl rfl e2 (by rw [List.length_set]; exact hul.symm) (by rw [List.length_set]; exact hj0) | exact aop_ss rfl rfl (by rw [List.length_set]; exact hj0))) | ((first | apply Go.no | apply Go.sno | apply Qg.no); exact rfl) | (exfalso; omega) | (((first | apply Go.iQ | apply Go.gQ | apply Go.sQ | apply Qg.gQ); exact rfl; (first | exact .d | exact .e | exact .n | ((fail_if_success exact bqt); (fail_if_success exact bqf); exact .b))) <;> intro _)
        refine Go.keep [0, 1, 2, 3, 8, 9] (hrecj _ _ _ (by omega) ⟨j, _, _, rfl, by omega, by omega, e2, ?_, fun x hx => ?_, hin, rfl, rfl⟩)
        · simp [hul]
        · rw [← sw_eq hj1 hj0] at hx
          exact huD x (sw_mem hx)
      · rw [if_neg (by simp [ho])] at hin
        repeat' first | (apply Go.adm; exact rfl) | apply Go.qs | apply Qg.nil | ((first | apply Go.v2 | apply Go.v1); (first | exact leAdd | assumption); iterate 6 exact rfl) | ((first | apply Go.op | apply Go.sop | apply Qg.op); exact rfl; (first | exact aop_alloc | exact aop_new rfl rfl | exact aop_mksl rfl | exact aop_lenM rfl | exact rfl | exact aL rfl rfl rfl rfl rfl | exact aS rfl rfl rfl rfl rfl rfl rfl)) | ((first | apply Go.no | apply Go.sno | apply Qg.no); exact rfl) | (exfalso; omega) | (((first | apply Go.iQ | apply Go.gQ | apply Go.sQ | apply Qg.gQ); exact rfl; (first | exact .d | exact .e | exact .n | ((fail_if_success exact bqt); (fail_if_success exact bqf); exact .b))) <;> intro _)
        all_goals first
          | (exfalso; omega)
          | skip
        exact Go.keep [0, 1, 2, 3, 8] (out _ _ rfl (by rw [hin]))
    · have hja : insIn co a j u = u := by
        cases j with
        | zero => rfl
        | succ j => rw [insIn, if_neg (fun h => hj h.1)]
      rw [hja] at hin
      repeat' first | (apply Go.adm; exact rfl) | apply Go.qs | apply Qg.nil | ((first | apply Go.v2 | apply Go.v1); (first | exact leAdd | assumption); iterate 6 exact rfl) | ((first | apply Go.op | apply Go.sop | apply Qg.op); exact rfl; (first | exact aop_alloc | exact aop_new rfl rfl | exact aop_mksl rfl | exact aop_lenM rfl | exact rfl | exact aL rfl rfl rfl rfl rfl | exact aS rfl rfl rfl rfl rfl rfl rfl)) | ((first | apply Go.no | apply Go.sno | apply Qg.no); exact rfl) | (exfalso; omega) | (((first | apply Go.iQ | apply Go.gQ | apply Go.sQ | apply Qg.gQ); exact rfl; (first | exact .d | exact .e | exact .n | ((fail_if_success exact bqt); (fail_if_success exact bqf); exact .b))) <;> intro _)
      exact Go.keep [0, 1, 2, 3, 8] (out _ _ rfl (by rw [hin]))
  · repeat' first | (apply Go.adm; exact rfl) | apply Go.qs | apply Qg.nil | ((first | apply Go.v2 | apply Go.v1); (first | exact leAdd | assumption); iterate 6 exact rfl) | ((first | apply Go.op | apply Go.sop | apply Qg.op); exact rfl; (first | exact aop_alloc | exact aop_new rfl rfl | exact aop_mksl rfl | exact aop_lenM rfl | exact rfl | exact aL rfl rfl rfl rfl rfl | exact aS rfl rfl rfl rfl rfl rfl rfl)) | ((first | apply Go.no | apply Go.sno | apply Qg.no); exact rfl) | (exfalso; omega) | (((first | apply Go.iQ | apply Go.gQ | apply Go.sQ | apply Qg.gQ); exact rfl; (first | exact .d | exact .e | exact .n | ((fail_if_success exact bqt); (fail_if_success exact bqf); exact .b))) <;> intro _)
    rw [show b - i = 0 by omega, insOut] at hr
    exact .fin rfl ⟨rfl, by rw [hr]⟩
end Go.Proofs.Ytcfpdongfdhgjaa.Am

/- Sorting in place: merging. Plain part, and the three searches. -/
set_option linter.unusedVariables false
set_option linter.unusedSimpArgs false
namespace Go.Proofs.Ytcfpdongfdhgjaa.Am

def bs (p : Nat → Bool) : Nat → Nat → Nat → Nat
  | 0, i, _ => i
  | n + 1, i, j => if i < j then (if p ((i + j) / 2) then bs p n ((i + j) / 2 + 1) j else bs p n i ((i + j) / 2)) else i
theorem bs_in {p : Nat → Bool} : ∀ {n i j : Nat}, i ≤ j → i ≤ bs p n i j ∧ bs p n i j ≤ j
  | 0, i, j, h => ⟨Nat.le_refl _, h⟩
  | n + 1, i, j, h => by
    rw [bs]
    split
    · split
      · have := bs_in (p := p) (n := n) (i := (i + j) / 2 + 1) (j := j) (by omega)
        omega
      · have := bs_in (p := p) (n := n) (i := i) (j := (i + j) / 2) (by omega)
        omega
    · omega
theorem bs_end {p : Nat → Bool} {n i j : Nat} (h : ¬ i < j) : bs p n i j = i := by
  cases n with
  | zero => rfl
  | succ n => rw [bs, if_neg h]
theorem half_eq {z : Int} {k : Nat} (hz : z = (k : Int)) (hk : k ≤ 1099511627776) : IntKind.i64.wrap ((IntKind.u64.wrap z).fdiv (2 ^ (min (1 : Int).toNat IntKind.u64.bits))) = ((k / 2 : Nat) : Int) := by
  have h1 : IntKind.u64.wrap z = (k : Int) := by
    rw [hz]
    simp only [IntKind.wrap]
    simp [IntKind.bits, IntKind.signed]
    omega
  rw [h1]
  have h2 : ((2 : Int) ^ (min (1 : Int).toNat IntKind.u64.bits)) = 2 := rfl
  rw [h2, Int.fdiv_eq_ediv_of_nonneg _ (by decide), wrap64 (by omega) (by omega)]
  omega
def shU {α : Type} : Nat → Nat → List α → List α
  | 0, _, l => l
  | n + 1, k, l => shU n (k + 1) (sw l k (k + 1))
def shD {α : Type} : Nat → Nat → List α → List α
  | 0, _, l => l
  | n + 1, k, l => shD n (k - 1) (sw l k (k - 1))
theorem shU_len {α : Type} : ∀ {n k : Nat} {l : List α}, (shU n k l).length = l.length
  | 0, _, l => rfl
  | n + 1, k, l => by rw [shU, shU_len, sw_len]
theorem shD_len {α : Type} : ∀ {n k : Nat} {l : List α}, (shD n k l).length = l.length
  | 0, _, l => rfl
  | n + 1, k, l => by rw [shD, shD_len, sw_len]
theorem shU_mem {α : Type} {x : α} : ∀ {n k : Nat} {l : List α}, x ∈ shU n k l → x ∈ l
  | 0, _, l, h => h
  | n + 1, k, l, h => sw_mem (shU_mem (by rwa [shU] at h))
theorem shD_mem {α : Type} {x : α} : ∀ {n k : Nat} {l : List α}, x ∈ shD n k l → x ∈ l
  | 0, _, l, h => h
  | n + 1, k, l, h => sw_mem (shD_mem (by rwa [shD] at h))
def symStart {α : Type} (c : α → α → Int) (a m b : Nat) (l : List α) : Nat :=
  if (a + b) / 2 < m then bs (fun h => !ltA c l ((a + b) / 2 + m - 1 - h) h) (b - m) ((a + b) / 2 + m - b) ((a + b) / 2)
  else bs (fun h => !ltA c l ((a + b) / 2 + m - 1 - h) h) (m - a) a m
def sym {α : Type} (c : α → α → Int) : Nat → Nat → Nat → Nat → List α → List α
  | 0, _, _, _, l => l
  | n + 1, a, m, b, l =>
    if m - a = 1 then shU (bs (fun h => ltA c l h a) (b - m) m b - 1 - a) a l
    else if b - m = 1 then shD (m - bs (fun h => !ltA c l m h) (m - a) a m) m l
    else
      let s := symStart c a m b l
      let e := (a + b) / 2 + m - s
      let l1 := if s < m ∧ m < e then rotF s m e l else l
      let l2 := if a < s ∧ s < (a + b) / 2 then sym c n a s ((a + b) / 2) l1 else l1
      if (a + b) / 2 < e ∧ e < b then sym c n ((a + b) / 2) e b l2 else l2
theorem sym_len {α : Type} {c : α → α → Int} : ∀ {n a m b : Nat} {l : List α}, (sym c n a m b l).length = l.length
  | 0, _, _, _, l => rfl
  | n + 1, a, m, b, l => by
    rw [sym]
    split
    · exact shU_len
    · split
      · exact shD_len
      · simp only
        have h1 : ∀ q : List α, (if symStart c a m b l < m ∧ m < (a + b) / 2 + m - symStart c a m b l then rotF (symStart c a m b l) m ((a + b) / 2 + m - symStart c a m b l) l else l) = q → q.length = l.length := fun q h => by
          rw [← h]
          split
          · exact rot_len
          · rfl
        generalize (if symStart c a m b l < m ∧ m < (a + b) / 2 + m - symStart c a m b l then rotF (symStart c a m b l) m ((a + b) / 2 + m - symStart c a m b l) l else l) = q at h1 ⊢
        have h1 := h1 q rfl
        split <;> split <;> simp only [sym_len, h1]
theorem sym_mem {α : Type} {c : α → α → Int} {x : α} : ∀ {n a m b : Nat} {l : List α}, x ∈ sym c n a m b l → x ∈ l
  | 0, _, _, _, l, h => h
  | n + 1, a, m, b, l, h => by
    rw [sym] at h
    split at h
    · exact shU_mem h
    · split at h
      · exact shD_mem h
      · simp only at h
        have h1 : ∀ q : List α, (if symStart c a m b l < m ∧ m < (a + b) / 2 + m - symStart c a m b l then rotF (symStart c a m b l) m ((a + b) / 2 + m - symStart c a m b l) l else l) = q → x ∈ q → x ∈ l := fun q h => by
          rw [← h]
          split
          · exact rot_mem
          · exact id
        generalize (if symStart c a m b l < m ∧ m < (a + b) / 2 + m - symStart c a m b l then rotF (symStart c a m b l) m ((a + b) / 2 + m - symStart c a m b l) l else l) = q at h1 h
        have h1 := h1 q rfl
        split at h <;> split at h
        · exact h1 (sym_mem (sym_mem h))
        · exact h1 (sym_mem h)
        · exact h1 (sym_mem h)
        · exact h1 h
end Go.Proofs.Ytcfpdongfdhgjaa.Am

/- Sorting in place: merging, one element against many. -/
set_option linter.unusedVariables false
set_option linter.unusedSimpArgs false
namespace Go.Proofs.Ytcfpdongfdhgjaa.Am

theorem symA_ok {P : Program} (hm : P.follows .mixedOrders = true) {fz : List Nat} {n : Nat} (hc : compFn P fz n = some c_slices_symMergeCmpFunc_Entry) {α : Type} (F : Fam α) (D : α → Prop) (co : α → α → Int) (g : Nat) (pre cap : List Ce) (hcmp : Cmps P F D co g pre cap) (l : List α) (a m b c : Nat) (za zm zb : Int) (ha : za = a) (hzm : zm = m) (hb : zb = b) (hD : ∀ x ∈ l, D x) (h3 : b ≤ l.length) (hab : a < m) (hmb : m < b) (hx : l.length ≤ 34359738368) (h1 : m - a = 1) :
    Ok P n [.c (.sl F.id F.v 0 l.length c), .c (.int .i64 za), .c (.int .i64 zm), .c (.int .i64 zb), .c (.fn g pre cap)] (F.S l) (fun r τ => r = .tup [] ∧ τ = F.S (shU (bs (fun h => ltA co l h a) (b - m) m b - 1 - a) a l)) := by
  refine .of_go hm hc (Nat.le_of_ble_eq_true rfl) ?_
  have e1 : IntKind.i64.wrap (zm - za) = 1 := by rw [wrap64 (by omega) (by omega)]; omega
  have hal : a < l.length := by omega
  repeat' first | (apply Go.adm; exact rfl) | apply Go.qs | apply Qg.nil | ((first | apply Go.v2 | apply Go.v1); (first | exact leAdd | assumption); iterate 6 exact rfl) | ((first | apply Go.op | apply Go.sop | apply Qg.op); exact rfl; (first | exact aop_alloc | exact aop_new rfl rfl | exact aop_mksl rfl | exact aop_lenM rfl | exact rfl | exact aL rfl rfl rfl rfl rfl | exact aS rfl rfl rfl rfl rfl rfl rfl)) | ((first | apply Go.no | apply Go.sno | apply Qg.no); exact rfl) | (exfalso; omega) | (((first | apply Go.iQ | apply Go.gQ | apply Go.sQ | apply Qg.gQ); exact rfl; (first | exact .d | exact .e | exact .n | ((fail_if_success exact bqt); (fail_if_success exact bqf); exact .b))) <;> intro _)
  all_goals first
    | (exfalso; omega)
    | skip
  obtain ⟨p, hp⟩ : ∃ p : Nat → Bool, p = fun h => ltA co l h a := ⟨_, rfl⟩
  rw [← hp]
  refine Go.keep [0, 1, 2, 3, 4, 10, 11] (Go.loops (I := fun mm fr τ => ∃ (i j : Nat) (zi zj : Int), mm = j - i ∧ m ≤ i ∧ i ≤ j ∧ j ≤ b ∧ zi = i ∧ zj = j ∧ (∃ k, j - i ≤ k ∧ bs p (b - m) m b = bs p k i j) ∧
    fr = [(0, .c (.sl F.id F.v 0 l.length c)), (1, .c (.int .i64 za)), (2, .c (.int .i64 zm)), (3, .c (.int .i64 zb)), (4, .c (.fn g pre cap)), (10, .c (.int .i64 zi)), (11, .c (.int .i64 zj))] ∧ τ = F.S l) ?_ _ _ _ ⟨m, b, _, _, rfl, Nat.le_refl _, by omega, Nat.le_refl _, hzm, hb, ⟨b - m, Nat.le_refl _, rfl⟩, rfl, rfl⟩)
  rintro mm fr τ ⟨i, j, zi, zj, hmm, hmi, hij, hjb, hzi, hzj, ⟨k, hk, hbs⟩, rfl, rfl⟩ hrec
  by_cases hlt : i < j
  · obtain ⟨k, rfl⟩ : ∃ k', k = k' + 1 := ⟨k - 1, by omega⟩
    rw [bs, if_pos hlt] at hbs
    have es : IntKind.i64.wrap (zi + zj) = ((i + j : Nat) : Int) := by rw [wrap64 (by omega) (by omega)]; omega
    have eh := half_eq es (by omega)
    have hh : (i + j) / 2 < l.length := by omega
    have hpv : p ((i + j) / 2) = decide (co l[(i + j) / 2] l[a] < 0) := by rw [hp]; exact ltA_eq hh hal
    have cc := hcmp l l[(i + j) / 2] l[a] (hD _ (List.getElem_mem hh)) (hD _ (List.getElem_mem hal))
    rw [hpv] at hbs
    generalize co l[(i + j) / 2] l[a] = o at cc hbs
    repeat' first | (apply Go.adm; exact rfl) | apply Go.qs | apply Qg.nil | ((first | apply Go.v2 | apply Go.v1); (first | exact leAdd | assumption); iterate 6 exact rfl) | ((first | apply Go.op | apply Go.sop | apply Qg.op); exact rfl; (first | exact aop_alloc | exact aop_new rfl rfl | exact aop_mksl rfl | exact aop_lenM rfl | exact rfl | exact aL rfl rfl rfl rfl rfl | exact aS rfl rfl rfl rfl rfl rfl rfl | exact aop_si rfl rfl eh rfl hh | exact aop_si rfl rfl ha rfl hal | exact aop_sl rfl hh | exact aop_sl rfl hal)) | ((first | apply Go.no | apply Go.sno | apply Qg.no); exact rfl) | (exfalso; omega) | (((first | apply Go.iQ | apply Go.gQ | apply Go.sQ | apply Qg.gQ); exact rfl; (first | exact .d | exact .e | exact .n | ((fail_if_success exact bqt); (fail_if_success exact bqf); exact .b))) <;> intro _)
    refine Go.scall _ rfl rfl rfl cc ?_
    rintro r τ ⟨rfl, rfl⟩
    repeat' first | (apply Go.adm; exact rfl) | apply Go.qs | apply Qg.nil | ((first | apply Go.v2 | apply Go.v1); (first | exact leAdd | assumption); iterate 6 exact rfl) | ((first | apply Go.op | apply Go.sop | apply Qg.op); exact rfl; (first | exact aop_alloc | exact aop_new rfl rfl | exact aop_mksl rfl | exact aop_lenM rfl | exact rfl | exact aL rfl rfl rfl rfl rfl | exact aS rfl rfl rfl rfl rfl rfl rfl)) | ((first | apply Go.no | apply Go.sno | apply Qg.no); exact rfl) | (exfalso; omega) | (((first | apply Go.iQ | apply Go.gQ | apply Go.sQ | apply Qg.gQ); exact rfl; (first | exact .d | exact .e | exact .n | ((fail_if_success exact bqt); (fail_if_success exact bqf); exact .b))) <;> intro _)
    · rename_i ho
      rw [if_pos (decide_eq_true ho)] at hbs
      exact Go.keep [0, 1, 2, 3, 4, 10, 11] (hrec _ _ _ (by omega) ⟨(i + j) / 2 + 1, j, _, _, rfl, by omega, by omega, hjb, wrap_succ eh (by omega), hzj, ⟨k, by omega, hbs⟩, rfl, rfl⟩)
    · rename_i ho
      rw [if_neg (by simp [ho])] at hbs
      exact Go.keep [0, 1, 2, 3, 4, 10, 11] (hrec _ _ _ (by omega) ⟨i, (i + j) / 2, _, _, rfl, hmi, by omega, by omega, hzi, eh, ⟨k, by omega, hbs⟩, rfl, rfl⟩)
  · rw [bs_end hlt] at hbs
    rw [hbs]
    clear hrec hbs hp
    have e2 : IntKind.i64.wrap (zi - 1) = ((i - 1 : Nat) : Int) := by rw [wrap64 (by omega) (by omega)]; omega
    repeat' first | (apply Go.adm; exact rfl) | apply Go.qs | apply Qg.nil | ((first | apply Go.v2 | apply Go.v1); (first | exact leAdd | assumption); iterate 6 exact rfl) | ((first | apply Go.op | apply Go.sop | apply Qg.op); exact rfl; (first | exact aop_alloc | exact aop_new rfl rfl | exact aop_mksl rfl | exact aop_lenM rfl | exact rfl | exact aL rfl rfl rfl rfl rfl | exact aS rfl rfl rfl rfl rfl rfl rfl)) | ((first | apply Go.no | apply Go.sno | apply Qg.no); exact rfl) | (exfalso; omega) | (((first | apply Go.iQ | apply Go.gQ | apply Go.sQ | apply Qg.gQ); exact rfl; (first | exact .d | exact .e | exact .n | ((fail_if_success exact bqt); (fail_if_success exact bqf); exact .b))) <;> intro _)
    refine Go.keep [0, 10, 13] (Go.loops (I := fun mm fr τ => ∃ (k : Nat) (z : Int) (q : List α), mm = i - k ∧ k ≤ i - 1 ∧ z = k ∧ q.length = l.length ∧ shU (i - 1 - a) a l = shU (i - 1 - k) k q ∧
      fr = [(0, .c (.sl F.id F.v 0 l.length c)), (10, .c (.int .i64 zi)), (13, .c (.int .i64 z))] ∧ τ = F.S q) ?_ _ _ _ ⟨a, _, l, rfl, by omega, ha, rfl, rfl, rfl, rfl⟩)
    rintro mm fr τ ⟨k, z, q, hmm, hki, hz, hql, hsh, rfl, rfl⟩ hrec
    by_cases hk : k < i - 1
    · have hk0 : k < q.length := by omega
      have hk1 : k + 1 < q.length := by omega
      have e3 : IntKind.i64.wrap (z + 1) = ((k + 1 : Nat) : Int) := wrap_succ hz (by omega)
      rw [show i - 1 - k = (i - 1 - (k + 1)) + 1 by omega, shU, sw_eq hk0 hk1] at hsh
      repeat' first | (apply Go.adm; exact rfl) | apply Qg.nil | ((first | apply Go.v2 | apply Go.v1); (first | exact leAdd | assumption); iterate 6 exact rfl) | ((first | apply Go.op | apply Go.sop | apply Qg.op); exact rfl; (first | exact aop_alloc | exact aop_new rfl rfl | exact aop_mksl rfl | exact aop_lenM rfl | exact rfl | exact aL rfl rfl rfl rfl rfl | exact aS rfl rfl rfl rfl rfl rfl rfl)) | ((first | apply Go.no | apply Go.sno | apply Qg.no); exact rfl) | (exfalso; omega) | (((first | apply Go.iQ | apply Go.gQ | apply Go.sQ | apply Qg.gQ); exact rfl; (first | exact .d | exact .e | exact .n | ((fail_if_success exact bqt); (fail_if_success exact bqf); exact .b))) <;> intro _)
      refine Go.qw (fun F' τ => Go P (F.S l).next _ _ _ (.segs _ :: _) F' τ) ?_ fun _ _ h => h
      repeat' first | (apply Qw.op; exact rfl; exact fun _ => rfl) | (apply Qw.rd; exact rfl; exact rfl; first | exact aop_si rfl rfl hz hql.symm hk0 | exact aop_si rfl rfl e3 hql.symm hk1 | exact aop_sl rfl hk0 | exact aop_sl rfl hk1) | (apply Qw.wr; exact rfl; exact rfl; exact aop_ss rfl rfl hk0) | apply Qw.nil
      repeat' first | (apply Go.adm; exact rfl) | apply Go.qs | apply Qg.nil | ((first | apply Go.v2 | apply Go.v1); (first | exact leAdd | assumption); iterate 6 exact rfl) | ((first | apply Go.op | apply Go.sop | apply Qg.op); exact rfl; (first | exact aop_alloc | exact aop_new rfl rfl | exact aop_mksl rfl | exact aop_lenM rfl | exact rfl | exact aL rfl rfl rfl rfl rfl | exact aS rfl rfl rfl rfl rfl rfl rfl | exact aop_si rfl rfl e3 (by rw [List.length_set]; exact hql.symm) (by rw [List.length_set]; exact hk1) | exact aop_ss rfl rfl (by rw [List.length_set]; exact hk1))) | ((first | apply Go.no | apply Go.sno | apply Qg.no); exact rfl) | (exfalso; omega) | (((first | apply Go.iQ | apply Go.gQ | apply Go.sQ | apply Qg.gQ); exact rfl; (first | exact .d | exact .e | exact .n | ((fail_if_success exact bqt); (fail_if_success exact bqf); exact .b))) <;> intro _)
      refine Go.keep [0, 10, 13] (hrec _ _ _ (by omega) ⟨k + 1, _, _, rfl, by omega, e3, ?_, hsh, rfl, rfl⟩)
      simp [hql]
    · repeat' first | (apply Go.adm; exact rfl) | apply Go.qs | apply Qg.nil | ((first | apply Go.v2 | apply Go.v1); (first | exact leAdd | assumption); iterate 6 exact rfl) | ((first | apply Go.op | apply Go.sop | apply Qg.op); exact rfl; (first | exact aop_alloc | exact aop_new rfl rfl | exact aop_mksl rfl | exact aop_lenM rfl | exact rfl | exact aL rfl rfl rfl rfl rfl | exact aS rfl rfl rfl rfl rfl rfl rfl)) | ((first | apply Go.no | apply Go.sno | apply Qg.no); exact rfl) | (exfalso; omega) | (((first | apply Go.iQ | apply Go.gQ | apply Go.sQ | apply Qg.gQ); exact rfl; (first | exact .d | exact .e | exact .n | ((fail_if_success exact bqt); (fail_if_success exact bqf); exact .b))) <;> intro _)
      rw [show i - 1 - k = 0 by omega, shU] at hsh
      exact .ret rfl ⟨rfl, by rw [hsh]⟩
theorem symB_ok {P : Program} (hm : P.follows .mixedOrders = true) {fz : List Nat} {n : Nat} (hc : compFn P fz n = some c_slices_symMergeCmpFunc_Entry) {α : Type} (F : Fam α) (D : α → Prop) (co : α → α → Int) (g : Nat) (pre cap : List Ce) (hcmp : Cmps P F D co g pre cap) (l : List α) (a m b c : Nat) (za zm zb : Int) (ha : za = a) (hzm : zm = m) (hb : zb = b) (hD : ∀ x ∈ l, D x) (h3 : b ≤ l.length) (hab : a < m) (hmb : m < b) (hx : l.length ≤ 34359738368) (h1 : ¬ m - a = 1) (h2 : b - m = 1) :
    Ok P n [.c (.sl F.id F.v 0 l.length c), .c (.int .i64 za), .c (.int .i64 zm), .c (.int .i64 zb), .c (.fn g pre cap)] (F.S l) (fun r τ => r = .tup [] ∧ τ = F.S (shD (m - bs (fun h => !ltA co l m h) (m - a) a m) m l)) := by
  refine .of_go hm hc (Nat.le_of_ble_eq_true rfl) ?_
  have e1 : ¬ IntKind.i64.wrap (zm - za) = 1 := by rw [wrap64 (by omega) (by omega)]; omega
  have e2 : IntKind.i64.wrap (zb - zm) = 1 := by rw [wrap64 (by omega) (by omega)]; omega
  have hml : m < l.length := by omega
  repeat' first | (apply Go.adm; exact rfl) | apply Go.qs | apply Qg.nil | ((first | apply Go.v2 | apply Go.v1); (first | exact leAdd | assumption); iterate 6 exact rfl) | ((first | apply Go.op | apply Go.sop | apply Qg.op); exact rfl; (first | exact aop_alloc | exact aop_new rfl rfl | exact aop_mksl rfl | exact aop_lenM rfl | exact rfl | exact aL rfl rfl rfl rfl rfl | exact aS rfl rfl rfl rfl rfl rfl rfl)) | ((first | apply Go.no | apply Go.sno | apply Qg.no); exact rfl) | (exfalso; omega) | (((first | apply Go.iQ | apply Go.gQ | apply Go.sQ | apply Qg.gQ); exact rfl; (first | exact .d | exact .e | exact .n | ((fail_if_success exact bqt); (fail_if_success exact bqf); exact .b))) <;> intro _)
  all_goals first
    | (exfalso; omega)
    | skip
  obtain ⟨p, hp⟩ : ∃ p : Nat → Bool, p = fun h => !ltA co l m h := ⟨_, rfl⟩
  rw [← hp]
  refine Go.keep [0, 1, 2, 3, 4, 14, 15] (Go.loops (I := fun mm fr τ => ∃ (i j : Nat) (zi zj : Int), mm = j - i ∧ a ≤ i ∧ i ≤ j ∧ j ≤ m ∧ zi = i ∧ zj = j ∧ (∃ k, j - i ≤ k ∧ bs p (m - a) a m = bs p k i j) ∧
    fr = [(0, .c (.sl F.id F.v 0 l.length c)), (1, .c (.int .i64 za)), (2, .c (.int .i64 zm)), (3, .c (.int .i64 zb)), (4, .c (.fn g pre cap)), (14, .c (.int .i64 zi)), (15, .c (.int .i64 zj))] ∧ τ = F.S l) ?_ _ _ _ ⟨a, m, _, _, rfl, Nat.le_refl _, by omega, Nat.le_refl _, ha, hzm, ⟨m - a, Nat.le_refl _, rfl⟩, rfl, rfl⟩)
  rintro mm fr τ ⟨i, j, zi, zj, hmm, hmi, hij, hjb, hzi, hzj, ⟨k, hk, hbs⟩, rfl, rfl⟩ hrec
  by_cases hlt : i < j
  · obtain ⟨k, rfl⟩ : ∃ k', k = k' + 1 := ⟨k - 1, by omega⟩
    rw [bs, if_pos hlt] at hbs
    have es : IntKind.i64.wrap (zi + zj) = ((i + j : Nat) : Int) := by rw [wrap64 (by omega) (by omega)]; omega
    have eh := half_eq es (by omega)
    have hh : (i + j) / 2 < l.length := by omega
    have hpv : p ((i + j) / 2) = !decide (co l[m] l[(i + j) / 2] < 0) := by rw [hp]; exact congrArg _ (ltA_eq hml hh)
    have cc := hcmp l l[m] l[(i + j) / 2] (hD _ (List.getElem_mem hml)) (hD _ (List.getElem_mem hh))
    rw [hpv] at hbs
    generalize co l[m] l[(i + j) / 2] = o at cc hbs
    repeat' first | (apply Go.adm; exact rfl) | apply Go.qs | apply Qg.nil | ((first | apply Go.v2 | apply Go.v1); (first | exact leAdd | assumption); iterate 6 exact rfl) | ((first | apply Go.op | apply Go.sop | apply Qg.op); exact rfl; (first | exact aop_alloc | exact aop_new rfl rfl | exact aop_mksl rfl | exact aop_lenM rfl | exact rfl | exact aL rfl rfl rfl rfl rfl | exact aS rfl rfl rfl rfl rfl rfl rfl | exact aop_si rfl rfl eh rfl hh | exact aop_si rfl rfl hzm rfl hml | exact aop_sl rfl hh | exact aop_sl rfl hml)) | ((first | apply Go.no | apply Go.sno | apply Qg.no); exact rfl) | (exfalso; omega) | (((first | apply Go.iQ | apply Go.gQ | apply Go.sQ | apply Qg.gQ); exact rfl; (first | exact .d | exact .e | exact .n | ((fail_if_success exact bqt); (fail_if_success exact bqf); exact .b))) <;> intro _)
    refine Go.scall _ rfl rfl rfl cc ?_
    rintro r τ ⟨rfl, rfl⟩
    by_cases ho : o < 0
    · rw [if_neg (by simp [ho])] at hbs
      repeat' first | (apply Go.adm; exact rfl) | apply Go.qs | apply Qg.nil | ((first | apply Go.v2 | apply Go.v1); (first | exact leAdd | assumption); iterate 6 exact rfl) | ((first | apply Go.op | apply Go.sop | apply Qg.op); exact rfl; (first | exact aop_alloc | exact aop_new rfl rfl | exact aop_mksl rfl | exact aop_lenM rfl | exact rfl | exact aL rfl rfl rfl rfl rfl | exact aS rfl rfl rfl rfl rfl rfl rfl)) | ((first | apply Go.no | apply Go.sno | apply Qg.no); exact rfl) | (exfalso; omega) | (((first | apply Go.iQ | apply Go.gQ | apply Go.sQ | apply Qg.gQ); exact rfl; (first | exact .d | exact .e | exact .n | ((fail_if_success exact bqt); (fail_if_success exact bqf); exact .b))) <;> intro _)
      all_goals first
        | exact Go.keep [0, 1, 2, 3, 4, 14, 15] (hrec _ _ _ (by omega) ⟨i, (i + j) / 2, _, _, rfl, hmi, by omega, by omega, hzi, eh, ⟨k, by omega, hbs⟩, rfl, rfl⟩)
        | (exfalso; simp_all; done)
        | (exfalso; simp_all; omega)
    · rw [if_pos (by simp [ho])] at hbs
      repeat' first | (apply Go.adm; exact rfl) | apply Go.qs | apply Qg.nil | ((first | apply Go.v2 | apply Go.v1); (first | exact leAdd | assumption); iterate 6 exact rfl) | ((first | apply Go.op | apply Go.sop | apply Qg.op); exact rfl; (first | exact aop_alloc | exact aop_new rfl rfl | exact aop_mksl rfl | exact aop_lenM rfl | exact rfl | exact aL rfl rfl rfl rfl rfl | exact aS rfl rfl rfl rfl rfl rfl rfl)) | ((first | apply Go.no | apply Go.sno | apply Qg.no); exact rfl) | (exfalso; omega) | (((first | apply Go.iQ | apply Go.gQ | apply Go.sQ | apply Qg.gQ); exact rfl; (first | exact .d | exact .e | exact .n | ((fail_if_success exact bqt); (fail_if_success exact bqf); exact .b))) <;> intro _)
      all_goals first
        | exact Go.keep [0, 1, 2, 3, 4, 14, 15] (hrec _ _ _ (by omega) ⟨(i + j) / 2 + 1, j, _, _, rfl, by omega, by omega, hjb, wrap_succ eh (by omega), hzj, ⟨k, by omega, hbs⟩, rfl, rfl⟩)
        | (exfalso; simp_all; done)
        | (exfalso; simp_all; omega)
  · rw [bs_end hlt] at hbs
    rw [hbs]
    clear hrec hbs hp
    repeat' first | (apply Go.adm; exact rfl) | apply Go.qs | apply Qg.nil | ((first | apply Go.v2 | apply Go.v1); (first | exact leAdd | assumption); iterate 6 exact rfl) | ((first | apply Go.op | apply Go.sop | apply Qg.op); exact rfl; (first | exact aop_alloc | exact aop_new rfl rfl | exact aop_mksl rfl | exact aop_lenM rfl | exact rfl | exact aL rfl rfl rfl rfl rfl | exact aS rfl rfl rfl rfl rfl rfl rfl)) | ((first | apply Go.no | apply Go.sno | apply Qg.no); exact rfl) | (exfalso; omega) | (((first | apply Go.iQ | apply Go.gQ | apply Go.sQ | apply Qg.gQ); exact rfl; (first | exact .d | exact .e | exact .n | ((fail_if_success exact bqt); (fail_if_success exact bqf); exact .b))) <;> intro _)
    refine Go.keep [0, 14, 17] (Go.loops (I := fun mm fr τ => ∃ (k : Nat) (z : Int) (q : List α), mm = k - i ∧ i ≤ k ∧ k ≤ m ∧ z = k ∧ q.length = l.length ∧ shD (m - i) m l = shD (k - i) k q ∧
      fr = [(0, .c (.sl F.id F.v 0 l.length c)), (14, .c (.int .i64 zi)), (17, .c (.int .i64 z))] ∧ τ = F.S q) ?_ _ _ _ ⟨m, _, l, rfl, by omega, Nat.le_refl _, hzm, rfl, rfl, rfl, rfl⟩)
    rintro mm fr τ ⟨k, z, q, hmm, hki, hkm, hz, hql, hsh, rfl, rfl⟩ hrec
    by_cases hk : i < k
    · have hk0 : k < q.length := by omega
      have hk1 : k - 1 < q.length := by omega
      have e3 : IntKind.i64.wrap (z - 1) = ((k - 1 : Nat) : Int) := by rw [wrap64 (by omega) (by omega)]; omega
      rw [show k - i = (k - 1 - i) + 1 by omega, shD, sw_eq hk0 hk1] at hsh
      repeat' first | (apply Go.adm; exact rfl) | apply Qg.nil | ((first | apply Go.v2 | apply Go.v1); (first | exact leAdd | assumption); iterate 6 exact rfl) | ((first | apply Go.op | apply Go.sop | apply Qg.op); exact rfl; (first | exact aop_alloc | exact aop_new rfl rfl | exact aop_mksl rfl | exact aop_lenM rfl | exact rfl | exact aL rfl rfl rfl rfl rfl | exact aS rfl rfl rfl rfl rfl rfl rfl)) | ((first | apply Go.no | apply Go.sno | apply Qg.no); exact rfl) | (exfalso; omega) | (((first | apply Go.iQ | apply Go.gQ | apply Go.sQ | apply Qg.gQ); exact rfl; (first | exact .d | exact .e | exact .n | ((fail_if_success exact bqt); (fail_if_success exact bqf); exact .b))) <;> intro _)
      refine Go.qw (fun F' τ => Go P (F.S l).next _ _ _ (.segs _ :: _) F' τ) ?_ fun _ _ h => h
      repeat' first | (apply Qw.op; exact rfl; exact fun _ => rfl) | (apply Qw.rd; exact rfl; exact rfl; first | exact aop_si rfl rfl hz hql.symm hk0 | exact aop_si rfl rfl e3 hql.symm hk1 | exact aop_sl rfl hk0 | exact aop_sl rfl hk1) | (apply Qw.wr; exact rfl; exact rfl; exact aop_ss rfl rfl hk0) | apply Qw.nil
      repeat' first | (apply Go.adm; exact rfl) | apply Go.qs | apply Qg.nil | ((first | apply Go.v2 | apply Go.v1); (first | exact leAdd | assumption); iterate 6 exact rfl) | ((first | apply Go.op | apply Go.sop | apply Qg.op); exact rfl; (first | exact aop_alloc | exact aop_new rfl rfl | exact aop_mksl rfl | exact aop_lenM rfl | exact rfl | exact aL rfl rfl rfl rfl rfl | exact aS rfl rfl rfl rfl rfl rfl rfl | exact aop_si rfl rfl e3 (by rw [List.length_set]; exact hql.symm) (by rw [List.length_set]; exact hk1) | exact aop_ss rfl rfl (by rw [List.length_set]; exact hk1))) | ((first | apply Go.no | apply Go.sno | apply Qg.no); exact rfl) | (exfalso; omega) | (((first | apply Go.iQ | apply Go.gQ | apply Go.sQ | apply Qg.gQ); exact rfl; (first | exact .d | exact .e | exact .n | ((fail_if_success exact bqt); (fail_if_success exact bqf); exact .b))) <;> intro _)
      refine Go.keep [0, 14, 17] (hrec _ _ _ (by omega) ⟨k - 1, _, _, rfl, by omega, by omega, e3, ?_, hsh, rfl, rfl⟩)
      simp [hql]
    · repeat' first | (apply Go.adm; exact rfl) | apply Go.qs | apply Qg.nil | ((first | apply Go.v2 | apply Go.v1); (first | exact leAdd | assumption); iterate 6 exact rfl) | ((first | apply Go.op | apply Go.sop | apply Qg.op); exact rfl; (first | exact aop_alloc | exact aop_new rfl rfl | exact aop_mksl rfl | exact aop_lenM rfl | exact rfl | exact aL rfl rfl rfl rfl rfl | exact aS rfl rfl rfl rfl rfl rfl rfl)) | ((first | apply Go.no | apply Go.sno | apply Qg.no); exact rfl) | (exfalso; omega) | (((first | apply Go.iQ | apply Go.gQ | apply Go.sQ | apply Qg.gQ); exact rfl; (first | exact .d | exact .e | exact .n | ((fail_if_success exact bqt); (fail_if_success exact bqf); exact .b))) <;> intro _)
      rw [show k - i = 0 by omega, shD] at hsh
      exact .ret rfl ⟨rfl, by rw [hsh]⟩
end Go.Proofs.Ytcfpdongfdhgjaa.Am

/- Sorting in place: merging, many against many; the whole sort. -/
set_option linter.unusedVariables false
set_option linter.unusedSimpArgs false
namespace Go.Proofs.Ytcfpdongfdhgjaa.Am

set_option maxHeartbeats 4000000 in
theorem symC_ok {P : Program} (hm : P.follows .mixedOrders = true) {fz fz' fz'' : List Nat} (hc : compFn P fz 47 = some c_slices_symMergeCmpFunc_Entry) (hc' : compFn P fz' 50 = some c_slices_rotateCmpFunc_Entry) (hc'' : compFn P fz'' 52 = some c_slices_swapRangeCmpFunc_Entry)
    {α : Type} (F : Fam α) (D : α → Prop) (co : α → α → Int) (g : Nat) (pre cap : List Ce) (hcmp : Cmps P F D co g pre cap) (N c d : Nat)
    (ih : ∀ (l : List α) (a m b : Nat) (za zm zb : Int), l.length = N → za = a → zm = m → zb = b → (∀ x ∈ l, D x) → b ≤ l.length → a < m → m < b → b - a ≤ d → Ok P 47 [.c (.sl F.id F.v 0 N c), .c (.int .i64 za), .c (.int .i64 zm), .c (.int .i64 zb), .c (.fn g pre cap)] (F.S l) (fun r τ => r = .tup [] ∧ τ = F.S (sym co d a m b l)))
    (l : List α) (a m b : Nat) (za zm zb : Int) (hN : l.length = N) (ha : za = a) (hzm : zm = m) (hb : zb = b) (hD : ∀ x ∈ l, D x) (h3 : b ≤ l.length) (hab : a < m) (hmb : m < b) (hd : b - a ≤ d + 1) (hx : l.length ≤ 34359738368) (h1 : ¬ m - a = 1) (h2 : ¬ b - m = 1) :
    Ok P 47 [.c (.sl F.id F.v 0 N c), .c (.int .i64 za), .c (.int .i64 zm), .c (.int .i64 zb), .c (.fn g pre cap)] (F.S l) (fun r τ => r = .tup [] ∧ τ = F.S (sym co (d + 1) a m b l)) := by
  refine .of_go hm hc (Nat.le_of_ble_eq_true rfl) ?_
  rw [sym, if_neg h1, if_neg h2]
  subst hN
  have e1 : ¬ IntKind.i64.wrap (zm - za) = 1 := by rw [wrap64 (by omega) (by omega)]; omega
  have e2 : ¬ IntKind.i64.wrap (zb - zm) = 1 := by rw [wrap64 (by omega) (by omega)]; omega
  have es : IntKind.i64.wrap (za + zb) = ((a + b : Nat) : Int) := by rw [wrap64 (by omega) (by omega)]; omega
  have emid := half_eq es (by omega)
  obtain ⟨zmid, hzmid⟩ : ∃ z, z = IntKind.i64.wrap ((IntKind.u64.wrap (IntKind.i64.wrap (za + zb))).fdiv (2 ^ (min (1 : Int).toNat IntKind.u64.bits))) := ⟨_, rfl⟩
  rw [← hzmid] at emid
  obtain ⟨mid, hmid⟩ : ∃ k, k = (a + b) / 2 := ⟨_, rfl⟩
  rw [← hmid] at emid
  have en : IntKind.i64.wrap (zmid + zm) = ((mid + m : Nat) : Int) := by rw [wrap64 (by omega) (by omega)]; omega
  have ep : IntKind.i64.wrap (IntKind.i64.wrap (zmid + zm) - 1) = ((mid + m - 1 : Nat) : Int) := by rw [en, wrap64 (by omega) (by omega)]; omega
  obtain ⟨p, hp⟩ : ∃ p : Nat → Bool, p = fun h => !ltA co l (mid + m - 1 - h) h := ⟨_, rfl⟩
  obtain ⟨s0, hs0⟩ : ∃ k, k = if mid < m then mid + m - b else a := ⟨_, rfl⟩
  obtain ⟨r0, hr0⟩ : ∃ k, k = if mid < m then mid else m := ⟨_, rfl⟩
  obtain ⟨f0, hf0⟩ : ∃ k, k = if mid < m then b - m else m - a := ⟨_, rfl⟩
  have hst : symStart co a m b l = bs p f0 s0 r0 := by
    rw [symStart, ← hmid, ← hp, hs0, hr0, hf0]
    split <;> rfl
  have hrange : s0 ≤ r0 ∧ r0 ≤ m ∧ r0 ≤ mid ∧ a ≤ s0 ∧ r0 - s0 ≤ f0 ∧ mid + m ≤ s0 + b := by
    rw [hs0, hr0, hf0]
    split <;> omega
  have hbi := bs_in (p := p) (n := f0) hrange.1
  have hes : IntKind.i64.wrap (IntKind.i64.wrap (zmid + zm) - zb) = ((mid + m - b : Nat) : Int) ∨ ¬ mid < m := by
    by_cases h : mid < m
    · left; rw [en, wrap64 (by omega) (by omega)]; omega
    · exact .inr h
  simp only [hst, ← hmid]
  rw [hzmid] at emid en ep hes
  by_cases hq : mid < m
  · have HS : IntKind.i64.wrap (IntKind.i64.wrap (IntKind.i64.wrap ((IntKind.u64.wrap (IntKind.i64.wrap (za + zb))).fdiv (2 ^ (min (1 : Int).toNat IntKind.u64.bits))) + zm) - zb) = (s0 : Int) := by
      rcases hes with h | h
      · rw [h, hs0, if_pos hq]
      · exact absurd hq h
    have HR : IntKind.i64.wrap ((IntKind.u64.wrap (IntKind.i64.wrap (za + zb))).fdiv (2 ^ (min (1 : Int).toNat IntKind.u64.bits))) = (r0 : Int) := by rw [emid, hr0, if_pos hq]
    have hlq : zm > IntKind.i64.wrap ((IntKind.u64.wrap (IntKind.i64.wrap (za + zb))).fdiv (2 ^ (min (1 : Int).toNat IntKind.u64.bits))) := by rw [emid]; omega
    repeat' first | (apply Go.adm; exact rfl) | apply Go.qs | apply Qg.nil | ((first | apply Go.v2 | apply Go.v1); (first | exact leAdd | assumption); iterate 6 exact rfl) | ((first | apply Go.op | apply Go.sop | apply Qg.op); exact rfl; (first | exact aop_alloc | exact aop_new rfl rfl | exact aop_mksl rfl | exact aop_lenM rfl | exact rfl | exact aL rfl rfl rfl rfl rfl | exact aS rfl rfl rfl rfl rfl rfl rfl)) | ((first | apply Go.no | apply Go.sno | apply Qg.no); exact rfl) | (exfalso; omega) | (((first | apply Go.iQ | apply Go.gQ | apply Go.sQ | apply Qg.gQ); exact rfl; (first | exact .d | exact .e | exact .n | ((fail_if_success exact bqt); (fail_if_success exact bqf); exact .b))) <;> intro _)
    all_goals first
      | contradiction
      | skip
    refine Go.keep [0, 1, 2, 3, 4, 18, 19, 20, 21, 22] (Go.loops (I := fun mm fr τ => ∃ (i j : Nat) (zi zj zd zn zp : Int), mm = j - i ∧ s0 ≤ i ∧ i ≤ j ∧ j ≤ r0 ∧ zi = i ∧ zj = j ∧ zd = (mid : Nat) ∧ zn = ((mid + m : Nat) : Int) ∧ zp = ((mid + m - 1 : Nat) : Int) ∧ (∃ k, j - i ≤ k ∧ bs p f0 s0 r0 = bs p k i j) ∧
      fr = [(0, .c (.sl F.id F.v 0 l.length c)), (1, .c (.int .i64 za)), (2, .c (.int .i64 zm)), (3, .c (.int .i64 zb)), (4, .c (.fn g pre cap)), (18, .c (.int .i64 zd)), (19, .c (.int .i64 zn)), (20, .c (.int .i64 zi)), (21, .c (.int .i64 zj)), (22, .c (.int .i64 zp))] ∧ τ = F.S l) ?_ _ _ _ ⟨s0, r0, _, _, _, _, _, rfl, Nat.le_refl _, hrange.1, Nat.le_refl _, HS, HR, emid, en, ep, ⟨f0, hrange.2.2.2.2.1, rfl⟩, rfl, rfl⟩)
    clear emid en ep hes es hzmid
    clear zmid
    rintro mm fr τ ⟨i, j, zi, zj, zd, zn, zp, hmm, hsi, hij, hjr, hzi, hzj, hzd, hzn, hzp, ⟨k, hk, hbs⟩, rfl, rfl⟩ hrec
    by_cases hlt : i < j
    · obtain ⟨k, rfl⟩ : ∃ k', k = k' + 1 := ⟨k - 1, by omega⟩
      rw [bs, if_pos hlt] at hbs
      have es : IntKind.i64.wrap (zi + zj) = ((i + j : Nat) : Int) := by rw [wrap64 (by omega) (by omega)]; omega
      have eh := half_eq es (by omega)
      obtain ⟨h, hh0⟩ : ∃ h, h = (i + j) / 2 := ⟨_, rfl⟩
      rw [← hh0] at eh hbs
      have hh : h < l.length := by omega
      have hph : mid + m - 1 - h < l.length := by omega
      have ev : ∀ z : Int, z = (h : Int) → IntKind.i64.wrap (zp - z) = ((mid + m - 1 - h : Nat) : Int) := fun z hz => by rw [wrap64 (by omega) (by omega)]; omega
      have epc := ev _ eh
      have hpv : p h = !decide (co l[mid + m - 1 - h] l[h] < 0) := by rw [hp]; exact congrArg _ (ltA_eq hph hh)
      have cc := hcmp l l[mid + m - 1 - h] l[h] (hD _ (List.getElem_mem hph)) (hD _ (List.getElem_mem hh))
      rw [hpv] at hbs
      generalize co l[mid + m - 1 - h] l[h] = o at cc hbs
      repeat' first | (apply Go.adm; exact rfl) | apply Go.qs | apply Qg.nil | ((first | apply Go.v2 | apply Go.v1); (first | exact leAdd | assumption); iterate 6 exact rfl) | ((first | apply Go.op | apply Go.sop | apply Qg.op); exact rfl; (first | exact aop_alloc | exact aop_new rfl rfl | exact aop_mksl rfl | exact aop_lenM rfl | exact rfl | exact aL rfl rfl rfl rfl rfl | exact aS rfl rfl rfl rfl rfl rfl rfl | exact aop_si rfl rfl eh rfl hh | exact aop_si rfl rfl epc rfl hph | exact aop_sl rfl hh | exact aop_sl rfl hph)) | ((first | apply Go.no | apply Go.sno | apply Qg.no); exact rfl) | (exfalso; omega) | (((first | apply Go.iQ | apply Go.gQ | apply Go.sQ | apply Qg.gQ); exact rfl; (first | exact .d | exact .e | exact .n | ((fail_if_success exact bqt); (fail_if_success exact bqf); exact .b))) <;> intro _)
      refine Go.scall _ rfl rfl rfl cc ?_
      rintro r τ ⟨rfl, rfl⟩
      have up : bs p f0 s0 r0 = bs p k (h + 1) j → ∀ fr τ, fr = [(0, AV.c (.sl F.id F.v 0 l.length c)), (1, .c (.int .i64 za)), (2, .c (.int .i64 zm)), (3, .c (.int .i64 zb)), (4, .c (.fn g pre cap)), (18, .c (.int .i64 zd)), (19, .c (.int .i64 zn)), (20, .c (.int .i64 (IntKind.i64.wrap (IntKind.i64.wrap ((IntKind.u64.wrap (IntKind.i64.wrap (zi + zj))).fdiv (2 ^ (min (1 : Int).toNat IntKind.u64.bits))) + 1)))), (21, .c (.int .i64 zj)), (22, .c (.int .i64 zp))] → τ = F.S l → _ := fun e fr τ p1 p2 => hrec (j - (h + 1)) fr τ (by omega) ⟨h + 1, j, _, _, _, _, _, rfl, by omega, by omega, hjr, wrap_succ eh (by omega), hzj, hzd, hzn, hzp, ⟨k, by omega, e⟩, p1, p2⟩
      have dn : bs p f0 s0 r0 = bs p k i h → ∀ fr τ, fr = [(0, AV.c (.sl F.id F.v 0 l.length c)), (1, .c (.int .i64 za)), (2, .c (.int .i64 zm)), (3, .c (.int .i64 zb)), (4, .c (.fn g pre cap)), (18, .c (.int .i64 zd)), (19, .c (.int .i64 zn)), (20, .c (.int .i64 zi)), (21, .c (.int .i64 (IntKind.i64.wrap ((IntKind.u64.wrap (IntKind.i64.wrap (zi + zj))).fdiv (2 ^ (min (1 : Int).toNat IntKind.u64.bits)))))), (22, .c (.int .i64 zp))] → τ = F.S l → _ := fun e fr τ p1 p2 => hrec (h - i) fr τ (by omega) ⟨i, h, _, _, _, _, _, rfl, hsi, by omega, by omega, hzi, eh, hzd, hzn, hzp, ⟨k, by omega, e⟩, p1, p2⟩
      clear hrec eh epc ev
      by_cases ho : o < 0
      · rw [if_neg (by simp [ho])] at hbs
        repeat' first | (apply Go.adm; exact rfl) | apply Go.qs | apply Qg.nil | ((first | apply Go.v2 | apply Go.v1); (first | exact leAdd | assumption); iterate 6 exact rfl) | ((first | apply Go.op | apply Go.sop | apply Qg.op); exact rfl; (first | exact aop_alloc | exact aop_new rfl rfl | exact aop_mksl rfl | exact aop_lenM rfl | exact rfl | exact aL rfl rfl rfl rfl rfl | exact aS rfl rfl rfl rfl rfl rfl rfl)) | ((first | apply Go.no | apply Go.sno | apply Qg.no); exact rfl) | (exfalso; omega) | (((first | apply Go.iQ | apply Go.gQ | apply Go.sQ | apply Qg.gQ); exact rfl; (first | exact .d | exact .e | exact .n | ((fail_if_success exact bqt); (fail_if_success exact bqf); exact .b))) <;> intro _)
        all_goals first
          | exact Go.keep [0, 1, 2, 3, 4, 18, 19, 20, 21, 22] (dn hbs _ _ rfl rfl)
          | (exfalso; simp_all; done)
          | (exfalso; simp_all; omega)
      · rw [if_pos (by simp [ho])] at hbs
        repeat' first | (apply Go.adm; exact rfl) | apply Go.qs | apply Qg.nil | ((first | apply Go.v2 | apply Go.v1); (first | exact leAdd | assumption); iterate 6 exact rfl) | ((first | apply Go.op | apply Go.sop | apply Qg.op); exact rfl; (first | exact aop_alloc | exact aop_new rfl rfl | exact aop_mksl rfl | exact aop_lenM rfl | exact rfl | exact aL rfl rfl rfl rfl rfl | exact aS rfl rfl rfl rfl rfl rfl rfl)) | ((first | apply Go.no | apply Go.sno | apply Qg.no); exact rfl) | (exfalso; omega) | (((first | apply Go.iQ | apply Go.gQ | apply Go.sQ | apply Qg.gQ); exact rfl; (first | exact .d | exact .e | exact .n | ((fail_if_success exact bqt); (fail_if_success exact bqf); exact .b))) <;> intro _)
        all_goals first
          | exact Go.keep [0, 1, 2, 3, 4, 18, 19, 20, 21, 22] (up hbs _ _ rfl rfl)
          | (exfalso; simp_all; done)
          | (exfalso; simp_all; omega)
    · rw [bs_end hlt] at hbs
      rw [hbs] at hbi ⊢
      clear hrec hbs hp hk hst hcmp
      obtain ⟨s, hs⟩ : ∃ s, s = i := ⟨_, rfl⟩
      rw [← hs] at hbi hzi ⊢
      obtain ⟨e, he⟩ : ∃ e, e = mid + m - s := ⟨_, rfl⟩
      rw [← he]
      have eend : IntKind.i64.wrap (zn - zi) = (e : Int) := by rw [wrap64 (by omega) (by omega)]; omega
      by_cases q1 : s < m ∧ m < e
      · rw [if_pos q1]
        have len1 : (rotF s m e l).length = l.length := rot_len
        have D1 : ∀ x ∈ rotF s m e l, D x := fun x hx => hD x (rot_mem hx)
        have cr := rotate_ok hm hc' hc'' F l s m e c zi zm (IntKind.i64.wrap (zn - zi)) hzi hzm eend (.fn g pre cap) q1.1 q1.2 (by omega) hx
        repeat' first | (apply Go.adm; exact rfl) | apply Go.qs | apply Qg.nil | ((first | apply Go.v2 | apply Go.v1); (first | exact leAdd | assumption); iterate 6 exact rfl) | ((first | apply Go.op | apply Go.sop | apply Qg.op); exact rfl; (first | exact aop_alloc | exact aop_new rfl rfl | exact aop_mksl rfl | exact aop_lenM rfl | exact rfl | exact aL rfl rfl rfl rfl rfl | exact aS rfl rfl rfl rfl rfl rfl rfl)) | ((first | apply Go.no | apply Go.sno | apply Qg.no); exact rfl) | (exfalso; omega) | (((first | apply Go.iQ | apply Go.gQ | apply Go.sQ | apply Qg.gQ); exact rfl; (first | exact .d | exact .e | exact .n | ((fail_if_success exact bqt); (fail_if_success exact bqf); exact .b))) <;> intro _)
        all_goals first
          | (exfalso; omega)
          | skip
        refine .call _ rfl rfl rfl cr ?_
        rintro r τ ⟨rfl, rfl⟩
        generalize rotF s m e l = l1 at len1 D1 ⊢
        by_cases q2 : a < s ∧ s < mid
        · rw [if_pos q2]
          have c2 := ih l1 a s mid za zi zd len1 ha hzi hzd D1 (by omega) q2.1 q2.2 (by omega)
          have len2 : (sym co d a s mid l1).length = l.length := sym_len.trans len1
          have D2 : ∀ x ∈ sym co d a s mid l1, D x := fun x hx => D1 x (sym_mem hx)
          repeat' first | (apply Go.adm; exact rfl) | apply Go.qs | apply Qg.nil | ((first | apply Go.v2 | apply Go.v1); (first | exact leAdd | assumption); iterate 6 exact rfl) | ((first | apply Go.op | apply Go.sop | apply Qg.op); exact rfl; (first | exact aop_alloc | exact aop_new rfl rfl | exact aop_mksl rfl | exact aop_lenM rfl | exact rfl | exact aL rfl rfl rfl rfl rfl | exact aS rfl rfl rfl rfl rfl rfl rfl)) | ((first | apply Go.no | apply Go.sno | apply Qg.no); exact rfl) | (exfalso; omega) | (((first | apply Go.iQ | apply Go.gQ | apply Go.sQ | apply Qg.gQ); exact rfl; (first | exact .d | exact .e | exact .n | ((fail_if_success exact bqt); (fail_if_success exact bqf); exact .b))) <;> intro _)
          all_goals first
            | (exfalso; omega)
            | skip
          refine .call _ rfl rfl rfl c2 ?_
          rintro r τ ⟨rfl, rfl⟩
          generalize sym co d a s mid l1 = l2 at len2 D2 ⊢
          by_cases q3 : mid < e ∧ e < b
          · rw [if_pos q3]
            have c3 := ih l2 mid e b zd (IntKind.i64.wrap (zn - zi)) zb len2 hzd eend hb D2 (by omega) q3.1 q3.2 (by omega)
            repeat' first | (apply Go.adm; exact rfl) | apply Go.qs | apply Qg.nil | ((first | apply Go.v2 | apply Go.v1); (first | exact leAdd | assumption); iterate 6 exact rfl) | ((first | apply Go.op | apply Go.sop | apply Qg.op); exact rfl; (first | exact aop_alloc | exact aop_new rfl rfl | exact aop_mksl rfl | exact aop_lenM rfl | exact rfl | exact aL rfl rfl rfl rfl rfl | exact aS rfl rfl rfl rfl rfl rfl rfl)) | ((first | apply Go.no | apply Go.sno | apply Qg.no); exact rfl) | (exfalso; omega) | (((first | apply Go.iQ | apply Go.gQ | apply Go.sQ | apply Qg.gQ); exact rfl; (first | exact .d | exact .e | exact .n | ((fail_if_success exact bqt); (fail_if_success exact bqf); exact .b))) <;> intro _)
            all_goals first
              | (exfalso; omega)
              | skip
            refine .call _ rfl rfl rfl c3 ?_
            rintro r τ ⟨rfl, rfl⟩
            repeat' first | (apply Go.adm; exact rfl) | apply Go.qs | apply Qg.nil | ((first | apply Go.v2 | apply Go.v1); (first | exact leAdd | assumption); iterate 6 exact rfl) | ((first | apply Go.op | apply Go.sop | apply Qg.op); exact rfl; (first | exact aop_alloc | exact aop_new rfl rfl | exact aop_mksl rfl | exact aop_lenM rfl | exact rfl | exact aL rfl rfl rfl rfl rfl | exact aS rfl rfl rfl rfl rfl rfl rfl)) | ((first | apply Go.no | apply Go.sno | apply Qg.no); exact rfl) | (exfalso; omega) | (((first | apply Go.iQ | apply Go.gQ | apply Go.sQ | apply Qg.gQ); exact rfl; (first | exact .d | exact .e | exact .n | ((fail_if_success exact bqt); (fail_if_success exact bqf); exact .b))) <;> intro _)
            exact .fin rfl ⟨rfl, rfl⟩
          · rw [if_neg q3]
            repeat' first | (apply Go.adm; exact rfl) | apply Go.qs | apply Qg.nil | ((first | apply Go.v2 | apply Go.v1); (first | exact leAdd | assumption); iterate 6 exact rfl) | ((first | apply Go.op | apply Go.sop | apply Qg.op); exact rfl; (first | exact aop_alloc | exact aop_new rfl rfl | exact aop_mksl rfl | exact aop_lenM rfl | exact rfl | exact aL rfl rfl rfl rfl rfl | exact aS rfl rfl rfl rfl rfl rfl rfl)) | ((first | apply Go.no | apply Go.sno | apply Qg.no); exact rfl) | (exfalso; omega) | (((first | apply Go.iQ | apply Go.gQ | apply Go.sQ | apply Qg.gQ); exact rfl; (first | exact .d | exact .e | exact .n | ((fail_if_success exact bqt); (fail_if_success exact bqf); exact .b))) <;> intro _)
            all_goals first
              | (exfalso; omega)
              | exact .fin rfl ⟨rfl, rfl⟩
        · rw [if_neg q2]
          by_cases q3 : mid < e ∧ e < b
          · rw [if_pos q3]
            exfalso
            omega
          · rw [if_neg q3]
            repeat' first | (apply Go.adm; exact rfl) | apply Go.qs | apply Qg.nil | ((first | apply Go.v2 | apply Go.v1); (first | exact leAdd | assumption); iterate 6 exact rfl) | ((first | apply Go.op | apply Go.sop | apply Qg.op); exact rfl; (first | exact aop_alloc | exact aop_new rfl rfl | exact aop_mksl rfl | exact aop_lenM rfl | exact rfl | exact aL rfl rfl rfl rfl rfl | exact aS rfl rfl rfl rfl rfl rfl rfl)) | ((first | apply Go.no | apply Go.sno | apply Qg.no); exact rfl) | (exfalso; omega) | (((first | apply Go.iQ | apply Go.gQ | apply Go.sQ | apply Qg.gQ); exact rfl; (first | exact .d | exact .e | exact .n | ((fail_if_success exact bqt); (fail_if_success exact bqf); exact .b))) <;> intro _)
            all_goals first
              | (exfalso; omega)
              | exact .fin rfl ⟨rfl, rfl⟩
      · rw [if_neg q1]
        have len1 : l.length = l.length := rfl
        by_cases q2 : a < s ∧ s < mid
        · rw [if_pos q2]
          exfalso
          omega
        · rw [if_neg q2]
          by_cases q3 : mid < e ∧ e < b
          · rw [if_pos q3]
            have c3 := ih l mid e b zd (IntKind.i64.wrap (zn - zi)) zb len1 hzd eend hb hD (by omega) q3.1 q3.2 (by omega)
            repeat' first | (apply Go.adm; exact rfl) | apply Go.qs | apply Qg.nil | ((first | apply Go.v2 | apply Go.v1); (first | exact leAdd | assumption); iterate 6 exact rfl) | ((first | apply Go.op | apply Go.sop | apply Qg.op); exact rfl; (first | exact aop_alloc | exact aop_new rfl rfl | exact aop_mksl rfl | exact aop_lenM rfl | exact rfl | exact aL rfl rfl rfl rfl rfl | exact aS rfl rfl rfl rfl rfl rfl rfl)) | ((first | apply Go.no | apply Go.sno | apply Qg.no); exact rfl) | (exfalso; omega) | (((first | apply Go.iQ | apply Go.gQ | apply Go.sQ | apply Qg.gQ); exact rfl; (first | exact .d | exact .e | exact .n | ((fail_if_success exact bqt); (fail_if_success exact bqf); exact .b))) <;> intro _)
            all_goals first
              | (exfalso; omega)
              | skip
            refine .call _ rfl rfl rfl c3 ?_
            rintro r τ ⟨rfl, rfl⟩
            repeat' first | (apply Go.adm; exact rfl) | apply Go.qs | apply Qg.nil | ((first | apply Go.v2 | apply Go.v1); (first | exact leAdd | assumption); iterate 6 exact rfl) | ((first | apply Go.op | apply Go.sop | apply Qg.op); exact rfl; (first | exact aop_alloc | exact aop_new rfl rfl | exact aop_mksl rfl | exact aop_lenM rfl | exact rfl | exact aL rfl rfl rfl rfl rfl | exact aS rfl rfl rfl rfl rfl rfl rfl)) | ((first | apply Go.no | apply Go.sno | apply Qg.no); exact rfl) | (exfalso; omega) | (((first | apply Go.iQ | apply Go.gQ | apply Go.sQ | apply Qg.gQ); exact rfl; (first | exact .d | exact .e | exact .n | ((fail_if_success exact bqt); (fail_if_success exact bqf); exact .b))) <;> intro _)
            exact .fin rfl ⟨rfl, rfl⟩
          · rw [if_neg q3]
            repeat' first | (apply Go.adm; exact rfl) | apply Go.qs | apply Qg.nil | ((first | apply Go.v2 | apply Go.v1); (first | exact leAdd | assumption); iterate 6 exact rfl) | ((first | apply Go.op | apply Go.sop | apply Qg.op); exact rfl; (first | exact aop_alloc | exact aop_new rfl rfl | exact aop_mksl rfl | exact aop_lenM rfl | exact rfl | exact aL rfl rfl rfl rfl rfl | exact aS rfl rfl rfl rfl rfl rfl rfl)) | ((first | apply Go.no | apply Go.sno | apply Qg.no); exact rfl) | (exfalso; omega) | (((first | apply Go.iQ | apply Go.gQ | apply Go.sQ | apply Qg.gQ); exact rfl; (first | exact .d | exact .e | exact .n | ((fail_if_success exact bqt); (fail_if_success exact bqf); exact .b))) <;> intro _)
            all_goals first
              | (exfalso; omega)
              | exact .fin rfl ⟨rfl, rfl⟩
  · have HS : za = (s0 : Int) := by rw [hs0, if_neg hq]; exact ha
    have HR : zm = (r0 : Int) := by rw [hr0, if_neg hq]; exact hzm
    have hlq : ¬ zm > IntKind.i64.wrap ((IntKind.u64.wrap (IntKind.i64.wrap (za + zb))).fdiv (2 ^ (min (1 : Int).toNat IntKind.u64.bits))) := by rw [emid]; omega
    repeat' first | (apply Go.adm; exact rfl) | apply Go.qs | apply Qg.nil | ((first | apply Go.v2 | apply Go.v1); (first | exact leAdd | assumption); iterate 6 exact rfl) | ((first | apply Go.op | apply Go.sop | apply Qg.op); exact rfl; (first | exact aop_alloc | exact aop_new rfl rfl | exact aop_mksl rfl | exact aop_lenM rfl | exact rfl | exact aL rfl rfl rfl rfl rfl | exact aS rfl rfl rfl rfl rfl rfl rfl)) | ((first | apply Go.no | apply Go.sno | apply Qg.no); exact rfl) | (exfalso; omega) | (((first | apply Go.iQ | apply Go.gQ | apply Go.sQ | apply Qg.gQ); exact rfl; (first | exact .d | exact .e | exact .n | ((fail_if_success exact bqt); (fail_if_success exact bqf); exact .b))) <;> intro _)
    all_goals first
      | contradiction
      | skip
    refine Go.keep [0, 1, 2, 3, 4, 18, 19, 20, 21, 22] (Go.loops (I := fun mm fr τ => ∃ (i j : Nat) (zi zj zd zn zp : Int), mm = j - i ∧ s0 ≤ i ∧ i ≤ j ∧ j ≤ r0 ∧ zi = i ∧ zj = j ∧ zd = (mid : Nat) ∧ zn = ((mid + m : Nat) : Int) ∧ zp = ((mid + m - 1 : Nat) : Int) ∧ (∃ k, j - i ≤ k ∧ bs p f0 s0 r0 = bs p k i j) ∧
      fr = [(0, .c (.sl F.id F.v 0 l.length c)), (1, .c (.int .i64 za)), (2, .c (.int .i64 zm)), (3, .c (.int .i64 zb)), (4, .c (.fn g pre cap)), (18, .c (.int .i64 zd)), (19, .c (.int .i64 zn)), (20, .c (.int .i64 zi)), (21, .c (.int .i64 zj)), (22, .c (.int .i64 zp))] ∧ τ = F.S l) ?_ _ _ _ ⟨s0, r0, _, _, _, _, _, rfl, Nat.le_refl _, hrange.1, Nat.le_refl _, HS, HR, emid, en, ep, ⟨f0, hrange.2.2.2.2.1, rfl⟩, rfl, rfl⟩)
    clear emid en ep hes es hzmid
    clear zmid
    rintro mm fr τ ⟨i, j, zi, zj, zd, zn, zp, hmm, hsi, hij, hjr, hzi, hzj, hzd, hzn, hzp, ⟨k, hk, hbs⟩, rfl, rfl⟩ hrec
    by_cases hlt : i < j
    · obtain ⟨k, rfl⟩ : ∃ k', k = k' + 1 := ⟨k - 1, by omega⟩
      rw [bs, if_pos hlt] at hbs
      have es : IntKind.i64.wrap (zi + zj) = ((i + j : Nat) : Int) := by rw [wrap64 (by omega) (by omega)]; omega
      have eh := half_eq es (by omega)
      obtain ⟨h, hh0⟩ : ∃ h, h = (i + j) / 2 := ⟨_, rfl⟩
      rw [← hh0] at eh hbs
      have hh : h < l.length := by omega
      have hph : mid + m - 1 - h < l.length := by omega
      have ev : ∀ z : Int, z = (h : Int) → IntKind.i64.wrap (zp - z) = ((mid + m - 1 - h : Nat) : Int) := fun z hz => by rw [wrap64 (by omega) (by omega)]; omega
      have epc := ev _ eh
      have hpv : p h = !decide (co l[mid + m - 1 - h] l[h] < 0) := by rw [hp]; exact congrArg _ (ltA_eq hph hh)
      have cc := hcmp l l[mid + m - 1 - h] l[h] (hD _ (List.getElem_mem hph)) (hD _ (List.getElem_mem hh))
      rw [hpv] at hbs
      generalize co l[mid + m - 1 - h] l[h] = o at cc hbs
      repeat' first | (apply Go.adm; exact rfl) | apply Go.qs | apply Qg.nil | ((first | apply Go.v2 | apply Go.v1); (first | exact leAdd | assumption); iterate 6 exact rfl) | ((first | apply Go.op | apply Go.sop | apply Qg.op); exact rfl; (first | exact aop_alloc | exact aop_new rfl rfl | exact aop_mksl rfl | exact aop_lenM rfl | exact rfl | exact aL rfl rfl rfl rfl rfl | exact aS rfl rfl rfl rfl rfl rfl rfl | exact aop_si rfl rfl eh rfl hh | exact aop_si rfl rfl epc rfl hph | exact aop_sl rfl hh | exact aop_sl rfl hph)) | ((first | apply Go.no | apply Go.sno | apply Qg.no); exact rfl) | (exfalso; omega) | (((first | apply Go.iQ | apply Go.gQ | apply Go.sQ | apply Qg.gQ); exact rfl; (first | exact .d | exact .e | exact .n | ((fail_if_success exact bqt); (fail_if_success exact bqf); exact .b))) <;> intro _)
      refine Go.scall _ rfl rfl rfl cc ?_
      rintro r τ ⟨rfl, rfl⟩
      have up : bs p f0 s0 r0 = bs p k (h + 1) j → ∀ fr τ, fr = [(0, AV.c (.sl F.id F.v 0 l.length c)), (1, .c (.int .i64 za)), (2, .c (.int .i64 zm)), (3, .c (.int .i64 zb)), (4, .c (.fn g pre cap)), (18, .c (.int .i64 zd)), (19, .c (.int .i64 zn)), (20, .c (.int .i64 (IntKind.i64.wrap (IntKind.i64.wrap ((IntKind.u64.wrap (IntKind.i64.wrap (zi + zj))).fdiv (2 ^ (min (1 : Int).toNat IntKind.u64.bits))) + 1)))), (21, .c (.int .i64 zj)), (22, .c (.int .i64 zp))] → τ = F.S l → _ := fun e fr τ p1 p2 => hrec (j - (h + 1)) fr τ (by omega) ⟨h + 1, j, _, _, _, _, _, rfl, by omega, by omega, hjr, wrap_succ eh (by omega), hzj, hzd, hzn, hzp, ⟨k, by omega, e⟩, p1, p2⟩
      have dn : bs p f0 s0 r0 = bs p k i h → ∀ fr τ, fr = [(0, AV.c (.sl F.id F.v 0 l.length c)), (1, .c (.int .i64 za)), (2, .c (.int .i64 zm)), (3, .c (.int .i64 zb)), (4, .c (.fn g pre cap)), (18, .c (.int .i64 zd)), (19, .c (.int .i64 zn)), (20, .c (.int .i64 zi)), (21, .c (.int .i64 (IntKind.i64.wrap ((IntKind.u64.wrap (IntKind.i64.wrap (zi + zj))).fdiv (2 ^ (min (1 : Int).toNat IntKind.u64.bits)))))), (22, .c (.int .i64 zp))] → τ = F.S l → _ := fun e fr τ p1 p2 => hrec (h - i) fr τ (by omega) ⟨i, h, _, _, _, _, _, rfl, hsi, by omega, by omega, hzi, eh, hzd, hzn, hzp, ⟨k, by omega, e⟩, p1, p2⟩
      clear hrec eh epc ev
      by_cases ho : o < 0
      · rw [if_neg (by simp [ho])] at hbs
        repeat' first | (apply Go.adm; exact rfl) | apply Go.qs | apply Qg.nil | ((first | apply Go.v2 | apply Go.v1); (first | exact leAdd | assumption); iterate 6 exact rfl) | ((first | apply Go.op | apply Go.sop | apply Qg.op); exact rfl; (first | exact aop_alloc | exact aop_new rfl rfl | exact aop_mksl rfl | exact aop_lenM rfl | exact rfl | exact aL rfl rfl rfl rfl rfl | exact aS rfl rfl rfl rfl rfl rfl rfl)) | ((first | apply Go.no | apply Go.sno | apply Qg.no); exact rfl) | (exfalso; omega) | (((first | apply Go.iQ | apply Go.gQ | apply Go.sQ | apply Qg.gQ); exact rfl; (first | exact .d | exact .e | exact .n | ((fail_if_success exact bqt); (fail_if_success exact bqf); exact .b))) <;> intro _)
        all_goals first
          | exact Go.keep [0, 1, 2, 3, 4, 18, 19, 20, 21, 22] (dn hbs _ _ rfl rfl)
          | (exfalso; simp_all; done)
          | (exfalso; simp_all; omega)
      · rw [if_pos (by simp [ho])] at hbs
        repeat' first | (apply Go.adm; exact rfl) | apply Go.qs | apply Qg.nil | ((first | apply Go.v2 | apply Go.v1); (first | exact leAdd | assumption); iterate 6 exact rfl) | ((first | apply Go.op | apply Go.sop | apply Qg.op); exact rfl; (first | exact aop_alloc | exact aop_new rfl rfl | exact aop_mksl rfl | exact aop_lenM rfl | exact rfl | exact aL rfl rfl rfl rfl rfl | exact aS rfl rfl rfl rfl rfl rfl rfl)) | ((first | apply Go.no | apply Go.sno | apply Qg.no); exact rfl) | (exfalso; omega) | (((first | apply Go.iQ | apply Go.gQ | apply Go.sQ | apply Qg.gQ); exact rfl; (first | exact .d | exact .e | exact .n | ((fail_if_success exact bqt); (fail_if_success exact bqf); exact .b))) <;> intro _)
        all_goals first
          | exact Go.keep [0, 1, 2, 3, 4, 18, 19, 20, 21, 22] (up hbs _ _ rfl rfl)
          | (exfalso; simp_all; done)
          | (exfalso; simp_all; omega)
    · rw [bs_end hlt] at hbs
      rw [hbs] at hbi ⊢
      clear hrec hbs hp hk hst hcmp
      obtain ⟨s, hs⟩ : ∃ s, s = i := ⟨_, rfl⟩
      rw [← hs] at hbi hzi ⊢
      obtain ⟨e, he⟩ : ∃ e, e = mid + m - s := ⟨_, rfl⟩
      rw [← he]
      have eend : IntKind.i64.wrap (zn - zi) = (e : Int) := by rw [wrap64 (by omega) (by omega)]; omega
      by_cases q1 : s < m ∧ m < e
      · rw [if_pos q1]
        have len1 : (rotF s m e l).length = l.length := rot_len
        have D1 : ∀ x ∈ rotF s m e l, D x := fun x hx => hD x (rot_mem hx)
        have cr := rotate_ok hm hc' hc'' F l s m e c zi zm (IntKind.i64.wrap (zn - zi)) hzi hzm eend (.fn g pre cap) q1.1 q1.2 (by omega) hx
        repeat' first | (apply Go.adm; exact rfl) | apply Go.qs | apply Qg.nil | ((first | apply Go.v2 | apply Go.v1); (first | exact leAdd | assumption); iterate 6 exact rfl) | ((first | apply Go.op | apply Go.sop | apply Qg.op); exact rfl; (first | exact aop_alloc | exact aop_new rfl rfl | exact aop_mksl rfl | exact aop_lenM rfl | exact rfl | exact aL rfl rfl rfl rfl rfl | exact aS rfl rfl rfl rfl rfl rfl rfl)) | ((first | apply Go.no | apply Go.sno | apply Qg.no); exact rfl) | (exfalso; omega) | (((first | apply Go.iQ | apply Go.gQ | apply Go.sQ | apply Qg.gQ); exact rfl; (first | exact .d | exact .e | exact .n | ((fail_if_success exact bqt); (fail_if_success exact bqf); exact .b))) <;> intro _)
        all_goals first
          | (exfalso; omega)
          | skip
        refine .call _ rfl rfl rfl cr ?_
        rintro r τ ⟨rfl, rfl⟩
        generalize rotF s m e l = l1 at len1 D1 ⊢
        by_cases q2 : a < s ∧ s < mid
        · rw [if_pos q2]
          have c2 := ih l1 a s mid za zi zd len1 ha hzi hzd D1 (by omega) q2.1 q2.2 (by omega)
          have len2 : (sym co d a s mid l1).length = l.length := sym_len.trans len1
          have D2 : ∀ x ∈ sym co d a s mid l1, D x := fun x hx => D1 x (sym_mem hx)
          repeat' first | (apply Go.adm; exact rfl) | apply Go.qs | apply Qg.nil | ((first | apply Go.v2 | apply Go.v1); (first | exact leAdd | assumption); iterate 6 exact rfl) | ((first | apply Go.op | apply Go.sop | apply Qg.op); exact rfl; (first | exact aop_alloc | exact aop_new rfl rfl | exact aop_mksl rfl | exact aop_lenM rfl | exact rfl | exact aL rfl rfl rfl rfl rfl | exact aS rfl rfl rfl rfl rfl rfl rfl)) | ((first | apply Go.no | apply Go.sno | apply Qg.no); exact rfl) | (exfalso; omega) | (((first | apply Go.iQ | apply Go.gQ | apply Go.sQ | apply Qg.gQ); exact rfl; (first | exact .d | exact .e | exact .n | ((fail_if_success exact bqt); (fail_if_success exact bqf); exact .b))) <;> intro _)
          all_goals first
            | (exfalso; omega)
            | skip
          refine .call _ rfl rfl rfl c2 ?_
          rintro r τ ⟨rfl, rfl⟩
          generalize sym co d a s mid l1 = l2 at len2 D2 ⊢
          by_cases q3 : mid < e ∧ e < b
          · rw [if_pos q3]
            have c3 := ih l2 mid e b zd (IntKind.i64.wrap (zn - zi)) zb len2 hzd eend hb D2 (by omega) q3.1 q3.2 (by omega)
            repeat' first | (apply Go.adm; exact rfl) | apply Go.qs | apply Qg.nil | ((first | apply Go.v2 | apply Go.v1); (first | exact leAdd | assumption); iterate 6 exact rfl) | ((first | apply Go.op | apply Go.sop | apply Qg.op); exact rfl; (first | exact aop_alloc | exact aop_new rfl rfl | exact aop_mksl rfl | exact aop_lenM rfl | exact rfl | exact aL rfl rfl rfl rfl rfl | exact aS rfl rfl rfl rfl rfl rfl rfl)) | ((first | apply Go.no | apply Go.sno | apply Qg.no); exact rfl) | (exfalso; omega) | (((first | apply Go.iQ | apply Go.gQ | apply Go.sQ | apply Qg.gQ); exact rfl; (first | exact .d | exact .e | exact .n | ((fail_if_success exact bqt); (fail_if_success exact bqf); exact .b))) <;> intro _)
            all_goals first
              | (exfalso; omega)
              | skip
            refine .call _ rfl rfl rfl c3 ?_
            rintro r τ ⟨rfl, rfl⟩
            repeat' first | (apply Go.adm; exact rfl) | apply Go.qs | apply Qg.nil | ((first | apply Go.v2 | apply Go.v1); (first | exact leAdd | assumption); iterate 6 exact rfl) | ((first | apply Go.op | apply Go.sop | apply Qg.op); exact rfl; (first | exact aop_alloc | exact aop_new rfl rfl | exact aop_mksl rfl | exact aop_lenM rfl | exact rfl | exact aL rfl rfl rfl rfl rfl | exact aS rfl rfl rfl rfl rfl rfl rfl)) | ((first | apply Go.no | apply Go.sno | apply Qg.no); exact rfl) | (exfalso; omega) | (((first | apply Go.iQ | apply Go.gQ | apply Go.sQ | apply Qg.gQ); exact rfl; (first | exact .d | exact .e | exact .n | ((fail_if_success exact bqt); (fail_if_success exact bqf); exact .b))) <;> intro _)
            exact .fin rfl ⟨rfl, rfl⟩
          · rw [if_neg q3]
            repeat' first | (apply Go.adm; exact rfl) | apply Go.qs | apply Qg.nil | ((first | apply Go.v2 | apply Go.v1); (first | exact leAdd | assumption); iterate 6 exact rfl) | ((first | apply Go.op | apply Go.sop | apply Qg.op); exact rfl; (first | exact aop_alloc | exact aop_new rfl rfl | exact aop_mksl rfl | exact aop_lenM rfl | exact rfl | exact aL rfl rfl rfl rfl rfl | exact aS rfl rfl rfl rfl rfl rfl rfl)) | ((first | apply Go.no | apply Go.sno | apply Qg.no); exact rfl) | (exfalso; omega) | (((first | apply Go.iQ | apply Go.gQ | apply Go.sQ | apply Qg.gQ); exact rfl; (first | exact .d | exact .e | exact .n | ((fail_if_success exact bqt); (fail_if_success exact bqf); exact .b))) <;> intro _)
            all_goals first
              | (exfalso; omega)
              | exact .fin rfl ⟨rfl, rfl⟩
        · rw [if_neg q2]
          by_cases q3 : mid < e ∧ e < b
          · rw [if_pos q3]
            have c3 := ih l1 mid e b zd (IntKind.i64.wrap (zn - zi)) zb len1 hzd eend hb D1 (by omega) q3.1 q3.2 (by omega)
            repeat' first | (apply Go.adm; exact rfl) | apply Go.qs | apply Qg.nil | ((first | apply Go.v2 | apply Go.v1); (first | exact leAdd | assumption); iterate 6 exact rfl) | ((first | apply Go.op | apply Go.sop | apply Qg.op); exact rfl; (first | exact aop_alloc | exact aop_new rfl rfl | exact aop_mksl rfl | exact aop_lenM rfl | exact rfl | exact aL rfl rfl rfl rfl rfl | exact aS rfl rfl rfl rfl rfl rfl rfl)) | ((first | apply Go.no | apply Go.sno | apply Qg.no); exact rfl) | (exfalso; omega) | (((first | apply Go.iQ | apply Go.gQ | apply Go.sQ | apply Qg.gQ); exact rfl; (first | exact .d | exact .e | exact .n | ((fail_if_success exact bqt); (fail_if_success exact bqf); exact .b))) <;> intro _)
            all_goals first
              | (exfalso; omega)
              | skip
            refine .call _ rfl rfl rfl c3 ?_
            rintro r τ ⟨rfl, rfl⟩
            repeat' first | (apply Go.adm; exact rfl) | apply Go.qs | apply Qg.nil | ((first | apply Go.v2 | apply Go.v1); (first | exact leAdd | assumption); iterate 6 exact rfl) | ((first | apply Go.op | apply Go.sop | apply Qg.op); exact rfl; (first | exact aop_alloc | exact aop_new rfl rfl | exact aop_mksl rfl | exact aop_lenM rfl | exact rfl | exact aL rfl rfl rfl rfl rfl | exact aS rfl rfl rfl rfl rfl rfl rfl)) | ((first | apply Go.no | apply Go.sno | apply Qg.no); exact rfl) | (exfalso; omega) | (((first | apply Go.iQ | apply Go.gQ | apply Go.sQ | apply Qg.gQ); exact rfl; (first | exact .d | exact .e | exact .n | ((fail_if_success exact bqt); (fail_if_success exact bqf); exact .b))) <;> intro _)
            exact .fin rfl ⟨rfl, rfl⟩
          · rw [if_neg q3]
            repeat' first | (apply Go.adm; exact rfl) | apply Go.qs | apply Qg.nil | ((first | apply Go.v2 | apply Go.v1); (first | exact leAdd | assumption); iterate 6 exact rfl) | ((first | apply Go.op | apply Go.sop | apply Qg.op); exact rfl; (first | exact aop_alloc | exact aop_new rfl rfl | exact aop_mksl rfl | exact aop_lenM rfl | exact rfl | exact aL rfl rfl rfl rfl rfl | exact aS rfl rfl rfl rfl rfl rfl rfl)) | ((first | apply Go.no | apply Go.sno | apply Qg.no); exact rfl) | (exfalso; omega) | (((first | apply Go.iQ | apply Go.gQ | apply Go.sQ | apply Qg.gQ); exact rfl; (first | exact .d | exact .e | exact .n | ((fail_if_success exact bqt); (fail_if_success exact bqf); exact .b))) <;> intro _)
            all_goals first
              | (exfalso; omega)
              | exact .fin rfl ⟨rfl, rfl⟩
      · rw [if_neg q1]
        have len1 : l.length = l.length := rfl
        by_cases q2 : a < s ∧ s < mid
        · rw [if_pos q2]
          have c2 := ih l a s mid za zi zd len1 ha hzi hzd hD (by omega) q2.1 q2.2 (by omega)
          have len2 : (sym co d a s mid l).length = l.length := sym_len.trans len1
          have D2 : ∀ x ∈ sym co d a s mid l, D x := fun x hx => hD x (sym_mem hx)
          repeat' first | (apply Go.adm; exact rfl) | apply Go.qs | apply Qg.nil | ((first | apply Go.v2 | apply Go.v1); (first | exact leAdd | assumption); iterate 6 exact rfl) | ((first | apply Go.op | apply Go.sop | apply Qg.op); exact rfl; (first | exact aop_alloc | exact aop_new rfl rfl | exact aop_mksl rfl | exact aop_lenM rfl | exact rfl | exact aL rfl rfl rfl rfl rfl | exact aS rfl rfl rfl rfl rfl rfl rfl)) | ((first | apply Go.no | apply Go.sno | apply Qg.no); exact rfl) | (exfalso; omega) | (((first | apply Go.iQ | apply Go.gQ | apply Go.sQ | apply Qg.gQ); exact rfl; (first | exact .d | exact .e | exact .n | ((fail_if_success exact bqt); (fail_if_success exact bqf); exact .b))) <;> intro _)
          all_goals first
            | (exfalso; omega)
            | skip
          refine .call _ rfl rfl rfl c2 ?_
          rintro r τ ⟨rfl, rfl⟩
          generalize sym co d a s mid l = l2 at len2 D2 ⊢
          by_cases q3 : mid < e ∧ e < b
          · rw [if_pos q3]
            exfalso
            omega
          · rw [if_neg q3]
            repeat' first | (apply Go.adm; exact rfl) | apply Go.qs | apply Qg.nil | ((first | apply Go.v2 | apply Go.v1); (first | exact leAdd | assumption); iterate 6 exact rfl) | ((first | apply Go.op | apply Go.sop | apply Qg.op); exact rfl; (first | exact aop_alloc | exact aop_new rfl rfl | exact aop_mksl rfl | exact aop_lenM rfl | exact rfl | exact aL rfl rfl rfl rfl rfl | exact aS rfl rfl rfl rfl rfl rfl rfl)) | ((first | apply Go.no | apply Go.sno | apply Qg.no); exact rfl) | (exfalso; omega) | (((first | apply Go.iQ | apply Go.gQ | apply Go.sQ | apply Qg.gQ); exact rfl; (first | exact .d | exact .e | exact .n | ((fail_if_success exact bqt); (fail_if_success exact bqf); exact .b))) <;> intro _)
            all_goals first
              | (exfalso; omega)
              | exact .fin rfl ⟨rfl, rfl⟩
        · rw [if_neg q2]
          by_cases q3 : mid < e ∧ e < b
          · rw [if_pos q3]
            exfalso
            omega
          · rw [if_neg q3]
            repeat' first | (apply Go.adm; exact rfl) | apply Go.qs | apply Qg.nil | ((first | apply Go.v2 | apply Go.v1); (first | exact leAdd | assumption); iterate 6 exact rfl) | ((first | apply Go.op | apply Go.sop | apply Qg.op); exact rfl; (first | exact aop_alloc | exact aop_new rfl rfl | exact aop_mksl rfl | exact aop_lenM rfl | exact rfl | exact aL rfl rfl rfl rfl rfl | exact aS rfl rfl rfl rfl rfl rfl rfl)) | ((first | apply Go.no | apply Go.sno | apply Qg.no); exact rfl) | (exfalso; omega) | (((first | apply Go.iQ | apply Go.gQ | apply Go.sQ | apply Qg.gQ); exact rfl; (first | exact .d | exact .e | exact .n | ((fail_if_success exact bqt); (fail_if_success exact bqf); exact .b))) <;> intro _)
            all_goals first
              | (exfalso; omega)
              | exact .fin rfl ⟨rfl, rfl⟩
end Go.Proofs.Ytcfpdongfdhgjaa.Am

/- Sorting in place: the whole stable sort. -/
set_option linter.unusedVariables false
set_option linter.unusedSimpArgs false
namespace Go.Proofs.Ytcfpdongfdhgjaa.Am

/-- The sort's functions, where they are. -/
structure Sorts (P : Program) : Prop where
  hm : P.follows .mixedOrders = true
  sym : ∃ fz, compFn P fz 47 = some c_slices_symMergeCmpFunc_Entry
  rot : ∃ fz, compFn P fz 50 = some c_slices_rotateCmpFunc_Entry
  swr : ∃ fz, compFn P fz 52 = some c_slices_swapRangeCmpFunc_Entry
  ins : ∃ fz, compFn P fz 46 = some c_slices_insertionSortCmpFunc_Entry
  stb : ∃ fz, compFn P fz 37 = some c_slices_stableCmpFunc_Entry
theorem sym_ok {P : Program} (hs : Sorts P) {α : Type} (F : Fam α) (D : α → Prop) (co : α → α → Int) (g : Nat) (pre cap : List Ce) (hcmp : Cmps P F D co g pre cap) (N c : Nat) (hN : N ≤ 34359738368) :
    ∀ (d : Nat) (l : List α) (a m b : Nat) (za zm zb : Int), l.length = N → za = a → zm = m → zb = b → (∀ x ∈ l, D x) → b ≤ l.length → a < m → m < b → b - a ≤ d → Ok P 47 [.c (.sl F.id F.v 0 N c), .c (.int .i64 za), .c (.int .i64 zm), .c (.int .i64 zb), .c (.fn g pre cap)] (F.S l) (fun r τ => r = .tup [] ∧ τ = F.S (sym co d a m b l))
  | 0, l, a, m, b, za, zm, zb, h0, ha, hzm, hb, hD, h3, hab, hmb, hd => by omega
  | d + 1, l, a, m, b, za, zm, zb, h0, ha, hzm, hb, hD, h3, hab, hmb, hd => by
    obtain ⟨fz, hc⟩ := hs.sym
    obtain ⟨fz', hc'⟩ := hs.rot
    obtain ⟨fz'', hc''⟩ := hs.swr
    by_cases h1 : m - a = 1
    · have := symA_ok hs.hm hc F D co g pre cap hcmp l a m b c za zm zb ha hzm hb hD h3 hab hmb (by omega) h1
      rw [h0] at this
      rw [sym, if_pos h1]
      exact this
    · by_cases h2 : b - m = 1
      · have := symB_ok hs.hm hc F D co g pre cap hcmp l a m b c za zm zb ha hzm hb hD h3 hab hmb (by omega) h1 h2
        rw [h0] at this
        rw [sym, if_neg h1, if_pos h2]
        exact this
      · exact symC_ok hs.hm hc hc' hc'' F D co g pre cap hcmp N c d (sym_ok hs F D co g pre cap hcmp N c hN d) l a m b za zm zb h0 ha hzm hb hD h3 hab hmb (by omega) (by omega) h1 h2
def blk {α : Type} (c : α → α → Int) (n : Nat) : Nat → Nat → List α → List α
  | 0, _, l => l
  | k + 1, a, l => if a + 20 ≤ n then blk c n k (a + 20) (insF c a (a + 20) l) else insF c a n l
def mrg {α : Type} (c : α → α → Int) (n w : Nat) : Nat → Nat → List α → List α
  | 0, _, l => l
  | k + 1, a, l => if a + 2 * w ≤ n then mrg c n w k (a + 2 * w) (sym c (2 * w) a (a + w) (a + 2 * w) l) else if a + w < n then sym c (n - a) a (a + w) n l else l
def mrgs {α : Type} (c : α → α → Int) (n : Nat) : Nat → Nat → List α → List α
  | 0, _, l => l
  | k + 1, w, l => if w < n then mrgs c n k (2 * w) (mrg c n w (n + 1) 0 l) else l
def stableF {α : Type} (c : α → α → Int) (l : List α) : List α := mrgs c l.length (l.length + 1) 20 (blk c l.length (l.length + 1) 0 l)
theorem insF_len {α : Type} {c : α → α → Int} {a b : Nat} {l : List α} : (insF c a b l).length = l.length := insOut_len
theorem insF_mem {α : Type} {c : α → α → Int} {a b : Nat} {l : List α} {x : α} (h : x ∈ insF c a b l) : x ∈ l := insOut_mem h
theorem stable_ok {P : Program} (hs : Sorts P) {α : Type} (F : Fam α) (D : α → Prop) (co : α → α → Int) (g : Nat) (pre cap : List Ce) (hcmp : Cmps P F D co g pre cap) (l : List α) (c : Nat) (hD : ∀ x ∈ l, D x) (hx : l.length ≤ 34359738368) :
    Ok P 37 [.c (.sl F.id F.v 0 l.length c), .c (.int .i64 (l.length : Int)), .c (.fn g pre cap)] (F.S l) (fun r τ => r = .tup [] ∧ τ = F.S (stableF co l)) := by
  obtain ⟨fzs, hst⟩ := hs.stb
  obtain ⟨fzi, hins⟩ := hs.ins
  have hsym := sym_ok hs F D co g pre cap hcmp l.length c hx
  refine .of_go hs.hm hst (Nat.le_of_ble_eq_true rfl) ?_
  obtain ⟨n, hn⟩ : ∃ n, n = l.length := ⟨_, rfl⟩
  rw [stableF, ← hn]
  obtain ⟨res, hres⟩ : ∃ res, res = mrgs co n (n + 1) 20 (blk co n (n + 1) 0 l) := ⟨_, rfl⟩
  rw [← hres]
  rw [← hn] at hsym hx
  obtain ⟨bl, hbl0⟩ : ∃ x, x = blk co n (n + 1) 0 l := ⟨_, rfl⟩
  rw [← hbl0] at hres
  repeat' first | (apply Go.adm; exact rfl) | apply Go.qs | apply Qg.nil | ((first | apply Go.v2 | apply Go.v1); (first | exact leAdd | assumption); iterate 6 exact rfl) | ((first | apply Go.op | apply Go.sop | apply Qg.op); exact rfl; (first | exact aop_alloc | exact aop_new rfl rfl | exact aop_mksl rfl | exact aop_lenM rfl | exact rfl | exact aL rfl rfl rfl rfl rfl | exact aS rfl rfl rfl rfl rfl rfl rfl)) | ((first | apply Go.no | apply Go.sno | apply Qg.no); exact rfl) | (exfalso; omega) | (((first | apply Go.iQ | apply Go.gQ | apply Go.sQ | apply Qg.gQ); exact rfl; (first | exact .d | exact .e | exact .n | ((fail_if_success exact bqt); (fail_if_success exact bqf); exact .b))) <;> intro _)
  refine Go.keep [0, 1, 2, 6, 7, 8] (Go.loops (I := fun mm fr τ => ∃ (a : Nat) (za zb : Int) (q : List α), mm = n - a ∧ a ≤ n ∧ za = a ∧ zb = ((a + 20 : Nat) : Int) ∧ q.length = n ∧ (∀ x ∈ q, D x) ∧ (∃ k, n - a < k ∧ bl = blk co n k a q) ∧
    fr = [(0, .c (.sl F.id F.v 0 n c)), (1, .c (.int .i64 (n : Int))), (2, .c (.fn g pre cap)), (6, .c (.int .i64 20)), (7, .c (.int .i64 za)), (8, .c (.int .i64 zb))] ∧ τ = F.S q) ?_ _ _ _ ⟨0, _, _, l, rfl, Nat.zero_le _, rfl, rfl, hn.symm, hD, ⟨n + 1, by omega, hbl0⟩, rfl, rfl⟩)
  rintro mm fr τ ⟨a, za, zb, q, hmm, han, hza, hzb, hql, hqD, ⟨k, hk, hbl⟩, rfl, rfl⟩ hrec
  obtain ⟨k, rfl⟩ : ∃ k', k = k' + 1 := ⟨k - 1, by omega⟩
  rw [blk] at hbl
  by_cases hlt : a + 20 ≤ n
  · rw [if_pos hlt] at hbl
    have ci := insertion_ok hs.hm hins F D co g pre cap hcmp q a (a + 20) c za zb hza hzb hqD (by omega) (by omega) (by omega)
    rw [hql] at ci
    have e1 : IntKind.i64.wrap (zb + 20) = ((a + 20 + 20 : Nat) : Int) := by rw [wrap64 (by omega) (by omega)]; omega
    repeat' first | (apply Go.adm; exact rfl) | apply Go.qs | apply Qg.nil | ((first | apply Go.v2 | apply Go.v1); (first | exact leAdd | assumption); iterate 6 exact rfl) | ((first | apply Go.op | apply Go.sop | apply Qg.op); exact rfl; (first | exact aop_alloc | exact aop_new rfl rfl | exact aop_mksl rfl | exact aop_lenM rfl | exact rfl | exact aL rfl rfl rfl rfl rfl | exact aS rfl rfl rfl rfl rfl rfl rfl)) | ((first | apply Go.no | apply Go.sno | apply Qg.no); exact rfl) | (exfalso; omega) | (((first | apply Go.iQ | apply Go.gQ | apply Go.sQ | apply Qg.gQ); exact rfl; (first | exact .d | exact .e | exact .n | ((fail_if_success exact bqt); (fail_if_success exact bqf); exact .b))) <;> intro _)
    refine .call _ rfl rfl rfl ci ?_
    rintro r τ ⟨rfl, rfl⟩
    repeat' first | (apply Go.adm; exact rfl) | apply Go.qs | apply Qg.nil | ((first | apply Go.v2 | apply Go.v1); (first | exact leAdd | assumption); iterate 6 exact rfl) | ((first | apply Go.op | apply Go.sop | apply Qg.op); exact rfl; (first | exact aop_alloc | exact aop_new rfl rfl | exact aop_mksl rfl | exact aop_lenM rfl | exact rfl | exact aL rfl rfl rfl rfl rfl | exact aS rfl rfl rfl rfl rfl rfl rfl)) | ((first | apply Go.no | apply Go.sno | apply Qg.no); exact rfl) | (exfalso; omega) | (((first | apply Go.iQ | apply Go.gQ | apply Go.sQ | apply Qg.gQ); exact rfl; (first | exact .d | exact .e | exact .n | ((fail_if_success exact bqt); (fail_if_success exact bqf); exact .b))) <;> intro _)
    exact Go.keep [0, 1, 2, 6, 7, 8] (hrec _ _ _ (by omega) ⟨a + 20, _, _, _, rfl, hlt, hzb, e1, by rw [insF_len]; exact hql, fun x hx => hqD x (insF_mem hx), ⟨k, by omega, hbl⟩, rfl, rfl⟩)
  · rw [if_neg hlt] at hbl
    have ci := insertion_ok hs.hm hins F D co g pre cap hcmp q a n c za n hza rfl hqD (by omega) han (by omega)
    rw [hql] at ci
    clear hrec
    repeat' first | (apply Go.adm; exact rfl) | apply Go.qs | apply Qg.nil | ((first | apply Go.v2 | apply Go.v1); (first | exact leAdd | assumption); iterate 6 exact rfl) | ((first | apply Go.op | apply Go.sop | apply Qg.op); exact rfl; (first | exact aop_alloc | exact aop_new rfl rfl | exact aop_mksl rfl | exact aop_lenM rfl | exact rfl | exact aL rfl rfl rfl rfl rfl | exact aS rfl rfl rfl rfl rfl rfl rfl)) | ((first | apply Go.no | apply Go.sno | apply Qg.no); exact rfl) | (exfalso; omega) | (((first | apply Go.iQ | apply Go.gQ | apply Go.sQ | apply Qg.gQ); exact rfl; (first | exact .d | exact .e | exact .n | ((fail_if_success exact bqt); (fail_if_success exact bqf); exact .b))) <;> intro _)
    refine .call _ rfl rfl rfl ci ?_
    rintro r τ ⟨rfl, rfl⟩
    rw [hbl] at hres
    have hul : (insF co a n q).length = n := by rw [insF_len]; exact hql
    have huD : ∀ x ∈ insF co a n q, D x := fun x hx => hqD x (insF_mem hx)
    generalize insF co a n q = u at hul huD hres ⊢
    clear hbl hbl0 hqD hql hD ci hlt
    repeat' first | (apply Go.adm; exact rfl) | apply Go.qs | apply Qg.nil | ((first | apply Go.v2 | apply Go.v1); (first | exact leAdd | assumption); iterate 6 exact rfl) | ((first | apply Go.op | apply Go.sop | apply Qg.op); exact rfl; (first | exact aop_alloc | exact aop_new rfl rfl | exact aop_mksl rfl | exact aop_lenM rfl | exact rfl | exact aL rfl rfl rfl rfl rfl | exact aS rfl rfl rfl rfl rfl rfl rfl)) | ((first | apply Go.no | apply Go.sno | apply Qg.no); exact rfl) | (exfalso; omega) | (((first | apply Go.iQ | apply Go.gQ | apply Go.sQ | apply Qg.gQ); exact rfl; (first | exact .d | exact .e | exact .n | ((fail_if_success exact bqt); (fail_if_success exact bqf); exact .b))) <;> intro _)
    refine Go.keep [0, 1, 2, 6] (Go.loops (I := fun mm fr τ => ∃ (w : Nat) (zw : Int) (q : List α), mm = n - w ∧ 20 ≤ w ∧ w ≤ 4 * 34359738368 ∧ zw = w ∧ q.length = n ∧ (∀ x ∈ q, D x) ∧ (∃ k, n - w < k ∧ res = mrgs co n k w q) ∧
      fr = [(0, .c (.sl F.id F.v 0 n c)), (1, .c (.int .i64 (n : Int))), (2, .c (.fn g pre cap)), (6, .c (.int .i64 zw))] ∧ τ = F.S q) ?_ _ _ _ ⟨20, _, u, rfl, Nat.le_refl _, by omega, rfl, hul, huD, ⟨n + 1, by omega, hres⟩, rfl, rfl⟩)
    clear hul huD hres
    clear u
    rintro mm fr τ ⟨w, zw, u, hmm, hw20, hwb, hzw, hul, huD, ⟨k, hk, hres⟩, rfl, rfl⟩ hrec
    obtain ⟨k, rfl⟩ : ∃ k', k = k' + 1 := ⟨k - 1, by omega⟩
    rw [mrgs] at hres
    by_cases hwn : w < n
    · rw [if_pos hwn] at hres
      have e2 : IntKind.i64.wrap (2 * zw) = ((2 * w : Nat) : Int) := by rw [wrap64 (by omega) (by omega)]; omega
      have e2' : IntKind.i64.wrap (zw * 2) = ((2 * w : Nat) : Int) := by rw [wrap64 (by omega) (by omega)]; omega
      obtain ⟨mg, hmg⟩ : ∃ x, x = mrg co n w (n + 1) 0 u := ⟨_, rfl⟩
      rw [← hmg] at hres
      have out : ∀ q : List α, q.length = n → (∀ x ∈ q, D x) → mg = q → ∀ fr τ, fr = [(0, AV.c (.sl F.id F.v 0 n c)), (1, .c (.int .i64 (n : Int))), (2, .c (.fn g pre cap)), (6, .c (.int .i64 (IntKind.i64.wrap (zw * 2))))] → τ = F.S q → _ := fun q p1 p2 p3 fr τ p4 p5 =>
        hrec (n - 2 * w) fr τ (by omega) ⟨2 * w, _, q, rfl, by omega, by omega, e2', p1, p2, ⟨k, by omega, by rw [← p3]; exact hres⟩, p4, p5⟩
      clear hrec hres
      repeat' first | (apply Go.adm; exact rfl) | apply Go.qs | apply Qg.nil | ((first | apply Go.v2 | apply Go.v1); (first | exact leAdd | assumption); iterate 6 exact rfl) | ((first | apply Go.op | apply Go.sop | apply Qg.op); exact rfl; (first | exact aop_alloc | exact aop_new rfl rfl | exact aop_mksl rfl | exact aop_lenM rfl | exact rfl | exact aL rfl rfl rfl rfl rfl | exact aS rfl rfl rfl rfl rfl rfl rfl)) | ((first | apply Go.no | apply Go.sno | apply Qg.no); exact rfl) | (exfalso; omega) | (((first | apply Go.iQ | apply Go.gQ | apply Go.sQ | apply Qg.gQ); exact rfl; (first | exact .d | exact .e | exact .n | ((fail_if_success exact bqt); (fail_if_success exact bqf); exact .b))) <;> intro _)
      refine Go.keep [0, 1, 2, 6, 7, 8] (Go.loops (I := fun mm fr τ => ∃ (a : Nat) (za zb : Int) (q : List α), mm = n - a ∧ a ≤ n ∧ za = a ∧ zb = ((a + 2 * w : Nat) : Int) ∧ q.length = n ∧ (∀ x ∈ q, D x) ∧ (∃ k, n - a < k ∧ mg = mrg co n w k a q) ∧
        fr = [(0, .c (.sl F.id F.v 0 n c)), (1, .c (.int .i64 (n : Int))), (2, .c (.fn g pre cap)), (6, .c (.int .i64 zw)), (7, .c (.int .i64 za)), (8, .c (.int .i64 zb))] ∧ τ = F.S q) ?_ _ _ _ ⟨0, _, _, u, rfl, Nat.zero_le _, rfl, by rw [e2]; omega, hul, huD, ⟨n + 1, by omega, hmg⟩, rfl, rfl⟩)
      rintro mm fr τ ⟨a, za, zb, q, hmm, han, hza, hzb, hql, hqD, ⟨k, hk, hbl⟩, rfl, rfl⟩ hrec
      obtain ⟨k, rfl⟩ : ∃ k', k = k' + 1 := ⟨k - 1, by omega⟩
      rw [mrg] at hbl
      have ea : IntKind.i64.wrap (za + zw) = ((a + w : Nat) : Int) := by rw [wrap64 (by omega) (by omega)]; omega
      by_cases hlt : a + 2 * w ≤ n
      · rw [if_pos hlt] at hbl
        have ci := hsym (2 * w) q a (a + w) (a + 2 * w) za _ zb hql hza ea hzb hqD (by omega) (by omega) (by omega) (by omega)
        have e1 : IntKind.i64.wrap (zb + IntKind.i64.wrap (2 * zw)) = ((a + 2 * w + 2 * w : Nat) : Int) := by rw [e2, wrap64 (by omega) (by omega)]; omega
        repeat' first | (apply Go.adm; exact rfl) | apply Go.qs | apply Qg.nil | ((first | apply Go.v2 | apply Go.v1); (first | exact leAdd | assumption); iterate 6 exact rfl) | ((first | apply Go.op | apply Go.sop | apply Qg.op); exact rfl; (first | exact aop_alloc | exact aop_new rfl rfl | exact aop_mksl rfl | exact aop_lenM rfl | exact rfl | exact aL rfl rfl rfl rfl rfl | exact aS rfl rfl rfl rfl rfl rfl rfl)) | ((first | apply Go.no | apply Go.sno | apply Qg.no); exact rfl) | (exfalso; omega) | (((first | apply Go.iQ | apply Go.gQ | apply Go.sQ | apply Qg.gQ); exact rfl; (first | exact .d | exact .e | exact .n | ((fail_if_success exact bqt); (fail_if_success exact bqf); exact .b))) <;> intro _)
        refine .call _ rfl rfl rfl ci ?_
        rintro r τ ⟨rfl, rfl⟩
        repeat' first | (apply Go.adm; exact rfl) | apply Go.qs | apply Qg.nil | ((first | apply Go.v2 | apply Go.v1); (first | exact leAdd | assumption); iterate 6 exact rfl) | ((first | apply Go.op | apply Go.sop | apply Qg.op); exact rfl; (first | exact aop_alloc | exact aop_new rfl rfl | exact aop_mksl rfl | exact aop_lenM rfl | exact rfl | exact aL rfl rfl rfl rfl rfl | exact aS rfl rfl rfl rfl rfl rfl rfl)) | ((first | apply Go.no | apply Go.sno | apply Qg.no); exact rfl) | (exfalso; omega) | (((first | apply Go.iQ | apply Go.gQ | apply Go.sQ | apply Qg.gQ); exact rfl; (first | exact .d | exact .e | exact .n | ((fail_if_success exact bqt); (fail_if_success exact bqf); exact .b))) <;> intro _)
        exact Go.keep [0, 1, 2, 6, 7, 8] (hrec _ _ _ (by omega) ⟨a + 2 * w, _, _, _, rfl, hlt, hzb, e1, by rw [sym_len]; exact hql, fun x hx => hqD x (sym_mem hx), ⟨k, by omega, hbl⟩, rfl, rfl⟩)
      · rw [if_neg hlt] at hbl
        clear hrec
        by_cases ham : a + w < n
        · rw [if_pos ham] at hbl
          have ci := hsym (n - a) q a (a + w) n za _ n hql hza ea rfl hqD (by omega) (by omega) ham (by omega)
          repeat' first | (apply Go.adm; exact rfl) | apply Go.qs | apply Qg.nil | ((first | apply Go.v2 | apply Go.v1); (first | exact leAdd | assumption); iterate 6 exact rfl) | ((first | apply Go.op | apply Go.sop | apply Qg.op); exact rfl; (first | exact aop_alloc | exact aop_new rfl rfl | exact aop_mksl rfl | exact aop_lenM rfl | exact rfl | exact aL rfl rfl rfl rfl rfl | exact aS rfl rfl rfl rfl rfl rfl rfl)) | ((first | apply Go.no | apply Go.sno | apply Qg.no); exact rfl) | (exfalso; omega) | (((first | apply Go.iQ | apply Go.gQ | apply Go.sQ | apply Qg.gQ); exact rfl; (first | exact .d | exact .e | exact .n | ((fail_if_success exact bqt); (fail_if_success exact bqf); exact .b))) <;> intro _)
          all_goals first
            | (exfalso; omega)
            | skip
          refine .call _ rfl rfl rfl ci ?_
          rintro r τ ⟨rfl, rfl⟩
          repeat' first | (apply Go.adm; exact rfl) | apply Go.qs | apply Qg.nil | ((first | apply Go.v2 | apply Go.v1); (first | exact leAdd | assumption); iterate 6 exact rfl) | ((first | apply Go.op | apply Go.sop | apply Qg.op); exact rfl; (first | exact aop_alloc | exact aop_new rfl rfl | exact aop_mksl rfl | exact aop_lenM rfl | exact rfl | exact aL rfl rfl rfl rfl rfl | exact aS rfl rfl rfl rfl rfl rfl rfl)) | ((first | apply Go.no | apply Go.sno | apply Qg.no); exact rfl) | (exfalso; omega) | (((first | apply Go.iQ | apply Go.gQ | apply Go.sQ | apply Qg.gQ); exact rfl; (first | exact .d | exact .e | exact .n | ((fail_if_success exact bqt); (fail_if_success exact bqf); exact .b))) <;> intro _)
          exact Go.keep [0, 1, 2, 6] (out _ (by rw [sym_len]; exact hql) (fun x hx => hqD x (sym_mem hx)) hbl _ _ rfl rfl)
        · rw [if_neg ham] at hbl
          repeat' first | (apply Go.adm; exact rfl) | apply Go.qs | apply Qg.nil | ((first | apply Go.v2 | apply Go.v1); (first | exact leAdd | assumption); iterate 6 exact rfl) | ((first | apply Go.op | apply Go.sop | apply Qg.op); exact rfl; (first | exact aop_alloc | exact aop_new rfl rfl | exact aop_mksl rfl | exact aop_lenM rfl | exact rfl | exact aL rfl rfl rfl rfl rfl | exact aS rfl rfl rfl rfl rfl rfl rfl)) | ((first | apply Go.no | apply Go.sno | apply Qg.no); exact rfl) | (exfalso; omega) | (((first | apply Go.iQ | apply Go.gQ | apply Go.sQ | apply Qg.gQ); exact rfl; (first | exact .d | exact .e | exact .n | ((fail_if_success exact bqt); (fail_if_success exact bqf); exact .b))) <;> intro _)
          all_goals first
            | (exfalso; omega)
            | exact Go.keep [0, 1, 2, 6] (out _ hql hqD hbl _ _ rfl rfl)
    · rw [if_neg hwn] at hres
      repeat' first | (apply Go.adm; exact rfl) | apply Go.qs | apply Qg.nil | ((first | apply Go.v2 | apply Go.v1); (first | exact leAdd | assumption); iterate 6 exact rfl) | ((first | apply Go.op | apply Go.sop | apply Qg.op); exact rfl; (first | exact aop_alloc | exact aop_new rfl rfl | exact aop_mksl rfl | exact aop_lenM rfl | exact rfl | exact aL rfl rfl rfl rfl rfl | exact aS rfl rfl rfl rfl rfl rfl rfl)) | ((first | apply Go.no | apply Go.sno | apply Qg.no); exact rfl) | (exfalso; omega) | (((first | apply Go.iQ | apply Go.gQ | apply Go.sQ | apply Qg.gQ); exact rfl; (first | exact .d | exact .e | exact .n | ((fail_if_success exact bqt); (fail_if_success exact bqf); exact .b))) <;> intro _)
      exact .fin rfl ⟨rfl, by rw [hres]⟩
theorem sortStable_ok {P : Program} (hs : Sorts P) {fz : List Nat} {n : Nat} (hc : compFn P fz n = some c_slices_SortStableFunc_Entry) {α : Type} (F : Fam α) (D : α → Prop) (co : α → α → Int) (g : Nat) (pre cap : List Ce) (hcmp : Cmps P F D co g pre cap) (l : List α) (c : Nat) (hD : ∀ x ∈ l, D x) (hx : l.length ≤ 34359738368) :
    Ok P n [.c (.sl F.id F.v 0 l.length c), .c (.fn g pre cap)] (F.S l) (fun r τ => r = .tup [] ∧ τ = F.S (stableF co l)) := by
  refine .of_go hs.hm hc (Nat.le_of_ble_eq_true rfl) ?_
  repeat' first | (apply Go.adm; exact rfl) | apply Go.qs | apply Qg.nil | ((first | apply Go.v2 | apply Go.v1); (first | exact leAdd | assumption); iterate 6 exact rfl) | ((first | apply Go.op | apply Go.sop | apply Qg.op); exact rfl; (first | exact aop_alloc | exact aop_new rfl rfl | exact aop_mksl rfl | exact aop_lenM rfl | exact rfl | exact aL rfl rfl rfl rfl rfl | exact aS rfl rfl rfl rfl rfl rfl rfl)) | ((first | apply Go.no | apply Go.sno | apply Qg.no); exact rfl) | (exfalso; omega) | (((first | apply Go.iQ | apply Go.gQ | apply Go.sQ | apply Qg.gQ); exact rfl; (first | exact .d | exact .e | exact .n | ((fail_if_success exact bqt); (fail_if_success exact bqf); exact .b))) <;> intro _)
  refine .call _ rfl rfl rfl (stable_ok hs F D co g pre cap hcmp l c hD hx) ?_
  rintro r τ ⟨rfl, rfl⟩
  repeat' first | (apply Go.adm; exact rfl) | apply Go.qs | apply Qg.nil | ((first | apply Go.v2 | apply Go.v1); (first | exact leAdd | assumption); iterate 6 exact rfl) | ((first | apply Go.op | apply Go.sop | apply Qg.op); exact rfl; (first | exact aop_alloc | exact aop_new rfl rfl | exact aop_mksl rfl | exact aop_lenM rfl | exact rfl | exact aL rfl rfl rfl rfl rfl | exact aS rfl rfl rfl rfl rfl rfl rfl)) | ((first | apply Go.no | apply Go.sno | apply Qg.no); exact rfl) | (exfalso; omega) | (((first | apply Go.iQ | apply Go.gQ | apply Go.sQ | apply Qg.gQ); exact rfl; (first | exact .d | exact .e | exact .n | ((fail_if_success exact bqt); (fail_if_success exact bqf); exact .b))) <;> intro _)
  exact .fin rfl ⟨rfl, rfl⟩
end Go.Proofs.Ytcfpdongfdhgjaa.Am

/- The stable sort's plain law: swaps, rotations, shifts. -/
set_option linter.unusedVariables false
set_option linter.unusedSimpArgs false
namespace Go.Proofs.Ytcfpdongfdhgjaa.Am

theorem sw_app {α : Type} {A B C : List α} {x y : α} : sw (A ++ x :: (B ++ y :: C)) A.length (A.length + 1 + B.length) = A ++ y :: (B ++ x :: C) := by
  have h1 : (A ++ x :: (B ++ y :: C))[A.length]? = some x := by simp
  have h2 : (A ++ x :: (B ++ y :: C))[A.length + 1 + B.length]? = some y := by
    rw [List.getElem?_append_right (by omega), show A.length + 1 + B.length - A.length = B.length + 1 by omega, List.getElem?_cons_succ]
    simp
  rw [sw, h1, h2]
  simp only
  rw [List.set_append_right _ _ (Nat.le_refl _), Nat.sub_self, List.set_cons_zero, List.set_append_right _ _ (by omega), show A.length + 1 + B.length - A.length = B.length + 1 by omega, List.set_cons_succ, List.set_append_right _ _ (Nat.le_refl _), Nat.sub_self, List.set_cons_zero]
theorem swR_app {α : Type} : ∀ {X Y A B C : List α} {i a b : Nat}, X.length = Y.length → a + i = A.length → b + i = A.length + X.length + B.length → swR a b X.length i (A ++ (X ++ (B ++ (Y ++ C)))) = A ++ (Y ++ (B ++ (X ++ C)))
  | [], [], A, B, C, i, a, b, _, _, _ => by simp [swR]
  | [], _ :: _, _, _, _, _, _, _, h, _, _ => by simp at h
  | _ :: _, [], _, _, _, _, _, _, h, _, _ => by simp at h
  | x :: X, y :: Y, A, B, C, i, a, b, h, ha, hb => by
    simp only [List.length_cons] at h hb ⊢
    rw [swR, ha, hb]
    have e1 : A ++ (x :: X ++ (B ++ (y :: Y ++ C))) = A ++ x :: ((X ++ B) ++ y :: (Y ++ C)) := by simp
    have e2 : A.length + (X.length + 1) + B.length = A.length + 1 + (X ++ B).length := by simp; omega
    rw [e1, e2, sw_app]
    have e3 : A ++ y :: ((X ++ B) ++ x :: (Y ++ C)) = (A ++ [y]) ++ (X ++ ((B ++ [x]) ++ (Y ++ C))) := by simp
    rw [e3, swR_app (X := X) (Y := Y) (A := A ++ [y]) (B := B ++ [x]) (by omega) (by simp; omega) (by simp; omega)]
    simp
theorem rot_app {α : Type} {m : Nat} : ∀ {n : Nat} {A I J C : List α}, 1 ≤ I.length → 1 ≤ J.length → I.length + J.length ≤ n + 1 → m = A.length + I.length → rot m n I.length J.length (A ++ (I ++ (J ++ C))) = A ++ (J ++ (I ++ C))
  | 0, A, I, J, C, h1, h2, h3, hm => by omega
  | n + 1, A, I, J, C, h1, h2, h3, hm => by
    rw [rot]
    split
    · rename_i e
      have := swR_app (X := I) (Y := J) (A := A) (B := []) (C := C) (i := 0) (a := m - I.length) (b := m) e (by omega) (by simp; omega)
      simpa using this
    · rename_i hne
      split
      · rename_i hlt
        obtain ⟨I1, I2, rfl, hl⟩ : ∃ I1 I2, I = I1 ++ I2 ∧ I1.length = J.length := ⟨I.take J.length, I.drop J.length, (List.take_append_drop _ _).symm, by simp; omega⟩
        simp only [List.length_append] at h1 h3 hm hlt hne ⊢
        have := swR_app (X := I1) (Y := J) (A := A) (B := I2) (C := C) (i := 0) (a := m - (I1.length + I2.length)) (b := m) hl (by omega) (by omega)
        rw [← hl, List.append_assoc, this]
        have ih := rot_app (m := m) (n := n) (A := A ++ J) (I := I2) (J := I1) (C := C) (by omega) (by omega) (by omega) (by simp; omega)
        rw [show I1.length + I2.length - I1.length = I2.length by omega]
        simpa using ih
      · obtain ⟨J1, J2, rfl, hl⟩ : ∃ J1 J2, J = J1 ++ J2 ∧ J2.length = I.length := ⟨J.take (J.length - I.length), J.drop (J.length - I.length), (List.take_append_drop _ _).symm, by simp; omega⟩
        rename_i hlt
        simp only [List.length_append] at h2 h3 hm hlt hne ⊢
        have := swR_app (X := I) (Y := J2) (A := A) (B := J1) (C := C) (i := 0) (a := m - I.length) (b := m + (J1.length + J2.length) - I.length) hl.symm (by omega) (by omega)
        rw [List.append_assoc J1, this]
        have ih := rot_app (m := m) (n := n) (A := A) (I := J2) (J := J1) (C := I ++ C) (by omega) (by omega) (by omega) (by omega)
        rw [show J1.length + J2.length - I.length = J1.length by omega, ← hl]
        rw [ih]
        simp
theorem rotF_app {α : Type} {A I J C : List α} (h1 : 1 ≤ I.length) (h2 : 1 ≤ J.length) : rotF A.length (A.length + I.length) (A.length + I.length + J.length) (A ++ (I ++ (J ++ C))) = A ++ (J ++ (I ++ C)) := by
  have := rot_app (m := A.length + I.length) (n := A.length + I.length + J.length - A.length) (A := A) (I := I) (J := J) (C := C) h1 h2 (by omega) rfl
  rw [rotF, show A.length + I.length - A.length = I.length by omega, show A.length + I.length + J.length - (A.length + I.length) = J.length by omega]
  exact this
theorem shU_app {α : Type} : ∀ {Y A C : List α} {x : α}, shU Y.length A.length (A ++ x :: (Y ++ C)) = A ++ (Y ++ x :: C)
  | [], A, C, x => by simp [shU]
  | y :: Y, A, C, x => by
    have h := sw_app (A := A) (B := []) (C := Y ++ C) (x := x) (y := y)
    simp only [List.nil_append, List.length_nil, Nat.add_zero] at h
    rw [List.length_cons, shU, List.cons_append, h]
    have ih := shU_app (Y := Y) (A := A ++ [y]) (C := C) (x := x)
    simpa using ih
theorem shD_app {α : Type} : ∀ {n : Nat} {Y A C : List α} {x : α}, Y.length = n → shD n (A.length + n) (A ++ (Y ++ x :: C)) = A ++ x :: (Y ++ C)
  | 0, Y, A, C, x, h => by rw [List.eq_nil_of_length_eq_zero h]; simp [shD]
  | n + 1, Y, A, C, x, h => by
    obtain ⟨Z, y, rfl⟩ : ∃ Z y, Y = Z ++ [y] := ⟨Y.dropLast, Y.getLast (by intro e; simp [e] at h), (List.dropLast_concat_getLast _).symm⟩
    have hz : Z.length = n := by simp at h; omega
    have h1 := sw_app (A := A ++ Z) (B := []) (C := C) (x := y) (y := x)
    simp only [List.nil_append, List.length_nil, Nat.add_zero, List.length_append] at h1
    have hsym : ∀ (l : List α) (i j : Nat), i < l.length → j < l.length → i ≠ j → sw l j i = sw l i j := fun l i j hi hj hij => by
      rw [sw_eq hj hi, sw_eq hi hj, List.set_comm _ _ (fun e => hij e.symm)]
    rw [shD, show A.length + (n + 1) - 1 = A.length + n by omega]
    have e1 : A ++ (Z ++ [y] ++ x :: C) = A ++ Z ++ y :: x :: C := by simp
    rw [e1, hsym _ (A.length + n) (A.length + (n + 1)) (by simp; omega) (by simp; omega) (by omega)]
    rw [show A.length + (n + 1) = A.length + Z.length + 1 by omega, show A.length + n = A.length + Z.length by omega, h1]
    have ih := shD_app (n := n) (Y := Z) (A := A) (C := y :: C) (x := x) hz
    rw [← hz] at ih
    rw [← hz]
    simpa using ih
end Go.Proofs.Ytcfpdongfdhgjaa.Am

/- The stable sort's plain law: merging. -/
set_option linter.unusedVariables false
set_option linter.unusedSimpArgs false
namespace Go.Proofs.Ytcfpdongfdhgjaa.Am

theorem bs_spec {p : Nat → Bool} : ∀ {n i j : Nat}, i ≤ j → j - i ≤ n → (∀ h h', i ≤ h' → h' < h → h < j → p h = true → p h' = true) → (∀ h, i ≤ h → h < bs p n i j → p h = true) ∧ (∀ h, bs p n i j ≤ h → h < j → p h = false)
  | 0, i, j, h, hn, hm => ⟨fun q h1 h2 => by simp only [bs] at h2; omega, fun q h1 h2 => by simp only [bs] at h1; omega⟩
  | n + 1, i, j, h, hn, hm => by
    rw [bs]
    split
    · rename_i hlt
      cases hp : p ((i + j) / 2)
      · rw [if_neg Bool.false_ne_true]
        obtain ⟨h1, h2⟩ := bs_spec (p := p) (n := n) (i := i) (j := (i + j) / 2) (by omega) (by omega) fun a b p1 p2 p3 => hm a b p1 p2 (by omega)
        refine ⟨h1, fun q q1 q2 => ?_⟩
        by_cases hq : q < (i + j) / 2
        · exact h2 q q1 hq
        · by_cases he : q = (i + j) / 2
          · rw [he]; exact hp
          · cases hpq : p q
            · rfl
            · rw [hm q ((i + j) / 2) (by omega) (by omega) q2 hpq] at hp
              cases hp
      · rw [if_pos rfl]
        obtain ⟨h1, h2⟩ := bs_spec (p := p) (n := n) (i := (i + j) / 2 + 1) (j := j) (by omega) (by omega) fun a b p1 p2 p3 => hm a b (by omega) p2 p3
        refine ⟨fun q q1 q2 => ?_, h2⟩
        by_cases hq : q < (i + j) / 2
        · exact hm ((i + j) / 2) q q1 hq (by omega) hp
        · by_cases he : q = (i + j) / 2
          · rw [he]; exact hp
          · exact h1 q (by omega) q2
    · exact ⟨fun q q1 q2 => by omega, fun q q1 q2 => by omega⟩
structure SOrd {α : Type} (R : α → α → Prop) : Prop where
  trans : ∀ x y z, R x y → R y z → R x z
  asymm : ∀ x y, R x y → ¬ R y x
def Cross {α : Type} (c : α → α → Int) (R : α → α → Prop) (x y : α) : Prop := (c y x < 0 ↔ R y x) ∧ (¬ c y x < 0 → R x y)
section
variable {α : Type} {c : α → α → Int} {R : α → α → Prop}
theorem Cross.neg (hR : SOrd R) {x y : α} (h : Cross c R x y) : ¬ c y x < 0 ↔ R x y := ⟨h.2, fun h1 h2 => hR.asymm _ _ h1 (h.1.1 h2)⟩
theorem pw_at {X : List α} (h : X.Pairwise R) {i j : Nat} (hij : i < j) (hj : j < X.length) : R (X[i]'(by omega)) X[j] := List.pairwise_iff_getElem.1 h i j (by omega) hj hij
theorem sym_one (hR : SOrd R) {A Y C : List α} {x : α} (hY : Y.Pairwise R) (hc : ∀ y ∈ Y, Cross c R x y) :
    ∃ Z, shU (bs (fun h => ltA c (A ++ x :: (Y ++ C)) h A.length) Y.length (A.length + 1) (A.length + 1 + Y.length) - 1 - A.length) A.length (A ++ x :: (Y ++ C)) = A ++ (Z ++ C) ∧ Z.Perm (x :: Y) ∧ Z.Pairwise R := by
  have hp : ∀ k (hk : k < Y.length), ltA c (A ++ x :: (Y ++ C)) (A.length + 1 + k) A.length = decide (c Y[k] x < 0) := fun k hk => by
    have h1 : (A ++ x :: (Y ++ C))[A.length + 1 + k]? = some Y[k] := by
      rw [List.getElem?_append_right (by omega), show A.length + 1 + k - A.length = k + 1 by omega, List.getElem?_cons_succ, List.getElem?_append_left hk, List.getElem?_eq_getElem hk]
    have h2 : (A ++ x :: (Y ++ C))[A.length]? = some x := by simp
    rw [ltA, h1, h2]
  obtain ⟨p, hpp⟩ : ∃ p : Nat → Bool, p = fun h => ltA c (A ++ x :: (Y ++ C)) h A.length := ⟨_, rfl⟩
  have hp2 : ∀ h (h1 : A.length + 1 ≤ h) (h2 : h < A.length + 1 + Y.length), p h = true ↔ R (Y[h - (A.length + 1)]'(by omega)) x := fun h h1 h2 => by
    have := hp (h - (A.length + 1)) (by omega)
    rw [show A.length + 1 + (h - (A.length + 1)) = h by omega] at this
    rw [hpp]
    show ltA c (A ++ x :: (Y ++ C)) h A.length = true ↔ _
    rw [this, decide_eq_true_iff]
    exact (hc _ (List.getElem_mem _)).1
  obtain ⟨b1, b2⟩ := bs_in (p := p) (n := Y.length) (i := A.length + 1) (j := A.length + 1 + Y.length) (by omega)
  obtain ⟨s1, s2⟩ := bs_spec (p := p) (n := Y.length) (i := A.length + 1) (j := A.length + 1 + Y.length) (by omega) (by omega) fun h h' q1 q2 q3 q4 => (hp2 h' q1 (by omega)).2 (hR.trans _ _ _ (pw_at hY (by omega) (by omega)) ((hp2 h (by omega) q3).1 q4))
  rw [← hpp]
  generalize bs p Y.length (A.length + 1) (A.length + 1 + Y.length) = s at b1 b2 s1 s2
  refine ⟨Y.take (s - (A.length + 1)) ++ x :: Y.drop (s - (A.length + 1)), ?_, ?_, ?_⟩
  · have hl : (Y.take (s - (A.length + 1))).length = s - 1 - A.length := by rw [List.length_take]; omega
    have := shU_app (Y := Y.take (s - (A.length + 1))) (A := A) (C := Y.drop (s - (A.length + 1)) ++ C) (x := x)
    rw [hl, ← List.append_assoc (Y.take _), List.take_append_drop] at this
    rw [this]
    simp
  · have := List.perm_middle (l₁ := Y.take (s - (A.length + 1))) (a := x) (l₂ := Y.drop (s - (A.length + 1)))
    rw [List.take_append_drop] at this
    exact this
  · have ht : ∀ y ∈ Y.take (s - (A.length + 1)), R y x := fun y hy => by
      obtain ⟨k, hk, rfl⟩ := List.getElem_of_mem hy
      rw [List.length_take] at hk
      rw [List.getElem_take]
      have := (hp2 (A.length + 1 + k) (by omega) (by omega)).1 (s1 _ (by omega) (by omega))
      simpa [show A.length + 1 + k - (A.length + 1) = k by omega] using this
    have hd : ∀ y ∈ Y.drop (s - (A.length + 1)), R x y := fun y hy => by
      obtain ⟨k, hk, rfl⟩ := List.getElem_of_mem hy
      rw [List.length_drop] at hk
      rw [List.getElem_drop]
      have hf := s2 (s + k) (by omega) (by omega)
      refine ((hc _ (List.getElem_mem _)).neg hR).1 fun h => ?_
      have := (hp2 (s + k) (by omega) (by omega)).2 (by
        have := (hc _ (List.getElem_mem _)).1.1 h
        simpa [show s + k - (A.length + 1) = s - (A.length + 1) + k by omega] using this)
      rw [this] at hf
      cases hf
    rw [List.pairwise_append, List.pairwise_cons]
    refine ⟨hY.sublist (List.take_sublist _ _), ⟨hd, hY.sublist (List.drop_sublist _ _)⟩, fun a ha b hb => ?_⟩
    rcases List.mem_cons.1 hb with rfl | hb
    · exact ht a ha
    · exact hR.trans _ _ _ (ht a ha) (hd b hb)
theorem sym_last (hR : SOrd R) {A X C : List α} {y : α} (hX : X.Pairwise R) (hc : ∀ x ∈ X, Cross c R x y) :
    ∃ Z, shD (A.length + X.length - bs (fun h => !ltA c (A ++ (X ++ y :: C)) (A.length + X.length) h) X.length A.length (A.length + X.length)) (A.length + X.length) (A ++ (X ++ y :: C)) = A ++ (Z ++ C) ∧ Z.Perm (X ++ [y]) ∧ Z.Pairwise R := by
  have hp : ∀ k (hk : k < X.length), ltA c (A ++ (X ++ y :: C)) (A.length + X.length) (A.length + k) = decide (c y X[k] < 0) := fun k hk => by
    have h1 : (A ++ (X ++ y :: C))[A.length + k]? = some X[k] := by
      rw [List.getElem?_append_right (by omega), show A.length + k - A.length = k by omega, List.getElem?_append_left hk, List.getElem?_eq_getElem hk]
    have h2 : (A ++ (X ++ y :: C))[A.length + X.length]? = some y := by
      rw [List.getElem?_append_right (by omega), show A.length + X.length - A.length = X.length by omega, List.getElem?_append_right (Nat.le_refl _), Nat.sub_self]
      rfl
    rw [ltA, h1, h2]
  obtain ⟨p, hpp⟩ : ∃ p : Nat → Bool, p = fun h => !ltA c (A ++ (X ++ y :: C)) (A.length + X.length) h := ⟨_, rfl⟩
  have hp2 : ∀ h (h1 : A.length ≤ h) (h2 : h < A.length + X.length), p h = true ↔ R (X[h - A.length]'(by omega)) y := fun h h1 h2 => by
    have := hp (h - A.length) (by omega)
    rw [show A.length + (h - A.length) = h by omega] at this
    rw [hpp]
    show (!ltA c (A ++ (X ++ y :: C)) (A.length + X.length) h) = true ↔ _
    rw [this, Bool.not_eq_true', decide_eq_false_iff_not]
    exact (hc _ (List.getElem_mem _)).neg hR
  obtain ⟨b1, b2⟩ := bs_in (p := p) (n := X.length) (i := A.length) (j := A.length + X.length) (by omega)
  obtain ⟨s1, s2⟩ := bs_spec (p := p) (n := X.length) (i := A.length) (j := A.length + X.length) (by omega) (by omega) fun h h' q1 q2 q3 q4 => (hp2 h' q1 (by omega)).2 (hR.trans _ _ _ (pw_at hX (by omega) (by omega)) ((hp2 h (by omega) q3).1 q4))
  rw [← hpp]
  generalize bs p X.length A.length (A.length + X.length) = s at b1 b2 s1 s2
  refine ⟨X.take (s - A.length) ++ y :: X.drop (s - A.length), ?_, ?_, ?_⟩
  · have hl : (X.drop (s - A.length)).length = A.length + X.length - s := by rw [List.length_drop]; omega
    have := shD_app (Y := X.drop (s - A.length)) (A := A ++ X.take (s - A.length)) (C := C) (x := y) hl
    rw [List.append_assoc, ← List.append_assoc (X.take _), List.take_append_drop] at this
    have hl2 : (A ++ X.take (s - A.length)).length + (A.length + X.length - s) = A.length + X.length := by rw [List.length_append, List.length_take]; omega
    rw [hl2] at this
    rw [this]
    simp
  · have := List.perm_middle (l₁ := X.take (s - A.length)) (a := y) (l₂ := X.drop (s - A.length))
    rw [List.take_append_drop] at this
    exact this.trans (List.perm_append_singleton y X).symm
  · have ht : ∀ x ∈ X.take (s - A.length), R x y := fun x hx => by
      obtain ⟨k, hk, rfl⟩ := List.getElem_of_mem hx
      rw [List.length_take] at hk
      rw [List.getElem_take]
      have := (hp2 (A.length + k) (by omega) (by omega)).1 (s1 _ (by omega) (by omega))
      simpa [show A.length + k - A.length = k by omega] using this
    have hd : ∀ x ∈ X.drop (s - A.length), R y x := fun x hx => by
      obtain ⟨k, hk, rfl⟩ := List.getElem_of_mem hx
      rw [List.length_drop] at hk
      rw [List.getElem_drop]
      have hf := s2 (s + k) (by omega) (by omega)
      have hcc := hc (X[s - A.length + k]'(by omega)) (List.getElem_mem _)
      refine Classical.byContradiction fun h => ?_
      have h3 : R X[s - A.length + k] y := hcc.2 fun h4 => h (hcc.1.1 h4)
      have := (hp2 (s + k) (by omega) (by omega)).2 (by simpa [show s + k - A.length = s - A.length + k by omega] using h3)
      rw [this] at hf
      cases hf
    rw [List.pairwise_append, List.pairwise_cons]
    refine ⟨hX.sublist (List.take_sublist _ _), ⟨hd, hX.sublist (List.drop_sublist _ _)⟩, fun a ha b hb => ?_⟩
    rcases List.mem_cons.1 hb with rfl | hb
    · exact ht a ha
    · exact hR.trans _ _ _ (ht a ha) (hd b hb)
end
end Go.Proofs.Ytcfpdongfdhgjaa.Am

/- The stable sort's plain law: merging, whole. -/
set_option linter.unusedVariables false
set_option linter.unusedSimpArgs false
namespace Go.Proofs.Ytcfpdongfdhgjaa.Am

section
variable {α : Type} {c : α → α → Int} {R : α → α → Prop}
theorem pw_le {X : List α} (h : X.Pairwise R) {i j : Nat} (hij : i ≤ j) (hj : j < X.length) : X[i]'(by omega) = X[j] ∨ R (X[i]'(by omega)) X[j] := by
  by_cases e : i = j
  · subst e; exact .inl rfl
  · exact .inr (pw_at h (by omega) hj)
theorem chain3 (hR : SOrd R) {x u v y : α} (h1 : x = u ∨ R x u) (h2 : R u v) (h3 : v = y ∨ R v y) : R x y := by
  rcases h1 with rfl | h1 <;> rcases h3 with rfl | h3
  · exact h2
  · exact hR.trans _ _ _ h2 h3
  · exact hR.trans _ _ _ h1 h2
  · exact hR.trans _ _ _ h1 (hR.trans _ _ _ h2 h3)
theorem nil_of_len {X : List α} (h : X.length = 0) : X = [] := List.eq_nil_of_length_eq_zero h
theorem sym_app (hR : SOrd R) : ∀ (n : Nat) {A X Y C : List α}, 1 ≤ X.length → 1 ≤ Y.length → X.length + Y.length ≤ n → X.Pairwise R → Y.Pairwise R → (∀ x ∈ X, ∀ y ∈ Y, Cross c R x y) →
    ∃ Z, sym c n A.length (A.length + X.length) (A.length + X.length + Y.length) (A ++ (X ++ (Y ++ C))) = A ++ (Z ++ C) ∧ Z.Perm (X ++ Y) ∧ Z.Pairwise R
  | 0, A, X, Y, C, hx, hy, hn, _, _, _ => by omega
  | n + 1, A, X, Y, C, hx, hy, hn, hX, hY, hc => by
    rw [sym]
    by_cases hx1 : X.length = 1
    · obtain ⟨x, rfl⟩ := List.length_eq_one_iff.1 hx1
      obtain ⟨Z, h1, h2, h3⟩ := sym_one (c := c) hR (A := A) (C := C) hY (hc x (by simp))
      simp only [List.length_singleton] at *
      rw [if_pos (by omega), show A.length + 1 + Y.length - (A.length + 1) = Y.length by omega]
      exact ⟨Z, h1, h2, h3⟩
    rw [if_neg (by omega)]
    by_cases hy1 : Y.length = 1
    · obtain ⟨y, rfl⟩ := List.length_eq_one_iff.1 hy1
      obtain ⟨Z, h1, h2, h3⟩ := sym_last (c := c) hR (A := A) (C := C) hX (fun x hx => hc x hx y (by simp))
      simp only [List.length_singleton] at *
      rw [if_pos (by omega), show A.length + X.length - A.length = X.length by omega]
      exact ⟨Z, h1, h2, h3⟩
    rw [if_neg (by omega)]
    obtain ⟨a, ha⟩ : ∃ a, a = A.length := ⟨_, rfl⟩
    obtain ⟨m, hm⟩ : ∃ m, m = A.length + X.length := ⟨_, rfl⟩
    obtain ⟨b, hb⟩ : ∃ b, b = A.length + X.length + Y.length := ⟨_, rfl⟩
    obtain ⟨l, hl⟩ : ∃ l, l = A ++ (X ++ (Y ++ C)) := ⟨_, rfl⟩
    rw [← hb, ← hm, ← ha, ← hl]
    obtain ⟨mid, hmid⟩ : ∃ k, k = (a + b) / 2 := ⟨_, rfl⟩
    obtain ⟨p, hp⟩ : ∃ p : Nat → Bool, p = fun h => !ltA c l (mid + m - 1 - h) h := ⟨_, rfl⟩
    obtain ⟨s0, hs0⟩ : ∃ k, k = if mid < m then mid + m - b else a := ⟨_, rfl⟩
    obtain ⟨r0, hr0⟩ : ∃ k, k = if mid < m then mid else m := ⟨_, rfl⟩
    obtain ⟨f0, hf0⟩ : ∃ k, k = if mid < m then b - m else m - a := ⟨_, rfl⟩
    have hst : symStart c a m b l = bs p f0 s0 r0 := by
      rw [symStart, ← hmid, ← hp, hs0, hr0, hf0]
      split <;> rfl
    have hrange : s0 ≤ r0 ∧ r0 ≤ m ∧ r0 ≤ mid ∧ a ≤ s0 ∧ r0 - s0 ≤ f0 ∧ mid + m ≤ s0 + b ∧ (r0 = m ∨ r0 = mid) ∧ (s0 = a ∨ mid + m = s0 + b) := by
      rw [hs0, hr0, hf0]
      split <;> omega
    clear hs0 hr0 hf0
    obtain ⟨r1, r2, r3, r4, r5, r6, r7, r8⟩ := hrange
    simp only [hst, ← hmid]
    have hlX : ∀ h (h1 : a ≤ h) (h2 : h < m), l[h]? = some (X[h - a]'(by omega)) := fun h h1 h2 => by
      rw [hl, List.getElem?_append_right (by omega), List.getElem?_append_left (by omega), ← ha, List.getElem?_eq_getElem (by omega)]
    have hlY : ∀ h (h1 : m ≤ h) (h2 : h < b), l[h]? = some (Y[h - m]'(by omega)) := fun h h1 h2 => by
      rw [hl, List.getElem?_append_right (by omega), List.getElem?_append_right (by omega), List.getElem?_append_left (by omega), List.getElem?_eq_getElem (by omega)]
      congr 2
      omega
    have hp2 : ∀ h (h1 : s0 ≤ h) (h2 : h < r0), p h = true ↔ R (X[h - a]'(by omega)) (Y[mid + m - 1 - h - m]'(by omega)) := fun h h1 h2 => by
      rw [hp]
      show (!ltA c l (mid + m - 1 - h) h) = true ↔ _
      rw [ltA, hlX h (by omega) (by omega), hlY (mid + m - 1 - h) (by omega) (by omega)]
      simp only [Bool.not_eq_true', decide_eq_false_iff_not]
      exact (hc _ (List.getElem_mem _) _ (List.getElem_mem _)).neg hR
    obtain ⟨b1, b2⟩ := bs_in (p := p) (n := f0) r1
    obtain ⟨s1, s2⟩ := bs_spec (p := p) (n := f0) r1 r5 fun h h' q1 q2 q3 q4 => (hp2 h' q1 (by omega)).2 (chain3 hR (.inr (pw_at hX (by omega) (by omega))) ((hp2 h (by omega) q3).1 q4) (pw_le hY (by omega) (by omega)))
    clear hst hp hlX hlY r5
    generalize bs p f0 s0 r0 = s at b1 b2 s1 s2 ⊢
    obtain ⟨e, he⟩ : ∃ e, e = mid + m - s := ⟨_, rfl⟩
    rw [← he]
    obtain ⟨X1, hX1⟩ : ∃ q, q = X.take (s - a) := ⟨_, rfl⟩
    obtain ⟨X2, hX2⟩ : ∃ q, q = X.drop (s - a) := ⟨_, rfl⟩
    obtain ⟨Y1, hY1⟩ : ∃ q, q = Y.take (e - m) := ⟨_, rfl⟩
    obtain ⟨Y2, hY2⟩ : ∃ q, q = Y.drop (e - m) := ⟨_, rfl⟩
    have lX1 : X1.length = s - a := by rw [hX1, List.length_take]; omega
    have lX2 : X2.length = m - s := by rw [hX2, List.length_drop]; omega
    have lY1 : Y1.length = e - m := by rw [hY1, List.length_take]; omega
    have lY2 : Y2.length = b - e := by rw [hY2, List.length_drop]; omega
    have eX : X1 ++ X2 = X := by rw [hX1, hX2, List.take_append_drop]
    have eY : Y1 ++ Y2 = Y := by rw [hY1, hY2, List.take_append_drop]
    -- what is ahead of what
    have cXY : ∀ x ∈ X1, ∀ y ∈ Y2, R x y := fun x hx y hy => by
      rw [hX1] at hx
      rw [hY2] at hy
      obtain ⟨i, hi, rfl⟩ := List.getElem_of_mem hx
      obtain ⟨k, hk, rfl⟩ := List.getElem_of_mem hy
      rw [List.length_take] at hi
      rw [List.length_drop] at hk
      rw [List.getElem_take, List.getElem_drop]
      have h1 := (hp2 (s - 1) (by omega) (by omega)).1 (s1 _ (by omega) (by omega))
      exact chain3 hR (pw_le hX (by omega) (by omega)) h1 (pw_le hY (by omega) (by omega))
    have cYX : ∀ y ∈ Y1, ∀ x ∈ X2, R y x := fun y hy x hx => by
      rw [hX2] at hx
      rw [hY1] at hy
      obtain ⟨i, hi, rfl⟩ := List.getElem_of_mem hx
      obtain ⟨k, hk, rfl⟩ := List.getElem_of_mem hy
      rw [List.length_drop] at hi
      rw [List.length_take] at hk
      rw [List.getElem_take, List.getElem_drop]
      have h1 := s2 s (Nat.le_refl _) (by omega)
      have hcc := hc (X[s - a]'(by omega)) (List.getElem_mem _) (Y[mid + m - 1 - s - m]'(by omega)) (List.getElem_mem _)
      have h2 : R (Y[mid + m - 1 - s - m]'(by omega)) (X[s - a]'(by omega)) := Classical.byContradiction fun h => by
        have h3 := hcc.2 fun h4 => h (hcc.1.1 h4)
        rw [(hp2 s b1 (by omega)).2 h3] at h1
        cases h1
      exact chain3 hR (pw_le hY (by omega) (by omega)) h2 (pw_le hX (by omega) (by omega))
    have pX := hX
    have pY := hY
    rw [← eX, List.pairwise_append] at pX
    rw [← eY, List.pairwise_append] at pY
    have hc2 : ∀ x ∈ X1 ++ X2, ∀ y ∈ Y1 ++ Y2, Cross c R x y := by rw [eX, eY]; exact hc
    have hl1 : (if s < m ∧ m < e then rotF s m e l else l) = A ++ (X1 ++ (Y1 ++ (X2 ++ (Y2 ++ C)))) := by
      have e0 : l = A ++ (X1 ++ (X2 ++ (Y1 ++ (Y2 ++ C)))) := by
        rw [hl, ← eX, ← eY]
        simp
      split
      · have := rotF_app (A := A ++ X1) (I := X2) (J := Y1) (C := Y2 ++ C) (by omega) (by omega)
        rw [List.length_append, lX1, lX2, lY1, ← ha, show a + (s - a) = s by omega, show s + (m - s) = m by omega, show m + (e - m) = e by omega] at this
        rw [e0]
        simpa using this
      · rw [e0]
        by_cases h0 : X2.length = 0
        · rw [nil_of_len h0]; simp
        · rw [nil_of_len (X := Y1) (by omega)]; simp
    rw [hl1]
    obtain ⟨Z1, z1, z2, z3⟩ : ∃ Z1, (if a < s ∧ s < mid then sym c n a s mid (A ++ (X1 ++ (Y1 ++ (X2 ++ (Y2 ++ C))))) else A ++ (X1 ++ (Y1 ++ (X2 ++ (Y2 ++ C))))) = A ++ (Z1 ++ (X2 ++ (Y2 ++ C))) ∧ Z1.Perm (X1 ++ Y1) ∧ Z1.Pairwise R := by
      split
      · obtain ⟨Z, h1, h2, h3⟩ := sym_app hR n (A := A) (X := X1) (Y := Y1) (C := X2 ++ (Y2 ++ C)) (by omega) (by omega) (by omega) pX.1 pY.1 (fun x hx y hy => hc2 x (List.mem_append_left _ hx) y (List.mem_append_left _ hy))
        rw [lX1, lY1, ← ha, show a + (s - a) = s by omega, show s + (e - m) = mid by omega] at h1
        exact ⟨Z, h1, h2, h3⟩
      · refine ⟨X1 ++ Y1, by simp, .refl _, ?_⟩
        by_cases h0 : X1.length = 0
        · rw [nil_of_len h0]; exact pY.1
        · rw [nil_of_len (X := Y1) (by omega), List.append_nil]; exact pX.1
    rw [z1]
    have lZ1 : Z1.length = mid - a := by rw [z2.length_eq, List.length_append]; omega
    obtain ⟨Z2, w1, w2, w3⟩ : ∃ Z2, (if mid < e ∧ e < b then sym c n mid e b (A ++ (Z1 ++ (X2 ++ (Y2 ++ C)))) else A ++ (Z1 ++ (X2 ++ (Y2 ++ C)))) = A ++ (Z1 ++ (Z2 ++ C)) ∧ Z2.Perm (X2 ++ Y2) ∧ Z2.Pairwise R := by
      split
      · obtain ⟨Z, h1, h2, h3⟩ := sym_app hR n (A := A ++ Z1) (X := X2) (Y := Y2) (C := C) (by omega) (by omega) (by omega) pX.2.1 pY.2.1 (fun x hx y hy => hc2 x (List.mem_append_right _ hx) y (List.mem_append_right _ hy))
        rw [List.length_append, lZ1, lX2, lY2, ← ha, show a + (mid - a) = mid by omega, show mid + (m - s) = e by omega, show e + (b - e) = b by omega] at h1
        refine ⟨Z, ?_, h2, h3⟩
        simpa using h1
      · refine ⟨X2 ++ Y2, by simp, .refl _, ?_⟩
        by_cases h0 : X2.length = 0
        · rw [nil_of_len h0]; exact pY.2.1
        · rw [nil_of_len (X := Y2) (by omega), List.append_nil]; exact pX.2.1
    rw [w1]
    refine ⟨Z1 ++ Z2, by simp, ?_, ?_⟩
    · refine (z2.append w2).trans ?_
      rw [← eX, ← eY, List.append_assoc, List.append_assoc]
      exact (List.perm_append_comm_assoc Y1 X2 Y2).append_left X1
    · rw [List.pairwise_append]
      refine ⟨z3, w3, fun x hx y hy => ?_⟩
      rcases List.mem_append.1 (z2.mem_iff.1 hx) with hx | hx <;> rcases List.mem_append.1 (w2.mem_iff.1 hy) with hy | hy
      · exact pX.2.2 x hx y hy
      · exact cXY x hx y hy
      · exact cYX x hx y hy
      · exact pY.2.2 x hx y hy
end
end Go.Proofs.Ytcfpdongfdhgjaa.Am

/- The stable sort's plain law, whole. -/
set_option linter.unusedVariables false
set_option linter.unusedSimpArgs false
namespace Go.Proofs.Ytcfpdongfdhgjaa.Am

section
variable {α : Type} {c : α → α → Int} {R : α → α → Prop}
theorem insIn_app (hR : SOrd R) : ∀ (n : Nat) {A S C : List α} {x : α}, S.length = n → S.Pairwise R → (∀ s ∈ S, Cross c R s x) → ∃ Z, insIn c A.length (A.length + n) (A ++ (S ++ x :: C)) = A ++ (Z ++ C) ∧ Z.Perm (S ++ [x]) ∧ Z.Pairwise R
  | 0, A, S, C, x, hn, hS, hc => by
    rw [nil_of_len hn]
    refine ⟨[x], ?_, by simp, by simp⟩
    have : insIn c A.length (A.length + 0) (A ++ ([] ++ x :: C)) = A ++ ([] ++ x :: C) := by
      generalize hj : A.length + 0 = j
      cases j with
      | zero => rfl
      | succ j => rw [insIn, if_neg (fun h => by omega)]
    rw [this]
    simp
  | n + 1, A, S, C, x, hn, hS, hc => by
    obtain ⟨T, s, rfl⟩ : ∃ T s, S = T ++ [s] := ⟨S.dropLast, S.getLast (by intro e; simp [e] at hn), (List.dropLast_concat_getLast _).symm⟩
    have hT : T.length = n := by simp at hn; omega
    rw [List.pairwise_append] at hS
    have hcs := hc s (by simp)
    have e1 : A ++ (T ++ [s] ++ x :: C) = (A ++ T) ++ s :: ([] ++ x :: C) := by simp
    have h1 : (A ++ (T ++ [s] ++ x :: C))[A.length + n]? = some s := by
      rw [e1, List.getElem?_append_right (by simp; omega)]
      simp [hT]
    have h2 : (A ++ (T ++ [s] ++ x :: C))[A.length + n + 1]? = some x := by
      rw [e1, List.getElem?_append_right (by simp; omega)]
      simp [hT]
    have hl : ltA c (A ++ (T ++ [s] ++ x :: C)) (A.length + n + 1) (A.length + n) = decide (c x s < 0) := by rw [ltA, h1, h2]
    rw [show A.length + (n + 1) = A.length + n + 1 by omega, insIn, hl]
    by_cases hlt : c x s < 0
    · rw [if_pos ⟨by omega, decide_eq_true hlt⟩]
      have hs : sw (A ++ (T ++ [s] ++ x :: C)) (A.length + n + 1) (A.length + n) = A ++ (T ++ x :: (s :: C)) := by
        have h3 := sw_app (A := A ++ T) (B := []) (C := C) (x := s) (y := x)
        have hsym : ∀ (l : List α) (i j : Nat), i < l.length → j < l.length → i ≠ j → sw l j i = sw l i j := fun l i j hi hj hij => by
          rw [sw_eq hj hi, sw_eq hi hj, List.set_comm _ _ (fun e => hij e.symm)]
        rw [e1, hsym _ (A.length + n) (A.length + n + 1) (by simp; omega) (by simp; omega) (by omega)]
        simp only [List.length_append, hT, List.length_nil, Nat.add_zero] at h3
        rw [h3]
        simp
      rw [hs]
      obtain ⟨Z, z1, z2, z3⟩ := insIn_app hR n (A := A) (S := T) (C := s :: C) (x := x) hT hS.1 (fun q hq => hc q (by simp [hq]))
      refine ⟨Z ++ [s], by rw [z1]; simp, ?_, ?_⟩
      · refine (z2.append_right [s]).trans ?_
        simp only [List.append_assoc]
        exact (List.perm_append_comm (l₁ := [x]) (l₂ := [s])).append_left T
      · rw [List.pairwise_append]
        refine ⟨z3, by simp, fun z hz q hq => ?_⟩
        rw [List.mem_singleton.1 hq]
        rcases List.mem_append.1 (z2.mem_iff.1 hz) with hz | hz
        · exact hS.2.2 z hz s (by simp)
        · rw [List.mem_singleton.1 hz]
          exact hcs.1.1 hlt
    · rw [if_neg (by simp [hlt])]
      have hsx : R s x := hcs.2 hlt
      refine ⟨T ++ [s] ++ [x], by simp, .refl _, ?_⟩
      rw [List.pairwise_append]
      refine ⟨by rw [List.pairwise_append]; exact hS, by simp, fun z hz q hq => ?_⟩
      rw [List.mem_singleton.1 hq]
      rcases List.mem_append.1 hz with hz | hz
      · exact hR.trans _ _ _ (hS.2.2 z hz s (by simp)) hsx
      · rw [List.mem_singleton.1 hz]
        exact hsx
theorem insOut_app (hR : SOrd R) : ∀ {T A S C : List α}, S.Pairwise R → T.Pairwise (Cross c R) → (∀ s ∈ S, ∀ t ∈ T, Cross c R s t) → ∃ Z, insOut c A.length T.length (A.length + S.length) (A ++ (S ++ (T ++ C))) = A ++ (Z ++ C) ∧ Z.Perm (S ++ T) ∧ Z.Pairwise R
  | [], A, S, C, hS, hT, hc => ⟨S, by simp [insOut], by simp, hS⟩
  | t :: T, A, S, C, hS, hT, hc => by
    rw [List.pairwise_cons] at hT
    obtain ⟨Z, z1, z2, z3⟩ := insIn_app (c := c) hR S.length (A := A) (S := S) (C := T ++ C) (x := t) rfl hS (fun s hs => hc s hs t (by simp))
    rw [List.length_cons, insOut, List.cons_append, z1]
    have hl : Z.length = S.length + 1 := by rw [z2.length_eq]; simp
    obtain ⟨W, w1, w2, w3⟩ := insOut_app hR (T := T) (A := A) (S := Z) (C := C) z3 hT.2 (fun s hs q hq => by
      rcases List.mem_append.1 (z2.mem_iff.1 hs) with hs | hs
      · exact hc s hs q (by simp [hq])
      · rw [List.mem_singleton.1 hs]; exact hT.1 q hq)
    rw [hl, ← Nat.add_assoc] at w1
    refine ⟨W, w1, w2.trans ?_, w3⟩
    refine (z2.append_right T).trans ?_
    simp
theorem insF_app (hR : SOrd R) {A X C : List α} (hX : X.Pairwise (Cross c R)) : ∃ Z, insF c A.length (A.length + X.length) (A ++ (X ++ C)) = A ++ (Z ++ C) ∧ Z.Perm X ∧ Z.Pairwise R := by
  cases X with
  | nil => exact ⟨[], by simp [insF, insOut], .refl _, .nil⟩
  | cons x T =>
    rw [List.pairwise_cons] at hX
    obtain ⟨Z, z1, z2, z3⟩ := insOut_app (c := c) hR (T := T) (A := A) (S := [x]) (C := C) (by simp) hX.2 (fun s hs t ht => by rw [List.mem_singleton.1 hs]; exact hX.1 t ht)
    refine ⟨Z, ?_, z2, z3⟩
    rw [insF, List.length_cons, show A.length + (T.length + 1) - (A.length + 1) = T.length by omega]
    exact z1
inductive Blocks (c : α → α → Int) (R : α → α → Prop) (w : Nat) : List α → Prop
  | last (X : List α) : X.length ≤ w → X.Pairwise R → Blocks c R w X
  | cons (X l : List α) : X.length = w → X.Pairwise R → (∀ x ∈ X, ∀ y ∈ l, Cross c R x y) → Blocks c R w l → Blocks c R w (X ++ l)
theorem Blocks.few {w : Nat} {l : List α} (h : Blocks c R w l) (hl : l.length ≤ w) : l.Pairwise R := by
  cases h with
  | last X h1 h2 => exact h2
  | cons X l h1 h2 h3 h4 =>
    rw [List.length_append] at hl
    rw [nil_of_len (X := l) (by omega), List.append_nil]
    exact h2
theorem Blocks.head {w : Nat} {l : List α} (h : Blocks c R w l) (hl : w < l.length) : ∃ X q, l = X ++ q ∧ X.length = w ∧ X.Pairwise R ∧ (∀ x ∈ X, ∀ y ∈ q, Cross c R x y) ∧ Blocks c R w q := by
  cases h with
  | last X h1 h2 => omega
  | cons X l h1 h2 h3 h4 => exact ⟨X, l, rfl, h1, h2, h3, h4⟩
theorem mrg_app (hR : SOrd R) {w : Nat} (hw : 1 ≤ w) {n : Nat} : ∀ (k : Nat) {A l : List α}, n = A.length + l.length → l.length < k → Blocks c R w l → ∃ q, mrg c n w k A.length (A ++ l) = A ++ q ∧ q.Perm l ∧ Blocks c R (2 * w) q
  | 0, A, l, hn, hk, hB => by omega
  | k + 1, A, l, hn, hk, hB => by
    rw [mrg]
    by_cases h2 : A.length + 2 * w ≤ n
    · rw [if_pos h2]
      obtain ⟨X, q, rfl, hX, pX, cX, hq⟩ := hB.head (by omega)
      rw [List.length_append] at hn hk
      obtain ⟨Y, u, rfl, hY, pY, hu, cY⟩ : ∃ Y u, q = Y ++ u ∧ Y.length = w ∧ Y.Pairwise R ∧ Blocks c R w u ∧ (∀ y ∈ Y, ∀ z ∈ u, Cross c R y z) := by
        by_cases hqw : q.length = w
        · exact ⟨q, [], by simp, hqw, hq.few (by omega), .last [] (by simp) .nil, fun y _ z hz => by simp at hz⟩
        · obtain ⟨Y, u, e, h1, h2, h3, h4⟩ := hq.head (by omega)
          exact ⟨Y, u, e, h1, h2, h4, h3⟩
      obtain ⟨Z, z1, z2, z3⟩ := sym_app (c := c) hR (2 * w) (A := A) (X := X) (Y := Y) (C := u) (by omega) (by omega) (by omega) pX pY (fun x hx y hy => cX x hx y (List.mem_append_left _ hy))
      rw [hX, hY, show A.length + w + w = A.length + 2 * w by omega] at z1
      rw [z1]
      have hZ : Z.length = 2 * w := by rw [z2.length_eq, List.length_append]; omega
      rw [List.length_append] at hn hk
      obtain ⟨v, v1, v2, v3⟩ := mrg_app hR hw (n := n) k (A := A ++ Z) (l := u) (by rw [List.length_append]; omega) (by omega) hu
      rw [List.length_append, hZ] at v1
      refine ⟨Z ++ v, by rw [← List.append_assoc, v1, List.append_assoc], ?_, ?_⟩
      · refine (z2.append v2).trans ?_
        simp
      · refine .cons Z v hZ z3 (fun x hx y hy => ?_) v3
        have hy := v2.mem_iff.1 hy
        rcases List.mem_append.1 (z2.mem_iff.1 hx) with hx | hx
        · exact cX x hx y (List.mem_append_right _ hy)
        · exact cY x hx y hy
    · rw [if_neg h2]
      by_cases h1 : A.length + w < n
      · rw [if_pos h1]
        obtain ⟨X, Y, rfl, hX, pX, cX, hq⟩ := hB.head (by omega)
        rw [List.length_append] at hn hk
        have pY := hq.few (by omega)
        obtain ⟨Z, z1, z2, z3⟩ := sym_app (c := c) hR (n - A.length) (A := A) (X := X) (Y := Y) (C := []) (by omega) (by omega) (by omega) pX pY cX
        rw [hX, show A.length + w + Y.length = n by omega, List.append_nil, List.append_nil] at z1
        refine ⟨Z, z1, z2, .last Z ?_ z3⟩
        rw [z2.length_eq, List.length_append]
        omega
      · rw [if_neg h1]
        exact ⟨l, rfl, .refl _, .last l (by omega) (hB.few (by omega))⟩
theorem mrgs_app (hR : SOrd R) {n : Nat} : ∀ (k : Nat) {w : Nat} {l : List α}, 1 ≤ w → n = l.length → n - w < k → Blocks c R w l → (mrgs c n k w l).Perm l ∧ (mrgs c n k w l).Pairwise R
  | 0, w, l, hw, hn, hk, hB => by omega
  | k + 1, w, l, hw, hn, hk, hB => by
    rw [mrgs]
    by_cases h : w < n
    · rw [if_pos h]
      obtain ⟨q, q1, q2, q3⟩ := mrg_app hR hw (n := n) (n + 1) (A := []) (l := l) (by simpa using hn) (by omega) hB
      simp only [List.length_nil, List.nil_append] at q1
      rw [q1]
      obtain ⟨h1, h2⟩ := mrgs_app hR (n := n) k (w := 2 * w) (l := q) (by omega) (by rw [q2.length_eq]; exact hn) (by omega) q3
      exact ⟨h1.trans q2, h2⟩
    · rw [if_neg h]
      exact ⟨.refl _, hB.few (by omega)⟩
theorem blk_app (hR : SOrd R) {n : Nat} : ∀ (k : Nat) {A X : List α}, n = A.length + X.length → X.length < k → X.Pairwise (Cross c R) → ∃ q, blk c n k A.length (A ++ X) = A ++ q ∧ q.Perm X ∧ Blocks c R 20 q
  | 0, A, X, hn, hk, hX => by omega
  | k + 1, A, X, hn, hk, hX => by
    rw [blk]
    by_cases h : A.length + 20 ≤ n
    · rw [if_pos h]
      obtain ⟨Y, u, rfl, hY⟩ : ∃ Y u, X = Y ++ u ∧ Y.length = 20 := ⟨X.take 20, X.drop 20, (List.take_append_drop _ _).symm, by rw [List.length_take]; omega⟩
      rw [List.length_append] at hn hk
      rw [List.pairwise_append] at hX
      obtain ⟨Z, z1, z2, z3⟩ := insF_app (c := c) hR (A := A) (X := Y) (C := u) hX.1
      rw [hY] at z1
      rw [z1]
      have hZ : Z.length = 20 := by rw [z2.length_eq]; exact hY
      obtain ⟨v, v1, v2, v3⟩ := blk_app hR (n := n) k (A := A ++ Z) (X := u) (by rw [List.length_append]; omega) (by omega) hX.2.1
      rw [List.length_append, hZ] at v1
      refine ⟨Z ++ v, by rw [← List.append_assoc, v1, List.append_assoc], z2.append v2, .cons Z v hZ z3 (fun x hx y hy => hX.2.2 x (z2.mem_iff.1 hx) y (v2.mem_iff.1 hy)) v3⟩
    · rw [if_neg h]
      obtain ⟨Z, z1, z2, z3⟩ := insF_app (c := c) hR (A := A) (X := X) (C := []) hX
      rw [← hn, List.append_nil, List.append_nil] at z1
      exact ⟨Z, z1, z2, .last Z (by rw [z2.length_eq]; omega) z3⟩
/-- The stable sort: the same elements, in order. -/
theorem stableF_spec (hR : SOrd R) {l : List α} (hl : l.Pairwise (Cross c R)) : (stableF c l).Perm l ∧ (stableF c l).Pairwise R := by
  obtain ⟨q, q1, q2, q3⟩ := blk_app hR (n := l.length) (l.length + 1) (A := []) (X := l) (by simp) (by omega) hl
  simp only [List.length_nil, List.nil_append] at q1
  rw [stableF, q1]
  obtain ⟨h1, h2⟩ := mrgs_app hR (n := l.length) (l.length + 1) (w := 20) (l := q) (by decide) q2.length_eq.symm (by omega) q3
  exact ⟨h1.trans q2, h2⟩
end
end Go.Proofs.Ytcfpdongfdhgjaa.Am

/- An entry put into an index: the reference's. -/
set_option linter.unusedVariables false
set_option linter.unusedSimpArgs false
namespace Go.Proofs.Ytcfpdongfdhgjaa.Am

theorem aop_cutF {fr : Fr} {σ : Store} {s : Nat} {x hi : Opd} {kd : IntKind} {es : List (List Ce)} {z : Int} {n : Nat} (hx : x.ev fr = some (.c (.fz es))) (hy : hi.ev fr = some (.c (.int kd z))) (hz : z = (n : Int)) (hn : n ≤ es.length) (hs : ∀ e ∈ es, e.length = s) : aop (.slice s x none (some hi) none) fr σ = some (.c (.fz (es.take n)), σ) := by
  have : sliceA σ s (.fz es) none (some (.c (.int kd z))) none = some (.fz (es.take n)) := by
    subst hz
    simp only [sliceA, bound]
    rw [if_pos (by omega)]
    simp only [Int.toNat_natCast]
    rw [if_pos ⟨Nat.zero_le _, hn, hs⟩, List.drop_zero]
  simp only [aop, hx, evo, hy, Option.map_some, this]
theorem aop_restF {fr : Fr} {σ : Store} {s : Nat} {x lo : Opd} {kd : IntKind} {es : List (List Ce)} {z : Int} {n : Nat} (hx : x.ev fr = some (.c (.fz es))) (hy : lo.ev fr = some (.c (.int kd z))) (hz : z = (n : Int)) (hn : n ≤ es.length) (hs : ∀ e ∈ es, e.length = s) : aop (.slice s x (some lo) none none) fr σ = some (.c (.fz (es.drop n)), σ) := by
  have : sliceA σ s (.fz es) (some (.c (.int kd z))) none none = some (.fz (es.drop n)) := by
    subst hz
    simp only [sliceA, bound]
    rw [if_pos (by omega)]
    simp only [Int.toNat_natCast]
    rw [if_pos ⟨hn, Nat.le_refl _, hs⟩, List.take_of_length_le (Nat.le_refl _)]
  simp only [aop, hx, evo, hy, Option.map_some, this]
def putPos (e : Entry) : List Entry → Nat
  | [] => 0
  | a :: r => if lessK a.key e.key a.id e.id then putPos e r + 1 else 0
def putF (e : Entry) (l : List Entry) : List Entry := l.take (putPos e l) ++ e :: l.drop (putPos e l)
theorem encE_two {l : List Entry} : ∀ q ∈ l.map encE, q.length = 2 := fun q hq => by
  obtain ⟨a, _, rfl⟩ := List.mem_map.1 hq
  rfl
theorem old_encE (n : Nat) (e : Entry) : ∀ x ∈ encE e, Old n x := fun x hx => by
  simp only [encE, List.mem_cons, List.not_mem_nil, or_false] at hx
  rcases hx with rfl | rfl
  · refine .fz _ fun i j hi hj => ?_
    exact ((clean_append _ (List.getElem_mem hi)).2 _ (List.getElem_mem hj)).old n
  · exact .int _ _
theorem frz_old {σ : Store} {l : List (Nat × List (List Ce))} {k v N : Nat} {ys junk : List (List Ce)} (hl : l[k]? = some (v, ys ++ junk)) (ho : ∀ e ∈ ys, ∀ x ∈ e, Old N x) (hN : N ≤ σ.next + k) : FrzV (E σ l) N (.c (vec (σ.next + k) v ys junk)) (.c (.fz ys)) := by
  refine .c (.sl _ _ _ _ _ (ys ++ junk) ys hN (by rw [E_at]; exact hl) (by simp) rfl (fun i hi => ?_) (fun i j hi hj => ?_))
  · simp only [Nat.zero_add]
    rw [List.getElem_append_left hi]
  · have e : (ys ++ junk)[0 + i]'(by simp; omega) = ys[i] := by
      simp only [Nat.zero_add]
      rw [List.getElem_append_left hi]
    simp only [e]
    exact .same _ (ho _ (List.getElem_mem _) _ (List.getElem_mem hj))
theorem l11Put_ok (l : List Entry) (e : Entry) (hx : l.length ≤ 1048576) (hk : ∀ q ∈ l, q.key.length ≤ 34359738368) : Pure Try.prog 17 [.c (.fz (l.map encE)), .agg (encE e)] (.c (.fz ((putF e l).map encE))) := by
  refine Pure.run mixed c_spec_l11Put_ok (Nat.le_of_ble_eq_true rfl) fun σ hS hA => ?_
  clear hS hA
  repeat' first | (apply Go.adm; exact rfl) | apply Go.qs | apply Qg.nil | ((first | apply Go.v2 | apply Go.v1); (first | exact leAdd | assumption); iterate 6 exact rfl) | ((first | apply Go.op | apply Go.sop | apply Qg.op); exact rfl; (first | exact aop_alloc | exact aop_new rfl rfl | exact aop_mksl rfl | exact aop_lenM rfl | exact rfl | exact aL rfl rfl rfl rfl rfl | exact aS rfl rfl rfl rfl rfl rfl rfl)) | ((first | apply Go.no | apply Go.sno | apply Qg.no); exact rfl) | (exfalso; omega) | (((first | apply Go.iQ | apply Go.gQ | apply Go.sQ | apply Qg.gQ); exact rfl; (first | exact .d | exact .e | exact .n | ((fail_if_success exact bqt); (fail_if_success exact bqf); exact .b))) <;> intro _)
  refine Go.keep [0, 3, 5] (Go.loops (I := fun m fr τ => ∃ (i : Nat) (k : Int), m = l.length - i ∧ i ≤ l.length ∧ k = i ∧ putPos e l = i + putPos e (l.drop i) ∧
    fr = [(0, .c (.fz (l.map encE))), (3, .c (.fp (encE e))), (5, .c (.int .i64 k))] ∧ τ = E σ []) ?_ _ _ _ ⟨0, _, rfl, Nat.zero_le _, rfl, (Nat.zero_add _).symm, rfl, rfl⟩)
  rintro m fr τ ⟨i, k, rfl, hi, hki, hs, rfl, rfl⟩ hrec
  have htl : ∀ q ∈ (l.map encE).take i, q.length = 2 := fun q hq => encE_two q (List.mem_of_mem_take hq)
  have hdl : ∀ q ∈ (l.map encE).drop i, q.length = 2 := fun q hq => encE_two q (List.mem_of_mem_drop hq)
  have hil : i ≤ (l.map encE).length := by rw [List.length_map]; exact hi
  have ht0 : ((l.map encE).take i).length = i := by rw [List.length_take]; omega
  have hd0 : ((l.map encE).drop i).length = l.length - i := by rw [List.length_drop, List.length_map]
  have hfin : putPos e l = i → (l.map encE).take i ++ [encE e] ++ (l.map encE).drop i = (putF e l).map encE := fun h => by
    rw [putF, h]
    simp
  have hold : ∀ q ∈ (putF e l).map encE, ∀ x ∈ q, Old σ.next x := fun q hq x hx => by
    obtain ⟨a, _, rfl⟩ := List.mem_map.1 hq
    exact old_encE _ a x hx
  by_cases hlt : i < l.length
  · rw [List.drop_eq_getElem_cons hlt, putPos] at hs
    have c1 := l11Less_ok l[i] e (hk _ (List.getElem_mem hlt))
    cases hb : lessK l[i].key e.key l[i].id e.id
    · rw [hb] at c1 hs
      rw [if_neg Bool.false_ne_true] at hs
      have hf := hfin (by omega)
      clear hrec hfin
      repeat' first | (apply Go.adm; exact rfl) | apply Go.qs | apply Qg.nil | ((first | apply Go.v2 | apply Go.v1); (first | exact leAdd | assumption); iterate 6 exact rfl) | ((first | apply Go.op | apply Go.sop | apply Qg.op); exact rfl; (first | exact aop_alloc | exact aop_new rfl rfl | exact aop_mksl rfl | exact aop_lenM rfl | exact rfl | exact aL rfl rfl rfl rfl rfl | exact aS rfl rfl rfl rfl rfl rfl rfl | exact aop_iaddrM (enc := encE) rfl rfl hki hlt rfl | exact aop_cutF rfl rfl hki hil encE_two | exact aop_restF rfl rfl hki hil encE_two)) | ((first | apply Go.no | apply Go.sno | apply Qg.no); exact rfl) | ((first | apply Go.pcall | apply Go.spcall | apply Qg.pcall); (iterate 3 exact rfl); exact c1) | (exfalso; omega) | (((first | apply Go.iQ | apply Go.gQ | apply Go.sQ | apply Qg.gQ); exact rfl; (first | exact .d | exact .e | exact .n | ((fail_if_success exact bqt); (fail_if_success exact bqf); exact .b))) <;> intro _)
      refine Go.app (k := 0) (v := 0) (ys := []) (junk := []) (zs := (l.map encE).take i) rfl rfl rfl rfl rfl (by simp) Jk.nil htl (by rw [ht0]; simp; omega) fun v1 j1 hj1 => ?_
      repeat' first | (apply Go.adm; exact rfl) | apply Go.qs | apply Qg.nil | ((first | apply Go.v2 | apply Go.v1); (first | exact leAdd | assumption); iterate 6 exact rfl) | ((first | apply Go.op | apply Go.sop | apply Qg.op); exact rfl; (first | exact aop_alloc | exact aop_new rfl rfl | exact aop_mksl rfl | exact aop_lenM rfl | exact rfl | exact aL rfl rfl rfl rfl rfl | exact aS rfl rfl rfl rfl rfl rfl rfl)) | ((first | apply Go.no | apply Go.sno | apply Qg.no); exact rfl) | (exfalso; omega) | (((first | apply Go.iQ | apply Go.gQ | apply Go.sQ | apply Qg.gQ); exact rfl; (first | exact .d | exact .e | exact .n | ((fail_if_success exact bqt); (fail_if_success exact bqf); exact .b))) <;> intro _)
      refine Go.app1 (k := 0) (z := encE e) rfl rfl rfl rfl rfl htl hj1 rfl (by simp only [List.nil_append]; rw [ht0]; omega) fun v2 j2 hj2 => ?_
      repeat' first | (apply Go.adm; exact rfl) | apply Go.qs | apply Qg.nil | ((first | apply Go.v2 | apply Go.v1); (first | exact leAdd | assumption); iterate 6 exact rfl) | ((first | apply Go.op | apply Go.sop | apply Qg.op); exact rfl; (first | exact aop_alloc | exact aop_new rfl rfl | exact aop_mksl rfl | exact aop_lenM rfl | exact rfl | exact aL rfl rfl rfl rfl rfl | exact aS rfl rfl rfl rfl rfl rfl rfl | exact aop_restF rfl rfl hki hil encE_two)) | ((first | apply Go.no | apply Go.sno | apply Qg.no); exact rfl) | (exfalso; omega) | (((first | apply Go.iQ | apply Go.gQ | apply Go.sQ | apply Qg.gQ); exact rfl; (first | exact .d | exact .e | exact .n | ((fail_if_success exact bqt); (fail_if_success exact bqf); exact .b))) <;> intro _)
      refine Go.app (k := 0) (zs := (l.map encE).drop i) rfl rfl rfl rfl rfl (fun q hq => (List.mem_append.1 hq).elim (htl q) fun h => by rw [List.mem_singleton.1 h]; rfl) hj2 hdl (by simp only [List.nil_append, List.length_append, List.length_singleton]; rw [ht0, hd0]; omega) fun v3 j3 hj3 => ?_
      repeat' first | (apply Go.adm; exact rfl) | apply Go.qs | apply Qg.nil | ((first | apply Go.v2 | apply Go.v1); (first | exact leAdd | assumption); iterate 6 exact rfl) | ((first | apply Go.op | apply Go.sop | apply Qg.op); exact rfl; (first | exact aop_alloc | exact aop_new rfl rfl | exact aop_mksl rfl | exact aop_lenM rfl | exact rfl | exact aL rfl rfl rfl rfl rfl | exact aS rfl rfl rfl rfl rfl rfl rfl)) | ((first | apply Go.no | apply Go.sno | apply Qg.no); exact rfl) | (exfalso; omega) | (((first | apply Go.iQ | apply Go.gQ | apply Go.sQ | apply Qg.gQ); exact rfl; (first | exact .d | exact .e | exact .n | ((fail_if_success exact bqt); (fail_if_success exact bqf); exact .b))) <;> intro _)
      have hf2 : [] ++ (l.map encE).take i ++ [encE e] ++ (l.map encE).drop i = (putF e l).map encE := by rw [← hf]; rfl
      rw [hf2]
      exact .ret rfl ⟨_, rfl, frz_old (k := 0) rfl hold (Nat.le_refl _)⟩
    · rw [hb] at c1 hs
      rw [if_pos rfl] at hs
      repeat' first | (apply Go.adm; exact rfl) | apply Go.qs | apply Qg.nil | ((first | apply Go.v2 | apply Go.v1); (first | exact leAdd | assumption); iterate 6 exact rfl) | ((first | apply Go.op | apply Go.sop | apply Qg.op); exact rfl; (first | exact aop_alloc | exact aop_new rfl rfl | exact aop_mksl rfl | exact aop_lenM rfl | exact rfl | exact aL rfl rfl rfl rfl rfl | exact aS rfl rfl rfl rfl rfl rfl rfl | exact aop_iaddrM (enc := encE) rfl rfl hki hlt rfl)) | ((first | apply Go.no | apply Go.sno | apply Qg.no); exact rfl) | ((first | apply Go.pcall | apply Go.spcall | apply Qg.pcall); (iterate 3 exact rfl); exact c1) | (exfalso; omega) | (((first | apply Go.iQ | apply Go.gQ | apply Go.sQ | apply Qg.gQ); exact rfl; (first | exact .d | exact .e | exact .n | ((fail_if_success exact bqt); (fail_if_success exact bqf); exact .b))) <;> intro _)
      exact Go.keep [0, 3, 5] (hrec _ _ _ (by omega) ⟨i + 1, _, rfl, hlt, wrap_succ hki (by omega), by omega, rfl, rfl⟩)
  · rw [List.drop_eq_nil_of_le (by omega), putPos] at hs
    have hf := hfin (by omega)
    clear hrec hfin
    repeat' first | (apply Go.adm; exact rfl) | apply Go.qs | apply Qg.nil | ((first | apply Go.v2 | apply Go.v1); (first | exact leAdd | assumption); iterate 6 exact rfl) | ((first | apply Go.op | apply Go.sop | apply Qg.op); exact rfl; (first | exact aop_alloc | exact aop_new rfl rfl | exact aop_mksl rfl | exact aop_lenM rfl | exact rfl | exact aL rfl rfl rfl rfl rfl | exact aS rfl rfl rfl rfl rfl rfl rfl | exact aop_cutF rfl rfl hki hil encE_two | exact aop_restF rfl rfl hki hil encE_two)) | ((first | apply Go.no | apply Go.sno | apply Qg.no); exact rfl) | (exfalso; omega) | (((first | apply Go.iQ | apply Go.gQ | apply Go.sQ | apply Qg.gQ); exact rfl; (first | exact .d | exact .e | exact .n | ((fail_if_success exact bqt); (fail_if_success exact bqf); exact .b))) <;> intro _)
    refine Go.app (k := 0) (v := 0) (ys := []) (junk := []) (zs := (l.map encE).take i) rfl rfl rfl rfl rfl (by simp) Jk.nil htl (by rw [ht0]; simp; omega) fun v1 j1 hj1 => ?_
    repeat' first | (apply Go.adm; exact rfl) | apply Go.qs | apply Qg.nil | ((first | apply Go.v2 | apply Go.v1); (first | exact leAdd | assumption); iterate 6 exact rfl) | ((first | apply Go.op | apply Go.sop | apply Qg.op); exact rfl; (first | exact aop_alloc | exact aop_new rfl rfl | exact aop_mksl rfl | exact aop_lenM rfl | exact rfl | exact aL rfl rfl rfl rfl rfl | exact aS rfl rfl rfl rfl rfl rfl rfl)) | ((first | apply Go.no | apply Go.sno | apply Qg.no); exact rfl) | (exfalso; omega) | (((first | apply Go.iQ | apply Go.gQ | apply Go.sQ | apply Qg.gQ); exact rfl; (first | exact .d | exact .e | exact .n | ((fail_if_success exact bqt); (fail_if_success exact bqf); exact .b))) <;> intro _)
    refine Go.app1 (k := 0) (z := encE e) rfl rfl rfl rfl rfl htl hj1 rfl (by simp only [List.nil_append]; rw [ht0]; omega) fun v2 j2 hj2 => ?_
    repeat' first | (apply Go.adm; exact rfl) | apply Go.qs | apply Qg.nil | ((first | apply Go.v2 | apply Go.v1); (first | exact leAdd | assumption); iterate 6 exact rfl) | ((first | apply Go.op | apply Go.sop | apply Qg.op); exact rfl; (first | exact aop_alloc | exact aop_new rfl rfl | exact aop_mksl rfl | exact aop_lenM rfl | exact rfl | exact aL rfl rfl rfl rfl rfl | exact aS rfl rfl rfl rfl rfl rfl rfl | exact aop_restF rfl rfl hki hil encE_two)) | ((first | apply Go.no | apply Go.sno | apply Qg.no); exact rfl) | (exfalso; omega) | (((first | apply Go.iQ | apply Go.gQ | apply Go.sQ | apply Qg.gQ); exact rfl; (first | exact .d | exact .e | exact .n | ((fail_if_success exact bqt); (fail_if_success exact bqf); exact .b))) <;> intro _)
    refine Go.app (k := 0) (zs := (l.map encE).drop i) rfl rfl rfl rfl rfl (fun q hq => (List.mem_append.1 hq).elim (htl q) fun h => by rw [List.mem_singleton.1 h]; rfl) hj2 hdl (by simp only [List.nil_append, List.length_append, List.length_singleton]; rw [ht0, hd0]; omega) fun v3 j3 hj3 => ?_
    repeat' first | (apply Go.adm; exact rfl) | apply Go.qs | apply Qg.nil | ((first | apply Go.v2 | apply Go.v1); (first | exact leAdd | assumption); iterate 6 exact rfl) | ((first | apply Go.op | apply Go.sop | apply Qg.op); exact rfl; (first | exact aop_alloc | exact aop_new rfl rfl | exact aop_mksl rfl | exact aop_lenM rfl | exact rfl | exact aL rfl rfl rfl rfl rfl | exact aS rfl rfl rfl rfl rfl rfl rfl)) | ((first | apply Go.no | apply Go.sno | apply Qg.no); exact rfl) | (exfalso; omega) | (((first | apply Go.iQ | apply Go.gQ | apply Go.sQ | apply Qg.gQ); exact rfl; (first | exact .d | exact .e | exact .n | ((fail_if_success exact bqt); (fail_if_success exact bqf); exact .b))) <;> intro _)
    have hf2 : [] ++ (l.map encE).take i ++ [encE e] ++ (l.map encE).drop i = (putF e l).map encE := by rw [← hf]; rfl
    rw [hf2]
    exact .ret rfl ⟨_, rfl, frz_old (k := 0) rfl hold (Nat.le_refl _)⟩
end Go.Proofs.Ytcfpdongfdhgjaa.Am

/- An owned tree of entries sorted in place. -/
set_option linter.unusedVariables false
set_option linter.unusedSimpArgs false
namespace Go.Proofs.Ytcfpdongfdhgjaa.Am

def entAt (l : List Entry) (i : Nat) : Entry := l[i]?.getD ⟨[], 0⟩
def cellAt (cs : List (List Ce)) (i : Nat) : List Ce := if (cs[i]?.getD []).length = 2 then cs[i]?.getD [] else [.nils, .nils]
theorem cellAt_two (cs : List (List Ce)) (i : Nat) : (cellAt cs i).length = 2 := by
  rw [cellAt]
  split
  · assumption
  · rfl
theorem entAt_eq {l : List Entry} {i : Nat} (h : i < l.length) : entAt l i = l[i] := by rw [entAt, List.getElem?_eq_getElem h]; rfl
theorem cellAt_eq {cs : List (List Ce)} {i : Nat} (h : i < cs.length) (h2 : cs[i].length = 2) : cellAt cs i = cs[i] := by
  rw [cellAt, List.getElem?_eq_getElem h]
  exact if_pos h2
theorem map_entAt (l : List Entry) : (List.range l.length).map (entAt l) = l := by
  refine List.ext_getElem (by simp) fun i h1 h2 => ?_
  rw [List.getElem_map, List.getElem_range, entAt_eq h2]
theorem map_cellAt {cs : List (List Ce)} (h : ∀ e ∈ cs, e.length = 2) : (List.range cs.length).map (cellAt cs) = cs := by
  refine List.ext_getElem (by simp) fun i h1 h2 => ?_
  rw [List.getElem_map, List.getElem_range, cellAt_eq h2 (h _ (List.getElem_mem _))]
def entR (l : List Entry) (n0 : Nat) (i j : Nat) : Prop := (entAt l i).key.length = n0 ∧ (entAt l j).key.length = n0 ∧ (entOrd (entAt l i) (entAt l j) < 0 ∨ (entAt l i = entAt l j ∧ i < j))
theorem entR_ord (l : List Entry) (n0 : Nat) : SOrd (entR l n0) := by
  have hC := entOrd_cmp n0
  refine ⟨fun x y z ⟨a1, a2, a3⟩ ⟨b1, b2, b3⟩ => ⟨a1, b2, ?_⟩, fun x y ⟨a1, a2, a3⟩ ⟨b1, b2, b3⟩ => ?_⟩
  · rcases a3 with a3 | ⟨a3, a4⟩ <;> rcases b3 with b3 | ⟨b3, b4⟩
    · exact .inl (hC.trans _ _ _ a1 a2 b2 a3 b3)
    · rw [← b3]; exact .inl a3
    · rw [a3]; exact .inl b3
    · exact .inr ⟨a3.trans b3, by omega⟩
  · rcases a3 with a3 | ⟨a3, a4⟩ <;> rcases b3 with b3 | ⟨b3, b4⟩
    · have := (hC.flip _ _ a1 a2).1 a3
      omega
    · rw [b3] at a3
      have := hC.refl _ a1
      omega
    · rw [a3] at b3
      have := hC.refl _ a2
      omega
    · omega
theorem ent_cross {l : List Entry} {n0 : Nat} (h : ∀ e ∈ l, e.key.length = n0) : (List.range l.length).Pairwise (Cross (fun i j => entOrd (entAt l i) (entAt l j)) (entR l n0)) := by
  have hC := entOrd_cmp n0
  rw [List.pairwise_iff_getElem]
  intro i j hi hj hij
  rw [List.length_range] at hi hj
  rw [List.getElem_range, List.getElem_range]
  have hki : (entAt l i).key.length = n0 := by rw [entAt_eq hi]; exact h _ (List.getElem_mem _)
  have hkj : (entAt l j).key.length = n0 := by rw [entAt_eq hj]; exact h _ (List.getElem_mem _)
  refine ⟨⟨fun h1 => ⟨hkj, hki, .inl h1⟩, fun ⟨_, _, h1⟩ => h1.elim id fun h2 => by omega⟩, fun h1 => ⟨hki, hkj, ?_⟩⟩
  by_cases h0 : entOrd (entAt l j) (entAt l i) = 0
  · exact .inr ⟨(hC.eq _ _ hkj hki h0).symm, hij⟩
  · have h2 : ¬ entOrd (entAt l j) (entAt l i) < 0 := h1
    exact .inl ((hC.flip _ _ hki hkj).2 (by omega))
theorem putS_same {τ : Store} {id : Nat} {b : Nat × List (List Ce)} (h : τ.get id = some b) : τ.put id b = τ := by
  cases τ with
  | mk nx g =>
    simp only [Store.put, Store.mk.injEq, true_and]
    funext a
    split
    · rename_i e; subst e; exact h.symm
    · rfl
theorem sorts : Sorts Try.prog := ⟨mixed, ⟨_, c_slices_symMergeCmpFunc_Entry_ok⟩, ⟨_, c_slices_rotateCmpFunc_Entry_ok⟩, ⟨_, c_slices_swapRangeCmpFunc_Entry_ok⟩, ⟨_, c_slices_insertionSortCmpFunc_Entry_ok⟩, ⟨_, c_slices_stableCmpFunc_Entry_ok⟩⟩
theorem sortEntries_ok (l : List Entry) (n0 : Nat) (h0 : ∀ e ∈ l, e.key.length = n0) (hn0 : n0 ≤ 34359738368) (hx : l.length ≤ 34359738368) (h1 : 1 ≤ l.length) {τ : Store} {S : Nat → Prop} {x : Ce} (hh : Has τ S (.fz (l.map encE)) x) :
    Ok Try.prog 24 [.c x, .c (.fn 25 [] [])] τ (fun r τ' => r = .tup [] ∧ ∃ l' : List Entry, l'.Perm l ∧ l'.Pairwise (fun a b => entOrd a b < 0 ∨ a = b) ∧ Has τ' S (.fz (l'.map encE)) x ∧ τ'.next = τ.next ∧ (∀ a, ¬ S a → τ'.get a = τ.get a) ∧ ∀ σ, Gr σ τ → (∀ a, S a → σ.next ≤ a ∧ a < τ.next) → Gr σ τ') := by
  generalize hys : l.map encE = ys at hh
  cases hh with
  | c h' => cases h'
  | nil => simp at hys; rw [hys] at h1; simp at h1
  | o ys id v s cs junk T hg hSid hl hsz hall hj hT hd hcell =>
    subst hys
    have hcl : cs.length = l.length := by rw [hl, List.length_map]
    have hs2 : s = 2 := by
      have := hsz 0 (by simp; omega)
      rw [hall _ (List.mem_append_left _ (List.getElem_mem _))] at this
      rw [this, List.getElem_map]
      rfl
    subst hs2
    have hallc : ∀ e ∈ cs, e.length = 2 := fun e he => hall e (List.mem_append_left _ he)
    let F : Fam Nat := ⟨τ, id, v, cellAt cs, junk, cellAt_two cs⟩
    have hF0 : F.S (List.range l.length) = τ := by
      show τ.put id (v, (List.range l.length).map (cellAt cs) ++ junk) = τ
      rw [← hcl, map_cellAt hallc]
      exact putS_same hg
    have hcmp : Cmps Try.prog F (fun i => i < l.length) (fun i j => entOrd (entAt l i) (entAt l j)) 25 [] [] := by
      intro q i j hi hj2
      have hlen : ∀ k, k < l.length → HasL (F.S q) (fun a => ∃ j, T k j a) (encE (entAt l k)) (cellAt cs k) := fun k hk => by
        have hk2 : k < (l.map encE).length := by rw [List.length_map]; exact hk
        have e1 : (l.map encE)[k] = encE (entAt l k) := by rw [List.getElem_map, entAt_eq hk]
        have e2 : cellAt cs k = cs[k]'(by omega) := cellAt_eq (by omega) (hallc _ (List.getElem_mem _))
        rw [e2, ← e1]
        refine ⟨fun j a => T k j a, by rw [hsz k hk2], fun j a ha => ⟨j, ha⟩, fun j j' a p1 p2 => (hd _ _ _ _ a p1 p2).2, fun j hy hxx => ?_⟩
        refine (hcell k j hk2 hy).frame fun a ha => ?_
        show (τ.put id _).get a = _
        exact if_neg (hT k j a ha).2
      refine Lend.pure (.own ((hlen i hi).frz fun _ _ => Nat.zero_le _) (.own ((hlen j hj2).frz fun _ _ => Nat.zero_le _) .nil)) ?_ (.int _ _)
      refine entryOrder_ok (entAt l i) (entAt l j) ?_ ?_
      · rw [entAt_eq hi, h0 _ (List.getElem_mem _)]; exact hn0
      · rw [entAt_eq hi, entAt_eq hj2, h0 _ (List.getElem_mem _), h0 _ (List.getElem_mem _)]
    obtain ⟨p1, p2⟩ := stableF_spec (entR_ord l n0) (ent_cross h0)
    have hsort := sortStable_ok sorts c_slices_SortStableFunc_Entry_ok F (fun i => i < l.length) _ _ [] [] hcmp (List.range l.length) ((List.range l.length).length + junk.length) (fun i hi => List.mem_range.1 hi) (by simpa using hx)
    rw [hF0] at hsort
    generalize stableF (fun i j => entOrd (entAt l i) (entAt l j)) (List.range l.length) = ps at p1 p2 hsort
    have hps : ps.length = l.length := by rw [p1.length_eq, List.length_range]
    have hpl : ∀ i ∈ ps, i < l.length := fun i hi => List.mem_range.1 (p1.mem_iff.1 hi)
    have hnd : ps.Nodup := p1.nodup_iff.2 List.nodup_range
    have hlen2 : (l.map encE).length = (List.range l.length).length := by simp
    rw [hlen2]
    refine hsort.mono ?_
    rintro r τ' ⟨rfl, rfl⟩
    refine ⟨rfl, ps.map (entAt l), ?_, ?_, ?_, rfl, fun a ha => if_neg fun e => ha (by rw [e]; exact hSid), fun σ hG hlo => ?_⟩
    · have := p1.map (entAt l)
      rwa [map_entAt] at this
    · exact List.pairwise_map.2 (p2.imp fun h => h.2.2.imp (fun h => h) fun h => h.1)
    · have hcs : ∀ i (hi : i < ps.length), cellAt cs ps[i] = cs[ps[i]]'(by have := hpl _ (List.getElem_mem hi); omega) := fun i hi => cellAt_eq (by have := hpl _ (List.getElem_mem hi); omega) (hallc _ (List.getElem_mem _))
      have hrl : (List.range l.length).length = ((ps.map (entAt l)).map encE).length := by simp [hps]
      rw [hrl]
      refine .o ((ps.map (entAt l)).map encE) id v 2 (ps.map (cellAt cs)) junk (fun i j a => ∃ h : i < ps.length, T ps[i] j a) (if_pos rfl) hSid (by simp) (fun i hi => ?_) (fun e he => ?_) hj (fun i j a ⟨hi, ha⟩ => hT _ _ _ ha) (fun i j i' j' a q1 q2 => ?_) (fun i j hi hjy => ?_)
      · have hi2 : i < ps.length := by simpa using hi
        rw [List.getElem_map, List.getElem_map, List.getElem_map, cellAt_two]
        rfl
      · rcases List.mem_append.1 he with he | he
        · obtain ⟨i, _, rfl⟩ := List.mem_map.1 he
          exact cellAt_two cs i
        · exact hall e (List.mem_append_right _ he)
      · obtain ⟨hi, q1⟩ := q1
        obtain ⟨hi', q2⟩ := q2
        obtain ⟨e1, e2⟩ := hd _ _ _ _ a q1 q2
        exact ⟨(List.getElem_inj hnd).1 e1, e2⟩
      · have hi2 : i < ps.length := by simpa using hi
        have hpi := hpl _ (List.getElem_mem hi2)
        have hpi2 : ps[i] < (l.map encE).length := by simpa using hpi
        have e1 : ((ps.map (entAt l)).map encE)[i] = (l.map encE)[ps[i]] := by
          rw [List.getElem_map, List.getElem_map, List.getElem_map, entAt_eq hpi]
        have e2 : (ps.map (cellAt cs))[i]'(by simpa using hi2) = cs[ps[i]]'(by omega) := by rw [List.getElem_map, hcs i hi2]
        simp only [e1, e2]
        have hjy' : j < ((l.map encE)[ps[i]]).length := by rw [← e1]; exact hjy
        exact ((hcell ps[i] j hpi2 hjy').frame fun a ha => if_neg (hT _ _ _ ha).2).mono fun a ha => ⟨hi2, ha⟩
    · refine hG.put (hlo id hSid).1 (hlo id hSid).2 fun e he => ?_
      have hold := hG.tidy (hlo id hSid).1 hg
      rcases List.mem_append.1 he with he | he
      · obtain ⟨i, hi, rfl⟩ := List.mem_map.1 he
        have := hpl i hi
        rw [show F.ce i = cs[i]'(by omega) from cellAt_eq (by omega) (hallc _ (List.getElem_mem _))]
        exact hold _ (List.mem_append_left _ (List.getElem_mem _))
      · exact hold _ (List.mem_append_right _ he)
end Go.Proofs.Ytcfpdongfdhgjaa.Am

/- An entry put into an index: plain law. -/
set_option linter.unusedVariables false
set_option linter.unusedSimpArgs false
namespace Go.Proofs.Ytcfpdongfdhgjaa.Am

theorem putF_perm (e : Entry) (l : List Entry) : (putF e l).Perm (l ++ [e]) := by
  have h := List.perm_middle (l₁ := l.take (putPos e l)) (a := e) (l₂ := l.drop (putPos e l))
  rw [List.take_append_drop] at h
  exact h.trans (List.perm_append_singleton e l).symm
theorem okRest_vals {n0 : Nat} : ∀ {l : List Entry} {p : Option Entry}, okRest n0 p l = true → ∀ q ∈ l, areVals q.key 16 = true ∧ q.key.length = n0
  | [], _, _, q, hq => by simp at hq
  | a :: r, p, h, q, hq => by
    rw [okRest_cons, Bool.and_eq_true] at h
    rcases List.mem_cons.1 hq with rfl | hq
    · have h1 := h.1
      simp only [okOne, Bool.and_eq_true, decide_eq_true_eq] at h1
      exact ⟨h1.1.1.2, h1.1.1.1.2⟩
    · exact okRest_vals h.2 q hq
theorem okEnts_vals {l : List Entry} (h : okEnts l = true) : ∃ n0, ∀ q ∈ l, areVals q.key 16 = true ∧ q.key.length = n0 := by
  simp only [okEnts, Bool.and_eq_true] at h
  exact ⟨_, okRest_vals h.1⟩
theorem ent_eq_sorted {n0 : Nat} {a b : List Entry} (ha : a.Pairwise fun x y => entOrd x y < 0) (hb : b.Pairwise fun x y => entOrd x y < 0) (hn : ∀ q ∈ a, q.key.length = n0) (hp : a.Perm b) : a = b := by
  have hC := entOrd_cmp n0
  have key : ∀ {a b : List Entry}, a.Pairwise (fun x y => entOrd x y < 0) → b.Pairwise (fun x y => entOrd x y < 0) → (∀ q ∈ a, q.key.length = n0) → a.Perm b → a = b := by
    intro a
    induction a with
    | nil => intro b _ _ _ hp; exact (List.nil_perm.1 hp).symm
    | cons x r ih =>
      intro b ha hb hn hp
      cases b with
      | nil => exact absurd hp.symm (fun h => by simpa using List.nil_perm.1 h)
      | cons y t =>
        rw [List.pairwise_cons] at ha hb
        have hxy : x = y := by
          have h1 : x ∈ y :: t := hp.mem_iff.1 (by simp)
          have h2 : y ∈ x :: r := hp.mem_iff.2 (by simp)
          rcases List.mem_cons.1 h1 with h1 | h1
          · exact h1
          · rcases List.mem_cons.1 h2 with h2 | h2
            · exact h2.symm
            · have p1 := hb.1 x h1
              have p2 := ha.1 y h2
              have := (hC.flip _ _ (hn x (by simp)) (hn y (by simp [h2]))).1 p2
              omega
        subst hxy
        rw [ih ha.2 hb.2 (fun q hq => hn q (by simp [hq])) (List.Perm.cons_inv hp)]
  exact key ha hb hn hp
theorem strict_of {a : List Entry} (h : a.Pairwise fun x y => entOrd x y < 0 ∨ x = y) (hn : a.Nodup) : a.Pairwise fun x y => entOrd x y < 0 :=
  (List.pairwise_and_iff.2 ⟨h, hn⟩).imp fun ⟨h1, h2⟩ => h1.elim (fun h => h) fun h => absurd h h2
theorem putF_sorted {n0 : Nat} {e : Entry} : ∀ {l : List Entry}, l.Pairwise (fun x y => entOrd x y < 0) → (∀ q ∈ l, q.key.length = n0) → e.key.length = n0 → e ∉ l → (∀ q ∈ l, lessK q.key e.key q.id e.id = decide (entOrd q e < 0)) → (putF e l).Pairwise fun x y => entOrd x y < 0
  | [], _, _, _, _, _ => by simp [putF, putPos]
  | a :: r, hs, hn, he, hne, hl => by
    have hC := entOrd_cmp n0
    rw [List.pairwise_cons] at hs
    have hla := hl a (by simp)
    have hna := hn a (by simp)
    rw [putF, putPos, hla]
    by_cases h : entOrd a e < 0
    · rw [if_pos (decide_eq_true h), List.take_succ_cons, List.drop_succ_cons, List.cons_append, List.pairwise_cons]
      have ih := putF_sorted hs.2 (fun q hq => hn q (by simp [hq])) he (fun h => hne (by simp [h])) fun q hq => hl q (by simp [hq])
      refine ⟨fun q hq => ?_, ih⟩
      have hq2 := (putF_perm e r).mem_iff.1 hq
      rcases List.mem_append.1 hq2 with hq2 | hq2
      · exact hs.1 q hq2
      · rw [List.mem_singleton.1 hq2]; exact h
    · rw [if_neg (by simp [h])]
      simp only [List.take_zero, List.drop_zero, List.nil_append]
      have hea : entOrd e a < 0 := by
        by_cases h0 : entOrd a e = 0
        · exact absurd (hC.eq _ _ hna he h0) (fun h => hne (by simp [h]))
        · exact (hC.flip _ _ he hna).2 (by omega)
      rw [List.pairwise_cons, List.pairwise_cons]
      refine ⟨fun q hq => ?_, hs⟩
      rcases List.mem_cons.1 hq with rfl | hq
      · exact hea
      · exact hC.trans _ _ _ he hna (hn q (by simp [hq])) hea (hs.1 q hq)
def PutF (l : List Entry) (e : Entry) : List Entry × Bool := if okEnts l && okEnts (putF e l) then (putF e l, true) else ([], false)
/-- What is sorted is what was put. -/
theorem put_sorted {l q : List Entry} {e : Entry} (h1 : q.Perm (l ++ [e])) (h2 : q.Pairwise fun x y => entOrd x y < 0 ∨ x = y) (hl : okEnts l = true) : okEnts q = okEnts (putF e l) ∧ (okEnts q = true → q = putF e l) := by
  have hpp := h1.trans (putF_perm e l).symm
  have fwd : okEnts (putF e l) = true → q = putF e l := fun h => by
    obtain ⟨s1, n0, s2⟩ := okEnts_sorted h
    have hnd : q.Nodup := hpp.nodup_iff.2 (okEnts_nodup h)
    exact ent_eq_sorted (n0 := n0) (strict_of h2 hnd) s1 (fun x hx => s2 x (hpp.mem_iff.1 hx)) hpp
  have bwd : okEnts q = true → q = putF e l := fun h => by
    obtain ⟨s1, _⟩ := okEnts_sorted h
    obtain ⟨n0, hv⟩ := okEnts_vals h
    obtain ⟨l1, _⟩ := okEnts_sorted hl
    have hnd := okEnts_nodup h
    have hnd2 : (l ++ [e]).Nodup := h1.nodup_iff.1 hnd
    have hin : ∀ x ∈ l ++ [e], areVals x.key 16 = true ∧ x.key.length = n0 := fun x hx => hv x (h1.mem_iff.2 hx)
    have hee := hin e (by simp)
    have hne : e ∉ l := fun he => by
      rw [List.nodup_append] at hnd2
      exact hnd2.2.2 e he e (by simp) rfl
    have hput := putF_sorted (n0 := n0) l1 (fun x hx => (hin x (by simp [hx])).2) hee.2 hne fun x hx => by
      have hx2 := hin x (by simp [hx])
      rw [lessK_order hx2.1 hee.1 (by rw [hx2.2, hee.2])]
      rfl
    exact ent_eq_sorted (n0 := n0) s1 hput (fun x hx => (hv x hx).2) hpp
  refine ⟨?_, bwd⟩
  cases h : okEnts q
  · cases h' : okEnts (putF e l)
    · rfl
    · rw [fwd h', h'] at h
      cases h
  · rw [← bwd h, h]
theorem put_len {l : List Entry} {e : Entry} (h0 : 0 < l.length) (h : ¬ (l[0].key.length = e.key.length)) : okEnts (putF e l) = false := by
  cases h' : okEnts (putF e l)
  · rfl
  · obtain ⟨n0, hv⟩ := okEnts_vals h'
    have h1 := (hv l[0] ((putF_perm e l).mem_iff.2 (by simp))).2
    have h2 := (hv e ((putF_perm e l).mem_iff.2 (by simp))).2
    omega
end Go.Proofs.Ytcfpdongfdhgjaa.Am

/- An entry put into an index: the reference's own. -/
set_option linter.unusedVariables false
set_option linter.unusedSimpArgs false
namespace Go.Proofs.Ytcfpdongfdhgjaa.Am

theorem fin_no {σ : Store} {l : List (Nat × List (List Ce))} {b : Bool} : Fin σ (.tup [.c (.fz []), .c (.bool b)]) (.tup [.c .nils, .c (.bool b)]) (E σ l) :=
  ⟨l, rfl, .tup rfl fun i hi => by
    match i, hi with
    | 0, _ => exact .c .nil
    | 1, _ => exact .refl (by intro y hy; simp [AV.all] at hy; subst hy; exact .bool _)⟩
theorem fin_yes {σ : Store} {q : List Entry} {l : List (Nat × List (List Ce))} {b : Bool} : Fin σ (.tup [.c (.fz (q.map encE)), .c (.bool b)]) (.tup [.c (.fz (q.map encE)), .c (.bool b)]) (E σ l) :=
  ⟨l, rfl, .tup rfl fun i hi => by
    match i, hi with
    | 0, _ => exact .refl (by intro y hy; simp [AV.all] at hy; subst hy; exact .fz _ fun i j hi hj => old_maps _ (List.getElem_mem hi) _ (List.getElem_mem hj))
    | 1, _ => exact .refl (by intro y hy; simp [AV.all] at hy; subst hy; exact .bool _)⟩
theorem okEnts_few {l : List Entry} (h : okEnts l = true) : l.length ≤ 120 := by
  simp only [okEnts, Bool.and_eq_true, decide_eq_true_eq] at h
  omega
theorem sIndexPut_ok (l : List Entry) (e : Entry) (hx : l.length ≤ 34359738368) (hk : ∀ e ∈ l, e.key.length ≤ 34359738368) (he : e.key.length ≤ 34359738368) : Pure Try.prog 6 [.c (.fz (l.map encE)), .agg (encE e)] (.tup [.c (.fz ((PutF l e).1.map encE)), .c (.bool (PutF l e).2)]) := by
  refine Pure.run mixed c_spec_IndexPut_ok (Nat.le_of_ble_eq_true rfl) fun σ hS hA => ?_
  clear hS hA
  have c1 := l11Right_ok l hx hk
  rw [PutF]
  cases h1 : okEnts l
  · rw [h1] at c1
    repeat' first | (apply Go.adm; exact rfl) | apply Go.qs | apply Qg.nil | ((first | apply Go.v2 | apply Go.v1); (first | exact leAdd | assumption); iterate 6 exact rfl) | ((first | apply Go.op | apply Go.sop | apply Qg.op); exact rfl; (first | exact aop_alloc | exact aop_new rfl rfl | exact aop_mksl rfl | exact aop_lenM rfl | exact rfl | exact aL rfl rfl rfl rfl rfl | exact aS rfl rfl rfl rfl rfl rfl rfl)) | ((first | apply Go.no | apply Go.sno | apply Qg.no); exact rfl) | ((first | apply Go.pcall | apply Go.spcall | apply Qg.pcall); (iterate 3 exact rfl); exact c1) | (exfalso; omega) | (((first | apply Go.iQ | apply Go.gQ | apply Go.sQ | apply Qg.gQ); exact rfl; (first | exact .d | exact .e | exact .n | ((fail_if_success exact bqt); (fail_if_success exact bqf); exact .b))) <;> intro _)
    exact .ret rfl fin_no
  rw [h1] at c1
  have hf := okEnts_few h1
  have c2 := NewV.pure (l11Copy_ok l hx hk)
  have c3 := NewV.pure (l1CopyVals_ok e.key he)
  have c4 := l11Put_ok l e (by omega) hk
  have hpk : ∀ q ∈ putF e l, q.key.length ≤ 34359738368 := fun q hq => by
    rcases List.mem_append.1 ((putF_perm e l).mem_iff.1 hq) with h | h
    · exact hk q h
    · rw [List.mem_singleton.1 h]; exact he
  have c5 := l11Right_ok (putF e l) (by rw [(putF_perm e l).length_eq, List.length_append, List.length_singleton]; omega) hpk
  generalize putF e l = q at c4 c5 ⊢
  cases h2 : okEnts q
  · rw [h2] at c5
    repeat' first | (apply Go.adm; exact rfl) | apply Go.qs | apply Qg.nil | ((first | apply Go.v2 | apply Go.v1); (first | exact leAdd | assumption); iterate 6 exact rfl) | ((first | apply Go.op | apply Go.sop | apply Qg.op); exact rfl; (first | exact aop_alloc | exact aop_new rfl rfl | exact aop_mksl rfl | exact aop_lenM rfl | exact rfl | exact aL rfl rfl rfl rfl rfl | exact aS rfl rfl rfl rfl rfl rfl rfl)) | ((first | apply Go.no | apply Go.sno | apply Qg.no); exact rfl) | ((first | apply Go.pcall | apply Go.spcall | apply Qg.pcall); (iterate 3 exact rfl); (first | exact c1 | exact c2 | exact c3 | exact c4 | exact c5)) | (exfalso; omega) | (((first | apply Go.iQ | apply Go.gQ | apply Go.sQ | apply Qg.gQ); exact rfl; (first | exact .d | exact .e | exact .n | ((fail_if_success exact bqt); (fail_if_success exact bqf); exact .b))) <;> intro _)
    exact .ret rfl fin_no
  · rw [h2] at c5
    repeat' first | (apply Go.adm; exact rfl) | apply Go.qs | apply Qg.nil | ((first | apply Go.v2 | apply Go.v1); (first | exact leAdd | assumption); iterate 6 exact rfl) | ((first | apply Go.op | apply Go.sop | apply Qg.op); exact rfl; (first | exact aop_alloc | exact aop_new rfl rfl | exact aop_mksl rfl | exact aop_lenM rfl | exact rfl | exact aL rfl rfl rfl rfl rfl | exact aS rfl rfl rfl rfl rfl rfl rfl)) | ((first | apply Go.no | apply Go.sno | apply Qg.no); exact rfl) | ((first | apply Go.pcall | apply Go.spcall | apply Qg.pcall); (iterate 3 exact rfl); (first | exact c1 | exact c2 | exact c3 | exact c4 | exact c5)) | (exfalso; omega) | (((first | apply Go.iQ | apply Go.gQ | apply Go.sQ | apply Qg.gQ); exact rfl; (first | exact .d | exact .e | exact .n | ((fail_if_success exact bqt); (fail_if_success exact bqf); exact .b))) <;> intro _)
    exact .ret rfl fin_yes
end Go.Proofs.Ytcfpdongfdhgjaa.Am

/- An entry put into an index: the program's own. -/
set_option linter.unusedVariables false
set_option linter.unusedSimpArgs false
namespace Go.Proofs.Ytcfpdongfdhgjaa.Am

theorem sorted_new {σ : Store} {l : List Entry} {n0 : Nat} (h0 : ∀ e ∈ l, e.key.length = n0) (hn0 : n0 ≤ 34359738368) (hx : l.length ≤ 34359738368) (h1 : 1 ≤ l.length) {τ : Store} {x : Ce} (h : NewV σ (.c (.fz (l.map encE))) (.c x) τ) :
    Ok Try.prog 24 [.c x, .c (.fn 25 [] [])] τ (fun r τ' => r = .tup [] ∧ ∃ l' : List Entry, l'.Perm l ∧ l'.Pairwise (fun a b => entOrd a b < 0 ∨ a = b) ∧ NewV σ (.c (.fz (l'.map encE))) (.c x) τ') := by
  obtain ⟨hG, hh⟩ := h
  cases hh with
  | c hh =>
  refine (sortEntries_ok l n0 h0 hn0 hx h1 hh).mono ?_
  rintro r τ' ⟨rfl, l', p1, p2, p3, p4, p5, p6⟩
  exact ⟨rfl, l', p1, p2, p6 σ hG (fun a ha => ha), .c (p3.mono fun a ha => by rw [p4]; exact ha)⟩
theorem IndexPut_ok (l : List Entry) (e : Entry) (hx : l.length ≤ 34359738368) (hk : ∀ e ∈ l, e.key.length ≤ 34359738368) (he : e.key.length ≤ 34359738368) (σ : Store) : Ok Try.prog 9 [.c (.fz (l.map encE)), .agg (encE e)] σ (NewV σ (.tup [.c (.fz ((PutF l e).1.map encE)), .c (.bool (PutF l e).2)])) := by
  refine Ok.run mixed c_impl_IndexPut_ok (Nat.le_of_ble_eq_true rfl) fun hS hA => ?_
  clear hA
  have c1 := areEntries_ok l hx hk
  rw [PutF]
  cases h1 : okEnts l
  · rw [h1] at c1
    repeat' first | (apply Go.adm; exact rfl) | apply Go.qs | apply Qg.nil | ((first | apply Go.v2 | apply Go.v1); (first | exact leAdd | assumption); iterate 6 exact rfl) | ((first | apply Go.op | apply Go.sop | apply Qg.op); exact rfl; (first | exact aop_alloc | exact aop_new rfl rfl | exact aop_mksl rfl | exact aop_lenM rfl | exact rfl | exact aL rfl rfl rfl rfl rfl | exact aS rfl rfl rfl rfl rfl rfl rfl)) | ((first | apply Go.no | apply Go.sno | apply Qg.no); exact rfl) | ((first | apply Go.pcall | apply Go.spcall | apply Qg.pcall); (iterate 3 exact rfl); exact c1) | (exfalso; omega) | (((first | apply Go.iQ | apply Go.gQ | apply Go.sQ | apply Qg.gQ); exact rfl; (first | exact .d | exact .e | exact .n | ((fail_if_success exact bqt); (fail_if_success exact bqf); exact .b))) <;> intro _)
    exact .ret rfl (newPair ⟨.start σ, .c .nil⟩)
  rw [h1] at c1
  have hf := okEnts_few h1
  have hkk : ∀ q ∈ l ++ [e], q.key.length ≤ 34359738368 := fun q hq => by
    rcases List.mem_append.1 hq with h | h
    · exact hk q h
    · rw [List.mem_singleton.1 h]; exact he
  have hll : (l ++ [e]).length ≤ 34359738368 := by rw [List.length_append, List.length_singleton]; omega
  have hll1 : 1 ≤ (l ++ [e]).length := by simp
  have e1 : l.map encE ++ [encE e] = (l ++ [e]).map encE := by simp
  have fin : ∀ (q : List Entry), q.Perm (l ++ [e]) → q.Pairwise (fun a b => entOrd a b < 0 ∨ a = b) → ∀ (x : Ce) (τ : Store), NewV σ (.c (.fz (q.map encE))) (.c x) τ → (okEnts q = true → NewV σ (.tup [.c (.fz ((if (true && okEnts (putF e l)) = true then (putF e l, true) else ([], false)).1.map encE)), .c (.bool (if (true && okEnts (putF e l)) = true then (putF e l, true) else ([], false)).2)]) (.tup [.c x, .c (.bool true)]) τ) ∧ (okEnts q = false → NewV σ (.tup [.c (.fz ((if (true && okEnts (putF e l)) = true then (putF e l, true) else ([], false)).1.map encE)), .c (.bool (if (true && okEnts (putF e l)) = true then (putF e l, true) else ([], false)).2)]) (.tup [.c .nils, .c (.bool false)]) τ) := fun q p1 p2 x τ hn => by
    obtain ⟨s1, s2⟩ := put_sorted p1 p2 h1
    refine ⟨fun h => ?_, fun h => ?_⟩
    · rw [← s1, h, ← s2 h]
      exact newPair hn
    · rw [← s1, h]
      exact newPair ⟨hn.1, .c .nil⟩
  have hqk : ∀ (q : List Entry), q.Perm (l ++ [e]) → q.length ≤ 34359738368 ∧ ∀ z ∈ q, z.key.length ≤ 34359738368 := fun q p => ⟨by rw [p.length_eq]; exact hll, fun z hz => hkk z (p.mem_iff.1 hz)⟩
  by_cases hemp : l = []
  · subst hemp
    have h0 : ∀ q ∈ ([] : List Entry) ++ [e], q.key.length = e.key.length := fun q hq => by rw [List.mem_singleton.1 hq]
    have hn0 := he
    repeat' first | apply Go.seq | apply Go.skip | apply Go.region | apply Go.nil | apply Go.block | apply Go.blk | apply Go.segs | (apply Go.exit; exact rfl) | (apply Go.cond true; exact rfl) | (apply Go.cond false; exact rfl) | apply Go.qs | apply Qg.nil | ((first | apply Go.v2 | apply Go.v1); (first | exact leAdd | assumption); iterate 6 exact rfl) | ((first | apply Go.op | apply Go.sop | apply Qg.op); exact rfl; (first | exact aop_alloc | exact aop_new rfl rfl | exact aop_mksl rfl | exact aop_lenM rfl | exact rfl | exact aL rfl rfl rfl rfl rfl | exact aS rfl rfl rfl rfl rfl rfl rfl)) | ((first | apply Go.no | apply Go.sno | apply Qg.no); exact rfl) | (exfalso; omega) | (((first | apply Go.iQ | apply Go.gQ | apply Go.sQ | apply Qg.gQ); exact rfl; (first | exact .d | exact .e | exact .n | ((fail_if_success exact bqt); (fail_if_success exact bqf); exact .b))) <;> intro _)
    apply Go.draw
    repeat' first | apply Go.seq | apply Go.skip | apply Go.region | apply Go.nil | apply Go.block | apply Go.blk | apply Go.segs | (apply Go.exit; exact rfl) | (apply Go.cond true; exact rfl) | (apply Go.cond false; exact rfl) | apply Go.qs | apply Qg.nil | ((first | apply Go.v2 | apply Go.v1); (first | exact leAdd | assumption); iterate 6 exact rfl) | ((first | apply Go.op | apply Go.sop | apply Qg.op); exact rfl; (first | exact aop_alloc | exact aop_new rfl rfl | exact aop_mksl rfl | exact aop_lenM rfl | exact rfl | exact aL rfl rfl rfl rfl rfl | exact aS rfl rfl rfl rfl rfl rfl rfl)) | ((first | apply Go.no | apply Go.sno | apply Qg.no); exact rfl) | ((first | apply Go.pcall | apply Go.spcall | apply Qg.pcall); (iterate 3 exact rfl); exact c1) | (exfalso; omega) | (((first | apply Go.iQ | apply Go.gQ | apply Go.sQ | apply Qg.gQ); exact rfl; (first | exact .d | exact .e | exact .n | ((fail_if_success exact bqt); (fail_if_success exact bqf); exact .b))) <;> intro _)
    all_goals first
      | (exfalso; omega)
      | skip
    apply Go.draw
    repeat' first | (apply Go.adm; exact rfl) | (apply Go.qd) | apply Qc.nil | (apply Qc.op; exact rfl; (first | exact fun _ => rfl | exact fun _ => aop_lenM rfl)) | (apply Qc.no; exact rfl) | ((first | apply Go.v2 | apply Go.v1); (first | exact leAdd | assumption); iterate 6 exact rfl) | ((first | apply Go.op | apply Go.sop); exact rfl; (first | exact aop_alloc | exact aop_new rfl rfl | exact aop_mksl rfl | exact aop_lenM rfl | exact rfl | exact aL rfl rfl rfl rfl rfl | exact aS rfl rfl rfl rfl rfl rfl rfl)) | ((first | apply Go.no | apply Go.sno); exact rfl) | (exfalso; omega) | (((first | apply Go.iQ | apply Go.gQ | apply Go.sQ | apply Qg.gQ); exact rfl; (first | exact .d | exact .e | exact .n | ((fail_if_success exact bqt); (fail_if_success exact bqf); exact .b))) <;> intro _)
    refine Qc.call _ rfl rfl rfl (clone_ok mixed c_slices_Clone_Entry_ok (([] : List Entry).map encE) encE_len (by simp) _) ?_
    rintro r _ (⟨_, rfl, rfl⟩ | ⟨v, junk, hj, rfl, rfl⟩)
    · rw [E_E]
      repeat' first | (apply Go.adm; exact rfl) | (apply Go.qd) | apply Qc.nil | (apply Qc.op; exact rfl; (first | exact fun _ => rfl | exact fun _ => aop_lenM rfl)) | (apply Qc.no; exact rfl) | ((first | apply Go.v2 | apply Go.v1); (first | exact leAdd | assumption); iterate 6 exact rfl) | ((first | apply Go.op | apply Go.sop); exact rfl; (first | exact aop_alloc | exact aop_new rfl rfl | exact aop_mksl rfl | exact aop_lenM rfl | exact rfl | exact aL rfl rfl rfl rfl rfl | exact aS rfl rfl rfl rfl rfl rfl rfl)) | ((first | apply Go.no | apply Go.sno); exact rfl) | (exfalso; omega) | (((first | apply Go.iQ | apply Go.gQ | apply Go.sQ | apply Qg.gQ); exact rfl; (first | exact .d | exact .e | exact .n | ((fail_if_success exact bqt); (fail_if_success exact bqf); exact .b))) <;> intro _)
      rw [E_new]
      refine Go.freeze hS (fr' := [(30, .c (.fz ((([] : List Entry) ++ [e]).map encE)))]) (.frz rfl (.c (frz_vec (σ := σ) (k := 0) (v := 0) (ys := [encE e]) (junk := []) rfl (fun q hq x hx => old_maps (l := [e]) q (by simpa using hq) x hx))) .nil) ?_
      refine .scall _ rfl rfl rfl (copiedEntries_ok (([] : List Entry) ++ [e]) hll hkk _) ?_
      rintro r τ ⟨hg, hh⟩
      cases hh with
      | c hh =>
      repeat' first | (apply Go.adm; exact rfl) | apply Go.qs | apply Qg.nil | ((first | apply Go.v2 | apply Go.v1); (first | exact leAdd | assumption); iterate 6 exact rfl) | ((first | apply Go.op | apply Go.sop | apply Qg.op); exact rfl; (first | exact aop_alloc | exact aop_new rfl rfl | exact aop_mksl rfl | exact aop_lenM rfl | exact rfl | exact aL rfl rfl rfl rfl rfl | exact aS rfl rfl rfl rfl rfl rfl rfl)) | ((first | apply Go.no | apply Go.sno | apply Qg.no); exact rfl) | (exfalso; omega) | (((first | apply Go.iQ | apply Go.gQ | apply Go.sQ | apply Qg.gQ); exact rfl; (first | exact .d | exact .e | exact .n | ((fail_if_success exact bqt); (fail_if_success exact bqf); exact .b))) <;> intro _)
      refine .call _ rfl rfl rfl (sorted_new h0 hn0 hll hll1 (σ := σ) ⟨(Gr.start σ).trans hg, .c hh⟩) ?_
      rintro r τ' ⟨rfl, q, p1, p2, hn⟩
      obtain ⟨f1, f2⟩ := fin q p1 p2 _ _ hn
      repeat' first | (apply Go.adm; exact rfl) | apply Go.qs | apply Qg.nil | ((first | apply Go.v2 | apply Go.v1); (first | exact leAdd | assumption); iterate 6 exact rfl) | ((first | apply Go.op | apply Go.sop | apply Qg.op); exact rfl; (first | exact aop_alloc | exact aop_new rfl rfl | exact aop_mksl rfl | exact aop_lenM rfl | exact rfl | exact aL rfl rfl rfl rfl rfl | exact aS rfl rfl rfl rfl rfl rfl rfl)) | ((first | apply Go.no | apply Go.sno | apply Qg.no); exact rfl) | (exfalso; omega) | (((first | apply Go.iQ | apply Go.gQ | apply Go.sQ | apply Qg.gQ); exact rfl; (first | exact .d | exact .e | exact .n | ((fail_if_success exact bqt); (fail_if_success exact bqf); exact .b))) <;> intro _)
      refine Go.lcall rfl rfl rfl (areEntries_ok q (hqk q p1).1 (hqk q p1).2) (.bool _) (.own (HasV.lend hn.2) .nil) ?_
      cases h2 : okEnts q
      · repeat' first | (apply Go.adm; exact rfl) | apply Go.qs | apply Qg.nil | ((first | apply Go.v2 | apply Go.v1); (first | exact leAdd | assumption); iterate 6 exact rfl) | ((first | apply Go.op | apply Go.sop | apply Qg.op); exact rfl; (first | exact aop_alloc | exact aop_new rfl rfl | exact aop_mksl rfl | exact aop_lenM rfl | exact rfl | exact aL rfl rfl rfl rfl rfl | exact aS rfl rfl rfl rfl rfl rfl rfl)) | ((first | apply Go.no | apply Go.sno | apply Qg.no); exact rfl) | (exfalso; omega) | (((first | apply Go.iQ | apply Go.gQ | apply Go.sQ | apply Qg.gQ); exact rfl; (first | exact .d | exact .e | exact .n | ((fail_if_success exact bqt); (fail_if_success exact bqf); exact .b))) <;> intro _)
        exact .ret rfl (f2 h2)
      · repeat' first | (apply Go.adm; exact rfl) | apply Go.qs | apply Qg.nil | ((first | apply Go.v2 | apply Go.v1); (first | exact leAdd | assumption); iterate 6 exact rfl) | ((first | apply Go.op | apply Go.sop | apply Qg.op); exact rfl; (first | exact aop_alloc | exact aop_new rfl rfl | exact aop_mksl rfl | exact aop_lenM rfl | exact rfl | exact aL rfl rfl rfl rfl rfl | exact aS rfl rfl rfl rfl rfl rfl rfl)) | ((first | apply Go.no | apply Go.sno | apply Qg.no); exact rfl) | (exfalso; omega) | (((first | apply Go.iQ | apply Go.gQ | apply Go.sQ | apply Qg.gQ); exact rfl; (first | exact .d | exact .e | exact .n | ((fail_if_success exact bqt); (fail_if_success exact bqf); exact .b))) <;> intro _)
        exact .ret rfl (f1 h2)
    · rw [E_E]
      repeat' first | (apply Go.adm; exact rfl) | (apply Go.qd) | apply Qc.nil | (apply Qc.op; exact rfl; (first | exact fun _ => rfl | exact fun _ => aop_lenM rfl)) | (apply Qc.no; exact rfl) | ((first | apply Go.v2 | apply Go.v1); (first | exact leAdd | assumption); iterate 6 exact rfl) | ((first | apply Go.op | apply Go.sop); exact rfl; (first | exact aop_alloc | exact aop_new rfl rfl | exact aop_mksl rfl | exact aop_lenM rfl | exact rfl | exact aL rfl rfl rfl rfl rfl | exact aS rfl rfl rfl rfl rfl rfl rfl)) | ((first | apply Go.no | apply Go.sno); exact rfl) | (exfalso; omega) | (((first | apply Go.iQ | apply Go.gQ | apply Go.sQ | apply Qg.gQ); exact rfl; (first | exact .d | exact .e | exact .n | ((fail_if_success exact bqt); (fail_if_success exact bqf); exact .b))) <;> intro _)
      refine Go.sapp1 (k := 0) (z := encE e) rfl rfl rfl rfl rfl encE_len hj rfl (by simp) fun v' junk' hj' => ?_
      refine Go.freeze hS (fr' := [(30, .c (.fz ((([] : List Entry) ++ [e]).map encE)))]) (.frz rfl (.c (frz_vec (σ := σ) (k := 0) rfl (fun q hq x hx => old_maps (l := [e]) q (by simpa using hq) x hx))) .nil) ?_
      refine .scall _ rfl rfl rfl (copiedEntries_ok (([] : List Entry) ++ [e]) hll hkk _) ?_
      rintro r τ ⟨hg, hh⟩
      cases hh with
      | c hh =>
      repeat' first | (apply Go.adm; exact rfl) | apply Go.qs | apply Qg.nil | ((first | apply Go.v2 | apply Go.v1); (first | exact leAdd | assumption); iterate 6 exact rfl) | ((first | apply Go.op | apply Go.sop | apply Qg.op); exact rfl; (first | exact aop_alloc | exact aop_new rfl rfl | exact aop_mksl rfl | exact aop_lenM rfl | exact rfl | exact aL rfl rfl rfl rfl rfl | exact aS rfl rfl rfl rfl rfl rfl rfl)) | ((first | apply Go.no | apply Go.sno | apply Qg.no); exact rfl) | (exfalso; omega) | (((first | apply Go.iQ | apply Go.gQ | apply Go.sQ | apply Qg.gQ); exact rfl; (first | exact .d | exact .e | exact .n | ((fail_if_success exact bqt); (fail_if_success exact bqf); exact .b))) <;> intro _)
      refine .call _ rfl rfl rfl (sorted_new h0 hn0 hll hll1 (σ := σ) ⟨(Gr.start σ).trans hg, .c hh⟩) ?_
      rintro r τ' ⟨rfl, q, p1, p2, hn⟩
      obtain ⟨f1, f2⟩ := fin q p1 p2 _ _ hn
      repeat' first | (apply Go.adm; exact rfl) | apply Go.qs | apply Qg.nil | ((first | apply Go.v2 | apply Go.v1); (first | exact leAdd | assumption); iterate 6 exact rfl) | ((first | apply Go.op | apply Go.sop | apply Qg.op); exact rfl; (first | exact aop_alloc | exact aop_new rfl rfl | exact aop_mksl rfl | exact aop_lenM rfl | exact rfl | exact aL rfl rfl rfl rfl rfl | exact aS rfl rfl rfl rfl rfl rfl rfl)) | ((first | apply Go.no | apply Go.sno | apply Qg.no); exact rfl) | (exfalso; omega) | (((first | apply Go.iQ | apply Go.gQ | apply Go.sQ | apply Qg.gQ); exact rfl; (first | exact .d | exact .e | exact .n | ((fail_if_success exact bqt); (fail_if_success exact bqf); exact .b))) <;> intro _)
      refine Go.lcall rfl rfl rfl (areEntries_ok q (hqk q p1).1 (hqk q p1).2) (.bool _) (.own (HasV.lend hn.2) .nil) ?_
      cases h2 : okEnts q
      · repeat' first | (apply Go.adm; exact rfl) | apply Go.qs | apply Qg.nil | ((first | apply Go.v2 | apply Go.v1); (first | exact leAdd | assumption); iterate 6 exact rfl) | ((first | apply Go.op | apply Go.sop | apply Qg.op); exact rfl; (first | exact aop_alloc | exact aop_new rfl rfl | exact aop_mksl rfl | exact aop_lenM rfl | exact rfl | exact aL rfl rfl rfl rfl rfl | exact aS rfl rfl rfl rfl rfl rfl rfl)) | ((first | apply Go.no | apply Go.sno | apply Qg.no); exact rfl) | (exfalso; omega) | (((first | apply Go.iQ | apply Go.gQ | apply Go.sQ | apply Qg.gQ); exact rfl; (first | exact .d | exact .e | exact .n | ((fail_if_success exact bqt); (fail_if_success exact bqf); exact .b))) <;> intro _)
        exact .ret rfl (f2 h2)
      · repeat' first | (apply Go.adm; exact rfl) | apply Go.qs | apply Qg.nil | ((first | apply Go.v2 | apply Go.v1); (first | exact leAdd | assumption); iterate 6 exact rfl) | ((first | apply Go.op | apply Go.sop | apply Qg.op); exact rfl; (first | exact aop_alloc | exact aop_new rfl rfl | exact aop_mksl rfl | exact aop_lenM rfl | exact rfl | exact aL rfl rfl rfl rfl rfl | exact aS rfl rfl rfl rfl rfl rfl rfl)) | ((first | apply Go.no | apply Go.sno | apply Qg.no); exact rfl) | (exfalso; omega) | (((first | apply Go.iQ | apply Go.gQ | apply Go.sQ | apply Qg.gQ); exact rfl; (first | exact .d | exact .e | exact .n | ((fail_if_success exact bqt); (fail_if_success exact bqf); exact .b))) <;> intro _)
        exact .ret rfl (f1 h2)
  · have hpos : 0 < l.length := List.length_pos_iff.2 hemp
    by_cases hkl : l[0].key.length = e.key.length
    · obtain ⟨_, n0, hn⟩ := okEnts_sorted h1
      have h0 : ∀ q ∈ l ++ [e], q.key.length = n0 := fun q hq => by
        rcases List.mem_append.1 hq with h | h
        · exact hn q h
        · rw [List.mem_singleton.1 h, ← hkl]; exact hn _ (List.getElem_mem _)
      have hn0 : n0 ≤ 34359738368 := by rw [← h0 e (by simp)]; exact he
      repeat' first | apply Go.seq | apply Go.skip | apply Go.region | apply Go.nil | apply Go.block | apply Go.blk | apply Go.segs | (apply Go.exit; exact rfl) | (apply Go.cond true; exact rfl) | (apply Go.cond false; exact rfl) | apply Go.qs | apply Qg.nil | ((first | apply Go.v2 | apply Go.v1); (first | exact leAdd | assumption); iterate 6 exact rfl) | ((first | apply Go.op | apply Go.sop | apply Qg.op); exact rfl; (first | exact aop_alloc | exact aop_new rfl rfl | exact aop_mksl rfl | exact aop_lenM rfl | exact rfl | exact aL rfl rfl rfl rfl rfl | exact aS rfl rfl rfl rfl rfl rfl rfl)) | ((first | apply Go.no | apply Go.sno | apply Qg.no); exact rfl) | (exfalso; omega) | (((first | apply Go.iQ | apply Go.gQ | apply Go.sQ | apply Qg.gQ); exact rfl; (first | exact .d | exact .e | exact .n | ((fail_if_success exact bqt); (fail_if_success exact bqf); exact .b))) <;> intro _)
      apply Go.draw
      repeat' first | apply Go.seq | apply Go.skip | apply Go.region | apply Go.nil | apply Go.block | apply Go.blk | apply Go.segs | (apply Go.exit; exact rfl) | (apply Go.cond true; exact rfl) | (apply Go.cond false; exact rfl) | apply Go.qs | apply Qg.nil | ((first | apply Go.v2 | apply Go.v1); (first | exact leAdd | assumption); iterate 6 exact rfl) | ((first | apply Go.op | apply Go.sop | apply Qg.op); exact rfl; (first | exact aop_alloc | exact aop_new rfl rfl | exact aop_mksl rfl | exact aop_lenM rfl | exact rfl | exact aL rfl rfl rfl rfl rfl | exact aS rfl rfl rfl rfl rfl rfl rfl | exact aop_iaddrM (enc := encE) (n := 0) rfl rfl rfl hpos rfl)) | ((first | apply Go.no | apply Go.sno | apply Qg.no); exact rfl) | ((first | apply Go.pcall | apply Go.spcall | apply Qg.pcall); (iterate 3 exact rfl); exact c1) | (exfalso; omega) | (((first | apply Go.iQ | apply Go.gQ | apply Go.sQ | apply Qg.gQ); exact rfl; (first | exact .d | exact .e | exact .n | ((fail_if_success exact bqt); (fail_if_success exact bqf); exact .b))) <;> intro _)
      all_goals first
        | (exfalso; omega)
        | skip
      apply Go.draw
      repeat' first | (apply Go.adm; exact rfl) | (apply Go.qd) | apply Qc.nil | (apply Qc.op; exact rfl; (first | exact fun _ => rfl | exact fun _ => aop_lenM rfl)) | (apply Qc.no; exact rfl) | ((first | apply Go.v2 | apply Go.v1); (first | exact leAdd | assumption); iterate 6 exact rfl) | ((first | apply Go.op | apply Go.sop); exact rfl; (first | exact aop_alloc | exact aop_new rfl rfl | exact aop_mksl rfl | exact aop_lenM rfl | exact rfl | exact aL rfl rfl rfl rfl rfl | exact aS rfl rfl rfl rfl rfl rfl rfl)) | ((first | apply Go.no | apply Go.sno); exact rfl) | (exfalso; omega) | (((first | apply Go.iQ | apply Go.gQ | apply Go.sQ | apply Qg.gQ); exact rfl; (first | exact .d | exact .e | exact .n | ((fail_if_success exact bqt); (fail_if_success exact bqf); exact .b))) <;> intro _)
      refine Qc.call _ rfl rfl rfl (clone_ok mixed c_slices_Clone_Entry_ok (l.map encE) encE_len (by simp; omega) _) ?_
      intro r τ hr
      obtain ⟨v, junk, hj, rfl, rfl⟩ := hr.made (by intro h; simp at h; exact hemp h)
      rw [E_E]
      repeat' first | (apply Go.adm; exact rfl) | (apply Go.qd) | apply Qc.nil | (apply Qc.op; exact rfl; (first | exact fun _ => rfl | exact fun _ => aop_lenM rfl)) | (apply Qc.no; exact rfl) | ((first | apply Go.v2 | apply Go.v1); (first | exact leAdd | assumption); iterate 6 exact rfl) | ((first | apply Go.op | apply Go.sop); exact rfl; (first | exact aop_alloc | exact aop_new rfl rfl | exact aop_mksl rfl | exact aop_lenM rfl | exact rfl | exact aL rfl rfl rfl rfl rfl | exact aS rfl rfl rfl rfl rfl rfl rfl)) | ((first | apply Go.no | apply Go.sno); exact rfl) | (exfalso; omega) | (((first | apply Go.iQ | apply Go.gQ | apply Go.sQ | apply Qg.gQ); exact rfl; (first | exact .d | exact .e | exact .n | ((fail_if_success exact bqt); (fail_if_success exact bqf); exact .b))) <;> intro _)
      refine Go.sapp1 (k := 0) (z := encE e) rfl rfl rfl rfl rfl encE_len hj rfl (by simp; omega) fun v' junk' hj' => ?_
      rw [e1]
      refine Go.freeze hS (fr' := [(30, .c (.fz ((l ++ [e]).map encE)))]) (.frz rfl (.c (frz_vec (σ := σ) (k := 0) (by rw [← e1]; rfl) old_maps)) .nil) ?_
      refine .scall _ rfl rfl rfl (copiedEntries_ok (l ++ [e]) hll hkk _) ?_
      rintro r τ ⟨hg, hh⟩
      cases hh with
      | c hh =>
      repeat' first | (apply Go.adm; exact rfl) | apply Go.qs | apply Qg.nil | ((first | apply Go.v2 | apply Go.v1); (first | exact leAdd | assumption); iterate 6 exact rfl) | ((first | apply Go.op | apply Go.sop | apply Qg.op); exact rfl; (first | exact aop_alloc | exact aop_new rfl rfl | exact aop_mksl rfl | exact aop_lenM rfl | exact rfl | exact aL rfl rfl rfl rfl rfl | exact aS rfl rfl rfl rfl rfl rfl rfl)) | ((first | apply Go.no | apply Go.sno | apply Qg.no); exact rfl) | (exfalso; omega) | (((first | apply Go.iQ | apply Go.gQ | apply Go.sQ | apply Qg.gQ); exact rfl; (first | exact .d | exact .e | exact .n | ((fail_if_success exact bqt); (fail_if_success exact bqf); exact .b))) <;> intro _)
      refine .call _ rfl rfl rfl (sorted_new h0 hn0 hll hll1 (σ := σ) ⟨(Gr.start σ).trans hg, .c hh⟩) ?_
      rintro r τ' ⟨rfl, q, p1, p2, hn⟩
      obtain ⟨f1, f2⟩ := fin q p1 p2 _ _ hn
      repeat' first | (apply Go.adm; exact rfl) | apply Go.qs | apply Qg.nil | ((first | apply Go.v2 | apply Go.v1); (first | exact leAdd | assumption); iterate 6 exact rfl) | ((first | apply Go.op | apply Go.sop | apply Qg.op); exact rfl; (first | exact aop_alloc | exact aop_new rfl rfl | exact aop_mksl rfl | exact aop_lenM rfl | exact rfl | exact aL rfl rfl rfl rfl rfl | exact aS rfl rfl rfl rfl rfl rfl rfl)) | ((first | apply Go.no | apply Go.sno | apply Qg.no); exact rfl) | (exfalso; omega) | (((first | apply Go.iQ | apply Go.gQ | apply Go.sQ | apply Qg.gQ); exact rfl; (first | exact .d | exact .e | exact .n | ((fail_if_success exact bqt); (fail_if_success exact bqf); exact .b))) <;> intro _)
      refine Go.lcall rfl rfl rfl (areEntries_ok q (hqk q p1).1 (hqk q p1).2) (.bool _) (.own (HasV.lend hn.2) .nil) ?_
      cases h2 : okEnts q
      · repeat' first | (apply Go.adm; exact rfl) | apply Go.qs | apply Qg.nil | ((first | apply Go.v2 | apply Go.v1); (first | exact leAdd | assumption); iterate 6 exact rfl) | ((first | apply Go.op | apply Go.sop | apply Qg.op); exact rfl; (first | exact aop_alloc | exact aop_new rfl rfl | exact aop_mksl rfl | exact aop_lenM rfl | exact rfl | exact aL rfl rfl rfl rfl rfl | exact aS rfl rfl rfl rfl rfl rfl rfl)) | ((first | apply Go.no | apply Go.sno | apply Qg.no); exact rfl) | (exfalso; omega) | (((first | apply Go.iQ | apply Go.gQ | apply Go.sQ | apply Qg.gQ); exact rfl; (first | exact .d | exact .e | exact .n | ((fail_if_success exact bqt); (fail_if_success exact bqf); exact .b))) <;> intro _)
        exact .ret rfl (f2 h2)
      · repeat' first | (apply Go.adm; exact rfl) | apply Go.qs | apply Qg.nil | ((first | apply Go.v2 | apply Go.v1); (first | exact leAdd | assumption); iterate 6 exact rfl) | ((first | apply Go.op | apply Go.sop | apply Qg.op); exact rfl; (first | exact aop_alloc | exact aop_new rfl rfl | exact aop_mksl rfl | exact aop_lenM rfl | exact rfl | exact aL rfl rfl rfl rfl rfl | exact aS rfl rfl rfl rfl rfl rfl rfl)) | ((first | apply Go.no | apply Go.sno | apply Qg.no); exact rfl) | (exfalso; omega) | (((first | apply Go.iQ | apply Go.gQ | apply Go.sQ | apply Qg.gQ); exact rfl; (first | exact .d | exact .e | exact .n | ((fail_if_success exact bqt); (fail_if_success exact bqf); exact .b))) <;> intro _)
        exact .ret rfl (f1 h2)
    · have hno := put_len (e := e) hpos hkl
      rw [hno]
      repeat' first | (apply Go.adm; exact rfl) | apply Go.qs | apply Qg.nil | ((first | apply Go.v2 | apply Go.v1); (first | exact leAdd | assumption); iterate 6 exact rfl) | ((first | apply Go.op | apply Go.sop | apply Qg.op); exact rfl; (first | exact aop_alloc | exact aop_new rfl rfl | exact aop_mksl rfl | exact aop_lenM rfl | exact rfl | exact aL rfl rfl rfl rfl rfl | exact aS rfl rfl rfl rfl rfl rfl rfl | exact aop_iaddrM (enc := encE) (n := 0) rfl rfl rfl hpos rfl)) | ((first | apply Go.no | apply Go.sno | apply Qg.no); exact rfl) | ((first | apply Go.pcall | apply Go.spcall | apply Qg.pcall); (iterate 3 exact rfl); exact c1) | (exfalso; omega) | (((first | apply Go.iQ | apply Go.gQ | apply Go.sQ | apply Qg.gQ); exact rfl; (first | exact .d | exact .e | exact .n | ((fail_if_success exact bqt); (fail_if_success exact bqf); exact .b))) <;> intro _)
      all_goals first
        | (exfalso; omega)
        | exact .ret rfl (newPair ⟨.start σ, .c .nil⟩)
        | (exfalso; simp_all; omega)
end Go.Proofs.Ytcfpdongfdhgjaa.Am
