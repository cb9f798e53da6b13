/- Joined texts: S8, D3, D4, D5, Y10, Y11, X1, X2, D6, X4, T4. -/
import Derived.Test.YteafjabcpmpmgaaGreatProg
import Derived.KernelRfl
import Derived.Test.YteafjabcpmpmgaaGreatB1
import Derived.Test.YteafjabcpmpmgaaGreatB2
import Derived.Test.YteafjabcpmpmgaaGreatB3
import Derived.Test.YteafjabcpmpmgaaGreatB4
import Derived.Test.YteafjabcpmpmgaaGreatB5
/- Triggers: the program and its reference. -/
set_option linter.unusedVariables false
set_option linter.unusedSimpArgs false
namespace Go.Proofs.YteafjabcpmpmgaaGreat.Am

def trigAt (u v : Table) (x : Trigger) : Bool := whereF x.when_ (2 * u.cols.length) && (decide ((x.terms.length : Int) = v.cols.length) && termsF x.terms (2 * u.cols.length))
def trigF (s : List Table) (x : Trigger) : Bool := match tabAt s x.table, tabAt s x.into with
  | some u, some v => isIn x.event 1 3 && trigAt u v x
  | _, _ => false
def triggersF (s : List Table) (l : List Trigger) : Bool := schemaF s && (decide ((l.length : Int) ≤ 6) && !(l.any fun x => !trigF s x))
theorem wrap2 {k : Nat} (h : k ≤ 8) : IntKind.i64.wrap (2 * (k : Int)) = 2 * k := wrap64 (by omega) (by omega)
theorem isTrigger_ok (s : List Table) (x : Trigger) (hs : schemaF s = true) (hx : s.length ≤ 34359738368) (hq : bTrigger 34359738368 x) : Pure Tryz.prog 207 [.c (.fz (s.map encTable)), .agg (encTrigger x)] (.c (.bool (trigF s x))) := by
  refine Pure.run mixed c_impl_isTrigger_ok (Nat.le_of_ble_eq_true rfl) fun σ hS hA => ?_
  clear hS hA
  obtain ⟨q1, q2, q3, q4⟩ := hq
  have c1 := TableAt_ok s x.table hx
  have c2 := TableAt_ok s x.into hx
  rcases idxA_at (p := fun u : Table => u.name == x.table) (l := s) (i := 0) (Int.le_refl _) with hi | ⟨n, hn, hi, hp⟩
  · have hno : trigF s x = false := by rw [trigF, tabAt_no hi]
    rw [hi] at c1
    repeat' first|(apply yA;exact rfl)|apply yB|apply yC|((first|apply yD|apply yE);(first|exact yF|assumption);iterate 6 exact rfl)|((first|apply yG|apply yH|apply yI);exact rfl;(first|exact yJ|exact yK rfl rfl|exact yL rfl|exact yM rfl|exact rfl|exact aL rfl rfl rfl rfl rfl|exact aS rfl rfl rfl rfl rfl rfl rfl))|((first|apply yN|apply yO|apply yP);exact rfl)|((first|apply yQ|apply yR|apply yS);(iterate 3 exact rfl);exact c1)|((first|apply Go.pcallI|apply Go.spcallI|apply Qg.pcallI);(iterate 3 exact rfl);exact c2;intro _ _)|(exfalso;omega)|(((first|apply yT|apply yU|apply yV|apply yW);exact rfl;(first|exact .d|exact .e|exact .n|((fail_if_success exact bqt);(fail_if_success exact bqf);exact .b)))<;>intro _)
    exact .ret rfl (.bool hno.symm)
  rw [Int.zero_add] at hi
  have hyes := tabAt_yes hi hn
  have hnz : ¬ ((n : Int) < 0) := by omega
  rw [hi] at c1
  rcases idxA_at (p := fun u : Table => u.name == x.into) (l := s) (i := 0) (Int.le_refl _) with hj | ⟨m, hm, hj, hr⟩
  · have hno : trigF s x = false := by rw [trigF, tabAt_no hj, hyes]
    rw [hj] at c2
    repeat' first|(apply yA;exact rfl)|apply yB|apply yC|((first|apply yD|apply yE);(first|exact yF|assumption);iterate 6 exact rfl)|((first|apply yG|apply yH|apply yI);exact rfl;(first|exact yJ|exact yK rfl rfl|exact yL rfl|exact yM rfl|exact rfl|exact aL rfl rfl rfl rfl rfl|exact aS rfl rfl rfl rfl rfl rfl rfl))|((first|apply yN|apply yO|apply yP);exact rfl)|((first|apply yQ|apply yR|apply yS);(iterate 3 exact rfl);(first|exact c1|exact c2))|(exfalso;omega)|(((first|apply yT|apply yU|apply yV|apply yW);exact rfl;(first|exact .d|exact .e|exact .n|((fail_if_success exact bqt);(fail_if_success exact bqf);exact .b)))<;>intro _)
    all_goals exact .ret rfl (.bool hno.symm)
  rw [Int.zero_add] at hj
  have hyes2 := tabAt_yes hj hm
  have hmz : ¬ ((m : Int) < 0) := by omega
  rw [hj] at c2
  have hc := schemaF_cols hs _ (List.getElem_mem hn)
  have hw := wrap2 hc.2
  have hres : trigF s x = (isIn x.event 1 3 && trigAt s[n] s[m] x) := by rw [trigF, hyes, hyes2]
  rw [hres]
  repeat' first|(apply yA;exact rfl)|apply yB|apply yC|((first|apply yD|apply yE);(first|exact yF|assumption);iterate 6 exact rfl)|((first|apply yG|apply yH|apply yI);exact rfl;(first|exact yJ|exact yK rfl rfl|exact yL rfl|exact yM rfl|exact rfl|exact aL rfl rfl rfl rfl rfl|exact aS rfl rfl rfl rfl rfl rfl rfl|exact yX (enc := encTable) rfl rfl rfl hn rfl|exact yX (enc := encTable) rfl rfl rfl hm rfl))|((first|apply yN|apply yO|apply yP);exact rfl)|((first|apply yQ|apply yR|apply yS);(iterate 3 exact rfl);(first|exact c1|exact c2))|((first|apply Go.pcallB|apply Go.spcallB|apply Qg.pcallB);(iterate 3 exact rfl);(first|exact in_ok _ _ _|exact areTerms_ok x.terms (IntKind.i64.wrap (2 * (s[n].cols.length : Int))) q4.1 q4.2 (by omega) (by omega)|exact isWhere_ok x.when_ (IntKind.i64.wrap (2 * (s[n].cols.length : Int))) q2.1 (by omega) (by omega));intro _ _)|(exfalso;omega)|(((first|apply yT|apply yU|apply yV|apply yW);exact rfl;(first|exact .d|exact .e|exact .n|((fail_if_success exact bqt);(fail_if_success exact bqf);exact .b)))<;>intro _)
  · rename_i b p k
    refine .ret rfl (.bool ?_)
    rw [nbT p k]
    rfl
  all_goals refine .ret rfl (.bool ?_)
  all_goals rw [trigAt, ← hw]
  all_goals clear c1 c2
  all_goals simp_all
theorem TriggersOk1_ok (s : List Table) (x : Trigger) (hs : schemaF s = true) (hx : s.length ≤ 34359738368) (hq : bTrigger 34359738368 x) : Pure Tryz.prog 206 [.agg (encTrigger x), .c (.fp [.fz (s.map encTable)])] (.c (.bool (!trigF s x))) := by
  refine Pure.run mixed c_impl_TriggersOk_1_ok (Nat.le_of_ble_eq_true rfl) fun σ hS hA => ?_
  clear hS hA
  repeat' first|(apply yA;exact rfl)|apply yB|apply yC|((first|apply yD|apply yE);(first|exact yF|assumption);iterate 6 exact rfl)|((first|apply yG|apply yH|apply yI);exact rfl;(first|exact yJ|exact yK rfl rfl|exact yL rfl|exact yM rfl|exact rfl|exact aL rfl rfl rfl rfl rfl|exact aS rfl rfl rfl rfl rfl rfl rfl))|((first|apply yN|apply yO|apply yP);exact rfl)|((first|apply yQ|apply yR|apply yS);(iterate 3 exact rfl);exact isTrigger_ok s x hs hx hq)|(exfalso;omega)|(((first|apply yT|apply yU|apply yV|apply yW);exact rfl;(first|exact .d|exact .e|exact .n|((fail_if_success exact bqt);(fail_if_success exact bqf);exact .b)))<;>intro _)
  exact .ret rfl (.bool rfl)
theorem TriggersOk_ok (s : List Table) (l : List Trigger) (hx : s.length ≤ 34359738368) (hb : ∀ t ∈ s, bTable 34359738368 t) (hl : l.length ≤ 34359738368) (hq : ∀ x ∈ l, bTrigger 34359738368 x) : Pure Tryz.prog 113 [.c (.fz (s.map encTable)), .c (.fz (l.map encTrigger))] (.c (.bool (triggersF s l))) := by
  refine Pure.run mixed c_impl_TriggersOk_ok (Nat.le_of_ble_eq_true rfl) fun σ hS hA => ?_
  clear hS hA
  have c1 := SchemaOk_ok s hx hb
  cases hs : schemaF s
  · rw [hs] at c1
    repeat' first|(apply yA;exact rfl)|apply yB|apply yC|((first|apply yD|apply yE);(first|exact yF|assumption);iterate 6 exact rfl)|((first|apply yG|apply yH|apply yI);exact rfl;(first|exact yJ|exact yK rfl rfl|exact yL rfl|exact yM rfl|exact rfl|exact aL rfl rfl rfl rfl rfl|exact aS rfl rfl rfl rfl rfl rfl rfl))|((first|apply yN|apply yO|apply yP);exact rfl)|((first|apply yQ|apply yR|apply yS);(iterate 3 exact rfl);exact c1)|(exfalso;omega)|(((first|apply yT|apply yU|apply yV|apply yW);exact rfl;(first|exact .d|exact .e|exact .n|((fail_if_success exact bqt);(fail_if_success exact bqf);exact .b)))<;>intro _)
    refine .ret rfl (.bool ?_)
    rw [triggersF, hs]
    rfl
  rw [hs] at c1
  repeat' first|(apply yA;exact rfl)|apply yB|apply yC|((first|apply yD|apply yE);(first|exact yF|assumption);iterate 6 exact rfl)|((first|apply yG|apply yH|apply yI);exact rfl;(first|exact yJ|exact yK rfl rfl|exact yL rfl|exact yM rfl|exact rfl|exact aL rfl rfl rfl rfl rfl|exact aS rfl rfl rfl rfl rfl rfl rfl))|((first|apply yN|apply yO|apply yP);exact rfl)|((first|apply yQ|apply yR|apply yS);(iterate 3 exact rfl);exact c1)|((first|apply Go.pcallB|apply Go.spcallB|apply Qg.pcallB);(iterate 3 exact rfl);exact containsFuncA_ok mixed c_slices_ContainsFunc_Trigger_ok c_slices_IndexFunc_Trigger_ok encTrigger (fun u => .agg (encTrigger u)) (fun _ => rfl) (fun _ => rfl) l (fun x => !trigF s x) _ [] [.fp [.fz (s.map encTable)]] hl (fun j hj _ => TriggersOk1_ok s _ hs hx (hq _ (List.getElem_mem hj)));intro _ _)|(exfalso;omega)|(((first|apply yT|apply yU|apply yV|apply yW);exact rfl;(first|exact .d|exact .e|exact .n|((fail_if_success exact bqt);(fail_if_success exact bqf);exact .b)))<;>intro _)
  all_goals refine .ret rfl (.bool ?_)
  all_goals rw [triggersF, hs]
  all_goals clear c1
  · rename_i h b hb
    rw [decide_eq_true (by omega), hb]
    simp
  · rw [decide_eq_false (by omega)]
    rfl
theorem l8One_ok (s : List Table) (x : Trigger) (hs : schemaF s = true) (hx : s.length ≤ 34359738368) (hq : bTrigger 34359738368 x) : Pure Tryz.prog 121 [.c (.fz (s.map encTable)), .agg (encTrigger x)] (.c (.bool (trigF s x))) := by
  refine Pure.run mixed c_spec_l8One_ok (Nat.le_of_ble_eq_true rfl) fun σ hS hA => ?_
  clear hS hA
  obtain ⟨q1, q2, q3, q4⟩ := hq
  have c1 := l3At_ok s x.table hx
  have c2 := l3At_ok s x.into hx
  rcases idxA_at (p := fun u : Table => u.name == x.table) (l := s) (i := 0) (Int.le_refl _) with hi | ⟨n, hn, hi, hp⟩
  · have hno : trigF s x = false := by rw [trigF, tabAt_no hi]
    rw [hi] at c1
    repeat' first|(apply yA;exact rfl)|apply yB|apply yC|((first|apply yD|apply yE);(first|exact yF|assumption);iterate 6 exact rfl)|((first|apply yG|apply yH|apply yI);exact rfl;(first|exact yJ|exact yK rfl rfl|exact yL rfl|exact yM rfl|exact rfl|exact aL rfl rfl rfl rfl rfl|exact aS rfl rfl rfl rfl rfl rfl rfl))|((first|apply yN|apply yO|apply yP);exact rfl)|((first|apply yQ|apply yR|apply yS);(iterate 3 exact rfl);exact c1)|((first|apply Go.pcallI|apply Go.spcallI|apply Qg.pcallI);(iterate 3 exact rfl);exact c2;intro _ _)|(exfalso;omega)|(((first|apply yT|apply yU|apply yV|apply yW);exact rfl;(first|exact .d|exact .e|exact .n|((fail_if_success exact bqt);(fail_if_success exact bqf);exact .b)))<;>intro _)
    exact .ret rfl (.bool hno.symm)
  rw [Int.zero_add] at hi
  have hyes := tabAt_yes hi hn
  have hnz : ¬ ((n : Int) < 0) := by omega
  rw [hi] at c1
  rcases idxA_at (p := fun u : Table => u.name == x.into) (l := s) (i := 0) (Int.le_refl _) with hj | ⟨m, hm, hj, hr⟩
  · have hno : trigF s x = false := by rw [trigF, tabAt_no hj, hyes]
    rw [hj] at c2
    repeat' first|(apply yA;exact rfl)|apply yB|apply yC|((first|apply yD|apply yE);(first|exact yF|assumption);iterate 6 exact rfl)|((first|apply yG|apply yH|apply yI);exact rfl;(first|exact yJ|exact yK rfl rfl|exact yL rfl|exact yM rfl|exact rfl|exact aL rfl rfl rfl rfl rfl|exact aS rfl rfl rfl rfl rfl rfl rfl))|((first|apply yN|apply yO|apply yP);exact rfl)|((first|apply yQ|apply yR|apply yS);(iterate 3 exact rfl);(first|exact c1|exact c2))|(exfalso;omega)|(((first|apply yT|apply yU|apply yV|apply yW);exact rfl;(first|exact .d|exact .e|exact .n|((fail_if_success exact bqt);(fail_if_success exact bqf);exact .b)))<;>intro _)
    all_goals exact .ret rfl (.bool hno.symm)
  rw [Int.zero_add] at hj
  have hyes2 := tabAt_yes hj hm
  have hmz : ¬ ((m : Int) < 0) := by omega
  rw [hj] at c2
  have hc := schemaF_cols hs _ (List.getElem_mem hn)
  have hw := wrap2 hc.2
  have hres : trigF s x = (isIn x.event 1 3 && trigAt s[n] s[m] x) := by rw [trigF, hyes, hyes2]
  rw [hres]
  repeat' first|(apply yA;exact rfl)|apply yB|apply yC|((first|apply yD|apply yE);(first|exact yF|assumption);iterate 6 exact rfl)|((first|apply yG|apply yH|apply yI);exact rfl;(first|exact yJ|exact yK rfl rfl|exact yL rfl|exact yM rfl|exact rfl|exact aL rfl rfl rfl rfl rfl|exact aS rfl rfl rfl rfl rfl rfl rfl|exact yX (enc := encTable) rfl rfl rfl hn rfl|exact yX (enc := encTable) rfl rfl rfl hm rfl))|((first|apply yN|apply yO|apply yP);exact rfl)|((first|apply yQ|apply yR|apply yS);(iterate 3 exact rfl);(first|exact c1|exact c2))|((first|apply Go.pcallB|apply Go.spcallB|apply Qg.pcallB);(iterate 3 exact rfl);exact l1In_ok _ _ _;intro _ _)|(exfalso;omega)|(((first|apply yT|apply yU|apply yV|apply yW);exact rfl;(first|exact .d|exact .e|exact .n|((fail_if_success exact bqt);(fail_if_success exact bqf);exact .b)))<;>intro _)
  · rename_i b p k
    refine .ret rfl (.bool ?_)
    rw [nbT p k]
    rfl
  · rename_i b p k h
    refine .ret rfl (.bool ?_)
    rw [trigAt, decide_eq_false h]
    simp
  rename_i b p k hlen
  have hlen : (x.terms.length : Int) = s[m].cols.length := by omega
  have hres2 : (isIn x.event 1 3 && trigAt s[n] s[m] x) = (whereF x.when_ (IntKind.i64.wrap (2 * s[n].cols.length)) && termsF x.terms (IntKind.i64.wrap (2 * s[n].cols.length))) := by
    rw [nbF p k, trigAt, decide_eq_true hlen, hw]
    simp
  rw [hres2]
  clear hres hres2 p hyes hyes2 hi hj hp hr c1 c2 hlen hnz hmz
  have hex : ∀ e : List Tok, e.length ≤ 34359738368 → Pure Tryz.prog 127 [.c (.fz (e.map encTok)), .c (.int .i64 (IntKind.i64.wrap (2 * s[n].cols.length)))] (.c (.bool (exprF e (IntKind.i64.wrap (2 * s[n].cols.length))))) := fun e he => l2Expr_ok e _ he (by omega) (by omega)
  clear k
  refine Go.keep [3, 7, 8] (Go.loops (I := fun m fr τ => ∃ i : Nat, ∃ k : Int, m = x.terms.length - i ∧ i ≤ x.terms.length ∧ k = i ∧ (∀ j (hj : j < x.terms.length), j < i → exprF x.terms[j].expr (IntKind.i64.wrap (2 * s[n].cols.length)) = true) ∧
    fr = [(3, .c (.fp (encTrigger x))), (7, .c (.int .i64 (IntKind.i64.wrap (2 * s[n].cols.length)))), (8, .c (.int .i64 k))] ∧ τ = E σ []) ?_ _ _ _ ⟨0, _, rfl, Nat.zero_le _, rfl, fun j _ h => absurd h (by omega), rfl, rfl⟩)
  rintro m' fr τ ⟨i, k, rfl, hi2, hk, hall, rfl, rfl⟩ hrec
  generalize IntKind.i64.wrap (2 * (s[n].cols.length : Int)) = W at hex hall hrec ⊢
  by_cases hlt : i < x.terms.length
  · repeat' first|(apply yA;exact rfl)|apply yB|apply yC|((first|apply yD|apply yE);(first|exact yF|assumption);iterate 6 exact rfl)|((first|apply yG|apply yH|apply yI);exact rfl;(first|exact yJ|exact yK rfl rfl|exact yL rfl|exact yM rfl|exact rfl|exact aL rfl rfl rfl rfl rfl|exact aS rfl rfl rfl rfl rfl rfl rfl|exact yX (enc := encTerm) rfl rfl hk hlt rfl))|((first|apply yN|apply yO|apply yP);exact rfl)|((first|apply Go.pcallB|apply Go.spcallB|apply Qg.pcallB);(iterate 3 exact rfl);exact hex x.terms[i].expr (q4.2 _ (List.getElem_mem hlt)).1;intro _ _)|(exfalso;omega)|(((first|apply yT|apply yU|apply yV|apply yW);exact rfl;(first|exact .d|exact .e|exact .n|((fail_if_success exact bqt);(fail_if_success exact bqf);exact .b)))<;>intro _)
    · rename_i c p k4
      refine .ret rfl (.bool ?_)
      rw [termsF, any_at (p := fun x : Term => exprF x.expr W) hlt (nbT p k4)]
      simp
    · rename_i c p k4
      exact Go.keep [3, 7, 8] (hrec _ _ _ (by omega) ⟨i + 1, _, rfl, hlt, wrap_succ hk (by omega), upto (p := fun x : Term => exprF x.expr W) hall hlt (nbF p k4), rfl, rfl⟩)
  have hterms := any_none (p := fun x : Term => exprF x.expr W) (l := x.terms) fun j hj => hall j hj (by omega)
  clear hrec hall
  rw [termsF, hterms]
  repeat' first|(apply yA;exact rfl)|apply yB|apply yC|((first|apply yD|apply yE);(first|exact yF|assumption);iterate 6 exact rfl)|((first|apply yG|apply yH|apply yI);exact rfl;(first|exact yJ|exact yK rfl rfl|exact yL rfl|exact yM rfl|exact rfl|exact aL rfl rfl rfl rfl rfl|exact aS rfl rfl rfl rfl rfl rfl rfl))|((first|apply yN|apply yO|apply yP);exact rfl)|((first|apply Go.pcallB|apply Go.spcallB|apply Qg.pcallB);(iterate 3 exact rfl);exact hex x.when_ q2.1;intro _ _)|(exfalso;omega)|(((first|apply yT|apply yU|apply yV|apply yW);exact rfl;(first|exact .d|exact .e|exact .n|((fail_if_success exact bqt);(fail_if_success exact bqf);exact .b)))<;>intro _)
  all_goals refine .ret rfl (.bool ?_)
  · rename_i h
    rw [whereF, h]
    rfl
  · rename_i h b hb
    rw [whereF, hb, beq_eq_false_iff_ne.2 h]
    simp
theorem sTriggersOk_ok (s : List Table) (l : List Trigger) (hx : s.length ≤ 34359738368) (hb : ∀ t ∈ s, bTable 34359738368 t) (hl : l.length ≤ 34359738368) (hq : ∀ x ∈ l, bTrigger 34359738368 x) : Pure Tryz.prog 35 [.c (.fz (s.map encTable)), .c (.fz (l.map encTrigger))] (.c (.bool (triggersF s l))) := by
  refine Pure.run mixed c_spec_TriggersOk_ok (Nat.le_of_ble_eq_true rfl) fun σ hS hA => ?_
  clear hS hA
  have c1 := sSchemaOk_ok s hx hb
  cases hs : schemaF s
  · rw [hs] at c1
    repeat' first|(apply yA;exact rfl)|apply yB|apply yC|((first|apply yD|apply yE);(first|exact yF|assumption);iterate 6 exact rfl)|((first|apply yG|apply yH|apply yI);exact rfl;(first|exact yJ|exact yK rfl rfl|exact yL rfl|exact yM rfl|exact rfl|exact aL rfl rfl rfl rfl rfl|exact aS rfl rfl rfl rfl rfl rfl rfl))|((first|apply yN|apply yO|apply yP);exact rfl)|(exfalso;omega)|(((first|apply yT|apply yU|apply yV|apply yW);exact rfl;(first|exact .d|exact .e|exact .n|((fail_if_success exact bqt);(fail_if_success exact bqf);exact .b)))<;>intro _)
    refine Go.keep [0, 1, 5] (Go.loops (I := fun m fr τ => fr = [(0, .c (.fz (s.map encTable))), (1, .c (.fz (l.map encTrigger))), (5, .c (.int .i64 0))] ∧ τ = E σ []) ?_ 0 _ _ ⟨rfl, rfl⟩)
    rintro m' fr τ ⟨rfl, rfl⟩ hrec
    repeat' first|(apply yA;exact rfl)|apply yB|apply yC|((first|apply yD|apply yE);(first|exact yF|assumption);iterate 6 exact rfl)|((first|apply yG|apply yH|apply yI);exact rfl;(first|exact yJ|exact yK rfl rfl|exact yL rfl|exact yM rfl|exact rfl|exact aL rfl rfl rfl rfl rfl|exact aS rfl rfl rfl rfl rfl rfl rfl))|((first|apply yN|apply yO|apply yP);exact rfl)|((first|apply yQ|apply yR|apply yS);(iterate 3 exact rfl);exact c1)|(exfalso;omega)|(((first|apply yT|apply yU|apply yV|apply yW);exact rfl;(first|exact .d|exact .e|exact .n|((fail_if_success exact bqt);(fail_if_success exact bqf);exact .b)))<;>intro _)
    refine .ret rfl (.bool ?_)
    rw [triggersF, hs]
    rfl
  rw [hs] at c1
  repeat' first|(apply yA;exact rfl)|apply yB|apply yC|((first|apply yD|apply yE);(first|exact yF|assumption);iterate 6 exact rfl)|((first|apply yG|apply yH|apply yI);exact rfl;(first|exact yJ|exact yK rfl rfl|exact yL rfl|exact yM rfl|exact rfl|exact aL rfl rfl rfl rfl rfl|exact aS rfl rfl rfl rfl rfl rfl rfl))|((first|apply yN|apply yO|apply yP);exact rfl)|(exfalso;omega)|(((first|apply yT|apply yU|apply yV|apply yW);exact rfl;(first|exact .d|exact .e|exact .n|((fail_if_success exact bqt);(fail_if_success exact bqf);exact .b)))<;>intro _)
  refine Go.keep [0, 1, 5] (Go.loops (I := fun m fr τ => ∃ i : Nat, ∃ k : Int, m = l.length - i ∧ i ≤ l.length ∧ k = i ∧ (∀ j (hj : j < l.length), j < i → trigF s l[j] = true) ∧
    fr = [(0, .c (.fz (s.map encTable))), (1, .c (.fz (l.map encTrigger))), (5, .c (.int .i64 k))] ∧ τ = E σ []) ?_ _ _ _ ⟨0, _, rfl, Nat.zero_le _, rfl, fun j _ h => absurd h (by omega), rfl, rfl⟩)
  rintro m' fr τ ⟨i, k, rfl, hi2, hk, hall, rfl, rfl⟩ hrec
  by_cases hlt : i < l.length
  · repeat' first|(apply yA;exact rfl)|apply yB|apply yC|((first|apply yD|apply yE);(first|exact yF|assumption);iterate 6 exact rfl)|((first|apply yG|apply yH|apply yI);exact rfl;(first|exact yJ|exact yK rfl rfl|exact yL rfl|exact yM rfl|exact rfl|exact aL rfl rfl rfl rfl rfl|exact aS rfl rfl rfl rfl rfl rfl rfl|exact yX (enc := encTrigger) rfl rfl hk hlt rfl))|((first|apply yN|apply yO|apply yP);exact rfl)|((first|apply yQ|apply yR|apply yS);(iterate 3 exact rfl);exact c1)|((first|apply Go.pcallB|apply Go.spcallB|apply Qg.pcallB);(iterate 3 exact rfl);exact l8One_ok s l[i] hs hx (hq _ (List.getElem_mem hlt));intro _ _)|(exfalso;omega)|(((first|apply yT|apply yU|apply yV|apply yW);exact rfl;(first|exact .d|exact .e|exact .n|((fail_if_success exact bqt);(fail_if_success exact bqf);exact .b)))<;>intro _)
    · rename_i c p k4
      refine .ret rfl (.bool ?_)
      rw [triggersF, any_at (p := fun x : Trigger => trigF s x) hlt (nbT p k4)]
      simp
    · rename_i c p k4
      exact Go.keep [0, 1, 5] (hrec _ _ _ (by omega) ⟨i + 1, _, rfl, hlt, wrap_succ hk (by omega), upto (p := fun x : Trigger => trigF s x) hall hlt (nbF p k4), rfl, rfl⟩)
  have hterms := any_none (p := fun x : Trigger => trigF s x) (l := l) fun j hj => hall j hj (by omega)
  clear hrec hall
  repeat' first|(apply yA;exact rfl)|apply yB|apply yC|((first|apply yD|apply yE);(first|exact yF|assumption);iterate 6 exact rfl)|((first|apply yG|apply yH|apply yI);exact rfl;(first|exact yJ|exact yK rfl rfl|exact yL rfl|exact yM rfl|exact rfl|exact aL rfl rfl rfl rfl rfl|exact aS rfl rfl rfl rfl rfl rfl rfl))|((first|apply yN|apply yO|apply yP);exact rfl)|((first|apply yQ|apply yR|apply yS);(iterate 3 exact rfl);exact c1)|(exfalso;omega)|(((first|apply yT|apply yU|apply yV|apply yW);exact rfl;(first|exact .d|exact .e|exact .n|((fail_if_success exact bqt);(fail_if_success exact bqf);exact .b)))<;>intro _)
  refine .ret rfl (.bool ?_)
  rw [triggersF, hs, hterms]
  simp
end Go.Proofs.YteafjabcpmpmgaaGreat.Am

/- Triggers that fire: the program and its reference. -/
set_option linter.unusedVariables false
set_option linter.unusedSimpArgs false
namespace Go.Proofs.YteafjabcpmpmgaaGreat.Am

theorem aop_copy {fr : Fr} {σ : Store} {l : List (Nat × List (List Ce))} {s k v i m c : Nat} {x y : Opd} {u : Ce} {es zs : List (List Ce)} (hx : x.ev fr = some (.c (.sl (σ.next + k) v i m c))) (hy : y.ev fr = some (.c u)) (hu : (E σ l).els u = some zs) (hl : l[k]? = some (v, es)) (hi : i + m ≤ es.length) (hes : ∀ e ∈ es, e.length = s) (hzs : ∀ e ∈ zs, e.length = s) (hz : zs.length ≤ m) :
    aop (.copy s x y) fr (E σ l) = some (.c (.int .i64 zs.length), E σ (l.set k (v, splice es i zs))) := by
  have hk : k < l.length := (List.getElem?_eq_some_iff.1 hl).1
  simp only [aop, hx, hy, E_get hl, hu]
  rw [if_pos ⟨trivial, hi, hes, hzs, hz⟩, E_put hk]
theorem els_rep {σ : Store} {l : List (Nat × List (List Ce))} {k n c : Nat} {z : List Ce} (hl : l[k]? = some (0, List.replicate n z)) : (E σ l).els (.sl (σ.next + k) 0 0 n c) = some (List.replicate n z) := by
  simp only [Store.els, E_get hl, List.length_replicate, Nat.zero_add, Nat.le_refl, and_self, if_true, List.drop_zero]
  rw [List.take_of_length_le (by simp)]
def nulls (n : Nat) : List Val := List.replicate n vNull
def half (n : Nat) (l : List Val) : List Val := if l = [] then nulls n else l
def bothF (n : Nat) (old now : List Val) : List Val := half n old ++ half n now
theorem nulls_map (n : Nat) : (nulls n).map encV = List.replicate n [Ce.int .i64 0, .int .i64 0, .str []] := by
  rw [nulls, List.map_replicate]
  rfl
theorem half_nil (n : Nat) : half n [] = nulls n := rfl
theorem half_some (n : Nat) {l : List Val} (h : l ≠ []) : half n l = l := by rw [half, if_neg h]
theorem ne_len {l : List Val} (h : l ≠ []) : ¬ ((l.length : Int) = 0) := by
  cases l with
  | nil => exact absurd rfl h
  | cons a l => simp only [List.length_cons]; omega
theorem fin_vec {σ : Store} {l : List (Nat × List (List Ce))} {v : Nat} {ys : List Val} {zs junk : List (List Ce)} (e : zs = ys.map encV) (hl : l[0]? = some (v, zs ++ junk)) : Fin σ (.c (.fz (ys.map encV))) (.c (vec (σ.next + 0) v zs junk)) (E σ l) :=
  ⟨l, rfl, by subst e; exact frz_all (k := 0) hl (Nat.le_refl _)⟩
theorem seen_ok (n : Nat) (old now : List Val) (hn : n ≤ 8) (ho : old.length ≤ 8) (hw : now.length ≤ 8) : Pure Tryz.prog 209 [.c (.int .i64 (n : Int)), .c (.fz (old.map encV)), .c (.fz (now.map encV))] (.c (.fz ((bothF n old now).map encV))) := by
  refine Pure.run mixed c_impl_seen_ok (Nat.le_of_ble_eq_true rfl) fun σ hS hA => ?_
  clear hS hA
  have hmk : 32 * n ≤ 140737488355328 := by omega
  have hrl : ∀ e ∈ List.replicate n [Ce.int .i64 0, .int .i64 0, .str []], e.length = 3 := fun e he => by rw [List.eq_of_mem_replicate he]; rfl
  have hlo : (old.map encV).length = old.length := List.length_map _
  have hlw : (now.map encV).length = now.length := List.length_map _
  have hlr : (List.replicate n [Ce.int IntKind.i64 0, .int .i64 0, .str []]).length = n := List.length_replicate
  by_cases h1 : old = []
  · subst h1
    by_cases h2 : now = []
    · subst h2
      repeat' first|(apply yA;exact rfl)|apply yB|apply yC|((first|apply yD|apply yE);(first|exact yF|assumption);iterate 6 exact rfl)|((first|apply yG|apply yH|apply yI);exact rfl;(first|exact yJ|exact yK rfl rfl|exact yL rfl|exact yM rfl|exact rfl|exact aL rfl rfl rfl rfl rfl|exact aS rfl rfl rfl rfl rfl rfl rfl|exact aop_mkslice rfl rfl hmk))|((first|apply yN|apply yO|apply yP);exact rfl)|(exfalso;omega)|(((first|apply yT|apply yU|apply yV|apply yW);exact rfl;(first|exact .d|exact .e|exact .n|((fail_if_success exact bqt);(fail_if_success exact bqf);exact .b)))<;>intro _)
      apply Go.loop
      repeat' first|(apply yA;exact rfl)|apply yB|apply yC|((first|apply yD|apply yE);(first|exact yF|assumption);iterate 6 exact rfl)|((first|apply yG|apply yH|apply yI);exact rfl;(first|exact yJ|exact yK rfl rfl|exact yL rfl|exact yM rfl|exact rfl|exact aL rfl rfl rfl rfl rfl|exact aS rfl rfl rfl rfl rfl rfl rfl|exact aop_mkslice rfl rfl hmk))|((first|apply yN|apply yO|apply yP);exact rfl)|(exfalso;omega)|(((first|apply yT|apply yU|apply yV|apply yW);exact rfl;(first|exact .d|exact .e|exact .n|((fail_if_success exact bqt);(fail_if_success exact bqf);exact .b)))<;>intro _)
      refine Go.app (k := 0) (ys := []) (junk := []) (zs := List.replicate n [Ce.int .i64 0, .int .i64 0, .str []]) rfl rfl rfl (els_rep (k := 1) rfl) rfl (fun e he => by simp at he) Jk.nil hrl (by simp; omega) fun v1 j1 hj1 => ?_
      repeat' first|(apply yA;exact rfl)|apply yB|apply yC|((first|apply yD|apply yE);(first|exact yF|assumption);iterate 6 exact rfl)|((first|apply yG|apply yH|apply yI);exact rfl;(first|exact yJ|exact yK rfl rfl|exact yL rfl|exact yM rfl|exact rfl|exact aL rfl rfl rfl rfl rfl|exact aS rfl rfl rfl rfl rfl rfl rfl))|((first|apply yN|apply yO|apply yP);exact rfl)|(exfalso;omega)|(((first|apply yT|apply yU|apply yV|apply yW);exact rfl;(first|exact .d|exact .e|exact .n|((fail_if_success exact bqt);(fail_if_success exact bqf);exact .b)))<;>intro _)
      apply Go.lp
      repeat' first|(apply yA;exact rfl)|apply yB|apply yC|((first|apply yD|apply yE);(first|exact yF|assumption);iterate 6 exact rfl)|((first|apply yG|apply yH|apply yI);exact rfl;(first|exact yJ|exact yK rfl rfl|exact yL rfl|exact yM rfl|exact rfl|exact aL rfl rfl rfl rfl rfl|exact aS rfl rfl rfl rfl rfl rfl rfl|exact aop_mkslice rfl rfl hmk))|((first|apply yN|apply yO|apply yP);exact rfl)|(exfalso;omega)|(((first|apply yT|apply yU|apply yV|apply yW);exact rfl;(first|exact .d|exact .e|exact .n|((fail_if_success exact bqt);(fail_if_success exact bqf);exact .b)))<;>intro _)
      refine Go.app (k := 0) (ys := [] ++ List.replicate n [Ce.int .i64 0, .int .i64 0, .str []]) (junk := j1) (zs := List.replicate n [Ce.int .i64 0, .int .i64 0, .str []]) rfl rfl rfl (els_rep (k := 2) rfl) rfl hrl hj1 hrl (by simp; omega) fun v2 j2 hj2 => ?_
      repeat' first|(apply yA;exact rfl)|apply yB|apply yC|((first|apply yD|apply yE);(first|exact yF|assumption);iterate 6 exact rfl)|((first|apply yG|apply yH|apply yI);exact rfl;(first|exact yJ|exact yK rfl rfl|exact yL rfl|exact yM rfl|exact rfl|exact aL rfl rfl rfl rfl rfl|exact aS rfl rfl rfl rfl rfl rfl rfl))|((first|apply yN|apply yO|apply yP);exact rfl)|(exfalso;omega)|(((first|apply yT|apply yU|apply yV|apply yW);exact rfl;(first|exact .d|exact .e|exact .n|((fail_if_success exact bqt);(fail_if_success exact bqf);exact .b)))<;>intro _)
      apply Go.lp
      repeat' first|(apply yA;exact rfl)|apply yB|apply yC|((first|apply yD|apply yE);(first|exact yF|assumption);iterate 6 exact rfl)|((first|apply yG|apply yH|apply yI);exact rfl;(first|exact yJ|exact yK rfl rfl|exact yL rfl|exact yM rfl|exact rfl|exact aL rfl rfl rfl rfl rfl|exact aS rfl rfl rfl rfl rfl rfl rfl))|((first|apply yN|apply yO|apply yP);exact rfl)|(exfalso;omega)|(((first|apply yT|apply yU|apply yV|apply yW);exact rfl;(first|exact .d|exact .e|exact .n|((fail_if_success exact bqt);(fail_if_success exact bqf);exact .b)))<;>intro _)
      refine .ret rfl (fin_vec ?_ rfl)
      simp only [bothF, half_nil, half_nil, List.map_append, List.nil_append, nulls_map]
    · have hw0 := ne_len h2
      repeat' first|(apply yA;exact rfl)|apply yB|apply yC|((first|apply yD|apply yE);(first|exact yF|assumption);iterate 6 exact rfl)|((first|apply yG|apply yH|apply yI);exact rfl;(first|exact yJ|exact yK rfl rfl|exact yL rfl|exact yM rfl|exact rfl|exact aL rfl rfl rfl rfl rfl|exact aS rfl rfl rfl rfl rfl rfl rfl|exact aop_mkslice rfl rfl hmk))|((first|apply yN|apply yO|apply yP);exact rfl)|(exfalso;omega)|(((first|apply yT|apply yU|apply yV|apply yW);exact rfl;(first|exact .d|exact .e|exact .n|((fail_if_success exact bqt);(fail_if_success exact bqf);exact .b)))<;>intro _)
      apply Go.loop
      repeat' first|(apply yA;exact rfl)|apply yB|apply yC|((first|apply yD|apply yE);(first|exact yF|assumption);iterate 6 exact rfl)|((first|apply yG|apply yH|apply yI);exact rfl;(first|exact yJ|exact yK rfl rfl|exact yL rfl|exact yM rfl|exact rfl|exact aL rfl rfl rfl rfl rfl|exact aS rfl rfl rfl rfl rfl rfl rfl|exact aop_mkslice rfl rfl hmk))|((first|apply yN|apply yO|apply yP);exact rfl)|(exfalso;omega)|(((first|apply yT|apply yU|apply yV|apply yW);exact rfl;(first|exact .d|exact .e|exact .n|((fail_if_success exact bqt);(fail_if_success exact bqf);exact .b)))<;>intro _)
      refine Go.app (k := 0) (ys := []) (junk := []) (zs := List.replicate n [Ce.int .i64 0, .int .i64 0, .str []]) rfl rfl rfl (els_rep (k := 1) rfl) rfl (fun e he => by simp at he) Jk.nil hrl (by simp; omega) fun v1 j1 hj1 => ?_
      repeat' first|(apply yA;exact rfl)|apply yB|apply yC|((first|apply yD|apply yE);(first|exact yF|assumption);iterate 6 exact rfl)|((first|apply yG|apply yH|apply yI);exact rfl;(first|exact yJ|exact yK rfl rfl|exact yL rfl|exact yM rfl|exact rfl|exact aL rfl rfl rfl rfl rfl|exact aS rfl rfl rfl rfl rfl rfl rfl))|((first|apply yN|apply yO|apply yP);exact rfl)|(exfalso;omega)|(((first|apply yT|apply yU|apply yV|apply yW);exact rfl;(first|exact .d|exact .e|exact .n|((fail_if_success exact bqt);(fail_if_success exact bqf);exact .b)))<;>intro _)
      apply Go.lp
      repeat' first|(apply yA;exact rfl)|apply yB|apply yC|((first|apply yD|apply yE);(first|exact yF|assumption);iterate 6 exact rfl)|((first|apply yG|apply yH|apply yI);exact rfl;(first|exact yJ|exact yK rfl rfl|exact yL rfl|exact yM rfl|exact rfl|exact aL rfl rfl rfl rfl rfl|exact aS rfl rfl rfl rfl rfl rfl rfl|exact aop_mkslice rfl rfl hmk))|((first|apply yN|apply yO|apply yP);exact rfl)|(exfalso;omega)|(((first|apply yT|apply yU|apply yV|apply yW);exact rfl;(first|exact .d|exact .e|exact .n|((fail_if_success exact bqt);(fail_if_success exact bqf);exact .b)))<;>intro _)
      refine Go.app (k := 0) (ys := [] ++ List.replicate n [Ce.int .i64 0, .int .i64 0, .str []]) (junk := j1) (zs := now.map encV) rfl rfl rfl rfl rfl hrl hj1 lens (by simp; omega) fun v2 j2 hj2 => ?_
      repeat' first|(apply yA;exact rfl)|apply yB|apply yC|((first|apply yD|apply yE);(first|exact yF|assumption);iterate 6 exact rfl)|((first|apply yG|apply yH|apply yI);exact rfl;(first|exact yJ|exact yK rfl rfl|exact yL rfl|exact yM rfl|exact rfl|exact aL rfl rfl rfl rfl rfl|exact aS rfl rfl rfl rfl rfl rfl rfl))|((first|apply yN|apply yO|apply yP);exact rfl)|(exfalso;omega)|(((first|apply yT|apply yU|apply yV|apply yW);exact rfl;(first|exact .d|exact .e|exact .n|((fail_if_success exact bqt);(fail_if_success exact bqf);exact .b)))<;>intro _)
      apply Go.lp
      repeat' first|(apply yA;exact rfl)|apply yB|apply yC|((first|apply yD|apply yE);(first|exact yF|assumption);iterate 6 exact rfl)|((first|apply yG|apply yH|apply yI);exact rfl;(first|exact yJ|exact yK rfl rfl|exact yL rfl|exact yM rfl|exact rfl|exact aL rfl rfl rfl rfl rfl|exact aS rfl rfl rfl rfl rfl rfl rfl))|((first|apply yN|apply yO|apply yP);exact rfl)|(exfalso;omega)|(((first|apply yT|apply yU|apply yV|apply yW);exact rfl;(first|exact .d|exact .e|exact .n|((fail_if_success exact bqt);(fail_if_success exact bqf);exact .b)))<;>intro _)
      refine .ret rfl (fin_vec ?_ rfl)
      simp only [bothF, half_nil, half_some n h2, List.map_append, List.nil_append, nulls_map]
  · have ho0 := ne_len h1
    by_cases h2 : now = []
    · subst h2
      repeat' first|(apply yA;exact rfl)|apply yB|apply yC|((first|apply yD|apply yE);(first|exact yF|assumption);iterate 6 exact rfl)|((first|apply yG|apply yH|apply yI);exact rfl;(first|exact yJ|exact yK rfl rfl|exact yL rfl|exact yM rfl|exact rfl|exact aL rfl rfl rfl rfl rfl|exact aS rfl rfl rfl rfl rfl rfl rfl|exact aop_mkslice rfl rfl hmk))|((first|apply yN|apply yO|apply yP);exact rfl)|(exfalso;omega)|(((first|apply yT|apply yU|apply yV|apply yW);exact rfl;(first|exact .d|exact .e|exact .n|((fail_if_success exact bqt);(fail_if_success exact bqf);exact .b)))<;>intro _)
      apply Go.loop
      repeat' first|(apply yA;exact rfl)|apply yB|apply yC|((first|apply yD|apply yE);(first|exact yF|assumption);iterate 6 exact rfl)|((first|apply yG|apply yH|apply yI);exact rfl;(first|exact yJ|exact yK rfl rfl|exact yL rfl|exact yM rfl|exact rfl|exact aL rfl rfl rfl rfl rfl|exact aS rfl rfl rfl rfl rfl rfl rfl|exact aop_mkslice rfl rfl hmk))|((first|apply yN|apply yO|apply yP);exact rfl)|(exfalso;omega)|(((first|apply yT|apply yU|apply yV|apply yW);exact rfl;(first|exact .d|exact .e|exact .n|((fail_if_success exact bqt);(fail_if_success exact bqf);exact .b)))<;>intro _)
      refine Go.app (k := 0) (ys := []) (junk := []) (zs := old.map encV) rfl rfl rfl rfl rfl (fun e he => by simp at he) Jk.nil lens (by simp; omega) fun v1 j1 hj1 => ?_
      repeat' first|(apply yA;exact rfl)|apply yB|apply yC|((first|apply yD|apply yE);(first|exact yF|assumption);iterate 6 exact rfl)|((first|apply yG|apply yH|apply yI);exact rfl;(first|exact yJ|exact yK rfl rfl|exact yL rfl|exact yM rfl|exact rfl|exact aL rfl rfl rfl rfl rfl|exact aS rfl rfl rfl rfl rfl rfl rfl))|((first|apply yN|apply yO|apply yP);exact rfl)|(exfalso;omega)|(((first|apply yT|apply yU|apply yV|apply yW);exact rfl;(first|exact .d|exact .e|exact .n|((fail_if_success exact bqt);(fail_if_success exact bqf);exact .b)))<;>intro _)
      apply Go.lp
      repeat' first|(apply yA;exact rfl)|apply yB|apply yC|((first|apply yD|apply yE);(first|exact yF|assumption);iterate 6 exact rfl)|((first|apply yG|apply yH|apply yI);exact rfl;(first|exact yJ|exact yK rfl rfl|exact yL rfl|exact yM rfl|exact rfl|exact aL rfl rfl rfl rfl rfl|exact aS rfl rfl rfl rfl rfl rfl rfl|exact aop_mkslice rfl rfl hmk))|((first|apply yN|apply yO|apply yP);exact rfl)|(exfalso;omega)|(((first|apply yT|apply yU|apply yV|apply yW);exact rfl;(first|exact .d|exact .e|exact .n|((fail_if_success exact bqt);(fail_if_success exact bqf);exact .b)))<;>intro _)
      refine Go.app (k := 0) (ys := [] ++ old.map encV) (junk := j1) (zs := List.replicate n [Ce.int .i64 0, .int .i64 0, .str []]) rfl rfl rfl (els_rep (k := 1) rfl) rfl lens hj1 hrl (by simp; omega) fun v2 j2 hj2 => ?_
      repeat' first|(apply yA;exact rfl)|apply yB|apply yC|((first|apply yD|apply yE);(first|exact yF|assumption);iterate 6 exact rfl)|((first|apply yG|apply yH|apply yI);exact rfl;(first|exact yJ|exact yK rfl rfl|exact yL rfl|exact yM rfl|exact rfl|exact aL rfl rfl rfl rfl rfl|exact aS rfl rfl rfl rfl rfl rfl rfl))|((first|apply yN|apply yO|apply yP);exact rfl)|(exfalso;omega)|(((first|apply yT|apply yU|apply yV|apply yW);exact rfl;(first|exact .d|exact .e|exact .n|((fail_if_success exact bqt);(fail_if_success exact bqf);exact .b)))<;>intro _)
      apply Go.lp
      repeat' first|(apply yA;exact rfl)|apply yB|apply yC|((first|apply yD|apply yE);(first|exact yF|assumption);iterate 6 exact rfl)|((first|apply yG|apply yH|apply yI);exact rfl;(first|exact yJ|exact yK rfl rfl|exact yL rfl|exact yM rfl|exact rfl|exact aL rfl rfl rfl rfl rfl|exact aS rfl rfl rfl rfl rfl rfl rfl))|((first|apply yN|apply yO|apply yP);exact rfl)|(exfalso;omega)|(((first|apply yT|apply yU|apply yV|apply yW);exact rfl;(first|exact .d|exact .e|exact .n|((fail_if_success exact bqt);(fail_if_success exact bqf);exact .b)))<;>intro _)
      refine .ret rfl (fin_vec ?_ rfl)
      simp only [bothF, half_some n h1, half_nil, List.map_append, List.nil_append, nulls_map]
    · have hw0 := ne_len h2
      repeat' first|(apply yA;exact rfl)|apply yB|apply yC|((first|apply yD|apply yE);(first|exact yF|assumption);iterate 6 exact rfl)|((first|apply yG|apply yH|apply yI);exact rfl;(first|exact yJ|exact yK rfl rfl|exact yL rfl|exact yM rfl|exact rfl|exact aL rfl rfl rfl rfl rfl|exact aS rfl rfl rfl rfl rfl rfl rfl|exact aop_mkslice rfl rfl hmk))|((first|apply yN|apply yO|apply yP);exact rfl)|(exfalso;omega)|(((first|apply yT|apply yU|apply yV|apply yW);exact rfl;(first|exact .d|exact .e|exact .n|((fail_if_success exact bqt);(fail_if_success exact bqf);exact .b)))<;>intro _)
      apply Go.loop
      repeat' first|(apply yA;exact rfl)|apply yB|apply yC|((first|apply yD|apply yE);(first|exact yF|assumption);iterate 6 exact rfl)|((first|apply yG|apply yH|apply yI);exact rfl;(first|exact yJ|exact yK rfl rfl|exact yL rfl|exact yM rfl|exact rfl|exact aL rfl rfl rfl rfl rfl|exact aS rfl rfl rfl rfl rfl rfl rfl|exact aop_mkslice rfl rfl hmk))|((first|apply yN|apply yO|apply yP);exact rfl)|(exfalso;omega)|(((first|apply yT|apply yU|apply yV|apply yW);exact rfl;(first|exact .d|exact .e|exact .n|((fail_if_success exact bqt);(fail_if_success exact bqf);exact .b)))<;>intro _)
      refine Go.app (k := 0) (ys := []) (junk := []) (zs := old.map encV) rfl rfl rfl rfl rfl (fun e he => by simp at he) Jk.nil lens (by simp; omega) fun v1 j1 hj1 => ?_
      repeat' first|(apply yA;exact rfl)|apply yB|apply yC|((first|apply yD|apply yE);(first|exact yF|assumption);iterate 6 exact rfl)|((first|apply yG|apply yH|apply yI);exact rfl;(first|exact yJ|exact yK rfl rfl|exact yL rfl|exact yM rfl|exact rfl|exact aL rfl rfl rfl rfl rfl|exact aS rfl rfl rfl rfl rfl rfl rfl))|((first|apply yN|apply yO|apply yP);exact rfl)|(exfalso;omega)|(((first|apply yT|apply yU|apply yV|apply yW);exact rfl;(first|exact .d|exact .e|exact .n|((fail_if_success exact bqt);(fail_if_success exact bqf);exact .b)))<;>intro _)
      apply Go.lp
      repeat' first|(apply yA;exact rfl)|apply yB|apply yC|((first|apply yD|apply yE);(first|exact yF|assumption);iterate 6 exact rfl)|((first|apply yG|apply yH|apply yI);exact rfl;(first|exact yJ|exact yK rfl rfl|exact yL rfl|exact yM rfl|exact rfl|exact aL rfl rfl rfl rfl rfl|exact aS rfl rfl rfl rfl rfl rfl rfl|exact aop_mkslice rfl rfl hmk))|((first|apply yN|apply yO|apply yP);exact rfl)|(exfalso;omega)|(((first|apply yT|apply yU|apply yV|apply yW);exact rfl;(first|exact .d|exact .e|exact .n|((fail_if_success exact bqt);(fail_if_success exact bqf);exact .b)))<;>intro _)
      refine Go.app (k := 0) (ys := [] ++ old.map encV) (junk := j1) (zs := now.map encV) rfl rfl rfl rfl rfl lens hj1 lens (by simp; omega) fun v2 j2 hj2 => ?_
      repeat' first|(apply yA;exact rfl)|apply yB|apply yC|((first|apply yD|apply yE);(first|exact yF|assumption);iterate 6 exact rfl)|((first|apply yG|apply yH|apply yI);exact rfl;(first|exact yJ|exact yK rfl rfl|exact yL rfl|exact yM rfl|exact rfl|exact aL rfl rfl rfl rfl rfl|exact aS rfl rfl rfl rfl rfl rfl rfl))|((first|apply yN|apply yO|apply yP);exact rfl)|(exfalso;omega)|(((first|apply yT|apply yU|apply yV|apply yW);exact rfl;(first|exact .d|exact .e|exact .n|((fail_if_success exact bqt);(fail_if_success exact bqf);exact .b)))<;>intro _)
      apply Go.lp
      repeat' first|(apply yA;exact rfl)|apply yB|apply yC|((first|apply yD|apply yE);(first|exact yF|assumption);iterate 6 exact rfl)|((first|apply yG|apply yH|apply yI);exact rfl;(first|exact yJ|exact yK rfl rfl|exact yL rfl|exact yM rfl|exact rfl|exact aL rfl rfl rfl rfl rfl|exact aS rfl rfl rfl rfl rfl rfl rfl))|((first|apply yN|apply yO|apply yP);exact rfl)|(exfalso;omega)|(((first|apply yT|apply yU|apply yV|apply yW);exact rfl;(first|exact .d|exact .e|exact .n|((fail_if_success exact bqt);(fail_if_success exact bqf);exact .b)))<;>intro _)
      refine .ret rfl (fin_vec ?_ rfl)
      simp only [bothF, half_some n h1, half_some n h2, List.map_append, List.nil_append]
end Go.Proofs.YteafjabcpmpmgaaGreat.Am

/- Triggers that fire: the reference's rows, and the law's function. -/
set_option linter.unusedVariables false
set_option linter.unusedSimpArgs false
namespace Go.Proofs.YteafjabcpmpmgaaGreat.Am

theorem aop_mksliceZ {fr : Fr} {σ : Store} {l : List (Nat × List (List Ce))} {s bytes n : Nat} {z : List Ce} {q : Int} {x y : Opd} (hx : x.ev fr = some (.c (.int .i64 q))) (hy : y.ev fr = some (.c (.int .i64 q))) (hq : q = (n : Int)) (hb : bytes * n ≤ 140737488355328) :
    aop (.mkslice s bytes z x y) fr (E σ l) = some (.c (.sl (σ.next + l.length) 0 0 n n), E σ (l ++ [(0, List.replicate n z)])) := by
  subst hq
  exact aop_mkslice hx hy hb
theorem splice_half {N : Nat} {old : List Val} {z : List Ce} (hz : z = encV vNull) (ho : old = [] ∨ old.length = N) : splice (List.replicate (2 * N) z) 0 (old.map encV) = (half N old).map encV ++ List.replicate N z := by
  subst hz
  rw [splice, List.take_zero, List.nil_append, Nat.zero_add, List.length_map, List.drop_replicate]
  by_cases h : old = []
  · subst h
    rw [half_nil, nulls, List.map_replicate, List.map_nil, List.nil_append, List.replicate_append_replicate, List.length_nil]
    congr 1
    omega
  · rcases ho with ho | ho
    · exact absurd ho h
    · rw [half_some N h, ho]
      congr 2
      omega
theorem half_len {N : Nat} {old : List Val} (ho : old = [] ∨ old.length = N) : (half N old).length = N := by
  rcases ho with ho | ho
  · subst ho; simp [half_nil, nulls]
  · by_cases h : old = []
    · subst h; simp [half_nil, nulls]
    · rw [half_some N h, ho]
theorem splice_half2 {N : Nat} {old now : List Val} {z : List Ce} (hz : z = encV vNull) (ho : old = [] ∨ old.length = N) (hw : now = [] ∨ now.length = N) : splice ((half N old).map encV ++ List.replicate N z) (0 + N) (now.map encV) = (bothF N old now).map encV := by
  subst hz
  have hl : ((half N old).map encV).length = N := by rw [List.length_map, half_len ho]
  rw [splice, Nat.zero_add, List.take_left' hl, bothF, List.map_append, List.length_map, List.append_assoc]
  congr 1
  rw [List.drop_append, List.drop_eq_nil_of_le (by omega), hl, List.nil_append, List.drop_replicate]
  by_cases h : now = []
  · subst h
    rw [half_nil, nulls, List.map_replicate, List.map_nil, List.nil_append, List.length_nil]
    congr 1
    omega
  · rcases hw with hw | hw
    · exact absurd hw h
    · rw [half_some N h, hw, show N - (N + N - N) = 0 by omega]
      simp
theorem l8Both_ok (t : Table) (old now : List Val) (hc : t.cols.length ≤ 8) (ho : old = [] ∨ old.length = t.cols.length) (hw : now = [] ∨ now.length = t.cols.length) : Pure Tryz.prog 211 [.agg (encTable t), .c (.fz (old.map encV)), .c (.fz (now.map encV))] (.c (.fz ((bothF t.cols.length old now).map encV))) := by
  refine Pure.run mixed c_spec_l8Both_ok (Nat.le_of_ble_eq_true rfl) fun σ hS hA => ?_
  clear hS hA
  generalize hN : t.cols.length = N at *
  have hq : IntKind.i64.wrap (2 * (t.cols.length : Int)) = ((2 * N : Nat) : Int) := by rw [wrap2 (by omega), hN]; omega
  have hmk : 32 * (2 * N) ≤ 140737488355328 := by omega
  have hrl : ∀ e ∈ List.replicate (2 * N) [Ce.int .i64 0, .int .i64 0, .str []], e.length = 3 := fun e he => by rw [List.eq_of_mem_replicate he]; rfl
  have hrl2 : ∀ e ∈ (half N old).map encV ++ List.replicate N [Ce.int .i64 0, .int .i64 0, .str []], e.length = 3 := fun e he => (List.mem_append.1 he).elim (lens e) fun h => by rw [List.eq_of_mem_replicate h]; rfl
  have hlo : (old.map encV).length ≤ 2 * N := by
    rw [List.length_map]
    rcases ho with rfl | ho
    · simp
    · omega
  have hlw : (now.map encV).length ≤ 2 * N - N := by
    rw [List.length_map]
    rcases hw with rfl | hw
    · simp
    · omega
  have e1 := splice_half (z := [Ce.int .i64 0, .int .i64 0, .str []]) rfl ho
  have e2 := splice_half2 (z := [Ce.int .i64 0, .int .i64 0, .str []]) rfl ho hw
  have hl1 : ((half N old).map encV ++ List.replicate N [Ce.int .i64 0, .int .i64 0, .str []]).length = 2 * N := by rw [List.length_append, List.length_map, half_len ho, List.length_replicate]; omega
  repeat' first|(apply yA;exact rfl)|apply yB|apply yC|((first|apply yD|apply yE);(first|exact yF|assumption);iterate 6 exact rfl)|((first|apply yG|apply yH|apply yI);exact rfl;(first|exact yJ|exact yK rfl rfl|exact yL rfl|exact yM rfl|exact rfl|exact aL rfl rfl rfl rfl rfl|exact aS rfl rfl rfl rfl rfl rfl rfl|exact aop_mksliceZ rfl rfl hq hmk))|((first|apply yN|apply yO|apply yP);exact rfl)|(exfalso;omega)|(((first|apply yT|apply yU|apply yV|apply yW);exact rfl;(first|exact .d|exact .e|exact .n|((fail_if_success exact bqt);(fail_if_success exact bqf);exact .b)))<;>intro _)
  refine Go.op rfl (aop_copy (k := 0) (zs := old.map encV) rfl rfl rfl rfl (by simp) hrl lens hlo) ?_
  rw [show (([] ++ [(0, List.replicate (2 * N) [Ce.int .i64 0, .int .i64 0, .str []])] : List (Nat × List (List Ce))).set 0 (0, splice (List.replicate (2 * N) [Ce.int .i64 0, .int .i64 0, .str []]) 0 (old.map encV))) = [(0, (half N old).map encV ++ List.replicate N [Ce.int .i64 0, .int .i64 0, .str []])] by rw [← e1]; rfl]
  have hNi : (t.cols.length : Int) = (N : Int) := by omega
  repeat' first|(apply yA;exact rfl)|apply yB|apply yC|((first|apply yD|apply yE);(first|exact yF|assumption);iterate 6 exact rfl)|((first|apply yG|apply yH|apply yI);exact rfl;(first|exact yJ|exact yK rfl rfl|exact yL rfl|exact yM rfl|exact rfl|exact aL rfl rfl rfl rfl rfl|exact aS rfl rfl rfl rfl rfl rfl rfl|exact aop_slice (l := N) (h := 2 * N) (m := 2 * N) rfl rfl rfl rfl (bound_nat hNi) rfl rfl (E_get (k := 0) rfl) hrl2 (by omega) (Nat.le_refl _) (Nat.le_refl _)))|((first|apply yN|apply yO|apply yP);exact rfl)|(exfalso;omega)|(((first|apply yT|apply yU|apply yV|apply yW);exact rfl;(first|exact .d|exact .e|exact .n|((fail_if_success exact bqt);(fail_if_success exact bqf);exact .b)))<;>intro _)
  refine Go.op rfl (aop_copy (k := 0) (i := 0 + N) (m := 2 * N - N) (zs := now.map encV) rfl rfl rfl rfl (by rw [hl1]; omega) hrl2 lens hlw) ?_
  repeat' first|(apply yA;exact rfl)|apply yB|apply yC|((first|apply yD|apply yE);(first|exact yF|assumption);iterate 6 exact rfl)|((first|apply yG|apply yH|apply yI);exact rfl;(first|exact yJ|exact yK rfl rfl|exact yL rfl|exact yM rfl|exact rfl|exact aL rfl rfl rfl rfl rfl|exact aS rfl rfl rfl rfl rfl rfl rfl))|((first|apply yN|apply yO|apply yP);exact rfl)|(exfalso;omega)|(((first|apply yT|apply yU|apply yV|apply yW);exact rfl;(first|exact .d|exact .e|exact .n|((fail_if_success exact bqt);(fail_if_success exact bqf);exact .b)))<;>intro _)
  have hlen : ((bothF N old now).map encV).length = 2 * N := by rw [List.length_map, bothF, List.length_append, half_len ho, half_len hw]; omega
  refine .ret (v := .c (.sl (σ.next + 0) 0 0 (2 * N) (2 * N))) rfl ?_
  have hv : Ce.sl (σ.next + 0) 0 0 (2 * N) (2 * N) = vec (σ.next + 0) 0 ((bothF N old now).map encV) [] := by rw [vec, hlen]; rfl
  rw [hv]
  refine fin_vec rfl ?_
  rw [List.append_nil, ← e2]
  rfl
def fireAux (p : Trigger → Bool) : List Trigger → Int → List Int → List Int
  | [], _, acc => acc
  | x :: l, i, acc => fireAux p l (i + 1) (if p x then acc ++ [i] else acc)
def fireOne (t : Table) (ev : Int) (vals : List Val) (x : Trigger) : Bool := x.table == t.name && (x.event == ev && ((x.when_.length : Int) == 0 || truthI x.when_ vals == 1))
def firesF (t : Table) (l : List Trigger) (ev : Int) (old now : List Val) : List Int := fireAux (fireOne t ev (bothF t.cols.length old now)) l 0 []
theorem fires_ok (s : List Table) (l : List Trigger) (n : Int) (m : Nat) (ev : Int) (old now : List Val) (hn : n = (m : Int)) (hm : m < s.length) (hc : s[m].cols.length ≤ 8) (hx : l.length ≤ 1048576) (hb : ∀ x ∈ l, x.when_.length ≤ 34359738368) (ho : old.length ≤ 8) (hw : now.length ≤ 8) (σ : Store) :
    Ok Tryz.prog 116 [.c (.fz (s.map encTable)), .c (.fz (l.map encTrigger)), .c (.int .i64 n), .c (.int .i64 ev), .c (.fz (old.map encV)), .c (.fz (now.map encV))] σ (NewV σ (.c (.fz ((firesF s[m] l ev old now).map encI)))) := by
  refine Ok.run mixed c_impl_fires_ok (Nat.le_of_ble_eq_true rfl) fun hS hA => ?_
  clear hS hA
  have cs := seen_ok s[m].cols.length old now hc ho hw
  have hbl : (bothF s[m].cols.length old now).length ≤ 34359738368 := by
    have : ∀ q : List Val, q.length ≤ 8 → (half s[m].cols.length q).length ≤ 8 := fun q h => by
      rw [half]
      split
      · rw [nulls, List.length_replicate]; exact hc
      · exact h
    have h1 := this old ho
    have h2 := this now hw
    rw [bothF, List.length_append]
    omega
  rw [firesF]
  generalize bothF s[m].cols.length old now = vals at cs hbl ⊢
  repeat' first|(apply yA;exact rfl)|apply yB|apply yC|((first|apply yD|apply yE);(first|exact yF|assumption);iterate 6 exact rfl)|((first|apply yG|apply yH|apply yI);exact rfl;(first|exact yJ|exact yK rfl rfl|exact yL rfl|exact yM rfl|exact rfl|exact aL rfl rfl rfl rfl rfl|exact aS rfl rfl rfl rfl rfl rfl rfl|exact yX (enc := encTable) rfl rfl hn hm rfl))|((first|apply yN|apply yO|apply yP);exact rfl)|((first|apply yQ|apply yR|apply yS);(iterate 3 exact rfl);exact cs)|(exfalso;omega)|(((first|apply yT|apply yU|apply yV|apply yW);exact rfl;(first|exact .d|exact .e|exact .n|((fail_if_success exact bqt);(fail_if_success exact bqf);exact .b)))<;>intro _)
  refine Go.keep [0, 2, 3, 13, 14, 27, 28, 29] (Go.loops (I := fun q fr τ => ∃ (i : Nat) (k : Int) (ids : List Int) (v : Nat) (junk : List (List Ce)), q = l.length - i ∧ i ≤ l.length ∧ k = i ∧ Jk 1 junk ∧ (ids.length ≤ i ∧ fireAux (fireOne s[m] ev vals) l 0 [] = fireAux (fireOne s[m] ev vals) (l.drop i) k ids) ∧
    fr = [(0, .c (.fz (s.map encTable))), (2, .c (.int .i64 n)), (3, .c (.int .i64 ev)), (13, .c (vec (σ.next + 0) v (ids.map encI) junk)), (14, .c (.fz (vals.map encV))), (27, .c (.fz (l.map encTrigger))), (28, .c (.int .i64 (l.length : Int))), (29, .c (.int .i64 k))] ∧ τ = E σ [(v, ids.map encI ++ junk)]) ?_ _ _ _ ⟨0, _, [], 0, [], rfl, Nat.zero_le _, rfl, Jk.nil, ⟨Nat.zero_le _, rfl⟩, rfl, rfl⟩)
  rintro q fr τ ⟨i, k, ids, v, junk, rfl, hi, hk, hj, ⟨hil, hs⟩, rfl, rfl⟩ hrec
  clear cs
  by_cases hlt : i < l.length
  · have hwb := hb _ (List.getElem_mem hlt)
    rw [List.drop_eq_getElem_cons hlt, fireAux] at hs
    have hkk : IntKind.i64.wrap (k + 1) = k + 1 := wrap64 (by omega) (by omega)
    have hbd : ((ids.map encI).length + 1) * 8 ≤ 140737488355328 := by rw [List.length_map]; omega
    have hz1 : ∀ e ∈ ids.map encI, e.length = 1 := fun e he => (flatIs e he).1
    have e1 : ids.map encI ++ [encI k] = (ids ++ [k]).map encI := by simp
    have c1 := Truth_ok l[i].when_ vals hwb hbl
    cases hf : fireOne s[m] ev vals l[i]
    · rw [hf, if_neg Bool.false_ne_true] at hs
      simp only [fireOne] at hf
      repeat' first|(apply yA;exact rfl)|apply yB|apply yC|((first|apply yD|apply yE);(first|exact yF|assumption);iterate 6 exact rfl)|((first|apply yG|apply yH|apply yI);exact rfl;(first|exact yJ|exact yK rfl rfl|exact yL rfl|exact yM rfl|exact rfl|exact aL rfl rfl rfl rfl rfl|exact aS rfl rfl rfl rfl rfl rfl rfl|exact yX (enc := encTrigger) rfl rfl hk hlt rfl|exact yX (enc := encTable) rfl rfl hn hm rfl))|((first|apply yN|apply yO|apply yP);exact rfl)|(apply Go.app1;exact rfl;exact rfl;exact rfl;exact rfl;exact rfl;exact hz1;exact hj;exact rfl;exact hbd;intro v' junk' hj')|((first|apply yQ|apply yR|apply yS);(iterate 3 exact rfl);exact c1)|(exfalso;omega)|(((first|apply yT|apply yU|apply yV|apply yW);exact rfl;(first|exact .d|exact .e|exact .n|((fail_if_success exact bqt);(fail_if_success exact bqf);exact .b)))<;>intro _)
      all_goals first
        | exact Go.keep [0, 2, 3, 13, 14, 27, 28, 29] (hrec _ _ _ (by omega) ⟨i + 1, _, ids, v, junk, rfl, hlt, wrap_succ hk (by omega), hj, ⟨by omega, by rw [hkk]; exact hs⟩, rfl, rfl⟩)
        | (exfalso; clear hrec hs; simp_all; done)
    · rw [hf, if_pos rfl] at hs
      simp only [fireOne] at hf
      repeat' first|(apply yA;exact rfl)|apply yB|apply yC|((first|apply yD|apply yE);(first|exact yF|assumption);iterate 6 exact rfl)|((first|apply yG|apply yH|apply yI);exact rfl;(first|exact yJ|exact yK rfl rfl|exact yL rfl|exact yM rfl|exact rfl|exact aL rfl rfl rfl rfl rfl|exact aS rfl rfl rfl rfl rfl rfl rfl|exact yX (enc := encTrigger) rfl rfl hk hlt rfl|exact yX (enc := encTable) rfl rfl hn hm rfl))|((first|apply yN|apply yO|apply yP);exact rfl)|(apply Go.app1;exact rfl;exact rfl;exact rfl;exact rfl;exact rfl;exact hz1;exact hj;exact rfl;exact hbd;intro v' junk' hj')|((first|apply yQ|apply yR|apply yS);(iterate 3 exact rfl);exact c1)|(exfalso;omega)|(((first|apply yT|apply yU|apply yV|apply yW);exact rfl;(first|exact .d|exact .e|exact .n|((fail_if_success exact bqt);(fail_if_success exact bqf);exact .b)))<;>intro _)
      all_goals first
        | (refine Go.keep [0, 2, 3, 13, 14, 27, 28, 29] (hrec _ _ _ (by omega) ⟨i + 1, _, ids ++ [k], v', junk', rfl, hlt, wrap_succ hk (by omega), hj', ⟨by simp; omega, by rw [hkk]; exact hs⟩, ?_, ?_⟩) <;> (rw [← e1]; rfl))
        | (exfalso; clear hrec hs; simp_all; done)
  · repeat' first|(apply yA;exact rfl)|apply yB|apply yC|((first|apply yD|apply yE);(first|exact yF|assumption);iterate 6 exact rfl)|((first|apply yG|apply yH|apply yI);exact rfl;(first|exact yJ|exact yK rfl rfl|exact yL rfl|exact yM rfl|exact rfl|exact aL rfl rfl rfl rfl rfl|exact aS rfl rfl rfl rfl rfl rfl rfl))|((first|apply yN|apply yO|apply yP);exact rfl)|(exfalso;omega)|(((first|apply yT|apply yU|apply yV|apply yW);exact rfl;(first|exact .d|exact .e|exact .n|((fail_if_success exact bqt);(fail_if_success exact bqf);exact .b)))<;>intro _)
    refine .ret rfl ?_
    rw [List.drop_eq_nil_of_le (by omega), fireAux] at hs
    rw [hs]
    exact newVec flatIs hj
end Go.Proofs.YteafjabcpmpmgaaGreat.Am

/- Triggers that fire: whole functions. -/
set_option linter.unusedVariables false
set_option linter.unusedSimpArgs false
namespace Go.Proofs.YteafjabcpmpmgaaGreat.Am

theorem namesAux_uniq : ∀ {l pre : List Table}, namesAux pre l = true → (∀ t ∈ l, ∀ u ∈ pre, u.name ≠ t.name) ∧ ∀ i j (hi : i < l.length) (hj : j < l.length), l[i].name = l[j].name → i = j
  | [], _, _ => ⟨fun t ht => by simp at ht, fun i j hi => by simp at hi⟩
  | t :: r, pre, h => by
    simp only [namesAux, Bool.and_eq_true, Bool.not_eq_true', List.any_eq_false, beq_iff_eq] at h
    obtain ⟨⟨_, h1⟩, h2⟩ := h
    obtain ⟨h3, h4⟩ := namesAux_uniq h2
    refine ⟨fun u hu w hw => ?_, fun i j hi hj e => ?_⟩
    · rcases List.mem_cons.1 hu with rfl | hu
      · exact h1 w hw
      · exact h3 u hu w (by simp [hw])
    · cases i with
      | zero =>
        cases j with
        | zero => rfl
        | succ j => exact absurd e (h3 _ (List.getElem_mem (by simpa using hj)) t (by simp))
      | succ i =>
        cases j with
        | zero => exact absurd e.symm (h3 _ (List.getElem_mem (by simpa using hi)) t (by simp))
        | succ j => rw [h4 i j (by simpa using hi) (by simpa using hj) e]
theorem tabAt_eq {s : List Table} (h : schemaF s = true) {m : Nat} (hm : m < s.length) {nm : List UInt8} (e : nm = s[m].name) : tabAt s nm = some s[m] := by
  subst e
  rcases idxA_at (p := fun u : Table => u.name == s[m].name) (l := s) (i := 0) (Int.le_refl _) with hi | ⟨n, hn, hi, hp⟩
  · exfalso
    have := any_idx (p := fun u : Table => u.name == s[m].name) (l := s)
    rw [hi] at this
    have h2 : (s.any fun u => u.name == s[m].name) = true := List.any_eq_true.2 ⟨s[m], List.getElem_mem hm, by simp⟩
    rw [h2] at this
    exact absurd this (by decide)
  · rw [tabAt_yes (by rw [hi]; omega) hn]
    have := (namesAux_uniq (schemaF_iff.1 h).2.1).2 n m hn hm (eq_of_beq hp)
    subst this
    rfl
theorem half_oks {n : Nat} {l : List Val} (h : ∀ v ∈ l, okVal v = true) : ∀ v ∈ half n l, okVal v = true := by
  intro v hv
  rw [half] at hv
  split at hv
  · rw [List.eq_of_mem_replicate hv]; rfl
  · exact h v hv
theorem l8Fires_ok (s : List Table) (l : List Trigger) (n : Int) (m : Nat) (ev : Int) (old now : List Val) (hn : n = (m : Int)) (hm : m < s.length) (hc : s[m].cols.length ≤ 8) (hx : l.length ≤ 1048576) (ho : old = [] ∨ old.length = s[m].cols.length) (hw : now = [] ∨ now.length = s[m].cols.length)
    (ho2 : ∀ v ∈ old, okVal v = true) (hw2 : ∀ v ∈ now, okVal v = true) (hT : ∀ x ∈ l, x.table = s[m].name → whereF x.when_ (2 * s[m].cols.length) = true) (σ : Store) :
    Ok Tryz.prog 119 [.c (.fz (s.map encTable)), .c (.fz (l.map encTrigger)), .c (.int .i64 n), .c (.int .i64 ev), .c (.fz (old.map encV)), .c (.fz (now.map encV))] σ (NewV σ (.c (.fz ((firesF s[m] l ev old now).map encI)))) := by
  refine Ok.run mixed c_spec_l8Fires_ok (Nat.le_of_ble_eq_true rfl) fun hS hA => ?_
  clear hS hA
  have cs := l8Both_ok s[m] old now hc ho hw
  have hbl : (bothF s[m].cols.length old now).length = 2 * s[m].cols.length := by rw [bothF, List.length_append, half_len ho, half_len hw]; omega
  have hba : areVals (bothF s[m].cols.length old now) 16 = true := by
    simp only [areVals, Bool.and_eq_true, decide_eq_true_eq, List.all_eq_true]
    refine ⟨by omega, fun v hv => ?_⟩
    rcases List.mem_append.1 hv with hv | hv
    · exact half_oks ho2 v hv
    · exact half_oks hw2 v hv
  rw [firesF]
  generalize bothF s[m].cols.length old now = vals at cs hbl hba ⊢
  repeat' first|(apply yA;exact rfl)|apply yB|apply yC|((first|apply yD|apply yE);(first|exact yF|assumption);iterate 6 exact rfl)|((first|apply yG|apply yH|apply yI);exact rfl;(first|exact yJ|exact yK rfl rfl|exact yL rfl|exact yM rfl|exact rfl|exact aL rfl rfl rfl rfl rfl|exact aS rfl rfl rfl rfl rfl rfl rfl))|((first|apply yN|apply yO|apply yP);exact rfl)|(exfalso;omega)|(((first|apply yT|apply yU|apply yV|apply yW);exact rfl;(first|exact .d|exact .e|exact .n|((fail_if_success exact bqt);(fail_if_success exact bqf);exact .b)))<;>intro _)
  refine Go.keep [0, 1, 2, 3, 4, 5, 13, 14] (Go.loops (I := fun q fr τ => ∃ (i : Nat) (k : Int) (ids : List Int) (v : Nat) (junk : List (List Ce)), q = l.length - i ∧ i ≤ l.length ∧ k = i ∧ Jk 1 junk ∧ (ids.length ≤ i ∧ fireAux (fireOne s[m] ev vals) l 0 [] = fireAux (fireOne s[m] ev vals) (l.drop i) k ids) ∧
    fr = [(0, .c (.fz (s.map encTable))), (1, .c (.fz (l.map encTrigger))), (2, .c (.int .i64 n)), (3, .c (.int .i64 ev)), (4, .c (.fz (old.map encV))), (5, .c (.fz (now.map encV))), (13, .c (vec (σ.next + 0) v (ids.map encI) junk)), (14, .c (.int .i64 k))] ∧ τ = E σ [(v, ids.map encI ++ junk)]) ?_ _ _ _ ⟨0, _, [], 0, [], rfl, Nat.zero_le _, rfl, Jk.nil, ⟨Nat.zero_le _, rfl⟩, rfl, rfl⟩)
  rintro q fr τ ⟨i, k, ids, v, junk, rfl, hi, hk, hj, ⟨hil, hs⟩, rfl, rfl⟩ hrec
  by_cases hlt : i < l.length
  · have hTi := hT _ (List.getElem_mem hlt)
    rw [List.drop_eq_getElem_cons hlt, fireAux] at hs
    have hkk : IntKind.i64.wrap (k + 1) = k + 1 := wrap64 (by omega) (by omega)
    have hbd : ((ids.map encI).length + 1) * 8 ≤ 140737488355328 := by rw [List.length_map]; omega
    have hz1 : ∀ e ∈ ids.map encI, e.length = 1 := fun e he => (flatIs e he).1
    have e1 : ids.map encI ++ [encI k] = (ids ++ [k]).map encI := by simp
    have fin0 : fireOne s[m] ev vals l[i] = false → ∀ fr τ, fr = [(0, AV.c (.fz (s.map encTable))), (1, .c (.fz (l.map encTrigger))), (2, .c (.int .i64 n)), (3, .c (.int .i64 ev)), (4, .c (.fz (old.map encV))), (5, .c (.fz (now.map encV))), (13, .c (vec (σ.next + 0) v (ids.map encI) junk)), (14, .c (.int .i64 (IntKind.i64.wrap (k + 1))))] → τ = E σ [(v, ids.map encI ++ junk)] → _ := fun hf fr τ a b => by
      rw [hf, if_neg Bool.false_ne_true] at hs
      exact hrec (l.length - (i + 1)) fr τ (by omega) ⟨i + 1, _, ids, v, junk, rfl, hlt, wrap_succ hk (by omega), hj, ⟨by omega, by rw [hkk]; exact hs⟩, a, b⟩
    have fin1 : fireOne s[m] ev vals l[i] = true → ∀ (v' : Nat) (junk' : List (List Ce)), Jk 1 junk' → ∀ fr τ, fr = [(0, AV.c (.fz (s.map encTable))), (1, .c (.fz (l.map encTrigger))), (2, .c (.int .i64 n)), (3, .c (.int .i64 ev)), (4, .c (.fz (old.map encV))), (5, .c (.fz (now.map encV))), (13, .c (vec (σ.next + 0) v' ((ids ++ [k]).map encI) junk')), (14, .c (.int .i64 (IntKind.i64.wrap (k + 1))))] → τ = E σ [(v', (ids ++ [k]).map encI ++ junk')] → _ := fun hf v' junk' hj' fr τ a b => by
      rw [hf, if_pos rfl] at hs
      exact hrec (l.length - (i + 1)) fr τ (by omega) ⟨i + 1, _, ids ++ [k], v', junk', rfl, hlt, wrap_succ hk (by omega), hj', ⟨by simp; omega, by rw [hkk]; exact hs⟩, a, b⟩
    clear hrec hs
    by_cases h1 : l[i].table = s[m].name
    · have hb1 : (l[i].table == s[m].name) = true := by rw [h1]; exact beq_self_eq_true _
      by_cases h0 : (l[i].when_.length : Int) = 0
      · repeat' first|(apply yA;exact rfl)|apply yB|apply yC|((first|apply yD|apply yE);(first|exact yF|assumption);iterate 6 exact rfl)|((first|apply yG|apply yH|apply yI);exact rfl;(first|exact yJ|exact yK rfl rfl|exact yL rfl|exact yM rfl|exact rfl|exact aL rfl rfl rfl rfl rfl|exact aS rfl rfl rfl rfl rfl rfl rfl|exact yX (enc := encTrigger) rfl rfl hk hlt rfl|exact yX (enc := encTable) rfl rfl hn hm rfl))|((first|apply yN|apply yO|apply yP);exact rfl)|(apply Go.app1;exact rfl;exact rfl;exact rfl;exact rfl;exact rfl;exact hz1;exact hj;exact rfl;exact hbd;intro v' junk' hj')|(exfalso;omega)|(((first|apply yT|apply yU|apply yV|apply yW);exact rfl;(first|exact .d|exact .e|exact .n|((fail_if_success exact bqt);(fail_if_success exact bqf);exact .b)))<;>intro _)
        all_goals first
          | (refine Go.keep [0, 1, 2, 3, 4, 5, 13, 14] (fin1 ?_ v' junk' hj' _ _ ?_ ?_) <;> first | (rw [← e1]; rfl) | (simp_all [fireOne]; done))
          | (refine Go.keep [0, 1, 2, 3, 4, 5, 13, 14] (fin0 ?_ _ _ rfl rfl); simp_all [fireOne]; done)
          | (exfalso; simp_all; done)
      · have hex : exprF l[i].when_ vals.length = true := by
          rw [hbl]
          have := whereF_some (hTi h1) (by omega)
          exact this
        have c1 := l2Truth_ok l[i].when_ vals hba hex
        have hTT : truthI l[i].when_ vals = truthR l[i].when_ vals := by rw [truthI, evalOk, hba, hex]; rfl
        repeat' first|(apply yA;exact rfl)|apply yB|apply yC|((first|apply yD|apply yE);(first|exact yF|assumption);iterate 6 exact rfl)|((first|apply yG|apply yH|apply yI);exact rfl;(first|exact yJ|exact yK rfl rfl|exact yL rfl|exact yM rfl|exact rfl|exact aL rfl rfl rfl rfl rfl|exact aS rfl rfl rfl rfl rfl rfl rfl|exact yX (enc := encTrigger) rfl rfl hk hlt rfl|exact yX (enc := encTable) rfl rfl hn hm rfl))|((first|apply yN|apply yO|apply yP);exact rfl)|(apply Go.app1;exact rfl;exact rfl;exact rfl;exact rfl;exact rfl;exact hz1;exact hj;exact rfl;exact hbd;intro v' junk' hj')|((first|apply yQ|apply yR|apply yS);(iterate 3 exact rfl);(first|exact cs|exact c1))|(exfalso;omega)|(((first|apply yT|apply yU|apply yV|apply yW);exact rfl;(first|exact .d|exact .e|exact .n|((fail_if_success exact bqt);(fail_if_success exact bqf);exact .b)))<;>intro _)
        all_goals first
          | (refine Go.keep [0, 1, 2, 3, 4, 5, 13, 14] (fin1 ?_ v' junk' hj' _ _ ?_ ?_) <;> first | (rw [← e1]; rfl) | (simp_all [fireOne]; done))
          | (refine Go.keep [0, 1, 2, 3, 4, 5, 13, 14] (fin0 ?_ _ _ rfl rfl); simp_all [fireOne]; done)
          | (exfalso; simp_all; done)
    · have hb1 : (l[i].table == s[m].name) = false := beq_eq_false_iff_ne.2 h1
      repeat' first|(apply yA;exact rfl)|apply yB|apply yC|((first|apply yD|apply yE);(first|exact yF|assumption);iterate 6 exact rfl)|((first|apply yG|apply yH|apply yI);exact rfl;(first|exact yJ|exact yK rfl rfl|exact yL rfl|exact yM rfl|exact rfl|exact aL rfl rfl rfl rfl rfl|exact aS rfl rfl rfl rfl rfl rfl rfl|exact yX (enc := encTrigger) rfl rfl hk hlt rfl|exact yX (enc := encTable) rfl rfl hn hm rfl))|((first|apply yN|apply yO|apply yP);exact rfl)|(exfalso;omega)|(((first|apply yT|apply yU|apply yV|apply yW);exact rfl;(first|exact .d|exact .e|exact .n|((fail_if_success exact bqt);(fail_if_success exact bqf);exact .b)))<;>intro _)
      all_goals first
        | (refine Go.keep [0, 1, 2, 3, 4, 5, 13, 14] (fin0 ?_ _ _ rfl rfl); simp_all [fireOne]; done)
        | (exfalso; simp_all; done)
  · repeat' first|(apply yA;exact rfl)|apply yB|apply yC|((first|apply yD|apply yE);(first|exact yF|assumption);iterate 6 exact rfl)|((first|apply yG|apply yH|apply yI);exact rfl;(first|exact yJ|exact yK rfl rfl|exact yL rfl|exact yM rfl|exact rfl|exact aL rfl rfl rfl rfl rfl|exact aS rfl rfl rfl rfl rfl rfl rfl))|((first|apply yN|apply yO|apply yP);exact rfl)|(exfalso;omega)|(((first|apply yT|apply yU|apply yV|apply yW);exact rfl;(first|exact .d|exact .e|exact .n|((fail_if_success exact bqt);(fail_if_success exact bqf);exact .b)))<;>intro _)
    refine .ret rfl ?_
    rw [List.drop_eq_nil_of_le (by omega), fireAux] at hs
    rw [hs]
    exact newVec flatIs hj
def fitAt (s : List Table) (n : Int) (v : List Val) : Bool := (v.length : Int) == 0 || (match s[n.toNat]? with | some t => fitF t v | none => false)
def firesOk (s : List Table) (l : List Trigger) (n : Int) (old now : List Val) : Bool := triggersF s l && (isIn n 0 (s.length - 1) && (fitAt s n old && fitAt s n now))
def FiresF (s : List Table) (l : List Trigger) (n ev : Int) (old now : List Val) : List Int := if firesOk s l n old now then (match s[n.toNat]? with | some t => firesF t l ev old now | none => []) else []
theorem trig_facts {s : List Table} {l : List Trigger} (h : triggersF s l = true) : schemaF s = true ∧ l.length ≤ 6 ∧ ∀ x ∈ l, trigF s x = true := by
  simp only [triggersF, Bool.and_eq_true, decide_eq_true_eq, Bool.not_eq_true', List.any_eq_false, Bool.not_eq_true, Bool.not_eq_false'] at h
  exact ⟨h.1, by omega, fun x hx => by simpa using h.2.2 x hx⟩
theorem l8Row_ok (t : Table) (vals : List Val) (hx : vals.length ≤ 34359738368) : Pure Tryz.prog 118 [.agg (encTable t), .c (.fz (vals.map encV))] (.c (.bool ((vals.length : Int) == 0 || fitF t vals))) := by
  refine Pure.run mixed c_spec_l8Row_ok (Nat.le_of_ble_eq_true rfl) fun σ hS hA => ?_
  clear hS hA
  have c1 := l4Kinds_ok t vals hx
  by_cases h : (vals.length : Int) = 0
  · repeat' first|(apply yA;exact rfl)|apply yB|apply yC|((first|apply yD|apply yE);(first|exact yF|assumption);iterate 6 exact rfl)|((first|apply yG|apply yH|apply yI);exact rfl;(first|exact yJ|exact yK rfl rfl|exact yL rfl|exact yM rfl|exact rfl|exact aL rfl rfl rfl rfl rfl|exact aS rfl rfl rfl rfl rfl rfl rfl))|((first|apply yN|apply yO|apply yP);exact rfl)|(exfalso;omega)|(((first|apply yT|apply yU|apply yV|apply yW);exact rfl;(first|exact .d|exact .e|exact .n|((fail_if_success exact bqt);(fail_if_success exact bqf);exact .b)))<;>intro _)
    exact .ret rfl (.bool (by rw [h]; rfl))
  · repeat' first|(apply yA;exact rfl)|apply yB|apply yC|((first|apply yD|apply yE);(first|exact yF|assumption);iterate 6 exact rfl)|((first|apply yG|apply yH|apply yI);exact rfl;(first|exact yJ|exact yK rfl rfl|exact yL rfl|exact yM rfl|exact rfl|exact aL rfl rfl rfl rfl rfl|exact aS rfl rfl rfl rfl rfl rfl rfl))|((first|apply yN|apply yO|apply yP);exact rfl)|((first|apply yQ|apply yR|apply yS);(iterate 3 exact rfl);exact c1)|(exfalso;omega)|(((first|apply yT|apply yU|apply yV|apply yW);exact rfl;(first|exact .d|exact .e|exact .n|((fail_if_success exact bqt);(fail_if_success exact bqf);exact .b)))<;>intro _)
    exact .ret rfl (.bool (by rw [beq_eq_false_iff_ne.2 h]; rfl))
theorem fitAt_facts {s : List Table} {n : Int} {m : Nat} {v : List Val} (hn : n = (m : Int)) (hm : m < s.length) (hc : s[m].cols.length ≤ 8) (h : fitAt s n v = true) : v.length ≤ 8 ∧ (v = [] ∨ v.length = s[m].cols.length) ∧ ∀ w ∈ v, okVal w = true := by
  have hmn : n.toNat = m := by omega
  rw [fitAt, hmn, List.getElem?_eq_getElem hm, Bool.or_eq_true, beq_iff_eq] at h
  rcases h with h | h
  · have : v = [] := List.eq_nil_of_length_eq_zero (by omega)
    subst this
    exact ⟨by simp, .inl rfl, fun w hw => by simp at hw⟩
  · obtain ⟨h1, h2⟩ := fitF_vals h
    exact ⟨by omega, .inr h1, h2⟩
end Go.Proofs.YteafjabcpmpmgaaGreat.Am

/- The reader that draws: triggers. -/
set_option linter.unusedVariables false
set_option linter.unusedSimpArgs false
namespace Go.Proofs.YteafjabcpmpmgaaGreat.Am

theorem oldTrigs {n : Nat} (l : List Trigger) : OldL n (l.map encTrigger) := fun e he c hc => by
  obtain ⟨a, _, rfl⟩ := List.mem_map.1 he
  simp only [encTrigger, List.mem_cons, List.not_mem_nil, or_false] at hc
  rcases hc with rfl | rfl | rfl | rfl | rfl
  · exact .str _
  · exact .int _ _
  · exact old_fz1 (oldL_flat flatTs)
  · exact .str _
  · exact old_fz1 (oldTerms _)
theorem trig_len {l : List Trigger} : ∀ e ∈ l.map encTrigger, e.length = 5 := fun e he => by
  obtain ⟨a, _, rfl⟩ := List.mem_map.1 he
  rfl
/-- A drawn list of triggers. -/
def Trigs (r : AV) : Prop := ∃ ts : List Trigger, ts.length ≤ 3 ∧ (∀ t ∈ ts, bTrigger 34359738368 t) ∧ r = .c (.fz (ts.map encTrigger))
/-- The blocks of a trigger that is made. -/
def TrigS (σ : Store) (n1 n2 : List UInt8) (ev : Int) (x2 : Ce) (rs : List Term) (ll : List (Nat × List (List Ce))) : Prop :=
  (rs = [] ∧ ll = [(0, [[.str n1, .int .i64 ev, x2, .str n2, .nils]])]) ∨ ∃ v junk, Jk 1 junk ∧ ll = [(0, [[.str n1, .int .i64 ev, x2, .str n2, vec (σ.next + 2) v (rs.map encTerm) junk]]), (v, rs.map encTerm ++ junk)]
theorem trig_frz {σ : Store} {b : Nat × List (List Ce)} {n1 n2 : List UInt8} {ev : Int} {x2 : Ce} {w : List Tok} {rs : List Term} {ll : List (Nat × List (List Ce))} (h2 : NF x2 (w.map encTok)) (h : TrigS σ n1 n2 ev x2 rs ll) : FrzV (E σ (b :: ll)) (σ.next + 1) (.c (.ptr (σ.next + 1) 0 0 0)) (.c (.fp (encTrigger ⟨n1, ev, w, n2, rs⟩))) := by
  rcases h with ⟨rfl, rfl⟩ | ⟨v, junk, hj, rfl⟩
  · refine .c (.ptr _ _ _ _ [[.str n1, .int .i64 ev, x2, .str n2, .nils]] _ _ (Nat.le_refl _) (E_get (k := 1) rfl) rfl rfl fun k hk => ?_)
    have hk5 : k < 5 := hk
    have : k = 0 ∨ k = 1 ∨ k = 2 ∨ k = 3 ∨ k = 4 := by omega
    rcases this with rfl | rfl | rfl | rfl | rfl
    · exact .same _ (.str _)
    · exact .same _ (.int _ _)
    · exact h2.frz (oldL_flat flatTs)
    · exact .same _ (.str _)
    · exact .nil
  · refine .c (.ptr _ _ _ _ [[.str n1, .int .i64 ev, x2, .str n2, vec (σ.next + 2) v (rs.map encTerm) junk]] _ _ (Nat.le_refl _) (E_get (k := 1) rfl) rfl rfl fun k hk => ?_)
    have hk5 : k < 5 := hk
    have : k = 0 ∨ k = 1 ∨ k = 2 ∨ k = 3 ∨ k = 4 := by omega
    rcases this with rfl | rfl | rfl | rfl | rfl
    · exact .same _ (.str _)
    · exact .same _ (.int _ _)
    · exact h2.frz (oldL_flat flatTs)
    · exact .same _ (.str _)
    · have hz := frz_old (σ := σ) (l := [b, (0, [[.str n1, .int .i64 ev, x2, .str n2, vec (σ.next + 2) v (rs.map encTerm) junk]]), (v, rs.map encTerm ++ junk)]) (k := 2) (v := v) (N := σ.next + 1) (ys := rs.map encTerm) (junk := junk) rfl (oldTerms _) (Nat.le_succ _)
      cases hz with
      | c h => exact h
theorem triggers_ok (s : List Table) (hs : SchD s) : Draws Tryz.prog 109 [.c (.fz (s.map encTable))] Trigs := by
  refine Draws.run mixed c_spec_l1Rd_triggers_ok (Nat.le_of_ble_eq_true rfl) fun σ id v code p hr hp hc hS => ?_
  have hs1 := hs.1
  have hs3 := hs.2.1
  have hsO : ∀ n, ∀ y ∈ (AV.c (.fz (s.map encTable))).all, Old n y := fun n y hy => by
    rw [List.mem_singleton.1 hy]
    exact old_fz1 (oldTables _)
  repeat' first|(apply yA;exact rfl)|apply yB|apply yC|((first|apply yG|apply yH|apply yI);exact rfl;(first|exact yJ|exact yK rfl rfl|exact yL rfl|exact yM rfl|exact rfl|exact aL rfl rfl rfl rfl rfl|exact aS rfl rfl rfl rfl rfl rfl rfl))|((first|apply yN|apply yO|apply yP);exact rfl)|(exfalso;omega)|(((first|apply yT|apply yU|apply yV|apply yW);exact rfl;(first|exact .d|exact .e|exact .n|((fail_if_success exact bqt);(fail_if_success exact bqf);exact .b)))<;>intro _)
  refine Go.drawn hr hp rfl rfl rfl (below_ok 4 (by decide) (by decide)) ?_
  rintro _ q hq ⟨d, hd0, hd1, rfl⟩
  repeat' first|(apply yA;exact rfl)|apply yB|apply yC|((first|apply yG|apply yH|apply yI);exact rfl;(first|exact yJ|exact yK rfl rfl|exact yL rfl|exact yM rfl|exact rfl|exact aL rfl rfl rfl rfl rfl|exact aS rfl rfl rfl rfl rfl rfl rfl))|((first|apply yN|apply yO|apply yP);exact rfl)|(exfalso;omega)|(((first|apply yT|apply yU|apply yV|apply yW);exact rfl;(first|exact .d|exact .e|exact .n|((fail_if_success exact bqt);(fail_if_success exact bqf);exact .b)))<;>intro _)
  refine Go.keep [0, 1, 5, 6] (Go.loops (I := fun m fr τ => ∃ (d : Int) (q u : Nat) (ts : List Trigger) (junk : List (List Ce)), m = d.toNat ∧ q ≤ code.length ∧ (ts.length : Int) + d ≤ 3 ∧ 0 ≤ d ∧ (∀ t ∈ ts, bTrigger 34359738368 t) ∧ Jk 5 junk ∧
    fr = [(0, .c (.ptr id v 0 0)), (1, .c (.fz (s.map encTable))), (5, .c (vec (σ.next + 0) u (ts.map encTrigger) junk)), (6, .c (.int .i64 d))] ∧ τ = E (Rd.go σ id v code q) [(u, ts.map encTrigger ++ junk)]) ?_ _ _ _ ⟨d, q, 0, [], [], rfl, hq, by simp; omega, hd0, fun t ht => (by cases ht), Jk.nil, rfl, rfl⟩)
  clear hd0 hd1 hq
  clear d q
  rintro m fr τ ⟨d, q, u, ts, junk, rfl, hq, htd, hd0, htb, hj, rfl, rfl⟩ hrec
  by_cases hd : d > 0
  · have ed : IntKind.i64.wrap (d - 1) = d - 1 := wrap64 (by omega) (by omega)
    repeat' first|(apply yA;exact rfl)|apply yB|apply yC|((first|apply yD|apply yE);(first|exact yF|assumption);iterate 6 exact rfl)|((first|apply yG|apply yH|apply yI);exact rfl;(first|exact yJ|exact yK rfl rfl|exact yL rfl|exact yM rfl|exact rfl|exact aL rfl rfl rfl rfl rfl|exact aS rfl rfl rfl rfl rfl rfl rfl))|((first|apply yN|apply yO|apply yP);exact rfl)|(exfalso;omega)|(((first|apply yT|apply yU|apply yV|apply yW);exact rfl;(first|exact .d|exact .e|exact .n|((fail_if_success exact bqt);(fail_if_success exact bqf);exact .b)))<;>intro _)
    refine Go.drawn hr hq rfl rfl rfl (below_ok s.length (by omega) (by omega)) ?_
    intro r q1 hq1 hz
    obtain ⟨k, hk, rfl⟩ := below_pos (by omega) hz
    repeat' first|(apply yA;exact rfl)|apply yB|apply yC|((first|apply yD|apply yE);(first|exact yF|assumption);iterate 6 exact rfl)|((first|apply yG|apply yH|apply yI);exact rfl;(first|exact yJ|exact yK rfl rfl|exact yL rfl|exact yM rfl|exact rfl|exact aL rfl rfl rfl rfl rfl|exact aS rfl rfl rfl rfl rfl rfl rfl|exact yX (enc := encTable) rfl rfl rfl hk rfl))|((first|apply yN|apply yO|apply yP);exact rfl)|(exfalso;omega)|(((first|apply yT|apply yU|apply yV|apply yW);exact rfl;(first|exact .d|exact .e|exact .n|((fail_if_success exact bqt);(fail_if_success exact bqf);exact .b)))<;>intro _)
    refine Go.drawn hr hq1 rfl rfl rfl (below_ok s.length (by omega) (by omega)) ?_
    intro r q2 hq2 hz2
    obtain ⟨k2, hk2, rfl⟩ := below_pos (by omega) hz2
    repeat' first|apply Go.seq|apply Go.skip|apply Go.region|apply Go.nil|apply Go.block|apply Go.blk|apply Go.segs|(apply Go.exit;exact rfl)|(apply Go.cond true;exact rfl)|(apply Go.cond false;exact rfl)|apply yB|apply yC|((first|apply yD|apply yE);(first|exact yF|assumption);iterate 6 exact rfl)|((first|apply yG|apply yH|apply yI);exact rfl;(first|exact yJ|exact yK rfl rfl|exact yL rfl|exact yM rfl|exact rfl|exact aL rfl rfl rfl rfl rfl|exact aS rfl rfl rfl rfl rfl rfl rfl|exact yX (enc := encTable) rfl rfl rfl hk2 rfl))|((first|apply yN|apply yO|apply yP);exact rfl)|(exfalso;omega)|(((first|apply yT|apply yU|apply yV|apply yW);exact rfl;(first|exact .d|exact .e|exact .n|((fail_if_success exact bqt);(fail_if_success exact bqf);exact .b)))<;>intro _)
    have hT1 := hs.2.2 _ (List.getElem_mem hk)
    have hT2 := hs.2.2 _ (List.getElem_mem hk2)
    have hlo := hT1.lo
    have hhi := hT1.hi
    have hn1 := hT1.b.1
    have hhi2 := hT2.hi
    have hn2 := hT2.b.1
    clear hT1 hT2 hz hz2
    generalize s[k] = T at hlo hhi hn1
    generalize s[k2] = T2 at hhi2 hn2
    apply Go.draw
    refine Go.qr [(u, ts.map encTrigger ++ junk)] rfl ?_
    repeat' first|(apply Qx.op;exact rfl;exact fun _ _ _ => rfl)
    refine Qx.drawn hr hq2 rfl rfl rfl (below_ok 3 (by decide) (by decide)) ?_
    rintro _ q3 hq3 ⟨ev, _, _, rfl⟩
    repeat' first|(apply Qx.op;exact rfl;exact fun _ _ _ => rfl)
    refine Qx.alloc rfl ⟨[], rfl⟩ ?_
    refine .nil ?_
    generalize IntKind.i64.wrap (1 + ev) = ev2
    repeat' first|(apply yA;exact rfl)|apply yB|apply yC|((first|apply yD|apply yE);(first|exact yF|assumption);iterate 6 exact rfl)|((first|apply yG|apply yH|apply yI);exact rfl;(first|exact yJ|exact yK rfl rfl|exact yL rfl|exact yM rfl|exact rfl|exact aL rfl rfl rfl rfl rfl|exact aS rfl rfl rfl rfl rfl rfl rfl))|((first|apply yN|apply yO|apply yP);exact rfl)|(exfalso;omega)|(((first|apply yT|apply yU|apply yV|apply yW);exact rfl;(first|exact .d|exact .e|exact .n|((fail_if_success exact bqt);(fail_if_success exact bqf);exact .b)))<;>intro _)
    generalize hN : T.cols.length = N at hlo hhi
    refine Go.keep [0, 1, 5, 6, 8, 9, 10, 11] (Go.loops (I := fun m fr τ => ∃ (i : Nat) (z : Int) (q : Nat) (rs : List Term) (ll : List (Nat × List (List Ce))), m = T2.cols.length - i ∧ i ≤ T2.cols.length ∧ z = i ∧ q ≤ code.length ∧ rs.length = i ∧ (∀ t ∈ rs, TermB t) ∧ TrigS σ T.name T2.name ev2 .nils rs ll ∧
      fr = [(0, .c (.ptr id v 0 0)), (1, .c (.fz (s.map encTable))), (5, .c (vec (σ.next + 0) u (ts.map encTrigger) junk)), (6, .c (.int .i64 d)), (8, .c (.fp (encTable T2))), (9, .c (.ptr (σ.next + 1) 0 0 0)), (10, .c (.int .i64 (N : Int))), (11, .c (.int .i64 z))] ∧ τ = E (Rd.go σ id v code q) ((u, ts.map encTrigger ++ junk) :: ll)) ?_ _ _ _ ⟨0, _, q3, [], _, rfl, Nat.zero_le _, rfl, hq3, rfl, fun t ht => (by cases ht), .inl ⟨rfl, rfl⟩, by rw [← hN]; rfl, rfl⟩)
    clear hq hq1 hq2 hq3
    clear q q1 q2 q3
    rintro m fr τ ⟨i, z, q, rs, ll, rfl, hi, hz, hq, hrl, hrb, hTS, rfl, rfl⟩ hreci
    by_cases hlt : i < T2.cols.length
    · have more : ∀ (t : Term) (q : Nat) (ll : List (Nat × List (List Ce))) (fr : Fr) (τ : Store), TermB t → q ≤ code.length → TrigS σ T.name T2.name ev2 .nils (rs ++ [t]) ll → fr = [(0, AV.c (.ptr id v 0 0)), (1, .c (.fz (s.map encTable))), (5, .c (vec (σ.next + 0) u (ts.map encTrigger) junk)), (6, .c (.int .i64 d)), (8, .c (.fp (encTable T2))), (9, .c (.ptr (σ.next + 1) 0 0 0)), (10, .c (.int .i64 (N : Int))), (11, .c (.int .i64 (IntKind.i64.wrap (z + 1))))] → τ = E (Rd.go σ id v code q) ((u, ts.map encTrigger ++ junk) :: ll) → _ := fun t q ll fr τ h1 h2 h3 h4 h5 =>
        hreci (T2.cols.length - (i + 1)) fr τ (by omega) ⟨i + 1, _, q, rs ++ [t], ll, rfl, hlt, wrap_succ hz (by omega), h2, by rw [List.length_append, List.length_singleton]; omega, fun x hx => by
          rcases List.mem_append.1 hx with hx | hx
          · exact hrb x hx
          · rw [List.mem_singleton.1 hx]; exact h1, h3, h4, h5⟩
      clear hreci hrec
      have hbd : ((rs.map encTerm).length + 1) * 24 ≤ 140737488355328 := by rw [List.length_map]; omega
      by_cases hk1 : T2.cols[i].kind = 1
      · repeat' first|(apply yA;exact rfl)|apply yB|apply yC|((first|apply yD|apply yE);(first|exact yF|assumption);iterate 6 exact rfl)|((first|apply yG|apply yH|apply yI);exact rfl;(first|exact yJ|exact yK rfl rfl|exact yL rfl|exact yM rfl|exact rfl|exact aL rfl rfl rfl rfl rfl|exact aS rfl rfl rfl rfl rfl rfl rfl|exact yX (enc := encCol) rfl rfl hz hlt rfl))|((first|apply yN|apply yO|apply yP);exact rfl)|((first|apply yQ|apply yR|apply yS);(iterate 3 exact rfl);exact l2Const_ok vNull)|(exfalso;omega)|(((first|apply yT|apply yU|apply yV|apply yW);exact rfl;(first|exact .d|exact .e|exact .n|((fail_if_success exact bqt);(fail_if_success exact bqf);exact .b)))<;>intro _)
        refine Go.drawn hr hq rfl rfl rfl (below_ok 2 (by decide) (by decide)) ?_
        rintro _ q4 hq4 ⟨a, _, _, rfl⟩
        repeat' first|(apply yA;exact rfl)|apply yB|apply yC|((first|apply yD|apply yE);(first|exact yF|assumption);iterate 6 exact rfl)|((first|apply yG|apply yH|apply yI);exact rfl;(first|exact yJ|exact yK rfl rfl|exact yL rfl|exact yM rfl|exact rfl|exact aL rfl rfl rfl rfl rfl|exact aS rfl rfl rfl rfl rfl rfl rfl))|((first|apply yN|apply yO|apply yP);exact rfl)|((first|apply yQ|apply yR|apply yS);(iterate 3 exact rfl);exact l2Col_ok _)|(exfalso;omega)|(((first|apply yT|apply yU|apply yV|apply yW);exact rfl;(first|exact .d|exact .e|exact .n|((fail_if_success exact bqt);(fail_if_success exact bqf);exact .b)))<;>intro _)
        refine Go.drawn hr hq4 rfl rfl rfl (below_ok 3 (by decide) (by decide)) ?_
        rintro _ q5 hq5 ⟨b, _, _, rfl⟩
        generalize IntKind.i64.wrap (a * (N : Int)) = c
        have h9 : TermB (⟨[tCol c, tConst (vInt b), ⟨9, 0, vNull⟩]⟩ : Term) := ⟨by simp, fun t ht => by
          simp only [List.mem_cons, List.not_mem_nil, or_false] at ht
          rcases ht with rfl | rfl | rfl <;> exact Nat.zero_le _⟩
        rcases hTS with ⟨rfl, rfl⟩ | ⟨u2, junk2, hj2, rfl⟩
        · repeat' first|(apply yA;exact rfl)|apply yB|apply yC|((first|apply yD|apply yE);(first|exact yF|assumption);iterate 6 exact rfl)|((first|apply yG|apply yH|apply yI);exact rfl;(first|exact yJ|exact yK rfl rfl|exact yL rfl|exact yM rfl|exact aop_appNil rfl rfl (fun e he => by rw [List.mem_singleton.1 he];rfl) (by simp)|exact rfl|exact aL rfl rfl rfl rfl rfl|exact aS rfl rfl rfl rfl rfl rfl rfl))|((first|apply yN|apply yO|apply yP);exact rfl)|((first|apply yQ|apply yR|apply yS);(iterate 3 exact rfl);(first|exact l1Int_ok _|exact l2Const_ok _))|(exfalso;omega)|(((first|apply yT|apply yU|apply yV|apply yW);exact rfl;(first|exact .d|exact .e|exact .n|((fail_if_success exact bqt);(fail_if_success exact bqf);exact .b)))<;>intro _)
          exact Go.keep [0, 1, 5, 6, 8, 9, 10, 11] (more (⟨[tCol c, tConst (vInt b), ⟨9, 0, vNull⟩]⟩ : Term) q5 _ _ _ h9 hq5 (.inr ⟨0, [], Jk.nil, rfl⟩) rfl rfl)
        · repeat' first|(apply yA;exact rfl)|apply yB|apply yC|((first|apply yD|apply yE);(first|exact yF|assumption);iterate 6 exact rfl)|((first|apply yG|apply yH|apply yI);exact rfl;(first|exact yJ|exact yK rfl rfl|exact yL rfl|exact yM rfl|exact rfl|exact aL rfl rfl rfl rfl rfl|exact aS rfl rfl rfl rfl rfl rfl rfl))|((first|apply yN|apply yO|apply yP);exact rfl)|((first|apply yQ|apply yR|apply yS);(iterate 3 exact rfl);(first|exact l1Int_ok _|exact l2Const_ok _))|(exfalso;omega)|(((first|apply yT|apply yU|apply yV|apply yW);exact rfl;(first|exact .d|exact .e|exact .n|((fail_if_success exact bqt);(fail_if_success exact bqf);exact .b)))<;>intro _)
          refine Go.app1 (k := 2) (ys := rs.map encTerm) (junk := junk2) (z := encTerm (⟨[tCol c, tConst (vInt b), ⟨9, 0, vNull⟩]⟩ : Term)) rfl rfl rfl rfl rfl term_len hj2 rfl hbd fun u' junk' hj' => ?_
          rw [show rs.map encTerm ++ [encTerm (⟨[tCol c, tConst (vInt b), ⟨9, 0, vNull⟩]⟩ : Term)] = (rs ++ [(⟨[tCol c, tConst (vInt b), ⟨9, 0, vNull⟩]⟩ : Term)]).map encTerm by simp]
          repeat' first|(apply yA;exact rfl)|apply yB|apply yC|((first|apply yD|apply yE);(first|exact yF|assumption);iterate 6 exact rfl)|((first|apply yG|apply yH|apply yI);exact rfl;(first|exact yJ|exact yK rfl rfl|exact yL rfl|exact yM rfl|exact rfl|exact aL rfl rfl rfl rfl rfl|exact aS rfl rfl rfl rfl rfl rfl rfl))|((first|apply yN|apply yO|apply yP);exact rfl)|(exfalso;omega)|(((first|apply yT|apply yU|apply yV|apply yW);exact rfl;(first|exact .d|exact .e|exact .n|((fail_if_success exact bqt);(fail_if_success exact bqf);exact .b)))<;>intro _)
          exact Go.keep [0, 1, 5, 6, 8, 9, 10, 11] (more (⟨[tCol c, tConst (vInt b), ⟨9, 0, vNull⟩]⟩ : Term) q5 _ _ _ h9 hq5 (.inr ⟨u', junk', hj', rfl⟩) rfl rfl)
      · have h9 : TermB (⟨[tConst vNull]⟩ : Term) := ⟨by simp, fun t ht => by rw [List.mem_singleton.1 ht]; exact Nat.zero_le _⟩
        rcases hTS with ⟨rfl, rfl⟩ | ⟨u2, junk2, hj2, rfl⟩
        · repeat' first|(apply yA;exact rfl)|apply yB|apply yC|((first|apply yD|apply yE);(first|exact yF|assumption);iterate 6 exact rfl)|((first|apply yG|apply yH|apply yI);exact rfl;(first|exact yJ|exact yK rfl rfl|exact yL rfl|exact yM rfl|exact aop_appNil rfl rfl (fun e he => by rw [List.mem_singleton.1 he];rfl) (by simp)|exact rfl|exact aL rfl rfl rfl rfl rfl|exact aS rfl rfl rfl rfl rfl rfl rfl|exact yX (enc := encCol) rfl rfl hz hlt rfl))|((first|apply yN|apply yO|apply yP);exact rfl)|((first|apply yQ|apply yR|apply yS);(iterate 3 exact rfl);exact l2Const_ok vNull)|(exfalso;omega)|(((first|apply yT|apply yU|apply yV|apply yW);exact rfl;(first|exact .d|exact .e|exact .n|((fail_if_success exact bqt);(fail_if_success exact bqf);exact .b)))<;>intro _)
          exact Go.keep [0, 1, 5, 6, 8, 9, 10, 11] (more (⟨[tConst vNull]⟩ : Term) q _ _ _ h9 hq (.inr ⟨0, [], Jk.nil, rfl⟩) rfl rfl)
        · repeat' first|(apply yA;exact rfl)|apply yB|apply yC|((first|apply yD|apply yE);(first|exact yF|assumption);iterate 6 exact rfl)|((first|apply yG|apply yH|apply yI);exact rfl;(first|exact yJ|exact yK rfl rfl|exact yL rfl|exact yM rfl|exact rfl|exact aL rfl rfl rfl rfl rfl|exact aS rfl rfl rfl rfl rfl rfl rfl|exact yX (enc := encCol) rfl rfl hz hlt rfl))|((first|apply yN|apply yO|apply yP);exact rfl)|((first|apply yQ|apply yR|apply yS);(iterate 3 exact rfl);exact l2Const_ok vNull)|(exfalso;omega)|(((first|apply yT|apply yU|apply yV|apply yW);exact rfl;(first|exact .d|exact .e|exact .n|((fail_if_success exact bqt);(fail_if_success exact bqf);exact .b)))<;>intro _)
          refine Go.app1 (k := 2) (ys := rs.map encTerm) (junk := junk2) (z := encTerm (⟨[tConst vNull]⟩ : Term)) rfl rfl rfl rfl rfl term_len hj2 rfl hbd fun u' junk' hj' => ?_
          rw [show rs.map encTerm ++ [encTerm (⟨[tConst vNull]⟩ : Term)] = (rs ++ [(⟨[tConst vNull]⟩ : Term)]).map encTerm by simp]
          repeat' first|(apply yA;exact rfl)|apply yB|apply yC|((first|apply yD|apply yE);(first|exact yF|assumption);iterate 6 exact rfl)|((first|apply yG|apply yH|apply yI);exact rfl;(first|exact yJ|exact yK rfl rfl|exact yL rfl|exact yM rfl|exact rfl|exact aL rfl rfl rfl rfl rfl|exact aS rfl rfl rfl rfl rfl rfl rfl))|((first|apply yN|apply yO|apply yP);exact rfl)|(exfalso;omega)|(((first|apply yT|apply yU|apply yV|apply yW);exact rfl;(first|exact .d|exact .e|exact .n|((fail_if_success exact bqt);(fail_if_success exact bqf);exact .b)))<;>intro _)
          exact Go.keep [0, 1, 5, 6, 8, 9, 10, 11] (more (⟨[tConst vNull]⟩ : Term) q _ _ _ h9 hq (.inr ⟨u', junk', hj', rfl⟩) rfl rfl)
    · clear hreci
      repeat' first|(apply yA;exact rfl)|apply yB|apply yC|((first|apply yD|apply yE);(first|exact yF|assumption);iterate 6 exact rfl)|((first|apply yG|apply yH|apply yI);exact rfl;(first|exact yJ|exact yK rfl rfl|exact yL rfl|exact yM rfl|exact rfl|exact aL rfl rfl rfl rfl rfl|exact aS rfl rfl rfl rfl rfl rfl rfl))|((first|apply yN|apply yO|apply yP);exact rfl)|(exfalso;omega)|(((first|apply yT|apply yU|apply yV|apply yW);exact rfl;(first|exact .d|exact .e|exact .n|((fail_if_success exact bqt);(fail_if_success exact bqf);exact .b)))<;>intro _)
      refine Go.meet (K' := [_, _]) (fun fr τ => ∃ (q : Nat) (w : List Tok) (x2 : Ce) (ll : List (Nat × List (List Ce))), q ≤ code.length ∧ NF x2 (w.map encTok) ∧ w.length ≤ 7 ∧ (∀ t ∈ w, bTok 12 t) ∧ TrigS σ T.name T2.name ev2 x2 rs ll ∧
        fr = [(0, .c (.ptr id v 0 0)), (1, .c (.fz (s.map encTable))), (5, .c (vec (σ.next + 0) u (ts.map encTrigger) junk)), (6, .c (.int .i64 d)), (9, .c (.ptr (σ.next + 1) 0 0 0))] ∧ τ = E (Rd.go σ id v code q) ((u, ts.map encTrigger ++ junk) :: ll)) (fun K hm => ?_) ?_
      · refine Go.drawn hr hq rfl rfl rfl (once_ok 2 (by decide) (by decide)) ?_
        rintro _ q3 hq3 ⟨b3, rfl⟩
        cases b3
        · repeat' first|(apply yA;exact rfl)|apply yB|apply yC|((first|apply yD|apply yE);(first|exact yF|assumption);iterate 6 exact rfl)|((first|apply yG|apply yH|apply yI);exact rfl;(first|exact yJ|exact yK rfl rfl|exact yL rfl|exact yM rfl|exact rfl|exact aL rfl rfl rfl rfl rfl|exact aS rfl rfl rfl rfl rfl rfl rfl))|((first|apply yN|apply yO|apply yP);exact rfl)|(exfalso;omega)|(((first|apply yT|apply yU|apply yV|apply yW);exact rfl;(first|exact .d|exact .e|exact .n|((fail_if_success exact bqt);(fail_if_success exact bqf);exact .b)))<;>intro _)
          exact Go.keep [0, 1, 5, 6, 9] (hm _ _ ⟨q3, [], .nils, ll, hq3, .inr ⟨rfl, rfl⟩, by simp, fun t ht => (by cases ht), hTS, rfl, rfl⟩)
        · repeat' first|(apply yA;exact rfl)|apply yB|apply yC|((first|apply yD|apply yE);(first|exact yF|assumption);iterate 6 exact rfl)|((first|apply yG|apply yH|apply yI);exact rfl;(first|exact yJ|exact yK rfl rfl|exact yL rfl|exact yM rfl|exact rfl|exact aL rfl rfl rfl rfl rfl|exact aS rfl rfl rfl rfl rfl rfl rfl))|((first|apply yN|apply yO|apply yP);exact rfl)|(exfalso;omega)|(((first|apply yT|apply yU|apply yV|apply yW);exact rfl;(first|exact .d|exact .e|exact .n|((fail_if_success exact bqt);(fail_if_success exact bqf);exact .b)))<;>intro _)
          refine Go.drawn hr hq3 rfl rfl rfl (cond_ok N (by omega) (by omega)) ?_
          rintro _ q4 hq4 ⟨w, hw, hwb, rfl⟩
          rcases hTS with ⟨rfl, rfl⟩ | ⟨u2, junk2, hj2, rfl⟩
          · repeat' first|(apply yA;exact rfl)|apply yB|apply yC|((first|apply yD|apply yE);(first|exact yF|assumption);iterate 6 exact rfl)|((first|apply yG|apply yH|apply yI);exact rfl;(first|exact yJ|exact yK rfl rfl|exact yL rfl|exact yM rfl|exact rfl|exact aL rfl rfl rfl rfl rfl|exact aS rfl rfl rfl rfl rfl rfl rfl))|((first|apply yN|apply yO|apply yP);exact rfl)|(exfalso;omega)|(((first|apply yT|apply yU|apply yV|apply yW);exact rfl;(first|exact .d|exact .e|exact .n|((fail_if_success exact bqt);(fail_if_success exact bqf);exact .b)))<;>intro _)
            exact Go.keep [0, 1, 5, 6, 9] (hm _ _ ⟨q4, w, _, _, hq4, .inl rfl, hw, hwb, .inl ⟨rfl, rfl⟩, rfl, rfl⟩)
          · repeat' first|(apply yA;exact rfl)|apply yB|apply yC|((first|apply yD|apply yE);(first|exact yF|assumption);iterate 6 exact rfl)|((first|apply yG|apply yH|apply yI);exact rfl;(first|exact yJ|exact yK rfl rfl|exact yL rfl|exact yM rfl|exact rfl|exact aL rfl rfl rfl rfl rfl|exact aS rfl rfl rfl rfl rfl rfl rfl))|((first|apply yN|apply yO|apply yP);exact rfl)|(exfalso;omega)|(((first|apply yT|apply yU|apply yV|apply yW);exact rfl;(first|exact .d|exact .e|exact .n|((fail_if_success exact bqt);(fail_if_success exact bqf);exact .b)))<;>intro _)
            exact Go.keep [0, 1, 5, 6, 9] (hm _ _ ⟨q4, w, _, _, hq4, .inl rfl, hw, hwb, .inr ⟨u2, junk2, hj2, rfl⟩, rfl, rfl⟩)
      clear hTS hq
      clear q ll
      rintro fr τ ⟨q, w, x2, ll, hq, h2, hw, hwb, hTS, rfl, rfl⟩
      refine Go.freezeN (l := [(u, ts.map encTrigger ++ junk)]) (m := ll) (fr' := [(0, .c (.ptr id v 0 0)), (1, .c (.fz (s.map encTable))), (5, .c (vec (σ.next + 0) u (ts.map encTrigger) junk)), (6, .c (.int .i64 d)), (9, .c (.fp (encTrigger (⟨T.name, ev2, w, T2.name, rs⟩ : Trigger))))]) (hr.old hS) (fun b hb e he x hx => ?_) (Nat.le_refl _)
        (.frz rfl (.refl (old_ptr (Nat.lt_succ_of_lt hr.2.1))) (.frz rfl (.refl (hsO _)) (.frz rfl (.refl (old_sl (Nat.lt_succ_self _))) (.frz rfl (.refl old_c) (.frz rfl (trig_frz h2 hTS) .nil))))) ?_
      · rw [List.mem_singleton.1 hb] at he
        rcases List.mem_append.1 he with he | he
        · exact oldTrigs _ e he x hx
        · exact ((hj e he).2 x hx).old _
      have htl : ts.length ≤ 3 := by omega
      have htB : bTrigger 34359738368 (⟨T.name, ev2, w, T2.name, rs⟩ : Trigger) := ⟨by show T.name.length ≤ _; omega, ⟨by show w.length ≤ _; omega, fun t ht => tok_b34 (hwb t ht)⟩, by show T2.name.length ≤ _; omega, by show rs.length ≤ _; omega, fun t ht => ⟨by have := (hrb t ht).1; omega, fun x hx => tok_b34 ((hrb t ht).2 x hx)⟩⟩
      have hbd : ((ts.map encTrigger).length + 1) * 88 ≤ 140737488355328 := by rw [List.length_map]; omega
      repeat' first|(apply yA;exact rfl)|apply yB|apply yC|((first|apply yD|apply yE);(first|exact yF|assumption);iterate 6 exact rfl)|((first|apply yG|apply yH|apply yI);exact rfl;(first|exact yJ|exact yK rfl rfl|exact yL rfl|exact yM rfl|exact rfl|exact aL rfl rfl rfl rfl rfl|exact aS rfl rfl rfl rfl rfl rfl rfl))|((first|apply yN|apply yO|apply yP);exact rfl)|(exfalso;omega)|(((first|apply yT|apply yU|apply yV|apply yW);exact rfl;(first|exact .d|exact .e|exact .n|((fail_if_success exact bqt);(fail_if_success exact bqf);exact .b)))<;>intro _)
      refine Go.app1 (k := 0) (ys := ts.map encTrigger) (junk := junk) (z := encTrigger (⟨T.name, ev2, w, T2.name, rs⟩ : Trigger)) rfl rfl rfl rfl rfl trig_len hj rfl hbd fun u' junk' hj' => ?_
      rw [show ts.map encTrigger ++ [encTrigger (⟨T.name, ev2, w, T2.name, rs⟩ : Trigger)] = (ts ++ [(⟨T.name, ev2, w, T2.name, rs⟩ : Trigger)]).map encTrigger by simp]
      repeat' first|(apply yA;exact rfl)|apply yB|apply yC|((first|apply yD|apply yE);(first|exact yF|assumption);iterate 6 exact rfl)|((first|apply yG|apply yH|apply yI);exact rfl;(first|exact yJ|exact yK rfl rfl|exact yL rfl|exact yM rfl|exact rfl|exact aL rfl rfl rfl rfl rfl|exact aS rfl rfl rfl rfl rfl rfl rfl))|((first|apply yN|apply yO|apply yP);exact rfl)|(exfalso;omega)|(((first|apply yT|apply yU|apply yV|apply yW);exact rfl;(first|exact .d|exact .e|exact .n|((fail_if_success exact bqt);(fail_if_success exact bqf);exact .b)))<;>intro _)
      refine Go.keep [0, 1, 5, 6] (hrec (d - 1).toNat _ _ (by omega) ⟨d - 1, q, u', ts ++ [(⟨T.name, ev2, w, T2.name, rs⟩ : Trigger)], junk', rfl, hq, by rw [List.length_append, List.length_singleton]; omega, by omega, fun x hx => ?_, hj', by rw [ed]; rfl, rfl⟩)
      rcases List.mem_append.1 hx with hx | hx
      · exact htb x hx
      · rw [List.mem_singleton.1 hx]; exact htB
  · clear hrec
    have htl : ts.length ≤ 3 := by omega
    repeat' first|(apply yA;exact rfl)|apply yB|apply yC|((first|apply yD|apply yE);(first|exact yF|assumption);iterate 6 exact rfl)|((first|apply yG|apply yH|apply yI);exact rfl;(first|exact yJ|exact yK rfl rfl|exact yL rfl|exact yM rfl|exact rfl|exact aL rfl rfl rfl rfl rfl|exact aS rfl rfl rfl rfl rfl rfl rfl))|((first|apply yN|apply yO|apply yP);exact rfl)|(exfalso;omega)|(((first|apply yT|apply yU|apply yV|apply yW);exact rfl;(first|exact .d|exact .e|exact .n|((fail_if_success exact bqt);(fail_if_success exact bqf);exact .b)))<;>intro _)
    refine Go.drawn hr hq rfl rfl rfl (once_ok 30 (by decide) (by decide)) ?_
    rintro _ q3 hq3 ⟨b3, rfl⟩
    have fin : ∀ (ts : List Trigger) (u : Nat) (junk : List (List Ce)) (l : List (Nat × List (List Ce))), ts.length ≤ 3 → (∀ t ∈ ts, bTrigger 34359738368 t) → FinR σ id v code Trigs (.c (vec (σ.next + 0) u (ts.map encTrigger) junk)) (E (Rd.go σ id v code q3) ((u, ts.map encTrigger ++ junk) :: l)) := fun ts u junk l h1 h2 =>
      .f hq3 ⟨ts, h1, h2, rfl⟩ (frz_old (σ := Rd.go σ id v code q3) (k := 0) rfl (oldTrigs _) (Nat.le_refl _))
    cases b3
    · repeat' first|(apply yA;exact rfl)|apply yB|apply yC|((first|apply yD|apply yE);(first|exact yF|assumption);iterate 6 exact rfl)|((first|apply yG|apply yH|apply yI);exact rfl;(first|exact yJ|exact yK rfl rfl|exact yL rfl|exact yM rfl|exact rfl|exact aL rfl rfl rfl rfl rfl|exact aS rfl rfl rfl rfl rfl rfl rfl))|((first|apply yN|apply yO|apply yP);exact rfl)|(exfalso;omega)|(((first|apply yT|apply yU|apply yV|apply yW);exact rfl;(first|exact .d|exact .e|exact .n|((fail_if_success exact bqt);(fail_if_success exact bqf);exact .b)))<;>intro _)
      exact .ret rfl (fin ts u junk _ htl htb)
    · cases ts with
      | nil =>
        repeat' first|(apply yA;exact rfl)|apply yB|apply yC|((first|apply yD|apply yE);(first|exact yF|assumption);iterate 6 exact rfl)|((first|apply yG|apply yH|apply yI);exact rfl;(first|exact yJ|exact yK rfl rfl|exact yL rfl|exact yM rfl|exact rfl|exact aL rfl rfl rfl rfl rfl|exact aS rfl rfl rfl rfl rfl rfl rfl))|((first|apply yN|apply yO|apply yP);exact rfl)|(exfalso;omega)|(((first|apply yT|apply yU|apply yV|apply yW);exact rfl;(first|exact .d|exact .e|exact .n|((fail_if_success exact bqt);(fail_if_success exact bqf);exact .b)))<;>intro _)
        exact .ret rfl (fin [] u junk _ htl htb)
      | cons t0 ts =>
        have hz0 : (0 : Int) = ((0 : Nat) : Int) := rfl
        have h0 : 0 < ((t0 :: ts).map encTrigger).length := by simp
        have hg : (E (Rd.go σ id v code q3) [(u, (t0 :: ts).map encTrigger ++ junk)]).get (σ.next + 0) = some (u, (t0 :: ts).map encTrigger ++ junk) := E_get (σ := Rd.go σ id v code q3) (k := 0) rfl
        have hev : ((t0 :: ts).map encTrigger ++ junk)[0 + 0]? = some (encTrigger t0) := rfl
        repeat' first|(apply yA;exact rfl)|apply yB|apply yC|((first|apply yD|apply yE);(first|exact yF|assumption);iterate 6 exact rfl)|((first|apply yG|apply yH|apply yI);exact rfl;(first|exact yJ|exact yK rfl rfl|exact yL rfl|exact yM rfl|exact rfl|exact aL rfl rfl rfl rfl rfl|exact aS rfl rfl rfl rfl rfl rfl rfl|exact aop_iaddrO rfl rfl hz0 h0 hg hev rfl|exact aop_store (k := 0) rfl rfl rfl rfl hev rfl (Nat.le_of_ble_eq_true rfl)))|((first|apply yN|apply yO|apply yP);exact rfl)|(exfalso;omega)|(((first|apply yT|apply yU|apply yV|apply yW);exact rfl;(first|exact .d|exact .e|exact .n|((fail_if_success exact bqt);(fail_if_success exact bqf);exact .b)))<;>intro _)
        refine .ret rfl (fin (⟨t0.table, t0.event, t0.when_, [120], t0.terms⟩ :: ts) u junk _ htl fun x hx => ?_)
        rcases List.mem_cons.1 hx with rfl | hx
        · have := htb t0 (by simp)
          exact ⟨this.1, this.2.1, by show ([120] : List UInt8).length ≤ _; simp, this.2.2.2⟩
        · exact htb x (List.mem_cons_of_mem _ hx)
end Go.Proofs.YteafjabcpmpmgaaGreat.Am

/- Drawn arguments: of Fires. -/
set_option linter.unusedVariables false
set_option linter.unusedSimpArgs false
namespace Go.Proofs.YteafjabcpmpmgaaGreat.Am

/-- What is drawn for Fires. -/
def DrawF (r : AV) : Prop := ∃ (s : List Table) (ts : List Trigger) (m : Nat) (ev : Int) (old now : List Val), SchD s ∧ ts.length ≤ 3 ∧ (∀ t ∈ ts, bTrigger 34359738368 t) ∧ m < s.length ∧ (old.length ≤ 60 ∧ ∀ w ∈ old, bV 12 w) ∧ (now.length ≤ 60 ∧ ∀ w ∈ now, bV 12 w) ∧
  r = .tup [.c (.fz (s.map encTable)), .c (.fz (ts.map encTrigger)), .c (.int .i64 (m : Int)), .c (.int .i64 ev), .c (.fz (old.map encV)), .c (.fz (now.map encV))]
theorem finF {σ : Store} {l : List (Nat × List (List Ce))} {s : List Table} {ts : List Trigger} {n ev : Int} {x : Ce} {old now : List Val} (hx : NF x (old.map encV)) : FrzV (E σ l) σ.next (.tup [.c (.fz (s.map encTable)), .c (.fz (ts.map encTrigger)), .c (.int .i64 n), .c (.int .i64 ev), .c x, .c (.fz (now.map encV))]) (.tup [.c (.fz (s.map encTable)), .c (.fz (ts.map encTrigger)), .c (.int .i64 n), .c (.int .i64 ev), .c (.fz (old.map encV)), .c (.fz (now.map encV))]) := .tup rfl fun i hi => by
  have : i = 0 ∨ i = 1 ∨ i = 2 ∨ i = 3 ∨ i = 4 ∨ i = 5 := by simp at hi; omega
  rcases this with rfl | rfl | rfl | rfl | rfl | rfl
  · exact .c (.same _ (old_fz1 (oldTables _)))
  · exact .c (.same _ (old_fz1 (oldTrigs _)))
  · exact .c (.same _ (.int _ _))
  · exact .c (.same _ (.int _ _))
  · exact .c (hx.frz (oldL_flat flats))
  · exact .c (.same _ (old_fz1 (oldL_flat flats)))
theorem DrawFires_ok (code : List UInt8) (hc : code.length ≤ 1048576) : Told Tryz.prog 31 [.c (.fz (code.map encB))] DrawF := by
  refine Told.run mixed c_spec_DrawFires_ok (Nat.le_of_ble_eq_true rfl) fun σ hS => ?_
  clear hS
  repeat' first|(apply yA;exact rfl)|apply yB|apply yC|((first|apply yD|apply yE);(first|exact yF|assumption);iterate 6 exact rfl)|((first|apply yG|apply yH|apply yI);exact rfl;(first|exact yJ|exact yK rfl rfl|exact yL rfl|exact yM rfl|exact rfl|exact aL rfl rfl rfl rfl rfl|exact aS rfl rfl rfl rfl rfl rfl rfl))|((first|apply yN|apply yO|apply yP);exact rfl)|(exfalso;omega)|(((first|apply yT|apply yU|apply yV|apply yW);exact rfl;(first|exact .d|exact .e|exact .n|((fail_if_success exact bqt);(fail_if_success exact bqf);exact .b)))<;>intro _)
  refine .call _ rfl rfl rfl (l1Open_ok code (E σ [])) ?_
  rintro r τ ⟨rfl, rfl⟩
  rw [E_E, List.nil_append, rd_opened hc]
  have hr := rd_open (σ := σ) hc
  repeat' first|(apply yA;exact rfl)|apply yB|apply yC|((first|apply yD|apply yE);(first|exact yF|assumption);iterate 6 exact rfl)|((first|apply yG|apply yH|apply yI);exact rfl;(first|exact yJ|exact yK rfl rfl|exact yL rfl|exact yM rfl|exact rfl|exact aL rfl rfl rfl rfl rfl|exact aS rfl rfl rfl rfl rfl rfl rfl))|((first|apply yN|apply yO|apply yP);exact rfl)|(exfalso;omega)|(((first|apply yT|apply yU|apply yV|apply yW);exact rfl;(first|exact .d|exact .e|exact .n|((fail_if_success exact bqt);(fail_if_success exact bqf);exact .b)))<;>intro _)
  refine Go.drawn hr (Nat.zero_le _) rfl rfl rfl schema_ok ?_
  rintro _ q hq ⟨s, hs, rfl⟩
  have hs1 := hs.1
  have hs3 := hs.2.1
  repeat' first|(apply yA;exact rfl)|apply yB|apply yC|((first|apply yD|apply yE);(first|exact yF|assumption);iterate 6 exact rfl)|((first|apply yG|apply yH|apply yI);exact rfl;(first|exact yJ|exact yK rfl rfl|exact yL rfl|exact yM rfl|exact rfl|exact aL rfl rfl rfl rfl rfl|exact aS rfl rfl rfl rfl rfl rfl rfl))|((first|apply yN|apply yO|apply yP);exact rfl)|(exfalso;omega)|(((first|apply yT|apply yU|apply yV|apply yW);exact rfl;(first|exact .d|exact .e|exact .n|((fail_if_success exact bqt);(fail_if_success exact bqf);exact .b)))<;>intro _)
  refine Go.drawn hr hq rfl rfl rfl (triggers_ok s hs) ?_
  rintro _ q2 hq2 ⟨ts, ht1, ht2, rfl⟩
  repeat' first|(apply yA;exact rfl)|apply yB|apply yC|((first|apply yD|apply yE);(first|exact yF|assumption);iterate 6 exact rfl)|((first|apply yG|apply yH|apply yI);exact rfl;(first|exact yJ|exact yK rfl rfl|exact yL rfl|exact yM rfl|exact rfl|exact aL rfl rfl rfl rfl rfl|exact aS rfl rfl rfl rfl rfl rfl rfl))|((first|apply yN|apply yO|apply yP);exact rfl)|(exfalso;omega)|(((first|apply yT|apply yU|apply yV|apply yW);exact rfl;(first|exact .d|exact .e|exact .n|((fail_if_success exact bqt);(fail_if_success exact bqf);exact .b)))<;>intro _)
  refine Go.drawn hr hq2 rfl rfl rfl (below_ok s.length (by omega) (by omega)) ?_
  intro r q3 hq3 hz
  obtain ⟨m, hm, rfl⟩ := below_pos (by omega) hz
  have hT := hs.2.2 _ (List.getElem_mem hm)
  have hhi := hT.hi
  repeat' first|(apply yA;exact rfl)|apply yB|apply yC|((first|apply yD|apply yE);(first|exact yF|assumption);iterate 6 exact rfl)|((first|apply yG|apply yH|apply yI);exact rfl;(first|exact yJ|exact yK rfl rfl|exact yL rfl|exact yM rfl|exact rfl|exact aL rfl rfl rfl rfl rfl|exact aS rfl rfl rfl rfl rfl rfl rfl|exact yX (enc := encTable) rfl rfl rfl hm rfl))|((first|apply yN|apply yO|apply yP);exact rfl)|(exfalso;omega)|(((first|apply yT|apply yU|apply yV|apply yW);exact rfl;(first|exact .d|exact .e|exact .n|((fail_if_success exact bqt);(fail_if_success exact bqf);exact .b)))<;>intro _)
  refine Go.drawn hr hq3 rfl rfl rfl (fit_rd s[m] (by omega)) ?_
  rintro _ q4 hq4 ⟨old, ho, hob, rfl⟩
  repeat' first|(apply yA;exact rfl)|apply yB|apply yC|((first|apply yD|apply yE);(first|exact yF|assumption);iterate 6 exact rfl)|((first|apply yG|apply yH|apply yI);exact rfl;(first|exact yJ|exact yK rfl rfl|exact yL rfl|exact yM rfl|exact rfl|exact aL rfl rfl rfl rfl rfl|exact aS rfl rfl rfl rfl rfl rfl rfl|exact yX (enc := encTable) rfl rfl rfl hm rfl))|((first|apply yN|apply yO|apply yP);exact rfl)|(exfalso;omega)|(((first|apply yT|apply yU|apply yV|apply yW);exact rfl;(first|exact .d|exact .e|exact .n|((fail_if_success exact bqt);(fail_if_success exact bqf);exact .b)))<;>intro _)
  refine Go.drawn hr hq4 rfl rfl rfl (fit_rd s[m] (by omega)) ?_
  rintro _ q5 hq5 ⟨now, hw, hwb, rfl⟩
  repeat' first|(apply yA;exact rfl)|apply yB|apply yC|((first|apply yD|apply yE);(first|exact yF|assumption);iterate 6 exact rfl)|((first|apply yG|apply yH|apply yI);exact rfl;(first|exact yJ|exact yK rfl rfl|exact yL rfl|exact yM rfl|exact rfl|exact aL rfl rfl rfl rfl rfl|exact aS rfl rfl rfl rfl rfl rfl rfl))|((first|apply yN|apply yO|apply yP);exact rfl)|(exfalso;omega)|(((first|apply yT|apply yU|apply yV|apply yW);exact rfl;(first|exact .d|exact .e|exact .n|((fail_if_success exact bqt);(fail_if_success exact bqf);exact .b)))<;>intro _)
  refine Go.drawn hr hq5 rfl rfl rfl (once_ok 3 (by decide) (by decide)) ?_
  rintro _ q6 hq6 ⟨b3, rfl⟩
  cases b3
  · repeat' first|(apply yA;exact rfl)|apply yB|apply yC|((first|apply yD|apply yE);(first|exact yF|assumption);iterate 6 exact rfl)|((first|apply yG|apply yH|apply yI);exact rfl;(first|exact yJ|exact yK rfl rfl|exact yL rfl|exact yM rfl|exact rfl|exact aL rfl rfl rfl rfl rfl|exact aS rfl rfl rfl rfl rfl rfl rfl))|((first|apply yN|apply yO|apply yP);exact rfl)|(exfalso;omega)|(((first|apply yT|apply yU|apply yV|apply yW);exact rfl;(first|exact .d|exact .e|exact .n|((fail_if_success exact bqt);(fail_if_success exact bqf);exact .b)))<;>intro _)
    refine Go.drawn hr hq6 rfl rfl rfl (below_ok 3 (by decide) (by decide)) ?_
    rintro _ q7 hq7 ⟨ev, _, _, rfl⟩
    repeat' first|(apply yA;exact rfl)|apply yB|apply yC|((first|apply yD|apply yE);(first|exact yF|assumption);iterate 6 exact rfl)|((first|apply yG|apply yH|apply yI);exact rfl;(first|exact yJ|exact yK rfl rfl|exact yL rfl|exact yM rfl|exact rfl|exact aL rfl rfl rfl rfl rfl|exact aS rfl rfl rfl rfl rfl rfl rfl))|((first|apply yN|apply yO|apply yP);exact rfl)|(exfalso;omega)|(((first|apply yT|apply yU|apply yV|apply yW);exact rfl;(first|exact .d|exact .e|exact .n|((fail_if_success exact bqt);(fail_if_success exact bqf);exact .b)))<;>intro _)
    rw [rd_close]
    exact .ret rfl ⟨_, ⟨s, ts, m, _, old, now, hs, ht1, ht2, hm, ⟨by omega, hob⟩, ⟨by omega, hwb⟩, rfl⟩, _, rfl, finF (.inl rfl)⟩
  · repeat' first|(apply yA;exact rfl)|apply yB|apply yC|((first|apply yD|apply yE);(first|exact yF|assumption);iterate 6 exact rfl)|((first|apply yG|apply yH|apply yI);exact rfl;(first|exact yJ|exact yK rfl rfl|exact yL rfl|exact yM rfl|exact rfl|exact aL rfl rfl rfl rfl rfl|exact aS rfl rfl rfl rfl rfl rfl rfl))|((first|apply yN|apply yO|apply yP);exact rfl)|(exfalso;omega)|(((first|apply yT|apply yU|apply yV|apply yW);exact rfl;(first|exact .d|exact .e|exact .n|((fail_if_success exact bqt);(fail_if_success exact bqf);exact .b)))<;>intro _)
    refine Go.drawn hr hq6 rfl rfl rfl (below_ok 3 (by decide) (by decide)) ?_
    rintro _ q7 hq7 ⟨ev, _, _, rfl⟩
    repeat' first|(apply yA;exact rfl)|apply yB|apply yC|((first|apply yD|apply yE);(first|exact yF|assumption);iterate 6 exact rfl)|((first|apply yG|apply yH|apply yI);exact rfl;(first|exact yJ|exact yK rfl rfl|exact yL rfl|exact yM rfl|exact rfl|exact aL rfl rfl rfl rfl rfl|exact aS rfl rfl rfl rfl rfl rfl rfl))|((first|apply yN|apply yO|apply yP);exact rfl)|(exfalso;omega)|(((first|apply yT|apply yU|apply yV|apply yW);exact rfl;(first|exact .d|exact .e|exact .n|((fail_if_success exact bqt);(fail_if_success exact bqf);exact .b)))<;>intro _)
    rw [rd_close]
    exact .ret rfl ⟨_, ⟨s, ts, m, _, [], now, hs, ht1, ht2, hm, ⟨by simp, fun w hw => (by cases hw)⟩, ⟨by omega, hwb⟩, rfl⟩, _, rfl, finF (.inr ⟨rfl, rfl⟩)⟩
end Go.Proofs.YteafjabcpmpmgaaGreat.Am

/- Conditions put together: plain laws. -/
set_option linter.unusedVariables false
set_option linter.unusedSimpArgs false
namespace Go.Proofs.YteafjabcpmpmgaaGreat.Am

end Go.Proofs.YteafjabcpmpmgaaGreat.Am

/- Rows that match conditions put together: plain laws. -/
set_option linter.unusedVariables false
set_option linter.unusedSimpArgs false
namespace Go.Proofs.YteafjabcpmpmgaaGreat.Am

end Go.Proofs.YteafjabcpmpmgaaGreat.Am

/- Triggers that fire: both packages' own. -/
set_option linter.unusedVariables false
set_option linter.unusedSimpArgs false
namespace Go.Proofs.YteafjabcpmpmgaaGreat.Am

theorem newZero {σ : Store} : NewV σ (.c (.fz [])) (.c (.sl (σ.next + 0) 0 0 0 0)) (E σ [(0, [])]) := newVec (ys := []) (junk := []) (v := 0) (s := 1) (fun e he => by cases he) Jk.nil
theorem fitAt_len {s : List Table} {n : Int} {m : Nat} (hn : n = (m : Int)) (hm : m < s.length) (v : List Val) : fitAt s n v = ((v.length : Int) == 0 || fitF s[m] v) := by
  have hmn : n.toNat = m := by omega
  rw [fitAt, hmn, List.getElem?_eq_getElem hm]
theorem firesF_of {s : List Table} {l : List Trigger} {n ev : Int} {old now : List Val} {m : Nat} (hn : n = (m : Int)) (hm : m < s.length) (h1 : triggersF s l = true) (h2 : isIn n 0 (s.length - 1) = true) : FiresF s l n ev old now = if fitAt s n old && fitAt s n now then firesF s[m] l ev old now else [] := by
  have hmn : n.toNat = m := by omega
  rw [FiresF, firesOk, h1, h2, Bool.true_and, Bool.true_and, hmn, List.getElem?_eq_getElem hm]
theorem Fires_no (s : List Table) (l : List Trigger) (n ev : Int) (old now : List Val) (hx : s.length ≤ 34359738368) (hb : ∀ t ∈ s, bTable 34359738368 t) (hl : l.length ≤ 34359738368) (hq : ∀ x ∈ l, bTrigger 34359738368 x)
    (ho : old.length ≤ 34359738368) (ho2 : ∀ x ∈ old, bV 34359738368 x) (hw : now.length ≤ 34359738368) (hw2 : ∀ x ∈ now, bV 34359738368 x) (σ : Store) (h1 : triggersF s l = true) (h2 : isIn n 0 (s.length - 1) = true) (h5 : (fitAt s n old && fitAt s n now) = false) :
    Ok Tryz.prog 32 [.c (.fz (s.map encTable)), .c (.fz (l.map encTrigger)), .c (.int .i64 n), .c (.int .i64 ev), .c (.fz (old.map encV)), .c (.fz (now.map encV))] σ (NewV σ (.c (.fz ((FiresF s l n ev old now).map encI)))) := by
  refine Ok.run mixed c_impl_Fires_ok (Nat.le_of_ble_eq_true rfl) fun hS hA => ?_
  clear hS hA
  have c1 := TriggersOk_ok s l hx hb hl hq
  have c2 := isTable_ok s n hx
  rw [h1] at c1
  rw [h2] at c2
  obtain ⟨hs, hl6, htr⟩ := trig_facts h1
  obtain ⟨h3, h4⟩ := isIn_at h2
  have hn : n = (n.toNat : Int) := by omega
  have hlt : n.toNat < s.length := by omega
  have hcl := (schemaF_cols hs _ (List.getElem_mem hlt)).2
  have c3 := fit_ok s[n.toNat] old ho
  have c4 := fit_ok s[n.toNat] now hw
  rw [firesF_of hn hlt h1 h2]
  have e3 := fitAt_len hn hlt old
  have e4 := fitAt_len hn hlt now
  rw [h5]
  generalize fitF s[n.toNat] old = F3 at c3 e3
  generalize fitF s[n.toNat] now = F4 at c4 e4
  rw [e3, e4] at h5
  by_cases h0 : (old.length : Int) = 0
  · rw [beq_iff_eq.2 h0, Bool.true_or, Bool.true_and, Bool.or_eq_false_iff, beq_eq_false_iff_ne] at h5
    obtain ⟨h00, rfl⟩ := h5
    repeat' first|(apply yA;exact rfl)|apply yB|apply yC|((first|apply yD|apply yE);(first|exact yF|assumption);iterate 6 exact rfl)|((first|apply yG|apply yH|apply yI);exact rfl;(first|exact yJ|exact yK rfl rfl|exact yL rfl|exact yM rfl|exact rfl|exact aL rfl rfl rfl rfl rfl|exact aS rfl rfl rfl rfl rfl rfl rfl|exact yX (enc := encTable) rfl rfl hn hlt rfl))|((first|apply yN|apply yO|apply yP);exact rfl)|((first|apply yQ|apply yR|apply yS);(iterate 3 exact rfl);(first|exact c1|exact c2|exact c3|exact c4))|(exfalso;omega)|(((first|apply yT|apply yU|apply yV|apply yW);exact rfl;(first|exact .d|exact .e|exact .n|((fail_if_success exact bqt);(fail_if_success exact bqf);exact .b)))<;>intro _)
    exact .ret rfl (newNil (Gr.start σ))
  rw [beq_eq_false_iff_ne.2 h0, Bool.false_or] at h5
  cases F3
  · repeat' first|(apply yA;exact rfl)|apply yB|apply yC|((first|apply yD|apply yE);(first|exact yF|assumption);iterate 6 exact rfl)|((first|apply yG|apply yH|apply yI);exact rfl;(first|exact yJ|exact yK rfl rfl|exact yL rfl|exact yM rfl|exact rfl|exact aL rfl rfl rfl rfl rfl|exact aS rfl rfl rfl rfl rfl rfl rfl|exact yX (enc := encTable) rfl rfl hn hlt rfl))|((first|apply yN|apply yO|apply yP);exact rfl)|((first|apply yQ|apply yR|apply yS);(iterate 3 exact rfl);(first|exact c1|exact c2|exact c3|exact c4))|(exfalso;omega)|(((first|apply yT|apply yU|apply yV|apply yW);exact rfl;(first|exact .d|exact .e|exact .n|((fail_if_success exact bqt);(fail_if_success exact bqf);exact .b)))<;>intro _)
    exact .ret rfl (newNil (Gr.start σ))
  · rw [Bool.true_and, Bool.or_eq_false_iff, beq_eq_false_iff_ne] at h5
    obtain ⟨h00, rfl⟩ := h5
    repeat' first|(apply yA;exact rfl)|apply yB|apply yC|((first|apply yD|apply yE);(first|exact yF|assumption);iterate 6 exact rfl)|((first|apply yG|apply yH|apply yI);exact rfl;(first|exact yJ|exact yK rfl rfl|exact yL rfl|exact yM rfl|exact rfl|exact aL rfl rfl rfl rfl rfl|exact aS rfl rfl rfl rfl rfl rfl rfl|exact yX (enc := encTable) rfl rfl hn hlt rfl))|((first|apply yN|apply yO|apply yP);exact rfl)|((first|apply yQ|apply yR|apply yS);(iterate 3 exact rfl);(first|exact c1|exact c2|exact c3|exact c4))|(exfalso;omega)|(((first|apply yT|apply yU|apply yV|apply yW);exact rfl;(first|exact .d|exact .e|exact .n|((fail_if_success exact bqt);(fail_if_success exact bqf);exact .b)))<;>intro _)
    exact .ret rfl (newNil (Gr.start σ))
theorem Fires_yes (s : List Table) (l : List Trigger) (n ev : Int) (old now : List Val) (hx : s.length ≤ 34359738368) (hb : ∀ t ∈ s, bTable 34359738368 t) (hl : l.length ≤ 34359738368) (hq : ∀ x ∈ l, bTrigger 34359738368 x)
    (ho : old.length ≤ 34359738368) (ho2 : ∀ x ∈ old, bV 34359738368 x) (hw : now.length ≤ 34359738368) (hw2 : ∀ x ∈ now, bV 34359738368 x) (σ : Store) (h1 : triggersF s l = true) (h2 : isIn n 0 (s.length - 1) = true) (h5 : (fitAt s n old && fitAt s n now) = true) :
    Ok Tryz.prog 32 [.c (.fz (s.map encTable)), .c (.fz (l.map encTrigger)), .c (.int .i64 n), .c (.int .i64 ev), .c (.fz (old.map encV)), .c (.fz (now.map encV))] σ (NewV σ (.c (.fz ((FiresF s l n ev old now).map encI)))) := by
  refine Ok.run mixed c_impl_Fires_ok (Nat.le_of_ble_eq_true rfl) fun hS hA => ?_
  clear hS hA
  have c1 := TriggersOk_ok s l hx hb hl hq
  have c2 := isTable_ok s n hx
  rw [h1] at c1
  rw [h2] at c2
  obtain ⟨hs, hl6, htr⟩ := trig_facts h1
  obtain ⟨h3, h4⟩ := isIn_at h2
  have hn : n = (n.toNat : Int) := by omega
  have hlt : n.toNat < s.length := by omega
  have hcl := (schemaF_cols hs _ (List.getElem_mem hlt)).2
  have c3 := fit_ok s[n.toNat] old ho
  have c4 := fit_ok s[n.toNat] now hw
  rw [firesF_of hn hlt h1 h2]
  have e3 := fitAt_len hn hlt old
  have e4 := fitAt_len hn hlt now
  have fin : ∀ τ : Store, Ok Tryz.prog 116 [.c (.fz (s.map encTable)), .c (.fz (l.map encTrigger)), .c (.int .i64 n), .c (.int .i64 ev), .c (.fz (old.map encV)), .c (.fz (now.map encV))] τ (NewV τ (.c (.fz ((firesF s[n.toNat] l ev old now).map encI)))) := fun τ => by
    rw [Bool.and_eq_true] at h5
    obtain ⟨a1, a2, a3⟩ := fitAt_facts hn hlt hcl h5.1
    obtain ⟨b1, b2, b3⟩ := fitAt_facts hn hlt hcl h5.2
    exact fires_ok s l n n.toNat ev old now hn hlt hcl (by omega) (fun x hx => (hq x hx).2.1.1) a1 b1 τ
  rw [h5]
  generalize fitF s[n.toNat] old = F3 at c3 e3
  generalize fitF s[n.toNat] now = F4 at c4 e4
  rw [e3, e4] at h5
  by_cases h0 : (old.length : Int) = 0
  · by_cases h00 : (now.length : Int) = 0
    · repeat' first|(apply yA;exact rfl)|apply yB|apply yC|((first|apply yD|apply yE);(first|exact yF|assumption);iterate 6 exact rfl)|((first|apply yG|apply yH|apply yI);exact rfl;(first|exact yJ|exact yK rfl rfl|exact yL rfl|exact yM rfl|exact rfl|exact aL rfl rfl rfl rfl rfl|exact aS rfl rfl rfl rfl rfl rfl rfl|exact yX (enc := encTable) rfl rfl hn hlt rfl))|((first|apply yN|apply yO|apply yP);exact rfl)|((first|apply yQ|apply yR|apply yS);(iterate 3 exact rfl);(first|exact c1|exact c2|exact c3|exact c4))|(exfalso;omega)|(((first|apply yT|apply yU|apply yV|apply yW);exact rfl;(first|exact .d|exact .e|exact .n|((fail_if_success exact bqt);(fail_if_success exact bqf);exact .b)))<;>intro _)
      refine Go.call _ rfl rfl rfl (fin _) ?_
      intro r τ hq
      obtain ⟨x, rfl, g, hh⟩ := new1_open hq
      repeat' first|(apply yA;exact rfl)|apply yB|apply yC|((first|apply yD|apply yE);(first|exact yF|assumption);iterate 6 exact rfl)|((first|apply yG|apply yH|apply yI);exact rfl;(first|exact yJ|exact yK rfl rfl|exact yL rfl|exact yM rfl|exact rfl|exact aL rfl rfl rfl rfl rfl|exact aS rfl rfl rfl rfl rfl rfl rfl))|((first|apply yN|apply yO|apply yP);exact rfl)|(exfalso;omega)|(((first|apply yT|apply yU|apply yV|apply yW);exact rfl;(first|exact .d|exact .e|exact .n|((fail_if_success exact bqt);(fail_if_success exact bqf);exact .b)))<;>intro _)
      exact .ret rfl ⟨(Gr.start σ).trans g, .c hh⟩
    · rw [beq_eq_false_iff_ne.2 h00, Bool.false_or, Bool.and_eq_true] at h5
      obtain ⟨_, rfl⟩ := h5
      repeat' first|(apply yA;exact rfl)|apply yB|apply yC|((first|apply yD|apply yE);(first|exact yF|assumption);iterate 6 exact rfl)|((first|apply yG|apply yH|apply yI);exact rfl;(first|exact yJ|exact yK rfl rfl|exact yL rfl|exact yM rfl|exact rfl|exact aL rfl rfl rfl rfl rfl|exact aS rfl rfl rfl rfl rfl rfl rfl|exact yX (enc := encTable) rfl rfl hn hlt rfl))|((first|apply yN|apply yO|apply yP);exact rfl)|((first|apply yQ|apply yR|apply yS);(iterate 3 exact rfl);(first|exact c1|exact c2|exact c3|exact c4))|(exfalso;omega)|(((first|apply yT|apply yU|apply yV|apply yW);exact rfl;(first|exact .d|exact .e|exact .n|((fail_if_success exact bqt);(fail_if_success exact bqf);exact .b)))<;>intro _)
      refine Go.call _ rfl rfl rfl (fin _) ?_
      intro r τ hq
      obtain ⟨x, rfl, g, hh⟩ := new1_open hq
      repeat' first|(apply yA;exact rfl)|apply yB|apply yC|((first|apply yD|apply yE);(first|exact yF|assumption);iterate 6 exact rfl)|((first|apply yG|apply yH|apply yI);exact rfl;(first|exact yJ|exact yK rfl rfl|exact yL rfl|exact yM rfl|exact rfl|exact aL rfl rfl rfl rfl rfl|exact aS rfl rfl rfl rfl rfl rfl rfl))|((first|apply yN|apply yO|apply yP);exact rfl)|(exfalso;omega)|(((first|apply yT|apply yU|apply yV|apply yW);exact rfl;(first|exact .d|exact .e|exact .n|((fail_if_success exact bqt);(fail_if_success exact bqf);exact .b)))<;>intro _)
      exact .ret rfl ⟨(Gr.start σ).trans g, .c hh⟩
  · rw [beq_eq_false_iff_ne.2 h0, Bool.false_or, Bool.and_eq_true] at h5
    obtain ⟨rfl, h5⟩ := h5
    by_cases h00 : (now.length : Int) = 0
    · repeat' first|(apply yA;exact rfl)|apply yB|apply yC|((first|apply yD|apply yE);(first|exact yF|assumption);iterate 6 exact rfl)|((first|apply yG|apply yH|apply yI);exact rfl;(first|exact yJ|exact yK rfl rfl|exact yL rfl|exact yM rfl|exact rfl|exact aL rfl rfl rfl rfl rfl|exact aS rfl rfl rfl rfl rfl rfl rfl|exact yX (enc := encTable) rfl rfl hn hlt rfl))|((first|apply yN|apply yO|apply yP);exact rfl)|((first|apply yQ|apply yR|apply yS);(iterate 3 exact rfl);(first|exact c1|exact c2|exact c3|exact c4))|(exfalso;omega)|(((first|apply yT|apply yU|apply yV|apply yW);exact rfl;(first|exact .d|exact .e|exact .n|((fail_if_success exact bqt);(fail_if_success exact bqf);exact .b)))<;>intro _)
      refine Go.call _ rfl rfl rfl (fin _) ?_
      intro r τ hq
      obtain ⟨x, rfl, g, hh⟩ := new1_open hq
      repeat' first|(apply yA;exact rfl)|apply yB|apply yC|((first|apply yD|apply yE);(first|exact yF|assumption);iterate 6 exact rfl)|((first|apply yG|apply yH|apply yI);exact rfl;(first|exact yJ|exact yK rfl rfl|exact yL rfl|exact yM rfl|exact rfl|exact aL rfl rfl rfl rfl rfl|exact aS rfl rfl rfl rfl rfl rfl rfl))|((first|apply yN|apply yO|apply yP);exact rfl)|(exfalso;omega)|(((first|apply yT|apply yU|apply yV|apply yW);exact rfl;(first|exact .d|exact .e|exact .n|((fail_if_success exact bqt);(fail_if_success exact bqf);exact .b)))<;>intro _)
      exact .ret rfl ⟨(Gr.start σ).trans g, .c hh⟩
    · rw [beq_eq_false_iff_ne.2 h00, Bool.false_or] at h5
      subst h5
      repeat' first|(apply yA;exact rfl)|apply yB|apply yC|((first|apply yD|apply yE);(first|exact yF|assumption);iterate 6 exact rfl)|((first|apply yG|apply yH|apply yI);exact rfl;(first|exact yJ|exact yK rfl rfl|exact yL rfl|exact yM rfl|exact rfl|exact aL rfl rfl rfl rfl rfl|exact aS rfl rfl rfl rfl rfl rfl rfl|exact yX (enc := encTable) rfl rfl hn hlt rfl))|((first|apply yN|apply yO|apply yP);exact rfl)|((first|apply yQ|apply yR|apply yS);(iterate 3 exact rfl);(first|exact c1|exact c2|exact c3|exact c4))|(exfalso;omega)|(((first|apply yT|apply yU|apply yV|apply yW);exact rfl;(first|exact .d|exact .e|exact .n|((fail_if_success exact bqt);(fail_if_success exact bqf);exact .b)))<;>intro _)
      refine Go.call _ rfl rfl rfl (fin _) ?_
      intro r τ hq
      obtain ⟨x, rfl, g, hh⟩ := new1_open hq
      repeat' first|(apply yA;exact rfl)|apply yB|apply yC|((first|apply yD|apply yE);(first|exact yF|assumption);iterate 6 exact rfl)|((first|apply yG|apply yH|apply yI);exact rfl;(first|exact yJ|exact yK rfl rfl|exact yL rfl|exact yM rfl|exact rfl|exact aL rfl rfl rfl rfl rfl|exact aS rfl rfl rfl rfl rfl rfl rfl))|((first|apply yN|apply yO|apply yP);exact rfl)|(exfalso;omega)|(((first|apply yT|apply yU|apply yV|apply yW);exact rfl;(first|exact .d|exact .e|exact .n|((fail_if_success exact bqt);(fail_if_success exact bqf);exact .b)))<;>intro _)
      exact .ret rfl ⟨(Gr.start σ).trans g, .c hh⟩
theorem Fires_ok (s : List Table) (l : List Trigger) (n ev : Int) (old now : List Val) (hx : s.length ≤ 34359738368) (hb : ∀ t ∈ s, bTable 34359738368 t) (hl : l.length ≤ 34359738368) (hq : ∀ x ∈ l, bTrigger 34359738368 x)
    (ho : old.length ≤ 34359738368) (ho2 : ∀ x ∈ old, bV 34359738368 x) (hw : now.length ≤ 34359738368) (hw2 : ∀ x ∈ now, bV 34359738368 x) (σ : Store) :
    Ok Tryz.prog 32 [.c (.fz (s.map encTable)), .c (.fz (l.map encTrigger)), .c (.int .i64 n), .c (.int .i64 ev), .c (.fz (old.map encV)), .c (.fz (now.map encV))] σ (NewV σ (.c (.fz ((FiresF s l n ev old now).map encI)))) := by
  cases h1 : triggersF s l
  · refine Ok.run mixed c_impl_Fires_ok (Nat.le_of_ble_eq_true rfl) fun hS hA => ?_
    clear hS hA
    have c1 := TriggersOk_ok s l hx hb hl hq
    rw [h1] at c1
    rw [FiresF, firesOk, h1, Bool.false_and]
    repeat' first|(apply yA;exact rfl)|apply yB|apply yC|((first|apply yD|apply yE);(first|exact yF|assumption);iterate 6 exact rfl)|((first|apply yG|apply yH|apply yI);exact rfl;(first|exact yJ|exact yK rfl rfl|exact yL rfl|exact yM rfl|exact rfl|exact aL rfl rfl rfl rfl rfl|exact aS rfl rfl rfl rfl rfl rfl rfl))|((first|apply yN|apply yO|apply yP);exact rfl)|((first|apply yQ|apply yR|apply yS);(iterate 3 exact rfl);exact c1)|(exfalso;omega)|(((first|apply yT|apply yU|apply yV|apply yW);exact rfl;(first|exact .d|exact .e|exact .n|((fail_if_success exact bqt);(fail_if_success exact bqf);exact .b)))<;>intro _)
    exact .ret rfl (newNil (Gr.start σ))
  cases h2 : isIn n 0 (s.length - 1)
  · refine Ok.run mixed c_impl_Fires_ok (Nat.le_of_ble_eq_true rfl) fun hS hA => ?_
    clear hS hA
    have c1 := TriggersOk_ok s l hx hb hl hq
    have c2 := isTable_ok s n hx
    rw [h1] at c1
    rw [h2] at c2
    rw [FiresF, firesOk, h1, h2, Bool.true_and, Bool.false_and]
    repeat' first|(apply yA;exact rfl)|apply yB|apply yC|((first|apply yD|apply yE);(first|exact yF|assumption);iterate 6 exact rfl)|((first|apply yG|apply yH|apply yI);exact rfl;(first|exact yJ|exact yK rfl rfl|exact yL rfl|exact yM rfl|exact rfl|exact aL rfl rfl rfl rfl rfl|exact aS rfl rfl rfl rfl rfl rfl rfl))|((first|apply yN|apply yO|apply yP);exact rfl)|((first|apply yQ|apply yR|apply yS);(iterate 3 exact rfl);(first|exact c1|exact c2))|(exfalso;omega)|(((first|apply yT|apply yU|apply yV|apply yW);exact rfl;(first|exact .d|exact .e|exact .n|((fail_if_success exact bqt);(fail_if_success exact bqf);exact .b)))<;>intro _)
    exact .ret rfl (newNil (Gr.start σ))
  cases h5 : (fitAt s n old && fitAt s n now)
  · exact Fires_no s l n ev old now hx hb hl hq ho ho2 hw hw2 σ h1 h2 h5
  · exact Fires_yes s l n ev old now hx hb hl hq ho ho2 hw hw2 σ h1 h2 h5
theorem sFires_ok (s : List Table) (l : List Trigger) (n ev : Int) (old now : List Val) (hx : s.length ≤ 34359738368) (hb : ∀ t ∈ s, bTable 34359738368 t) (hl : l.length ≤ 34359738368) (hq : ∀ x ∈ l, bTrigger 34359738368 x)
    (ho : old.length ≤ 34359738368) (ho2 : ∀ x ∈ old, bV 34359738368 x) (hw : now.length ≤ 34359738368) (hw2 : ∀ x ∈ now, bV 34359738368 x) (σ : Store) :
    Ok Tryz.prog 34 [.c (.fz (s.map encTable)), .c (.fz (l.map encTrigger)), .c (.int .i64 n), .c (.int .i64 ev), .c (.fz (old.map encV)), .c (.fz (now.map encV))] σ (NewV σ (.c (.fz ((FiresF s l n ev old now).map encI)))) := by
  refine Ok.run mixed c_spec_Fires_ok (Nat.le_of_ble_eq_true rfl) fun hS hA => ?_
  clear hS hA
  have c1 := sTriggersOk_ok s l hx hb hl hq
  have c2 := l1In_ok n 0 (IntKind.i64.wrap ((s.length : Int) - 1))
  have hwr : IntKind.i64.wrap ((s.length : Int) - 1) = s.length - 1 := wrap64 (by omega) (by omega)
  cases h1 : triggersF s l
  · rw [h1] at c1
    rw [FiresF, firesOk, h1, Bool.false_and]
    repeat' first|(apply yA;exact rfl)|apply yB|apply yC|((first|apply yD|apply yE);(first|exact yF|assumption);iterate 6 exact rfl)|((first|apply yG|apply yH|apply yI);exact rfl;(first|exact yJ|exact yK rfl rfl|exact yL rfl|exact yM rfl|exact rfl|exact aL rfl rfl rfl rfl rfl|exact aS rfl rfl rfl rfl rfl rfl rfl))|((first|apply yN|apply yO|apply yP);exact rfl)|((first|apply yQ|apply yR|apply yS);(iterate 3 exact rfl);exact c1)|(exfalso;omega)|(((first|apply yT|apply yU|apply yV|apply yW);exact rfl;(first|exact .d|exact .e|exact .n|((fail_if_success exact bqt);(fail_if_success exact bqf);exact .b)))<;>intro _)
    exact .ret rfl newZero
  cases h2 : isIn n 0 (s.length - 1)
  · rw [h1] at c1
    rw [hwr, h2] at c2
    rw [FiresF, firesOk, h1, h2, Bool.true_and, Bool.false_and]
    rw [← hwr] at c2
    repeat' first|(apply yA;exact rfl)|apply yB|apply yC|((first|apply yD|apply yE);(first|exact yF|assumption);iterate 6 exact rfl)|((first|apply yG|apply yH|apply yI);exact rfl;(first|exact yJ|exact yK rfl rfl|exact yL rfl|exact yM rfl|exact rfl|exact aL rfl rfl rfl rfl rfl|exact aS rfl rfl rfl rfl rfl rfl rfl))|((first|apply yN|apply yO|apply yP);exact rfl)|((first|apply yQ|apply yR|apply yS);(iterate 3 exact rfl);(first|exact c1|exact c2))|(exfalso;omega)|(((first|apply yT|apply yU|apply yV|apply yW);exact rfl;(first|exact .d|exact .e|exact .n|((fail_if_success exact bqt);(fail_if_success exact bqf);exact .b)))<;>intro _)
    exact .ret rfl newZero
  rw [h1] at c1
  rw [hwr, h2, ← hwr] at c2
  obtain ⟨hs, hl6, htr⟩ := trig_facts h1
  obtain ⟨h3, h4⟩ := isIn_at h2
  have hn : n = (n.toNat : Int) := by omega
  have hlt : n.toNat < s.length := by omega
  have hcl := (schemaF_cols hs _ (List.getElem_mem hlt)).2
  have c3 := l8Row_ok s[n.toNat] old ho
  have c4 := l8Row_ok s[n.toNat] now hw
  rw [firesF_of hn hlt h1 h2]
  rw [← fitAt_len hn hlt] at c3 c4
  have fin : fitAt s n old = true → fitAt s n now = true → ∀ τ : Store, Ok Tryz.prog 119 [.c (.fz (s.map encTable)), .c (.fz (l.map encTrigger)), .c (.int .i64 n), .c (.int .i64 ev), .c (.fz (old.map encV)), .c (.fz (now.map encV))] τ (NewV τ (.c (.fz ((firesF s[n.toNat] l ev old now).map encI)))) := fun a b τ => by
    obtain ⟨a1, a2, a3⟩ := fitAt_facts hn hlt hcl a
    obtain ⟨b1, b2, b3⟩ := fitAt_facts hn hlt hcl b
    exact l8Fires_ok s l n n.toNat ev old now hn hlt hcl (by omega) a2 b2 a3 b3 (fun x hx e => by
      have := htr x hx
      rw [trigF, tabAt_eq hs hlt e] at this
      revert this
      cases tabAt s x.into with
      | none => intro h; cases h
      | some v => intro h; simp only [Bool.and_eq_true] at h; rw [trigAt, Bool.and_eq_true] at h; exact h.2.1) τ
  generalize fitAt s n old = F3 at c3 fin ⊢
  generalize fitAt s n now = F4 at c4 fin ⊢
  cases F3 <;> cases F4
  all_goals
    repeat' first|(apply yA;exact rfl)|apply yB|apply yC|((first|apply yD|apply yE);(first|exact yF|assumption);iterate 6 exact rfl)|((first|apply yG|apply yH|apply yI);exact rfl;(first|exact yJ|exact yK rfl rfl|exact yL rfl|exact yM rfl|exact rfl|exact aL rfl rfl rfl rfl rfl|exact aS rfl rfl rfl rfl rfl rfl rfl|exact yX (enc := encTable) rfl rfl hn hlt rfl))|((first|apply yN|apply yO|apply yP);exact rfl)|((first|apply yQ|apply yR|apply yS);(iterate 3 exact rfl);(first|exact c1|exact c2|exact c3|exact c4))|(exfalso;omega)|(((first|apply yT|apply yU|apply yV|apply yW);exact rfl;(first|exact .d|exact .e|exact .n|((fail_if_success exact bqt);(fail_if_success exact bqf);exact .b)))<;>intro _)
    first
      | exact .ret rfl newZero
      | refine Go.call _ rfl rfl rfl (fin rfl rfl _) ?_
        intro r τ hq
        obtain ⟨x, rfl, g, hh⟩ := new1_open hq
        repeat' first|(apply yA;exact rfl)|apply yB|apply yC|((first|apply yD|apply yE);(first|exact yF|assumption);iterate 6 exact rfl)|((first|apply yG|apply yH|apply yI);exact rfl;(first|exact yJ|exact yK rfl rfl|exact yL rfl|exact yM rfl|exact rfl|exact aL rfl rfl rfl rfl rfl|exact aS rfl rfl rfl rfl rfl rfl rfl))|((first|apply yN|apply yO|apply yP);exact rfl)|(exfalso;omega)|(((first|apply yT|apply yU|apply yV|apply yW);exact rfl;(first|exact .d|exact .e|exact .n|((fail_if_success exact bqt);(fail_if_success exact bqf);exact .b)))<;>intro _)
        exact .ret rfl ⟨(Gr.start σ).trans g, .c hh⟩
theorem fireAux_len {p : Trigger → Bool} : ∀ {l : List Trigger} {i : Int} {acc : List Int}, (fireAux p l i acc).length ≤ acc.length + l.length
  | [], i, acc => by simp [fireAux]
  | x :: l, i, acc => by
    rw [fireAux]
    have := @fireAux_len p l (i + 1) (if p x then acc ++ [i] else acc)
    simp only [List.length_cons]
    split at this
    · rw [List.length_append, List.length_singleton] at this
      rw [if_pos ‹_›]
      omega
    · rw [if_neg ‹_›]
      omega
theorem Fires_fact (s : List Table) (l : List Trigger) (n ev : Int) (old now : List Val) (hx : s.length ≤ 34359738368) (hb : ∀ t ∈ s, bTable 34359738368 t) (hl : l.length ≤ 34359738368) (hq : ∀ x ∈ l, bTrigger 34359738368 x)
    (ho : old.length ≤ 34359738368) (ho2 : ∀ x ∈ old, bV 34359738368 x) (hw : now.length ≤ 34359738368) (hw2 : ∀ x ∈ now, bV 34359738368 x) :
    (FiresF s l n ev old now).length ≤ 34359738368 ∧ 1 + cntL (fun _ => 1) (FiresF s l n ev old now) ≤ 34359738368 := by
  have h : (FiresF s l n ev old now).length ≤ 6 := by
    rw [FiresF]
    split
    · rename_i h
      simp only [firesOk, Bool.and_eq_true] at h
      have h6 := (trig_facts h.1).2.1
      split
      · rename_i t _
        have := fireAux_len (p := fireOne t ev (bothF t.cols.length old now)) (l := l) (i := 0) (acc := [])
        simp only [List.length_nil] at this
        rw [firesF]
        omega
      · simp
    · simp
  rw [cnt1]
  omega
end Go.Proofs.YteafjabcpmpmgaaGreat.Am

/- Which triggers fire: plain law. -/
set_option linter.unusedVariables false
set_option linter.unusedSimpArgs false
namespace Go.Proofs.YteafjabcpmpmgaaGreat.Am

theorem fireAux_mem {p : Trigger → Bool} : ∀ {l : List Trigger} {i : Int} {acc : List Int} {k : Int}, k ∈ fireAux p l i acc ↔ (k ∈ acc ∨ ∃ j : Nat, ∃ h : j < l.length, k = i + j ∧ p l[j] = true)
  | [], i, acc, k => by
    rw [fireAux]
    refine ⟨.inl, fun h => ?_⟩
    rcases h with h | ⟨j, h, _⟩
    · exact h
    · simp at h
  | a :: l, i, acc, k => by
    rw [fireAux, fireAux_mem]
    constructor
    · rintro (h | ⟨j, h, rfl, h2⟩)
      · split at h
        · rename_i hp
          rcases List.mem_append.1 h with h | h
          · exact .inl h
          · exact .inr ⟨0, by simp, by rw [List.mem_singleton.1 h]; simp, hp⟩
        · exact .inl h
      · exact .inr ⟨j + 1, by simp; omega, by omega, h2⟩
    · rintro (h | ⟨j, h, rfl, h2⟩)
      · left
        split
        · exact List.mem_append_left _ h
        · exact h
      · cases j with
        | zero =>
          left
          rw [if_pos (show p a = true from h2)]
          simp
        | succ j => exact .inr ⟨j, by simpa using h, by omega, h2⟩
def ofF (s : List Table) (n ev : Int) (x : Trigger) : Bool := match s[n.toNat]? with | some t => x.table == t.name && x.event == ev | none => false
theorem fires_law {s : List Table} {l : List Trigger} {n ev : Int} {old now : List Val} {m : Nat} (hn : n = (m : Int)) (hm : m < s.length) (hne : FiresF s l n ev old now ≠ []) {i : Nat} (hi : i < l.length) :
    ((i : Int) ∈ FiresF s l n ev old now → ofF s n ev l[i] = true) ∧ (ofF s n ev l[i] = true → l[i].when_.length = 0 → (i : Int) ∈ FiresF s l n ev old now) := by
  subst hn
  have e : s[(m : Int).toNat]? = some s[m] := by rw [Int.toNat_natCast, List.getElem?_eq_getElem hm]
  rw [FiresF] at hne ⊢
  split at hne
  · rename_i hok
    rw [if_pos hok, e, ofF, e]
    simp only [firesF, fireAux_mem, fireOne, Bool.and_eq_true, Bool.or_eq_true]
    constructor
    · rintro (h | ⟨j, h, h1, h2⟩)
      · cases h
      · have : i = j := by omega
        subst this
        exact ⟨h2.1, h2.2.1⟩
    · rintro ⟨h1, h2⟩ h3
      exact .inr ⟨i, hi, by omega, h1, h2, .inl (by rw [h3]; rfl)⟩
  · exact absurd rfl hne
end Go.Proofs.YteafjabcpmpmgaaGreat.Am

/- What the rows say of a text of bytes. -/
set_option linter.unusedVariables false
set_option linter.unusedSimpArgs false
namespace Go.Proofs.YteafjabcpmpmgaaGreat.Am
open Go.RowKit Go.ChangeShapes Go.WideShapes

section
variable {H : Type} {enc : TypeId × Value → H} {W : World}
theorem Opens.isoG {P : Program} {t : TypeId} {α β : Type} {e : β → List Ce} {good : β → Prop} (h : Opens enc P W t e good) (g : β → α) {e' : α → List Ce} {good' : α → Prop} (he : ∀ b, good b → e' (g b) = e b) (hg : ∀ b, good b → good' (g b)) : Opens enc P W t e' good' := by
  constructor
  intro fuel cs x h1 h2
  obtain ⟨a, h3, hl, h4⟩ := h.op fuel cs x h1 h2
  refine ⟨g a, hg a h3, by rw [he a h3]; exact hl, fun i hi => ?_⟩
  simp only [he a h3]
  exact h4 i (by rw [he a h3] at hi; exact hi)
theorem openB : Opens enc Tryz.prog W 5 encB (fun _ => True) :=
  (Opens.int Tryz.underlying5).isoG (fun n => UInt8.ofNat n.toNat) (fun n hn => by
    have h1 : IntKind.u8.min = 0 := by decide
    have h2 : IntKind.u8.max = 255 := by decide
    simp only [Lit.wf, h1, h2, Bool.and_eq_true, decide_eq_true_eq] at hn
    have h3 : (UInt8.ofNat n.toNat).toNat = n.toNat := UInt8.toNat_ofNat_of_lt' (by show n.toNat < 256; omega)
    simp only [encB, h3, List.cons.injEq, Ce.int.injEq, true_and, and_true]
    omega) fun _ _ => trivial
theorem openBs : Opens enc Tryz.prog W 53 (fun l : List UInt8 => [.fz (l.map encB)]) (fun l => l.length ≤ 140737488351232) :=
  (Opens.slice (s := 1) Tryz.underlying53 openB (by kernel_rfl) (by decide) (fun _ => rfl)).iso id (fun _ => rfl) fun l h => Nat.le_trans (Nat.le_mul_of_pos_right _ (of_decide_eq_true (by kernel_rfl))) h.1
end
end Go.Proofs.YteafjabcpmpmgaaGreat.Am
