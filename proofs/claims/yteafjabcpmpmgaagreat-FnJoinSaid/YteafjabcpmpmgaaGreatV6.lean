/- Joined texts: D1, M0, M1, M3, M2, N0, D2, G1, G2, G3, G4, G5, G6, J1, F10, J2, J3, H1, H2, F11, Q1, Q2, Q3, Q4, Q5, Q6, Q7, Q8, Q9, Q10, H3, Y5, Y6, Y7, Y8, X1, X2, X3, J4, T4. -/
import Derived.Test.YteafjabcpmpmgaaGreatProg
import Derived.KernelRfl
import Derived.Test.YteafjabcpmpmgaaGreatV1
import Derived.Test.YteafjabcpmpmgaaGreatV2
import Derived.Test.YteafjabcpmpmgaaGreatV3
import Derived.Test.YteafjabcpmpmgaaGreatV4
import Derived.Test.YteafjabcpmpmgaaGreatV5
/- Databases: which are right, by the program and its reference. -/
set_option linter.unusedVariables false
set_option linter.unusedSimpArgs false
namespace Go.Proofs.YteafjabcpmpmgaaGreat.Am

def risesId (p : Option Int) (n : Int) : Bool := match p with | none => true | some q => decide (q < n)
def rowOne (t : Table) (p : Option Int) (r : RowD) : Bool := isIn r.id 1 1000000000 && (risesId p r.id && fitF t r.vals)
def rowsAux (t : Table) : Option Int → List RowD → Bool
  | _, [] => true
  | p, r :: l => rowOne t p r && rowsAux t (some r.id) l
def rowsF (t : Table) (l : List RowD) : Bool := rowsAux t none l && decide ((l.length : Int) ≤ 60)
def dbAux : List Table → List Data → Bool
  | t :: s, d :: db => rowsF t d.rows && dbAux s db
  | _, _ => true
def dbF (s : List Table) (db : List Data) : Bool := schemaF s && (decide ((db.length : Int) = s.length) && dbAux s db)
theorem areRows_ok (t : Table) (l : List RowD) (hx : l.length ≤ 34359738368) (hb : ∀ r ∈ l, r.vals.length ≤ 34359738368) : Pure Tryz.prog 180 [.agg (encTable t), .c (.fz (l.map encRowD))] (.c (.bool (rowsF t l))) := by
  refine Pure.run mixed c_impl_areRows_ok (Nat.le_of_ble_eq_true rfl) fun σ hS hA => ?_
  clear hS hA
  repeat' first|(apply yA;exact rfl)|apply yB|apply yC|((first|apply yD|apply yE);(first|exact yF|assumption);iterate 6 exact rfl)|((first|apply yG|apply yH|apply yI);exact rfl;(first|exact yJ|exact yK rfl rfl|exact yL rfl|exact yM rfl|exact rfl|exact aL rfl rfl rfl rfl rfl|exact aS rfl rfl rfl rfl rfl rfl rfl))|((first|apply yN|apply yO|apply yP);exact rfl)|(exfalso;omega)|(((first|apply yT|apply yU|apply yV|apply yW);exact rfl;(first|exact .d|exact .e|exact .n|((fail_if_success exact bqt);(fail_if_success exact bqf);exact .b)))<;>intro _)
  refine Go.keep [1, 2, 7, 8, 9] (Go.loops (I := fun m fr τ => ∃ (i : Nat) (k : Int) (p : Option Int), m = l.length - i ∧ i ≤ l.length ∧ k = i ∧ (rowsAux t none l = rowsAux t p (l.drop i) ∧ ((i = 0 ∧ p = none) ∨ ∃ j, ∃ hj : j < l.length, i = j + 1 ∧ p = some l[j].id)) ∧
    fr = [(1, .c (.fz (l.map encRowD))), (2, .c (.fp (encTable t))), (7, .c (.fz (l.map encRowD))), (8, .c (.int .i64 (l.length : Int))), (9, .c (.int .i64 k))] ∧ τ = E σ []) ?_ _ _ _ ⟨0, _, none, rfl, Nat.zero_le _, rfl, ⟨rfl, .inl ⟨rfl, rfl⟩⟩, rfl, rfl⟩)
  rintro m fr τ ⟨i, k, p, rfl, hi, hk, ⟨hs, hp⟩, rfl, rfl⟩ hrec
  by_cases hlt : i < l.length
  · have hv := hb _ (List.getElem_mem hlt)
    rw [List.drop_eq_getElem_cons hlt, rowsAux] at hs
    rcases hp with ⟨rfl, rfl⟩ | ⟨j, hj, rfl, rfl⟩
    · repeat' first|(apply yA;exact rfl)|apply yB|apply yC|((first|apply yD|apply yE);(first|exact yF|assumption);iterate 6 exact rfl)|((first|apply yG|apply yH|apply yI);exact rfl;(first|exact yJ|exact yK rfl rfl|exact yL rfl|exact yM rfl|exact rfl|exact aL rfl rfl rfl rfl rfl|exact aS rfl rfl rfl rfl rfl rfl rfl|exact yX (enc := encRowD) rfl rfl hk hlt rfl))|((first|apply yN|apply yO|apply yP);exact rfl)|((first|apply Go.pcallB|apply Go.spcallB|apply Qg.pcallB);(iterate 3 exact rfl);(first|exact in_ok _ _ _|exact fit_ok t l[0].vals hv);intro _ _)|(exfalso;omega)|(((first|apply yT|apply yU|apply yV|apply yW);exact rfl;(first|exact .d|exact .e|exact .n|((fail_if_success exact bqt);(fail_if_success exact bqf);exact .b)))<;>intro _)
      all_goals first
        | (refine .ret rfl (.bool ?_); clear hrec; rw [rowsF, hs, rowOne, risesId]; clear hs; simp_all; done)
        | (refine Go.keep [1, 2, 7, 8, 9] (hrec _ _ _ (by omega) ⟨0 + 1, _, some l[0].id, rfl, hlt, wrap_succ hk (by omega), ⟨?_, .inr ⟨0, hlt, rfl, rfl⟩⟩, rfl, rfl⟩); clear hrec; rw [hs, rowOne, risesId]; clear hs; simp_all; done)
    · repeat' first|(apply yA;exact rfl)|apply yB|apply yC|((first|apply yD|apply yE);(first|exact yF|assumption);iterate 6 exact rfl)|((first|apply yG|apply yH|apply yI);exact rfl;(first|exact yJ|exact yK rfl rfl|exact yL rfl|exact yM rfl|exact rfl|exact aL rfl rfl rfl rfl rfl|exact aS rfl rfl rfl rfl rfl rfl rfl|exact yX (enc := encRowD) rfl rfl hk hlt rfl|exact yX (enc := encRowD) rfl rfl (wrap_pred hk (by omega)) hj rfl))|((first|apply yN|apply yO|apply yP);exact rfl)|((first|apply Go.pcallB|apply Go.spcallB|apply Qg.pcallB);(iterate 3 exact rfl);(first|exact in_ok _ _ _|exact fit_ok t l[j + 1].vals hv);intro _ _)|(exfalso;omega)|(((first|apply yT|apply yU|apply yV|apply yW);exact rfl;(first|exact .d|exact .e|exact .n|((fail_if_success exact bqt);(fail_if_success exact bqf);exact .b)))<;>intro _)
      all_goals first
        | (refine .ret rfl (.bool ?_); clear hrec; rw [rowsF, hs, rowOne, risesId]; clear hs; (simp_all <;> intros <;> omega); done)
        | (refine Go.keep [1, 2, 7, 8, 9] (hrec _ _ _ (by omega) ⟨j + 1 + 1, _, some l[j + 1].id, rfl, hlt, wrap_succ hk (by omega), ⟨?_, .inr ⟨j + 1, hlt, rfl, rfl⟩⟩, rfl, rfl⟩); clear hrec; rw [hs, rowOne, risesId]; clear hs; (simp_all <;> intros <;> omega); done)
  · repeat' first|(apply yA;exact rfl)|apply yB|apply yC|((first|apply yD|apply yE);(first|exact yF|assumption);iterate 6 exact rfl)|((first|apply yG|apply yH|apply yI);exact rfl;(first|exact yJ|exact yK rfl rfl|exact yL rfl|exact yM rfl|exact rfl|exact aL rfl rfl rfl rfl rfl|exact aS rfl rfl rfl rfl rfl rfl rfl))|((first|apply yN|apply yO|apply yP);exact rfl)|(exfalso;omega)|(((first|apply yT|apply yU|apply yV|apply yW);exact rfl;(first|exact .d|exact .e|exact .n|((fail_if_success exact bqt);(fail_if_success exact bqf);exact .b)))<;>intro _)
    refine .ret rfl (.bool ?_)
    rw [rowsF, hs, List.drop_eq_nil_of_le (by omega)]
    simp [rowsAux]
theorem DbOk_ok (s : List Table) (db : List Data) (hx : s.length ≤ 34359738368) (hb : ∀ t ∈ s, bTable 34359738368 t) (hd : db.length ≤ 34359738368) (hdb : ∀ d ∈ db, bData 34359738368 d) : Pure Tryz.prog 76 [.c (.fz (s.map encTable)), .c (.fz (db.map encData))] (.c (.bool (dbF s db))) := by
  refine Pure.run mixed c_impl_DbOk_ok (Nat.le_of_ble_eq_true rfl) fun σ hS hA => ?_
  clear hS hA
  have c1 := SchemaOk_ok s hx hb
  cases hs : schemaF s
  · rw [hs] at c1
    repeat' first|(apply yA;exact rfl)|apply yB|apply yC|((first|apply yD|apply yE);(first|exact yF|assumption);iterate 6 exact rfl)|((first|apply yG|apply yH|apply yI);exact rfl;(first|exact yJ|exact yK rfl rfl|exact yL rfl|exact yM rfl|exact rfl|exact aL rfl rfl rfl rfl rfl|exact aS rfl rfl rfl rfl rfl rfl rfl))|((first|apply yN|apply yO|apply yP);exact rfl)|((first|apply yQ|apply yR|apply yS);(iterate 3 exact rfl);exact c1)|(exfalso;omega)|(((first|apply yT|apply yU|apply yV|apply yW);exact rfl;(first|exact .d|exact .e|exact .n|((fail_if_success exact bqt);(fail_if_success exact bqf);exact .b)))<;>intro _)
    refine .ret rfl (.bool ?_)
    rw [dbF, hs]
    rfl
  rw [hs] at c1
  repeat' first|(apply yA;exact rfl)|apply yB|apply yC|((first|apply yD|apply yE);(first|exact yF|assumption);iterate 6 exact rfl)|((first|apply yG|apply yH|apply yI);exact rfl;(first|exact yJ|exact yK rfl rfl|exact yL rfl|exact yM rfl|exact rfl|exact aL rfl rfl rfl rfl rfl|exact aS rfl rfl rfl rfl rfl rfl rfl))|((first|apply yN|apply yO|apply yP);exact rfl)|((first|apply yQ|apply yR|apply yS);(iterate 3 exact rfl);exact c1)|(exfalso;omega)|(((first|apply yT|apply yU|apply yV|apply yW);exact rfl;(first|exact .d|exact .e|exact .n|((fail_if_success exact bqt);(fail_if_success exact bqf);exact .b)))<;>intro _)
  · rename_i h
    refine .ret rfl (.bool ?_)
    rw [dbF, hs, decide_eq_false h]
    rfl
  rename_i hl
  have hl : (db.length : Int) = s.length := by omega
  refine Go.keep [0, 17, 18, 19] (Go.loops (I := fun m fr τ => ∃ (i : Nat) (k : Int), m = db.length - i ∧ i ≤ db.length ∧ k = i ∧ dbAux s db = dbAux (s.drop i) (db.drop i) ∧
    fr = [(0, .c (.fz (s.map encTable))), (17, .c (.fz (db.map encData))), (18, .c (.int .i64 (db.length : Int))), (19, .c (.int .i64 k))] ∧ τ = E σ []) ?_ _ _ _ ⟨0, _, rfl, Nat.zero_le _, rfl, rfl, rfl, rfl⟩)
  rintro m fr τ ⟨i, k, rfl, hi, hk, hsl, rfl, rfl⟩ hrec
  clear c1
  by_cases hlt : i < db.length
  · have hlt2 : i < s.length := by omega
    have hbd := hdb _ (List.getElem_mem hlt)
    rw [List.drop_eq_getElem_cons hlt, List.drop_eq_getElem_cons hlt2, dbAux] at hsl
    repeat' first|(apply yA;exact rfl)|apply yB|apply yC|((first|apply yD|apply yE);(first|exact yF|assumption);iterate 6 exact rfl)|((first|apply yG|apply yH|apply yI);exact rfl;(first|exact yJ|exact yK rfl rfl|exact yL rfl|exact yM rfl|exact rfl|exact aL rfl rfl rfl rfl rfl|exact aS rfl rfl rfl rfl rfl rfl rfl|exact yX (enc := encData) rfl rfl hk hlt rfl|exact yX (enc := encTable) rfl rfl hk hlt2 rfl))|((first|apply yN|apply yO|apply yP);exact rfl)|((first|apply Go.pcallB|apply Go.spcallB|apply Qg.pcallB);(iterate 3 exact rfl);exact areRows_ok s[i] db[i].rows hbd.1 (fun r hr => (hbd.2 r hr).1);intro _ _)|(exfalso;omega)|(((first|apply yT|apply yU|apply yV|apply yW);exact rfl;(first|exact .d|exact .e|exact .n|((fail_if_success exact bqt);(fail_if_success exact bqf);exact .b)))<;>intro _)
    · rename_i b p h
      refine .ret rfl (.bool ?_)
      rw [dbF, hsl, nbT p h]
      simp
    · rename_i b p h
      refine Go.keep [0, 17, 18, 19] (hrec _ _ _ (by omega) ⟨i + 1, _, rfl, hlt, wrap_succ hk (by omega), ?_, rfl, rfl⟩)
      rw [hsl, nbF p h, Bool.true_and]
  · repeat' first|(apply yA;exact rfl)|apply yB|apply yC|((first|apply yD|apply yE);(first|exact yF|assumption);iterate 6 exact rfl)|((first|apply yG|apply yH|apply yI);exact rfl;(first|exact yJ|exact yK rfl rfl|exact yL rfl|exact yM rfl|exact rfl|exact aL rfl rfl rfl rfl rfl|exact aS rfl rfl rfl rfl rfl rfl rfl))|((first|apply yN|apply yO|apply yP);exact rfl)|(exfalso;omega)|(((first|apply yT|apply yU|apply yV|apply yW);exact rfl;(first|exact .d|exact .e|exact .n|((fail_if_success exact bqt);(fail_if_success exact bqf);exact .b)))<;>intro _)
    refine .ret rfl (.bool ?_)
    rw [dbF, hs, hsl, decide_eq_true hl, show db.drop i = [] from List.drop_eq_nil_of_le (by omega)]
    cases List.drop i s <;> rfl
theorem l4Db_ok (s : List Table) (db : List Data) (hx : s.length ≤ 34359738368) (hd : db.length ≤ 34359738368) (hdb : ∀ d ∈ db, bData 34359738368 d) : Pure Tryz.prog 163 [.c (.fz (s.map encTable)), .c (.fz (db.map encData))] (.c (.bool (decide ((db.length : Int) = s.length) && dbAux s db))) := by
  refine Pure.run mixed c_spec_l4Db_ok (Nat.le_of_ble_eq_true rfl) fun σ hS hA => ?_
  clear hS hA
  repeat' first|(apply yA;exact rfl)|apply yB|apply yC|((first|apply yD|apply yE);(first|exact yF|assumption);iterate 6 exact rfl)|((first|apply yG|apply yH|apply yI);exact rfl;(first|exact yJ|exact yK rfl rfl|exact yL rfl|exact yM rfl|exact rfl|exact aL rfl rfl rfl rfl rfl|exact aS rfl rfl rfl rfl rfl rfl rfl))|((first|apply yN|apply yO|apply yP);exact rfl)|(exfalso;omega)|(((first|apply yT|apply yU|apply yV|apply yW);exact rfl;(first|exact .d|exact .e|exact .n|((fail_if_success exact bqt);(fail_if_success exact bqf);exact .b)))<;>intro _)
  · rename_i h
    refine .ret rfl (.bool ?_)
    rw [decide_eq_false h]
    rfl
  rename_i hl
  have hl : (db.length : Int) = s.length := by omega
  refine Go.keep [0, 1, 5] (Go.loops (I := fun m fr τ => ∃ (i : Nat) (k : Int), m = db.length - i ∧ i ≤ db.length ∧ k = i ∧ dbAux s db = dbAux (s.drop i) (db.drop i) ∧
    fr = [(0, .c (.fz (s.map encTable))), (1, .c (.fz (db.map encData))), (5, .c (.int .i64 k))] ∧ τ = E σ []) ?_ _ _ _ ⟨0, _, rfl, Nat.zero_le _, rfl, rfl, rfl, rfl⟩)
  rintro m fr τ ⟨i, k, rfl, hi, hk, hsl, rfl, rfl⟩ hrec
  by_cases hlt : i < db.length
  · have hlt2 : i < s.length := by omega
    have hbd := hdb _ (List.getElem_mem hlt)
    rw [List.drop_eq_getElem_cons hlt, List.drop_eq_getElem_cons hlt2, dbAux, rowsF] at hsl
    obtain ⟨l, hle⟩ : ∃ l, db[i].rows = l := ⟨_, rfl⟩
    have hrl : l.length ≤ 34359738368 := by rw [← hle]; exact hbd.1
    have hrv : ∀ r ∈ l, r.vals.length ≤ 34359738368 := by rw [← hle]; exact fun r hr => (hbd.2 r hr).1
    repeat' first|(apply yA;exact rfl)|apply yB|apply yC|((first|apply yD|apply yE);(first|exact yF|assumption);iterate 6 exact rfl)|((first|apply yG|apply yH|apply yI);exact rfl;(first|exact yJ|exact yK rfl rfl|exact yL rfl|exact yM rfl|exact rfl|exact aL rfl rfl rfl rfl rfl|exact aS rfl rfl rfl rfl rfl rfl rfl|exact yX (enc := encData) rfl rfl hk hlt rfl))|((first|apply yN|apply yO|apply yP);exact rfl)|(exfalso;omega)|(((first|apply yT|apply yU|apply yV|apply yW);exact rfl;(first|exact .d|exact .e|exact .n|((fail_if_success exact bqt);(fail_if_success exact bqf);exact .b)))<;>intro _)
    rw [hle] at hsl ⊢
    refine Go.keep [0, 1, 5, 6, 7] (Go.loops (I := fun m fr τ => ∃ (j : Nat) (q : Int) (p : Option Int), m = l.length - j ∧ j ≤ l.length ∧ q = j ∧ (rowsAux s[i] none l = rowsAux s[i] p (l.drop j) ∧ ((j = 0 ∧ p = none) ∨ ∃ a, ∃ ha : a < l.length, j = a + 1 ∧ p = some l[a].id)) ∧
      fr = [(0, .c (.fz (s.map encTable))), (1, .c (.fz (db.map encData))), (5, .c (.int .i64 k)), (6, .c (.fz (l.map encRowD))), (7, .c (.int .i64 q))] ∧ τ = E σ []) ?_ _ _ _ ⟨0, _, none, rfl, Nat.zero_le _, rfl, ⟨rfl, .inl ⟨rfl, rfl⟩⟩, rfl, rfl⟩)
    rintro m fr τ ⟨j, q, p, rfl, hj, hq, ⟨hs2, hp⟩, rfl, rfl⟩ hrec2
    by_cases hlj : j < l.length
    · have hv := hrv _ (List.getElem_mem hlj)
      rw [List.drop_eq_getElem_cons hlj, rowsAux] at hs2
      clear hrec
      rcases hp with ⟨rfl, rfl⟩ | ⟨a, ha, rfl, rfl⟩
      · repeat' first|(apply yA;exact rfl)|apply yB|apply yC|((first|apply yD|apply yE);(first|exact yF|assumption);iterate 6 exact rfl)|((first|apply yG|apply yH|apply yI);exact rfl;(first|exact yJ|exact yK rfl rfl|exact yL rfl|exact yM rfl|exact rfl|exact aL rfl rfl rfl rfl rfl|exact aS rfl rfl rfl rfl rfl rfl rfl|exact yX (enc := encRowD) rfl rfl hq hlj rfl|exact yX (enc := encTable) rfl rfl hk hlt2 rfl))|((first|apply yN|apply yO|apply yP);exact rfl)|((first|apply Go.pcallB|apply Go.spcallB|apply Qg.pcallB);(iterate 3 exact rfl);(first|exact l1In_ok _ _ _|exact l4Kinds_ok s[i] l[0].vals hv);intro _ _)|(exfalso;omega)|(((first|apply yT|apply yU|apply yV|apply yW);exact rfl;(first|exact .d|exact .e|exact .n|((fail_if_success exact bqt);(fail_if_success exact bqf);exact .b)))<;>intro _)
        all_goals first
          | (refine .ret rfl (.bool ?_); clear hrec2; rw [hsl, hs2, rowOne, risesId]; clear hs2 hsl; simp_all; done)
          | (refine Go.keep [0, 1, 5, 6, 7] (hrec2 _ _ _ (by omega) ⟨0 + 1, _, some l[0].id, rfl, hlj, wrap_succ hq (by omega), ⟨?_, .inr ⟨0, hlj, rfl, rfl⟩⟩, rfl, rfl⟩); clear hrec2; rw [hs2, rowOne, risesId]; clear hs2 hsl; simp_all; done)
      · repeat' first|(apply yA;exact rfl)|apply yB|apply yC|((first|apply yD|apply yE);(first|exact yF|assumption);iterate 6 exact rfl)|((first|apply yG|apply yH|apply yI);exact rfl;(first|exact yJ|exact yK rfl rfl|exact yL rfl|exact yM rfl|exact rfl|exact aL rfl rfl rfl rfl rfl|exact aS rfl rfl rfl rfl rfl rfl rfl|exact yX (enc := encRowD) rfl rfl hq hlj rfl|exact yX (enc := encRowD) rfl rfl (wrap_pred hq (by omega)) ha rfl|exact yX (enc := encTable) rfl rfl hk hlt2 rfl))|((first|apply yN|apply yO|apply yP);exact rfl)|((first|apply Go.pcallB|apply Go.spcallB|apply Qg.pcallB);(iterate 3 exact rfl);(first|exact l1In_ok _ _ _|exact l4Kinds_ok s[i] l[a + 1].vals hv);intro _ _)|(exfalso;omega)|(((first|apply yT|apply yU|apply yV|apply yW);exact rfl;(first|exact .d|exact .e|exact .n|((fail_if_success exact bqt);(fail_if_success exact bqf);exact .b)))<;>intro _)
        all_goals first
          | (refine .ret rfl (.bool ?_); clear hrec2; rw [hsl, hs2, rowOne, risesId]; clear hs2 hsl; (simp_all <;> intros <;> omega); done)
          | (refine Go.keep [0, 1, 5, 6, 7] (hrec2 _ _ _ (by omega) ⟨a + 1 + 1, _, some l[a + 1].id, rfl, hlj, wrap_succ hq (by omega), ⟨?_, .inr ⟨a + 1, hlj, rfl, rfl⟩⟩, rfl, rfl⟩); clear hrec2; rw [hs2, rowOne, risesId]; clear hs2 hsl; (simp_all <;> intros <;> omega); done)
    · clear hrec2
      rw [List.drop_eq_nil_of_le (by omega), rowsAux] at hs2
      repeat' first|(apply yA;exact rfl)|apply yB|apply yC|((first|apply yD|apply yE);(first|exact yF|assumption);iterate 6 exact rfl)|((first|apply yG|apply yH|apply yI);exact rfl;(first|exact yJ|exact yK rfl rfl|exact yL rfl|exact yM rfl|exact rfl|exact aL rfl rfl rfl rfl rfl|exact aS rfl rfl rfl rfl rfl rfl rfl))|((first|apply yN|apply yO|apply yP);exact rfl)|(exfalso;omega)|(((first|apply yT|apply yU|apply yV|apply yW);exact rfl;(first|exact .d|exact .e|exact .n|((fail_if_success exact bqt);(fail_if_success exact bqf);exact .b)))<;>intro _)
      · rename_i h
        refine .ret rfl (.bool ?_)
        rw [hsl, hs2, decide_eq_false (p := (l.length : Int) ≤ 60) (by omega)]
        simp
      · rename_i h
        refine Go.keep [0, 1, 5] (hrec _ _ _ (by omega) ⟨i + 1, _, rfl, hlt, wrap_succ hk (by omega), ?_, rfl, rfl⟩)
        rw [hsl, hs2, decide_eq_true (p := (l.length : Int) ≤ 60) (by omega)]
        rfl
  · repeat' first|(apply yA;exact rfl)|apply yB|apply yC|((first|apply yD|apply yE);(first|exact yF|assumption);iterate 6 exact rfl)|((first|apply yG|apply yH|apply yI);exact rfl;(first|exact yJ|exact yK rfl rfl|exact yL rfl|exact yM rfl|exact rfl|exact aL rfl rfl rfl rfl rfl|exact aS rfl rfl rfl rfl rfl rfl rfl))|((first|apply yN|apply yO|apply yP);exact rfl)|(exfalso;omega)|(((first|apply yT|apply yU|apply yV|apply yW);exact rfl;(first|exact .d|exact .e|exact .n|((fail_if_success exact bqt);(fail_if_success exact bqf);exact .b)))<;>intro _)
    refine .ret rfl (.bool ?_)
    rw [hsl, decide_eq_true hl, show db.drop i = [] from List.drop_eq_nil_of_le (by omega)]
    cases List.drop i s <;> rfl
theorem sDbOk_ok (s : List Table) (db : List Data) (hx : s.length ≤ 34359738368) (hb : ∀ t ∈ s, bTable 34359738368 t) (hd : db.length ≤ 34359738368) (hdb : ∀ d ∈ db, bData 34359738368 d) : Pure Tryz.prog 64 [.c (.fz (s.map encTable)), .c (.fz (db.map encData))] (.c (.bool (dbF s db))) := by
  refine Pure.run mixed c_spec_DbOk_ok (Nat.le_of_ble_eq_true rfl) fun σ hS hA => ?_
  clear hS hA
  have c1 := sSchemaOk_ok s hx hb
  have c2 := l4Db_ok s db hx hd hdb
  rw [dbF]
  generalize (decide ((db.length : Int) = s.length) && dbAux s db) = B at c2 ⊢
  cases hs : schemaF s
  · rw [hs] at c1
    repeat' first|(apply yA;exact rfl)|apply yB|apply yC|((first|apply yD|apply yE);(first|exact yF|assumption);iterate 6 exact rfl)|((first|apply yG|apply yH|apply yI);exact rfl;(first|exact yJ|exact yK rfl rfl|exact yL rfl|exact yM rfl|exact rfl|exact aL rfl rfl rfl rfl rfl|exact aS rfl rfl rfl rfl rfl rfl rfl))|((first|apply yN|apply yO|apply yP);exact rfl)|((first|apply yQ|apply yR|apply yS);(iterate 3 exact rfl);exact c1)|(exfalso;omega)|(((first|apply yT|apply yU|apply yV|apply yW);exact rfl;(first|exact .d|exact .e|exact .n|((fail_if_success exact bqt);(fail_if_success exact bqf);exact .b)))<;>intro _)
    exact .ret rfl (.bool rfl)
  · rw [hs] at c1
    repeat' first|(apply yA;exact rfl)|apply yB|apply yC|((first|apply yD|apply yE);(first|exact yF|assumption);iterate 6 exact rfl)|((first|apply yG|apply yH|apply yI);exact rfl;(first|exact yJ|exact yK rfl rfl|exact yL rfl|exact yM rfl|exact rfl|exact aL rfl rfl rfl rfl rfl|exact aS rfl rfl rfl rfl rfl rfl rfl))|((first|apply yN|apply yO|apply yP);exact rfl)|((first|apply yQ|apply yR|apply yS);(iterate 3 exact rfl);(first|exact c1|exact c2))|(exfalso;omega)|(((first|apply yT|apply yU|apply yV|apply yW);exact rfl;(first|exact .d|exact .e|exact .n|((fail_if_success exact bqt);(fail_if_success exact bqf);exact .b)))<;>intro _)
    exact .ret rfl (.bool rfl)
theorem isTable_ok (s : List Table) (n : Int) (hx : s.length ≤ 34359738368) : Pure Tryz.prog 114 [.c (.fz (s.map encTable)), .c (.int .i64 n)] (.c (.bool (isIn n 0 (s.length - 1)))) := by
  refine Pure.run mixed c_impl_isTable_ok (Nat.le_of_ble_eq_true rfl) fun σ hS hA => ?_
  clear hS hA
  repeat' first|(apply yA;exact rfl)|apply yB|apply yC|((first|apply yD|apply yE);(first|exact yF|assumption);iterate 6 exact rfl)|((first|apply yG|apply yH|apply yI);exact rfl;(first|exact yJ|exact yK rfl rfl|exact yL rfl|exact yM rfl|exact rfl|exact aL rfl rfl rfl rfl rfl|exact aS rfl rfl rfl rfl rfl rfl rfl))|((first|apply yN|apply yO|apply yP);exact rfl)|((first|apply yQ|apply yR|apply yS);(iterate 3 exact rfl);exact in_ok _ _ _)|(exfalso;omega)|(((first|apply yT|apply yU|apply yV|apply yW);exact rfl;(first|exact .d|exact .e|exact .n|((fail_if_success exact bqt);(fail_if_success exact bqf);exact .b)))<;>intro _)
  refine .ret rfl (.bool ?_)
  rw [wrap64 (by omega) (by omega)]
theorem l6Ok_ok (s : List Table) (db : List Data) (n : Int) (hx : s.length ≤ 34359738368) (hb : ∀ t ∈ s, bTable 34359738368 t) (hd : db.length ≤ 34359738368) (hdb : ∀ d ∈ db, bData 34359738368 d) : Pure Tryz.prog 126 [.c (.fz (s.map encTable)), .c (.fz (db.map encData)), .c (.int .i64 n)] (.c (.bool (dbF s db && isIn n 0 (s.length - 1)))) := by
  refine Pure.run mixed c_spec_l6Ok_ok (Nat.le_of_ble_eq_true rfl) fun σ hS hA => ?_
  clear hS hA
  have c1 := sDbOk_ok s db hx hb hd hdb
  have hw : IntKind.i64.wrap ((s.length : Int) - 1) = s.length - 1 := wrap64 (by omega) (by omega)
  cases hs : dbF s db
  · rw [hs] at c1
    repeat' first|(apply yA;exact rfl)|apply yB|apply yC|((first|apply yD|apply yE);(first|exact yF|assumption);iterate 6 exact rfl)|((first|apply yG|apply yH|apply yI);exact rfl;(first|exact yJ|exact yK rfl rfl|exact yL rfl|exact yM rfl|exact rfl|exact aL rfl rfl rfl rfl rfl|exact aS rfl rfl rfl rfl rfl rfl rfl))|((first|apply yN|apply yO|apply yP);exact rfl)|((first|apply yQ|apply yR|apply yS);(iterate 3 exact rfl);exact c1)|(exfalso;omega)|(((first|apply yT|apply yU|apply yV|apply yW);exact rfl;(first|exact .d|exact .e|exact .n|((fail_if_success exact bqt);(fail_if_success exact bqf);exact .b)))<;>intro _)
    exact .ret rfl (.bool rfl)
  · rw [hs] at c1
    repeat' first|(apply yA;exact rfl)|apply yB|apply yC|((first|apply yD|apply yE);(first|exact yF|assumption);iterate 6 exact rfl)|((first|apply yG|apply yH|apply yI);exact rfl;(first|exact yJ|exact yK rfl rfl|exact yL rfl|exact yM rfl|exact rfl|exact aL rfl rfl rfl rfl rfl|exact aS rfl rfl rfl rfl rfl rfl rfl))|((first|apply yN|apply yO|apply yP);exact rfl)|((first|apply yQ|apply yR|apply yS);(iterate 3 exact rfl);(first|exact c1|exact l1In_ok _ _ _))|(exfalso;omega)|(((first|apply yT|apply yU|apply yV|apply yW);exact rfl;(first|exact .d|exact .e|exact .n|((fail_if_success exact bqt);(fail_if_success exact bqf);exact .b)))<;>intro _)
    refine .ret rfl (.bool ?_)
    rw [hw]
    rfl
/-- What a right database is like. -/
theorem dbF_at {s : List Table} {db : List Data} (h : dbF s db = true) : schemaF s = true ∧ db.length = s.length ∧ ∀ i (hi : i < s.length) (hi2 : i < db.length), rowsF s[i] db[i].rows = true := by
  simp only [dbF, Bool.and_eq_true, decide_eq_true_eq] at h
  obtain ⟨h1, h2, h3⟩ := h
  refine ⟨h1, by omega, ?_⟩
  clear h1 h2
  induction s generalizing db with
  | nil => intro i hi; simp at hi
  | cons t s ih =>
    cases db with
    | nil => intro i _ hi; simp at hi
    | cons d db =>
      rw [dbAux, Bool.and_eq_true] at h3
      intro i hi hi2
      cases i with
      | zero => exact h3.1
      | succ i => exact ih h3.2 i (by simpa using hi) (by simpa using hi2)
theorem rowsAux_mem {t : Table} : ∀ {l : List RowD} {p : Option Int}, rowsAux t p l = true → ∀ r ∈ l, fitF t r.vals = true ∧ isIn r.id 1 1000000000 = true
  | [], _, _, r, hr => by simp at hr
  | a :: l, p, h, r, hr => by
    simp only [rowsAux, rowOne, Bool.and_eq_true] at h
    rcases List.mem_cons.1 hr with rfl | hr
    · exact ⟨h.1.2.2, h.1.1⟩
    · exact rowsAux_mem h.2 r hr
theorem rowsF_mem {t : Table} {l : List RowD} (h : rowsF t l = true) : l.length ≤ 60 ∧ ∀ r ∈ l, fitF t r.vals = true ∧ isIn r.id 1 1000000000 = true := by
  simp only [rowsF, Bool.and_eq_true, decide_eq_true_eq] at h
  exact ⟨by omega, rowsAux_mem h.1⟩
theorem fitAux_ok {t : Table} : ∀ {l : List Val} {i : Nat}, fitAux t i l = true → ∀ v ∈ l, okVal v = true
  | [], _, _, v, hv => by simp at hv
  | a :: l, i, h, v, hv => by
    simp only [fitAux, isOfF, Bool.and_eq_true] at h
    rcases List.mem_cons.1 hv with rfl | hv
    · exact h.1.1
    · exact fitAux_ok h.2 v hv
theorem fitF_vals {t : Table} {l : List Val} (h : fitF t l = true) : l.length = t.cols.length ∧ ∀ v ∈ l, okVal v = true := by
  simp only [fitF, Bool.and_eq_true, decide_eq_true_eq] at h
  exact ⟨by omega, fitAux_ok h.2⟩
theorem fitF_are {t : Table} {l : List Val} (h : fitF t l = true) (hc : t.cols.length ≤ 8) : areVals l 16 = true := by
  obtain ⟨h1, h2⟩ := fitF_vals h
  simp only [areVals, Bool.and_eq_true, decide_eq_true_eq, List.all_eq_true]
  exact ⟨by omega, h2⟩
end Go.Proofs.YteafjabcpmpmgaaGreat.Am

/- Marks by fields, and how many marks a value takes. -/
set_option linter.unusedVariables false
set_option linter.unusedSimpArgs false
namespace Go.Proofs.YteafjabcpmpmgaaGreat.Am

/-- One cell of one element is written. -/
theorem Has.wr {σ : Store} {S : Nat → Prop} {zs : List (List Ce)} {e : List Ce} {id v n c i j : Nat} (h : Has σ S (.fz (zs.set i e)) (.sl id v 0 n c)) (hi : i < zs.length) (hj : j < e.length) :
    ∃ (es : List (List Ce)) (e' : List Ce), σ.get id = some (v, es) ∧ es[0 + i]? = some e' ∧ e'.length = e.length ∧ S id ∧
      ∀ z, Flat z → Has (σ.put id (v, es.set (0 + i) (splice e' (0 + j) [z]))) S (.fz (zs.set i (e.set j z))) (.sl id v 0 n c) ∧
        (∀ a, ¬ S a → (σ.put id (v, es.set (0 + i) (splice e' (0 + j) [z]))).get a = σ.get a) ∧ (σ.put id (v, es.set (0 + i) (splice e' (0 + j) [z]))).next = σ.next := by
  have hi' : i < (zs.set i e).length := by simpa using hi
  have hii : (zs.set i e)[i] = e := by simp
  obtain ⟨id1, v1, c1, es, e', hx, hg, he, hel, hS, hw⟩ := h.write (i := i) (j := j) hi' (by rw [hii]; exact hj)
  obtain ⟨rfl, rfl, -⟩ := sl_inj hx
  refine ⟨es, e', hg, he, by rw [hel, hii], hS, fun z hz => ⟨?_, fun a ha => put_off hS a ha, rfl⟩⟩
  have := hw z hz
  rw [List.set_set, hii] at this
  exact this
end Go.Proofs.YteafjabcpmpmgaaGreat.Am

/- The laws' helpers on types, printed by a program: Tok, Check, Unique, Fk, Col. -/
set_option linter.unusedVariables false
set_option linter.unusedSimpArgs false
namespace Go.Proofs.YteafjabcpmpmgaaGreat.Am
end Go.Proofs.YteafjabcpmpmgaaGreat.Am

/- The laws' helpers on types, printed by a program: Row, Data, Line. -/
set_option linter.unusedVariables false
set_option linter.unusedSimpArgs false
namespace Go.Proofs.YteafjabcpmpmgaaGreat.Am
def cntLine (a : Line) : Int := 0 + cntL (fun _ => 3) a.vals
end Go.Proofs.YteafjabcpmpmgaaGreat.Am

/- The laws' helpers on types, printed by a program: Table, Term, Trigger. -/
set_option linter.unusedVariables false
set_option linter.unusedSimpArgs false
namespace Go.Proofs.YteafjabcpmpmgaaGreat.Am
end Go.Proofs.YteafjabcpmpmgaaGreat.Am

/- What the laws with marks have in common. -/
set_option linter.unusedVariables false
set_option linter.unusedSimpArgs false
namespace Go.Proofs.YteafjabcpmpmgaaGreat.Am

theorem hv_flat {τ : Store} {S : Nat → Prop} {f : Ce} (h : Flat f) : HasV τ S (.c f) (.c f) := .c (.c h)
theorem newPair {σ τ : Store} {y x f : Ce} (hf : Flat f) (h : NewV σ (.c y) (.c x) τ) : NewV σ (.tup [.c y, .c f]) (.tup [.c x, .c f]) τ :=
  ⟨h.1, .pair h.2 (hv_flat (S := fun _ => False) hf) (fun _ h => h) (fun _ h => h.elim) (fun _ _ h => h)⟩
theorem newNil {σ τ : Store} (g : Gr σ τ) : NewV σ (.c (.fz [])) (.c .nils) τ := ⟨g, .c .nil⟩
theorem newVec {σ : Store} {v : Nat} {s : Nat} {ys junk : List (List Ce)} (hy : ∀ e ∈ ys, e.length = s ∧ ∀ x ∈ e, Flat x) (hj : Jk s junk) : NewV σ (.c (.fz ys)) (.c (vec (σ.next + 0) v ys junk)) (E σ [(v, ys ++ junk)]) :=
  (Made.new hy (r := .c (vec (σ.next + 0) v ys junk)) ⟨v, junk, hj, rfl, rfl⟩).v
end Go.Proofs.YteafjabcpmpmgaaGreat.Am

/- Rows that match: the program and its reference. -/
set_option linter.unusedVariables false
set_option linter.unusedSimpArgs false
namespace Go.Proofs.YteafjabcpmpmgaaGreat.Am

theorem flatIs {xs : List Int} : ∀ e ∈ xs.map encI, e.length = 1 ∧ ∀ x ∈ e, Flat x := flatI xs
def rowsAt (db : List Data) (n : Int) : List RowD := match db[n.toNat]? with | some d => d.rows | none => []
def colsAt (s : List Table) (n : Int) : Nat := match s[n.toNat]? with | some t => t.cols.length | none => 0
theorem isIn_at {n m : Int} (h : isIn n 0 (m - 1) = true) : 0 ≤ n ∧ n < m := by
  simp only [isIn, Bool.and_eq_true, decide_eq_true_eq] at h
  omega
theorem newNo {σ : Store} : NewV σ (.tup [.c (.fz []), .c (.bool false)]) (.tup [.c .nils, .c (.bool false)]) (E σ []) := newPair (.bool _) (newNil (Gr.start σ))
end Go.Proofs.YteafjabcpmpmgaaGreat.Am

/- Keys of rows; rows that have a key. -/
set_option linter.unusedVariables false
set_option linter.unusedSimpArgs false
namespace Go.Proofs.YteafjabcpmpmgaaGreat.Am

def valAt (vals : List Val) (c : Int) : Val := vals[c.toNat]?.getD vNull
def keyF (cols : List Int) (vals : List Val) : List Val := cols.map (valAt vals)
def wholeF (cols : List Int) (vals : List Val) : Bool := cols.all fun c => !((valAt vals c).k == 0)
def InR (cols : List Int) (n : Nat) : Prop := ∀ c ∈ cols, 0 ≤ c ∧ c < n
theorem valAt_eq {vals : List Val} {c : Int} (h : c.toNat < vals.length) : valAt vals c = vals[c.toNat] := by rw [valAt, List.getElem?_eq_getElem h]; rfl
theorem keyF_len (cols : List Int) (vals : List Val) : (keyF cols vals).length = cols.length := List.length_map _
theorem keyF_take {cols : List Int} {vals : List Val} {i : Nat} (h : i < cols.length) : keyF (cols.take (i + 1)) vals = keyF (cols.take i) vals ++ [valAt vals cols[i]] := by
  rw [List.take_succ_eq_append_getElem h, keyF, List.map_append]; rfl
theorem wholeF_take {cols : List Int} {vals : List Val} {i : Nat} (h : i < cols.length) : wholeF (cols.take (i + 1)) vals = (wholeF (cols.take i) vals && !((valAt vals cols[i]).k == 0)) := by
  rw [List.take_succ_eq_append_getElem h, wholeF, List.all_append, wholeF, List.all_cons, List.all_nil, Bool.and_true]
theorem l4Key_new (cols : List Int) (vals : List Val) (hx : cols.length ≤ 34359738368) (hi : InR cols vals.length) (σ : Store) : Ok Tryz.prog 335 [.c (.fz (cols.map encI)), .c (.fz (vals.map encV))] σ (NewV σ (.tup [.c (.fz ((keyF cols vals).map encV)), .c (.bool (wholeF cols vals))])) := by
  refine Ok.run mixed c_spec_l4Key_ok (Nat.le_of_ble_eq_true rfl) fun hS hA => ?_
  clear hS hA
  repeat' first|(apply yA;exact rfl)|apply yB|apply yC|((first|apply yD|apply yE);(first|exact yF|assumption);iterate 6 exact rfl)|((first|apply yG|apply yH|apply yI);exact rfl;(first|exact yJ|exact yK rfl rfl|exact yL rfl|exact yM rfl|exact rfl|exact aL rfl rfl rfl rfl rfl|exact aS rfl rfl rfl rfl rfl rfl rfl))|((first|apply yN|apply yO|apply yP);exact rfl)|(exfalso;omega)|(((first|apply yT|apply yU|apply yV|apply yW);exact rfl;(first|exact .d|exact .e|exact .n|((fail_if_success exact bqt);(fail_if_success exact bqf);exact .b)))<;>intro _)
  refine Go.keep [0, 1, 6, 7, 8] (Go.loops (I := fun m fr τ => ∃ (i : Nat) (k : Int) (v : Nat) (junk : List (List Ce)) (ks : List Val) (b : Bool), m = cols.length - i ∧ i ≤ cols.length ∧ k = i ∧ Jk 3 junk ∧ (ks = keyF (cols.take i) vals ∧ b = wholeF (cols.take i) vals) ∧
    fr = [(0, .c (.fz (cols.map encI))), (1, .c (.fz (vals.map encV))), (6, .c (vec (σ.next + 0) v (ks.map encV) junk)), (7, .c (.bool b)), (8, .c (.int .i64 k))] ∧ τ = E σ [(v, ks.map encV ++ junk)]) ?_ _ _ _ ⟨0, _, 0, [], [], true, rfl, Nat.zero_le _, rfl, Jk.nil, ⟨rfl, rfl⟩, rfl, rfl⟩)
  rintro m fr τ ⟨i, k, v, junk, ks, b, rfl, hile, hk, hj, ⟨hks, hb⟩, rfl, rfl⟩ hrec
  by_cases hlt : i < cols.length
  · obtain ⟨q1, q2⟩ := hi _ (List.getElem_mem hlt)
    have hc : cols[i] = (cols[i].toNat : Int) := by omega
    have hcl : cols[i].toNat < vals.length := by omega
    have hv := valAt_eq hcl
    have hkl : (ks.map encV).length = i := by rw [List.length_map, hks, keyF_len, List.length_take]; omega
    have hbd : ((ks.map encV).length + 1) * 32 ≤ 140737488355328 := by omega
    have e1 : ks.map encV ++ [encV vals[cols[i].toNat]] = (ks ++ [vals[cols[i].toNat]]).map encV := by simp
    have hk2 : ks ++ [vals[cols[i].toNat]] = keyF (cols.take (i + 1)) vals := by rw [keyF_take hlt, ← hks, hv]
    have hw2 := wholeF_take (vals := vals) hlt
    rw [← hb, hv] at hw2
    cases b
    · repeat' first|(apply yA;exact rfl)|apply yB|apply yC|((first|apply yD|apply yE);(first|exact yF|assumption);iterate 6 exact rfl)|((first|apply yG|apply yH|apply yI);exact rfl;(first|exact yJ|exact yK rfl rfl|exact yL rfl|exact yM rfl|exact rfl|exact aL rfl rfl rfl rfl rfl|exact aS rfl rfl rfl rfl rfl rfl rfl|exact yX (enc := encI) rfl rfl hk hlt rfl|exact yX (enc := encV) rfl rfl hc hcl rfl))|((first|apply yN|apply yO|apply yP);exact rfl)|(apply Go.app1;exact rfl;exact rfl;exact rfl;exact rfl;exact rfl;exact lens;exact hj;exact rfl;exact hbd;intro v' junk' hj')|(exfalso;omega)|(((first|apply yT|apply yU|apply yV|apply yW);exact rfl;(first|exact .d|exact .e|exact .n|((fail_if_success exact bqt);(fail_if_success exact bqf);exact .b)))<;>intro _)
      refine Go.keep [0, 1, 6, 7, 8] (hrec _ _ _ (by omega) ⟨i + 1, _, v', junk', ks ++ [vals[cols[i].toNat]], _, rfl, hlt, wrap_succ hk (by omega), hj', ⟨hk2, hw2.symm⟩, ?_, ?_⟩)
      · rw [← e1]; rfl
      · rw [← e1]; rfl
    · repeat' first|(apply yA;exact rfl)|apply yB|apply yC|((first|apply yD|apply yE);(first|exact yF|assumption);iterate 6 exact rfl)|((first|apply yG|apply yH|apply yI);exact rfl;(first|exact yJ|exact yK rfl rfl|exact yL rfl|exact yM rfl|exact rfl|exact aL rfl rfl rfl rfl rfl|exact aS rfl rfl rfl rfl rfl rfl rfl|exact yX (enc := encI) rfl rfl hk hlt rfl|exact yX (enc := encV) rfl rfl hc hcl rfl))|((first|apply yN|apply yO|apply yP);exact rfl)|(apply Go.app1;exact rfl;exact rfl;exact rfl;exact rfl;exact rfl;exact lens;exact hj;exact rfl;exact hbd;intro v' junk' hj')|(exfalso;omega)|(((first|apply yT|apply yU|apply yV|apply yW);exact rfl;(first|exact .d|exact .e|exact .n|((fail_if_success exact bqt);(fail_if_success exact bqf);exact .b)))<;>intro _)
      refine Go.keep [0, 1, 6, 7, 8] (hrec _ _ _ (by omega) ⟨i + 1, _, v', junk', ks ++ [vals[cols[i].toNat]], vals[cols[i].toNat].k != 0, rfl, hlt, wrap_succ hk (by omega), hj', ⟨hk2, hw2.symm⟩, ?_, ?_⟩)
      · rw [← e1]; rfl
      · rw [← e1]; rfl
  · repeat' first|(apply yA;exact rfl)|apply yB|apply yC|((first|apply yD|apply yE);(first|exact yF|assumption);iterate 6 exact rfl)|((first|apply yG|apply yH|apply yI);exact rfl;(first|exact yJ|exact yK rfl rfl|exact yL rfl|exact yM rfl|exact rfl|exact aL rfl rfl rfl rfl rfl|exact aS rfl rfl rfl rfl rfl rfl rfl))|((first|apply yN|apply yO|apply yP);exact rfl)|(exfalso;omega)|(((first|apply yT|apply yU|apply yV|apply yW);exact rfl;(first|exact .d|exact .e|exact .n|((fail_if_success exact bqt);(fail_if_success exact bqf);exact .b)))<;>intro _)
    refine .ret rfl ?_
    rw [List.take_of_length_le (by omega)] at hks hb
    rw [← hks, ← hb]
    exact newPair (.bool _) (newVec clean_append hj)
theorem l4Key_ok (cols : List Int) (vals : List Val) (hx : cols.length ≤ 34359738368) (hi : InR cols vals.length) : Pure Tryz.prog 335 [.c (.fz (cols.map encI)), .c (.fz (vals.map encV))] (.tup [.c (.fz ((keyF cols vals).map encV)), .c (.bool (wholeF cols vals))]) := NewV.pure (l4Key_new cols vals hx hi)
end Go.Proofs.YteafjabcpmpmgaaGreat.Am

/- Rows that have a key. -/
set_option linter.unusedVariables false
set_option linter.unusedSimpArgs false
namespace Go.Proofs.YteafjabcpmpmgaaGreat.Am

def hasB (cols : List Int) (key vals : List Val) : Bool := wholeF cols vals && (keyF cols vals == key)
def foundF (rows : List RowD) (cols : List Int) (key : List Val) : List Int := (rows.filter fun r => hasB cols key r.vals).map (·.id)
theorem foundF_take {rows : List RowD} {cols : List Int} {key : List Val} {i : Nat} (h : i < rows.length) : foundF (rows.take (i + 1)) cols key = foundF (rows.take i) cols key ++ if hasB cols key rows[i].vals then [rows[i].id] else [] := by
  rw [foundF, List.take_succ_eq_append_getElem h, List.filter_append, List.map_append, foundF]
  congr 1
  rw [List.filter_cons, List.filter_nil]
  split <;> rfl
theorem foundF_len {rows : List RowD} {cols : List Int} {key : List Val} : (foundF rows cols key).length ≤ rows.length := by rw [foundF, List.length_map]; exact List.length_filter_le _ _
theorem l4Find_ok (d : Data) (cols : List Int) (key : List Val) (hr : d.rows.length ≤ 1048576) (hx : cols.length ≤ 34359738368) (hi : ∀ r ∈ d.rows, InR cols r.vals.length) : Pure Tryz.prog 338 [.agg (encData d), .c (.fz (cols.map encI)), .c (.fz (key.map encV))] (.c (.fz ((foundF d.rows cols key).map encI))) := by
  refine NewV.pure fun σ => Ok.run mixed c_spec_l4Find_ok (Nat.le_of_ble_eq_true rfl) fun hS hA => ?_
  clear hS hA
  repeat' first|(apply yA;exact rfl)|apply yB|apply yC|((first|apply yD|apply yE);(first|exact yF|assumption);iterate 6 exact rfl)|((first|apply yG|apply yH|apply yI);exact rfl;(first|exact yJ|exact yK rfl rfl|exact yL rfl|exact yM rfl|exact rfl|exact aL rfl rfl rfl rfl rfl|exact aS rfl rfl rfl rfl rfl rfl rfl))|((first|apply yN|apply yO|apply yP);exact rfl)|(exfalso;omega)|(((first|apply yT|apply yU|apply yV|apply yW);exact rfl;(first|exact .d|exact .e|exact .n|((fail_if_success exact bqt);(fail_if_success exact bqf);exact .b)))<;>intro _)
  refine Go.keep [1, 2, 3, 7, 8] (Go.loops (I := fun m fr τ => ∃ (i : Nat) (k : Int) (v : Nat) (junk : List (List Ce)) (ids : List Int), m = d.rows.length - i ∧ i ≤ d.rows.length ∧ k = i ∧ Jk 1 junk ∧ ids = foundF (d.rows.take i) cols key ∧
    fr = [(1, .c (.fz (cols.map encI))), (2, .c (.fz (key.map encV))), (3, .c (.fp (encData d))), (7, .c (vec (σ.next + 0) v (ids.map encI) junk)), (8, .c (.int .i64 k))] ∧ τ = E σ [(v, ids.map encI ++ junk)]) ?_ _ _ _ ⟨0, _, 0, [], [], rfl, Nat.zero_le _, rfl, Jk.nil, rfl, rfl, rfl⟩)
  rintro m fr τ ⟨i, k, v, junk, ids, rfl, hile, hk, hj, hids, rfl, rfl⟩ hrec
  by_cases hlt : i < d.rows.length
  · have c1 := l4Key_ok cols d.rows[i].vals hx (hi _ (List.getElem_mem hlt))
    have c2 := l1SameVals_ok (keyF cols d.rows[i].vals) key (by rw [keyF_len]; exact hx)
    have hn := foundF_take (cols := cols) (key := key) hlt
    rw [← hids, hasB] at hn
    have hl : (ids.map encI).length ≤ 1048576 := by rw [List.length_map, hids]; have := foundF_len (rows := d.rows.take i) (cols := cols) (key := key); rw [List.length_take] at this; omega
    have hbd : ((ids.map encI).length + 1) * 8 ≤ 140737488355328 := by omega
    have hz1 : ∀ e ∈ ids.map encI, e.length = 1 := fun e he => (flatIs e he).1
    have e1 : ids.map encI ++ [encI d.rows[i].id] = (ids ++ [d.rows[i].id]).map encI := by simp
    clear hi
    generalize keyF cols d.rows[i].vals = ks at c1 c2 hn
    generalize (ks == key) = q at c2 hn
    cases hb : wholeF cols d.rows[i].vals
    · rw [hb] at c1 hn
      rw [Bool.false_and, if_neg Bool.false_ne_true, List.append_nil] at hn
      repeat' first|(apply yA;exact rfl)|apply yB|apply yC|((first|apply yD|apply yE);(first|exact yF|assumption);iterate 6 exact rfl)|((first|apply yG|apply yH|apply yI);exact rfl;(first|exact yJ|exact yK rfl rfl|exact yL rfl|exact yM rfl|exact rfl|exact aL rfl rfl rfl rfl rfl|exact aS rfl rfl rfl rfl rfl rfl rfl|exact yX (enc := encRowD) rfl rfl hk hlt rfl))|((first|apply yN|apply yO|apply yP);exact rfl)|((first|apply yQ|apply yR|apply yS);(iterate 3 exact rfl);exact c1)|(exfalso;omega)|(((first|apply yT|apply yU|apply yV|apply yW);exact rfl;(first|exact .d|exact .e|exact .n|((fail_if_success exact bqt);(fail_if_success exact bqf);exact .b)))<;>intro _)
      exact Go.keep [1, 2, 3, 7, 8] (hrec _ _ _ (by omega) ⟨i + 1, _, v, junk, ids, rfl, hlt, wrap_succ hk (by omega), hj, hn.symm, rfl, rfl⟩)
    · cases q
      · rw [hb] at c1 hn
        rw [Bool.and_false, if_neg Bool.false_ne_true, List.append_nil] at hn
        repeat' first|(apply yA;exact rfl)|apply yB|apply yC|((first|apply yD|apply yE);(first|exact yF|assumption);iterate 6 exact rfl)|((first|apply yG|apply yH|apply yI);exact rfl;(first|exact yJ|exact yK rfl rfl|exact yL rfl|exact yM rfl|exact rfl|exact aL rfl rfl rfl rfl rfl|exact aS rfl rfl rfl rfl rfl rfl rfl|exact yX (enc := encRowD) rfl rfl hk hlt rfl))|((first|apply yN|apply yO|apply yP);exact rfl)|((first|apply yQ|apply yR|apply yS);(iterate 3 exact rfl);(first|exact c1|exact c2))|(exfalso;omega)|(((first|apply yT|apply yU|apply yV|apply yW);exact rfl;(first|exact .d|exact .e|exact .n|((fail_if_success exact bqt);(fail_if_success exact bqf);exact .b)))<;>intro _)
        exact Go.keep [1, 2, 3, 7, 8] (hrec _ _ _ (by omega) ⟨i + 1, _, v, junk, ids, rfl, hlt, wrap_succ hk (by omega), hj, hn.symm, rfl, rfl⟩)
      · rw [hb] at c1 hn
        rw [Bool.and_true, if_pos rfl] at hn
        repeat' first|(apply yA;exact rfl)|apply yB|apply yC|((first|apply yD|apply yE);(first|exact yF|assumption);iterate 6 exact rfl)|((first|apply yG|apply yH|apply yI);exact rfl;(first|exact yJ|exact yK rfl rfl|exact yL rfl|exact yM rfl|exact rfl|exact aL rfl rfl rfl rfl rfl|exact aS rfl rfl rfl rfl rfl rfl rfl|exact yX (enc := encRowD) rfl rfl hk hlt rfl))|((first|apply yN|apply yO|apply yP);exact rfl)|(apply Go.app1;exact rfl;exact rfl;exact rfl;exact rfl;exact rfl;exact hz1;exact hj;exact rfl;exact hbd;intro v' junk' hj')|((first|apply yQ|apply yR|apply yS);(iterate 3 exact rfl);(first|exact c1|exact c2))|(exfalso;omega)|(((first|apply yT|apply yU|apply yV|apply yW);exact rfl;(first|exact .d|exact .e|exact .n|((fail_if_success exact bqt);(fail_if_success exact bqf);exact .b)))<;>intro _)
        refine Go.keep [1, 2, 3, 7, 8] (hrec _ _ _ (by omega) ⟨i + 1, _, v', junk', ids ++ [d.rows[i].id], rfl, hlt, wrap_succ hk (by omega), hj', hn.symm, ?_, ?_⟩)
        · rw [← e1]; rfl
        · rw [← e1]; rfl
  · repeat' first|(apply yA;exact rfl)|apply yB|apply yC|((first|apply yD|apply yE);(first|exact yF|assumption);iterate 6 exact rfl)|((first|apply yG|apply yH|apply yI);exact rfl;(first|exact yJ|exact yK rfl rfl|exact yL rfl|exact yM rfl|exact rfl|exact aL rfl rfl rfl rfl rfl|exact aS rfl rfl rfl rfl rfl rfl rfl))|((first|apply yN|apply yO|apply yP);exact rfl)|(exfalso;omega)|(((first|apply yT|apply yU|apply yV|apply yW);exact rfl;(first|exact .d|exact .e|exact .n|((fail_if_success exact bqt);(fail_if_success exact bqf);exact .b)))<;>intro _)
    refine .ret rfl ?_
    rw [List.take_of_length_le (by omega)] at hids
    rw [← hids]
    exact newVec flatIs hj
end Go.Proofs.YteafjabcpmpmgaaGreat.Am

/- Rows' nulls and checks. -/
set_option linter.unusedVariables false
set_option linter.unusedSimpArgs false
namespace Go.Proofs.YteafjabcpmpmgaaGreat.Am

structure TabOk (t : Table) : Prop where
  cols0 : 1 ≤ t.cols.length
  cols8 : t.cols.length ≤ 8
  key : InR t.key t.cols.length
  uniq : ∀ u ∈ t.uniques, InR u.cols t.cols.length
  chk : ∀ c ∈ t.checks, exprF c.expr t.cols.length = true
  fk : ∀ f ∈ t.fks, InR f.cols t.cols.length
  uniq3 : t.uniques.length ≤ 3
  chk3 : t.checks.length ≤ 3
  fk3 : t.fks.length ≤ 3
theorem tableF_facts {t : Table} (h : tableF t = true) : TabOk t := by
  simp only [tableF, Bool.and_eq_true, decide_eq_true_eq, Bool.not_eq_true', List.any_eq_false, Bool.not_eq_false', Bool.not_eq_true] at h
  obtain ⟨h1, h2, h3, h4, h5, h6, h7, h8, h9, h10⟩ := h
  have hc := areColsF_len h2
  exact ⟨hc.1, hc.2, colsF_in h3, fun u hu => colsF_in (by simpa using h8 u hu), fun c hc => by simpa using h9 c hc, fun f hf => by
    have : isFkF f t.cols.length = true := by simpa using h10 f hf
    simp only [isFkF, Bool.and_eq_true] at this
    exact colsF_in this.1, by omega, by omega, by omega⟩
theorem schemaF_tab {s : List Table} (h : schemaF s = true) : ∀ t ∈ s, TabOk t := fun t ht => by
  simp only [schemaF, Bool.and_eq_true] at h
  exact tableF_facts (namesAux_ok h.2.1 t ht)
def nullAux (t : Table) : Nat → List Val → Bool
  | _, [] => false
  | i, v :: l => (notNullAt t i && v.k == 0) || nullAux t (i + 1) l
theorem l4Nulls_ok (t : Table) (vals : List Val) (hl : vals.length = t.cols.length) (hc : t.cols.length ≤ 8) : Pure Tryz.prog 328 [.agg (encTable t), .c (.fz (vals.map encV))] (.c (.bool (!nullAux t 0 vals))) := by
  refine Pure.run mixed c_spec_l4Nulls_ok (Nat.le_of_ble_eq_true rfl) fun σ hS hA => ?_
  clear hS hA
  repeat' first|(apply yA;exact rfl)|apply yB|apply yC|((first|apply yD|apply yE);(first|exact yF|assumption);iterate 6 exact rfl)|((first|apply yG|apply yH|apply yI);exact rfl;(first|exact yJ|exact yK rfl rfl|exact yL rfl|exact yM rfl|exact rfl|exact aL rfl rfl rfl rfl rfl|exact aS rfl rfl rfl rfl rfl rfl rfl))|((first|apply yN|apply yO|apply yP);exact rfl)|(exfalso;omega)|(((first|apply yT|apply yU|apply yV|apply yW);exact rfl;(first|exact .d|exact .e|exact .n|((fail_if_success exact bqt);(fail_if_success exact bqf);exact .b)))<;>intro _)
  refine Go.keep [1, 2, 5] (Go.loops (I := fun m fr τ => ∃ (i : Nat) (k : Int), m = vals.length - i ∧ i ≤ vals.length ∧ k = i ∧ nullAux t 0 vals = nullAux t i (vals.drop i) ∧
    fr = [(1, .c (.fz (vals.map encV))), (2, .c (.fp (encTable t))), (5, .c (.int .i64 k))] ∧ τ = E σ []) ?_ _ _ _ ⟨0, _, rfl, Nat.zero_le _, rfl, rfl, rfl, rfl⟩)
  rintro m fr τ ⟨i, k, rfl, hi, hk, hs, rfl, rfl⟩ hrec
  by_cases hlt : i < vals.length
  · have hlc : i < t.cols.length := by omega
    have hnn : notNullAt t i = t.cols[i].notNull := by rw [notNullAt, Int.toNat_natCast, List.getElem?_eq_getElem hlc]
    rw [List.drop_eq_getElem_cons hlt, nullAux, hnn] at hs
    cases hb : t.cols[i].notNull
    · rw [hb, Bool.false_and, Bool.false_or] at hs
      repeat' first|(apply yA;exact rfl)|apply yB|apply yC|((first|apply yD|apply yE);(first|exact yF|assumption);iterate 6 exact rfl)|((first|apply yG|apply yH|apply yI);exact rfl;(first|exact yJ|exact yK rfl rfl|exact yL rfl|exact yM rfl|exact rfl|exact aL rfl rfl rfl rfl rfl|exact aS rfl rfl rfl rfl rfl rfl rfl|exact yX (enc := encV) rfl rfl hk hlt rfl|exact yX (enc := encCol) rfl rfl hk hlc rfl))|((first|apply yN|apply yO|apply yP);exact rfl)|(exfalso;omega)|(((first|apply yT|apply yU|apply yV|apply yW);exact rfl;(first|exact .d|exact .e|exact .n|((fail_if_success exact bqt);(fail_if_success exact bqf);exact .b)))<;>intro _)
      all_goals first
        | exact Go.keep [1, 2, 5] (hrec _ _ _ (by omega) ⟨i + 1, _, rfl, hlt, wrap_succ hk (by omega), hs, rfl, rfl⟩)
        | (exfalso; simp_all; done)
    · by_cases h0 : vals[i].k = 0
      · rw [hb, h0] at hs
        repeat' first|(apply yA;exact rfl)|apply yB|apply yC|((first|apply yD|apply yE);(first|exact yF|assumption);iterate 6 exact rfl)|((first|apply yG|apply yH|apply yI);exact rfl;(first|exact yJ|exact yK rfl rfl|exact yL rfl|exact yM rfl|exact rfl|exact aL rfl rfl rfl rfl rfl|exact aS rfl rfl rfl rfl rfl rfl rfl|exact yX (enc := encV) rfl rfl hk hlt rfl|exact yX (enc := encCol) rfl rfl hk hlc rfl))|((first|apply yN|apply yO|apply yP);exact rfl)|(exfalso;omega)|(((first|apply yT|apply yU|apply yV|apply yW);exact rfl;(first|exact .d|exact .e|exact .n|((fail_if_success exact bqt);(fail_if_success exact bqf);exact .b)))<;>intro _)
        all_goals first
          | exact .ret rfl (.bool (by rw [hs]; rfl))
          | (exfalso; simp_all; done)
      · rw [hb, beq_eq_false_iff_ne.2 h0, Bool.and_false, Bool.false_or] at hs
        repeat' first|(apply yA;exact rfl)|apply yB|apply yC|((first|apply yD|apply yE);(first|exact yF|assumption);iterate 6 exact rfl)|((first|apply yG|apply yH|apply yI);exact rfl;(first|exact yJ|exact yK rfl rfl|exact yL rfl|exact yM rfl|exact rfl|exact aL rfl rfl rfl rfl rfl|exact aS rfl rfl rfl rfl rfl rfl rfl|exact yX (enc := encV) rfl rfl hk hlt rfl|exact yX (enc := encCol) rfl rfl hk hlc rfl))|((first|apply yN|apply yO|apply yP);exact rfl)|(exfalso;omega)|(((first|apply yT|apply yU|apply yV|apply yW);exact rfl;(first|exact .d|exact .e|exact .n|((fail_if_success exact bqt);(fail_if_success exact bqf);exact .b)))<;>intro _)
        all_goals first
          | exact Go.keep [1, 2, 5] (hrec _ _ _ (by omega) ⟨i + 1, _, rfl, hlt, wrap_succ hk (by omega), hs, rfl, rfl⟩)
          | (exfalso; simp_all; done)
  · repeat' first|(apply yA;exact rfl)|apply yB|apply yC|((first|apply yD|apply yE);(first|exact yF|assumption);iterate 6 exact rfl)|((first|apply yG|apply yH|apply yI);exact rfl;(first|exact yJ|exact yK rfl rfl|exact yL rfl|exact yM rfl|exact rfl|exact aL rfl rfl rfl rfl rfl|exact aS rfl rfl rfl rfl rfl rfl rfl))|((first|apply yN|apply yO|apply yP);exact rfl)|(exfalso;omega)|(((first|apply yT|apply yU|apply yV|apply yW);exact rfl;(first|exact .d|exact .e|exact .n|((fail_if_success exact bqt);(fail_if_success exact bqf);exact .b)))<;>intro _)
    rw [List.drop_eq_nil_of_le (by omega), nullAux] at hs
    exact .ret rfl (.bool (by rw [hs]; rfl))
def checkBad (vals : List Val) (x : Chk) : Bool := decide (truthI x.expr vals < 1)
theorem l4Checks_ok (t : Table) (vals : List Val) (hn : t.checks.length ≤ 3) (hx : ∀ c ∈ t.checks, exprF c.expr vals.length = true) (hv : areVals vals 16 = true) : Pure Tryz.prog 329 [.agg (encTable t), .c (.fz (vals.map encV))] (.c (.bool (!(t.checks.any (checkBad vals))))) := by
  refine Pure.run mixed c_spec_l4Checks_ok (Nat.le_of_ble_eq_true rfl) fun σ hS hA => ?_
  clear hS hA
  repeat' first|(apply yA;exact rfl)|apply yB|apply yC|((first|apply yD|apply yE);(first|exact yF|assumption);iterate 6 exact rfl)|((first|apply yG|apply yH|apply yI);exact rfl;(first|exact yJ|exact yK rfl rfl|exact yL rfl|exact yM rfl|exact rfl|exact aL rfl rfl rfl rfl rfl|exact aS rfl rfl rfl rfl rfl rfl rfl))|((first|apply yN|apply yO|apply yP);exact rfl)|(exfalso;omega)|(((first|apply yT|apply yU|apply yV|apply yW);exact rfl;(first|exact .d|exact .e|exact .n|((fail_if_success exact bqt);(fail_if_success exact bqf);exact .b)))<;>intro _)
  refine Go.keep [1, 2, 5] (Go.loops (I := fun m fr τ => ∃ (i : Nat) (k : Int), m = t.checks.length - i ∧ i ≤ t.checks.length ∧ k = i ∧ t.checks.any (checkBad vals) = (t.checks.drop i).any (checkBad vals) ∧
    fr = [(1, .c (.fz (vals.map encV))), (2, .c (.fp (encTable t))), (5, .c (.int .i64 k))] ∧ τ = E σ []) ?_ _ _ _ ⟨0, _, rfl, Nat.zero_le _, rfl, rfl, rfl, rfl⟩)
  rintro m fr τ ⟨i, k, rfl, hi, hk, hs, rfl, rfl⟩ hrec
  by_cases hlt : i < t.checks.length
  · have hex := hx _ (List.getElem_mem hlt)
    have c1 := l2Truth_ok t.checks[i].expr vals hv hex
    have hTT : truthI t.checks[i].expr vals = truthR t.checks[i].expr vals := by rw [truthI, evalOk, hv, hex]; rfl
    rw [List.drop_eq_getElem_cons hlt, List.any_cons, checkBad, hTT] at hs
    generalize truthR t.checks[i].expr vals = T at c1 hs
    by_cases h1 : T < 1
    · rw [decide_eq_true h1, Bool.true_or] at hs
      repeat' first|(apply yA;exact rfl)|apply yB|apply yC|((first|apply yD|apply yE);(first|exact yF|assumption);iterate 6 exact rfl)|((first|apply yG|apply yH|apply yI);exact rfl;(first|exact yJ|exact yK rfl rfl|exact yL rfl|exact yM rfl|exact rfl|exact aL rfl rfl rfl rfl rfl|exact aS rfl rfl rfl rfl rfl rfl rfl|exact yX (enc := encChk) rfl rfl hk hlt rfl))|((first|apply yN|apply yO|apply yP);exact rfl)|((first|apply yQ|apply yR|apply yS);(iterate 3 exact rfl);exact c1)|(exfalso;omega)|(((first|apply yT|apply yU|apply yV|apply yW);exact rfl;(first|exact .d|exact .e|exact .n|((fail_if_success exact bqt);(fail_if_success exact bqf);exact .b)))<;>intro _)
      all_goals first
        | exact .ret rfl (.bool (by rw [hs]; rfl))
        | (exfalso; omega)
    · rw [decide_eq_false h1, Bool.false_or] at hs
      repeat' first|(apply yA;exact rfl)|apply yB|apply yC|((first|apply yD|apply yE);(first|exact yF|assumption);iterate 6 exact rfl)|((first|apply yG|apply yH|apply yI);exact rfl;(first|exact yJ|exact yK rfl rfl|exact yL rfl|exact yM rfl|exact rfl|exact aL rfl rfl rfl rfl rfl|exact aS rfl rfl rfl rfl rfl rfl rfl|exact yX (enc := encChk) rfl rfl hk hlt rfl))|((first|apply yN|apply yO|apply yP);exact rfl)|((first|apply yQ|apply yR|apply yS);(iterate 3 exact rfl);exact c1)|(exfalso;omega)|(((first|apply yT|apply yU|apply yV|apply yW);exact rfl;(first|exact .d|exact .e|exact .n|((fail_if_success exact bqt);(fail_if_success exact bqf);exact .b)))<;>intro _)
      all_goals first
        | exact Go.keep [1, 2, 5] (hrec _ _ _ (by omega) ⟨i + 1, _, rfl, hlt, wrap_succ hk (by omega), hs, rfl, rfl⟩)
        | (exfalso; omega)
  · repeat' first|(apply yA;exact rfl)|apply yB|apply yC|((first|apply yD|apply yE);(first|exact yF|assumption);iterate 6 exact rfl)|((first|apply yG|apply yH|apply yI);exact rfl;(first|exact yJ|exact yK rfl rfl|exact yL rfl|exact yM rfl|exact rfl|exact aL rfl rfl rfl rfl rfl|exact aS rfl rfl rfl rfl rfl rfl rfl))|((first|apply yN|apply yO|apply yP);exact rfl)|(exfalso;omega)|(((first|apply yT|apply yU|apply yV|apply yW);exact rfl;(first|exact .d|exact .e|exact .n|((fail_if_success exact bqt);(fail_if_success exact bqf);exact .b)))<;>intro _)
    rw [List.drop_eq_nil_of_le (by omega), List.any_nil] at hs
    exact .ret rfl (.bool (by rw [hs]; rfl))
end Go.Proofs.YteafjabcpmpmgaaGreat.Am

/- Rivals: rows with the same key. -/
set_option linter.unusedVariables false
set_option linter.unusedSimpArgs false
namespace Go.Proofs.YteafjabcpmpmgaaGreat.Am

theorem frz_old {σ : Store} {l : List (Nat × List (List Ce))} {k v N : Nat} {ys junk : List (List Ce)} (hl : l[k]? = some (v, ys ++ junk)) (ho : ∀ e ∈ ys, ∀ x ∈ e, Old N x) (hN : N ≤ σ.next + k) : FrzV (E σ l) N (.c (vec (σ.next + k) v ys junk)) (.c (.fz ys)) := by
  refine .c (.sl _ _ _ _ _ (ys ++ junk) ys hN (by rw [E_at]; exact hl) (by simp) rfl (fun i hi => ?_) (fun i j hi hj => ?_))
  · simp only [Nat.zero_add]
    rw [List.getElem_append_left hi]
  · have e : (ys ++ junk)[0 + i]'(by simp; omega) = ys[i] := by
      simp only [Nat.zero_add]
      rw [List.getElem_append_left hi]
    simp only [e]
    exact .same _ (ho _ (List.getElem_mem _) _ (List.getElem_mem hj))
def keysOf (t : Table) : List (List Int) := t.key :: t.uniques.map (·.cols)
def twiceF (rows : List RowD) (r : RowD) (cols : List Int) : Bool := wholeF cols r.vals && (foundF rows cols (keyF cols r.vals)).any fun id => !(id == r.id)
theorem l5Twice_ok (d : Data) (cols : List Int) (r : RowD) (hr : d.rows.length ≤ 1048576) (hx : cols.length ≤ 34359738368) (hv : InR cols r.vals.length) (hi : ∀ q ∈ d.rows, InR cols q.vals.length) : Pure Tryz.prog 339 [.agg (encData d), .c (.fz (cols.map encI)), .agg (encRowD r)] (.c (.bool (twiceF d.rows r cols))) := by
  refine Pure.run mixed c_spec_l5Twice_ok (Nat.le_of_ble_eq_true rfl) fun σ hS hA => ?_
  clear hS hA
  have c1 := l4Key_ok cols r.vals hx hv
  have c2 := l4Find_ok d cols (keyF cols r.vals) hr hx hi
  have hl := foundF_len (rows := d.rows) (cols := cols) (key := keyF cols r.vals)
  rw [twiceF]
  generalize foundF d.rows cols (keyF cols r.vals) = ids at c2 hl ⊢
  generalize keyF cols r.vals = ks at c1 c2
  cases hw : wholeF cols r.vals
  · rw [hw] at c1
    repeat' first|(apply yA;exact rfl)|apply yB|apply yC|((first|apply yD|apply yE);(first|exact yF|assumption);iterate 6 exact rfl)|((first|apply yG|apply yH|apply yI);exact rfl;(first|exact yJ|exact yK rfl rfl|exact yL rfl|exact yM rfl|exact rfl|exact aL rfl rfl rfl rfl rfl|exact aS rfl rfl rfl rfl rfl rfl rfl))|((first|apply yN|apply yO|apply yP);exact rfl)|((first|apply yQ|apply yR|apply yS);(iterate 3 exact rfl);exact c1)|(exfalso;omega)|(((first|apply yT|apply yU|apply yV|apply yW);exact rfl;(first|exact .d|exact .e|exact .n|((fail_if_success exact bqt);(fail_if_success exact bqf);exact .b)))<;>intro _)
    exact .ret rfl (.bool rfl)
  rw [hw] at c1
  rw [Bool.true_and]
  repeat' first|(apply yA;exact rfl)|apply yB|apply yC|((first|apply yD|apply yE);(first|exact yF|assumption);iterate 6 exact rfl)|((first|apply yG|apply yH|apply yI);exact rfl;(first|exact yJ|exact yK rfl rfl|exact yL rfl|exact yM rfl|exact rfl|exact aL rfl rfl rfl rfl rfl|exact aS rfl rfl rfl rfl rfl rfl rfl))|((first|apply yN|apply yO|apply yP);exact rfl)|((first|apply yQ|apply yR|apply yS);(iterate 3 exact rfl);(first|exact c1|exact c2))|(exfalso;omega)|(((first|apply yT|apply yU|apply yV|apply yW);exact rfl;(first|exact .d|exact .e|exact .n|((fail_if_success exact bqt);(fail_if_success exact bqf);exact .b)))<;>intro _)
  refine Go.keep [5, 9, 10] (Go.loops (I := fun m fr τ => ∃ (i : Nat) (k : Int), m = ids.length - i ∧ i ≤ ids.length ∧ k = i ∧ (ids.any fun id => !(id == r.id)) = ((ids.drop i).any fun id => !(id == r.id)) ∧
    fr = [(5, .c (.fp (encRowD r))), (9, .c (.fz (ids.map encI))), (10, .c (.int .i64 k))] ∧ τ = E σ []) ?_ _ _ _ ⟨0, _, rfl, Nat.zero_le _, rfl, rfl, rfl, rfl⟩)
  rintro m fr τ ⟨i, k, rfl, hile, hk, hs, rfl, rfl⟩ hrec
  by_cases hlt : i < ids.length
  · rw [List.drop_eq_getElem_cons hlt, List.any_cons] at hs
    by_cases h0 : ids[i] = r.id
    · rw [beq_iff_eq.2 h0, Bool.not_true, Bool.false_or] at hs
      repeat' first|(apply yA;exact rfl)|apply yB|apply yC|((first|apply yD|apply yE);(first|exact yF|assumption);iterate 6 exact rfl)|((first|apply yG|apply yH|apply yI);exact rfl;(first|exact yJ|exact yK rfl rfl|exact yL rfl|exact yM rfl|exact rfl|exact aL rfl rfl rfl rfl rfl|exact aS rfl rfl rfl rfl rfl rfl rfl|exact yX (enc := encI) rfl rfl hk hlt rfl))|((first|apply yN|apply yO|apply yP);exact rfl)|(exfalso;omega)|(((first|apply yT|apply yU|apply yV|apply yW);exact rfl;(first|exact .d|exact .e|exact .n|((fail_if_success exact bqt);(fail_if_success exact bqf);exact .b)))<;>intro _)
      all_goals first
        | exact Go.keep [5, 9, 10] (hrec _ _ _ (by omega) ⟨i + 1, _, rfl, hlt, wrap_succ hk (by omega), hs, rfl, rfl⟩)
        | (exfalso; simp_all; done)
    · rw [beq_eq_false_iff_ne.2 h0, Bool.not_false, Bool.true_or] at hs
      repeat' first|(apply yA;exact rfl)|apply yB|apply yC|((first|apply yD|apply yE);(first|exact yF|assumption);iterate 6 exact rfl)|((first|apply yG|apply yH|apply yI);exact rfl;(first|exact yJ|exact yK rfl rfl|exact yL rfl|exact yM rfl|exact rfl|exact aL rfl rfl rfl rfl rfl|exact aS rfl rfl rfl rfl rfl rfl rfl|exact yX (enc := encI) rfl rfl hk hlt rfl))|((first|apply yN|apply yO|apply yP);exact rfl)|(exfalso;omega)|(((first|apply yT|apply yU|apply yV|apply yW);exact rfl;(first|exact .d|exact .e|exact .n|((fail_if_success exact bqt);(fail_if_success exact bqf);exact .b)))<;>intro _)
      all_goals first
        | exact .ret rfl (.bool hs.symm)
        | (exfalso; simp_all; done)
  · repeat' first|(apply yA;exact rfl)|apply yB|apply yC|((first|apply yD|apply yE);(first|exact yF|assumption);iterate 6 exact rfl)|((first|apply yG|apply yH|apply yI);exact rfl;(first|exact yJ|exact yK rfl rfl|exact yL rfl|exact yM rfl|exact rfl|exact aL rfl rfl rfl rfl rfl|exact aS rfl rfl rfl rfl rfl rfl rfl))|((first|apply yN|apply yO|apply yP);exact rfl)|(exfalso;omega)|(((first|apply yT|apply yU|apply yV|apply yW);exact rfl;(first|exact .d|exact .e|exact .n|((fail_if_success exact bqt);(fail_if_success exact bqf);exact .b)))<;>intro _)
    rw [List.drop_eq_nil_of_le (by omega), List.any_nil] at hs
    exact .ret rfl (.bool hs.symm)
theorem l5Unique_ok (t : Table) (d : Data) (r : RowD) (hr : d.rows.length ≤ 1048576) (hu : t.uniques.length ≤ 3) (hx : ∀ k ∈ keysOf t, k.length ≤ 34359738368) (hv : ∀ k ∈ keysOf t, InR k r.vals.length) (hi : ∀ k ∈ keysOf t, ∀ r ∈ d.rows, InR k r.vals.length) :
    Pure Tryz.prog 334 [.agg (encTable t), .agg (encData d), .agg (encRowD r)] (.c (.bool (!((keysOf t).any (twiceF d.rows r))))) := by
  refine Pure.run mixed c_spec_l5Unique_ok (Nat.le_of_ble_eq_true rfl) fun σ hS hA => ?_
  clear hS hA
  have hk0 : t.key ∈ keysOf t := by simp [keysOf]
  have c1 := l5Twice_ok d t.key r hr (hx _ hk0) (hv _ hk0) (hi _ hk0)
  rw [keysOf, List.any_cons, List.any_map]
  cases hb : twiceF d.rows r t.key
  · rw [hb] at c1
    rw [Bool.false_or]
    repeat' first|(apply yA;exact rfl)|apply yB|apply yC|((first|apply yD|apply yE);(first|exact yF|assumption);iterate 6 exact rfl)|((first|apply yG|apply yH|apply yI);exact rfl;(first|exact yJ|exact yK rfl rfl|exact yL rfl|exact yM rfl|exact rfl|exact aL rfl rfl rfl rfl rfl|exact aS rfl rfl rfl rfl rfl rfl rfl))|((first|apply yN|apply yO|apply yP);exact rfl)|((first|apply yQ|apply yR|apply yS);(iterate 3 exact rfl);exact c1)|(exfalso;omega)|(((first|apply yT|apply yU|apply yV|apply yW);exact rfl;(first|exact .d|exact .e|exact .n|((fail_if_success exact bqt);(fail_if_success exact bqf);exact .b)))<;>intro _)
    refine Go.keep [3, 4, 5, 7] (Go.loops (I := fun m fr τ => ∃ (i : Nat) (k : Int), m = t.uniques.length - i ∧ i ≤ t.uniques.length ∧ k = i ∧ (t.uniques.any (twiceF d.rows r ∘ (·.cols))) = ((t.uniques.drop i).any (twiceF d.rows r ∘ (·.cols))) ∧
      fr = [(3, .c (.fp (encTable t))), (4, .c (.fp (encData d))), (5, .c (.fp (encRowD r))), (7, .c (.int .i64 k))] ∧ τ = E σ []) ?_ _ _ _ ⟨0, _, rfl, Nat.zero_le _, rfl, rfl, rfl, rfl⟩)
    rintro m fr τ ⟨i, k, rfl, hile, hk, hs, rfl, rfl⟩ hrec
    by_cases hlt : i < t.uniques.length
    · have hki : t.uniques[i].cols ∈ keysOf t := by rw [keysOf]; exact List.mem_cons_of_mem _ (List.mem_map.2 ⟨_, List.getElem_mem hlt, rfl⟩)
      have c2 := l5Twice_ok d t.uniques[i].cols r hr (hx _ hki) (hv _ hki) (hi _ hki)
      rw [List.drop_eq_getElem_cons hlt, List.any_cons, Function.comp_apply] at hs
      cases hq : twiceF d.rows r t.uniques[i].cols
      · rw [hq] at c2 hs
        rw [Bool.false_or] at hs
        repeat' first|(apply yA;exact rfl)|apply yB|apply yC|((first|apply yD|apply yE);(first|exact yF|assumption);iterate 6 exact rfl)|((first|apply yG|apply yH|apply yI);exact rfl;(first|exact yJ|exact yK rfl rfl|exact yL rfl|exact yM rfl|exact rfl|exact aL rfl rfl rfl rfl rfl|exact aS rfl rfl rfl rfl rfl rfl rfl|exact yX (enc := encUniq) rfl rfl hk hlt rfl))|((first|apply yN|apply yO|apply yP);exact rfl)|((first|apply yQ|apply yR|apply yS);(iterate 3 exact rfl);exact c2)|(exfalso;omega)|(((first|apply yT|apply yU|apply yV|apply yW);exact rfl;(first|exact .d|exact .e|exact .n|((fail_if_success exact bqt);(fail_if_success exact bqf);exact .b)))<;>intro _)
        exact Go.keep [3, 4, 5, 7] (hrec _ _ _ (by omega) ⟨i + 1, _, rfl, hlt, wrap_succ hk (by omega), hs, rfl, rfl⟩)
      · rw [hq] at c2 hs
        rw [Bool.true_or] at hs
        repeat' first|(apply yA;exact rfl)|apply yB|apply yC|((first|apply yD|apply yE);(first|exact yF|assumption);iterate 6 exact rfl)|((first|apply yG|apply yH|apply yI);exact rfl;(first|exact yJ|exact yK rfl rfl|exact yL rfl|exact yM rfl|exact rfl|exact aL rfl rfl rfl rfl rfl|exact aS rfl rfl rfl rfl rfl rfl rfl|exact yX (enc := encUniq) rfl rfl hk hlt rfl))|((first|apply yN|apply yO|apply yP);exact rfl)|((first|apply yQ|apply yR|apply yS);(iterate 3 exact rfl);exact c2)|(exfalso;omega)|(((first|apply yT|apply yU|apply yV|apply yW);exact rfl;(first|exact .d|exact .e|exact .n|((fail_if_success exact bqt);(fail_if_success exact bqf);exact .b)))<;>intro _)
        exact .ret rfl (.bool (by rw [hs]; rfl))
    · repeat' first|(apply yA;exact rfl)|apply yB|apply yC|((first|apply yD|apply yE);(first|exact yF|assumption);iterate 6 exact rfl)|((first|apply yG|apply yH|apply yI);exact rfl;(first|exact yJ|exact yK rfl rfl|exact yL rfl|exact yM rfl|exact rfl|exact aL rfl rfl rfl rfl rfl|exact aS rfl rfl rfl rfl rfl rfl rfl))|((first|apply yN|apply yO|apply yP);exact rfl)|(exfalso;omega)|(((first|apply yT|apply yU|apply yV|apply yW);exact rfl;(first|exact .d|exact .e|exact .n|((fail_if_success exact bqt);(fail_if_success exact bqf);exact .b)))<;>intro _)
      rw [List.drop_eq_nil_of_le (by omega), List.any_nil] at hs
      exact .ret rfl (.bool (by rw [hs]; rfl))
  · rw [hb] at c1
    repeat' first|(apply yA;exact rfl)|apply yB|apply yC|((first|apply yD|apply yE);(first|exact yF|assumption);iterate 6 exact rfl)|((first|apply yG|apply yH|apply yI);exact rfl;(first|exact yJ|exact yK rfl rfl|exact yL rfl|exact yM rfl|exact rfl|exact aL rfl rfl rfl rfl rfl|exact aS rfl rfl rfl rfl rfl rfl rfl))|((first|apply yN|apply yO|apply yP);exact rfl)|((first|apply yQ|apply yR|apply yS);(iterate 3 exact rfl);exact c1)|(exfalso;omega)|(((first|apply yT|apply yU|apply yV|apply yW);exact rfl;(first|exact .d|exact .e|exact .n|((fail_if_success exact bqt);(fail_if_success exact bqf);exact .b)))<;>intro _)
    exact .ret rfl (.bool rfl)
end Go.Proofs.YteafjabcpmpmgaaGreat.Am

/- References that lead nowhere. -/
set_option linter.unusedVariables false
set_option linter.unusedSimpArgs false
namespace Go.Proofs.YteafjabcpmpmgaaGreat.Am

def refAt (s : List Table) (f : Fk) : Int := idxA (fun u : Table => u.name == f.table) s 0
def keyAt (s : List Table) (n : Int) : List Int := match s[n.toNat]? with | some u => u.key | none => []
def lostF (s : List Table) (db : List Data) (f : Fk) (vals : List Val) : Bool := wholeF f.cols vals && (((foundF (rowsAt db (refAt s f)) (keyAt s (refAt s f)) (keyF f.cols vals)).length : Int) == 0)
structure FkR (s : List Table) (db : List Data) (vals : List Val) (f : Fk) (n : Nat) : Prop where
  lt : n < s.length
  lt2 : n < db.length
  idx : refAt s f = (n : Int)
  rows : db[n].rows.length ≤ 1048576
  key : s[n].key.length ≤ 34359738368
  cols : f.cols.length ≤ 34359738368
  own : InR f.cols vals.length
  far : ∀ r ∈ db[n].rows, InR s[n].key r.vals.length
theorem FkR.val {s : List Table} {db : List Data} {vals : List Val} {f : Fk} {n : Nat} (h : FkR s db vals f n) : lostF s db f vals = (wholeF f.cols vals && (((foundF (db[n]'h.lt2).rows (s[n]'h.lt).key (keyF f.cols vals)).length : Int) == 0)) := by
  rw [lostF, h.idx, rowsAt, keyAt, Int.toNat_natCast, List.getElem?_eq_getElem h.lt, List.getElem?_eq_getElem h.lt2]
theorem l5Parent_ok (s : List Table) (db : List Data) (f : Fk) (vals : List Val) (n : Nat) (hs : s.length ≤ 34359738368) (h : FkR s db vals f n) : Pure Tryz.prog 332 [.c (.fz (s.map encTable)), .c (.fz (db.map encData)), .agg (encFk f), .c (.fz (vals.map encV))] (.c (.bool (!lostF s db f vals))) := by
  refine Pure.run mixed c_spec_l5Parent_ok (Nat.le_of_ble_eq_true rfl) fun σ hS hA => ?_
  clear hS hA
  have c1 := l3At_ok s f.table hs
  have hidx : idxA (fun u : Table => u.name == f.table) s 0 = (n : Int) := h.idx
  rw [hidx] at c1
  have c2 := l4Key_ok f.cols vals h.cols h.own
  have hlt := h.lt
  have hlt2 := h.lt2
  have c3 := l4Find_ok db[n] s[n].key (keyF f.cols vals) h.rows h.key h.far
  rw [h.val]
  generalize foundF db[n].rows s[n].key (keyF f.cols vals) = ids at c3 ⊢
  generalize keyF f.cols vals = ks at c2 c3
  cases hw : wholeF f.cols vals
  · rw [hw] at c2
    repeat' first|(apply yA;exact rfl)|apply yB|apply yC|((first|apply yD|apply yE);(first|exact yF|assumption);iterate 6 exact rfl)|((first|apply yG|apply yH|apply yI);exact rfl;(first|exact yJ|exact yK rfl rfl|exact yL rfl|exact yM rfl|exact rfl|exact aL rfl rfl rfl rfl rfl|exact aS rfl rfl rfl rfl rfl rfl rfl))|((first|apply yN|apply yO|apply yP);exact rfl)|((first|apply yQ|apply yR|apply yS);(iterate 3 exact rfl);(first|exact c1|exact c2))|(exfalso;omega)|(((first|apply yT|apply yU|apply yV|apply yW);exact rfl;(first|exact .d|exact .e|exact .n|((fail_if_success exact bqt);(fail_if_success exact bqf);exact .b)))<;>intro _)
    exact .ret rfl (.bool rfl)
  · rw [hw] at c2
    repeat' first|(apply yA;exact rfl)|apply yB|apply yC|((first|apply yD|apply yE);(first|exact yF|assumption);iterate 6 exact rfl)|((first|apply yG|apply yH|apply yI);exact rfl;(first|exact yJ|exact yK rfl rfl|exact yL rfl|exact yM rfl|exact rfl|exact aL rfl rfl rfl rfl rfl|exact aS rfl rfl rfl rfl rfl rfl rfl|exact yX (enc := encTable) rfl rfl rfl hlt rfl|exact yX (enc := encData) rfl rfl rfl hlt2 rfl))|((first|apply yN|apply yO|apply yP);exact rfl)|((first|apply yQ|apply yR|apply yS);(iterate 3 exact rfl);(first|exact c1|exact c2|exact c3))|(exfalso;omega)|(((first|apply yT|apply yU|apply yV|apply yW);exact rfl;(first|exact .d|exact .e|exact .n|((fail_if_success exact bqt);(fail_if_success exact bqf);exact .b)))<;>intro _)
    refine .ret rfl (.bool ?_)
    rw [Bool.true_and]
    by_cases h0 : (ids.length : Int) = 0
    · rw [beq_iff_eq.2 h0]
      exact decide_eq_false (by omega)
    · rw [beq_eq_false_iff_ne.2 h0]
      exact decide_eq_true (by omega)
def lostBad (s : List Table) (db : List Data) (df : Bool) (vals : List Val) (f : Fk) : Bool := (df || !f.deferred) && lostF s db f vals
theorem l5Refers_ok (s : List Table) (db : List Data) (q : Int) (m : Nat) (vals : List Val) (now : Bool) (hs : s.length ≤ 34359738368) (hq : q = (m : Int)) (hm : m < s.length) (hn : s[m].fks.length ≤ 3) (h : ∀ f ∈ s[m].fks, ∃ n, FkR s db vals f n) : Pure Tryz.prog 317 [.c (.fz (s.map encTable)), .c (.fz (db.map encData)), .c (.int .i64 q), .c (.fz (vals.map encV)), .c (.bool now)] (.c (.bool (!(s[m].fks.any (lostBad s db (!now) vals))))) := by
  refine Pure.run mixed c_spec_l5Refers_ok (Nat.le_of_ble_eq_true rfl) fun σ hS hA => ?_
  clear hS hA
  repeat' first|(apply yA;exact rfl)|apply yB|apply yC|((first|apply yD|apply yE);(first|exact yF|assumption);iterate 6 exact rfl)|((first|apply yG|apply yH|apply yI);exact rfl;(first|exact yJ|exact yK rfl rfl|exact yL rfl|exact yM rfl|exact rfl|exact aL rfl rfl rfl rfl rfl|exact aS rfl rfl rfl rfl rfl rfl rfl))|((first|apply yN|apply yO|apply yP);exact rfl)|(exfalso;omega)|(((first|apply yT|apply yU|apply yV|apply yW);exact rfl;(first|exact .d|exact .e|exact .n|((fail_if_success exact bqt);(fail_if_success exact bqf);exact .b)))<;>intro _)
  refine Go.keep [0, 1, 2, 3, 4, 11] (Go.loops (I := fun mm fr τ => ∃ (i : Nat) (k : Int), mm = s[m].fks.length - i ∧ i ≤ s[m].fks.length ∧ k = i ∧ s[m].fks.any (lostBad s db (!now) vals) = (s[m].fks.drop i).any (lostBad s db (!now) vals) ∧
    fr = [(0, .c (.fz (s.map encTable))), (1, .c (.fz (db.map encData))), (2, .c (.int .i64 q)), (3, .c (.fz (vals.map encV))), (4, .c (.bool now)), (11, .c (.int .i64 k))] ∧ τ = E σ []) ?_ _ _ _ ⟨0, _, rfl, Nat.zero_le _, rfl, rfl, rfl, rfl⟩)
  rintro mm fr τ ⟨i, k, rfl, hi, hk, hsq, rfl, rfl⟩ hrec
  by_cases hlt : i < s[m].fks.length
  · obtain ⟨n, hr⟩ := h _ (List.getElem_mem hlt)
    have c1 := l5Parent_ok s db s[m].fks[i] vals n hs hr
    rw [List.drop_eq_getElem_cons hlt, List.any_cons, lostBad] at hsq
    generalize lostF s db s[m].fks[i] vals = b at c1 hsq
    have skip : (s[m].fks.any (lostBad s db (!now) vals) = (s[m].fks.drop (i + 1)).any (lostBad s db (!now) vals)) → ∀ fr τ, fr = [(0, AV.c (.fz (s.map encTable))), (1, .c (.fz (db.map encData))), (2, .c (.int .i64 q)), (3, .c (.fz (vals.map encV))), (4, .c (.bool now)), (11, .c (.int .i64 (IntKind.i64.wrap (k + 1))))] → τ = E σ [] → _ := fun e fr τ h1 h2 => hrec (s[m].fks.length - (i + 1)) fr τ (by omega) ⟨i + 1, _, rfl, hlt, wrap_succ hk (by omega), e, h1, h2⟩
    clear hrec
    cases now <;> cases hd : s[m].fks[i].deferred <;> cases b
    all_goals
      repeat' first|(apply yA;exact rfl)|apply yB|apply yC|((first|apply yD|apply yE);(first|exact yF|assumption);iterate 6 exact rfl)|((first|apply yG|apply yH|apply yI);exact rfl;(first|exact yJ|exact yK rfl rfl|exact yL rfl|exact yM rfl|exact rfl|exact aL rfl rfl rfl rfl rfl|exact aS rfl rfl rfl rfl rfl rfl rfl|exact yX (enc := encTable) rfl rfl hq hm rfl|exact yX (enc := encFk) rfl rfl hk hlt rfl))|((first|apply yN|apply yO|apply yP);exact rfl)|((first|apply yQ|apply yR|apply yS);(iterate 3 exact rfl);exact c1)|(exfalso;omega)|(((first|apply yT|apply yU|apply yV|apply yW);exact rfl;(first|exact .d|exact .e|exact .n|((fail_if_success exact bqt);(fail_if_success exact bqf);exact .b)))<;>intro _)
      all_goals first
        | (refine Go.keep [0, 1, 2, 3, 4, 11] (skip ?_ _ _ rfl rfl); simp_all; done)
        | (refine .ret rfl (.bool ?_); simp_all; done)
        | (exfalso; simp_all; done)
  · repeat' first|(apply yA;exact rfl)|apply yB|apply yC|((first|apply yD|apply yE);(first|exact yF|assumption);iterate 6 exact rfl)|((first|apply yG|apply yH|apply yI);exact rfl;(first|exact yJ|exact yK rfl rfl|exact yL rfl|exact yM rfl|exact rfl|exact aL rfl rfl rfl rfl rfl|exact aS rfl rfl rfl rfl rfl rfl rfl|exact yX (enc := encTable) rfl rfl hq hm rfl))|((first|apply yN|apply yO|apply yP);exact rfl)|(exfalso;omega)|(((first|apply yT|apply yU|apply yV|apply yW);exact rfl;(first|exact .d|exact .e|exact .n|((fail_if_success exact bqt);(fail_if_success exact bqf);exact .b)))<;>intro _)
    rw [List.drop_eq_nil_of_le (by omega), List.any_nil] at hsq
    exact .ret rfl (.bool (by rw [hsq]; rfl))
end Go.Proofs.YteafjabcpmpmgaaGreat.Am

/- Flaws: what is true of the rows of a database. -/
set_option linter.unusedVariables false
set_option linter.unusedSimpArgs false
namespace Go.Proofs.YteafjabcpmpmgaaGreat.Am

structure RowR (s : List Table) (db : List Data) (t : Table) (r : RowD) : Prop where
  len : r.vals.length = t.cols.length
  are : areVals r.vals 16 = true
  fks : ∀ f ∈ t.fks, ∃ n, FkR s db r.vals f n
structure TabR (s : List Table) (db : List Data) (t : Table) (d : Data) : Prop where
  tab : TabOk t
  rows : d.rows.length ≤ 60
  row : ∀ r ∈ d.rows, RowR s db t r
  keys : ∀ k ∈ keysOf t, k.length ≤ 34359738368
  inr : ∀ k ∈ keysOf t, InR k t.cols.length
  chk : ∀ c ∈ t.checks, c.expr.length ≤ 34359738368
theorem db_tab {s : List Table} {db : List Data} (h : dbF s db = true) (hb : ∀ t ∈ s, bTable 34359738368 t) {i : Nat} (hi : i < s.length) (hi2 : i < db.length) : TabR s db s[i] db[i] := by
  obtain ⟨hs, hl, hrows⟩ := dbF_at h
  have hT := schemaF_tab hs
  have hrow := rowsF_mem (hrows i hi hi2)
  have hti := hT _ (List.getElem_mem hi)
  have hbi := hb _ (List.getElem_mem hi)
  have hkey : ∀ k ∈ keysOf s[i], k.length ≤ 34359738368 ∧ InR k s[i].cols.length := fun k hk => by
    rw [keysOf] at hk
    rcases List.mem_cons.1 hk with rfl | hk
    · exact ⟨hbi.2.2.1, hti.key⟩
    · obtain ⟨u, hu, rfl⟩ := List.mem_map.1 hk
      exact ⟨hbi.2.2.2.1.2 u hu, hti.uniq u hu⟩
  refine ⟨hti, hrow.1, fun r hr => ?_, fun k hk => (hkey k hk).1, fun k hk => (hkey k hk).2, fun c hc => (hbi.2.2.2.2.1.2 c hc).1⟩
  have hfit := (hrow.2 r hr).1
  refine ⟨(fitF_vals hfit).1, fitF_are hfit hti.cols8, fun f hf => ?_⟩
  have hmet : metF s s[i] f = true := by
    simp only [schemaF, Bool.and_eq_true, Bool.not_eq_true', List.any_eq_false, Bool.not_eq_true, Bool.not_eq_false'] at hs
    simpa using hs.2.2 _ (List.getElem_mem hi) f hf
  simp only [metF, Bool.and_eq_true] at hmet
  rcases idxA_at (p := fun u : Table => u.name == f.table) (l := s) (i := 0) (Int.le_refl _) with hx | ⟨n, hn, hx, hp⟩
  · exfalso
    have := any_idx (p := fun u : Table => u.name == f.table) (l := s)
    rw [hx, hmet.1] at this
    exact absurd this (by decide)
  · have hn2 : n < db.length := by omega
    have htn := hT _ (List.getElem_mem hn)
    have hrn := rowsF_mem (hrows n hn hn2)
    exact ⟨n, hn, hn2, by rw [refAt, hx]; omega, by omega, (hb _ (List.getElem_mem hn)).2.2.1, (hbi.2.2.2.2.2.2 f hf).1, by rw [(fitF_vals hfit).1]; exact hti.fk f hf, fun q hq => by rw [(fitF_vals (hrn.2 q hq).1).1]; exact htn.key⟩
end Go.Proofs.YteafjabcpmpmgaaGreat.Am

/- Joined lines: rooms made, slices joined. -/
set_option linter.unusedVariables false
set_option linter.unusedSimpArgs false
namespace Go.Proofs.YteafjabcpmpmgaaGreat.Am

theorem aop_appz {fr : Fr} {σ : Store} {l : List (Nat × List (List Ce))} {s bytes n : Nat} {z : List Ce} {q : Int} {x y : Opd} (hx : x.ev fr = some (.c .nils)) (hy : y.ev fr = some (.c (.int .i64 q))) (hq : q = (n : Int)) (h0 : 0 < n) (hb : n * bytes ≤ 140737488355328) :
    aop (.appz s bytes z x y) fr (E σ l) = some (.c (vec (σ.next + l.length) 0 (List.replicate n z) []), E σ (l ++ [(0, List.replicate n z ++ [])])) := by
  subst hq
  have h1 : (0 : Int) < n := by omega
  simp [aop, hx, hy, h0, hb, vec, E_next, E_new]
theorem Jk.rep {s n : Nat} {z : List Ce} (h : z.length = s ∧ ∀ x ∈ z, Flat x) : Jk s (List.replicate n z) := fun e he => by rw [List.eq_of_mem_replicate he]; exact h
theorem growVals_ok (q : Int) (n : Nat) (hq : q = (n : Int)) (h0 : 0 < n) (hn : n ≤ 1099511627776) (σ : Store) : Ok Tryz.prog 217 [.c .nils, .c (.int .i64 q)] σ (fun r τ => ∃ junk, Jk 3 junk ∧ r = .c (vec (σ.next + 0) 0 [] junk) ∧ τ = E σ [(0, [] ++ junk)]) := by
  refine Ok.run mixed c_slices_Grow_Val_ok (Nat.le_of_ble_eq_true rfl) fun hS hA => ?_
  clear hS hA
  have hw : IntKind.i64.wrap (q - 0) = q := by rw [Int.sub_zero]; exact wrap64 (by omega) (by omega)
  have hw0 : IntKind.i64.wrap (0 - 0) = 0 := rfl
  have hq2 : IntKind.i64.wrap (q - IntKind.i64.wrap (0 - 0)) = (n : Int) := by rw [hw0, hw, hq]
  have hq0 : 0 < IntKind.i64.wrap (q - IntKind.i64.wrap (0 - 0)) := by omega
  have hqn : ¬ q < 0 := by omega
  have hz3 : ∀ e ∈ List.replicate n [Ce.int .i64 0, .int .i64 0, .str []] ++ [], e.length = 3 := fun e he => by rw [List.append_nil] at he; rw [List.eq_of_mem_replicate he]; rfl
  repeat' first|(apply yA;exact rfl)|apply yB|apply yC|((first|apply yD|apply yE);(first|exact yF|assumption);iterate 6 exact rfl)|((first|apply yG|apply yH|apply yI);exact rfl;(first|exact yJ|exact yK rfl rfl|exact yL rfl|exact yM rfl|exact rfl|exact aL rfl rfl rfl rfl rfl|exact aS rfl rfl rfl rfl rfl rfl rfl|exact aop_appz rfl rfl hq2 h0 (by omega)|exact aop_take (k := 0) (v := 0) (n := 0) rfl rfl rfl (Nat.zero_le _) rfl hz3))|((first|apply yN|apply yO|apply yP);exact rfl)|(exfalso;omega)|(((first|apply yT|apply yU|apply yV|apply yW);exact rfl;(first|exact .d|exact .e|exact .n|((fail_if_success exact bqt);(fail_if_success exact bqf);exact .b)))<;>intro _)
  exact .ret rfl ⟨_, Jk.rep (n := n) (z := [.int .i64 0, .int .i64 0, .str []]) ⟨rfl, by simp; exact ⟨.int _ _, .str _⟩⟩, by simp, by simp⟩
def encL3 (l : List Val) : List Ce := [.fz (l.map encV)]
theorem flat_take {α : Type} {ls : List (List α)} {i : Nat} (h : i < ls.length) : (ls.take (i + 1)).flatten = (ls.take i).flatten ++ ls[i] := by
  rw [List.take_succ_eq_append_getElem h, List.flatten_append]
  simp
theorem flat_take_le {α : Type} (ls : List (List α)) (i : Nat) : (ls.take i).flatten.length ≤ ls.flatten.length := by
  conv => rhs; rw [← List.take_append_drop i ls]
  rw [List.flatten_append, List.length_append]
  omega
theorem concatVals_ok (ls : List (List Val)) (h0 : 0 < ls.flatten.length) (hx : ls.length ≤ 34359738368) (hn : ls.flatten.length ≤ 34359738368) (σ : Store) : Ok Tryz.prog 130 [.c (.fz (ls.map encL3))] σ (NewV σ (.c (.fz (ls.flatten.map encV)))) := by
  refine Ok.run mixed c_slices_Concat_Val_ok (Nat.le_of_ble_eq_true rfl) fun hS hA => ?_
  clear hS hA
  repeat' first|(apply yA;exact rfl)|apply yB|apply yC|((first|apply yD|apply yE);(first|exact yF|assumption);iterate 6 exact rfl)|((first|apply yG|apply yH|apply yI);exact rfl;(first|exact yJ|exact yK rfl rfl|exact yL rfl|exact yM rfl|exact rfl|exact aL rfl rfl rfl rfl rfl|exact aS rfl rfl rfl rfl rfl rfl rfl))|((first|apply yN|apply yO|apply yP);exact rfl)|(exfalso;omega)|(((first|apply yT|apply yU|apply yV|apply yW);exact rfl;(first|exact .d|exact .e|exact .n|((fail_if_success exact bqt);(fail_if_success exact bqf);exact .b)))<;>intro _)
  refine Go.keep [0, 2, 3, 9, 10, 11] (Go.loops (I := fun m fr τ => ∃ (i : Nat) (k : Int) (q : Int), m = ls.length - i ∧ i ≤ ls.length ∧ k = i ∧ q = ((ls.take i).flatten.length : Int) ∧
    fr = [(0, .c (.fz (ls.map encL3))), (2, .c .nils), (3, .c (.int .i64 q)), (9, .c (.fz (ls.map encL3))), (10, .c (.int .i64 (ls.length : Int))), (11, .c (.int .i64 k))] ∧ τ = E σ []) ?_ _ _ _ ⟨0, _, _, rfl, Nat.zero_le _, rfl, rfl, rfl, rfl⟩)
  rintro m fr τ ⟨i, k, q, rfl, hi, hk, hqi, rfl, rfl⟩ hrec
  by_cases hlt : i < ls.length
  · have hw : IntKind.i64.wrap (q + (ls[i].length : Int)) = ((ls.take (i + 1)).flatten.length : Int) := by
      have := flat_take_le ls (i + 1)
      rw [flat_take hlt, List.length_append] at this ⊢
      rw [wrap64 (by omega) (by omega)]
      omega
    have hnn : ¬ IntKind.i64.wrap (q + (ls[i].length : Int)) < 0 := by omega
    repeat' first|(apply yA;exact rfl)|apply yB|apply yC|((first|apply yD|apply yE);(first|exact yF|assumption);iterate 6 exact rfl)|((first|apply yG|apply yH|apply yI);exact rfl;(first|exact yJ|exact yK rfl rfl|exact yL rfl|exact yM rfl|exact rfl|exact aL rfl rfl rfl rfl rfl|exact aS rfl rfl rfl rfl rfl rfl rfl|exact yX (enc := encL3) rfl rfl hk hlt rfl))|((first|apply yN|apply yO|apply yP);exact rfl)|(exfalso;omega)|(((first|apply yT|apply yU|apply yV|apply yW);exact rfl;(first|exact .d|exact .e|exact .n|((fail_if_success exact bqt);(fail_if_success exact bqf);exact .b)))<;>intro _)
    exact Go.keep [0, 2, 3, 9, 10, 11] (hrec _ _ _ (by omega) ⟨i + 1, _, _, rfl, hlt, wrap_succ hk (by omega), hw, rfl, rfl⟩)
  · have hq2 : q = (ls.flatten.length : Int) := by rw [hqi, List.take_of_length_le (by omega)]
    clear hrec
    repeat' first|(apply yA;exact rfl)|apply yB|apply yC|((first|apply yD|apply yE);(first|exact yF|assumption);iterate 6 exact rfl)|((first|apply yG|apply yH|apply yI);exact rfl;(first|exact yJ|exact yK rfl rfl|exact yL rfl|exact yM rfl|exact rfl|exact aL rfl rfl rfl rfl rfl|exact aS rfl rfl rfl rfl rfl rfl rfl))|((first|apply yN|apply yO|apply yP);exact rfl)|(exfalso;omega)|(((first|apply yT|apply yU|apply yV|apply yW);exact rfl;(first|exact .d|exact .e|exact .n|((fail_if_success exact bqt);(fail_if_success exact bqf);exact .b)))<;>intro _)
    refine .call _ rfl rfl rfl (growVals_ok q _ hq2 h0 (by omega) _) ?_
    rintro r τ ⟨junk, hj, rfl, rfl⟩
    rw [E_E]
    repeat' first|(apply yA;exact rfl)|apply yB|apply yC|((first|apply yD|apply yE);(first|exact yF|assumption);iterate 6 exact rfl)|((first|apply yG|apply yH|apply yI);exact rfl;(first|exact yJ|exact yK rfl rfl|exact yL rfl|exact yM rfl|exact rfl|exact aL rfl rfl rfl rfl rfl|exact aS rfl rfl rfl rfl rfl rfl rfl))|((first|apply yN|apply yO|apply yP);exact rfl)|(exfalso;omega)|(((first|apply yT|apply yU|apply yV|apply yW);exact rfl;(first|exact .d|exact .e|exact .n|((fail_if_success exact bqt);(fail_if_success exact bqf);exact .b)))<;>intro _)
    refine Go.keep [2, 6, 25, 26, 27] (Go.loops (I := fun m fr τ => ∃ (i : Nat) (k : Int) (v : Nat) (junk : List (List Ce)), m = ls.length - i ∧ i ≤ ls.length ∧ k = i ∧ Jk 3 junk ∧
      fr = [(2, .c .nils), (6, .c (vec (σ.next + 0) v ((ls.take i).flatten.map encV) junk)), (25, .c (.fz (ls.map encL3))), (26, .c (.int .i64 (ls.length : Int))), (27, .c (.int .i64 k))] ∧ τ = E σ [(v, (ls.take i).flatten.map encV ++ junk)]) ?_ _ _ _ ⟨0, _, 0, junk, rfl, Nat.zero_le _, rfl, hj, rfl, rfl⟩)
    rintro m fr τ ⟨i, k, v, junk, rfl, hi, hk, hj, rfl, rfl⟩ hrec
    by_cases hlt : i < ls.length
    · have hbd : (((ls.take i).flatten.map encV).length + (ls[i].map encV).length) * 32 ≤ 140737488355328 := by
        have := flat_take_le ls (i + 1)
        rw [flat_take hlt, List.length_append] at this
        rw [List.length_map, List.length_map]
        omega
      have e1 : ((ls.take i).flatten ++ ls[i]).map encV = (ls.take i).flatten.map encV ++ ls[i].map encV := List.map_append
      repeat' first|(apply yA;exact rfl)|apply yB|apply yC|((first|apply yD|apply yE);(first|exact yF|assumption);iterate 6 exact rfl)|((first|apply yG|apply yH|apply yI);exact rfl;(first|exact yJ|exact yK rfl rfl|exact yL rfl|exact yM rfl|exact rfl|exact aL rfl rfl rfl rfl rfl|exact aS rfl rfl rfl rfl rfl rfl rfl|exact yX (enc := encL3) rfl rfl hk hlt rfl))|((first|apply yN|apply yO|apply yP);exact rfl)|(apply Go.app;exact rfl;exact rfl;exact rfl;exact rfl;exact rfl;exact lens;exact hj;exact lens;exact hbd;intro v' junk' hj')|(exfalso;omega)|(((first|apply yT|apply yU|apply yV|apply yW);exact rfl;(first|exact .d|exact .e|exact .n|((fail_if_success exact bqt);(fail_if_success exact bqf);exact .b)))<;>intro _)
      refine Go.keep [2, 6, 25, 26, 27] (hrec _ _ _ (by omega) ⟨i + 1, _, v', junk', rfl, hlt, wrap_succ hk (by omega), hj', ?_, ?_⟩)
      · rw [flat_take hlt, e1]; rfl
      · rw [flat_take hlt, e1]; rfl
    · repeat' first|(apply yA;exact rfl)|apply yB|apply yC|((first|apply yD|apply yE);(first|exact yF|assumption);iterate 6 exact rfl)|((first|apply yG|apply yH|apply yI);exact rfl;(first|exact yJ|exact yK rfl rfl|exact yL rfl|exact yM rfl|exact rfl|exact aL rfl rfl rfl rfl rfl|exact aS rfl rfl rfl rfl rfl rfl rfl))|((first|apply yN|apply yO|apply yP);exact rfl)|(exfalso;omega)|(((first|apply yT|apply yU|apply yV|apply yW);exact rfl;(first|exact .d|exact .e|exact .n|((fail_if_success exact bqt);(fail_if_success exact bqf);exact .b)))<;>intro _)
      refine .ret rfl ?_
      rw [List.take_of_length_le (by omega)]
      exact newVec clean_append hj
end Go.Proofs.YteafjabcpmpmgaaGreat.Am

/- Entries: copies of many, marks that are held. -/
set_option linter.unusedVariables false
set_option linter.unusedSimpArgs false
namespace Go.Proofs.YteafjabcpmpmgaaGreat.Am

end Go.Proofs.YteafjabcpmpmgaaGreat.Am

/- Joined lines: the walk of both packages' loops. -/
set_option linter.unusedVariables false
set_option linter.unusedSimpArgs false
namespace Go.Proofs.YteafjabcpmpmgaaGreat.Am

def joinIn (w : List Tok) (a : List Val) : List RowD → List Line → Option (List Line)
  | [], acc => some acc
  | r :: l, acc => if truthI w (a ++ r.vals) = -1 then none else joinIn w a l (if truthI w (a ++ r.vals) = 1 then acc ++ [⟨a ++ r.vals⟩] else acc)
def joinOut (w : List Tok) (right : List RowD) : List RowD → List Line → Option (List Line)
  | [], acc => some acc
  | l :: ls, acc => match joinIn w l.vals right acc with
    | some q => joinOut w right ls q
    | none => none
theorem line_owned {τ : Store} {S : Nat → Prop} {k : Ce} {xk : Ce} (h : Has τ S k xk) : HasL τ S [k] [xk] :=
  (HasL.two h (HasL.nil (S := fun _ => False)) (fun _ _ h => h)).mono fun a ha => ha.elim id (fun h => h.elim)
theorem Grow.wider {σ τ ρ : Store} {s : Nat} {ys : List (List Ce)} {x : Ce} (h : Grow σ τ s ys x) (g : Gr τ ρ) : Grow σ ρ s ys x :=
  ⟨(h.later g).1, (h.later g).2.mono fun a ha => ⟨ha.1, by have := g.next; have := ha.2; omega⟩⟩
structure Fits (d : List RowD) : Prop where
  few : d.length ≤ 60
  low : ∀ r ∈ d, 1 ≤ r.vals.length
  high : ∀ r ∈ d, r.vals.length ≤ 8
def joinF (w : List Tok) (left right : List RowD) : List Line × Bool := match joinOut w right left [] with | some ls => (ls, true) | none => ([], false)
def JoinF (s : List Table) (db : List Data) (a b : Int) (w : List Tok) : List Line × Bool :=
  if dbF s db && (isIn a 0 (s.length - 1) && (isIn b 0 (s.length - 1) && exprF w (colsAt s a + colsAt s b : Nat))) then joinF w (rowsAt db a) (rowsAt db b) else ([], false)
theorem JoinOn_ok (s : List Table) (db : List Data) (a b : Int) (w : List Tok) (hx : s.length ≤ 34359738368) (hb : ∀ t ∈ s, bTable 34359738368 t) (hd : db.length ≤ 34359738368) (hdb : ∀ d ∈ db, bData 34359738368 d) (hw : w.length ≤ 34359738368) (hw2 : ∀ t ∈ w, bTok 34359738368 t) (σ : Store) :
    Ok Tryz.prog 41 [.c (.fz (s.map encTable)), .c (.fz (db.map encData)), .c (.int .i64 a), .c (.int .i64 b), .c (.fz (w.map encTok))] σ (NewV σ (.tup [.c (.fz ((JoinF s db a b w).1.map encLine)), .c (.bool (JoinF s db a b w).2)])) := by
  refine Ok.run mixed c_impl_JoinOn_ok (Nat.le_of_ble_eq_true rfl) fun hS hA => ?_
  clear hS hA
  have c1 := DbOk_ok s db hx hb hd hdb
  have c2 := isTable_ok s a hx
  have c2' := isTable_ok s b hx
  rw [JoinF]
  cases h1 : dbF s db
  · rw [h1] at c1
    repeat' first|(apply yA;exact rfl)|apply yB|apply yC|((first|apply yD|apply yE);(first|exact yF|assumption);iterate 6 exact rfl)|((first|apply yG|apply yH|apply yI);exact rfl;(first|exact yJ|exact yK rfl rfl|exact yL rfl|exact yM rfl|exact rfl|exact aL rfl rfl rfl rfl rfl|exact aS rfl rfl rfl rfl rfl rfl rfl))|((first|apply yN|apply yO|apply yP);exact rfl)|((first|apply yQ|apply yR|apply yS);(iterate 3 exact rfl);exact c1)|(exfalso;omega)|(((first|apply yT|apply yU|apply yV|apply yW);exact rfl;(first|exact .d|exact .e|exact .n|((fail_if_success exact bqt);(fail_if_success exact bqf);exact .b)))<;>intro _)
    exact .ret rfl newNo
  rw [h1] at c1
  cases h2 : isIn a 0 (s.length - 1)
  · rw [h2] at c2
    repeat' first|(apply yA;exact rfl)|apply yB|apply yC|((first|apply yD|apply yE);(first|exact yF|assumption);iterate 6 exact rfl)|((first|apply yG|apply yH|apply yI);exact rfl;(first|exact yJ|exact yK rfl rfl|exact yL rfl|exact yM rfl|exact rfl|exact aL rfl rfl rfl rfl rfl|exact aS rfl rfl rfl rfl rfl rfl rfl))|((first|apply yN|apply yO|apply yP);exact rfl)|((first|apply yQ|apply yR|apply yS);(iterate 3 exact rfl);(first|exact c1|exact c2))|(exfalso;omega)|(((first|apply yT|apply yU|apply yV|apply yW);exact rfl;(first|exact .d|exact .e|exact .n|((fail_if_success exact bqt);(fail_if_success exact bqf);exact .b)))<;>intro _)
    exact .ret rfl newNo
  rw [h2] at c2
  cases h2' : isIn b 0 (s.length - 1)
  · rw [h2'] at c2'
    repeat' first|(apply yA;exact rfl)|apply yB|apply yC|((first|apply yD|apply yE);(first|exact yF|assumption);iterate 6 exact rfl)|((first|apply yG|apply yH|apply yI);exact rfl;(first|exact yJ|exact yK rfl rfl|exact yL rfl|exact yM rfl|exact rfl|exact aL rfl rfl rfl rfl rfl|exact aS rfl rfl rfl rfl rfl rfl rfl))|((first|apply yN|apply yO|apply yP);exact rfl)|((first|apply yQ|apply yR|apply yS);(iterate 3 exact rfl);(first|exact c1|exact c2|exact c2'))|(exfalso;omega)|(((first|apply yT|apply yU|apply yV|apply yW);exact rfl;(first|exact .d|exact .e|exact .n|((fail_if_success exact bqt);(fail_if_success exact bqf);exact .b)))<;>intro _)
    exact .ret rfl newNo
  rw [h2'] at c2'
  obtain ⟨hs, hl, hrows⟩ := dbF_at h1
  obtain ⟨h3, h4⟩ := isIn_at h2
  obtain ⟨h3', h4'⟩ := isIn_at h2'
  have hn : a = (a.toNat : Int) := by omega
  have hlt : a.toNat < s.length := by omega
  have hlt2 : a.toNat < db.length := by omega
  have hn' : b = (b.toNat : Int) := by omega
  have hlt' : b.toNat < s.length := by omega
  have hlt2' : b.toNat < db.length := by omega
  have hcl := schemaF_cols hs _ (List.getElem_mem hlt)
  have hcl' := schemaF_cols hs _ (List.getElem_mem hlt')
  have hr := rowsF_mem (hrows _ hlt hlt2)
  have hr' := rowsF_mem (hrows _ hlt' hlt2')
  have hca : colsAt s a = s[a.toNat].cols.length := by rw [colsAt, List.getElem?_eq_getElem hlt]
  have hra : rowsAt db a = db[a.toNat].rows := by rw [rowsAt, List.getElem?_eq_getElem hlt2]
  have hca' : colsAt s b = s[b.toNat].cols.length := by rw [colsAt, List.getElem?_eq_getElem hlt']
  have hra' : rowsAt db b = db[b.toNat].rows := by rw [rowsAt, List.getElem?_eq_getElem hlt2']
  have hsum : IntKind.i64.wrap ((s[a.toNat].cols.length : Int) + (s[b.toNat].cols.length : Int)) = ((s[a.toNat].cols.length + s[b.toNat].cols.length : Nat) : Int) := by rw [wrap64 (by omega) (by omega)]; omega
  have c3 := ExprOk_ok w (IntKind.i64.wrap ((s[a.toNat].cols.length : Int) + (s[b.toNat].cols.length : Int))) hw
  have hin : isIn ((s[a.toNat].cols.length + s[b.toNat].cols.length : Nat) : Int) 0 16 = true := by simp only [isIn, Bool.and_eq_true, decide_eq_true_eq]; omega
  rw [hsum, hin, Bool.and_true] at c3
  rw [← exprF] at c3
  rw [hca, hra, hca', hra']
  cases h5 : exprF w (s[a.toNat].cols.length + s[b.toNat].cols.length : Nat)
  · rw [h5, ← hsum] at c3
    repeat' first|(apply yA;exact rfl)|apply yB|apply yC|((first|apply yD|apply yE);(first|exact yF|assumption);iterate 6 exact rfl)|((first|apply yG|apply yH|apply yI);exact rfl;(first|exact yJ|exact yK rfl rfl|exact yL rfl|exact yM rfl|exact rfl|exact aL rfl rfl rfl rfl rfl|exact aS rfl rfl rfl rfl rfl rfl rfl|exact yX (enc := encTable) rfl rfl hn hlt rfl|exact yX (enc := encTable) rfl rfl hn' hlt' rfl))|((first|apply yN|apply yO|apply yP);exact rfl)|((first|apply yQ|apply yR|apply yS);(iterate 3 exact rfl);(first|exact c1|exact c2|exact c2'|exact c3))|(exfalso;omega)|(((first|apply yT|apply yU|apply yV|apply yW);exact rfl;(first|exact .d|exact .e|exact .n|((fail_if_success exact bqt);(fail_if_success exact bqf);exact .b)))<;>intro _)
    exact .ret rfl newNo
  rw [h5, ← hsum] at c3
  rw [show (true && (true && (true && true))) = true from rfl, if_pos rfl]
  have hL : Fits db[a.toNat].rows := ⟨hr.1, fun r hm => by have := (fitF_vals (hr.2 r hm).1).1; omega, fun r hm => by have := (fitF_vals (hr.2 r hm).1).1; omega⟩
  have hR : Fits db[b.toNat].rows := ⟨hr'.1, fun r hm => by have := (fitF_vals (hr'.2 r hm).1).1; omega, fun r hm => by have := (fitF_vals (hr'.2 r hm).1).1; omega⟩
  clear hra hra' hca hca' hrows hr hr'
  repeat' first|(apply yA;exact rfl)|apply yB|apply yC|((first|apply yD|apply yE);(first|exact yF|assumption);iterate 6 exact rfl)|((first|apply yG|apply yH|apply yI);exact rfl;(first|exact yJ|exact yK rfl rfl|exact yL rfl|exact yM rfl|exact rfl|exact aL rfl rfl rfl rfl rfl|exact aS rfl rfl rfl rfl rfl rfl rfl|exact yX (enc := encTable) rfl rfl hn hlt rfl|exact yX (enc := encTable) rfl rfl hn' hlt' rfl|exact yX (enc := encData) rfl rfl hn hlt2 rfl))|((first|apply yN|apply yO|apply yP);exact rfl)|((first|apply yQ|apply yR|apply yS);(iterate 3 exact rfl);(first|exact c1|exact c2|exact c2'|exact c3))|(exfalso;omega)|(((first|apply yT|apply yU|apply yV|apply yW);exact rfl;(first|exact .d|exact .e|exact .n|((fail_if_success exact bqt);(fail_if_success exact bqf);exact .b)))<;>intro _)
  clear c1 c2 c2' c3
  have hdr : aop (AOp.mv (Opd.k (.int .i64 0))) [] σ = some (.c (.int .i64 0), σ) := rfl
  clear hdr
  refine Go.keep [1, 3, 4, 12, 57, 58, 59] (Go.loops (I := fun m fr τ => ∃ (i : Nat) (k : Int) (acc : List Line) (x : Ce), m = db[a.toNat].rows.length - i ∧ i ≤ db[a.toNat].rows.length ∧ k = i ∧ (acc.length ≤ 60 * i ∧ joinOut w db[b.toNat].rows db[a.toNat].rows [] = joinOut w db[b.toNat].rows (db[a.toNat].rows.drop i) acc) ∧ Grow σ τ 1 (acc.map encLine) x ∧
    fr = [(1, .c (.fz (db.map encData))), (3, .c (.int .i64 b)), (4, .c (.fz (w.map encTok))), (12, .c x), (57, .c (.fz (db[a.toNat].rows.map encRowD))), (58, .c (.int .i64 (db[a.toNat].rows.length : Int))), (59, .c (.int .i64 k))]) ?_ _ _ _ ⟨0, _, [], _, rfl, Nat.zero_le _, rfl, ⟨Nat.zero_le _, rfl⟩, Grow.empty, rfl⟩)
  rintro m fr τ ⟨i, k, acc, x, rfl, hi, hk, ⟨hal, hj⟩, hG, rfl⟩ hrec
  have hle : σ.next ≤ τ.next := hG.gr.next
  by_cases hlti : i < db[a.toNat].rows.length
  · have hl1 := hL.low _ (List.getElem_mem hlti)
    have hl8 := hL.high _ (List.getElem_mem hlti)
    rw [List.drop_eq_getElem_cons hlti, joinOut] at hj
    repeat' first|(apply yA;exact rfl)|apply yB|apply yC|((first|apply yD|apply yE);(first|exact yF|assumption);iterate 6 exact rfl)|((first|apply yG|apply yH|apply yI);exact rfl;(first|exact yJ|exact yK rfl rfl|exact yL rfl|exact yM rfl|exact rfl|exact aL rfl rfl rfl rfl rfl|exact aS rfl rfl rfl rfl rfl rfl rfl|exact yX (enc := encRowD) rfl rfl hk hlti rfl|exact yX (enc := encData) rfl rfl hn' hlt2' rfl))|((first|apply yN|apply yO|apply yP);exact rfl)|(exfalso;omega)|(((first|apply yT|apply yU|apply yV|apply yW);exact rfl;(first|exact .d|exact .e|exact .n|((fail_if_success exact bqt);(fail_if_success exact bqf);exact .b)))<;>intro _)
    refine Go.keep [1, 3, 4, 12, 14, 57, 58, 59, 67, 68, 69] (Go.loops (I := fun m fr τ => ∃ (j : Nat) (kj : Int) (ac : List Line) (x : Ce), m = db[b.toNat].rows.length - j ∧ j ≤ db[b.toNat].rows.length ∧ kj = j ∧ (ac.length ≤ 60 * i + j ∧ joinIn w db[a.toNat].rows[i].vals db[b.toNat].rows acc = joinIn w db[a.toNat].rows[i].vals (db[b.toNat].rows.drop j) ac) ∧ Grow σ τ 1 (ac.map encLine) x ∧
      fr = [(1, .c (.fz (db.map encData))), (3, .c (.int .i64 b)), (4, .c (.fz (w.map encTok))), (12, .c x), (14, .c (.fp (encRowD db[a.toNat].rows[i]))), (57, .c (.fz (db[a.toNat].rows.map encRowD))), (58, .c (.int .i64 (db[a.toNat].rows.length : Int))), (59, .c (.int .i64 k)), (67, .c (.fz (db[b.toNat].rows.map encRowD))), (68, .c (.int .i64 (db[b.toNat].rows.length : Int))), (69, .c (.int .i64 kj))]) ?_ _ _ _ ⟨0, _, acc, _, rfl, Nat.zero_le _, rfl, ⟨hal, rfl⟩, hG, rfl⟩)
    clear hG hle
    clear x τ
    rintro m fr τ ⟨j, kj, ac, x, rfl, hjl, hkj, ⟨hacl, hin2⟩, hG, rfl⟩ hrecj
    have hle : σ.next ≤ τ.next := hG.gr.next
    have hRl := hR.few
    by_cases hltj : j < db[b.toNat].rows.length
    · have hr1 := hR.low _ (List.getElem_mem hltj)
      have hr8 := hR.high _ (List.getElem_mem hltj)
      rw [List.drop_eq_getElem_cons hltj, joinIn] at hin2
      have hfl : [db[a.toNat].rows[i].vals, db[b.toNat].rows[j].vals].flatten = db[a.toNat].rows[i].vals ++ db[b.toNat].rows[j].vals := by simp
      have hfl2 : (db[a.toNat].rows[i].vals ++ db[b.toNat].rows[j].vals).length ≤ 16 := by rw [List.length_append]; omega
      have hfl3 : 1 ≤ (db[a.toNat].rows[i].vals ++ db[b.toNat].rows[j].vals).length := by rw [List.length_append]; omega
      have cc := concatVals_ok [db[a.toNat].rows[i].vals, db[b.toNat].rows[j].vals] (by rw [hfl]; omega) (by simp) (by rw [hfl]; omega)
      rw [hfl] at cc
      have ct := Truth_ok w (db[a.toNat].rows[i].vals ++ db[b.toNat].rows[j].vals) hw (by omega)
      repeat' first|(apply yA;exact rfl)|apply yB|apply yC|((first|apply yD|apply yE);(first|exact yF|assumption);iterate 6 exact rfl)|((first|apply yG|apply yH|apply yI);exact rfl;(first|exact yJ|exact yK rfl rfl|exact yL rfl|exact yM rfl|exact rfl|exact aL rfl rfl rfl rfl rfl|exact aS rfl rfl rfl rfl rfl rfl rfl|exact yX (enc := encRowD) rfl rfl hkj hltj rfl))|((first|apply yN|apply yO|apply yP);exact rfl)|(exfalso;omega)|(((first|apply yT|apply yU|apply yV|apply yW);exact rfl;(first|exact .d|exact .e|exact .n|((fail_if_success exact bqt);(fail_if_success exact bqf);exact .b)))<;>intro _)
      refine .call _ rfl rfl rfl (cc τ) ?_
      rintro r τ2 ⟨hg2, hh2⟩
      clear cc
      generalize db[a.toNat].rows[i].vals ++ db[b.toNat].rows[j].vals = vs at ct hin2 hh2 hfl2 hfl3
      generalize truthI w vs = T at ct hin2
      cases hh2 with
      | c hh2 =>
      have hG2 := hG.later hg2
      have hn2 := hg2.next
      repeat' first|(apply yA;exact rfl)|apply yB|apply yC|((first|apply yD|apply yE);(first|exact yF|assumption);iterate 6 exact rfl)|((first|apply yG|apply yH|apply yI);exact rfl;(first|exact yJ|exact yK rfl rfl|exact yL rfl|exact yM rfl|exact rfl|exact aL rfl rfl rfl rfl rfl|exact aS rfl rfl rfl rfl rfl rfl rfl))|((first|apply yN|apply yO|apply yP);exact rfl)|(exfalso;omega)|(((first|apply yT|apply yU|apply yV|apply yW);exact rfl;(first|exact .d|exact .e|exact .n|((fail_if_success exact bqt);(fail_if_success exact bqf);exact .b)))<;>intro _)
      refine Go.lcall rfl rfl rfl ct (.int _ _) (.same (.own (HasV.c hh2).lend .nil)) ?_
      repeat' first|(apply yA;exact rfl)|apply yB|apply yC|((first|apply yD|apply yE);(first|exact yF|assumption);iterate 6 exact rfl)|((first|apply yG|apply yH|apply yI);exact rfl;(first|exact yJ|exact yK rfl rfl|exact yL rfl|exact yM rfl|exact rfl|exact aL rfl rfl rfl rfl rfl|exact aS rfl rfl rfl rfl rfl rfl rfl))|((first|apply yN|apply yO|apply yP);exact rfl)|(exfalso;omega)|(((first|apply yT|apply yU|apply yV|apply yW);exact rfl;(first|exact .d|exact .e|exact .n|((fail_if_success exact bqt);(fail_if_success exact bqf);exact .b)))<;>intro _)
      · rename_i h9
        rw [if_pos h9] at hin2
        rw [hin2] at hj
        refine .ret rfl ?_
        rw [joinF, hj]
        exact newPair (.bool _) (newNil hG2.1)
      · rename_i h9 h10
        rw [if_neg h9, if_pos h10] at hin2
        refine Go.grow ?_ ?_ ?_ hG2 hle hn2 (line_owned hh2) rfl ?_ fun x' τ3 hG3 => ?_
        · exact rfl
        · exact rfl
        · exact rfl
        · have := hL.few
          rw [List.length_map]
          omega
        repeat' first|(apply yA;exact rfl)|apply yB|apply yC|((first|apply yD|apply yE);(first|exact yF|assumption);iterate 6 exact rfl)|((first|apply yG|apply yH|apply yI);exact rfl;(first|exact yJ|exact yK rfl rfl|exact yL rfl|exact yM rfl|exact rfl|exact aL rfl rfl rfl rfl rfl|exact aS rfl rfl rfl rfl rfl rfl rfl))|((first|apply yN|apply yO|apply yP);exact rfl)|(exfalso;omega)|(((first|apply yT|apply yU|apply yV|apply yW);exact rfl;(first|exact .d|exact .e|exact .n|((fail_if_success exact bqt);(fail_if_success exact bqf);exact .b)))<;>intro _)
        refine Go.keep [1, 3, 4, 12, 14, 57, 58, 59, 67, 68, 69] (hrecj _ _ _ (by omega) ⟨j + 1, _, ac ++ [⟨vs⟩], x', rfl, hltj, wrap_succ hkj (by omega), ⟨by rw [List.length_append, List.length_singleton]; omega, hin2⟩, ?_, rfl⟩)
        rw [List.map_append]
        exact hG3
      · rename_i h9 h10
        rw [if_neg h9, if_neg h10] at hin2
        exact Go.keep [1, 3, 4, 12, 14, 57, 58, 59, 67, 68, 69] (hrecj _ _ _ (by omega) ⟨j + 1, _, ac, x, rfl, hltj, wrap_succ hkj (by omega), ⟨by omega, hin2⟩, hG.wider hg2, rfl⟩)
    · rw [List.drop_eq_nil_of_le (by omega), joinIn] at hin2
      rw [hin2] at hj
      repeat' first|(apply yA;exact rfl)|apply yB|apply yC|((first|apply yD|apply yE);(first|exact yF|assumption);iterate 6 exact rfl)|((first|apply yG|apply yH|apply yI);exact rfl;(first|exact yJ|exact yK rfl rfl|exact yL rfl|exact yM rfl|exact rfl|exact aL rfl rfl rfl rfl rfl|exact aS rfl rfl rfl rfl rfl rfl rfl))|((first|apply yN|apply yO|apply yP);exact rfl)|(exfalso;omega)|(((first|apply yT|apply yU|apply yV|apply yW);exact rfl;(first|exact .d|exact .e|exact .n|((fail_if_success exact bqt);(fail_if_success exact bqf);exact .b)))<;>intro _)
      have := hL.few
      exact Go.keep [1, 3, 4, 12, 57, 58, 59] (hrec _ _ _ (by omega) ⟨i + 1, _, ac, x, rfl, hlti, wrap_succ hk (by omega), ⟨by omega, hj⟩, hG, rfl⟩)
  · rw [List.drop_eq_nil_of_le (by omega), joinOut] at hj
    repeat' first|(apply yA;exact rfl)|apply yB|apply yC|((first|apply yD|apply yE);(first|exact yF|assumption);iterate 6 exact rfl)|((first|apply yG|apply yH|apply yI);exact rfl;(first|exact yJ|exact yK rfl rfl|exact yL rfl|exact yM rfl|exact rfl|exact aL rfl rfl rfl rfl rfl|exact aS rfl rfl rfl rfl rfl rfl rfl))|((first|apply yN|apply yO|apply yP);exact rfl)|(exfalso;omega)|(((first|apply yT|apply yU|apply yV|apply yW);exact rfl;(first|exact .d|exact .e|exact .n|((fail_if_success exact bqt);(fail_if_success exact bqf);exact .b)))<;>intro _)
    refine .ret rfl ?_
    rw [joinF, hj]
    exact newPair (.bool _) hG.v
end Go.Proofs.YteafjabcpmpmgaaGreat.Am

/- Joined lines: the reference's; what the results are like; marks held. -/
set_option linter.unusedVariables false
set_option linter.unusedSimpArgs false
namespace Go.Proofs.YteafjabcpmpmgaaGreat.Am

theorem l1CopyVals_mk (xs : List Val) (hx : xs.length ≤ 34359738368) : Makes Tryz.prog 131 [.c (.fz (xs.map encV))] 3 (xs.map encV) := by
  refine Makes.run mixed c_spec_l1CopyVals_ok (Nat.le_of_ble_eq_true rfl) fun σ hS hA => ?_
  clear hS hA
  repeat' first|(apply yA;exact rfl)|apply yB|apply yC|((first|apply yD|apply yE);(first|exact yF|assumption);iterate 6 exact rfl)|((first|apply yG|apply yH|apply yI);exact rfl;(first|exact yJ|exact yK rfl rfl|exact yL rfl|exact yM rfl|exact rfl|exact aL rfl rfl rfl rfl rfl|exact aS rfl rfl rfl rfl rfl rfl rfl))|((first|apply yN|apply yO|apply yP);exact rfl)|(exfalso;omega)|(((first|apply yT|apply yU|apply yV|apply yW);exact rfl;(first|exact .d|exact .e|exact .n|((fail_if_success exact bqt);(fail_if_success exact bqf);exact .b)))<;>intro _)
  refine Go.app (ys := []) (junk := []) (zs := xs.map encV) rfl rfl rfl rfl rfl (by simp) Jk.nil (fun e he => (clean_append e he).1) (by simp; omega) fun v junk hj => ?_
  repeat' first|(apply yA;exact rfl)|apply yB|apply yC|((first|apply yD|apply yE);(first|exact yF|assumption);iterate 6 exact rfl)|((first|apply yG|apply yH|apply yI);exact rfl;(first|exact yJ|exact yK rfl rfl|exact yL rfl|exact yM rfl|exact rfl|exact aL rfl rfl rfl rfl rfl|exact aS rfl rfl rfl rfl rfl rfl rfl))|((first|apply yN|apply yO|apply yP);exact rfl)|(exfalso;omega)|(((first|apply yT|apply yU|apply yV|apply yW);exact rfl;(first|exact .d|exact .e|exact .n|((fail_if_success exact bqt);(fail_if_success exact bqf);exact .b)))<;>intro _)
  exact .ret rfl ⟨v, junk, hj, rfl, rfl⟩
theorem truthR_ge (w : List Tok) (vs : List Val) : -1 ≤ truthR w vs := by
  rw [truthR]
  split
  · rw [truthV]
    split
    · decide
    · split
      · split <;> decide
      · decide
  · decide
theorem sJoinOn_ok (s : List Table) (db : List Data) (a b : Int) (w : List Tok) (hx : s.length ≤ 34359738368) (hb : ∀ t ∈ s, bTable 34359738368 t) (hd : db.length ≤ 34359738368) (hdb : ∀ d ∈ db, bData 34359738368 d) (hw : w.length ≤ 34359738368) (hw2 : ∀ t ∈ w, bTok 34359738368 t) (σ : Store) :
    Ok Tryz.prog 42 [.c (.fz (s.map encTable)), .c (.fz (db.map encData)), .c (.int .i64 a), .c (.int .i64 b), .c (.fz (w.map encTok))] σ (NewV σ (.tup [.c (.fz ((JoinF s db a b w).1.map encLine)), .c (.bool (JoinF s db a b w).2)])) := by
  refine Ok.run mixed c_spec_JoinOn_ok (Nat.le_of_ble_eq_true rfl) fun hS hA => ?_
  clear hS hA
  have c1 := l6Ok_ok s db a hx hb hd hdb
  have c2 := l1In_ok b 0 (IntKind.i64.wrap ((s.length : Int) - 1))
  have hwr : IntKind.i64.wrap ((s.length : Int) - 1) = s.length - 1 := wrap64 (by omega) (by omega)
  rw [JoinF, ← Bool.and_assoc]
  cases h1 : (dbF s db && isIn a 0 (s.length - 1))
  · rw [h1] at c1
    repeat' first|(apply yA;exact rfl)|apply yB|apply yC|((first|apply yD|apply yE);(first|exact yF|assumption);iterate 6 exact rfl)|((first|apply yG|apply yH|apply yI);exact rfl;(first|exact yJ|exact yK rfl rfl|exact yL rfl|exact yM rfl|exact rfl|exact aL rfl rfl rfl rfl rfl|exact aS rfl rfl rfl rfl rfl rfl rfl))|((first|apply yN|apply yO|apply yP);exact rfl)|((first|apply yQ|apply yR|apply yS);(iterate 3 exact rfl);exact c1)|(exfalso;omega)|(((first|apply yT|apply yU|apply yV|apply yW);exact rfl;(first|exact .d|exact .e|exact .n|((fail_if_success exact bqt);(fail_if_success exact bqf);exact .b)))<;>intro _)
    exact .ret rfl newNo
  rw [h1] at c1
  rw [Bool.and_eq_true] at h1
  obtain ⟨h1, h2⟩ := h1
  cases h2' : isIn b 0 (s.length - 1)
  · rw [hwr, h2', ← hwr] at c2
    repeat' first|(apply yA;exact rfl)|apply yB|apply yC|((first|apply yD|apply yE);(first|exact yF|assumption);iterate 6 exact rfl)|((first|apply yG|apply yH|apply yI);exact rfl;(first|exact yJ|exact yK rfl rfl|exact yL rfl|exact yM rfl|exact rfl|exact aL rfl rfl rfl rfl rfl|exact aS rfl rfl rfl rfl rfl rfl rfl))|((first|apply yN|apply yO|apply yP);exact rfl)|((first|apply yQ|apply yR|apply yS);(iterate 3 exact rfl);(first|exact c1|exact c2))|(exfalso;omega)|(((first|apply yT|apply yU|apply yV|apply yW);exact rfl;(first|exact .d|exact .e|exact .n|((fail_if_success exact bqt);(fail_if_success exact bqf);exact .b)))<;>intro _)
    exact .ret rfl newNo
  rw [hwr, h2', ← hwr] at c2
  obtain ⟨hs, hl, hrows⟩ := dbF_at h1
  obtain ⟨h3, h4⟩ := isIn_at h2
  obtain ⟨h3', h4'⟩ := isIn_at h2'
  have hn : a = (a.toNat : Int) := by omega
  have hlt : a.toNat < s.length := by omega
  have hlt2 : a.toNat < db.length := by omega
  have hn' : b = (b.toNat : Int) := by omega
  have hlt' : b.toNat < s.length := by omega
  have hlt2' : b.toNat < db.length := by omega
  have hcl := schemaF_cols hs _ (List.getElem_mem hlt)
  have hcl' := schemaF_cols hs _ (List.getElem_mem hlt')
  have hr := rowsF_mem (hrows _ hlt hlt2)
  have hr' := rowsF_mem (hrows _ hlt' hlt2')
  have hca : colsAt s a = s[a.toNat].cols.length := by rw [colsAt, List.getElem?_eq_getElem hlt]
  have hra : rowsAt db a = db[a.toNat].rows := by rw [rowsAt, List.getElem?_eq_getElem hlt2]
  have hca' : colsAt s b = s[b.toNat].cols.length := by rw [colsAt, List.getElem?_eq_getElem hlt']
  have hra' : rowsAt db b = db[b.toNat].rows := by rw [rowsAt, List.getElem?_eq_getElem hlt2']
  have hsum : IntKind.i64.wrap ((s[a.toNat].cols.length : Int) + (s[b.toNat].cols.length : Int)) = ((s[a.toNat].cols.length + s[b.toNat].cols.length : Nat) : Int) := by rw [wrap64 (by omega) (by omega)]; omega
  have c3 := l2Expr_ok w (IntKind.i64.wrap ((s[a.toNat].cols.length : Int) + (s[b.toNat].cols.length : Int))) hw (by omega) (by omega)
  rw [hsum] at c3
  rw [← exprF] at c3
  rw [hca, hra, hca', hra']
  cases h5 : exprF w (s[a.toNat].cols.length + s[b.toNat].cols.length : Nat)
  · rw [h5, ← hsum] at c3
    repeat' first|(apply yA;exact rfl)|apply yB|apply yC|((first|apply yD|apply yE);(first|exact yF|assumption);iterate 6 exact rfl)|((first|apply yG|apply yH|apply yI);exact rfl;(first|exact yJ|exact yK rfl rfl|exact yL rfl|exact yM rfl|exact rfl|exact aL rfl rfl rfl rfl rfl|exact aS rfl rfl rfl rfl rfl rfl rfl|exact yX (enc := encTable) rfl rfl hn hlt rfl|exact yX (enc := encTable) rfl rfl hn' hlt' rfl))|((first|apply yN|apply yO|apply yP);exact rfl)|((first|apply yQ|apply yR|apply yS);(iterate 3 exact rfl);(first|exact c1|exact c2|exact c3))|(exfalso;omega)|(((first|apply yT|apply yU|apply yV|apply yW);exact rfl;(first|exact .d|exact .e|exact .n|((fail_if_success exact bqt);(fail_if_success exact bqf);exact .b)))<;>intro _)
    exact .ret rfl newNo
  rw [h5, ← hsum] at c3
  rw [show (true && (true && true)) = true from rfl, if_pos rfl]
  have hLv : ∀ r ∈ db[a.toNat].rows, r.vals.length = s[a.toNat].cols.length ∧ ∀ v ∈ r.vals, okVal v = true := fun r hm => fitF_vals (hr.2 r hm).1
  have hRv : ∀ r ∈ db[b.toNat].rows, r.vals.length = s[b.toNat].cols.length ∧ ∀ v ∈ r.vals, okVal v = true := fun r hm => fitF_vals (hr'.2 r hm).1
  have hLf := hr.1
  have hRf := hr'.1
  clear hra hra' hca hca' hrows hr hr'
  repeat' first|(apply yA;exact rfl)|apply yB|apply yC|((first|apply yD|apply yE);(first|exact yF|assumption);iterate 6 exact rfl)|((first|apply yG|apply yH|apply yI);exact rfl;(first|exact yJ|exact yK rfl rfl|exact yL rfl|exact yM rfl|exact rfl|exact aL rfl rfl rfl rfl rfl|exact aS rfl rfl rfl rfl rfl rfl rfl|exact yX (enc := encTable) rfl rfl hn hlt rfl|exact yX (enc := encTable) rfl rfl hn' hlt' rfl))|((first|apply yN|apply yO|apply yP);exact rfl)|((first|apply yQ|apply yR|apply yS);(iterate 3 exact rfl);(first|exact c1|exact c2|exact c3))|(exfalso;omega)|(((first|apply yT|apply yU|apply yV|apply yW);exact rfl;(first|exact .d|exact .e|exact .n|((fail_if_success exact bqt);(fail_if_success exact bqf);exact .b)))<;>intro _)
  clear c1 c2 c3
  refine Go.keep [1, 2, 3, 4, 12, 13] (Go.loops (I := fun m fr τ => ∃ (i : Nat) (k : Int) (acc : List Line) (x : Ce), m = db[a.toNat].rows.length - i ∧ i ≤ db[a.toNat].rows.length ∧ k = i ∧ (acc.length ≤ 60 * i ∧ joinOut w db[b.toNat].rows db[a.toNat].rows [] = joinOut w db[b.toNat].rows (db[a.toNat].rows.drop i) acc) ∧ Grow σ τ 1 (acc.map encLine) x ∧
    fr = [(1, .c (.fz (db.map encData))), (2, .c (.int .i64 a)), (3, .c (.int .i64 b)), (4, .c (.fz (w.map encTok))), (12, .c x), (13, .c (.int .i64 k))]) ?_ _ _ _ ⟨0, _, [], _, rfl, Nat.zero_le _, rfl, ⟨Nat.zero_le _, rfl⟩, Grow.empty, rfl⟩)
  rintro m fr τ ⟨i, k, acc, x, rfl, hi, hk, ⟨hal, hj⟩, hG, rfl⟩ hrec
  have hle : σ.next ≤ τ.next := hG.gr.next
  by_cases hlti : i < db[a.toNat].rows.length
  · obtain ⟨hl1, hl2⟩ := hLv _ (List.getElem_mem hlti)
    rw [List.drop_eq_getElem_cons hlti, joinOut] at hj
    repeat' first|(apply yA;exact rfl)|apply yB|apply yC|((first|apply yD|apply yE);(first|exact yF|assumption);iterate 6 exact rfl)|((first|apply yG|apply yH|apply yI);exact rfl;(first|exact yJ|exact yK rfl rfl|exact yL rfl|exact yM rfl|exact rfl|exact aL rfl rfl rfl rfl rfl|exact aS rfl rfl rfl rfl rfl rfl rfl|exact yX (enc := encData) rfl rfl hn hlt2 rfl))|((first|apply yN|apply yO|apply yP);exact rfl)|(exfalso;omega)|(((first|apply yT|apply yU|apply yV|apply yW);exact rfl;(first|exact .d|exact .e|exact .n|((fail_if_success exact bqt);(fail_if_success exact bqf);exact .b)))<;>intro _)
    refine Go.keep [1, 2, 3, 4, 12, 13, 14] (Go.loops (I := fun m fr τ => ∃ (j : Nat) (kj : Int) (ac : List Line) (x : Ce), m = db[b.toNat].rows.length - j ∧ j ≤ db[b.toNat].rows.length ∧ kj = j ∧ (ac.length ≤ 60 * i + j ∧ joinIn w db[a.toNat].rows[i].vals db[b.toNat].rows acc = joinIn w db[a.toNat].rows[i].vals (db[b.toNat].rows.drop j) ac) ∧ Grow σ τ 1 (ac.map encLine) x ∧
      fr = [(1, .c (.fz (db.map encData))), (2, .c (.int .i64 a)), (3, .c (.int .i64 b)), (4, .c (.fz (w.map encTok))), (12, .c x), (13, .c (.int .i64 k)), (14, .c (.int .i64 kj))]) ?_ _ _ _ ⟨0, _, acc, _, rfl, Nat.zero_le _, rfl, ⟨hal, rfl⟩, hG, rfl⟩)
    clear hG hle
    clear x τ
    rintro m fr τ ⟨j, kj, ac, x, rfl, hjl, hkj, ⟨hacl, hin2⟩, hG, rfl⟩ hrecj
    have hle : σ.next ≤ τ.next := hG.gr.next
    by_cases hltj : j < db[b.toNat].rows.length
    · obtain ⟨hr1, hr2⟩ := hRv _ (List.getElem_mem hltj)
      rw [List.drop_eq_getElem_cons hltj, joinIn] at hin2
      have hlen : (db[a.toNat].rows[i].vals ++ db[b.toNat].rows[j].vals).length = s[a.toNat].cols.length + s[b.toNat].cols.length := by rw [List.length_append]; omega
      have q1 : areVals (db[a.toNat].rows[i].vals ++ db[b.toNat].rows[j].vals) 16 = true := by
        simp only [areVals, Bool.and_eq_true, decide_eq_true_eq, List.all_eq_true]
        refine ⟨by omega, fun v hv => ?_⟩
        rcases List.mem_append.1 hv with hv | hv
        · exact hl2 v hv
        · exact hr2 v hv
      have q2 : exprF w (db[a.toNat].rows[i].vals ++ db[b.toNat].rows[j].vals).length = true := by rw [hlen]; exact h5
      have ct := l2Truth_ok w (db[a.toNat].rows[i].vals ++ db[b.toNat].rows[j].vals) q1 q2
      have hTT : truthI w (db[a.toNat].rows[i].vals ++ db[b.toNat].rows[j].vals) = truthR w (db[a.toNat].rows[i].vals ++ db[b.toNat].rows[j].vals) := by rw [truthI, evalOk, q1, q2]; rfl
      have hge := truthR_ge w (db[a.toNat].rows[i].vals ++ db[b.toNat].rows[j].vals)
      rw [hTT] at hin2
      have hbd : ((db[a.toNat].rows[i].vals.map encV).length + (db[b.toNat].rows[j].vals.map encV).length) * 32 ≤ 140737488355328 := by rw [List.length_map, List.length_map]; omega
      have e1 : db[a.toNat].rows[i].vals.map encV ++ db[b.toNat].rows[j].vals.map encV = (db[a.toNat].rows[i].vals ++ db[b.toNat].rows[j].vals).map encV := by rw [List.map_append]
      have ccm := l1CopyVals_mk db[a.toNat].rows[i].vals (by omega)
      repeat' first|(apply yA;exact rfl)|(apply Go.qd)|apply Qc.nil|(apply Qc.op;exact rfl;(first|exact fun _ => rfl|exact fun _ => yM rfl|exact fun _ => yX (enc := encData) rfl rfl hn hlt2 rfl|exact fun _ => yX (enc := encData) rfl rfl hn' hlt2' rfl|exact fun _ => yX (enc := encRowD) rfl rfl hk hlti rfl|exact fun _ => yX (enc := encRowD) rfl rfl hkj hltj rfl))|(apply Qc.no;exact rfl)|((first|apply yD|apply yE);(first|exact yF|assumption);iterate 6 exact rfl)|((first|apply yG|apply yH);exact rfl;(first|exact yJ|exact yK rfl rfl|exact yL rfl|exact yM rfl|exact rfl|exact aL rfl rfl rfl rfl rfl|exact aS rfl rfl rfl rfl rfl rfl rfl|exact yX (enc := encData) rfl rfl hn hlt2 rfl|exact yX (enc := encData) rfl rfl hn' hlt2' rfl|exact yX (enc := encRowD) rfl rfl hk hlti rfl|exact yX (enc := encRowD) rfl rfl hkj hltj rfl))|((first|apply yN|apply yO);exact rfl)|(exfalso;omega)|(((first|apply yT|apply yU|apply yV|apply yW);exact rfl;(first|exact .d|exact .e|exact .n|((fail_if_success exact bqt);(fail_if_success exact bqf);exact .b)))<;>intro _)
      refine Qc.call _ rfl rfl rfl (ccm.at_ τ) ?_
      rintro r _ ⟨v, junk, hjk, rfl, rfl⟩
      repeat' first|(apply yA;exact rfl)|(apply Go.qd)|apply Qc.nil|(apply Qc.op;exact rfl;(first|exact fun _ => rfl|exact fun _ => yM rfl|exact fun _ => yX (enc := encData) rfl rfl hn hlt2 rfl|exact fun _ => yX (enc := encData) rfl rfl hn' hlt2' rfl|exact fun _ => yX (enc := encRowD) rfl rfl hk hlti rfl|exact fun _ => yX (enc := encRowD) rfl rfl hkj hltj rfl))|(apply Qc.no;exact rfl)|((first|apply yD|apply yE);(first|exact yF|assumption);iterate 6 exact rfl)|((first|apply yG|apply yH);exact rfl;(first|exact yJ|exact yK rfl rfl|exact yL rfl|exact yM rfl|exact rfl|exact aL rfl rfl rfl rfl rfl|exact aS rfl rfl rfl rfl rfl rfl rfl|exact yX (enc := encData) rfl rfl hn hlt2 rfl|exact yX (enc := encData) rfl rfl hn' hlt2' rfl|exact yX (enc := encRowD) rfl rfl hk hlti rfl|exact yX (enc := encRowD) rfl rfl hkj hltj rfl))|((first|apply yN|apply yO);exact rfl)|(exfalso;omega)|(((first|apply yT|apply yU|apply yV|apply yW);exact rfl;(first|exact .d|exact .e|exact .n|((fail_if_success exact bqt);(fail_if_success exact bqf);exact .b)))<;>intro _)
      refine Go.sapp rfl rfl rfl rfl rfl lens hjk lens hbd fun v' junk' hj' => ?_
      rw [e1]
      have hnv : NewV τ (.c (.fz ((db[a.toNat].rows[i].vals ++ db[b.toNat].rows[j].vals).map encV))) (.c (vec (τ.next + 0) v' ((db[a.toNat].rows[i].vals ++ db[b.toNat].rows[j].vals).map encV) junk')) (E τ [(v', (db[a.toNat].rows[i].vals ++ db[b.toNat].rows[j].vals).map encV ++ junk')]) := newVec clean_append hj'
      obtain ⟨hg2, hh2⟩ := hnv
      clear ccm e1 hbd
      generalize hE : (List.set [(v, db[a.toNat].rows[i].vals.map encV ++ junk)] 0 (v', (db[a.toNat].rows[i].vals ++ db[b.toNat].rows[j].vals).map encV ++ junk')) = ll
      have hE2 : ll = [(v', (db[a.toNat].rows[i].vals ++ db[b.toNat].rows[j].vals).map encV ++ junk')] := hE.symm
      rw [← hE2] at hg2 hh2
      clear hE hE2
      generalize E τ ll = τ2 at hg2 hh2 ⊢
      generalize vec (τ.next + 0) v' ((db[a.toNat].rows[i].vals ++ db[b.toNat].rows[j].vals).map encV) junk' = xc at hh2 ⊢
      generalize db[a.toNat].rows[i].vals ++ db[b.toNat].rows[j].vals = vs at ct hin2 hh2 hlen hge
      generalize truthR w vs = T at ct hin2 hge
      cases hh2 with
      | c hh2 =>
      have hG2 := hG.later hg2
      have hn2 := hg2.next
      repeat' first|(apply yA;exact rfl)|apply yB|apply yC|((first|apply yD|apply yE);(first|exact yF|assumption);iterate 6 exact rfl)|((first|apply yG|apply yH|apply yI);exact rfl;(first|exact yJ|exact yK rfl rfl|exact yL rfl|exact yM rfl|exact rfl|exact aL rfl rfl rfl rfl rfl|exact aS rfl rfl rfl rfl rfl rfl rfl))|((first|apply yN|apply yO|apply yP);exact rfl)|(exfalso;omega)|(((first|apply yT|apply yU|apply yV|apply yW);exact rfl;(first|exact .d|exact .e|exact .n|((fail_if_success exact bqt);(fail_if_success exact bqf);exact .b)))<;>intro _)
      refine Go.lcall rfl rfl rfl ct (.int _ _) (.same (.own (HasV.c hh2).lend .nil)) ?_
      repeat' first|(apply yA;exact rfl)|apply yB|apply yC|((first|apply yD|apply yE);(first|exact yF|assumption);iterate 6 exact rfl)|((first|apply yG|apply yH|apply yI);exact rfl;(first|exact yJ|exact yK rfl rfl|exact yL rfl|exact yM rfl|exact rfl|exact aL rfl rfl rfl rfl rfl|exact aS rfl rfl rfl rfl rfl rfl rfl))|((first|apply yN|apply yO|apply yP);exact rfl)|(exfalso;omega)|(((first|apply yT|apply yU|apply yV|apply yW);exact rfl;(first|exact .d|exact .e|exact .n|((fail_if_success exact bqt);(fail_if_success exact bqf);exact .b)))<;>intro _)
      · rename_i h9
        rw [if_pos (by omega)] at hin2
        rw [hin2] at hj
        refine .ret rfl ?_
        rw [joinF, hj]
        exact newPair (.bool _) (newNil hG2.1)
      · rename_i h9 h10
        rw [if_neg (by omega), if_pos h10] at hin2
        refine Go.grow ?_ ?_ ?_ hG2 hle hn2 (line_owned hh2) rfl ?_ fun x' τ3 hG3 => ?_
        · exact rfl
        · exact rfl
        · exact rfl
        · rw [List.length_map]
          omega
        repeat' first|(apply yA;exact rfl)|apply yB|apply yC|((first|apply yD|apply yE);(first|exact yF|assumption);iterate 6 exact rfl)|((first|apply yG|apply yH|apply yI);exact rfl;(first|exact yJ|exact yK rfl rfl|exact yL rfl|exact yM rfl|exact rfl|exact aL rfl rfl rfl rfl rfl|exact aS rfl rfl rfl rfl rfl rfl rfl))|((first|apply yN|apply yO|apply yP);exact rfl)|(exfalso;omega)|(((first|apply yT|apply yU|apply yV|apply yW);exact rfl;(first|exact .d|exact .e|exact .n|((fail_if_success exact bqt);(fail_if_success exact bqf);exact .b)))<;>intro _)
        refine Go.keep [1, 2, 3, 4, 12, 13, 14] (hrecj _ _ _ (by omega) ⟨j + 1, _, ac ++ [⟨vs⟩], x', rfl, hltj, wrap_succ hkj (by omega), ⟨by rw [List.length_append, List.length_singleton]; omega, hin2⟩, ?_, rfl⟩)
        rw [List.map_append]
        exact hG3
      · rename_i h9 h10
        rw [if_neg (by omega), if_neg h10] at hin2
        exact Go.keep [1, 2, 3, 4, 12, 13, 14] (hrecj _ _ _ (by omega) ⟨j + 1, _, ac, x, rfl, hltj, wrap_succ hkj (by omega), ⟨by omega, hin2⟩, hG.wider hg2, rfl⟩)
    · rw [List.drop_eq_nil_of_le (by omega), joinIn] at hin2
      rw [hin2] at hj
      repeat' first|(apply yA;exact rfl)|apply yB|apply yC|((first|apply yD|apply yE);(first|exact yF|assumption);iterate 6 exact rfl)|((first|apply yG|apply yH|apply yI);exact rfl;(first|exact yJ|exact yK rfl rfl|exact yL rfl|exact yM rfl|exact rfl|exact aL rfl rfl rfl rfl rfl|exact aS rfl rfl rfl rfl rfl rfl rfl|exact yX (enc := encData) rfl rfl hn' hlt2' rfl))|((first|apply yN|apply yO|apply yP);exact rfl)|(exfalso;omega)|(((first|apply yT|apply yU|apply yV|apply yW);exact rfl;(first|exact .d|exact .e|exact .n|((fail_if_success exact bqt);(fail_if_success exact bqf);exact .b)))<;>intro _)
      exact Go.keep [1, 2, 3, 4, 12, 13] (hrec _ _ _ (by omega) ⟨i + 1, _, ac, x, rfl, hlti, wrap_succ hk (by omega), ⟨by omega, hj⟩, hG, rfl⟩)
  · rw [List.drop_eq_nil_of_le (by omega), joinOut] at hj
    repeat' first|(apply yA;exact rfl)|apply yB|apply yC|((first|apply yD|apply yE);(first|exact yF|assumption);iterate 6 exact rfl)|((first|apply yG|apply yH|apply yI);exact rfl;(first|exact yJ|exact yK rfl rfl|exact yL rfl|exact yM rfl|exact rfl|exact aL rfl rfl rfl rfl rfl|exact aS rfl rfl rfl rfl rfl rfl rfl|exact yX (enc := encData) rfl rfl hn hlt2 rfl))|((first|apply yN|apply yO|apply yP);exact rfl)|(exfalso;omega)|(((first|apply yT|apply yU|apply yV|apply yW);exact rfl;(first|exact .d|exact .e|exact .n|((fail_if_success exact bqt);(fail_if_success exact bqf);exact .b)))<;>intro _)
    refine .ret rfl ?_
    rw [joinF, hj]
    exact newPair (.bool _) hG.v
end Go.Proofs.YteafjabcpmpmgaaGreat.Am

/- Queries: the order of rows. -/
set_option linter.unusedVariables false
set_option linter.unusedSimpArgs false
namespace Go.Proofs.YteafjabcpmpmgaaGreat.Am

end Go.Proofs.YteafjabcpmpmgaaGreat.Am

/- Queries: the reference's order of rows. -/
set_option linter.unusedVariables false
set_option linter.unusedSimpArgs false
namespace Go.Proofs.YteafjabcpmpmgaaGreat.Am

end Go.Proofs.YteafjabcpmpmgaaGreat.Am

/- The order of entries; an index without one of its entries. Plain laws. -/
set_option linter.unusedVariables false
set_option linter.unusedSimpArgs false
namespace Go.Proofs.YteafjabcpmpmgaaGreat.Am

/-- An index without an entry. -/
def without (l : List Entry) (e : Entry) : List Entry := l.filter fun x => !(x == e)
end Go.Proofs.YteafjabcpmpmgaaGreat.Am

/- Sorting in place, once for all element types: swaps, rotations. -/
set_option linter.unusedVariables false
set_option linter.unusedSimpArgs false
namespace Go.Proofs.YteafjabcpmpmgaaGreat.Am

/-- The store whose block id holds a list's elements. -/
structure Fam (α : Type) where
  σ : Store
  id : Nat
  v : Nat
  ce : α → List Ce
  junk : List (List Ce)
  two : ∀ x, (ce x).length = 2
def Fam.S {α : Type} (F : Fam α) (l : List α) : Store := F.σ.put F.id (F.v, l.map F.ce ++ F.junk)
section
variable {α : Type} {F : Fam α}
theorem Fam.get (l : List α) : (F.S l).get F.id = some (F.v, l.map F.ce ++ F.junk) := if_pos rfl
theorem Fam.put (l l' : List α) : (F.S l).put F.id (F.v, l'.map F.ce ++ F.junk) = F.S l' := by
  simp only [Fam.S, Store.put]
  congr 1
  funext a
  split <;> rfl
end
def sw {α : Type} (l : List α) (i j : Nat) : List α := match l[i]?, l[j]? with
  | some x, some y => (l.set i y).set j x
  | _, _ => l
end Go.Proofs.YteafjabcpmpmgaaGreat.Am

/- Sorting in place: rotations, insertion. -/
set_option linter.unusedVariables false
set_option linter.unusedSimpArgs false
namespace Go.Proofs.YteafjabcpmpmgaaGreat.Am

/-! ### Insertion -/
def ltA {α : Type} (c : α → α → Int) (l : List α) (i j : Nat) : Bool := match l[i]?, l[j]? with
  | some x, some y => decide (c x y < 0)
  | _, _ => false
def insIn {α : Type} (c : α → α → Int) (a : Nat) : Nat → List α → List α
  | 0, l => l
  | j + 1, l => if a < j + 1 ∧ ltA c l (j + 1) j = true then insIn c a j (sw l (j + 1) j) else l
def insOut {α : Type} (c : α → α → Int) (a : Nat) : Nat → Nat → List α → List α
  | 0, _, l => l
  | n + 1, i, l => insOut c a n (i + 1) (insIn c a i l)
def insF {α : Type} (c : α → α → Int) (a b : Nat) (l : List α) : List α := insOut c a (b - (a + 1)) (a + 1) l
end Go.Proofs.YteafjabcpmpmgaaGreat.Am

/- Sorting in place: merging. Plain part, and the three searches. -/
set_option linter.unusedVariables false
set_option linter.unusedSimpArgs false
namespace Go.Proofs.YteafjabcpmpmgaaGreat.Am

def bs (p : Nat → Bool) : Nat → Nat → Nat → Nat
  | 0, i, _ => i
  | n + 1, i, j => if i < j then (if p ((i + j) / 2) then bs p n ((i + j) / 2 + 1) j else bs p n i ((i + j) / 2)) else i
end Go.Proofs.YteafjabcpmpmgaaGreat.Am

/- Sorting in place: merging, one element against many. -/
set_option linter.unusedVariables false
set_option linter.unusedSimpArgs false
namespace Go.Proofs.YteafjabcpmpmgaaGreat.Am

end Go.Proofs.YteafjabcpmpmgaaGreat.Am

/- Sorting in place: merging, many against many; the whole sort. -/
set_option linter.unusedVariables false
set_option linter.unusedSimpArgs false
namespace Go.Proofs.YteafjabcpmpmgaaGreat.Am

end Go.Proofs.YteafjabcpmpmgaaGreat.Am

/- Sorting in place: the whole stable sort. -/
set_option linter.unusedVariables false
set_option linter.unusedSimpArgs false
namespace Go.Proofs.YteafjabcpmpmgaaGreat.Am

def blk {α : Type} (c : α → α → Int) (n : Nat) : Nat → Nat → List α → List α
  | 0, _, l => l
  | k + 1, a, l => if a + 20 ≤ n then blk c n k (a + 20) (insF c a (a + 20) l) else insF c a n l
end Go.Proofs.YteafjabcpmpmgaaGreat.Am

/- The stable sort's plain law: swaps, rotations, shifts. -/
set_option linter.unusedVariables false
set_option linter.unusedSimpArgs false
namespace Go.Proofs.YteafjabcpmpmgaaGreat.Am

end Go.Proofs.YteafjabcpmpmgaaGreat.Am

/- The stable sort's plain law: merging. -/
set_option linter.unusedVariables false
set_option linter.unusedSimpArgs false
namespace Go.Proofs.YteafjabcpmpmgaaGreat.Am

section
variable {α : Type} {c : α → α → Int} {R : α → α → Prop}
end
end Go.Proofs.YteafjabcpmpmgaaGreat.Am

/- The stable sort's plain law: merging, whole. -/
set_option linter.unusedVariables false
set_option linter.unusedSimpArgs false
namespace Go.Proofs.YteafjabcpmpmgaaGreat.Am

section
variable {α : Type} {c : α → α → Int} {R : α → α → Prop}
end
end Go.Proofs.YteafjabcpmpmgaaGreat.Am

/- The stable sort's plain law, whole. -/
set_option linter.unusedVariables false
set_option linter.unusedSimpArgs false
namespace Go.Proofs.YteafjabcpmpmgaaGreat.Am

section
variable {α : Type} {c : α → α → Int} {R : α → α → Prop}
end
end Go.Proofs.YteafjabcpmpmgaaGreat.Am

/- Queries: rows that match, sorted. Plain laws. -/
set_option linter.unusedVariables false
set_option linter.unusedSimpArgs false
namespace Go.Proofs.YteafjabcpmpmgaaGreat.Am

def Rise (l : List RowD) : Prop := l.Pairwise fun a b => a.id < b.id
theorem rowsAux_rise {t : Table} : ∀ {l : List RowD} {p : Option Int}, rowsAux t p l = true → Rise l ∧ ∀ q, p = some q → ∀ r ∈ l, q < r.id
  | [], p, _ => ⟨.nil, fun q _ r hr => by simp at hr⟩
  | a :: l, p, h => by
    rw [rowsAux, Bool.and_eq_true] at h
    obtain ⟨h1, h2⟩ := rowsAux_rise h.2
    have h3 := h2 a.id rfl
    refine ⟨List.pairwise_cons.2 ⟨h3, h1⟩, fun q hq r hr => ?_⟩
    subst hq
    have h4 : q < a.id := by
      have := h.1
      simp only [rowOne, risesId, Bool.and_eq_true, decide_eq_true_eq] at this
      exact this.2.1
    rcases List.mem_cons.1 hr with rfl | hr
    · exact h4
    · exact Int.lt_trans h4 (h3 r hr)
theorem rowsF_rise {t : Table} {l : List RowD} (h : rowsF t l = true) : Rise l := by
  rw [rowsF, Bool.and_eq_true] at h
  exact (rowsAux_rise h.1).1
theorem Rise.inj {l : List RowD} (h : Rise l) {a b : RowD} (ha : a ∈ l) (hb : b ∈ l) (he : a.id = b.id) : a = b := by
  induction l with
  | nil => simp at ha
  | cons x r ih =>
    obtain ⟨h1, h2⟩ := List.pairwise_cons.1 h
    rcases List.mem_cons.1 ha with e1 | ha2 <;> rcases List.mem_cons.1 hb with e2 | hb2
    · rw [e1, e2]
    · have := h1 b hb2; rw [← e1] at this; omega
    · have := h1 a ha2; rw [← e2] at this; omega
    · exact ih h2 ha2 hb2
/-! ### the order -/
/-! ### the reference inserts one by one -/
/-! ### the lines that are told -/
end Go.Proofs.YteafjabcpmpmgaaGreat.Am

/- A row put in by the reference: parts. -/
set_option linter.unusedVariables false
set_option linter.unusedSimpArgs false
namespace Go.Proofs.YteafjabcpmpmgaaGreat.Am

theorem oldRows {n : Nat} (l : List RowD) : OldL n (l.map encRowD) := fun e he c hc => by
  obtain ⟨a, _, rfl⟩ := List.mem_map.1 he
  simp only [encRowD, List.mem_cons, List.not_mem_nil, or_false] at hc
  rcases hc with rfl | rfl
  · exact .int _ _
  · exact old_fz1 (oldL_flat flats)
theorem oldDatas {n : Nat} (l : List Data) : OldL n (l.map encData) := fun e he c hc => by
  obtain ⟨a, _, rfl⟩ := List.mem_map.1 he
  simp only [encData, List.mem_cons, List.not_mem_nil, or_false] at hc
  subst hc
  exact old_fz1 (oldRows _)
theorem rowD_len {l : List RowD} : ∀ e ∈ l.map encRowD, e.length = 2 := fun e he => by
  obtain ⟨a, _, rfl⟩ := List.mem_map.1 he
  rfl
theorem data_len {l : List Data} : ∀ e ∈ l.map encData, e.length = 1 := fun e he => by
  obtain ⟨a, _, rfl⟩ := List.mem_map.1 he
  rfl
theorem Go.stold {P : Program} {n0 nt : Nat} {rets : List RV} {R : AV → Store → Prop} {K : List AK} {fr : Fr} {σ : Store} {d : Option Nat} {f : Opd} {args : List Opd} {g : Option (Nat × Bool)} {rest : List (List AOper)} {n : Nat} {pre cap : List Ce} {vs : List AV} {Z : AV → Prop} (hw : wants fr g = some true) (hf : f.ev fr = some (.c (.fn n pre cap))) (ha : evs fr args = some vs)
    (hp : Told P n (pre.map .c ++ vs ++ cap.map .c) Z) (h : ∀ r, Z r → Go P n0 nt rets R (.segs rest :: K) (putA fr d r) σ) : Go P n0 nt rets R (.segs ([⟨d, .call f args, g⟩] :: rest) :: K) fr σ :=
  .scall _ hw hf ha (hp.at_ σ) (by rintro r' σ' ⟨hz, rfl⟩; exact h r' hz)
theorem l1CopyVals_pure (xs : List Val) (hx : xs.length ≤ 34359738368) : Pure Tryz.prog 131 [.c (.fz (xs.map encV))] (.c (.fz (xs.map encV))) :=
  NewV.pure fun σ => ((l1CopyVals_mk xs hx).at_ σ).mono fun r τ ⟨v, junk, hj, h1, h2⟩ => by
    subst h1 h2
    exact newVec clean_append hj
theorem l6Able_ok (t : Table) (vals : List Val) (hl : vals.length = t.cols.length) (hT : TabOk t) (hv : areVals vals 16 = true) : Told Tryz.prog 312 [.agg (encTable t), .c (.fz (vals.map encV))] AnyI := by
  refine Told.run mixed c_spec_l6Able_ok (Nat.le_of_ble_eq_true rfl) fun σ hS => ?_
  clear hS
  have c1 := l4Nulls_ok t vals hl hT.cols8
  have c2 := l4Checks_ok t vals hT.chk3 (fun c hc => by rw [hl]; exact hT.chk c hc) hv
  generalize (!nullAux t 0 vals) = B1 at c1
  generalize (!(t.checks.any (checkBad vals))) = B2 at c2
  cases B1
  · repeat' first|(apply yA;exact rfl)|apply yB|apply yC|((first|apply yD|apply yE);(first|exact yF|assumption);iterate 6 exact rfl)|((first|apply yG|apply yH|apply yI);exact rfl;(first|exact yJ|exact yK rfl rfl|exact yL rfl|exact yM rfl|exact rfl|exact aL rfl rfl rfl rfl rfl|exact aS rfl rfl rfl rfl rfl rfl rfl))|((first|apply yN|apply yO|apply yP);exact rfl)|((first|apply yQ|apply yR|apply yS);(iterate 3 exact rfl);exact c1)|(exfalso;omega)|(((first|apply yT|apply yU|apply yV|apply yW);exact rfl;(first|exact .d|exact .e|exact .n|((fail_if_success exact bqt);(fail_if_success exact bqf);exact .b)))<;>intro _)
    exact .ret rfl ⟨_, ⟨_, rfl⟩, .int rfl⟩
  cases B2
  · repeat' first|(apply yA;exact rfl)|apply yB|apply yC|((first|apply yD|apply yE);(first|exact yF|assumption);iterate 6 exact rfl)|((first|apply yG|apply yH|apply yI);exact rfl;(first|exact yJ|exact yK rfl rfl|exact yL rfl|exact yM rfl|exact rfl|exact aL rfl rfl rfl rfl rfl|exact aS rfl rfl rfl rfl rfl rfl rfl))|((first|apply yN|apply yO|apply yP);exact rfl)|((first|apply yQ|apply yR|apply yS);(iterate 3 exact rfl);(first|exact c1|exact c2))|(exfalso;omega)|(((first|apply yT|apply yU|apply yV|apply yW);exact rfl;(first|exact .d|exact .e|exact .n|((fail_if_success exact bqt);(fail_if_success exact bqf);exact .b)))<;>intro _)
    exact .ret rfl ⟨_, ⟨_, rfl⟩, .int rfl⟩
  · repeat' first|(apply yA;exact rfl)|apply yB|apply yC|((first|apply yD|apply yE);(first|exact yF|assumption);iterate 6 exact rfl)|((first|apply yG|apply yH|apply yI);exact rfl;(first|exact yJ|exact yK rfl rfl|exact yL rfl|exact yM rfl|exact rfl|exact aL rfl rfl rfl rfl rfl|exact aS rfl rfl rfl rfl rfl rfl rfl))|((first|apply yN|apply yO|apply yP);exact rfl)|((first|apply yQ|apply yR|apply yS);(iterate 3 exact rfl);(first|exact c1|exact c2))|(exfalso;omega)|(((first|apply yT|apply yU|apply yV|apply yW);exact rfl;(first|exact .d|exact .e|exact .n|((fail_if_success exact bqt);(fail_if_success exact bqf);exact .b)))<;>intro _)
    exact .ret rfl ⟨_, ⟨_, rfl⟩, .int rfl⟩
theorem Rise.last {l : List RowD} (h : Rise l) (h0 : 0 < l.length) {q : RowD} (hq : q ∈ l) : q.id ≤ l[l.length - 1].id := by
  obtain ⟨i, hi, rfl⟩ := List.getElem_of_mem hq
  by_cases e : i = l.length - 1
  · subst e; exact Int.le_refl _
  · exact Int.le_of_lt (List.pairwise_iff_getElem.1 h i (l.length - 1) hi (by omega) (by omega))
theorem l6Next_ok (d : Data) (hr : Rise d.rows) (hn : d.rows.length ≤ 60) (hid : ∀ r ∈ d.rows, 1 ≤ r.id ∧ r.id ≤ 1000000000) : Told Tryz.prog 313 [.agg (encData d)] (fun r => ∃ k : Int, 1 ≤ k ∧ k ≤ 1000000001 ∧ (∀ q ∈ d.rows, q.id < k) ∧ r = .c (.int .i64 k)) := by
  refine Told.run mixed c_spec_l6Next_ok (Nat.le_of_ble_eq_true rfl) fun σ hS => ?_
  clear hS
  by_cases h0 : 0 < d.rows.length
  · have h1 : IntKind.i64.wrap ((d.rows.length : Int) - 1) = ((d.rows.length - 1 : Nat) : Int) := by rw [wrap64 (by omega) (by omega)]; omega
    have hlt : d.rows.length - 1 < d.rows.length := by omega
    have hne : ¬ (d.rows.length : Int) = 0 := by omega
    have hi := hid _ (List.getElem_mem hlt)
    repeat' first|(apply yA;exact rfl)|apply yB|apply yC|((first|apply yD|apply yE);(first|exact yF|assumption);iterate 6 exact rfl)|((first|apply yG|apply yH|apply yI);exact rfl;(first|exact yJ|exact yK rfl rfl|exact yL rfl|exact yM rfl|exact rfl|exact aL rfl rfl rfl rfl rfl|exact aS rfl rfl rfl rfl rfl rfl rfl|exact yX (enc := encRowD) rfl rfl h1 hlt rfl))|((first|apply yN|apply yO|apply yP);exact rfl)|(exfalso;omega)|(((first|apply yT|apply yU|apply yV|apply yW);exact rfl;(first|exact .d|exact .e|exact .n|((fail_if_success exact bqt);(fail_if_success exact bqf);exact .b)))<;>intro _)
    refine .ret rfl ⟨_, ⟨d.rows[d.rows.length - 1].id + 1, by omega, by omega, fun q hq => ?_, rfl⟩, .int (wrap64 (by omega) (by omega))⟩
    have := hr.last h0 hq
    omega
  · have he : (d.rows.length : Int) = 0 := by omega
    repeat' first|(apply yA;exact rfl)|apply yB|apply yC|((first|apply yD|apply yE);(first|exact yF|assumption);iterate 6 exact rfl)|((first|apply yG|apply yH|apply yI);exact rfl;(first|exact yJ|exact yK rfl rfl|exact yL rfl|exact yM rfl|exact rfl|exact aL rfl rfl rfl rfl rfl|exact aS rfl rfl rfl rfl rfl rfl rfl))|((first|apply yN|apply yO|apply yP);exact rfl)|(exfalso;omega)|(((first|apply yT|apply yU|apply yV|apply yW);exact rfl;(first|exact .d|exact .e|exact .n|((fail_if_success exact bqt);(fail_if_success exact bqf);exact .b)))<;>intro _)
    refine .ret rfl ⟨_, ⟨1, by omega, by omega, fun q hq => ?_, rfl⟩, .int rfl⟩
    rw [List.eq_nil_of_length_eq_zero (show d.rows.length = 0 by omega)] at hq
    cases hq
/-- What the keys of a table are like, for the rows of some data and another one. -/
structure KeysR (t : Table) (d : Data) (x : RowD) : Prop where
  uniq : t.uniques.length ≤ 3
  len : ∀ k ∈ keysOf t, k.length ≤ 34359738368
  own : ∀ k ∈ keysOf t, InR k x.vals.length
  far : ∀ k ∈ keysOf t, ∀ r ∈ d.rows, InR k r.vals.length
def IdsT (n : Nat) (r : AV) : Prop := ∃ ids : List Int, ids.length ≤ n ∧ r = .c (.fz (ids.map encI))
theorem flatIs2 {xs : List Int} : ∀ e ∈ xs.map encI, ∀ x ∈ e, Flat x := fun e he => (flatIs e he).2
theorem l6Rivals_ok (t : Table) (d : Data) (x : RowD) (hd : d.rows.length ≤ 60) (hK : KeysR t d x) : Told Tryz.prog 330 [.agg (encTable t), .agg (encData d), .agg (encRowD x)] (IdsT 60) := by
  refine Told.run mixed c_spec_l6Rivals_ok (Nat.le_of_ble_eq_true rfl) fun σ hS => ?_
  clear hS
  repeat' first|(apply yA;exact rfl)|apply yB|apply yC|((first|apply yD|apply yE);(first|exact yF|assumption);iterate 6 exact rfl)|((first|apply yG|apply yH|apply yI);exact rfl;(first|exact yJ|exact yK rfl rfl|exact yL rfl|exact yM rfl|exact rfl|exact aL rfl rfl rfl rfl rfl|exact aS rfl rfl rfl rfl rfl rfl rfl))|((first|apply yN|apply yO|apply yP);exact rfl)|(exfalso;omega)|(((first|apply yT|apply yU|apply yV|apply yW);exact rfl;(first|exact .d|exact .e|exact .n|((fail_if_success exact bqt);(fail_if_success exact bqf);exact .b)))<;>intro _)
  refine Go.keep [3, 4, 5, 7, 8] (Go.loops (I := fun m fr τ => ∃ (i : Nat) (k : Int) (ids : List Int) (v : Nat) (junk : List (List Ce)), m = d.rows.length - i ∧ i ≤ d.rows.length ∧ k = i ∧ Jk 1 junk ∧ ids.length ≤ i ∧
    fr = [(3, .c (.fp (encTable t))), (4, .c (.fp (encData d))), (5, .c (.fp (encRowD x))), (7, .c (vec (σ.next + 0) v (ids.map encI) junk)), (8, .c (.int .i64 k))] ∧ τ = E σ [(v, ids.map encI ++ junk)]) ?_ _ _ _ ⟨0, _, [], 0, [], rfl, Nat.zero_le _, rfl, Jk.nil, Nat.zero_le _, rfl, rfl⟩)
  rintro m fr τ ⟨i, k, ids, v, junk, rfl, hi, hk, hj, hil, rfl, rfl⟩ hrec
  by_cases hlt : i < d.rows.length
  · have hbd : ((ids.map encI).length + 1) * 8 ≤ 140737488355328 := by rw [List.length_map]; omega
    have hz1 : ∀ e ∈ ids.map encI, e.length = 1 := fun e he => (flatIs e he).1
    have e1 : ids.map encI ++ [encI d.rows[i].id] = (ids ++ [d.rows[i].id]).map encI := by simp
    have c1 := l5Unique_ok t ⟨[d.rows[i]]⟩ x (by simp) hK.uniq hK.len hK.own (fun k hk r hr => by
      have hr2 : r = d.rows[i] := by simpa using hr
      rw [hr2]
      exact hK.far k hk _ (List.getElem_mem hlt))
    generalize (!((keysOf t).any (twiceF (Data.rows ⟨[d.rows[i]]⟩) x))) = B at c1
    by_cases h0 : d.rows[i].id = x.id
    · repeat' first|(apply yA;exact rfl)|apply yB|apply yC|((first|apply yD|apply yE);(first|exact yF|assumption);iterate 6 exact rfl)|((first|apply yG|apply yH|apply yI);exact rfl;(first|exact yJ|exact yK rfl rfl|exact yL rfl|exact yM rfl|exact rfl|exact aL rfl rfl rfl rfl rfl|exact aS rfl rfl rfl rfl rfl rfl rfl|exact yX (enc := encRowD) rfl rfl hk hlt rfl))|((first|apply yN|apply yO|apply yP);exact rfl)|(exfalso;omega)|(((first|apply yT|apply yU|apply yV|apply yW);exact rfl;(first|exact .d|exact .e|exact .n|((fail_if_success exact bqt);(fail_if_success exact bqf);exact .b)))<;>intro _)
      exact Go.keep [3, 4, 5, 7, 8] (hrec _ _ _ (by omega) ⟨i + 1, _, ids, v, junk, rfl, hlt, wrap_succ hk (by omega), hj, by omega, rfl, rfl⟩)
    · cases B
      · repeat' first|(apply yA;exact rfl)|apply yB|apply yC|((first|apply yD|apply yE);(first|exact yF|assumption);iterate 6 exact rfl)|((first|apply yG|apply yH|apply yI);exact rfl;(first|exact yJ|exact yK rfl rfl|exact yL rfl|exact yM rfl|exact rfl|exact aL rfl rfl rfl rfl rfl|exact aS rfl rfl rfl rfl rfl rfl rfl|exact yX (enc := encRowD) rfl rfl hk hlt rfl))|((first|apply yN|apply yO|apply yP);exact rfl)|(apply Go.app1;exact rfl;exact rfl;exact rfl;exact rfl;exact rfl;exact hz1;exact hj;exact rfl;exact hbd;intro v' junk' hj')|((first|apply yQ|apply yR|apply yS);(iterate 3 exact rfl);exact c1)|(exfalso;omega)|(((first|apply yT|apply yU|apply yV|apply yW);exact rfl;(first|exact .d|exact .e|exact .n|((fail_if_success exact bqt);(fail_if_success exact bqf);exact .b)))<;>intro _)
        refine Go.keep [3, 4, 5, 7, 8] (hrec _ _ _ (by omega) ⟨i + 1, _, ids ++ [d.rows[i].id], v', junk', rfl, hlt, wrap_succ hk (by omega), hj', by simp; omega, ?_, ?_⟩)
        · rw [← e1]; rfl
        · rw [← e1]; rfl
      · repeat' first|(apply yA;exact rfl)|apply yB|apply yC|((first|apply yD|apply yE);(first|exact yF|assumption);iterate 6 exact rfl)|((first|apply yG|apply yH|apply yI);exact rfl;(first|exact yJ|exact yK rfl rfl|exact yL rfl|exact yM rfl|exact rfl|exact aL rfl rfl rfl rfl rfl|exact aS rfl rfl rfl rfl rfl rfl rfl|exact yX (enc := encRowD) rfl rfl hk hlt rfl))|((first|apply yN|apply yO|apply yP);exact rfl)|((first|apply yQ|apply yR|apply yS);(iterate 3 exact rfl);exact c1)|(exfalso;omega)|(((first|apply yT|apply yU|apply yV|apply yW);exact rfl;(first|exact .d|exact .e|exact .n|((fail_if_success exact bqt);(fail_if_success exact bqf);exact .b)))<;>intro _)
        exact Go.keep [3, 4, 5, 7, 8] (hrec _ _ _ (by omega) ⟨i + 1, _, ids, v, junk, rfl, hlt, wrap_succ hk (by omega), hj, by omega, rfl, rfl⟩)
  · repeat' first|(apply yA;exact rfl)|apply yB|apply yC|((first|apply yD|apply yE);(first|exact yF|assumption);iterate 6 exact rfl)|((first|apply yG|apply yH|apply yI);exact rfl;(first|exact yJ|exact yK rfl rfl|exact yL rfl|exact yM rfl|exact rfl|exact aL rfl rfl rfl rfl rfl|exact aS rfl rfl rfl rfl rfl rfl rfl))|((first|apply yN|apply yO|apply yP);exact rfl)|(exfalso;omega)|(((first|apply yT|apply yU|apply yV|apply yW);exact rfl;(first|exact .d|exact .e|exact .n|((fail_if_success exact bqt);(fail_if_success exact bqf);exact .b)))<;>intro _)
    exact .ret rfl ⟨_, ⟨ids, by omega, rfl⟩, _, rfl, frz_drop (n := 0) (k := 0) rfl flatIs2 (Nat.zero_le _) (Nat.le_refl _)⟩
theorem l6Clear_ok (s : List Table) (db : List Data) (q : Int) (n : Nat) (x : RowD) (hq : q = (n : Int)) (hn : n < s.length) (hn2 : n < db.length) (hd : db[n].rows.length ≤ 60) (hK : KeysR s[n] db[n] x) : Told Tryz.prog 314 [.c (.fz (s.map encTable)), .c (.fz (db.map encData)), .c (.int .i64 q), .agg (encRowD x), .c (.bool false), .c (.int .i64 0)] (fun r => r = .tup [.c (.fz (db.map encData)), .c (.int .i64 0)] ∨ r = .tup [.c .nils, .c (.int .i64 4)]) := by
  refine Told.run mixed c_spec_l6Clear_ok (Nat.le_of_ble_eq_true rfl) fun σ hS => ?_
  clear hS
  repeat' first|(apply yA;exact rfl)|apply yB|apply yC|((first|apply yD|apply yE);(first|exact yF|assumption);iterate 6 exact rfl)|((first|apply yG|apply yH|apply yI);exact rfl;(first|exact yJ|exact yK rfl rfl|exact yL rfl|exact yM rfl|exact rfl|exact aL rfl rfl rfl rfl rfl|exact aS rfl rfl rfl rfl rfl rfl rfl|exact yX (enc := encTable) rfl rfl hq hn rfl|exact yX (enc := encData) rfl rfl hq hn2 rfl))|((first|apply yN|apply yO|apply yP);exact rfl)|(exfalso;omega)|(((first|apply yT|apply yU|apply yV|apply yW);exact rfl;(first|exact .d|exact .e|exact .n|((fail_if_success exact bqt);(fail_if_success exact bqf);exact .b)))<;>intro _)
  refine Go.stold rfl rfl rfl (l6Rivals_ok s[n] db[n] x hd hK) ?_
  rintro _ ⟨ids, hl, rfl⟩
  by_cases h0 : 0 < ids.length
  · repeat' first|(apply yA;exact rfl)|apply yB|apply yC|((first|apply yD|apply yE);(first|exact yF|assumption);iterate 6 exact rfl)|((first|apply yG|apply yH|apply yI);exact rfl;(first|exact yJ|exact yK rfl rfl|exact yL rfl|exact yM rfl|exact rfl|exact aL rfl rfl rfl rfl rfl|exact aS rfl rfl rfl rfl rfl rfl rfl))|((first|apply yN|apply yO|apply yP);exact rfl)|(exfalso;omega)|(((first|apply yT|apply yU|apply yV|apply yW);exact rfl;(first|exact .d|exact .e|exact .n|((fail_if_success exact bqt);(fail_if_success exact bqf);exact .b)))<;>intro _)
    exact .ret rfl ⟨_, .inr rfl, _, rfl, .tup rfl fun i hi => by
      have : i = 0 ∨ i = 1 := by simp at hi; omega
      rcases this with rfl | rfl
      · exact .c (.same _ .nils)
      · exact .c (.same _ (.int _ _))⟩
  · have he : (ids.length : Int) = 0 := by omega
    repeat' first|(apply yA;exact rfl)|apply yB|apply yC|((first|apply yD|apply yE);(first|exact yF|assumption);iterate 6 exact rfl)|((first|apply yG|apply yH|apply yI);exact rfl;(first|exact yJ|exact yK rfl rfl|exact yL rfl|exact yM rfl|exact rfl|exact aL rfl rfl rfl rfl rfl|exact aS rfl rfl rfl rfl rfl rfl rfl))|((first|apply yN|apply yO|apply yP);exact rfl)|(exfalso;omega)|(((first|apply yT|apply yU|apply yV|apply yW);exact rfl;(first|exact .d|exact .e|exact .n|((fail_if_success exact bqt);(fail_if_success exact bqf);exact .b)))<;>intro _)
    apply Go.loop
    repeat' first|(apply yA;exact rfl)|apply yB|apply yC|((first|apply yD|apply yE);(first|exact yF|assumption);iterate 6 exact rfl)|((first|apply yG|apply yH|apply yI);exact rfl;(first|exact yJ|exact yK rfl rfl|exact yL rfl|exact yM rfl|exact rfl|exact aL rfl rfl rfl rfl rfl|exact aS rfl rfl rfl rfl rfl rfl rfl))|((first|apply yN|apply yO|apply yP);exact rfl)|(exfalso;omega)|(((first|apply yT|apply yU|apply yV|apply yW);exact rfl;(first|exact .d|exact .e|exact .n|((fail_if_success exact bqt);(fail_if_success exact bqf);exact .b)))<;>intro _)
    exact .ret rfl ⟨_, .inl rfl, _, rfl, .tup rfl fun i hi => by
      have : i = 0 ∨ i = 1 := by simp at hi; omega
      rcases this with rfl | rfl
      · exact .c (.same _ (old_fz1 (oldDatas _)))
      · exact .c (.same _ (.int _ _))⟩
theorem l4Put_ok (d : Data) (x : RowD) (hd : d.rows.length ≤ 60) (hx : ∀ q ∈ d.rows, q.id < x.id) : Pure Tryz.prog 316 [.agg (encData d), .agg (encRowD x)] (.agg (encData ⟨d.rows ++ [x]⟩)) := by
  refine Pure.run mixed c_spec_l4Put_ok (Nat.le_of_ble_eq_true rfl) fun σ hS hA => ?_
  clear hS hA
  repeat' first|(apply yA;exact rfl)|apply yB|apply yC|((first|apply yD|apply yE);(first|exact yF|assumption);iterate 6 exact rfl)|((first|apply yG|apply yH|apply yI);exact rfl;(first|exact yJ|exact yK rfl rfl|exact yL rfl|exact yM rfl|exact rfl|exact aL rfl rfl rfl rfl rfl|exact aS rfl rfl rfl rfl rfl rfl rfl))|((first|apply yN|apply yO|apply yP);exact rfl)|(exfalso;omega)|(((first|apply yT|apply yU|apply yV|apply yW);exact rfl;(first|exact .d|exact .e|exact .n|((fail_if_success exact bqt);(fail_if_success exact bqf);exact .b)))<;>intro _)
  refine Go.keep [2, 3, 4, 5, 6, 7] (Go.loops (I := fun m fr τ => ∃ (i : Nat) (k : Int) (v : Nat) (junk : List (List Ce)), m = d.rows.length - i ∧ i ≤ d.rows.length ∧ k = i ∧ Jk 2 junk ∧
    fr = [(2, .c (.fp (encData d))), (3, .c (.fp (encRowD x))), (4, .c (.ptr (σ.next + 0) 0 0 0)), (5, .c (vec (σ.next + 1) v ((d.rows.take i).map encRowD) junk)), (6, .c (.bool false)), (7, .c (.int .i64 k))] ∧ τ = E σ [(0, [[.nils]]), (v, (d.rows.take i).map encRowD ++ junk)]) ?_ _ _ _ ⟨0, _, 0, [], rfl, Nat.zero_le _, rfl, Jk.nil, rfl, rfl⟩)
  rintro m fr τ ⟨i, k, v, junk, rfl, hi, hk, hj, rfl, rfl⟩ hrec
  have hbd : (((d.rows.take i).map encRowD).length + 1) * 32 ≤ 140737488355328 := by rw [List.length_map, List.length_take]; omega
  by_cases hlt : i < d.rows.length
  · have hid := hx _ (List.getElem_mem hlt)
    have e1 : (d.rows.take i).map encRowD ++ [encRowD d.rows[i]] = (d.rows.take (i + 1)).map encRowD := by rw [List.take_succ_eq_append_getElem hlt, List.map_append]; rfl
    have hng : ¬ d.rows[i].id ≥ x.id := by omega
    have hne : ¬ d.rows[i].id = x.id := by omega
    repeat' first|(apply yA;exact rfl)|apply yB|apply yC|((first|apply yD|apply yE);(first|exact yF|assumption);iterate 6 exact rfl)|((first|apply yG|apply yH|apply yI);exact rfl;(first|exact yJ|exact yK rfl rfl|exact yL rfl|exact yM rfl|exact rfl|exact aL rfl rfl rfl rfl rfl|exact aS rfl rfl rfl rfl rfl rfl rfl|exact yX (enc := encRowD) rfl rfl hk hlt rfl))|((first|apply yN|apply yO|apply yP);exact rfl)|(apply Go.app1;exact rfl;exact rfl;exact rfl;exact rfl;exact rfl;exact rowD_len;exact hj;exact rfl;exact hbd;intro v' junk' hj')|(exfalso;omega)|(((first|apply yT|apply yU|apply yV|apply yW);exact rfl;(first|exact .d|exact .e|exact .n|((fail_if_success exact bqt);(fail_if_success exact bqf);exact .b)))<;>intro _)
    all_goals first
      | (exfalso; omega)
      | skip
    refine Go.keep [2, 3, 4, 5, 6, 7] (hrec _ _ _ (by omega) ⟨i + 1, _, v', junk', rfl, hlt, wrap_succ hk (by omega), hj', ?_, ?_⟩)
    · rw [← e1]; rfl
    · rw [← e1]; rfl
  · repeat' first|(apply yA;exact rfl)|apply yB|apply yC|((first|apply yD|apply yE);(first|exact yF|assumption);iterate 6 exact rfl)|((first|apply yG|apply yH|apply yI);exact rfl;(first|exact yJ|exact yK rfl rfl|exact yL rfl|exact yM rfl|exact rfl|exact aL rfl rfl rfl rfl rfl|exact aS rfl rfl rfl rfl rfl rfl rfl))|((first|apply yN|apply yO|apply yP);exact rfl)|(apply Go.app1;exact rfl;exact rfl;exact rfl;exact rfl;exact rfl;exact rowD_len;exact hj;exact rfl;exact hbd;intro v' junk' hj')|(exfalso;omega)|(((first|apply yT|apply yU|apply yV|apply yW);exact rfl;(first|exact .d|exact .e|exact .n|((fail_if_success exact bqt);(fail_if_success exact bqf);exact .b)))<;>intro _)
    refine .ret (retv_m rfl rfl rfl (Nat.zero_le _) rfl) ⟨_, rfl, .agg rfl fun j hj0 => ?_⟩
    have hj1 : j = 0 := by simp at hj0; omega
    subst hj1
    have e1 : (d.rows.take i).map encRowD ++ [encRowD x] = (d.rows ++ [x]).map encRowD := by rw [List.take_of_length_le (by omega), List.map_append]; rfl
    have hz : FrzV (E σ [(0, [[vec (σ.next + 1) v' ((d.rows.take i).map encRowD ++ [encRowD x]) junk']]), (v', (d.rows.take i).map encRowD ++ [encRowD x] ++ junk')]) σ.next (.c (vec (σ.next + 1) v' ((d.rows.take i).map encRowD ++ [encRowD x]) junk')) (.c (.fz ((d.rows.take i).map encRowD ++ [encRowD x]))) :=
      frz_old (k := 1) rfl (by rw [e1]; exact oldRows _) (Nat.le_add_right _ _)
    cases hz with
    | c h =>
      have h2 : Frz (E σ [(0, [[vec (σ.next + 1) v' ((d.rows.take i).map encRowD ++ [encRowD x]) junk']]), (v', (d.rows.take i).map encRowD ++ [encRowD x] ++ junk')]) σ.next (vec (σ.next + 1) v' ((d.rows.take i).map encRowD ++ [encRowD x]) junk') (.fz ((d.rows ++ [x]).map encRowD)) := by
        rw [← e1]
        exact h
      exact h2
end Go.Proofs.YteafjabcpmpmgaaGreat.Am

/- A row put in by the reference: whole, told by existence. -/
set_option linter.unusedVariables false
set_option linter.unusedSimpArgs false
namespace Go.Proofs.YteafjabcpmpmgaaGreat.Am

theorem splice1 (e : List Ce) (x : Ce) (h : e.length = 1) : splice e 0 [x] = [x] := by
  rw [splice, List.take_zero, List.nil_append, List.drop_eq_nil_of_le (by simp; omega), List.append_nil]
theorem set_left {α : Type} {l m : List α} {i : Nat} {x : α} (h : i < l.length) : (l ++ m).set i x = l.set i x ++ m := List.set_append_left _ _ h
theorem l4With_ok (db : List Data) (q : Int) (n : Nat) (d : Data) (hq : q = (n : Int)) (hn : n < db.length) (hd : db.length ≤ 60) : Pure Tryz.prog 315 [.c (.fz (db.map encData)), .c (.int .i64 q), .agg (encData d)] (.c (.fz ((db.set n d).map encData))) := by
  refine Pure.run mixed c_spec_l4With_ok (Nat.le_of_ble_eq_true rfl) fun σ hS hA => ?_
  clear hS hA
  repeat' first|(apply yA;exact rfl)|apply yB|apply yC|((first|apply yD|apply yE);(first|exact yF|assumption);iterate 6 exact rfl)|((first|apply yG|apply yH|apply yI);exact rfl;(first|exact yJ|exact yK rfl rfl|exact yL rfl|exact yM rfl|exact rfl|exact aL rfl rfl rfl rfl rfl|exact aS rfl rfl rfl rfl rfl rfl rfl))|((first|apply yN|apply yO|apply yP);exact rfl)|(exfalso;omega)|(((first|apply yT|apply yU|apply yV|apply yW);exact rfl;(first|exact .d|exact .e|exact .n|((fail_if_success exact bqt);(fail_if_success exact bqf);exact .b)))<;>intro _)
  refine Go.app (k := 0) (ys := []) (junk := []) (zs := db.map encData) rfl rfl rfl rfl rfl (fun e he => by cases he) Jk.nil data_len (by simp; omega) fun v junk hj => ?_
  have hn2 : n < (db.map encData).length := by simpa using hn
  have hg : (E σ [(v, [] ++ db.map encData ++ junk)]).get (σ.next + 0) = some (v, [] ++ db.map encData ++ junk) := E_get (k := 0) rfl
  have he : ([] ++ db.map encData ++ junk)[0 + n]? = some (encData db[n]) := by
    rw [List.nil_append, Nat.zero_add, List.getElem?_append_left hn2]
    simp [hn]
  have he2 : ([] ++ db.map encData ++ junk)[0 + n]? = some (encData db[n]) := he
  repeat' first|(apply yA;exact rfl)|apply yB|apply yC|((first|apply yD|apply yE);(first|exact yF|assumption);iterate 6 exact rfl)|((first|apply yG|apply yH|apply yI);exact rfl;(first|exact yJ|exact yK rfl rfl|exact yL rfl|exact yM rfl|exact rfl|exact aL rfl rfl rfl rfl rfl|exact aS rfl rfl rfl rfl rfl rfl rfl|exact aop_iaddrO rfl rfl hq (by simpa using hn2) hg he rfl|exact aop_store (k := 0) rfl rfl rfl rfl he2 rfl (Nat.le_of_ble_eq_true rfl)))|((first|apply yN|apply yO|apply yP);exact rfl)|(exfalso;omega)|(((first|apply yT|apply yU|apply yV|apply yW);exact rfl;(first|exact .d|exact .e|exact .n|((fail_if_success exact bqt);(fail_if_success exact bqf);exact .b)))<;>intro _)
  refine .ret rfl ⟨_, rfl, ?_⟩
  have e1 : ([] ++ db.map encData ++ junk).set (0 + n) (splice (encData db[n]) 0 (encData d)) = (db.set n d).map encData ++ junk := by
    rw [List.nil_append, Nat.zero_add, show splice (encData db[n]) 0 (encData d) = encData d from splice1 _ _ rfl, set_left hn2, List.map_set]
  have hz := frz_old (σ := σ) (l := [(v, (db.set n d).map encData ++ junk)]) (k := 0) (N := σ.next) (v := v) (ys := (db.set n d).map encData) (junk := junk) rfl (oldDatas _) (Nat.le_refl _)
  rw [← e1] at hz
  have e2 : vec (σ.next + 0) v ((db.set n d).map encData) junk = vec (σ.next + 0) v ([] ++ db.map encData) junk := by simp [vec]
  rw [e2] at hz
  exact hz
def outC (db : List Data) (i : Nat) : List (List Ce) := (db.take i).map encData ++ List.replicate (db.length - i) [.nils]
theorem outC_at {db : List Data} {i : Nat} (h : i < db.length) : (outC db i)[0 + i]? = some [.nils] := by
  rw [outC, Nat.zero_add, List.getElem?_append_right (by rw [List.length_map, List.length_take]; omega), List.getElem?_replicate, if_pos (by rw [List.length_map, List.length_take]; omega)]
theorem outC_set {db : List Data} {i : Nat} (h : i < db.length) : (outC db i).set (0 + i) (encData db[i]) = outC db (i + 1) := by
  have e1 : db.length - i = (db.length - (i + 1)) + 1 := by omega
  have e2 : i - (db.take i).length = 0 := by rw [List.length_take]; omega
  rw [outC, outC, Nat.zero_add, List.set_append_right _ _ (by simp; omega), List.length_map, e2, e1, List.replicate_succ, List.set_cons_zero, List.take_succ_eq_append_getElem h, List.map_append, List.append_assoc]
  rfl
theorem l4Copy_ok (db : List Data) (hd : db.length ≤ 60) (hr : ∀ d ∈ db, d.rows.length ≤ 60 ∧ ∀ r ∈ d.rows, r.vals.length ≤ 34359738368) : Pure Tryz.prog 284 [.c (.fz (db.map encData))] (.c (.fz (db.map encData))) := by
  refine Pure.run mixed c_spec_l4Copy_ok (Nat.le_of_ble_eq_true rfl) fun σ hS hA => ?_
  clear hA
  have hmk : 24 * db.length ≤ 140737488355328 := by omega
  repeat' first|(apply yA;exact rfl)|apply yB|apply yC|((first|apply yD|apply yE);(first|exact yF|assumption);iterate 6 exact rfl)|((first|apply yG|apply yH|apply yI);exact rfl;(first|exact yJ|exact yK rfl rfl|exact yL rfl|exact yM rfl|exact rfl|exact aL rfl rfl rfl rfl rfl|exact aS rfl rfl rfl rfl rfl rfl rfl|exact aop_mkslice rfl rfl hmk))|((first|apply yN|apply yO|apply yP);exact rfl)|(exfalso;omega)|(((first|apply yT|apply yU|apply yV|apply yW);exact rfl;(first|exact .d|exact .e|exact .n|((fail_if_success exact bqt);(fail_if_success exact bqf);exact .b)))<;>intro _)
  refine Go.keep [0, 3, 4] (Go.loops (I := fun m fr τ => ∃ (i : Nat) (k : Int), m = db.length - i ∧ i ≤ db.length ∧ k = i ∧
    fr = [(0, .c (.fz (db.map encData))), (3, .c (.sl (σ.next + 0) 0 0 db.length db.length)), (4, .c (.int .i64 k))] ∧ τ = E σ [(0, outC db i)]) ?_ _ _ _ ⟨0, _, rfl, Nat.zero_le _, rfl, rfl, by rw [outC]; simp⟩)
  rintro m fr τ ⟨i, k, rfl, hi, hk, rfl, rfl⟩ hrec
  by_cases hlt : i < db.length
  · obtain ⟨hr1, hr2⟩ := hr _ (List.getElem_mem hlt)
    repeat' first|(apply yA;exact rfl)|apply yB|apply yC|((first|apply yD|apply yE);(first|exact yF|assumption);iterate 6 exact rfl)|((first|apply yG|apply yH|apply yI);exact rfl;(first|exact yJ|exact yK rfl rfl|exact yL rfl|exact yM rfl|exact rfl|exact aL rfl rfl rfl rfl rfl|exact aS rfl rfl rfl rfl rfl rfl rfl))|((first|apply yN|apply yO|apply yP);exact rfl)|(exfalso;omega)|(((first|apply yT|apply yU|apply yV|apply yW);exact rfl;(first|exact .d|exact .e|exact .n|((fail_if_success exact bqt);(fail_if_success exact bqf);exact .b)))<;>intro _)
    refine Go.keep [0, 3, 4, 5, 6] (Go.loops (I := fun m fr τ => ∃ (j : Nat) (kj : Int) (v : Nat) (junk : List (List Ce)), m = db[i].rows.length - j ∧ j ≤ db[i].rows.length ∧ kj = j ∧ Jk 2 junk ∧
      fr = [(0, .c (.fz (db.map encData))), (3, .c (.sl (σ.next + 0) 0 0 db.length db.length)), (4, .c (.int .i64 k)), (5, .c (vec (σ.next + 1) v ((db[i].rows.take j).map encRowD) junk)), (6, .c (.int .i64 kj))] ∧ τ = E σ [(0, outC db i), (v, (db[i].rows.take j).map encRowD ++ junk)]) ?_ _ _ _ ⟨0, _, 0, [], rfl, Nat.zero_le _, rfl, Jk.nil, rfl, rfl⟩)
    rintro m fr τ ⟨j, kj, v, junk, rfl, hj, hkj, hjk, rfl, rfl⟩ hrecj
    by_cases hltj : j < db[i].rows.length
    · have hbd : (((db[i].rows.take j).map encRowD).length + 1) * 32 ≤ 140737488355328 := by rw [List.length_map, List.length_take]; omega
      have e1 : (db[i].rows.take j).map encRowD ++ [encRowD db[i].rows[j]] = (db[i].rows.take (j + 1)).map encRowD := by rw [List.take_succ_eq_append_getElem hltj, List.map_append]; rfl
      have cc := l1CopyVals_pure db[i].rows[j].vals (hr2 _ (List.getElem_mem hltj))
      repeat' first|(apply yA;exact rfl)|apply yB|apply yC|((first|apply yD|apply yE);(first|exact yF|assumption);iterate 6 exact rfl)|((first|apply yG|apply yH|apply yI);exact rfl;(first|exact yJ|exact yK rfl rfl|exact yL rfl|exact yM rfl|exact rfl|exact aL rfl rfl rfl rfl rfl|exact aS rfl rfl rfl rfl rfl rfl rfl|exact yX (enc := encData) rfl rfl hk hlt rfl|exact yX (enc := encRowD) rfl rfl hkj hltj rfl))|((first|apply yN|apply yO|apply yP);exact rfl)|(apply Go.sapp1;exact rfl;exact rfl;exact rfl;exact rfl;exact rfl;exact rowD_len;exact hjk;exact rfl;exact hbd;intro v' junk' hj')|((first|apply yQ|apply yR|apply yS);(iterate 3 exact rfl);exact cc)|(exfalso;omega)|(((first|apply yT|apply yU|apply yV|apply yW);exact rfl;(first|exact .d|exact .e|exact .n|((fail_if_success exact bqt);(fail_if_success exact bqf);exact .b)))<;>intro _)
      refine Go.keep [0, 3, 4, 5, 6] (hrecj _ _ _ (by omega) ⟨j + 1, _, v', junk', rfl, hltj, wrap_succ hkj (by omega), hj', ?_, ?_⟩)
      · rw [← e1]; rfl
      · rw [← e1]; rfl
    · clear hrecj
      repeat' first|(apply yA;exact rfl)|apply yB|apply yC|((first|apply yD|apply yE);(first|exact yF|assumption);iterate 6 exact rfl)|((first|apply yG|apply yH|apply yI);exact rfl;(first|exact yJ|exact yK rfl rfl|exact yL rfl|exact yM rfl|exact rfl|exact aL rfl rfl rfl rfl rfl|exact aS rfl rfl rfl rfl rfl rfl rfl|exact yX (enc := encData) rfl rfl hk hlt rfl))|((first|apply yN|apply yO|apply yP);exact rfl)|(exfalso;omega)|(((first|apply yT|apply yU|apply yV|apply yW);exact rfl;(first|exact .d|exact .e|exact .n|((fail_if_success exact bqt);(fail_if_success exact bqf);exact .b)))<;>intro _)
      have e1 : db[i].rows.take j = db[i].rows := List.take_of_length_le (by omega)
      rw [e1]
      refine Go.freezeN (l := [(0, outC db i)]) (m := [(v, db[i].rows.map encRowD ++ junk)]) (fr' := [(0, .c (.fz (db.map encData))), (3, .c (.sl (σ.next + 0) 0 0 db.length db.length)), (4, .c (.int .i64 k)), (50, .c (.sl (σ.next + 0) 0 0 db.length db.length)), (51, .c (.int .i64 k)), (53, .agg [.fz (db[i].rows.map encRowD)])]) hS (fun b hb e he x hx => ?_) (Nat.le_refl _) (.frz rfl (.refl fun y hy => ?_) (.frz rfl (.refl (old_sl (Nat.lt_succ_self _))) (.frz rfl (.refl old_c) (.frz rfl (.refl (old_sl (Nat.lt_succ_self _))) (.frz rfl (.refl old_c) (.frz rfl (.agg rfl fun j hj0 => ?_) .nil)))))) ?_
      · rw [List.mem_singleton.1 hb] at he
        rcases List.mem_append.1 he with he | he
        · exact oldDatas _ e he x hx
        · rw [List.eq_of_mem_replicate he] at hx
          rw [List.mem_singleton.1 hx]
          exact .nils
      · rw [List.mem_singleton.1 hy]
        exact old_fz1 (oldDatas _)
      · have hz : FrzV (E σ ([(0, outC db i)] ++ [(v, db[i].rows.map encRowD ++ junk)])) (σ.next + [(0, outC db i)].length) (.c (vec (σ.next + 1) v (db[i].rows.map encRowD) junk)) (.c (.fz (db[i].rows.map encRowD))) := frz_old (k := 1) rfl (oldRows _) (Nat.le_refl _)
        have hj1 : j = 0 := by have hj9 : j < 1 := hj0; omega
        subst hj1
        cases hz with
        | c h => exact h
      have he := outC_at hlt
      have hg : (E σ [(0, outC db i)]).get (σ.next + 0) = some (0, outC db i) := E_get (k := 0) rfl
      repeat' first|(apply yA;exact rfl)|apply yB|apply yC|((first|apply yD|apply yE);(first|exact yF|assumption);iterate 6 exact rfl)|((first|apply yG|apply yH|apply yI);exact rfl;(first|exact yJ|exact yK rfl rfl|exact yL rfl|exact yM rfl|exact rfl|exact aL rfl rfl rfl rfl rfl|exact aS rfl rfl rfl rfl rfl rfl rfl|exact aop_iaddrO rfl rfl hk hlt hg he rfl|exact aop_store (k := 0) rfl rfl rfl rfl he rfl (Nat.le_of_ble_eq_true rfl)))|((first|apply yN|apply yO|apply yP);exact rfl)|(exfalso;omega)|(((first|apply yT|apply yU|apply yV|apply yW);exact rfl;(first|exact .d|exact .e|exact .n|((fail_if_success exact bqt);(fail_if_success exact bqf);exact .b)))<;>intro _)
      refine Go.keep [0, 3, 4] (hrec _ _ _ (by omega) ⟨i + 1, _, rfl, hlt, wrap_succ hk (by omega), rfl, ?_⟩)
      rw [← outC_set hlt]
      rfl
  · repeat' first|(apply yA;exact rfl)|apply yB|apply yC|((first|apply yD|apply yE);(first|exact yF|assumption);iterate 6 exact rfl)|((first|apply yG|apply yH|apply yI);exact rfl;(first|exact yJ|exact yK rfl rfl|exact yL rfl|exact yM rfl|exact rfl|exact aL rfl rfl rfl rfl rfl|exact aS rfl rfl rfl rfl rfl rfl rfl))|((first|apply yN|apply yO|apply yP);exact rfl)|(exfalso;omega)|(((first|apply yT|apply yU|apply yV|apply yW);exact rfl;(first|exact .d|exact .e|exact .n|((fail_if_success exact bqt);(fail_if_success exact bqf);exact .b)))<;>intro _)
    refine .ret rfl ⟨_, rfl, ?_⟩
    have e1 : outC db i = db.map encData ++ [] := by rw [outC, List.take_of_length_le (by omega), show db.length - i = 0 by omega]; rfl
    have hz := frz_old (σ := σ) (l := [(0, db.map encData ++ [])]) (k := 0) (N := σ.next) (v := 0) (ys := db.map encData) (junk := []) rfl (oldDatas _) (Nat.le_refl _)
    rw [← e1] at hz
    have e2 : vec (σ.next + 0) 0 (db.map encData) [] = .sl (σ.next + 0) 0 0 db.length db.length := by simp [vec]
    rw [e2] at hz
    exact hz
theorem DbNew_ok (s : List Table) (hx : s.length ≤ 34359738368) (hb : ∀ t ∈ s, bTable 34359738368 t) : Pure Tryz.prog 139 [.c (.fz (s.map encTable))] (.tup [.c (.fz ((if schemaF s then List.replicate s.length (⟨[]⟩ : Data) else []).map encData)), .c (.bool (schemaF s))]) := by
  refine Pure.run mixed c_spec_DbNew_ok (Nat.le_of_ble_eq_true rfl) fun σ hS hA => ?_
  clear hS hA
  have c1 := sSchemaOk_ok s hx hb
  cases h : schemaF s
  · rw [h] at c1
    repeat' first|(apply yA;exact rfl)|apply yB|apply yC|((first|apply yD|apply yE);(first|exact yF|assumption);iterate 6 exact rfl)|((first|apply yG|apply yH|apply yI);exact rfl;(first|exact yJ|exact yK rfl rfl|exact yL rfl|exact yM rfl|exact rfl|exact aL rfl rfl rfl rfl rfl|exact aS rfl rfl rfl rfl rfl rfl rfl))|((first|apply yN|apply yO|apply yP);exact rfl)|((first|apply yQ|apply yR|apply yS);(iterate 3 exact rfl);exact c1)|(exfalso;omega)|(((first|apply yT|apply yU|apply yV|apply yW);exact rfl;(first|exact .d|exact .e|exact .n|((fail_if_success exact bqt);(fail_if_success exact bqf);exact .b)))<;>intro _)
    exact .ret rfl ⟨_, rfl, .tup rfl fun i hi => by
      have : i = 0 ∨ i = 1 := by simp at hi; omega
      rcases this with rfl | rfl
      · exact .c .nil
      · exact .c (.same _ (.bool _))⟩
  · rw [h] at c1
    have h5 : s.length ≤ 5 := by
      simp only [schemaF, Bool.and_eq_true, decide_eq_true_eq] at h
      omega
    have hmk : 24 * s.length ≤ 140737488355328 := by omega
    repeat' first|(apply yA;exact rfl)|apply yB|apply yC|((first|apply yD|apply yE);(first|exact yF|assumption);iterate 6 exact rfl)|((first|apply yG|apply yH|apply yI);exact rfl;(first|exact yJ|exact yK rfl rfl|exact yL rfl|exact yM rfl|exact rfl|exact aL rfl rfl rfl rfl rfl|exact aS rfl rfl rfl rfl rfl rfl rfl|exact aop_mkslice rfl rfl hmk))|((first|apply yN|apply yO|apply yP);exact rfl)|((first|apply yQ|apply yR|apply yS);(iterate 3 exact rfl);exact c1)|(exfalso;omega)|(((first|apply yT|apply yU|apply yV|apply yW);exact rfl;(first|exact .d|exact .e|exact .n|((fail_if_success exact bqt);(fail_if_success exact bqf);exact .b)))<;>intro _)
    refine .ret rfl ⟨_, rfl, .tup rfl fun i hi => ?_⟩
    have : i = 0 ∨ i = 1 := by simp at hi; omega
    rcases this with rfl | rfl
    · have e1 : (List.replicate s.length (⟨[]⟩ : Data)).map encData = List.replicate s.length [.fz []] := by rw [List.map_replicate]; rfl
      refine .c (.sl _ _ _ _ _ (List.replicate s.length [.nils]) _ (Nat.le_add_right _ _) (E_get (k := 0) rfl) (by simp) (by simp) (fun k hk => ?_) (fun k j hk hj => ?_))
      · simp only [if_true, e1, List.getElem_replicate]
        rfl
      · have hj0 : j = 0 := by
          simp only [if_true, e1, List.getElem_replicate] at hj
          simpa using hj
        subst hj0
        simp only [if_true, e1, List.getElem_replicate]
        exact .nil
    · exact .c (.same _ (.bool _))
/-! ### what stays right -/
theorem rowsAux_snoc {t : Table} {x : RowD} (h1 : isIn x.id 1 1000000000 = true) (h2 : fitF t x.vals = true) : ∀ {l : List RowD} {p : Option Int}, rowsAux t p l = true → (∀ q ∈ l, q.id < x.id) → (∀ q, p = some q → q < x.id) → rowsAux t p (l ++ [x]) = true
  | [], p, _, _, h => by
    have h3 : risesId p x.id = true := by
      cases p with
      | none => rfl
      | some q => exact decide_eq_true (h q rfl)
    simp [rowsAux, rowOne, h1, h2, h3]
  | a :: l, p, h, hl, hp => by
    rw [rowsAux, Bool.and_eq_true] at h
    rw [List.cons_append, rowsAux, h.1, rowsAux_snoc h1 h2 h.2 (fun q hq => hl q (by simp [hq])) fun q hq => by injection hq with hq; rw [← hq]; exact hl a (by simp)]
    rfl
theorem dbAux_of : ∀ {s : List Table} {db : List Data}, (∀ i (hi : i < s.length) (hi2 : i < db.length), rowsF s[i] db[i].rows = true) → dbAux s db = true
  | [], _, _ => by simp [dbAux]
  | _ :: _, [], _ => by simp [dbAux]
  | t :: s, d :: db, h => by
    rw [dbAux, show rowsF t d.rows = true from h 0 (by simp) (by simp), dbAux_of fun i hi hi2 => h (i + 1) (by simp; omega) (by simp; omega)]
    rfl
theorem dbF_put {s : List Table} {db : List Data} (h : dbF s db = true) {n : Nat} (hn : n < s.length) (hn2 : n < db.length) {x : RowD} (h1 : isIn x.id 1 1000000000 = true) (h2 : fitF s[n] x.vals = true) (h3 : ∀ q ∈ db[n].rows, q.id < x.id) (h4 : db[n].rows.length < 60) : dbF s (db.set n ⟨db[n].rows ++ [x]⟩) = true := by
  obtain ⟨hs, hl, hrows⟩ := dbF_at h
  rw [dbF, hs, List.length_set, decide_eq_true (by omega), Bool.true_and, Bool.true_and]
  refine dbAux_of fun i hi hi2 => ?_
  rw [List.getElem_set]
  split
  · rename_i e
    subst e
    have hr := hrows n hn hn2
    rw [rowsF, Bool.and_eq_true] at hr ⊢
    exact ⟨rowsAux_snoc h1 h2 hr.1 h3 (fun q hq => nomatch hq), by rw [List.length_append, List.length_singleton]; exact decide_eq_true (by omega)⟩
  · exact hrows i hi _
theorem dbF_b {s : List Table} {db : List Data} (h : dbF s db = true) : db.length ≤ 5 ∧ (∀ d ∈ db, bData 34359738368 d) ∧ ∀ d ∈ db, d.rows.length ≤ 60 ∧ ∀ r ∈ d.rows, 1 ≤ r.vals.length ∧ r.vals.length ≤ 8 ∧ ∀ w ∈ r.vals, bV 12 w := by
  obtain ⟨hs, hl, hrows⟩ := dbF_at h
  have h5 : s.length ≤ 5 := by
    have := hs
    simp only [schemaF, Bool.and_eq_true, decide_eq_true_eq] at this
    omega
  have key : ∀ d ∈ db, d.rows.length ≤ 60 ∧ ∀ r ∈ d.rows, 1 ≤ r.vals.length ∧ r.vals.length ≤ 8 ∧ ∀ w ∈ r.vals, bV 12 w := fun d hd => by
    obtain ⟨i, hi, rfl⟩ := List.getElem_of_mem hd
    have hr := rowsF_mem (hrows i (by omega) hi)
    refine ⟨hr.1, fun r hm => ?_⟩
    obtain ⟨f1, f2⟩ := fitF_vals (hr.2 r hm).1
    have hc := schemaF_cols hs _ (List.getElem_mem (show i < s.length by omega))
    refine ⟨by omega, by omega, fun w hw => ?_⟩
    have := f2 w hw
    simp only [okVal, Bool.or_eq_true, Bool.and_eq_true, beq_iff_eq, decide_eq_true_eq] at this
    rw [bV]
    rcases this with (⟨_, h⟩ | ⟨_, h⟩) | ⟨_, h⟩
    · rw [h]; simp
    · rw [h]; simp
    · omega
  refine ⟨by omega, fun d hd => ⟨by have := (key d hd).1; omega, fun r hr => ?_⟩, key⟩
  obtain ⟨_, k2, k3⟩ := (key d hd).2 r hr
  exact ⟨by omega, fun w hw => Nat.le_trans (k3 w hw) (by decide)⟩
/-- A right database with a code, or none with another one. -/
def Put (s : List Table) (bad : Int → Prop) (r : AV) : Prop := ∃ y id code, r = .tup [.c y, .c (.int .i64 id), .c (.int .i64 code)] ∧ (¬ bad code → ∃ db, dbF s db = true ∧ y = .fz (db.map encData))
theorem fin_put {σ : Store} {l : List (Nat × List (List Ce))} {y : Ce} {a b : Int} (hy : Old σ.next y) : FrzV (E σ l) σ.next (.tup [.c y, .c (.int .i64 a), .c (.int .i64 b)]) (.tup [.c y, .c (.int .i64 a), .c (.int .i64 b)]) := .tup rfl fun i hi => by
  have : i = 0 ∨ i = 1 ∨ i = 2 := by simp at hi; omega
  rcases this with rfl | rfl | rfl
  · exact .c (.same _ hy)
  · exact .c (.same _ (.int _ _))
  · exact .c (.same _ (.int _ _))
theorem l6Insert_ok (s : List Table) (db : List Data) (q : Int) (n : Nat) (vals : List Val) (hq : q = (n : Int)) (hn : n < s.length) (hn2 : n < db.length) (h : dbF s db = true) (hb : ∀ t ∈ s, bTable 34359738368 t) (hf : fitF s[n] vals = true) :
    Told Tryz.prog 283 [.c (.fz (s.map encTable)), .c (.fz (db.map encData)), .c (.int .i64 q), .c (.fz (vals.map encV)), .c (.bool false)] (Put s fun c => c ≠ 0) := by
  refine Told.run mixed c_spec_l6Insert_ok (Nat.le_of_ble_eq_true rfl) fun σ hS => ?_
  clear hS
  obtain ⟨hs, hl, hrows⟩ := dbF_at h
  have hrn := hrows n hn hn2
  have hmem := rowsF_mem hrn
  have hT := schemaF_tab hs _ (List.getElem_mem hn)
  have hfv := fitF_vals hf
  have h5 := (dbF_b h).1
  have c0 := l6Able_ok s[n] vals hfv.1 hT (fitF_are hf hT.cols8)
  repeat' first|(apply yA;exact rfl)|apply yB|apply yC|((first|apply yD|apply yE);(first|exact yF|assumption);iterate 6 exact rfl)|((first|apply yG|apply yH|apply yI);exact rfl;(first|exact yJ|exact yK rfl rfl|exact yL rfl|exact yM rfl|exact rfl|exact aL rfl rfl rfl rfl rfl|exact aS rfl rfl rfl rfl rfl rfl rfl|exact yX (enc := encTable) rfl rfl hq hn rfl))|((first|apply yN|apply yO|apply yP);exact rfl)|(exfalso;omega)|(((first|apply yT|apply yU|apply yV|apply yW);exact rfl;(first|exact .d|exact .e|exact .n|((fail_if_success exact bqt);(fail_if_success exact bqf);exact .b)))<;>intro _)
  refine Go.told rfl rfl rfl c0 ?_
  rintro _ ⟨code, rfl⟩
  by_cases h0 : code = 0
  · subst h0
    repeat' first|(apply yA;exact rfl)|apply yB|apply yC|((first|apply yD|apply yE);(first|exact yF|assumption);iterate 6 exact rfl)|((first|apply yG|apply yH|apply yI);exact rfl;(first|exact yJ|exact yK rfl rfl|exact yL rfl|exact yM rfl|exact rfl|exact aL rfl rfl rfl rfl rfl|exact aS rfl rfl rfl rfl rfl rfl rfl|exact yX (enc := encData) rfl rfl hq hn2 rfl))|((first|apply yN|apply yO|apply yP);exact rfl)|(exfalso;omega)|(((first|apply yT|apply yU|apply yV|apply yW);exact rfl;(first|exact .d|exact .e|exact .n|((fail_if_success exact bqt);(fail_if_success exact bqf);exact .b)))<;>intro _)
    refine Go.told rfl rfl rfl (l6Next_ok db[n] (rowsF_rise hrn) hmem.1 fun r hr => ?_) ?_
    · have := (hmem.2 r hr).2
      simp only [isIn, Bool.and_eq_true, decide_eq_true_eq] at this
      exact this
    rintro _ ⟨k, hk1, hk2, hk3, rfl⟩
    have cc := l1CopyVals_pure vals (by have h8 := hT.cols8; have hf1 := hfv.1; omega)
    repeat' first|(apply yA;exact rfl)|apply yB|apply yC|((first|apply yD|apply yE);(first|exact yF|assumption);iterate 6 exact rfl)|((first|apply yG|apply yH|apply yI);exact rfl;(first|exact yJ|exact yK rfl rfl|exact yL rfl|exact yM rfl|exact rfl|exact aL rfl rfl rfl rfl rfl|exact aS rfl rfl rfl rfl rfl rfl rfl))|((first|apply yN|apply yO|apply yP);exact rfl)|((first|apply yQ|apply yR|apply yS);(iterate 3 exact rfl);exact cc)|(exfalso;omega)|(((first|apply yT|apply yU|apply yV|apply yW);exact rfl;(first|exact .d|exact .e|exact .n|((fail_if_success exact bqt);(fail_if_success exact bqf);exact .b)))<;>intro _)
    have hR := db_tab h hb hn hn2
    have hK : KeysR s[n] db[n] ⟨k, vals⟩ := ⟨hT.uniq3, hR.keys, fun c hc => by show InR c vals.length; rw [hfv.1]; exact hR.inr c hc, fun c hc r hr => by rw [(hR.row r hr).len]; exact hR.inr c hc⟩
    refine Go.told rfl rfl rfl (l6Clear_ok s db q n ⟨k, vals⟩ hq hn hn2 hmem.1 hK) ?_
    rintro _ (rfl | rfl)
    · by_cases hfull : db[n].rows.length = 60
      · have hfi : (db[n].rows.length : Int) = 60 := by omega
        repeat' first|(apply yA;exact rfl)|apply yB|apply yC|((first|apply yD|apply yE);(first|exact yF|assumption);iterate 6 exact rfl)|((first|apply yG|apply yH|apply yI);exact rfl;(first|exact yJ|exact yK rfl rfl|exact yL rfl|exact yM rfl|exact rfl|exact aL rfl rfl rfl rfl rfl|exact aS rfl rfl rfl rfl rfl rfl rfl|exact yX (enc := encData) rfl rfl hq hn2 rfl))|((first|apply yN|apply yO|apply yP);exact rfl)|(exfalso;omega)|(((first|apply yT|apply yU|apply yV|apply yW);exact rfl;(first|exact .d|exact .e|exact .n|((fail_if_success exact bqt);(fail_if_success exact bqf);exact .b)))<;>intro _)
        exact .ret rfl ⟨_, ⟨_, _, _, rfl, fun hh => absurd (by decide) hh⟩, _, rfl, fin_put .nils⟩
      · have hfi : ¬ (db[n].rows.length : Int) = 60 := by omega
        by_cases hbig : k > 1000000000
        · repeat' first|(apply yA;exact rfl)|apply yB|apply yC|((first|apply yD|apply yE);(first|exact yF|assumption);iterate 6 exact rfl)|((first|apply yG|apply yH|apply yI);exact rfl;(first|exact yJ|exact yK rfl rfl|exact yL rfl|exact yM rfl|exact rfl|exact aL rfl rfl rfl rfl rfl|exact aS rfl rfl rfl rfl rfl rfl rfl|exact yX (enc := encData) rfl rfl hq hn2 rfl))|((first|apply yN|apply yO|apply yP);exact rfl)|(exfalso;omega)|(((first|apply yT|apply yU|apply yV|apply yW);exact rfl;(first|exact .d|exact .e|exact .n|((fail_if_success exact bqt);(fail_if_success exact bqf);exact .b)))<;>intro _)
          exact .ret rfl ⟨_, ⟨_, _, _, rfl, fun hh => absurd (by decide) hh⟩, _, rfl, fin_put .nils⟩
        · have hd2 := dbF_put h hn hn2 (x := ⟨k, vals⟩) (by simp only [isIn, Bool.and_eq_true, decide_eq_true_eq]; omega) hf hk3 (by omega)
          have c4 := l4Put_ok db[n] ⟨k, vals⟩ hmem.1 hk3
          have c5 := l4With_ok db q n ⟨db[n].rows ++ [⟨k, vals⟩]⟩ hq hn2 (by omega)
          generalize hdb' : db.set n ⟨db[n].rows ++ [⟨k, vals⟩]⟩ = db' at hd2 c5
          have hl2 : db'.length = db.length := by rw [← hdb', List.length_set]
          have hR2 := db_tab hd2 hb hn (by omega)
          have hx : (⟨k, vals⟩ : RowD) ∈ (db'[n]'(by omega)).rows := by
            have : db'[n]'(by omega) = ⟨db[n].rows ++ [⟨k, vals⟩]⟩ := by simp only [← hdb', List.getElem_set_self]
            rw [this]
            simp
          have c6 := l5Refers_ok s db' q n vals true (by omega) hq hn hT.fk3 (hR2.row _ hx).fks
          generalize (!(s[n].fks.any (lostBad s db' (!true) vals))) = B at c6
          cases B
          · repeat' first|(apply yA;exact rfl)|apply yB|apply yC|((first|apply yD|apply yE);(first|exact yF|assumption);iterate 6 exact rfl)|((first|apply yG|apply yH|apply yI);exact rfl;(first|exact yJ|exact yK rfl rfl|exact yL rfl|exact yM rfl|exact rfl|exact aL rfl rfl rfl rfl rfl|exact aS rfl rfl rfl rfl rfl rfl rfl|exact yX (enc := encData) rfl rfl hq hn2 rfl))|((first|apply yN|apply yO|apply yP);exact rfl)|((first|apply yQ|apply yR|apply yS);(iterate 3 exact rfl);(first|exact c4|exact c5|exact c6))|(exfalso;omega)|(((first|apply yT|apply yU|apply yV|apply yW);exact rfl;(first|exact .d|exact .e|exact .n|((fail_if_success exact bqt);(fail_if_success exact bqf);exact .b)))<;>intro _)
            exact .ret rfl ⟨_, ⟨_, _, _, rfl, fun hh => absurd (by decide) hh⟩, _, rfl, fin_put .nils⟩
          · repeat' first|(apply yA;exact rfl)|apply yB|apply yC|((first|apply yD|apply yE);(first|exact yF|assumption);iterate 6 exact rfl)|((first|apply yG|apply yH|apply yI);exact rfl;(first|exact yJ|exact yK rfl rfl|exact yL rfl|exact yM rfl|exact rfl|exact aL rfl rfl rfl rfl rfl|exact aS rfl rfl rfl rfl rfl rfl rfl|exact yX (enc := encData) rfl rfl hq hn2 rfl))|((first|apply yN|apply yO|apply yP);exact rfl)|((first|apply yQ|apply yR|apply yS);(iterate 3 exact rfl);(first|exact c4|exact c5|exact c6))|(exfalso;omega)|(((first|apply yT|apply yU|apply yV|apply yW);exact rfl;(first|exact .d|exact .e|exact .n|((fail_if_success exact bqt);(fail_if_success exact bqf);exact .b)))<;>intro _)
            exact .ret rfl ⟨_, ⟨_, _, _, rfl, fun _ => ⟨db', hd2, rfl⟩⟩, _, rfl, fin_put (old_fz1 (oldDatas _))⟩
    · repeat' first|(apply yA;exact rfl)|apply yB|apply yC|((first|apply yD|apply yE);(first|exact yF|assumption);iterate 6 exact rfl)|((first|apply yG|apply yH|apply yI);exact rfl;(first|exact yJ|exact yK rfl rfl|exact yL rfl|exact yM rfl|exact rfl|exact aL rfl rfl rfl rfl rfl|exact aS rfl rfl rfl rfl rfl rfl rfl))|((first|apply yN|apply yO|apply yP);exact rfl)|(exfalso;omega)|(((first|apply yT|apply yU|apply yV|apply yW);exact rfl;(first|exact .d|exact .e|exact .n|((fail_if_success exact bqt);(fail_if_success exact bqf);exact .b)))<;>intro _)
      exact .ret rfl ⟨_, ⟨_, _, _, rfl, fun hh => absurd (by decide) hh⟩, _, rfl, fin_put .nils⟩
  · repeat' first|(apply yA;exact rfl)|apply yB|apply yC|((first|apply yD|apply yE);(first|exact yF|assumption);iterate 6 exact rfl)|((first|apply yG|apply yH|apply yI);exact rfl;(first|exact yJ|exact yK rfl rfl|exact yL rfl|exact yM rfl|exact rfl|exact aL rfl rfl rfl rfl rfl|exact aS rfl rfl rfl rfl rfl rfl rfl))|((first|apply yN|apply yO|apply yP);exact rfl)|(exfalso;omega)|(((first|apply yT|apply yU|apply yV|apply yW);exact rfl;(first|exact .d|exact .e|exact .n|((fail_if_success exact bqt);(fail_if_success exact bqf);exact .b)))<;>intro _)
    exact .ret rfl ⟨_, ⟨_, _, _, rfl, fun hh => absurd h0 hh⟩, _, rfl, fin_put .nils⟩
theorem InsertRow_told (s : List Table) (db : List Data) (q : Int) (n : Nat) (vals : List Val) (hq : q = (n : Int)) (hn : n < s.length) (hx : s.length ≤ 34359738368) (h : dbF s db = true) (hb : ∀ t ∈ s, bTable 34359738368 t) (hv : vals.length ≤ 34359738368) :
    Told Tryz.prog 213 [.c (.fz (s.map encTable)), .c (.fz (db.map encData)), .c (.int .i64 q), .c (.fz (vals.map encV)), .c (.bool false)] (Put s fun c => c = 1) := by
  refine Told.run mixed c_spec_InsertRow_ok (Nat.le_of_ble_eq_true rfl) fun σ hS => ?_
  clear hS
  obtain ⟨hs, hl, hrows⟩ := dbF_at h
  obtain ⟨h5, hbd, hrl⟩ := dbF_b h
  have hn2 : n < db.length := by omega
  have c1 := l6Ok_ok s db q hx hb (by omega) hbd
  have hin : isIn q 0 (s.length - 1) = true := by simp only [isIn, Bool.and_eq_true, decide_eq_true_eq]; omega
  rw [h, hin] at c1
  have c2 := l4Kinds_ok s[n] vals hv
  cases hf : fitF s[n] vals
  · rw [hf] at c2
    repeat' first|(apply yA;exact rfl)|apply yB|apply yC|((first|apply yD|apply yE);(first|exact yF|assumption);iterate 6 exact rfl)|((first|apply yG|apply yH|apply yI);exact rfl;(first|exact yJ|exact yK rfl rfl|exact yL rfl|exact yM rfl|exact rfl|exact aL rfl rfl rfl rfl rfl|exact aS rfl rfl rfl rfl rfl rfl rfl|exact yX (enc := encTable) rfl rfl hq hn rfl))|((first|apply yN|apply yO|apply yP);exact rfl)|((first|apply yQ|apply yR|apply yS);(iterate 3 exact rfl);(first|exact c1|exact c2))|(exfalso;omega)|(((first|apply yT|apply yU|apply yV|apply yW);exact rfl;(first|exact .d|exact .e|exact .n|((fail_if_success exact bqt);(fail_if_success exact bqf);exact .b)))<;>intro _)
    exact .ret rfl ⟨_, ⟨_, _, _, rfl, fun hh => absurd rfl hh⟩, _, rfl, fin_put .nils⟩
  · rw [hf] at c2
    repeat' first|(apply yA;exact rfl)|apply yB|apply yC|((first|apply yD|apply yE);(first|exact yF|assumption);iterate 6 exact rfl)|((first|apply yG|apply yH|apply yI);exact rfl;(first|exact yJ|exact yK rfl rfl|exact yL rfl|exact yM rfl|exact rfl|exact aL rfl rfl rfl rfl rfl|exact aS rfl rfl rfl rfl rfl rfl rfl|exact yX (enc := encTable) rfl rfl hq hn rfl))|((first|apply yN|apply yO|apply yP);exact rfl)|((first|apply yQ|apply yR|apply yS);(iterate 3 exact rfl);(first|exact c1|exact c2))|(exfalso;omega)|(((first|apply yT|apply yU|apply yV|apply yW);exact rfl;(first|exact .d|exact .e|exact .n|((fail_if_success exact bqt);(fail_if_success exact bqf);exact .b)))<;>intro _)
    refine Go.told rfl rfl rfl (l6Insert_ok s db q n vals hq hn hn2 h hb hf) ?_
    rintro _ ⟨y, id, code, rfl, hok⟩
    have cdb := l4Copy_ok db (by omega) fun d hd => ⟨(hrl d hd).1, fun r hr => by have := ((hrl d hd).2 r hr).2.1; omega⟩
    by_cases h0 : code = 0
    · subst h0
      obtain ⟨db', hd', rfl⟩ := hok (by decide)
      obtain ⟨h5', _, hrl'⟩ := dbF_b hd'
      have cdb' := l4Copy_ok db' (by omega) fun d hd => ⟨(hrl' d hd).1, fun r hr => by have := ((hrl' d hd).2 r hr).2.1; omega⟩
      repeat' first|(apply yA;exact rfl)|apply yB|apply yC|((first|apply yD|apply yE);(first|exact yF|assumption);iterate 6 exact rfl)|((first|apply yG|apply yH|apply yI);exact rfl;(first|exact yJ|exact yK rfl rfl|exact yL rfl|exact yM rfl|exact rfl|exact aL rfl rfl rfl rfl rfl|exact aS rfl rfl rfl rfl rfl rfl rfl))|((first|apply yN|apply yO|apply yP);exact rfl)|((first|apply yQ|apply yR|apply yS);(iterate 3 exact rfl);exact cdb')|(exfalso;omega)|(((first|apply yT|apply yU|apply yV|apply yW);exact rfl;(first|exact .d|exact .e|exact .n|((fail_if_success exact bqt);(fail_if_success exact bqf);exact .b)))<;>intro _)
      exact .ret rfl ⟨_, ⟨_, _, _, rfl, fun _ => ⟨db', hd', rfl⟩⟩, _, rfl, fin_put (old_fz1 (oldDatas _))⟩
    · repeat' first|(apply yA;exact rfl)|apply yB|apply yC|((first|apply yD|apply yE);(first|exact yF|assumption);iterate 6 exact rfl)|((first|apply yG|apply yH|apply yI);exact rfl;(first|exact yJ|exact yK rfl rfl|exact yL rfl|exact yM rfl|exact rfl|exact aL rfl rfl rfl rfl rfl|exact aS rfl rfl rfl rfl rfl rfl rfl))|((first|apply yN|apply yO|apply yP);exact rfl)|((first|apply yQ|apply yR|apply yS);(iterate 3 exact rfl);exact cdb)|(exfalso;omega)|(((first|apply yT|apply yU|apply yV|apply yW);exact rfl;(first|exact .d|exact .e|exact .n|((fail_if_success exact bqt);(fail_if_success exact bqf);exact .b)))<;>intro _)
      exact .ret rfl ⟨_, ⟨_, _, _, rfl, fun _ => ⟨db, h, rfl⟩⟩, _, rfl, fin_put (old_fz1 (oldDatas _))⟩
end Go.Proofs.YteafjabcpmpmgaaGreat.Am

/- The reader that draws: databases and places. -/
set_option linter.unusedVariables false
set_option linter.unusedSimpArgs false
namespace Go.Proofs.YteafjabcpmpmgaaGreat.Am

/-- A drawn database: right, or none. -/
def Bases (s : List Table) (r : AV) : Prop := ∃ db : List Data, (dbF s db = true ∨ db = []) ∧ r = .c (.fz (db.map encData))
theorem oldTables {n : Nat} (l : List Table) : OldL n (l.map encTable) := fun e he c hc => by
  obtain ⟨a, _, rfl⟩ := List.mem_map.1 he
  simp only [encTable, List.mem_cons, List.not_mem_nil, or_false] at hc
  rcases hc with rfl | rfl | rfl | rfl | rfl | rfl
  · exact .str _
  · exact old_fz1 (oldCols _)
  · exact old_fz1 (oldInts _)
  · exact old_fz1 (oldUniqs _)
  · exact old_fz1 (oldChks _)
  · exact old_fz1 (oldFks _)
theorem place_ok (s : List Table) (db : List Data) (h1 : 1 ≤ s.length) (h3 : s.length ≤ 3) : Draws Tryz.prog 123 [.c (.fz (s.map encTable)), .c (.fz (db.map encData))] AnyI := by
  refine Draws.run mixed c_spec_l1Rd_place_ok (Nat.le_of_ble_eq_true rfl) fun σ id v code p hr hp hc hS => ?_
  clear hS
  have hw : IntKind.i64.wrap ((s.length : Int) - 1) = s.length - 1 := wrap64 (by omega) (by omega)
  repeat' first|(apply yA;exact rfl)|apply yB|apply yC|((first|apply yD|apply yE);(first|exact yF|assumption);iterate 6 exact rfl)|((first|apply yG|apply yH|apply yI);exact rfl;(first|exact yJ|exact yK rfl rfl|exact yL rfl|exact yM rfl|exact rfl|exact aL rfl rfl rfl rfl rfl|exact aS rfl rfl rfl rfl rfl rfl rfl))|((first|apply yN|apply yO|apply yP);exact rfl)|(exfalso;omega)|(((first|apply yT|apply yU|apply yV|apply yW);exact rfl;(first|exact .d|exact .e|exact .n|((fail_if_success exact bqt);(fail_if_success exact bqf);exact .b)))<;>intro _)
  refine Go.drawn hr hp rfl rfl rfl (once_ok 30 (by decide) (by decide)) ?_
  rintro _ q hq ⟨b, rfl⟩
  cases b
  · by_cases he : (db.length : Int) = s.length
    · repeat' first|(apply yA;exact rfl)|apply yB|apply yC|((first|apply yD|apply yE);(first|exact yF|assumption);iterate 6 exact rfl)|((first|apply yG|apply yH|apply yI);exact rfl;(first|exact yJ|exact yK rfl rfl|exact yL rfl|exact yM rfl|exact rfl|exact aL rfl rfl rfl rfl rfl|exact aS rfl rfl rfl rfl rfl rfl rfl))|((first|apply yN|apply yO|apply yP);exact rfl)|(exfalso;omega)|(((first|apply yT|apply yU|apply yV|apply yW);exact rfl;(first|exact .d|exact .e|exact .n|((fail_if_success exact bqt);(fail_if_success exact bqf);exact .b)))<;>intro _)
      refine Go.drawn hr hq rfl rfl rfl (below_ok s.length (by omega) (by omega)) ?_
      rintro _ q2 hq2 ⟨k, _, _, rfl⟩
      repeat' first|(apply yA;exact rfl)|apply yB|apply yC|((first|apply yD|apply yE);(first|exact yF|assumption);iterate 6 exact rfl)|((first|apply yG|apply yH|apply yI);exact rfl;(first|exact yJ|exact yK rfl rfl|exact yL rfl|exact yM rfl|exact rfl|exact aL rfl rfl rfl rfl rfl|exact aS rfl rfl rfl rfl rfl rfl rfl))|((first|apply yN|apply yO|apply yP);exact rfl)|(exfalso;omega)|(((first|apply yT|apply yU|apply yV|apply yW);exact rfl;(first|exact .d|exact .e|exact .n|((fail_if_success exact bqt);(fail_if_success exact bqf);exact .b)))<;>intro _)
      exact .ret rfl (.c hq2 ⟨_, rfl⟩ old_c)
    · repeat' first|(apply yA;exact rfl)|apply yB|apply yC|((first|apply yD|apply yE);(first|exact yF|assumption);iterate 6 exact rfl)|((first|apply yG|apply yH|apply yI);exact rfl;(first|exact yJ|exact yK rfl rfl|exact yL rfl|exact yM rfl|exact rfl|exact aL rfl rfl rfl rfl rfl|exact aS rfl rfl rfl rfl rfl rfl rfl))|((first|apply yN|apply yO|apply yP);exact rfl)|(exfalso;omega)|(((first|apply yT|apply yU|apply yV|apply yW);exact rfl;(first|exact .d|exact .e|exact .n|((fail_if_success exact bqt);(fail_if_success exact bqf);exact .b)))<;>intro _)
      rw [hw]
      refine Go.drawn hr hq rfl rfl rfl (off_ok 0 (s.length - 1) (by decide) (by decide) (by omega) (by omega)) ?_
      rintro _ q2 hq2 ⟨k, rfl⟩
      repeat' first|(apply yA;exact rfl)|apply yB|apply yC|((first|apply yD|apply yE);(first|exact yF|assumption);iterate 6 exact rfl)|((first|apply yG|apply yH|apply yI);exact rfl;(first|exact yJ|exact yK rfl rfl|exact yL rfl|exact yM rfl|exact rfl|exact aL rfl rfl rfl rfl rfl|exact aS rfl rfl rfl rfl rfl rfl rfl))|((first|apply yN|apply yO|apply yP);exact rfl)|(exfalso;omega)|(((first|apply yT|apply yU|apply yV|apply yW);exact rfl;(first|exact .d|exact .e|exact .n|((fail_if_success exact bqt);(fail_if_success exact bqf);exact .b)))<;>intro _)
      exact .ret rfl (.c hq2 ⟨_, rfl⟩ old_c)
  · repeat' first|(apply yA;exact rfl)|apply yB|apply yC|((first|apply yD|apply yE);(first|exact yF|assumption);iterate 6 exact rfl)|((first|apply yG|apply yH|apply yI);exact rfl;(first|exact yJ|exact yK rfl rfl|exact yL rfl|exact yM rfl|exact rfl|exact aL rfl rfl rfl rfl rfl|exact aS rfl rfl rfl rfl rfl rfl rfl))|((first|apply yN|apply yO|apply yP);exact rfl)|(exfalso;omega)|(((first|apply yT|apply yU|apply yV|apply yW);exact rfl;(first|exact .d|exact .e|exact .n|((fail_if_success exact bqt);(fail_if_success exact bqf);exact .b)))<;>intro _)
    rw [hw]
    refine Go.drawn hr hq rfl rfl rfl (off_ok 0 (s.length - 1) (by decide) (by decide) (by omega) (by omega)) ?_
    rintro _ q2 hq2 ⟨k, rfl⟩
    repeat' first|(apply yA;exact rfl)|apply yB|apply yC|((first|apply yD|apply yE);(first|exact yF|assumption);iterate 6 exact rfl)|((first|apply yG|apply yH|apply yI);exact rfl;(first|exact yJ|exact yK rfl rfl|exact yL rfl|exact yM rfl|exact rfl|exact aL rfl rfl rfl rfl rfl|exact aS rfl rfl rfl rfl rfl rfl rfl))|((first|apply yN|apply yO|apply yP);exact rfl)|(exfalso;omega)|(((first|apply yT|apply yU|apply yV|apply yW);exact rfl;(first|exact .d|exact .e|exact .n|((fail_if_success exact bqt);(fail_if_success exact bqf);exact .b)))<;>intro _)
    exact .ret rfl (.c hq2 ⟨_, rfl⟩ old_c)
theorem SmallT.b34 {t : Table} (h : SmallT t) : bTable 34359738368 t := by
  obtain ⟨⟨b1, ⟨b2, b3⟩, b4, ⟨b5, b6⟩, ⟨b7, b8⟩, b9, b10⟩, _, _⟩ := h
  have k : ∀ {n : Nat}, n ≤ 12 → n ≤ 34359738368 := fun h => by omega
  refine ⟨k b1, ⟨k b2, fun x hx => ?_⟩, k b4, ⟨k b5, fun x hx => k (b6 x hx)⟩, ⟨k b7, fun x hx => ?_⟩, k b9, fun x hx => ⟨k (b10 x hx).1, k (b10 x hx).2⟩⟩
  · exact ⟨k (b3 x hx).1, k (b3 x hx).2⟩
  · exact ⟨k (b8 x hx).1, fun t ht => k ((b8 x hx).2 t ht)⟩
theorem SchD.b {s : List Table} (h : SchD s) : s.length ≤ 34359738368 ∧ ∀ t ∈ s, bTable 34359738368 t := ⟨by have := h.2.1; omega, fun t ht => (h.2.2 t ht).b34⟩
theorem dbF_new {s : List Table} (h : schemaF s = true) : dbF s (List.replicate s.length (⟨[]⟩ : Data)) = true := by
  rw [dbF, h, List.length_replicate, decide_eq_true rfl, Bool.true_and, Bool.true_and]
  refine dbAux_of fun i hi hi2 => ?_
  simp [rowsF, rowsAux]
theorem below_pos {n : Nat} (h : 0 < n) {r : AV} (hr : BelowR (n : Int) r) : ∃ k : Nat, k < n ∧ r = .c (.int .i64 (k : Int)) := by
  obtain ⟨k, h0, h1, rfl⟩ := hr
  refine ⟨k.toNat, by omega, by rw [Int.toNat_of_nonneg h0]⟩
theorem base_ok (s : List Table) (most : Nat) (hm : 1 ≤ most) (hm2 : most ≤ 60) (hs : SchD s) : Draws Tryz.prog 122 [.c (.fz (s.map encTable)), .c (.int .i64 (most : Int))] (Bases s) := by
  refine Draws.run mixed c_spec_l1Rd_base_ok (Nat.le_of_ble_eq_true rfl) fun σ id v code p hr hp hc hS => ?_
  obtain ⟨hx, hb⟩ := hs.b
  have c0 := DbNew_ok s hx hb
  cases hsc : schemaF s
  · rw [hsc, if_neg (by decide)] at c0
    have hpos : (0 : Int) < s.length := by have := hs.1; omega
    repeat' first|(apply yA;exact rfl)|apply yB|apply yC|((first|apply yD|apply yE);(first|exact yF|assumption);iterate 6 exact rfl)|((first|apply yG|apply yH|apply yI);exact rfl;(first|exact yJ|exact yK rfl rfl|exact yL rfl|exact yM rfl|exact rfl|exact aL rfl rfl rfl rfl rfl|exact aS rfl rfl rfl rfl rfl rfl rfl))|((first|apply yN|apply yO|apply yP);exact rfl)|((first|apply yQ|apply yR|apply yS);(iterate 3 exact rfl);exact c0)|(exfalso;omega)|(((first|apply yT|apply yU|apply yV|apply yW);exact rfl;(first|exact .d|exact .e|exact .n|((fail_if_success exact bqt);(fail_if_success exact bqf);exact .b)))<;>intro _)
    apply Go.loop
    repeat' first|(apply yA;exact rfl)|apply yB|apply yC|((first|apply yD|apply yE);(first|exact yF|assumption);iterate 6 exact rfl)|((first|apply yG|apply yH|apply yI);exact rfl;(first|exact yJ|exact yK rfl rfl|exact yL rfl|exact yM rfl|exact rfl|exact aL rfl rfl rfl rfl rfl|exact aS rfl rfl rfl rfl rfl rfl rfl))|((first|apply yN|apply yO|apply yP);exact rfl)|(exfalso;omega)|(((first|apply yT|apply yU|apply yV|apply yW);exact rfl;(first|exact .d|exact .e|exact .n|((fail_if_success exact bqt);(fail_if_success exact bqf);exact .b)))<;>intro _)
    exact .ret rfl (.c hp ⟨[], .inr rfl, rfl⟩ fun y hy => by
      rw [List.mem_singleton.1 hy]
      exact .fz _ fun i j hi => absurd hi (by simp))
  rw [hsc, if_pos rfl] at c0
  have hd0 := dbF_new hsc
  generalize List.replicate s.length (⟨[]⟩ : Data) = db0 at c0 hd0
  have hsO : ∀ y ∈ (AV.c (.fz (s.map encTable))).all, Old σ.next y := fun y hy => by
    rw [List.mem_singleton.1 hy]
    exact old_fz1 (oldTables _)
  have hs3 := hs.2.1
  have hs1 := hs.1
  repeat' first|(apply yA;exact rfl)|apply yB|apply yC|((first|apply yD|apply yE);(first|exact yF|assumption);iterate 6 exact rfl)|((first|apply yG|apply yH|apply yI);exact rfl;(first|exact yJ|exact yK rfl rfl|exact yL rfl|exact yM rfl|exact rfl|exact aL rfl rfl rfl rfl rfl|exact aS rfl rfl rfl rfl rfl rfl rfl))|((first|apply yN|apply yO|apply yP);exact rfl)|((first|apply yQ|apply yR|apply yS);(iterate 3 exact rfl);exact c0)|(exfalso;omega)|(((first|apply yT|apply yU|apply yV|apply yW);exact rfl;(first|exact .d|exact .e|exact .n|((fail_if_success exact bqt);(fail_if_success exact bqf);exact .b)))<;>intro _)
  refine Go.keep [0, 1, 2, 7, 8, 9] (Go.loops (I := fun m fr τ => ∃ (i : Nat) (k : Int) (q : Nat) (db : List Data), m = s.length - i ∧ i ≤ s.length ∧ k = i ∧ q ≤ code.length ∧ dbF s db = true ∧
    fr = [(0, .c (.ptr id v 0 0)), (1, .c (.fz (s.map encTable))), (2, .c (.int .i64 (most : Int))), (7, .c (.fz (db.map encData))), (8, .c (.bool true)), (9, .c (.int .i64 k))] ∧ τ = E (Rd.go σ id v code q) []) ?_ _ _ _ ⟨0, _, p, db0, rfl, Nat.zero_le _, rfl, hp, hd0, rfl, rfl⟩)
  clear c0 hd0 hp
  rintro m fr τ ⟨i, k, q, db, rfl, hi, hk, hq, hd, rfl, rfl⟩ hrec
  by_cases hlt : i < s.length
  · have hT := hs.2.2 _ (List.getElem_mem hlt)
    repeat' first|(apply yA;exact rfl)|apply yB|apply yC|((first|apply yD|apply yE);(first|exact yF|assumption);iterate 6 exact rfl)|((first|apply yG|apply yH|apply yI);exact rfl;(first|exact yJ|exact yK rfl rfl|exact yL rfl|exact yM rfl|exact rfl|exact aL rfl rfl rfl rfl rfl|exact aS rfl rfl rfl rfl rfl rfl rfl))|((first|apply yN|apply yO|apply yP);exact rfl)|(exfalso;omega)|(((first|apply yT|apply yU|apply yV|apply yW);exact rfl;(first|exact .d|exact .e|exact .n|((fail_if_success exact bqt);(fail_if_success exact bqf);exact .b)))<;>intro _)
    refine Go.drawn hr hq rfl rfl rfl (below_ok most (by omega) (by omega)) ?_
    rintro _ q1 hq1 ⟨a, ha0, ha1, rfl⟩
    have ew : IntKind.i64.wrap (1 + a) = 1 + a := wrap64 (by omega) (by omega)
    repeat' first|(apply yA;exact rfl)|apply yB|apply yC|((first|apply yD|apply yE);(first|exact yF|assumption);iterate 6 exact rfl)|((first|apply yG|apply yH|apply yI);exact rfl;(first|exact yJ|exact yK rfl rfl|exact yL rfl|exact yM rfl|exact rfl|exact aL rfl rfl rfl rfl rfl|exact aS rfl rfl rfl rfl rfl rfl rfl))|((first|apply yN|apply yO|apply yP);exact rfl)|(exfalso;omega)|(((first|apply yT|apply yU|apply yV|apply yW);exact rfl;(first|exact .d|exact .e|exact .n|((fail_if_success exact bqt);(fail_if_success exact bqf);exact .b)))<;>intro _)
    refine Go.keep [0, 1, 2, 7, 8, 9, 10] (Go.loops (I := fun m fr τ => ∃ (b : Int) (q : Nat) (db : List Data), m = b.toNat ∧ b ≤ 100 ∧ q ≤ code.length ∧ dbF s db = true ∧
      fr = [(0, .c (.ptr id v 0 0)), (1, .c (.fz (s.map encTable))), (2, .c (.int .i64 (most : Int))), (7, .c (.fz (db.map encData))), (8, .c (.bool true)), (9, .c (.int .i64 k)), (10, .c (.int .i64 b))] ∧ τ = E (Rd.go σ id v code q) []) ?_ _ _ _ ⟨_, q1, db, rfl, by omega, hq1, hd, rfl, rfl⟩)
    clear hq1 hd hq ew ha0 ha1
    clear db q q1
    rintro m fr τ ⟨b, q, db, rfl, hb100, hq, hd, rfl, rfl⟩ hrecb
    obtain ⟨h5, hbd, hrl⟩ := dbF_b hd
    have hdl := (dbF_at hd).2.1
    have hi2 : i < db.length := by omega
    have h00 : 0 < db.length := by omega
    have hz0 : (0 : Int) = ((0 : Nat) : Int) := rfl
    by_cases hb0 : b > 0
    · repeat' first|(apply yA;exact rfl)|apply yB|apply yC|((first|apply yD|apply yE);(first|exact yF|assumption);iterate 6 exact rfl)|((first|apply yG|apply yH|apply yI);exact rfl;(first|exact yJ|exact yK rfl rfl|exact yL rfl|exact yM rfl|exact rfl|exact aL rfl rfl rfl rfl rfl|exact aS rfl rfl rfl rfl rfl rfl rfl|exact yX (enc := encTable) rfl rfl hk hlt rfl))|((first|apply yN|apply yO|apply yP);exact rfl)|(exfalso;omega)|(((first|apply yT|apply yU|apply yV|apply yW);exact rfl;(first|exact .d|exact .e|exact .n|((fail_if_success exact bqt);(fail_if_success exact bqf);exact .b)))<;>intro _)
      have cf := fit_own s[i] (by have := hT.hi; omega) (E (Rd.go σ id v code q) []) id v code q ((hr.at_ hq).E [])
      refine .call _ rfl rfl rfl cf ?_
      rintro r τ ⟨q2, vs, u, junk, hq2, hvl, hvb, hj, rfl, rfl⟩
      rw [Rd.go_E (show id < (Rd.go σ id v code q).next from hr.2.1), Rd.go_go, E_E, List.nil_append]
      have hlo := hT.lo
      have hz1 : (1 : Int) = ((1 : Nat) : Int) := rfl
      have h1v : 1 < (vs.map encV).length := by rw [List.length_map]; omega
      have h1v2 : 1 < vs.length := by omega
      have hev : (vs.map encV ++ junk)[0 + 1]? = some (encV vs[1]) := by
        rw [Nat.zero_add, List.getElem?_append_left h1v]
        simp [h1v2]
      have setV : ∀ w : Val, (vs.map encV ++ junk).set (0 + 1) (splice (encV vs[1]) 0 (encV w)) = (vs.set 1 w).map encV ++ junk := fun w => by
        have : splice (encV vs[1]) 0 (encV w) = encV w := by rw [splice, List.take_zero, List.nil_append, List.drop_eq_nil_of_le (by simp [encV]), List.append_nil]
        rw [this, Nat.zero_add, set_left h1v, List.map_set]
      have vec_set : ∀ w : Val, vec (σ.next + 0) u ((vs.set 1 w).map encV) junk = vec (σ.next + 0) u (vs.map encV) junk := fun w => by simp [vec]
      have hset : ∀ w : Val, bV 12 w → ∀ x ∈ vs.set 1 w, bV 12 x := fun w hw x hx => by
        rcases List.mem_or_eq_of_mem_set hx with hx | rfl
        · exact hvb x hx
        · exact hw
      refine Go.op rfl rfl (.nil (.seq ?_))
      refine Go.meet (K' := [_]) (fun fr τ => ∃ (q : Nat) (vs : List Val) (u : Nat) (junk : List (List Ce)), q ≤ code.length ∧ vs.length = s[i].cols.length ∧ (∀ w ∈ vs, bV 12 w) ∧ Jk 3 junk ∧
        fr = [(0, .c (.ptr id v 0 0)), (1, .c (.fz (s.map encTable))), (2, .c (.int .i64 (most : Int))), (7, .c (.fz (db.map encData))), (8, .c (.bool true)), (9, .c (.int .i64 k)), (10, .c (.int .i64 b)), (11, .c (vec (σ.next + 0) u (vs.map encV) junk))] ∧ τ = E (Rd.go σ id v code q) [(u, vs.map encV ++ junk)]) (fun K hm => ?_) ?_
      · have hgv : ∀ q : Nat, (E (Rd.go σ id v code q) [(u, vs.map encV ++ junk)]).get (σ.next + 0) = some (u, vs.map encV ++ junk) := fun q => E_get (σ := Rd.go σ id v code q) (k := 0) rfl
        repeat' first|(apply yA;exact rfl)|apply yB|apply yC|((first|apply yD|apply yE);(first|exact yF|assumption);iterate 6 exact rfl)|((first|apply yG|apply yH|apply yI);exact rfl;(first|exact yJ|exact yK rfl rfl|exact yL rfl|exact yM rfl|exact rfl|exact aL rfl rfl rfl rfl rfl|exact aS rfl rfl rfl rfl rfl rfl rfl|exact yX (enc := encTable) rfl rfl hk hlt rfl|exact yX (enc := encData) rfl rfl hk hi2 rfl|exact yX (enc := encData) rfl rfl hz0 h00 rfl))|((first|apply yN|apply yO|apply yP);exact rfl)|(exfalso;omega)|(((first|apply yT|apply yU|apply yV|apply yW);exact rfl;(first|exact .d|exact .e|exact .n|((fail_if_success exact bqt);(fail_if_success exact bqf);exact .b)))<;>intro _)
        all_goals first
          | exact Go.keep [0, 1, 2, 7, 8, 9, 10, 11] (hm _ _ ⟨q2, vs, u, junk, hq2, hvl, hvb, hj, rfl, rfl⟩)
          | skip
        refine Go.drawn hr hq2 rfl rfl rfl (once_ok 4 (by decide) (by decide)) ?_
        rintro _ q3 hq3 ⟨b3, rfl⟩
        cases b3
        · repeat' first|(apply yA;exact rfl)|apply yB|apply yC|((first|apply yD|apply yE);(first|exact yF|assumption);iterate 6 exact rfl)|((first|apply yG|apply yH|apply yI);exact rfl;(first|exact yJ|exact yK rfl rfl|exact yL rfl|exact yM rfl|exact rfl|exact aL rfl rfl rfl rfl rfl|exact aS rfl rfl rfl rfl rfl rfl rfl|exact yX (enc := encTable) rfl rfl hk hlt rfl|exact yX (enc := encData) rfl rfl hk hi2 rfl|exact yX (enc := encData) rfl rfl hz0 h00 rfl))|((first|apply yN|apply yO|apply yP);exact rfl)|(exfalso;omega)|(((first|apply yT|apply yU|apply yV|apply yW);exact rfl;(first|exact .d|exact .e|exact .n|((fail_if_success exact bqt);(fail_if_success exact bqf);exact .b)))<;>intro _)
          all_goals first
            | exact Go.keep [0, 1, 2, 7, 8, 9, 10, 11] (hm _ _ ⟨q3, vs, u, junk, hq3, hvl, hvb, hj, rfl, rfl⟩)
            | skip
          · have hr60 := (hrl _ (List.getElem_mem hi2)).1
            refine Go.drawn hr hq3 rfl rfl rfl (below_ok (db[i].rows).length (by omega) (by omega)) ?_
            intro r q4 hq4 hz
            obtain ⟨c, hc4, rfl⟩ := below_pos (by omega) hz
            have hrr := ((hrl _ (List.getElem_mem hi2)).2 _ (List.getElem_mem hc4))
            obtain ⟨w, hw, hw2⟩ : ∃ w, w = ((db[i].rows)[c]'hc4).vals[0]'(by omega) ∧ bV 12 w := ⟨_, rfl, hrr.2.2 _ (List.getElem_mem _)⟩
            have hv0 : 0 < ((db[i].rows)[c]'hc4).vals.length := by omega
            repeat' first|(apply yA;exact rfl)|apply yB|apply yC|((first|apply yD|apply yE);(first|exact yF|assumption);iterate 6 exact rfl)|((first|apply yG|apply yH|apply yI);exact rfl;(first|exact yJ|exact yK rfl rfl|exact yL rfl|exact yM rfl|exact rfl|exact aL rfl rfl rfl rfl rfl|exact aS rfl rfl rfl rfl rfl rfl rfl|exact yX (enc := encRowD) rfl rfl rfl hc4 rfl|exact yX (enc := encV) rfl rfl hz0 hv0 rfl|exact aop_iaddrO rfl rfl hz1 h1v (hgv _) hev rfl|exact aop_store (k := 0) rfl rfl rfl rfl hev rfl (Nat.le_of_ble_eq_true rfl)))|((first|apply yN|apply yO|apply yP);exact rfl)|(exfalso;omega)|(((first|apply yT|apply yU|apply yV|apply yW);exact rfl;(first|exact .d|exact .e|exact .n|((fail_if_success exact bqt);(fail_if_success exact bqf);exact .b)))<;>intro _)
            refine Go.keep [0, 1, 2, 7, 8, 9, 10, 11] (hm _ _ ⟨q4, vs.set 1 w, u, junk, hq4, by rw [List.length_set]; exact hvl, hset w hw2, hj, ?_, ?_⟩)
            · rw [vec_set]; rfl
            · rw [← setV w, hw]; rfl
          · have hr60 := (hrl _ (List.getElem_mem h00)).1
            refine Go.drawn hr hq3 rfl rfl rfl (below_ok (db[0].rows).length (by omega) (by omega)) ?_
            intro r q4 hq4 hz
            obtain ⟨c, hc4, rfl⟩ := below_pos (by omega) hz
            have hrr := ((hrl _ (List.getElem_mem h00)).2 _ (List.getElem_mem hc4))
            obtain ⟨w, hw, hw2⟩ : ∃ w, w = ((db[0].rows)[c]'hc4).vals[0]'(by omega) ∧ bV 12 w := ⟨_, rfl, hrr.2.2 _ (List.getElem_mem _)⟩
            have hv0 : 0 < ((db[0].rows)[c]'hc4).vals.length := by omega
            repeat' first|(apply yA;exact rfl)|apply yB|apply yC|((first|apply yD|apply yE);(first|exact yF|assumption);iterate 6 exact rfl)|((first|apply yG|apply yH|apply yI);exact rfl;(first|exact yJ|exact yK rfl rfl|exact yL rfl|exact yM rfl|exact rfl|exact aL rfl rfl rfl rfl rfl|exact aS rfl rfl rfl rfl rfl rfl rfl|exact yX (enc := encRowD) rfl rfl rfl hc4 rfl|exact yX (enc := encV) rfl rfl hz0 hv0 rfl|exact aop_iaddrO rfl rfl hz1 h1v (hgv _) hev rfl|exact aop_store (k := 0) rfl rfl rfl rfl hev rfl (Nat.le_of_ble_eq_true rfl)))|((first|apply yN|apply yO|apply yP);exact rfl)|(exfalso;omega)|(((first|apply yT|apply yU|apply yV|apply yW);exact rfl;(first|exact .d|exact .e|exact .n|((fail_if_success exact bqt);(fail_if_success exact bqf);exact .b)))<;>intro _)
            refine Go.keep [0, 1, 2, 7, 8, 9, 10, 11] (hm _ _ ⟨q4, vs.set 1 w, u, junk, hq4, by rw [List.length_set]; exact hvl, hset w hw2, hj, ?_, ?_⟩)
            · rw [vec_set]; rfl
            · rw [← setV w, hw]; rfl
        · repeat' first|(apply yA;exact rfl)|apply yB|apply yC|((first|apply yD|apply yE);(first|exact yF|assumption);iterate 6 exact rfl)|((first|apply yG|apply yH|apply yI);exact rfl;(first|exact yJ|exact yK rfl rfl|exact yL rfl|exact yM rfl|exact rfl|exact aL rfl rfl rfl rfl rfl|exact aS rfl rfl rfl rfl rfl rfl rfl|exact yX (enc := encTable) rfl rfl hk hlt rfl|exact yX (enc := encData) rfl rfl hk hi2 rfl|exact yX (enc := encData) rfl rfl hz0 h00 rfl))|((first|apply yN|apply yO|apply yP);exact rfl)|(exfalso;omega)|(((first|apply yT|apply yU|apply yV|apply yW);exact rfl;(first|exact .d|exact .e|exact .n|((fail_if_success exact bqt);(fail_if_success exact bqf);exact .b)))<;>intro _)
          all_goals exact Go.keep [0, 1, 2, 7, 8, 9, 10, 11] (hm _ _ ⟨q3, vs, u, junk, hq3, hvl, hvb, hj, rfl, rfl⟩)
      · clear hset vec_set setV hev h1v2 h1v hz1
        clear hvl hvb hj hq2
        clear q2 vs u junk
        rintro fr τ ⟨q2, vs, u, junk, hq2, hvl, hvb, hj, rfl, rfl⟩
        have hz1 : (1 : Int) = ((1 : Nat) : Int) := rfl
        have h1v : 1 < (vs.map encV).length := by rw [List.length_map]; omega
        have h1v2 : 1 < vs.length := by omega
        have hev : (vs.map encV ++ junk)[0 + 1]? = some (encV vs[1]) := by
          rw [Nat.zero_add, List.getElem?_append_left h1v]
          simp [h1v2]
        have setV : ∀ w : Val, (vs.map encV ++ junk).set (0 + 1) (splice (encV vs[1]) 0 (encV w)) = (vs.set 1 w).map encV ++ junk := fun w => by
          have : splice (encV vs[1]) 0 (encV w) = encV w := by rw [splice, List.take_zero, List.nil_append, List.drop_eq_nil_of_le (by simp [encV]), List.append_nil]
          rw [this, Nat.zero_add, set_left h1v, List.map_set]
        have vec_set : ∀ w : Val, vec (σ.next + 0) u ((vs.set 1 w).map encV) junk = vec (σ.next + 0) u (vs.map encV) junk := fun w => by simp [vec]
        have hset : ∀ w : Val, bV 12 w → ∀ x ∈ vs.set 1 w, bV 12 x := fun w hw x hx => by
          rcases List.mem_or_eq_of_mem_set hx with hx | rfl
          · exact hvb x hx
          · exact hw
        refine .seq ?_
        refine Go.meet (K' := [_]) (fun fr τ => ∃ (q : Nat) (vs : List Val) (u : Nat) (junk : List (List Ce)), q ≤ code.length ∧ vs.length = s[i].cols.length ∧ (∀ w ∈ vs, bV 12 w) ∧ Jk 3 junk ∧
          fr = [(0, .c (.ptr id v 0 0)), (1, .c (.fz (s.map encTable))), (2, .c (.int .i64 (most : Int))), (7, .c (.fz (db.map encData))), (8, .c (.bool true)), (9, .c (.int .i64 k)), (10, .c (.int .i64 b)), (11, .c (vec (σ.next + 0) u (vs.map encV) junk))] ∧ τ = E (Rd.go σ id v code q) [(u, vs.map encV ++ junk)]) (fun K hm => ?_) ?_
        · have hgv : ∀ q : Nat, (E (Rd.go σ id v code q) [(u, vs.map encV ++ junk)]).get (σ.next + 0) = some (u, vs.map encV ++ junk) := fun q => E_get (σ := Rd.go σ id v code q) (k := 0) rfl
          repeat' first|(apply yA;exact rfl)|apply yB|apply yC|((first|apply yD|apply yE);(first|exact yF|assumption);iterate 6 exact rfl)|((first|apply yG|apply yH|apply yI);exact rfl;(first|exact yJ|exact yK rfl rfl|exact yL rfl|exact yM rfl|exact rfl|exact aL rfl rfl rfl rfl rfl|exact aS rfl rfl rfl rfl rfl rfl rfl|exact yX (enc := encTable) rfl rfl hk hlt rfl|exact yX (enc := encData) rfl rfl hk hi2 rfl|exact yX (enc := encData) rfl rfl hz0 h00 rfl|exact aop_iaddrO rfl rfl hz1 h1v (hgv _) hev rfl|exact aop_store (k := 0) rfl rfl rfl rfl hev rfl (Nat.le_of_ble_eq_true rfl)))|((first|apply yN|apply yO|apply yP);exact rfl)|(exfalso;omega)|(((first|apply yT|apply yU|apply yV|apply yW);exact rfl;(first|exact .d|exact .e|exact .n|((fail_if_success exact bqt);(fail_if_success exact bqf);exact .b)))<;>intro _)
          all_goals first
            | exact Go.keep [0, 1, 2, 7, 8, 9, 10, 11] (hm _ _ ⟨q2, vs, u, junk, hq2, hvl, hvb, hj, rfl, rfl⟩)
            | skip
          refine Go.keep [0, 1, 2, 7, 8, 9, 10, 11] (hm _ _ ⟨q2, vs.set 1 vNull, u, junk, hq2, by rw [List.length_set]; exact hvl, hset vNull (Nat.zero_le _), hj, ?_, ?_⟩)
          · rw [vec_set]; rfl
          · rw [← setV vNull]; rfl
        · clear hset vec_set setV hev h1v2 h1v hz1
          clear hvl hvb hj hq2
          clear q2 vs u junk
          rintro fr τ ⟨q2, vs, u, junk, hq2, hvl, hvb, hj, rfl, rfl⟩
          refine Go.freezeN (l := []) (m := [(u, vs.map encV ++ junk)]) (fr' := [(0, .c (.ptr id v 0 0)), (1, .c (.fz (s.map encTable))), (2, .c (.int .i64 (most : Int))), (7, .c (.fz (db.map encData))), (8, .c (.bool true)), (9, .c (.int .i64 k)), (10, .c (.int .i64 b)), (11, .c (.fz (vs.map encV)))]) (hr.old hS) (fun b hb => by cases hb) (Nat.le_refl _)
            (.frz rfl (.refl (old_ptr hr.2.1)) (.frz rfl (.refl hsO) (.frz rfl (.refl old_c) (.frz rfl (.refl fun y hy => by rw [List.mem_singleton.1 hy]; exact old_fz1 (oldDatas _)) (.frz rfl (.refl old_b) (.frz rfl (.refl old_c) (.frz rfl (.refl old_c) (.frz rfl (frz_drop (n := 0) (k := 0) rfl flats (Nat.zero_le _) (Nat.le_refl _)) .nil)))))))) ?_
          repeat' first|(apply yA;exact rfl)|apply yB|apply yC|((first|apply yD|apply yE);(first|exact yF|assumption);iterate 6 exact rfl)|((first|apply yG|apply yH|apply yI);exact rfl;(first|exact yJ|exact yK rfl rfl|exact yL rfl|exact yM rfl|exact rfl|exact aL rfl rfl rfl rfl rfl|exact aS rfl rfl rfl rfl rfl rfl rfl))|((first|apply yN|apply yO|apply yP);exact rfl)|(exfalso;omega)|(((first|apply yT|apply yU|apply yV|apply yW);exact rfl;(first|exact .d|exact .e|exact .n|((fail_if_success exact bqt);(fail_if_success exact bqf);exact .b)))<;>intro _)
          refine Go.told rfl rfl rfl (InsertRow_told s db k i vs hk hlt hx hd hb (by have := hT.hi; omega)) ?_
          rintro _ ⟨y, iid, cd, rfl, hok⟩
          have ew : IntKind.i64.wrap (b - 1) = b - 1 := wrap64 (by omega) (by omega)
          by_cases hcd : cd = 1
          · repeat' first|(apply yA;exact rfl)|apply yB|apply yC|((first|apply yD|apply yE);(first|exact yF|assumption);iterate 6 exact rfl)|((first|apply yG|apply yH|apply yI);exact rfl;(first|exact yJ|exact yK rfl rfl|exact yL rfl|exact yM rfl|exact rfl|exact aL rfl rfl rfl rfl rfl|exact aS rfl rfl rfl rfl rfl rfl rfl))|((first|apply yN|apply yO|apply yP);exact rfl)|(exfalso;omega)|(((first|apply yT|apply yU|apply yV|apply yW);exact rfl;(first|exact .d|exact .e|exact .n|((fail_if_success exact bqt);(fail_if_success exact bqf);exact .b)))<;>intro _)
            exact Go.keep [0, 1, 2, 7, 8, 9, 10] (hrecb _ _ _ (by omega) ⟨b - 1, q2, db, rfl, by omega, hq2, hd, by rw [ew]; rfl, rfl⟩)
          · obtain ⟨db', hd', rfl⟩ := hok hcd
            repeat' first|(apply yA;exact rfl)|apply yB|apply yC|((first|apply yD|apply yE);(first|exact yF|assumption);iterate 6 exact rfl)|((first|apply yG|apply yH|apply yI);exact rfl;(first|exact yJ|exact yK rfl rfl|exact yL rfl|exact yM rfl|exact rfl|exact aL rfl rfl rfl rfl rfl|exact aS rfl rfl rfl rfl rfl rfl rfl))|((first|apply yN|apply yO|apply yP);exact rfl)|(exfalso;omega)|(((first|apply yT|apply yU|apply yV|apply yW);exact rfl;(first|exact .d|exact .e|exact .n|((fail_if_success exact bqt);(fail_if_success exact bqf);exact .b)))<;>intro _)
            exact Go.keep [0, 1, 2, 7, 8, 9, 10] (hrecb _ _ _ (by omega) ⟨b - 1, q2, db', rfl, by omega, hq2, hd', by rw [ew]; rfl, rfl⟩)
    · repeat' first|(apply yA;exact rfl)|apply yB|apply yC|((first|apply yD|apply yE);(first|exact yF|assumption);iterate 6 exact rfl)|((first|apply yG|apply yH|apply yI);exact rfl;(first|exact yJ|exact yK rfl rfl|exact yL rfl|exact yM rfl|exact rfl|exact aL rfl rfl rfl rfl rfl|exact aS rfl rfl rfl rfl rfl rfl rfl))|((first|apply yN|apply yO|apply yP);exact rfl)|(exfalso;omega)|(((first|apply yT|apply yU|apply yV|apply yW);exact rfl;(first|exact .d|exact .e|exact .n|((fail_if_success exact bqt);(fail_if_success exact bqf);exact .b)))<;>intro _)
      exact Go.keep [0, 1, 2, 7, 8, 9] (hrec _ _ _ (by omega) ⟨i + 1, _, q, db, rfl, hlt, wrap_succ hk (by omega), hq, hd, rfl, rfl⟩)
  · repeat' first|(apply yA;exact rfl)|apply yB|apply yC|((first|apply yD|apply yE);(first|exact yF|assumption);iterate 6 exact rfl)|((first|apply yG|apply yH|apply yI);exact rfl;(first|exact yJ|exact yK rfl rfl|exact yL rfl|exact yM rfl|exact rfl|exact aL rfl rfl rfl rfl rfl|exact aS rfl rfl rfl rfl rfl rfl rfl))|((first|apply yN|apply yO|apply yP);exact rfl)|(exfalso;omega)|(((first|apply yT|apply yU|apply yV|apply yW);exact rfl;(first|exact .d|exact .e|exact .n|((fail_if_success exact bqt);(fail_if_success exact bqf);exact .b)))<;>intro _)
    exact .ret rfl (.c hq ⟨db, .inl hd, rfl⟩ fun y hy => by
      rw [List.mem_singleton.1 hy]
      exact old_fz1 (oldDatas _))
end Go.Proofs.YteafjabcpmpmgaaGreat.Am

/- Drawn arguments: of Matching, of JoinOn. -/
set_option linter.unusedVariables false
set_option linter.unusedSimpArgs false
namespace Go.Proofs.YteafjabcpmpmgaaGreat.Am

theorem l1Open_ok (code : List UInt8) (σ : Store) : Ok Tryz.prog 107 [.c (.fz (code.map encB))] σ (fun r τ => r = .c (.ptr (σ.next + 0) 0 0 0) ∧ τ = E σ [(0, rdB code 0)]) := by
  refine Ok.run mixed c_spec_l1Open_ok (Nat.le_of_ble_eq_true rfl) fun hS hA => ?_
  clear hS hA
  repeat' first|(apply yA;exact rfl)|apply yB|apply yC|((first|apply yD|apply yE);(first|exact yF|assumption);iterate 6 exact rfl)|((first|apply yG|apply yH|apply yI);exact rfl;(first|exact yJ|exact yK rfl rfl|exact yL rfl|exact yM rfl|exact rfl|exact aL rfl rfl rfl rfl rfl|exact aS rfl rfl rfl rfl rfl rfl rfl))|((first|apply yN|apply yO|apply yP);exact rfl)|(exfalso;omega)|(((first|apply yT|apply yU|apply yV|apply yW);exact rfl;(first|exact .d|exact .e|exact .n|((fail_if_success exact bqt);(fail_if_success exact bqf);exact .b)))<;>intro _)
  exact .ret rfl ⟨rfl, rfl⟩
/-- The reader that was opened. -/
theorem rd_open {σ : Store} {code : List UInt8} (hc : code.length ≤ 1048576) : Rd (E σ [(0, rdB code 0)]) (σ.next + 0) 0 code 0 := ⟨E_get (k := 0) rfl, by rw [E_next]; simp, Nat.zero_le _, hc⟩
theorem rd_opened {σ : Store} {code : List UInt8} (hc : code.length ≤ 1048576) : E σ [(0, rdB code 0)] = E (Rd.go (E σ [(0, rdB code 0)]) (σ.next + 0) 0 code 0) [] := by
  rw [(rd_open (σ := σ) hc).same, E_E, List.append_nil]
theorem rd_close {σ : Store} {code : List UInt8} {q : Nat} : E (Rd.go (E σ [(0, rdB code 0)]) (σ.next + 0) 0 code q) [] = E σ [(0, rdB code q)] := by
  have : Rd.go (E σ [(0, rdB code 0)]) (σ.next + 0) 0 code q = E σ [(0, rdB code q)] := E_put (by simp)
  rw [this, E_E, List.append_nil]
def DrawJ (r : AV) : Prop := ∃ (s : List Table) (db : List Data) (a b : Int) (w : List Tok), SchD s ∧ (dbF s db = true ∨ db = []) ∧ w.length ≤ 7 ∧ (∀ t ∈ w, bTok 12 t) ∧ r = .tup [.c (.fz (s.map encTable)), .c (.fz (db.map encData)), .c (.int .i64 a), .c (.int .i64 b), .c (.fz (w.map encTok))]
theorem finJ {σ : Store} {l : List (Nat × List (List Ce))} {s : List Table} {db : List Data} {a b : Int} {w : List Tok} : FrzV (E σ l) σ.next (.tup [.c (.fz (s.map encTable)), .c (.fz (db.map encData)), .c (.int .i64 a), .c (.int .i64 b), .c (.fz (w.map encTok))]) (.tup [.c (.fz (s.map encTable)), .c (.fz (db.map encData)), .c (.int .i64 a), .c (.int .i64 b), .c (.fz (w.map encTok))]) := .tup rfl fun i hi => by
  have : i = 0 ∨ i = 1 ∨ i = 2 ∨ i = 3 ∨ i = 4 := by simp at hi; omega
  rcases this with rfl | rfl | rfl | rfl | rfl
  · exact .c (.same _ (old_fz1 (oldTables _)))
  · exact .c (.same _ (old_fz1 (oldDatas _)))
  · exact .c (.same _ (.int _ _))
  · exact .c (.same _ (.int _ _))
  · exact .c (.same _ (old_fz1 (oldL_flat flatTs)))
theorem DrawJoinOn_ok (code : List UInt8) (hc : code.length ≤ 1048576) : Told Tryz.prog 40 [.c (.fz (code.map encB))] DrawJ := by
  refine Told.run mixed c_spec_DrawJoinOn_ok (Nat.le_of_ble_eq_true rfl) fun σ hS => ?_
  clear hS
  repeat' first|(apply yA;exact rfl)|apply yB|apply yC|((first|apply yD|apply yE);(first|exact yF|assumption);iterate 6 exact rfl)|((first|apply yG|apply yH|apply yI);exact rfl;(first|exact yJ|exact yK rfl rfl|exact yL rfl|exact yM rfl|exact rfl|exact aL rfl rfl rfl rfl rfl|exact aS rfl rfl rfl rfl rfl rfl rfl))|((first|apply yN|apply yO|apply yP);exact rfl)|(exfalso;omega)|(((first|apply yT|apply yU|apply yV|apply yW);exact rfl;(first|exact .d|exact .e|exact .n|((fail_if_success exact bqt);(fail_if_success exact bqf);exact .b)))<;>intro _)
  refine .call _ rfl rfl rfl (l1Open_ok code (E σ [])) ?_
  rintro r τ ⟨rfl, rfl⟩
  rw [E_E, List.nil_append, rd_opened hc]
  have hr := rd_open (σ := σ) hc
  repeat' first|(apply yA;exact rfl)|apply yB|apply yC|((first|apply yD|apply yE);(first|exact yF|assumption);iterate 6 exact rfl)|((first|apply yG|apply yH|apply yI);exact rfl;(first|exact yJ|exact yK rfl rfl|exact yL rfl|exact yM rfl|exact rfl|exact aL rfl rfl rfl rfl rfl|exact aS rfl rfl rfl rfl rfl rfl rfl))|((first|apply yN|apply yO|apply yP);exact rfl)|(exfalso;omega)|(((first|apply yT|apply yU|apply yV|apply yW);exact rfl;(first|exact .d|exact .e|exact .n|((fail_if_success exact bqt);(fail_if_success exact bqf);exact .b)))<;>intro _)
  refine Go.drawn hr (Nat.zero_le _) rfl rfl rfl schema_ok ?_
  rintro _ q hq ⟨s, hs, rfl⟩
  repeat' first|(apply yA;exact rfl)|apply yB|apply yC|((first|apply yD|apply yE);(first|exact yF|assumption);iterate 6 exact rfl)|((first|apply yG|apply yH|apply yI);exact rfl;(first|exact yJ|exact yK rfl rfl|exact yL rfl|exact yM rfl|exact rfl|exact aL rfl rfl rfl rfl rfl|exact aS rfl rfl rfl rfl rfl rfl rfl))|((first|apply yN|apply yO|apply yP);exact rfl)|(exfalso;omega)|(((first|apply yT|apply yU|apply yV|apply yW);exact rfl;(first|exact .d|exact .e|exact .n|((fail_if_success exact bqt);(fail_if_success exact bqf);exact .b)))<;>intro _)
  refine Go.drawn hr hq rfl rfl rfl (base_ok s 4 (by decide) (by decide) hs) ?_
  rintro _ q2 hq2 ⟨db, hd, rfl⟩
  repeat' first|(apply yA;exact rfl)|apply yB|apply yC|((first|apply yD|apply yE);(first|exact yF|assumption);iterate 6 exact rfl)|((first|apply yG|apply yH|apply yI);exact rfl;(first|exact yJ|exact yK rfl rfl|exact yL rfl|exact yM rfl|exact rfl|exact aL rfl rfl rfl rfl rfl|exact aS rfl rfl rfl rfl rfl rfl rfl))|((first|apply yN|apply yO|apply yP);exact rfl)|(exfalso;omega)|(((first|apply yT|apply yU|apply yV|apply yW);exact rfl;(first|exact .d|exact .e|exact .n|((fail_if_success exact bqt);(fail_if_success exact bqf);exact .b)))<;>intro _)
  refine Go.drawn hr hq2 rfl rfl rfl (place_ok s db hs.1 hs.2.1) ?_
  rintro _ q3 hq3 ⟨a, rfl⟩
  repeat' first|(apply yA;exact rfl)|apply yB|apply yC|((first|apply yD|apply yE);(first|exact yF|assumption);iterate 6 exact rfl)|((first|apply yG|apply yH|apply yI);exact rfl;(first|exact yJ|exact yK rfl rfl|exact yL rfl|exact yM rfl|exact rfl|exact aL rfl rfl rfl rfl rfl|exact aS rfl rfl rfl rfl rfl rfl rfl))|((first|apply yN|apply yO|apply yP);exact rfl)|(exfalso;omega)|(((first|apply yT|apply yU|apply yV|apply yW);exact rfl;(first|exact .d|exact .e|exact .n|((fail_if_success exact bqt);(fail_if_success exact bqf);exact .b)))<;>intro _)
  refine Go.drawn hr hq3 rfl rfl rfl (place_ok s db hs.1 hs.2.1) ?_
  rintro _ q4 hq4 ⟨b, rfl⟩
  have h1 := hs.1
  have h3 := hs.2.1
  have c1 := l1In_ok a 0 (IntKind.i64.wrap ((s.length : Int) - 1))
  have hwr : IntKind.i64.wrap ((s.length : Int) - 1) = s.length - 1 := wrap64 (by omega) (by omega)
  have hend : ∀ (n : Int), 0 < n → n ≤ 16 → ∀ (q : Nat), q ≤ code.length → True := fun _ _ _ _ _ => trivial
  clear hend
  rw [hwr] at c1
  cases hin : isIn a 0 (s.length - 1)
  · rw [hin, ← hwr] at c1
    repeat' first|(apply yA;exact rfl)|apply yB|apply yC|((first|apply yD|apply yE);(first|exact yF|assumption);iterate 6 exact rfl)|((first|apply yG|apply yH|apply yI);exact rfl;(first|exact yJ|exact yK rfl rfl|exact yL rfl|exact yM rfl|exact rfl|exact aL rfl rfl rfl rfl rfl|exact aS rfl rfl rfl rfl rfl rfl rfl))|((first|apply yN|apply yO|apply yP);exact rfl)|((first|apply yQ|apply yR|apply yS);(iterate 3 exact rfl);exact c1)|(exfalso;omega)|(((first|apply yT|apply yU|apply yV|apply yW);exact rfl;(first|exact .d|exact .e|exact .n|((fail_if_success exact bqt);(fail_if_success exact bqf);exact .b)))<;>intro _)
    refine Go.drawn hr hq4 rfl rfl rfl (once_ok 3 (by decide) (by decide)) ?_
    rintro _ q5 hq5 ⟨b3, rfl⟩
    cases b3
    · repeat' first|(apply yA;exact rfl)|apply yB|apply yC|((first|apply yD|apply yE);(first|exact yF|assumption);iterate 6 exact rfl)|((first|apply yG|apply yH|apply yI);exact rfl;(first|exact yJ|exact yK rfl rfl|exact yL rfl|exact yM rfl|exact rfl|exact aL rfl rfl rfl rfl rfl|exact aS rfl rfl rfl rfl rfl rfl rfl))|((first|apply yN|apply yO|apply yP);exact rfl)|((first|apply yQ|apply yR|apply yS);(iterate 3 exact rfl);exact l2Col_ok _)|(exfalso;omega)|(((first|apply yT|apply yU|apply yV|apply yW);exact rfl;(first|exact .d|exact .e|exact .n|((fail_if_success exact bqt);(fail_if_success exact bqf);exact .b)))<;>intro _)
      rw [rd_close]
      exact .ret rfl ⟨_, ⟨s, db, a, b, [tCol 0, tCol 3, ⟨3, 0, vNull⟩], hs, hd, by simp, fun t ht => by
        simp only [List.mem_cons, List.not_mem_nil, or_false] at ht
        rcases ht with rfl | rfl | rfl <;> exact Nat.zero_le _, rfl⟩, _, rfl, finJ (w := [tCol 0, tCol 3, ⟨3, 0, vNull⟩])⟩
    · repeat' first|(apply yA;exact rfl)|apply yB|apply yC|((first|apply yD|apply yE);(first|exact yF|assumption);iterate 6 exact rfl)|((first|apply yG|apply yH|apply yI);exact rfl;(first|exact yJ|exact yK rfl rfl|exact yL rfl|exact yM rfl|exact rfl|exact aL rfl rfl rfl rfl rfl|exact aS rfl rfl rfl rfl rfl rfl rfl))|((first|apply yN|apply yO|apply yP);exact rfl)|(exfalso;omega)|(((first|apply yT|apply yU|apply yV|apply yW);exact rfl;(first|exact .d|exact .e|exact .n|((fail_if_success exact bqt);(fail_if_success exact bqf);exact .b)))<;>intro _)
      refine Go.drawn hr hq5 rfl rfl rfl (cond_ok 3 (by decide) (by decide)) ?_
      rintro _ q6 hq6 ⟨w, hw, hwb, rfl⟩
      repeat' first|(apply yA;exact rfl)|apply yB|apply yC|((first|apply yD|apply yE);(first|exact yF|assumption);iterate 6 exact rfl)|((first|apply yG|apply yH|apply yI);exact rfl;(first|exact yJ|exact yK rfl rfl|exact yL rfl|exact yM rfl|exact rfl|exact aL rfl rfl rfl rfl rfl|exact aS rfl rfl rfl rfl rfl rfl rfl))|((first|apply yN|apply yO|apply yP);exact rfl)|(exfalso;omega)|(((first|apply yT|apply yU|apply yV|apply yW);exact rfl;(first|exact .d|exact .e|exact .n|((fail_if_success exact bqt);(fail_if_success exact bqf);exact .b)))<;>intro _)
      rw [rd_close]
      exact .ret rfl ⟨_, ⟨s, db, a, b, w, hs, hd, hw, hwb, rfl⟩, _, rfl, finJ⟩
  · rw [hin, ← hwr] at c1
    obtain ⟨ha0, ha1⟩ := isIn_at hin
    have hn : a = (a.toNat : Int) := by omega
    have hlt : a.toNat < s.length := by omega
    have hT := hs.2.2 _ (List.getElem_mem hlt)
    have hlo := hT.lo
    have hhi := hT.hi
    repeat' first|(apply yA;exact rfl)|apply yB|apply yC|((first|apply yD|apply yE);(first|exact yF|assumption);iterate 6 exact rfl)|((first|apply yG|apply yH|apply yI);exact rfl;(first|exact yJ|exact yK rfl rfl|exact yL rfl|exact yM rfl|exact rfl|exact aL rfl rfl rfl rfl rfl|exact aS rfl rfl rfl rfl rfl rfl rfl|exact yX (enc := encTable) rfl rfl hn hlt rfl))|((first|apply yN|apply yO|apply yP);exact rfl)|((first|apply yQ|apply yR|apply yS);(iterate 3 exact rfl);exact c1)|(exfalso;omega)|(((first|apply yT|apply yU|apply yV|apply yW);exact rfl;(first|exact .d|exact .e|exact .n|((fail_if_success exact bqt);(fail_if_success exact bqf);exact .b)))<;>intro _)
    refine Go.drawn hr hq4 rfl rfl rfl (once_ok 3 (by decide) (by decide)) ?_
    rintro _ q5 hq5 ⟨b3, rfl⟩
    cases b3
    · repeat' first|(apply yA;exact rfl)|apply yB|apply yC|((first|apply yD|apply yE);(first|exact yF|assumption);iterate 6 exact rfl)|((first|apply yG|apply yH|apply yI);exact rfl;(first|exact yJ|exact yK rfl rfl|exact yL rfl|exact yM rfl|exact rfl|exact aL rfl rfl rfl rfl rfl|exact aS rfl rfl rfl rfl rfl rfl rfl))|((first|apply yN|apply yO|apply yP);exact rfl)|((first|apply yQ|apply yR|apply yS);(iterate 3 exact rfl);exact l2Col_ok _)|(exfalso;omega)|(((first|apply yT|apply yU|apply yV|apply yW);exact rfl;(first|exact .d|exact .e|exact .n|((fail_if_success exact bqt);(fail_if_success exact bqf);exact .b)))<;>intro _)
      rw [rd_close]
      exact .ret rfl ⟨_, ⟨s, db, a, b, [tCol 0, tCol s[a.toNat].cols.length, ⟨3, 0, vNull⟩], hs, hd, by simp, fun t ht => by
        simp only [List.mem_cons, List.not_mem_nil, or_false] at ht
        rcases ht with rfl | rfl | rfl <;> exact Nat.zero_le _, rfl⟩, _, rfl, finJ (w := [tCol 0, tCol s[a.toNat].cols.length, ⟨3, 0, vNull⟩])⟩
    · repeat' first|(apply yA;exact rfl)|apply yB|apply yC|((first|apply yD|apply yE);(first|exact yF|assumption);iterate 6 exact rfl)|((first|apply yG|apply yH|apply yI);exact rfl;(first|exact yJ|exact yK rfl rfl|exact yL rfl|exact yM rfl|exact rfl|exact aL rfl rfl rfl rfl rfl|exact aS rfl rfl rfl rfl rfl rfl rfl))|((first|apply yN|apply yO|apply yP);exact rfl)|(exfalso;omega)|(((first|apply yT|apply yU|apply yV|apply yW);exact rfl;(first|exact .d|exact .e|exact .n|((fail_if_success exact bqt);(fail_if_success exact bqf);exact .b)))<;>intro _)
      refine Go.drawn hr hq5 rfl rfl rfl (cond_ok s[a.toNat].cols.length (by omega) (by omega)) ?_
      rintro _ q6 hq6 ⟨w, hw, hwb, rfl⟩
      repeat' first|(apply yA;exact rfl)|apply yB|apply yC|((first|apply yD|apply yE);(first|exact yF|assumption);iterate 6 exact rfl)|((first|apply yG|apply yH|apply yI);exact rfl;(first|exact yJ|exact yK rfl rfl|exact yL rfl|exact yM rfl|exact rfl|exact aL rfl rfl rfl rfl rfl|exact aS rfl rfl rfl rfl rfl rfl rfl))|((first|apply yN|apply yO|apply yP);exact rfl)|(exfalso;omega)|(((first|apply yT|apply yU|apply yV|apply yW);exact rfl;(first|exact .d|exact .e|exact .n|((fail_if_success exact bqt);(fail_if_success exact bqf);exact .b)))<;>intro _)
      rw [rd_close]
      exact .ret rfl ⟨_, ⟨s, db, a, b, w, hs, hd, hw, hwb, rfl⟩, _, rfl, finJ⟩
end Go.Proofs.YteafjabcpmpmgaaGreat.Am

/- Conditions put together: plain laws. -/
set_option linter.unusedVariables false
set_option linter.unusedSimpArgs false
namespace Go.Proofs.YteafjabcpmpmgaaGreat.Am

end Go.Proofs.YteafjabcpmpmgaaGreat.Am

/- Rows that match conditions put together: plain laws. -/
set_option linter.unusedVariables false
set_option linter.unusedSimpArgs false
namespace Go.Proofs.YteafjabcpmpmgaaGreat.Am

end Go.Proofs.YteafjabcpmpmgaaGreat.Am

/- Two tables joined the other way round: plain laws. -/
set_option linter.unusedVariables false
set_option linter.unusedSimpArgs false
namespace Go.Proofs.YteafjabcpmpmgaaGreat.Am

def turnT (n m : Int) (t : Tok) : Tok := if t.kind = 1 ∧ t.col < n then { t with col := t.col + m } else if t.kind = 1 then { t with col := t.col - n } else t
theorem turnT_kind (n m : Int) (t : Tok) : (turnT n m t).kind = t.kind := by
  rw [turnT]
  split
  · rfl
  · split <;> rfl
theorem turnT_v (n m : Int) (t : Tok) : (turnT n m t).v = t.v := by
  rw [turnT]
  split
  · rfl
  · split <;> rfl
theorem turnT_takes (n m : Int) (t : Tok) : tokTakes (turnT n m t) = tokTakes t := by rw [tokTakes, tokTakes, turnT_kind]
theorem turnT_col {n m : Int} {t : Tok} (hk : t.kind = 1) : (turnT n m t).col = if t.col < n then t.col + m else t.col - n := by
  rw [turnT]
  by_cases h : t.col < n
  · rw [if_pos ⟨hk, h⟩, if_pos h]
  · rw [if_neg (fun q => h q.2), if_pos hk, if_neg h]
theorem turnT_else {n m : Int} {t : Tok} (hk : ¬ t.kind = 1) : turnT n m t = t := by
  rw [turnT, if_neg (fun q => hk q.1), if_neg hk]
theorem isTokF_turn {n m : Int} (hn : 0 ≤ n) (hm : 0 ≤ m) {t : Tok} (h : isTokF t (n + m) = true) : isTokF (turnT n m t) (n + m) = true := by
  by_cases hk : t.kind = 1
  · simp only [isTokF, turnT_kind, turnT_v, if_pos hk, turnT_col hk, isIn, Bool.and_eq_true, decide_eq_true_eq] at h ⊢
    refine ⟨?_, h.2⟩
    split <;> omega
  · rw [turnT_else hk]
    exact h
theorem exprAux_turn {n m : Int} (hn : 0 ≤ n) (hm : 0 ≤ m) : ∀ {e : List Tok} {a : Int}, exprAux (n + m) a e = true → exprAux (n + m) a (e.map (turnT n m)) = true
  | [], a, h => h
  | t :: e, a, h => by
    obtain ⟨h1, h2, h3⟩ := exprAux_cons h
    rw [List.map_cons, exprAux, isTokF_turn hn hm h1, turnT_takes, decide_eq_true h2, exprAux_turn hn hm h3]
    rfl
theorem applyF_turn {x y : List Val} {t : Tok} (l : List Val) (h : isTokF t (x.length + y.length : Int) = true) : applyF (turnT x.length y.length t) l (y ++ x) = applyF t l (x ++ y) := by
  by_cases hk : t.kind = 1
  · have hc := isTok_col h hk
    have e1 : ∀ r : List Val, applyF t l r = (vAt r t.col.toNat, true) := fun r => by rw [applyF, if_pos hk]
    have e2 : ∀ r : List Val, applyF (turnT x.length y.length t) l r = (vAt r (turnT x.length y.length t).col.toNat, true) := fun r => by rw [applyF, turnT_kind, if_pos hk]
    rw [e1, e2, turnT_col hk]
    congr 1
    rw [vAt, vAt]
    congr 1
    by_cases hlt : t.col < x.length
    · rw [if_pos hlt, List.getElem?_append_right (by omega), List.getElem?_append_left (by omega)]
      congr 1
      omega
    · rw [if_neg hlt, List.getElem?_append_left (by omega), List.getElem?_append_right (by omega)]
      congr 1
      omega
  · rw [turnT_else hk, applyF, applyF, if_neg hk, if_neg hk]
theorem evalL_turn {x y : List Val} : ∀ {e : List Tok} {a : Int} (st : List Val), exprAux (x.length + y.length : Int) a e = true → evalL (y ++ x) (e.map (turnT x.length y.length)) st = evalL (x ++ y) e st
  | [], a, st, _ => rfl
  | t :: e, a, st, h => by
    obtain ⟨h1, h2, h3⟩ := exprAux_cons h
    have hf : fromOf (turnT x.length y.length t) st = fromOf t st := by rw [fromOf, fromOf, turnT_takes]
    rw [List.map_cons, evalL, evalL, hf, applyF_turn _ h1]
    split
    · exact evalL_turn _ h3
    · rfl
theorem areVals_comm (x y : List Val) (n : Int) : areVals (y ++ x) n = areVals (x ++ y) n := by
  rw [areVals, areVals, List.length_append, List.length_append, List.all_append, List.all_append, Nat.add_comm, Bool.and_comm (y.all _)]
theorem truthI_turn {x y : List Val} {e : List Tok} (h : exprF e (x.length + y.length : Nat) = true) : truthI (e.map (turnT x.length y.length)) (y ++ x) = truthI e (x ++ y) := by
  obtain ⟨h1, h2⟩ := exprF_aux h
  have h3 : exprAux ((x.length : Int) + y.length) 0 e = true := by rw [← Int.natCast_add]; exact h2
  have e1 : exprF (e.map (turnT x.length y.length)) (y ++ x).length = true := by
    rw [List.length_append, exprF, List.length_map, decide_eq_true h1, Nat.add_comm, Int.natCast_add, exprAux_turn (Int.natCast_nonneg _) (Int.natCast_nonneg _) h3]
    rfl
  have e2 : exprF e (x ++ y).length = true := by rw [List.length_append]; exact h
  rw [truthI, truthI, evalOk, evalOk, areVals_comm, e1, e2, truthR, truthR, evalR, evalR, evalL_turn [] h3]
/-! ### counting pairs -/
def cntP {α β : Type} (f : α → β → Bool) (xs : List α) (ys : List β) : Nat := match xs with
  | [] => 0
  | x :: r => (ys.filter (f x)).length + cntP f r ys
theorem cntP_cons {α β : Type} (f : α → β → Bool) (y : β) (ys : List β) : ∀ xs : List α, cntP f xs (y :: ys) = (xs.filter fun x => f x y).length + cntP f xs ys
  | [] => rfl
  | x :: r => by
    rw [cntP, cntP, cntP_cons f y ys r, List.filter_cons, List.filter_cons]
    cases f x y <;> simp <;> omega
theorem cntP_nil {α β : Type} (f : α → β → Bool) : ∀ xs : List α, cntP f xs [] = 0
  | [] => rfl
  | x :: r => by rw [cntP, cntP_nil f r]; rfl
theorem cntP_swap {α β : Type} (f : α → β → Bool) (xs : List α) : ∀ ys : List β, cntP f xs ys = cntP (fun y x => f x y) ys xs
  | [] => by rw [cntP_nil]; rfl
  | y :: r => by rw [cntP_cons, cntP_swap f xs r, cntP]
def isJ (w : List Tok) (x y : RowD) : Bool := decide (truthI w (x.vals ++ y.vals) = 1)
theorem joinIn_len {w : List Tok} {x : RowD} : ∀ {l : List RowD} {acc q : List Line}, joinIn w x.vals l acc = some q → q.length = acc.length + (l.filter (isJ w x)).length ∧ ∀ r ∈ l, truthI w (x.vals ++ r.vals) ≠ -1
  | [], acc, q, h => by injection h with h; subst h; simp
  | r :: l, acc, q, h => by
    rw [joinIn] at h
    split at h
    · cases h
    · rename_i h0
      obtain ⟨h1, h2⟩ := joinIn_len h
      refine ⟨?_, fun p hp => ?_⟩
      · rw [h1, List.filter_cons, isJ]
        split
        · rename_i h3; simp [h3]; omega
        · rename_i h3; simp [h3]
      · rcases List.mem_cons.1 hp with rfl | hp
        · exact h0
        · exact h2 p hp
theorem joinOut_len {w : List Tok} {right : List RowD} : ∀ {l : List RowD} {acc q : List Line}, joinOut w right l acc = some q → q.length = acc.length + cntP (isJ w) l right ∧ ∀ x ∈ l, ∀ r ∈ right, truthI w (x.vals ++ r.vals) ≠ -1
  | [], acc, q, h => by injection h with h; subst h; simp [cntP]
  | x :: l, acc, q, h => by
    rw [joinOut] at h
    split at h
    · rename_i u hu
      obtain ⟨h1, h2⟩ := joinIn_len hu
      obtain ⟨h3, h4⟩ := joinOut_len h
      refine ⟨by rw [h3, h1, cntP]; omega, fun p hp => ?_⟩
      rcases List.mem_cons.1 hp with rfl | hp
      · exact h2
      · exact h4 p hp
    · cases h
theorem joinIn_some {w : List Tok} {x : RowD} : ∀ {l : List RowD} {acc : List Line}, (∀ r ∈ l, truthI w (x.vals ++ r.vals) ≠ -1) → ∃ q, joinIn w x.vals l acc = some q
  | [], acc, _ => ⟨acc, rfl⟩
  | r :: l, acc, h => by
    rw [joinIn, if_neg (h r (by simp))]
    exact joinIn_some fun p hp => h p (by simp [hp])
theorem joinOut_some {w : List Tok} {right : List RowD} : ∀ {l : List RowD} {acc : List Line}, (∀ x ∈ l, ∀ r ∈ right, truthI w (x.vals ++ r.vals) ≠ -1) → ∃ q, joinOut w right l acc = some q
  | [], acc, _ => ⟨acc, rfl⟩
  | x :: l, acc, h => by
    obtain ⟨u, hu⟩ := joinIn_some (acc := acc) (h x (by simp))
    rw [joinOut, hu]
    exact joinOut_some fun p hp => h p (by simp [hp])
/-- As many lines the other way round. -/
theorem turned_law {s : List Table} {db : List Data} {a b : Int} {w : List Tok} (h : (JoinF s db a b w).2 = true) :
    (JoinF s db b a (w.map (turnT (colsAt s a) (colsAt s b)))).2 = true ∧ (JoinF s db b a (w.map (turnT (colsAt s a) (colsAt s b)))).1.length = (JoinF s db a b w).1.length := by
  rw [JoinF] at h ⊢
  split at h
  · rename_i hg
    simp only [Bool.and_eq_true] at hg
    obtain ⟨h1, h2, h3, h4⟩ := hg
    obtain ⟨hs, hl, hrows⟩ := dbF_at h1
    obtain ⟨a1, a2⟩ := isIn_at h2
    obtain ⟨b1, b2⟩ := isIn_at h3
    have ha : a.toNat < s.length := by omega
    have ha2 : a.toNat < db.length := by omega
    have hb : b.toNat < s.length := by omega
    have hb2 : b.toNat < db.length := by omega
    have hra := rowsF_mem (hrows _ ha ha2)
    have hrb := rowsF_mem (hrows _ hb hb2)
    have hcl := schemaF_cols hs _ (List.getElem_mem ha)
    have hca : colsAt s a = s[a.toNat].cols.length := by rw [colsAt, List.getElem?_eq_getElem ha]
    have hcb : colsAt s b = s[b.toNat].cols.length := by rw [colsAt, List.getElem?_eq_getElem hb]
    have hva : ∀ r ∈ rowsAt db a, r.vals.length = colsAt s a := fun r hr => by
      rw [rowsAt, List.getElem?_eq_getElem ha2] at hr
      rw [hca]; exact (fitF_vals (hra.2 r hr).1).1
    have hvb : ∀ r ∈ rowsAt db b, r.vals.length = colsAt s b := fun r hr => by
      rw [rowsAt, List.getElem?_eq_getElem hb2] at hr
      rw [hcb]; exact (fitF_vals (hrb.2 r hr).1).1
    have ht : exprF (w.map (turnT (colsAt s a) (colsAt s b))) ((colsAt s b + colsAt s a : Nat) : Int) = true := by
      obtain ⟨q1, q2⟩ := exprF_aux h4
      rw [Int.natCast_add] at q2
      rw [exprF, List.length_map, decide_eq_true q1, Nat.add_comm, Int.natCast_add, exprAux_turn (Int.natCast_nonneg _) (Int.natCast_nonneg _) q2]
      rfl
    rw [if_pos (by simp only [Bool.and_eq_true]; exact ⟨h1, h3, h2, ht⟩)]
    rw [JoinF, if_pos (by simp only [Bool.and_eq_true]; exact ⟨h1, h2, h3, h4⟩)]
    rw [joinF] at h
    split at h
    · rename_i ls hj
      obtain ⟨l1, l2⟩ := joinOut_len hj
      have htr : ∀ x ∈ rowsAt db a, ∀ y ∈ rowsAt db b, truthI (w.map (turnT (colsAt s a) (colsAt s b))) (y.vals ++ x.vals) = truthI w (x.vals ++ y.vals) := fun x hx y hy => by
        have := truthI_turn (x := x.vals) (y := y.vals) (e := w) (by rw [hva x hx, hvb y hy]; exact h4)
        rwa [hva x hx, hvb y hy] at this
      obtain ⟨q, hq⟩ := joinOut_some (w := w.map (turnT (colsAt s a) (colsAt s b))) (right := rowsAt db a) (l := rowsAt db b) (acc := []) fun y hy x hx => by rw [htr x hx y hy]; exact l2 x hx y hy
      obtain ⟨m1, m2⟩ := joinOut_len hq
      rw [joinF, joinF, hq, hj]
      refine ⟨rfl, ?_⟩
      show q.length = ls.length
      rw [l1, m1]
      have : cntP (isJ (w.map (turnT (colsAt s a) (colsAt s b)))) (rowsAt db b) (rowsAt db a) = cntP (isJ w) (rowsAt db a) (rowsAt db b) := by
        rw [cntP_swap (isJ w)]
        have : ∀ (ys xs : List RowD), (∀ x ∈ xs, x ∈ rowsAt db a) → (∀ y ∈ ys, y ∈ rowsAt db b) → cntP (isJ (w.map (turnT (colsAt s a) (colsAt s b)))) ys xs = cntP (fun y x => isJ w x y) ys xs := by
          intro ys xs hxs hys
          induction ys with
          | nil => rfl
          | cons y r ih =>
            rw [cntP, cntP, ih fun z hz => hys z (by simp [hz])]
            congr 2
            refine List.filter_congr fun x hx => ?_
            rw [isJ, isJ, htr x (hxs x hx) y (hys y (by simp))]
        exact this _ _ (fun _ h => h) fun _ h => h
      rw [this]
    · cases h
  · cases h
end Go.Proofs.YteafjabcpmpmgaaGreat.Am

/- Joined lines: what the results are like; marks held. -/
set_option linter.unusedVariables false
set_option linter.unusedSimpArgs false
namespace Go.Proofs.YteafjabcpmpmgaaGreat.Am

theorem joinIn_mem {w : List Tok} {a : List Val} : ∀ {l : List RowD} {acc out : List Line}, joinIn w a l acc = some out → out.length ≤ acc.length + l.length ∧ ∀ x ∈ out, x ∈ acc ∨ ∃ r ∈ l, x = ⟨a ++ r.vals⟩
  | [], acc, out, h => by
    injection h with h
    subst h
    exact ⟨by simp, fun x hx => .inl hx⟩
  | r :: l, acc, out, h => by
    rw [joinIn] at h
    split at h
    · cases h
    · obtain ⟨h1, h2⟩ := joinIn_mem h
      split at h1
      · rename_i hc
        rw [if_pos hc] at h2
        rw [List.length_append, List.length_singleton] at h1
        refine ⟨by simp only [List.length_cons]; omega, fun x hx => ?_⟩
        rcases h2 x hx with h3 | ⟨q, hq, rfl⟩
        · rcases List.mem_append.1 h3 with h3 | h3
          · exact .inl h3
          · exact .inr ⟨r, by simp, List.mem_singleton.1 h3⟩
        · exact .inr ⟨q, by simp [hq], rfl⟩
      · rename_i hc
        rw [if_neg hc] at h2
        refine ⟨by simp only [List.length_cons]; omega, fun x hx => ?_⟩
        rcases h2 x hx with h3 | ⟨q, hq, rfl⟩
        · exact .inl h3
        · exact .inr ⟨q, by simp [hq], rfl⟩
theorem joinOut_mem {w : List Tok} {right : List RowD} (hr : right.length ≤ 60) : ∀ {l : List RowD} {acc out : List Line}, joinOut w right l acc = some out → out.length ≤ acc.length + 60 * l.length ∧ ∀ x ∈ out, x ∈ acc ∨ ∃ p ∈ l, ∃ r ∈ right, x = ⟨p.vals ++ r.vals⟩
  | [], acc, out, h => by
    injection h with h
    subst h
    exact ⟨by simp, fun x hx => .inl hx⟩
  | p :: l, acc, out, h => by
    rw [joinOut] at h
    split at h
    · rename_i q hq
      obtain ⟨h1, h2⟩ := joinIn_mem hq
      obtain ⟨h3, h4⟩ := joinOut_mem hr h
      refine ⟨by simp only [List.length_cons]; omega, fun x hx => ?_⟩
      rcases h4 x hx with h5 | ⟨u, hu, r, hr, rfl⟩
      · rcases h2 x h5 with h6 | ⟨r, hr, rfl⟩
        · exact .inl h6
        · exact .inr ⟨p, by simp, r, hr, rfl⟩
      · exact .inr ⟨u, by simp [hu], r, hr, rfl⟩
    · cases h
theorem cntL_le {α : Type} {c : α → Int} {B : Nat} : ∀ {l : List α}, (∀ x ∈ l, c x ≤ B) → cntL c l ≤ (B * l.length : Nat)
  | [], _ => by simp [cntL]
  | a :: l, h => by
    have h1 := h a (by simp)
    have h2 := cntL_le (c := c) (l := l) fun x hx => h x (by simp [hx])
    rw [cntL, List.length_cons, Nat.mul_add, Nat.mul_one]
    omega
theorem JoinOn_fact (s : List Table) (db : List Data) (a b : Int) (w : List Tok) (hx : s.length ≤ 34359738368) (hb : ∀ t ∈ s, bTable 34359738368 t) (hd : db.length ≤ 34359738368) (hdb : ∀ d ∈ db, bData 34359738368 d) (hw : w.length ≤ 34359738368) (hw2 : ∀ t ∈ w, bTok 34359738368 t) :
    (JoinF s db a b w).1.length ≤ 34359738368 ∧ (∀ x ∈ (JoinF s db a b w).1, bLine 34359738368 x) ∧ 1 + cntL cntLine (JoinF s db a b w).1 ≤ 34359738368 := by
  have h : (JoinF s db a b w).1.length ≤ 3600 ∧ ∀ x ∈ (JoinF s db a b w).1, bLine 34359738368 x ∧ x.vals.length ≤ 16 := by
    rw [JoinF]
    split
    · rename_i h
      simp only [Bool.and_eq_true] at h
      obtain ⟨h1, h2, h2', _⟩ := h
      obtain ⟨hs, hl, hrows⟩ := dbF_at h1
      obtain ⟨h3, h4⟩ := isIn_at h2
      obtain ⟨h3', h4'⟩ := isIn_at h2'
      have hlt2 : a.toNat < db.length := by omega
      have hlt2' : b.toNat < db.length := by omega
      have hcl := schemaF_cols hs _ (List.getElem_mem (show a.toNat < s.length by omega))
      have hcl' := schemaF_cols hs _ (List.getElem_mem (show b.toNat < s.length by omega))
      have hr := rowsF_mem (hrows a.toNat (by omega) hlt2)
      have hr' := rowsF_mem (hrows b.toNat (by omega) hlt2')
      have hB := (hdb _ (List.getElem_mem hlt2))
      have hB' := (hdb _ (List.getElem_mem hlt2'))
      rw [rowsAt, List.getElem?_eq_getElem hlt2, rowsAt, List.getElem?_eq_getElem hlt2', joinF]
      split
      · rename_i hm
        obtain ⟨k1, k2⟩ := joinOut_mem hr'.1 hm
        refine ⟨by simp at k1 ⊢; omega, fun x hx => ?_⟩
        rcases k2 x hx with h5 | ⟨p, hp, r, hrm, rfl⟩
        · cases h5
        · have e1 := (fitF_vals (hr.2 p hp).1).1
          have e2 := (fitF_vals (hr'.2 r hrm).1).1
          refine ⟨⟨by simp only [List.length_append]; omega, fun v hv => ?_⟩, by simp only [List.length_append]; omega⟩
          rcases List.mem_append.1 hv with hv | hv
          · exact (hB.2 p hp).2 v hv
          · exact (hB'.2 r hrm).2 v hv
      · exact ⟨by simp, fun x hx => by simp at hx⟩
    · exact ⟨by simp, fun x hx => by simp at hx⟩
  have hc := cntL_le (c := cntLine) (B := 48) (l := (JoinF s db a b w).1) fun x hx => by
    have := (h.2 x hx).2
    rw [cntLine, cnt3]
    omega
  exact ⟨by omega, fun x hx => (h.2 x hx).1, by omega⟩
/-! ### Marks of lines that are held -/
end Go.Proofs.YteafjabcpmpmgaaGreat.Am

/- What the rows say of a text of bytes. -/
set_option linter.unusedVariables false
set_option linter.unusedSimpArgs false
namespace Go.Proofs.YteafjabcpmpmgaaGreat.Am
open Go.RowKit Go.ChangeShapes Go.WideShapes

section
variable {H : Type} {enc : TypeId × Value → H} {W : World}
theorem Opens.isoG {P : Program} {t : TypeId} {α β : Type} {e : β → List Ce} {good : β → Prop} (h : Opens enc P W t e good) (g : β → α) {e' : α → List Ce} {good' : α → Prop} (he : ∀ b, good b → e' (g b) = e b) (hg : ∀ b, good b → good' (g b)) : Opens enc P W t e' good' := by
  constructor
  intro fuel cs x h1 h2
  obtain ⟨a, h3, hl, h4⟩ := h.op fuel cs x h1 h2
  refine ⟨g a, hg a h3, by rw [he a h3]; exact hl, fun i hi => ?_⟩
  simp only [he a h3]
  exact h4 i (by rw [he a h3] at hi; exact hi)
theorem openB : Opens enc Tryz.prog W 5 encB (fun _ => True) :=
  (Opens.int Tryz.underlying5).isoG (fun n => UInt8.ofNat n.toNat) (fun n hn => by
    have h1 : IntKind.u8.min = 0 := by decide
    have h2 : IntKind.u8.max = 255 := by decide
    simp only [Lit.wf, h1, h2, Bool.and_eq_true, decide_eq_true_eq] at hn
    have h3 : (UInt8.ofNat n.toNat).toNat = n.toNat := UInt8.toNat_ofNat_of_lt' (by show n.toNat < 256; omega)
    simp only [encB, h3, List.cons.injEq, Ce.int.injEq, true_and, and_true]
    omega) fun _ _ => trivial
theorem openBs : Opens enc Tryz.prog W 53 (fun l : List UInt8 => [.fz (l.map encB)]) (fun l => l.length ≤ 140737488351232) :=
  (Opens.slice (s := 1) Tryz.underlying53 openB (by kernel_rfl) (by decide) (fun _ => rfl)).iso id (fun _ => rfl) fun l h => Nat.le_trans (Nat.le_mul_of_pos_right _ (of_decide_eq_true (by kernel_rfl))) h.1
end
end Go.Proofs.YteafjabcpmpmgaaGreat.Am
