/- Joined texts: Y6, Y7, Y8, I1, I2, T4. -/
import Derived.Test.YteafjabcpmpmgaaProg
import Derived.KernelRfl
import Derived.Test.YteafjabcpmpmgaaU1
import Derived.Test.YteafjabcpmpmgaaU2
import Derived.Test.YteafjabcpmpmgaaU3
import Derived.Test.YteafjabcpmpmgaaU4
/- A row put in by the reference: whole, told by existence. -/
set_option linter.unusedVariables false
set_option linter.unusedSimpArgs false
namespace Go.Proofs.Yteafjabcpmpmgaa.Am

theorem splice1 (e : List Ce) (x : Ce) (h : e.length = 1) : splice e 0 [x] = [x] := by
  rw [splice, List.take_zero, List.nil_append, List.drop_eq_nil_of_le (by simp; omega), List.append_nil]
theorem set_left {α : Type} {l m : List α} {i : Nat} {x : α} (h : i < l.length) : (l ++ m).set i x = l.set i x ++ m := List.set_append_left _ _ h
theorem l4With_ok (db : List Data) (q : Int) (n : Nat) (d : Data) (hq : q = (n : Int)) (hn : n < db.length) (hd : db.length ≤ 60) : Pure Try.prog 66 [.c (.fz (db.map encData)), .c (.int .i64 q), .agg (encData d)] (.c (.fz ((db.set n d).map encData))) := by
  refine Pure.run mixed c_spec_l4With_ok (Nat.le_of_ble_eq_true rfl) fun σ hS hA => ?_
  clear hS hA
  repeat' first|(apply yA;exact rfl)|apply yB|apply yC|((first|apply yD|apply yE);(first|exact yF|assumption);iterate 6 exact rfl)|((first|apply yG|apply yH|apply yI);exact rfl;(first|exact yJ|exact yK rfl rfl|exact yL rfl|exact yM rfl|exact rfl|exact aL rfl rfl rfl rfl rfl|exact aS rfl rfl rfl rfl rfl rfl rfl))|((first|apply yN|apply yO|apply yP);exact rfl)|(exfalso;omega)|(((first|apply yT|apply yU|apply yV|apply yW);exact rfl;(first|exact .d|exact .e|exact .n|((fail_if_success exact bqt);(fail_if_success exact bqf);exact .b)))<;>intro _)
  refine Go.app (k := 0) (ys := []) (junk := []) (zs := db.map encData) rfl rfl rfl rfl rfl (fun e he => by cases he) Jk.nil data_len (by simp; omega) fun v junk hj => ?_
  have hn2 : n < (db.map encData).length := by simpa using hn
  have hg : (E σ [(v, [] ++ db.map encData ++ junk)]).get (σ.next + 0) = some (v, [] ++ db.map encData ++ junk) := E_get (k := 0) rfl
  have he : ([] ++ db.map encData ++ junk)[0 + n]? = some (encData db[n]) := by
    rw [List.nil_append, Nat.zero_add, List.getElem?_append_left hn2]
    simp [hn]
  have he2 : ([] ++ db.map encData ++ junk)[0 + n]? = some (encData db[n]) := he
  repeat' first|(apply yA;exact rfl)|apply yB|apply yC|((first|apply yD|apply yE);(first|exact yF|assumption);iterate 6 exact rfl)|((first|apply yG|apply yH|apply yI);exact rfl;(first|exact yJ|exact yK rfl rfl|exact yL rfl|exact yM rfl|exact rfl|exact aL rfl rfl rfl rfl rfl|exact aS rfl rfl rfl rfl rfl rfl rfl|exact aop_iaddrO rfl rfl hq (by simpa using hn2) hg he rfl|exact aop_store (k := 0) rfl rfl rfl rfl he2 rfl (Nat.le_of_ble_eq_true rfl)))|((first|apply yN|apply yO|apply yP);exact rfl)|(exfalso;omega)|(((first|apply yT|apply yU|apply yV|apply yW);exact rfl;(first|exact .d|exact .e|exact .n|((fail_if_success exact bqt);(fail_if_success exact bqf);exact .b)))<;>intro _)
  refine .ret rfl ⟨_, rfl, ?_⟩
  have e1 : ([] ++ db.map encData ++ junk).set (0 + n) (splice (encData db[n]) 0 (encData d)) = (db.set n d).map encData ++ junk := by
    rw [List.nil_append, Nat.zero_add, show splice (encData db[n]) 0 (encData d) = encData d from splice1 _ _ rfl, set_left hn2, List.map_set]
  have hz := frz_old (σ := σ) (l := [(v, (db.set n d).map encData ++ junk)]) (k := 0) (N := σ.next) (v := v) (ys := (db.set n d).map encData) (junk := junk) rfl (oldDatas _) (Nat.le_refl _)
  rw [← e1] at hz
  have e2 : vec (σ.next + 0) v ((db.set n d).map encData) junk = vec (σ.next + 0) v ([] ++ db.map encData) junk := by simp [vec]
  rw [e2] at hz
  exact hz
def outC (db : List Data) (i : Nat) : List (List Ce) := (db.take i).map encData ++ List.replicate (db.length - i) [.nils]
theorem outC_at {db : List Data} {i : Nat} (h : i < db.length) : (outC db i)[0 + i]? = some [.nils] := by
  rw [outC, Nat.zero_add, List.getElem?_append_right (by rw [List.length_map, List.length_take]; omega), List.getElem?_replicate, if_pos (by rw [List.length_map, List.length_take]; omega)]
theorem outC_set {db : List Data} {i : Nat} (h : i < db.length) : (outC db i).set (0 + i) (encData db[i]) = outC db (i + 1) := by
  have e1 : db.length - i = (db.length - (i + 1)) + 1 := by omega
  have e2 : i - (db.take i).length = 0 := by rw [List.length_take]; omega
  rw [outC, outC, Nat.zero_add, List.set_append_right _ _ (by simp; omega), List.length_map, e2, e1, List.replicate_succ, List.set_cons_zero, List.take_succ_eq_append_getElem h, List.map_append, List.append_assoc]
  rfl
theorem l4Copy_ok (db : List Data) (hd : db.length ≤ 60) (hr : ∀ d ∈ db, d.rows.length ≤ 60 ∧ ∀ r ∈ d.rows, r.vals.length ≤ 34359738368) : Pure Try.prog 53 [.c (.fz (db.map encData))] (.c (.fz (db.map encData))) := by
  refine Pure.run mixed c_spec_l4Copy_ok (Nat.le_of_ble_eq_true rfl) fun σ hS hA => ?_
  clear hA
  have hmk : 24 * db.length ≤ 140737488355328 := by omega
  repeat' first|(apply yA;exact rfl)|apply yB|apply yC|((first|apply yD|apply yE);(first|exact yF|assumption);iterate 6 exact rfl)|((first|apply yG|apply yH|apply yI);exact rfl;(first|exact yJ|exact yK rfl rfl|exact yL rfl|exact yM rfl|exact rfl|exact aL rfl rfl rfl rfl rfl|exact aS rfl rfl rfl rfl rfl rfl rfl|exact aop_mkslice rfl rfl hmk))|((first|apply yN|apply yO|apply yP);exact rfl)|(exfalso;omega)|(((first|apply yT|apply yU|apply yV|apply yW);exact rfl;(first|exact .d|exact .e|exact .n|((fail_if_success exact bqt);(fail_if_success exact bqf);exact .b)))<;>intro _)
  refine Go.keep [0, 3, 4] (Go.loops (I := fun m fr τ => ∃ (i : Nat) (k : Int), m = db.length - i ∧ i ≤ db.length ∧ k = i ∧
    fr = [(0, .c (.fz (db.map encData))), (3, .c (.sl (σ.next + 0) 0 0 db.length db.length)), (4, .c (.int .i64 k))] ∧ τ = E σ [(0, outC db i)]) ?_ _ _ _ ⟨0, _, rfl, Nat.zero_le _, rfl, rfl, by rw [outC]; simp⟩)
  rintro m fr τ ⟨i, k, rfl, hi, hk, rfl, rfl⟩ hrec
  by_cases hlt : i < db.length
  · obtain ⟨hr1, hr2⟩ := hr _ (List.getElem_mem hlt)
    repeat' first|(apply yA;exact rfl)|apply yB|apply yC|((first|apply yD|apply yE);(first|exact yF|assumption);iterate 6 exact rfl)|((first|apply yG|apply yH|apply yI);exact rfl;(first|exact yJ|exact yK rfl rfl|exact yL rfl|exact yM rfl|exact rfl|exact aL rfl rfl rfl rfl rfl|exact aS rfl rfl rfl rfl rfl rfl rfl))|((first|apply yN|apply yO|apply yP);exact rfl)|(exfalso;omega)|(((first|apply yT|apply yU|apply yV|apply yW);exact rfl;(first|exact .d|exact .e|exact .n|((fail_if_success exact bqt);(fail_if_success exact bqf);exact .b)))<;>intro _)
    refine Go.keep [0, 3, 4, 5, 6] (Go.loops (I := fun m fr τ => ∃ (j : Nat) (kj : Int) (v : Nat) (junk : List (List Ce)), m = db[i].rows.length - j ∧ j ≤ db[i].rows.length ∧ kj = j ∧ Jk 2 junk ∧
      fr = [(0, .c (.fz (db.map encData))), (3, .c (.sl (σ.next + 0) 0 0 db.length db.length)), (4, .c (.int .i64 k)), (5, .c (vec (σ.next + 1) v ((db[i].rows.take j).map encRowD) junk)), (6, .c (.int .i64 kj))] ∧ τ = E σ [(0, outC db i), (v, (db[i].rows.take j).map encRowD ++ junk)]) ?_ _ _ _ ⟨0, _, 0, [], rfl, Nat.zero_le _, rfl, Jk.nil, rfl, rfl⟩)
    rintro m fr τ ⟨j, kj, v, junk, rfl, hj, hkj, hjk, rfl, rfl⟩ hrecj
    by_cases hltj : j < db[i].rows.length
    · have hbd : (((db[i].rows.take j).map encRowD).length + 1) * 32 ≤ 140737488355328 := by rw [List.length_map, List.length_take]; omega
      have e1 : (db[i].rows.take j).map encRowD ++ [encRowD db[i].rows[j]] = (db[i].rows.take (j + 1)).map encRowD := by rw [List.take_succ_eq_append_getElem hltj, List.map_append]; rfl
      have cc := l1CopyVals_pure db[i].rows[j].vals (hr2 _ (List.getElem_mem hltj))
      repeat' first|(apply yA;exact rfl)|apply yB|apply yC|((first|apply yD|apply yE);(first|exact yF|assumption);iterate 6 exact rfl)|((first|apply yG|apply yH|apply yI);exact rfl;(first|exact yJ|exact yK rfl rfl|exact yL rfl|exact yM rfl|exact rfl|exact aL rfl rfl rfl rfl rfl|exact aS rfl rfl rfl rfl rfl rfl rfl|exact yX (enc := encData) rfl rfl hk hlt rfl|exact yX (enc := encRowD) rfl rfl hkj hltj rfl))|((first|apply yN|apply yO|apply yP);exact rfl)|(apply Go.sapp1;exact rfl;exact rfl;exact rfl;exact rfl;exact rfl;exact rowD_len;exact hjk;exact rfl;exact hbd;intro v' junk' hj')|((first|apply yQ|apply yR|apply yS);(iterate 3 exact rfl);exact cc)|(exfalso;omega)|(((first|apply yT|apply yU|apply yV|apply yW);exact rfl;(first|exact .d|exact .e|exact .n|((fail_if_success exact bqt);(fail_if_success exact bqf);exact .b)))<;>intro _)
      refine Go.keep [0, 3, 4, 5, 6] (hrecj _ _ _ (by omega) ⟨j + 1, _, v', junk', rfl, hltj, wrap_succ hkj (by omega), hj', ?_, ?_⟩)
      · rw [← e1]; rfl
      · rw [← e1]; rfl
    · clear hrecj
      repeat' first|(apply yA;exact rfl)|apply yB|apply yC|((first|apply yD|apply yE);(first|exact yF|assumption);iterate 6 exact rfl)|((first|apply yG|apply yH|apply yI);exact rfl;(first|exact yJ|exact yK rfl rfl|exact yL rfl|exact yM rfl|exact rfl|exact aL rfl rfl rfl rfl rfl|exact aS rfl rfl rfl rfl rfl rfl rfl|exact yX (enc := encData) rfl rfl hk hlt rfl))|((first|apply yN|apply yO|apply yP);exact rfl)|(exfalso;omega)|(((first|apply yT|apply yU|apply yV|apply yW);exact rfl;(first|exact .d|exact .e|exact .n|((fail_if_success exact bqt);(fail_if_success exact bqf);exact .b)))<;>intro _)
      have e1 : db[i].rows.take j = db[i].rows := List.take_of_length_le (by omega)
      rw [e1]
      refine Go.freezeN (l := [(0, outC db i)]) (m := [(v, db[i].rows.map encRowD ++ junk)]) (fr' := [(0, .c (.fz (db.map encData))), (3, .c (.sl (σ.next + 0) 0 0 db.length db.length)), (4, .c (.int .i64 k)), (50, .c (.sl (σ.next + 0) 0 0 db.length db.length)), (51, .c (.int .i64 k)), (53, .agg [.fz (db[i].rows.map encRowD)])]) hS (fun b hb e he x hx => ?_) (Nat.le_refl _) (.frz rfl (.refl fun y hy => ?_) (.frz rfl (.refl (old_sl (Nat.lt_succ_self _))) (.frz rfl (.refl old_c) (.frz rfl (.refl (old_sl (Nat.lt_succ_self _))) (.frz rfl (.refl old_c) (.frz rfl (.agg rfl fun j hj0 => ?_) .nil)))))) ?_
      · rw [List.mem_singleton.1 hb] at he
        rcases List.mem_append.1 he with he | he
        · exact oldDatas _ e he x hx
        · rw [List.eq_of_mem_replicate he] at hx
          rw [List.mem_singleton.1 hx]
          exact .nils
      · rw [List.mem_singleton.1 hy]
        exact old_fz1 (oldDatas _)
      · have hz : FrzV (E σ ([(0, outC db i)] ++ [(v, db[i].rows.map encRowD ++ junk)])) (σ.next + [(0, outC db i)].length) (.c (vec (σ.next + 1) v (db[i].rows.map encRowD) junk)) (.c (.fz (db[i].rows.map encRowD))) := frz_old (k := 1) rfl (oldRows _) (Nat.le_refl _)
        have hj1 : j = 0 := by have hj9 : j < 1 := hj0; omega
        subst hj1
        cases hz with
        | c h => exact h
      have he := outC_at hlt
      have hg : (E σ [(0, outC db i)]).get (σ.next + 0) = some (0, outC db i) := E_get (k := 0) rfl
      repeat' first|(apply yA;exact rfl)|apply yB|apply yC|((first|apply yD|apply yE);(first|exact yF|assumption);iterate 6 exact rfl)|((first|apply yG|apply yH|apply yI);exact rfl;(first|exact yJ|exact yK rfl rfl|exact yL rfl|exact yM rfl|exact rfl|exact aL rfl rfl rfl rfl rfl|exact aS rfl rfl rfl rfl rfl rfl rfl|exact aop_iaddrO rfl rfl hk hlt hg he rfl|exact aop_store (k := 0) rfl rfl rfl rfl he rfl (Nat.le_of_ble_eq_true rfl)))|((first|apply yN|apply yO|apply yP);exact rfl)|(exfalso;omega)|(((first|apply yT|apply yU|apply yV|apply yW);exact rfl;(first|exact .d|exact .e|exact .n|((fail_if_success exact bqt);(fail_if_success exact bqf);exact .b)))<;>intro _)
      refine Go.keep [0, 3, 4] (hrec _ _ _ (by omega) ⟨i + 1, _, rfl, hlt, wrap_succ hk (by omega), rfl, ?_⟩)
      rw [← outC_set hlt]
      rfl
  · repeat' first|(apply yA;exact rfl)|apply yB|apply yC|((first|apply yD|apply yE);(first|exact yF|assumption);iterate 6 exact rfl)|((first|apply yG|apply yH|apply yI);exact rfl;(first|exact yJ|exact yK rfl rfl|exact yL rfl|exact yM rfl|exact rfl|exact aL rfl rfl rfl rfl rfl|exact aS rfl rfl rfl rfl rfl rfl rfl))|((first|apply yN|apply yO|apply yP);exact rfl)|(exfalso;omega)|(((first|apply yT|apply yU|apply yV|apply yW);exact rfl;(first|exact .d|exact .e|exact .n|((fail_if_success exact bqt);(fail_if_success exact bqf);exact .b)))<;>intro _)
    refine .ret rfl ⟨_, rfl, ?_⟩
    have e1 : outC db i = db.map encData ++ [] := by rw [outC, List.take_of_length_le (by omega), show db.length - i = 0 by omega]; rfl
    have hz := frz_old (σ := σ) (l := [(0, db.map encData ++ [])]) (k := 0) (N := σ.next) (v := 0) (ys := db.map encData) (junk := []) rfl (oldDatas _) (Nat.le_refl _)
    rw [← e1] at hz
    have e2 : vec (σ.next + 0) 0 (db.map encData) [] = .sl (σ.next + 0) 0 0 db.length db.length := by simp [vec]
    rw [e2] at hz
    exact hz
theorem DbNew_ok (s : List Table) (hx : s.length ≤ 34359738368) (hb : ∀ t ∈ s, bTable 34359738368 t) : Pure Try.prog 39 [.c (.fz (s.map encTable))] (.tup [.c (.fz ((if schemaF s then List.replicate s.length (⟨[]⟩ : Data) else []).map encData)), .c (.bool (schemaF s))]) := by
  refine Pure.run mixed c_spec_DbNew_ok (Nat.le_of_ble_eq_true rfl) fun σ hS hA => ?_
  clear hS hA
  have c1 := sSchemaOk_ok s hx hb
  cases h : schemaF s
  · rw [h] at c1
    repeat' first|(apply yA;exact rfl)|apply yB|apply yC|((first|apply yD|apply yE);(first|exact yF|assumption);iterate 6 exact rfl)|((first|apply yG|apply yH|apply yI);exact rfl;(first|exact yJ|exact yK rfl rfl|exact yL rfl|exact yM rfl|exact rfl|exact aL rfl rfl rfl rfl rfl|exact aS rfl rfl rfl rfl rfl rfl rfl))|((first|apply yN|apply yO|apply yP);exact rfl)|((first|apply yQ|apply yR|apply yS);(iterate 3 exact rfl);exact c1)|(exfalso;omega)|(((first|apply yT|apply yU|apply yV|apply yW);exact rfl;(first|exact .d|exact .e|exact .n|((fail_if_success exact bqt);(fail_if_success exact bqf);exact .b)))<;>intro _)
    exact .ret rfl ⟨_, rfl, .tup rfl fun i hi => by
      have : i = 0 ∨ i = 1 := by simp at hi; omega
      rcases this with rfl | rfl
      · exact .c .nil
      · exact .c (.same _ (.bool _))⟩
  · rw [h] at c1
    have h5 : s.length ≤ 5 := by
      simp only [schemaF, Bool.and_eq_true, decide_eq_true_eq] at h
      omega
    have hmk : 24 * s.length ≤ 140737488355328 := by omega
    repeat' first|(apply yA;exact rfl)|apply yB|apply yC|((first|apply yD|apply yE);(first|exact yF|assumption);iterate 6 exact rfl)|((first|apply yG|apply yH|apply yI);exact rfl;(first|exact yJ|exact yK rfl rfl|exact yL rfl|exact yM rfl|exact rfl|exact aL rfl rfl rfl rfl rfl|exact aS rfl rfl rfl rfl rfl rfl rfl|exact aop_mkslice rfl rfl hmk))|((first|apply yN|apply yO|apply yP);exact rfl)|((first|apply yQ|apply yR|apply yS);(iterate 3 exact rfl);exact c1)|(exfalso;omega)|(((first|apply yT|apply yU|apply yV|apply yW);exact rfl;(first|exact .d|exact .e|exact .n|((fail_if_success exact bqt);(fail_if_success exact bqf);exact .b)))<;>intro _)
    refine .ret rfl ⟨_, rfl, .tup rfl fun i hi => ?_⟩
    have : i = 0 ∨ i = 1 := by simp at hi; omega
    rcases this with rfl | rfl
    · have e1 : (List.replicate s.length (⟨[]⟩ : Data)).map encData = List.replicate s.length [.fz []] := by rw [List.map_replicate]; rfl
      refine .c (.sl _ _ _ _ _ (List.replicate s.length [.nils]) _ (Nat.le_add_right _ _) (E_get (k := 0) rfl) (by simp) (by simp) (fun k hk => ?_) (fun k j hk hj => ?_))
      · simp only [if_true, e1, List.getElem_replicate]
        rfl
      · have hj0 : j = 0 := by
          simp only [if_true, e1, List.getElem_replicate] at hj
          simpa using hj
        subst hj0
        simp only [if_true, e1, List.getElem_replicate]
        exact .nil
    · exact .c (.same _ (.bool _))
/-! ### what stays right -/
theorem rowsAux_snoc {t : Table} {x : RowD} (h1 : isIn x.id 1 1000000000 = true) (h2 : fitF t x.vals = true) : ∀ {l : List RowD} {p : Option Int}, rowsAux t p l = true → (∀ q ∈ l, q.id < x.id) → (∀ q, p = some q → q < x.id) → rowsAux t p (l ++ [x]) = true
  | [], p, _, _, h => by
    have h3 : risesId p x.id = true := by
      cases p with
      | none => rfl
      | some q => exact decide_eq_true (h q rfl)
    simp [rowsAux, rowOne, h1, h2, h3]
  | a :: l, p, h, hl, hp => by
    rw [rowsAux, Bool.and_eq_true] at h
    rw [List.cons_append, rowsAux, h.1, rowsAux_snoc h1 h2 h.2 (fun q hq => hl q (by simp [hq])) fun q hq => by injection hq with hq; rw [← hq]; exact hl a (by simp)]
    rfl
theorem dbAux_of : ∀ {s : List Table} {db : List Data}, (∀ i (hi : i < s.length) (hi2 : i < db.length), rowsF s[i] db[i].rows = true) → dbAux s db = true
  | [], _, _ => by simp [dbAux]
  | _ :: _, [], _ => by simp [dbAux]
  | t :: s, d :: db, h => by
    rw [dbAux, show rowsF t d.rows = true from h 0 (by simp) (by simp), dbAux_of fun i hi hi2 => h (i + 1) (by simp; omega) (by simp; omega)]
    rfl
theorem dbF_put {s : List Table} {db : List Data} (h : dbF s db = true) {n : Nat} (hn : n < s.length) (hn2 : n < db.length) {x : RowD} (h1 : isIn x.id 1 1000000000 = true) (h2 : fitF s[n] x.vals = true) (h3 : ∀ q ∈ db[n].rows, q.id < x.id) (h4 : db[n].rows.length < 60) : dbF s (db.set n ⟨db[n].rows ++ [x]⟩) = true := by
  obtain ⟨hs, hl, hrows⟩ := dbF_at h
  rw [dbF, hs, List.length_set, decide_eq_true (by omega), Bool.true_and, Bool.true_and]
  refine dbAux_of fun i hi hi2 => ?_
  rw [List.getElem_set]
  split
  · rename_i e
    subst e
    have hr := hrows n hn hn2
    rw [rowsF, Bool.and_eq_true] at hr ⊢
    exact ⟨rowsAux_snoc h1 h2 hr.1 h3 (fun q hq => nomatch hq), by rw [List.length_append, List.length_singleton]; exact decide_eq_true (by omega)⟩
  · exact hrows i hi _
theorem dbF_b {s : List Table} {db : List Data} (h : dbF s db = true) : db.length ≤ 5 ∧ (∀ d ∈ db, bData 34359738368 d) ∧ ∀ d ∈ db, d.rows.length ≤ 60 ∧ ∀ r ∈ d.rows, 1 ≤ r.vals.length ∧ r.vals.length ≤ 8 ∧ ∀ w ∈ r.vals, bV 12 w := by
  obtain ⟨hs, hl, hrows⟩ := dbF_at h
  have h5 : s.length ≤ 5 := by
    have := hs
    simp only [schemaF, Bool.and_eq_true, decide_eq_true_eq] at this
    omega
  have key : ∀ d ∈ db, d.rows.length ≤ 60 ∧ ∀ r ∈ d.rows, 1 ≤ r.vals.length ∧ r.vals.length ≤ 8 ∧ ∀ w ∈ r.vals, bV 12 w := fun d hd => by
    obtain ⟨i, hi, rfl⟩ := List.getElem_of_mem hd
    have hr := rowsF_mem (hrows i (by omega) hi)
    refine ⟨hr.1, fun r hm => ?_⟩
    obtain ⟨f1, f2⟩ := fitF_vals (hr.2 r hm).1
    have hc := schemaF_cols hs _ (List.getElem_mem (show i < s.length by omega))
    refine ⟨by omega, by omega, fun w hw => ?_⟩
    have := f2 w hw
    simp only [okVal, Bool.or_eq_true, Bool.and_eq_true, beq_iff_eq, decide_eq_true_eq] at this
    rw [bV]
    rcases this with (⟨_, h⟩ | ⟨_, h⟩) | ⟨_, h⟩
    · rw [h]; simp
    · rw [h]; simp
    · omega
  refine ⟨by omega, fun d hd => ⟨by have := (key d hd).1; omega, fun r hr => ?_⟩, key⟩
  obtain ⟨_, k2, k3⟩ := (key d hd).2 r hr
  exact ⟨by omega, fun w hw => Nat.le_trans (k3 w hw) (by decide)⟩
/-- A right database with a code, or none with another one. -/
def Put (s : List Table) (bad : Int → Prop) (r : AV) : Prop := ∃ y id code, r = .tup [.c y, .c (.int .i64 id), .c (.int .i64 code)] ∧ (¬ bad code → ∃ db, dbF s db = true ∧ y = .fz (db.map encData))
theorem fin_put {σ : Store} {l : List (Nat × List (List Ce))} {y : Ce} {a b : Int} (hy : Old σ.next y) : FrzV (E σ l) σ.next (.tup [.c y, .c (.int .i64 a), .c (.int .i64 b)]) (.tup [.c y, .c (.int .i64 a), .c (.int .i64 b)]) := .tup rfl fun i hi => by
  have : i = 0 ∨ i = 1 ∨ i = 2 := by simp at hi; omega
  rcases this with rfl | rfl | rfl
  · exact .c (.same _ hy)
  · exact .c (.same _ (.int _ _))
  · exact .c (.same _ (.int _ _))
theorem l6Insert_ok (s : List Table) (db : List Data) (q : Int) (n : Nat) (vals : List Val) (hq : q = (n : Int)) (hn : n < s.length) (hn2 : n < db.length) (h : dbF s db = true) (hb : ∀ t ∈ s, bTable 34359738368 t) (hf : fitF s[n] vals = true) :
    Told Try.prog 52 [.c (.fz (s.map encTable)), .c (.fz (db.map encData)), .c (.int .i64 q), .c (.fz (vals.map encV)), .c (.bool false)] (Put s fun c => c ≠ 0) := by
  refine Told.run mixed c_spec_l6Insert_ok (Nat.le_of_ble_eq_true rfl) fun σ hS => ?_
  clear hS
  obtain ⟨hs, hl, hrows⟩ := dbF_at h
  have hrn := hrows n hn hn2
  have hmem := rowsF_mem hrn
  have hT := schemaF_tab hs _ (List.getElem_mem hn)
  have hfv := fitF_vals hf
  have h5 := (dbF_b h).1
  have c0 := l6Able_ok s[n] vals hfv.1 hT (fitF_are hf hT.cols8)
  repeat' first|(apply yA;exact rfl)|apply yB|apply yC|((first|apply yD|apply yE);(first|exact yF|assumption);iterate 6 exact rfl)|((first|apply yG|apply yH|apply yI);exact rfl;(first|exact yJ|exact yK rfl rfl|exact yL rfl|exact yM rfl|exact rfl|exact aL rfl rfl rfl rfl rfl|exact aS rfl rfl rfl rfl rfl rfl rfl|exact yX (enc := encTable) rfl rfl hq hn rfl))|((first|apply yN|apply yO|apply yP);exact rfl)|(exfalso;omega)|(((first|apply yT|apply yU|apply yV|apply yW);exact rfl;(first|exact .d|exact .e|exact .n|((fail_if_success exact bqt);(fail_if_success exact bqf);exact .b)))<;>intro _)
  refine Go.told rfl rfl rfl c0 ?_
  rintro _ ⟨code, rfl⟩
  by_cases h0 : code = 0
  · subst h0
    repeat' first|(apply yA;exact rfl)|apply yB|apply yC|((first|apply yD|apply yE);(first|exact yF|assumption);iterate 6 exact rfl)|((first|apply yG|apply yH|apply yI);exact rfl;(first|exact yJ|exact yK rfl rfl|exact yL rfl|exact yM rfl|exact rfl|exact aL rfl rfl rfl rfl rfl|exact aS rfl rfl rfl rfl rfl rfl rfl|exact yX (enc := encData) rfl rfl hq hn2 rfl))|((first|apply yN|apply yO|apply yP);exact rfl)|(exfalso;omega)|(((first|apply yT|apply yU|apply yV|apply yW);exact rfl;(first|exact .d|exact .e|exact .n|((fail_if_success exact bqt);(fail_if_success exact bqf);exact .b)))<;>intro _)
    refine Go.told rfl rfl rfl (l6Next_ok db[n] (rowsF_rise hrn) hmem.1 fun r hr => ?_) ?_
    · have := (hmem.2 r hr).2
      simp only [isIn, Bool.and_eq_true, decide_eq_true_eq] at this
      exact this
    rintro _ ⟨k, hk1, hk2, hk3, rfl⟩
    have cc := l1CopyVals_pure vals (by have h8 := hT.cols8; have hf1 := hfv.1; omega)
    repeat' first|(apply yA;exact rfl)|apply yB|apply yC|((first|apply yD|apply yE);(first|exact yF|assumption);iterate 6 exact rfl)|((first|apply yG|apply yH|apply yI);exact rfl;(first|exact yJ|exact yK rfl rfl|exact yL rfl|exact yM rfl|exact rfl|exact aL rfl rfl rfl rfl rfl|exact aS rfl rfl rfl rfl rfl rfl rfl))|((first|apply yN|apply yO|apply yP);exact rfl)|((first|apply yQ|apply yR|apply yS);(iterate 3 exact rfl);exact cc)|(exfalso;omega)|(((first|apply yT|apply yU|apply yV|apply yW);exact rfl;(first|exact .d|exact .e|exact .n|((fail_if_success exact bqt);(fail_if_success exact bqf);exact .b)))<;>intro _)
    have hR := db_tab h hb hn hn2
    have hK : KeysR s[n] db[n] ⟨k, vals⟩ := ⟨hT.uniq3, hR.keys, fun c hc => by show InR c vals.length; rw [hfv.1]; exact hR.inr c hc, fun c hc r hr => by rw [(hR.row r hr).len]; exact hR.inr c hc⟩
    refine Go.told rfl rfl rfl (l6Clear_ok s db q n ⟨k, vals⟩ hq hn hn2 hmem.1 hK) ?_
    rintro _ (rfl | rfl)
    · by_cases hfull : db[n].rows.length = 60
      · have hfi : (db[n].rows.length : Int) = 60 := by omega
        repeat' first|(apply yA;exact rfl)|apply yB|apply yC|((first|apply yD|apply yE);(first|exact yF|assumption);iterate 6 exact rfl)|((first|apply yG|apply yH|apply yI);exact rfl;(first|exact yJ|exact yK rfl rfl|exact yL rfl|exact yM rfl|exact rfl|exact aL rfl rfl rfl rfl rfl|exact aS rfl rfl rfl rfl rfl rfl rfl|exact yX (enc := encData) rfl rfl hq hn2 rfl))|((first|apply yN|apply yO|apply yP);exact rfl)|(exfalso;omega)|(((first|apply yT|apply yU|apply yV|apply yW);exact rfl;(first|exact .d|exact .e|exact .n|((fail_if_success exact bqt);(fail_if_success exact bqf);exact .b)))<;>intro _)
        exact .ret rfl ⟨_, ⟨_, _, _, rfl, fun hh => absurd (by decide) hh⟩, _, rfl, fin_put .nils⟩
      · have hfi : ¬ (db[n].rows.length : Int) = 60 := by omega
        by_cases hbig : k > 1000000000
        · repeat' first|(apply yA;exact rfl)|apply yB|apply yC|((first|apply yD|apply yE);(first|exact yF|assumption);iterate 6 exact rfl)|((first|apply yG|apply yH|apply yI);exact rfl;(first|exact yJ|exact yK rfl rfl|exact yL rfl|exact yM rfl|exact rfl|exact aL rfl rfl rfl rfl rfl|exact aS rfl rfl rfl rfl rfl rfl rfl|exact yX (enc := encData) rfl rfl hq hn2 rfl))|((first|apply yN|apply yO|apply yP);exact rfl)|(exfalso;omega)|(((first|apply yT|apply yU|apply yV|apply yW);exact rfl;(first|exact .d|exact .e|exact .n|((fail_if_success exact bqt);(fail_if_success exact bqf);exact .b)))<;>intro _)
          exact .ret rfl ⟨_, ⟨_, _, _, rfl, fun hh => absurd (by decide) hh⟩, _, rfl, fin_put .nils⟩
        · have hd2 := dbF_put h hn hn2 (x := ⟨k, vals⟩) (by simp only [isIn, Bool.and_eq_true, decide_eq_true_eq]; omega) hf hk3 (by omega)
          have c4 := l4Put_ok db[n] ⟨k, vals⟩ hmem.1 hk3
          have c5 := l4With_ok db q n ⟨db[n].rows ++ [⟨k, vals⟩]⟩ hq hn2 (by omega)
          generalize hdb' : db.set n ⟨db[n].rows ++ [⟨k, vals⟩]⟩ = db' at hd2 c5
          have hl2 : db'.length = db.length := by rw [← hdb', List.length_set]
          have hR2 := db_tab hd2 hb hn (by omega)
          have hx : (⟨k, vals⟩ : RowD) ∈ (db'[n]'(by omega)).rows := by
            have : db'[n]'(by omega) = ⟨db[n].rows ++ [⟨k, vals⟩]⟩ := by simp only [← hdb', List.getElem_set_self]
            rw [this]
            simp
          have c6 := l5Refers_ok s db' q n vals true (by omega) hq hn hT.fk3 (hR2.row _ hx).fks
          generalize (!(s[n].fks.any (lostBad s db' (!true) vals))) = B at c6
          cases B
          · repeat' first|(apply yA;exact rfl)|apply yB|apply yC|((first|apply yD|apply yE);(first|exact yF|assumption);iterate 6 exact rfl)|((first|apply yG|apply yH|apply yI);exact rfl;(first|exact yJ|exact yK rfl rfl|exact yL rfl|exact yM rfl|exact rfl|exact aL rfl rfl rfl rfl rfl|exact aS rfl rfl rfl rfl rfl rfl rfl|exact yX (enc := encData) rfl rfl hq hn2 rfl))|((first|apply yN|apply yO|apply yP);exact rfl)|((first|apply yQ|apply yR|apply yS);(iterate 3 exact rfl);(first|exact c4|exact c5|exact c6))|(exfalso;omega)|(((first|apply yT|apply yU|apply yV|apply yW);exact rfl;(first|exact .d|exact .e|exact .n|((fail_if_success exact bqt);(fail_if_success exact bqf);exact .b)))<;>intro _)
            exact .ret rfl ⟨_, ⟨_, _, _, rfl, fun hh => absurd (by decide) hh⟩, _, rfl, fin_put .nils⟩
          · repeat' first|(apply yA;exact rfl)|apply yB|apply yC|((first|apply yD|apply yE);(first|exact yF|assumption);iterate 6 exact rfl)|((first|apply yG|apply yH|apply yI);exact rfl;(first|exact yJ|exact yK rfl rfl|exact yL rfl|exact yM rfl|exact rfl|exact aL rfl rfl rfl rfl rfl|exact aS rfl rfl rfl rfl rfl rfl rfl|exact yX (enc := encData) rfl rfl hq hn2 rfl))|((first|apply yN|apply yO|apply yP);exact rfl)|((first|apply yQ|apply yR|apply yS);(iterate 3 exact rfl);(first|exact c4|exact c5|exact c6))|(exfalso;omega)|(((first|apply yT|apply yU|apply yV|apply yW);exact rfl;(first|exact .d|exact .e|exact .n|((fail_if_success exact bqt);(fail_if_success exact bqf);exact .b)))<;>intro _)
            exact .ret rfl ⟨_, ⟨_, _, _, rfl, fun _ => ⟨db', hd2, rfl⟩⟩, _, rfl, fin_put (old_fz1 (oldDatas _))⟩
    · repeat' first|(apply yA;exact rfl)|apply yB|apply yC|((first|apply yD|apply yE);(first|exact yF|assumption);iterate 6 exact rfl)|((first|apply yG|apply yH|apply yI);exact rfl;(first|exact yJ|exact yK rfl rfl|exact yL rfl|exact yM rfl|exact rfl|exact aL rfl rfl rfl rfl rfl|exact aS rfl rfl rfl rfl rfl rfl rfl))|((first|apply yN|apply yO|apply yP);exact rfl)|(exfalso;omega)|(((first|apply yT|apply yU|apply yV|apply yW);exact rfl;(first|exact .d|exact .e|exact .n|((fail_if_success exact bqt);(fail_if_success exact bqf);exact .b)))<;>intro _)
      exact .ret rfl ⟨_, ⟨_, _, _, rfl, fun hh => absurd (by decide) hh⟩, _, rfl, fin_put .nils⟩
  · repeat' first|(apply yA;exact rfl)|apply yB|apply yC|((first|apply yD|apply yE);(first|exact yF|assumption);iterate 6 exact rfl)|((first|apply yG|apply yH|apply yI);exact rfl;(first|exact yJ|exact yK rfl rfl|exact yL rfl|exact yM rfl|exact rfl|exact aL rfl rfl rfl rfl rfl|exact aS rfl rfl rfl rfl rfl rfl rfl))|((first|apply yN|apply yO|apply yP);exact rfl)|(exfalso;omega)|(((first|apply yT|apply yU|apply yV|apply yW);exact rfl;(first|exact .d|exact .e|exact .n|((fail_if_success exact bqt);(fail_if_success exact bqf);exact .b)))<;>intro _)
    exact .ret rfl ⟨_, ⟨_, _, _, rfl, fun hh => absurd h0 hh⟩, _, rfl, fin_put .nils⟩
theorem InsertRow_told (s : List Table) (db : List Data) (q : Int) (n : Nat) (vals : List Val) (hq : q = (n : Int)) (hn : n < s.length) (hx : s.length ≤ 34359738368) (h : dbF s db = true) (hb : ∀ t ∈ s, bTable 34359738368 t) (hv : vals.length ≤ 34359738368) :
    Told Try.prog 41 [.c (.fz (s.map encTable)), .c (.fz (db.map encData)), .c (.int .i64 q), .c (.fz (vals.map encV)), .c (.bool false)] (Put s fun c => c = 1) := by
  refine Told.run mixed c_spec_InsertRow_ok (Nat.le_of_ble_eq_true rfl) fun σ hS => ?_
  clear hS
  obtain ⟨hs, hl, hrows⟩ := dbF_at h
  obtain ⟨h5, hbd, hrl⟩ := dbF_b h
  have hn2 : n < db.length := by omega
  have c1 := l6Ok_ok s db q hx hb (by omega) hbd
  have hin : isIn q 0 (s.length - 1) = true := by simp only [isIn, Bool.and_eq_true, decide_eq_true_eq]; omega
  rw [h, hin] at c1
  have c2 := l4Kinds_ok s[n] vals hv
  cases hf : fitF s[n] vals
  · rw [hf] at c2
    repeat' first|(apply yA;exact rfl)|apply yB|apply yC|((first|apply yD|apply yE);(first|exact yF|assumption);iterate 6 exact rfl)|((first|apply yG|apply yH|apply yI);exact rfl;(first|exact yJ|exact yK rfl rfl|exact yL rfl|exact yM rfl|exact rfl|exact aL rfl rfl rfl rfl rfl|exact aS rfl rfl rfl rfl rfl rfl rfl|exact yX (enc := encTable) rfl rfl hq hn rfl))|((first|apply yN|apply yO|apply yP);exact rfl)|((first|apply yQ|apply yR|apply yS);(iterate 3 exact rfl);(first|exact c1|exact c2))|(exfalso;omega)|(((first|apply yT|apply yU|apply yV|apply yW);exact rfl;(first|exact .d|exact .e|exact .n|((fail_if_success exact bqt);(fail_if_success exact bqf);exact .b)))<;>intro _)
    exact .ret rfl ⟨_, ⟨_, _, _, rfl, fun hh => absurd rfl hh⟩, _, rfl, fin_put .nils⟩
  · rw [hf] at c2
    repeat' first|(apply yA;exact rfl)|apply yB|apply yC|((first|apply yD|apply yE);(first|exact yF|assumption);iterate 6 exact rfl)|((first|apply yG|apply yH|apply yI);exact rfl;(first|exact yJ|exact yK rfl rfl|exact yL rfl|exact yM rfl|exact rfl|exact aL rfl rfl rfl rfl rfl|exact aS rfl rfl rfl rfl rfl rfl rfl|exact yX (enc := encTable) rfl rfl hq hn rfl))|((first|apply yN|apply yO|apply yP);exact rfl)|((first|apply yQ|apply yR|apply yS);(iterate 3 exact rfl);(first|exact c1|exact c2))|(exfalso;omega)|(((first|apply yT|apply yU|apply yV|apply yW);exact rfl;(first|exact .d|exact .e|exact .n|((fail_if_success exact bqt);(fail_if_success exact bqf);exact .b)))<;>intro _)
    refine Go.told rfl rfl rfl (l6Insert_ok s db q n vals hq hn hn2 h hb hf) ?_
    rintro _ ⟨y, id, code, rfl, hok⟩
    have cdb := l4Copy_ok db (by omega) fun d hd => ⟨(hrl d hd).1, fun r hr => by have := ((hrl d hd).2 r hr).2.1; omega⟩
    by_cases h0 : code = 0
    · subst h0
      obtain ⟨db', hd', rfl⟩ := hok (by decide)
      obtain ⟨h5', _, hrl'⟩ := dbF_b hd'
      have cdb' := l4Copy_ok db' (by omega) fun d hd => ⟨(hrl' d hd).1, fun r hr => by have := ((hrl' d hd).2 r hr).2.1; omega⟩
      repeat' first|(apply yA;exact rfl)|apply yB|apply yC|((first|apply yD|apply yE);(first|exact yF|assumption);iterate 6 exact rfl)|((first|apply yG|apply yH|apply yI);exact rfl;(first|exact yJ|exact yK rfl rfl|exact yL rfl|exact yM rfl|exact rfl|exact aL rfl rfl rfl rfl rfl|exact aS rfl rfl rfl rfl rfl rfl rfl))|((first|apply yN|apply yO|apply yP);exact rfl)|((first|apply yQ|apply yR|apply yS);(iterate 3 exact rfl);exact cdb')|(exfalso;omega)|(((first|apply yT|apply yU|apply yV|apply yW);exact rfl;(first|exact .d|exact .e|exact .n|((fail_if_success exact bqt);(fail_if_success exact bqf);exact .b)))<;>intro _)
      exact .ret rfl ⟨_, ⟨_, _, _, rfl, fun _ => ⟨db', hd', rfl⟩⟩, _, rfl, fin_put (old_fz1 (oldDatas _))⟩
    · repeat' first|(apply yA;exact rfl)|apply yB|apply yC|((first|apply yD|apply yE);(first|exact yF|assumption);iterate 6 exact rfl)|((first|apply yG|apply yH|apply yI);exact rfl;(first|exact yJ|exact yK rfl rfl|exact yL rfl|exact yM rfl|exact rfl|exact aL rfl rfl rfl rfl rfl|exact aS rfl rfl rfl rfl rfl rfl rfl))|((first|apply yN|apply yO|apply yP);exact rfl)|((first|apply yQ|apply yR|apply yS);(iterate 3 exact rfl);exact cdb)|(exfalso;omega)|(((first|apply yT|apply yU|apply yV|apply yW);exact rfl;(first|exact .d|exact .e|exact .n|((fail_if_success exact bqt);(fail_if_success exact bqf);exact .b)))<;>intro _)
      exact .ret rfl ⟨_, ⟨_, _, _, rfl, fun _ => ⟨db, h, rfl⟩⟩, _, rfl, fin_put (old_fz1 (oldDatas _))⟩
end Go.Proofs.Yteafjabcpmpmgaa.Am

/- The reader that draws: databases and places. -/
set_option linter.unusedVariables false
set_option linter.unusedSimpArgs false
namespace Go.Proofs.Yteafjabcpmpmgaa.Am

/-- A drawn database: right, or none. -/
def Bases (s : List Table) (r : AV) : Prop := ∃ db : List Data, (dbF s db = true ∨ db = []) ∧ r = .c (.fz (db.map encData))
theorem oldTables {n : Nat} (l : List Table) : OldL n (l.map encTable) := fun e he c hc => by
  obtain ⟨a, _, rfl⟩ := List.mem_map.1 he
  simp only [encTable, List.mem_cons, List.not_mem_nil, or_false] at hc
  rcases hc with rfl | rfl | rfl | rfl | rfl | rfl
  · exact .str _
  · exact old_fz1 (oldCols _)
  · exact old_fz1 (oldInts _)
  · exact old_fz1 (oldUniqs _)
  · exact old_fz1 (oldChks _)
  · exact old_fz1 (oldFks _)
theorem SmallT.b34 {t : Table} (h : SmallT t) : bTable 34359738368 t := by
  obtain ⟨⟨b1, ⟨b2, b3⟩, b4, ⟨b5, b6⟩, ⟨b7, b8⟩, b9, b10⟩, _, _⟩ := h
  have k : ∀ {n : Nat}, n ≤ 12 → n ≤ 34359738368 := fun h => by omega
  refine ⟨k b1, ⟨k b2, fun x hx => ?_⟩, k b4, ⟨k b5, fun x hx => k (b6 x hx)⟩, ⟨k b7, fun x hx => ?_⟩, k b9, fun x hx => ⟨k (b10 x hx).1, k (b10 x hx).2⟩⟩
  · exact ⟨k (b3 x hx).1, k (b3 x hx).2⟩
  · exact ⟨k (b8 x hx).1, fun t ht => k ((b8 x hx).2 t ht)⟩
theorem SchD.b {s : List Table} (h : SchD s) : s.length ≤ 34359738368 ∧ ∀ t ∈ s, bTable 34359738368 t := ⟨by have := h.2.1; omega, fun t ht => (h.2.2 t ht).b34⟩
theorem dbF_new {s : List Table} (h : schemaF s = true) : dbF s (List.replicate s.length (⟨[]⟩ : Data)) = true := by
  rw [dbF, h, List.length_replicate, decide_eq_true rfl, Bool.true_and, Bool.true_and]
  refine dbAux_of fun i hi hi2 => ?_
  simp [rowsF, rowsAux]
theorem below_pos {n : Nat} (h : 0 < n) {r : AV} (hr : BelowR (n : Int) r) : ∃ k : Nat, k < n ∧ r = .c (.int .i64 (k : Int)) := by
  obtain ⟨k, h0, h1, rfl⟩ := hr
  refine ⟨k.toNat, by omega, by rw [Int.toNat_of_nonneg h0]⟩
theorem base_ok (s : List Table) (most : Nat) (hm : 1 ≤ most) (hm2 : most ≤ 60) (hs : SchD s) : Draws Try.prog 21 [.c (.fz (s.map encTable)), .c (.int .i64 (most : Int))] (Bases s) := by
  refine Draws.run mixed c_spec_l1Rd_base_ok (Nat.le_of_ble_eq_true rfl) fun σ id v code p hr hp hc hS => ?_
  obtain ⟨hx, hb⟩ := hs.b
  have c0 := DbNew_ok s hx hb
  cases hsc : schemaF s
  · rw [hsc, if_neg (by decide)] at c0
    have hpos : (0 : Int) < s.length := by have := hs.1; omega
    repeat' first|(apply yA;exact rfl)|apply yB|apply yC|((first|apply yD|apply yE);(first|exact yF|assumption);iterate 6 exact rfl)|((first|apply yG|apply yH|apply yI);exact rfl;(first|exact yJ|exact yK rfl rfl|exact yL rfl|exact yM rfl|exact rfl|exact aL rfl rfl rfl rfl rfl|exact aS rfl rfl rfl rfl rfl rfl rfl))|((first|apply yN|apply yO|apply yP);exact rfl)|((first|apply yQ|apply yR|apply yS);(iterate 3 exact rfl);exact c0)|(exfalso;omega)|(((first|apply yT|apply yU|apply yV|apply yW);exact rfl;(first|exact .d|exact .e|exact .n|((fail_if_success exact bqt);(fail_if_success exact bqf);exact .b)))<;>intro _)
    apply Go.loop
    repeat' first|(apply yA;exact rfl)|apply yB|apply yC|((first|apply yD|apply yE);(first|exact yF|assumption);iterate 6 exact rfl)|((first|apply yG|apply yH|apply yI);exact rfl;(first|exact yJ|exact yK rfl rfl|exact yL rfl|exact yM rfl|exact rfl|exact aL rfl rfl rfl rfl rfl|exact aS rfl rfl rfl rfl rfl rfl rfl))|((first|apply yN|apply yO|apply yP);exact rfl)|(exfalso;omega)|(((first|apply yT|apply yU|apply yV|apply yW);exact rfl;(first|exact .d|exact .e|exact .n|((fail_if_success exact bqt);(fail_if_success exact bqf);exact .b)))<;>intro _)
    exact .ret rfl (.c hp ⟨[], .inr rfl, rfl⟩ fun y hy => by
      rw [List.mem_singleton.1 hy]
      exact .fz _ fun i j hi => absurd hi (by simp))
  rw [hsc, if_pos rfl] at c0
  have hd0 := dbF_new hsc
  generalize List.replicate s.length (⟨[]⟩ : Data) = db0 at c0 hd0
  have hsO : ∀ y ∈ (AV.c (.fz (s.map encTable))).all, Old σ.next y := fun y hy => by
    rw [List.mem_singleton.1 hy]
    exact old_fz1 (oldTables _)
  have hs3 := hs.2.1
  have hs1 := hs.1
  repeat' first|(apply yA;exact rfl)|apply yB|apply yC|((first|apply yD|apply yE);(first|exact yF|assumption);iterate 6 exact rfl)|((first|apply yG|apply yH|apply yI);exact rfl;(first|exact yJ|exact yK rfl rfl|exact yL rfl|exact yM rfl|exact rfl|exact aL rfl rfl rfl rfl rfl|exact aS rfl rfl rfl rfl rfl rfl rfl))|((first|apply yN|apply yO|apply yP);exact rfl)|((first|apply yQ|apply yR|apply yS);(iterate 3 exact rfl);exact c0)|(exfalso;omega)|(((first|apply yT|apply yU|apply yV|apply yW);exact rfl;(first|exact .d|exact .e|exact .n|((fail_if_success exact bqt);(fail_if_success exact bqf);exact .b)))<;>intro _)
  refine Go.keep [0, 1, 2, 7, 8, 9] (Go.loops (I := fun m fr τ => ∃ (i : Nat) (k : Int) (q : Nat) (db : List Data), m = s.length - i ∧ i ≤ s.length ∧ k = i ∧ q ≤ code.length ∧ dbF s db = true ∧
    fr = [(0, .c (.ptr id v 0 0)), (1, .c (.fz (s.map encTable))), (2, .c (.int .i64 (most : Int))), (7, .c (.fz (db.map encData))), (8, .c (.bool true)), (9, .c (.int .i64 k))] ∧ τ = E (Rd.go σ id v code q) []) ?_ _ _ _ ⟨0, _, p, db0, rfl, Nat.zero_le _, rfl, hp, hd0, rfl, rfl⟩)
  clear c0 hd0 hp
  rintro m fr τ ⟨i, k, q, db, rfl, hi, hk, hq, hd, rfl, rfl⟩ hrec
  by_cases hlt : i < s.length
  · have hT := hs.2.2 _ (List.getElem_mem hlt)
    repeat' first|(apply yA;exact rfl)|apply yB|apply yC|((first|apply yD|apply yE);(first|exact yF|assumption);iterate 6 exact rfl)|((first|apply yG|apply yH|apply yI);exact rfl;(first|exact yJ|exact yK rfl rfl|exact yL rfl|exact yM rfl|exact rfl|exact aL rfl rfl rfl rfl rfl|exact aS rfl rfl rfl rfl rfl rfl rfl))|((first|apply yN|apply yO|apply yP);exact rfl)|(exfalso;omega)|(((first|apply yT|apply yU|apply yV|apply yW);exact rfl;(first|exact .d|exact .e|exact .n|((fail_if_success exact bqt);(fail_if_success exact bqf);exact .b)))<;>intro _)
    refine Go.drawn hr hq rfl rfl rfl (below_ok most (by omega) (by omega)) ?_
    rintro _ q1 hq1 ⟨a, ha0, ha1, rfl⟩
    have ew : IntKind.i64.wrap (1 + a) = 1 + a := wrap64 (by omega) (by omega)
    repeat' first|(apply yA;exact rfl)|apply yB|apply yC|((first|apply yD|apply yE);(first|exact yF|assumption);iterate 6 exact rfl)|((first|apply yG|apply yH|apply yI);exact rfl;(first|exact yJ|exact yK rfl rfl|exact yL rfl|exact yM rfl|exact rfl|exact aL rfl rfl rfl rfl rfl|exact aS rfl rfl rfl rfl rfl rfl rfl))|((first|apply yN|apply yO|apply yP);exact rfl)|(exfalso;omega)|(((first|apply yT|apply yU|apply yV|apply yW);exact rfl;(first|exact .d|exact .e|exact .n|((fail_if_success exact bqt);(fail_if_success exact bqf);exact .b)))<;>intro _)
    refine Go.keep [0, 1, 2, 7, 8, 9, 10] (Go.loops (I := fun m fr τ => ∃ (b : Int) (q : Nat) (db : List Data), m = b.toNat ∧ b ≤ 100 ∧ q ≤ code.length ∧ dbF s db = true ∧
      fr = [(0, .c (.ptr id v 0 0)), (1, .c (.fz (s.map encTable))), (2, .c (.int .i64 (most : Int))), (7, .c (.fz (db.map encData))), (8, .c (.bool true)), (9, .c (.int .i64 k)), (10, .c (.int .i64 b))] ∧ τ = E (Rd.go σ id v code q) []) ?_ _ _ _ ⟨_, q1, db, rfl, by omega, hq1, hd, rfl, rfl⟩)
    clear hq1 hd hq ew ha0 ha1
    clear db q q1
    rintro m fr τ ⟨b, q, db, rfl, hb100, hq, hd, rfl, rfl⟩ hrecb
    obtain ⟨h5, hbd, hrl⟩ := dbF_b hd
    have hdl := (dbF_at hd).2.1
    have hi2 : i < db.length := by omega
    have h00 : 0 < db.length := by omega
    have hz0 : (0 : Int) = ((0 : Nat) : Int) := rfl
    by_cases hb0 : b > 0
    · repeat' first|(apply yA;exact rfl)|apply yB|apply yC|((first|apply yD|apply yE);(first|exact yF|assumption);iterate 6 exact rfl)|((first|apply yG|apply yH|apply yI);exact rfl;(first|exact yJ|exact yK rfl rfl|exact yL rfl|exact yM rfl|exact rfl|exact aL rfl rfl rfl rfl rfl|exact aS rfl rfl rfl rfl rfl rfl rfl|exact yX (enc := encTable) rfl rfl hk hlt rfl))|((first|apply yN|apply yO|apply yP);exact rfl)|(exfalso;omega)|(((first|apply yT|apply yU|apply yV|apply yW);exact rfl;(first|exact .d|exact .e|exact .n|((fail_if_success exact bqt);(fail_if_success exact bqf);exact .b)))<;>intro _)
      have cf := fit_own s[i] (by have := hT.hi; omega) (E (Rd.go σ id v code q) []) id v code q ((hr.at_ hq).E [])
      refine .call _ rfl rfl rfl cf ?_
      rintro r τ ⟨q2, vs, u, junk, hq2, hvl, hvb, hj, rfl, rfl⟩
      rw [Rd.go_E (show id < (Rd.go σ id v code q).next from hr.2.1), Rd.go_go, E_E, List.nil_append]
      have hlo := hT.lo
      have hz1 : (1 : Int) = ((1 : Nat) : Int) := rfl
      have h1v : 1 < (vs.map encV).length := by rw [List.length_map]; omega
      have h1v2 : 1 < vs.length := by omega
      have hev : (vs.map encV ++ junk)[0 + 1]? = some (encV vs[1]) := by
        rw [Nat.zero_add, List.getElem?_append_left h1v]
        simp [h1v2]
      have setV : ∀ w : Val, (vs.map encV ++ junk).set (0 + 1) (splice (encV vs[1]) 0 (encV w)) = (vs.set 1 w).map encV ++ junk := fun w => by
        have : splice (encV vs[1]) 0 (encV w) = encV w := by rw [splice, List.take_zero, List.nil_append, List.drop_eq_nil_of_le (by simp [encV]), List.append_nil]
        rw [this, Nat.zero_add, set_left h1v, List.map_set]
      have vec_set : ∀ w : Val, vec (σ.next + 0) u ((vs.set 1 w).map encV) junk = vec (σ.next + 0) u (vs.map encV) junk := fun w => by simp [vec]
      have hset : ∀ w : Val, bV 12 w → ∀ x ∈ vs.set 1 w, bV 12 x := fun w hw x hx => by
        rcases List.mem_or_eq_of_mem_set hx with hx | rfl
        · exact hvb x hx
        · exact hw
      refine Go.op rfl rfl (.nil (.seq ?_))
      refine Go.meet (K' := [_]) (fun fr τ => ∃ (q : Nat) (vs : List Val) (u : Nat) (junk : List (List Ce)), q ≤ code.length ∧ vs.length = s[i].cols.length ∧ (∀ w ∈ vs, bV 12 w) ∧ Jk 3 junk ∧
        fr = [(0, .c (.ptr id v 0 0)), (1, .c (.fz (s.map encTable))), (2, .c (.int .i64 (most : Int))), (7, .c (.fz (db.map encData))), (8, .c (.bool true)), (9, .c (.int .i64 k)), (10, .c (.int .i64 b)), (11, .c (vec (σ.next + 0) u (vs.map encV) junk))] ∧ τ = E (Rd.go σ id v code q) [(u, vs.map encV ++ junk)]) (fun K hm => ?_) ?_
      · have hgv : ∀ q : Nat, (E (Rd.go σ id v code q) [(u, vs.map encV ++ junk)]).get (σ.next + 0) = some (u, vs.map encV ++ junk) := fun q => E_get (σ := Rd.go σ id v code q) (k := 0) rfl
        repeat' first|(apply yA;exact rfl)|apply yB|apply yC|((first|apply yD|apply yE);(first|exact yF|assumption);iterate 6 exact rfl)|((first|apply yG|apply yH|apply yI);exact rfl;(first|exact yJ|exact yK rfl rfl|exact yL rfl|exact yM rfl|exact rfl|exact aL rfl rfl rfl rfl rfl|exact aS rfl rfl rfl rfl rfl rfl rfl|exact yX (enc := encTable) rfl rfl hk hlt rfl|exact yX (enc := encData) rfl rfl hk hi2 rfl|exact yX (enc := encData) rfl rfl hz0 h00 rfl))|((first|apply yN|apply yO|apply yP);exact rfl)|(exfalso;omega)|(((first|apply yT|apply yU|apply yV|apply yW);exact rfl;(first|exact .d|exact .e|exact .n|((fail_if_success exact bqt);(fail_if_success exact bqf);exact .b)))<;>intro _)
        all_goals first
          | exact Go.keep [0, 1, 2, 7, 8, 9, 10, 11] (hm _ _ ⟨q2, vs, u, junk, hq2, hvl, hvb, hj, rfl, rfl⟩)
          | skip
        refine Go.drawn hr hq2 rfl rfl rfl (once_ok 4 (by decide) (by decide)) ?_
        rintro _ q3 hq3 ⟨b3, rfl⟩
        cases b3
        · repeat' first|(apply yA;exact rfl)|apply yB|apply yC|((first|apply yD|apply yE);(first|exact yF|assumption);iterate 6 exact rfl)|((first|apply yG|apply yH|apply yI);exact rfl;(first|exact yJ|exact yK rfl rfl|exact yL rfl|exact yM rfl|exact rfl|exact aL rfl rfl rfl rfl rfl|exact aS rfl rfl rfl rfl rfl rfl rfl|exact yX (enc := encTable) rfl rfl hk hlt rfl|exact yX (enc := encData) rfl rfl hk hi2 rfl|exact yX (enc := encData) rfl rfl hz0 h00 rfl))|((first|apply yN|apply yO|apply yP);exact rfl)|(exfalso;omega)|(((first|apply yT|apply yU|apply yV|apply yW);exact rfl;(first|exact .d|exact .e|exact .n|((fail_if_success exact bqt);(fail_if_success exact bqf);exact .b)))<;>intro _)
          all_goals first
            | exact Go.keep [0, 1, 2, 7, 8, 9, 10, 11] (hm _ _ ⟨q3, vs, u, junk, hq3, hvl, hvb, hj, rfl, rfl⟩)
            | skip
          · have hr60 := (hrl _ (List.getElem_mem hi2)).1
            refine Go.drawn hr hq3 rfl rfl rfl (below_ok (db[i].rows).length (by omega) (by omega)) ?_
            intro r q4 hq4 hz
            obtain ⟨c, hc4, rfl⟩ := below_pos (by omega) hz
            have hrr := ((hrl _ (List.getElem_mem hi2)).2 _ (List.getElem_mem hc4))
            obtain ⟨w, hw, hw2⟩ : ∃ w, w = ((db[i].rows)[c]'hc4).vals[0]'(by omega) ∧ bV 12 w := ⟨_, rfl, hrr.2.2 _ (List.getElem_mem _)⟩
            have hv0 : 0 < ((db[i].rows)[c]'hc4).vals.length := by omega
            repeat' first|(apply yA;exact rfl)|apply yB|apply yC|((first|apply yD|apply yE);(first|exact yF|assumption);iterate 6 exact rfl)|((first|apply yG|apply yH|apply yI);exact rfl;(first|exact yJ|exact yK rfl rfl|exact yL rfl|exact yM rfl|exact rfl|exact aL rfl rfl rfl rfl rfl|exact aS rfl rfl rfl rfl rfl rfl rfl|exact yX (enc := encRowD) rfl rfl rfl hc4 rfl|exact yX (enc := encV) rfl rfl hz0 hv0 rfl|exact aop_iaddrO rfl rfl hz1 h1v (hgv _) hev rfl|exact aop_store (k := 0) rfl rfl rfl rfl hev rfl (Nat.le_of_ble_eq_true rfl)))|((first|apply yN|apply yO|apply yP);exact rfl)|(exfalso;omega)|(((first|apply yT|apply yU|apply yV|apply yW);exact rfl;(first|exact .d|exact .e|exact .n|((fail_if_success exact bqt);(fail_if_success exact bqf);exact .b)))<;>intro _)
            refine Go.keep [0, 1, 2, 7, 8, 9, 10, 11] (hm _ _ ⟨q4, vs.set 1 w, u, junk, hq4, by rw [List.length_set]; exact hvl, hset w hw2, hj, ?_, ?_⟩)
            · rw [vec_set]; rfl
            · rw [← setV w, hw]; rfl
          · have hr60 := (hrl _ (List.getElem_mem h00)).1
            refine Go.drawn hr hq3 rfl rfl rfl (below_ok (db[0].rows).length (by omega) (by omega)) ?_
            intro r q4 hq4 hz
            obtain ⟨c, hc4, rfl⟩ := below_pos (by omega) hz
            have hrr := ((hrl _ (List.getElem_mem h00)).2 _ (List.getElem_mem hc4))
            obtain ⟨w, hw, hw2⟩ : ∃ w, w = ((db[0].rows)[c]'hc4).vals[0]'(by omega) ∧ bV 12 w := ⟨_, rfl, hrr.2.2 _ (List.getElem_mem _)⟩
            have hv0 : 0 < ((db[0].rows)[c]'hc4).vals.length := by omega
            repeat' first|(apply yA;exact rfl)|apply yB|apply yC|((first|apply yD|apply yE);(first|exact yF|assumption);iterate 6 exact rfl)|((first|apply yG|apply yH|apply yI);exact rfl;(first|exact yJ|exact yK rfl rfl|exact yL rfl|exact yM rfl|exact rfl|exact aL rfl rfl rfl rfl rfl|exact aS rfl rfl rfl rfl rfl rfl rfl|exact yX (enc := encRowD) rfl rfl rfl hc4 rfl|exact yX (enc := encV) rfl rfl hz0 hv0 rfl|exact aop_iaddrO rfl rfl hz1 h1v (hgv _) hev rfl|exact aop_store (k := 0) rfl rfl rfl rfl hev rfl (Nat.le_of_ble_eq_true rfl)))|((first|apply yN|apply yO|apply yP);exact rfl)|(exfalso;omega)|(((first|apply yT|apply yU|apply yV|apply yW);exact rfl;(first|exact .d|exact .e|exact .n|((fail_if_success exact bqt);(fail_if_success exact bqf);exact .b)))<;>intro _)
            refine Go.keep [0, 1, 2, 7, 8, 9, 10, 11] (hm _ _ ⟨q4, vs.set 1 w, u, junk, hq4, by rw [List.length_set]; exact hvl, hset w hw2, hj, ?_, ?_⟩)
            · rw [vec_set]; rfl
            · rw [← setV w, hw]; rfl
        · repeat' first|(apply yA;exact rfl)|apply yB|apply yC|((first|apply yD|apply yE);(first|exact yF|assumption);iterate 6 exact rfl)|((first|apply yG|apply yH|apply yI);exact rfl;(first|exact yJ|exact yK rfl rfl|exact yL rfl|exact yM rfl|exact rfl|exact aL rfl rfl rfl rfl rfl|exact aS rfl rfl rfl rfl rfl rfl rfl|exact yX (enc := encTable) rfl rfl hk hlt rfl|exact yX (enc := encData) rfl rfl hk hi2 rfl|exact yX (enc := encData) rfl rfl hz0 h00 rfl))|((first|apply yN|apply yO|apply yP);exact rfl)|(exfalso;omega)|(((first|apply yT|apply yU|apply yV|apply yW);exact rfl;(first|exact .d|exact .e|exact .n|((fail_if_success exact bqt);(fail_if_success exact bqf);exact .b)))<;>intro _)
          all_goals exact Go.keep [0, 1, 2, 7, 8, 9, 10, 11] (hm _ _ ⟨q3, vs, u, junk, hq3, hvl, hvb, hj, rfl, rfl⟩)
      · clear hset vec_set setV hev h1v2 h1v hz1
        clear hvl hvb hj hq2
        clear q2 vs u junk
        rintro fr τ ⟨q2, vs, u, junk, hq2, hvl, hvb, hj, rfl, rfl⟩
        have hz1 : (1 : Int) = ((1 : Nat) : Int) := rfl
        have h1v : 1 < (vs.map encV).length := by rw [List.length_map]; omega
        have h1v2 : 1 < vs.length := by omega
        have hev : (vs.map encV ++ junk)[0 + 1]? = some (encV vs[1]) := by
          rw [Nat.zero_add, List.getElem?_append_left h1v]
          simp [h1v2]
        have setV : ∀ w : Val, (vs.map encV ++ junk).set (0 + 1) (splice (encV vs[1]) 0 (encV w)) = (vs.set 1 w).map encV ++ junk := fun w => by
          have : splice (encV vs[1]) 0 (encV w) = encV w := by rw [splice, List.take_zero, List.nil_append, List.drop_eq_nil_of_le (by simp [encV]), List.append_nil]
          rw [this, Nat.zero_add, set_left h1v, List.map_set]
        have vec_set : ∀ w : Val, vec (σ.next + 0) u ((vs.set 1 w).map encV) junk = vec (σ.next + 0) u (vs.map encV) junk := fun w => by simp [vec]
        have hset : ∀ w : Val, bV 12 w → ∀ x ∈ vs.set 1 w, bV 12 x := fun w hw x hx => by
          rcases List.mem_or_eq_of_mem_set hx with hx | rfl
          · exact hvb x hx
          · exact hw
        refine .seq ?_
        refine Go.meet (K' := [_]) (fun fr τ => ∃ (q : Nat) (vs : List Val) (u : Nat) (junk : List (List Ce)), q ≤ code.length ∧ vs.length = s[i].cols.length ∧ (∀ w ∈ vs, bV 12 w) ∧ Jk 3 junk ∧
          fr = [(0, .c (.ptr id v 0 0)), (1, .c (.fz (s.map encTable))), (2, .c (.int .i64 (most : Int))), (7, .c (.fz (db.map encData))), (8, .c (.bool true)), (9, .c (.int .i64 k)), (10, .c (.int .i64 b)), (11, .c (vec (σ.next + 0) u (vs.map encV) junk))] ∧ τ = E (Rd.go σ id v code q) [(u, vs.map encV ++ junk)]) (fun K hm => ?_) ?_
        · have hgv : ∀ q : Nat, (E (Rd.go σ id v code q) [(u, vs.map encV ++ junk)]).get (σ.next + 0) = some (u, vs.map encV ++ junk) := fun q => E_get (σ := Rd.go σ id v code q) (k := 0) rfl
          repeat' first|(apply yA;exact rfl)|apply yB|apply yC|((first|apply yD|apply yE);(first|exact yF|assumption);iterate 6 exact rfl)|((first|apply yG|apply yH|apply yI);exact rfl;(first|exact yJ|exact yK rfl rfl|exact yL rfl|exact yM rfl|exact rfl|exact aL rfl rfl rfl rfl rfl|exact aS rfl rfl rfl rfl rfl rfl rfl|exact yX (enc := encTable) rfl rfl hk hlt rfl|exact yX (enc := encData) rfl rfl hk hi2 rfl|exact yX (enc := encData) rfl rfl hz0 h00 rfl|exact aop_iaddrO rfl rfl hz1 h1v (hgv _) hev rfl|exact aop_store (k := 0) rfl rfl rfl rfl hev rfl (Nat.le_of_ble_eq_true rfl)))|((first|apply yN|apply yO|apply yP);exact rfl)|(exfalso;omega)|(((first|apply yT|apply yU|apply yV|apply yW);exact rfl;(first|exact .d|exact .e|exact .n|((fail_if_success exact bqt);(fail_if_success exact bqf);exact .b)))<;>intro _)
          all_goals first
            | exact Go.keep [0, 1, 2, 7, 8, 9, 10, 11] (hm _ _ ⟨q2, vs, u, junk, hq2, hvl, hvb, hj, rfl, rfl⟩)
            | skip
          refine Go.keep [0, 1, 2, 7, 8, 9, 10, 11] (hm _ _ ⟨q2, vs.set 1 vNull, u, junk, hq2, by rw [List.length_set]; exact hvl, hset vNull (Nat.zero_le _), hj, ?_, ?_⟩)
          · rw [vec_set]; rfl
          · rw [← setV vNull]; rfl
        · clear hset vec_set setV hev h1v2 h1v hz1
          clear hvl hvb hj hq2
          clear q2 vs u junk
          rintro fr τ ⟨q2, vs, u, junk, hq2, hvl, hvb, hj, rfl, rfl⟩
          refine Go.freezeN (l := []) (m := [(u, vs.map encV ++ junk)]) (fr' := [(0, .c (.ptr id v 0 0)), (1, .c (.fz (s.map encTable))), (2, .c (.int .i64 (most : Int))), (7, .c (.fz (db.map encData))), (8, .c (.bool true)), (9, .c (.int .i64 k)), (10, .c (.int .i64 b)), (11, .c (.fz (vs.map encV)))]) (hr.old hS) (fun b hb => by cases hb) (Nat.le_refl _)
            (.frz rfl (.refl (old_ptr hr.2.1)) (.frz rfl (.refl hsO) (.frz rfl (.refl old_c) (.frz rfl (.refl fun y hy => by rw [List.mem_singleton.1 hy]; exact old_fz1 (oldDatas _)) (.frz rfl (.refl old_b) (.frz rfl (.refl old_c) (.frz rfl (.refl old_c) (.frz rfl (frz_drop (n := 0) (k := 0) rfl flats (Nat.zero_le _) (Nat.le_refl _)) .nil)))))))) ?_
          repeat' first|(apply yA;exact rfl)|apply yB|apply yC|((first|apply yD|apply yE);(first|exact yF|assumption);iterate 6 exact rfl)|((first|apply yG|apply yH|apply yI);exact rfl;(first|exact yJ|exact yK rfl rfl|exact yL rfl|exact yM rfl|exact rfl|exact aL rfl rfl rfl rfl rfl|exact aS rfl rfl rfl rfl rfl rfl rfl))|((first|apply yN|apply yO|apply yP);exact rfl)|(exfalso;omega)|(((first|apply yT|apply yU|apply yV|apply yW);exact rfl;(first|exact .d|exact .e|exact .n|((fail_if_success exact bqt);(fail_if_success exact bqf);exact .b)))<;>intro _)
          refine Go.told rfl rfl rfl (InsertRow_told s db k i vs hk hlt hx hd hb (by have := hT.hi; omega)) ?_
          rintro _ ⟨y, iid, cd, rfl, hok⟩
          have ew : IntKind.i64.wrap (b - 1) = b - 1 := wrap64 (by omega) (by omega)
          by_cases hcd : cd = 1
          · repeat' first|(apply yA;exact rfl)|apply yB|apply yC|((first|apply yD|apply yE);(first|exact yF|assumption);iterate 6 exact rfl)|((first|apply yG|apply yH|apply yI);exact rfl;(first|exact yJ|exact yK rfl rfl|exact yL rfl|exact yM rfl|exact rfl|exact aL rfl rfl rfl rfl rfl|exact aS rfl rfl rfl rfl rfl rfl rfl))|((first|apply yN|apply yO|apply yP);exact rfl)|(exfalso;omega)|(((first|apply yT|apply yU|apply yV|apply yW);exact rfl;(first|exact .d|exact .e|exact .n|((fail_if_success exact bqt);(fail_if_success exact bqf);exact .b)))<;>intro _)
            exact Go.keep [0, 1, 2, 7, 8, 9, 10] (hrecb _ _ _ (by omega) ⟨b - 1, q2, db, rfl, by omega, hq2, hd, by rw [ew]; rfl, rfl⟩)
          · obtain ⟨db', hd', rfl⟩ := hok hcd
            repeat' first|(apply yA;exact rfl)|apply yB|apply yC|((first|apply yD|apply yE);(first|exact yF|assumption);iterate 6 exact rfl)|((first|apply yG|apply yH|apply yI);exact rfl;(first|exact yJ|exact yK rfl rfl|exact yL rfl|exact yM rfl|exact rfl|exact aL rfl rfl rfl rfl rfl|exact aS rfl rfl rfl rfl rfl rfl rfl))|((first|apply yN|apply yO|apply yP);exact rfl)|(exfalso;omega)|(((first|apply yT|apply yU|apply yV|apply yW);exact rfl;(first|exact .d|exact .e|exact .n|((fail_if_success exact bqt);(fail_if_success exact bqf);exact .b)))<;>intro _)
            exact Go.keep [0, 1, 2, 7, 8, 9, 10] (hrecb _ _ _ (by omega) ⟨b - 1, q2, db', rfl, by omega, hq2, hd', by rw [ew]; rfl, rfl⟩)
    · repeat' first|(apply yA;exact rfl)|apply yB|apply yC|((first|apply yD|apply yE);(first|exact yF|assumption);iterate 6 exact rfl)|((first|apply yG|apply yH|apply yI);exact rfl;(first|exact yJ|exact yK rfl rfl|exact yL rfl|exact yM rfl|exact rfl|exact aL rfl rfl rfl rfl rfl|exact aS rfl rfl rfl rfl rfl rfl rfl))|((first|apply yN|apply yO|apply yP);exact rfl)|(exfalso;omega)|(((first|apply yT|apply yU|apply yV|apply yW);exact rfl;(first|exact .d|exact .e|exact .n|((fail_if_success exact bqt);(fail_if_success exact bqf);exact .b)))<;>intro _)
      exact Go.keep [0, 1, 2, 7, 8, 9] (hrec _ _ _ (by omega) ⟨i + 1, _, q, db, rfl, hlt, wrap_succ hk (by omega), hq, hd, rfl, rfl⟩)
  · repeat' first|(apply yA;exact rfl)|apply yB|apply yC|((first|apply yD|apply yE);(first|exact yF|assumption);iterate 6 exact rfl)|((first|apply yG|apply yH|apply yI);exact rfl;(first|exact yJ|exact yK rfl rfl|exact yL rfl|exact yM rfl|exact rfl|exact aL rfl rfl rfl rfl rfl|exact aS rfl rfl rfl rfl rfl rfl rfl))|((first|apply yN|apply yO|apply yP);exact rfl)|(exfalso;omega)|(((first|apply yT|apply yU|apply yV|apply yW);exact rfl;(first|exact .d|exact .e|exact .n|((fail_if_success exact bqt);(fail_if_success exact bqf);exact .b)))<;>intro _)
    exact .ret rfl (.c hq ⟨db, .inl hd, rfl⟩ fun y hy => by
      rw [List.mem_singleton.1 hy]
      exact old_fz1 (oldDatas _))
end Go.Proofs.Yteafjabcpmpmgaa.Am

/- Drawn arguments: of Matching, of JoinOn. -/
set_option linter.unusedVariables false
set_option linter.unusedSimpArgs false
namespace Go.Proofs.Yteafjabcpmpmgaa.Am

theorem l1Open_ok (code : List UInt8) (σ : Store) : Ok Try.prog 10 [.c (.fz (code.map encB))] σ (fun r τ => r = .c (.ptr (σ.next + 0) 0 0 0) ∧ τ = E σ [(0, rdB code 0)]) := by
  refine Ok.run mixed c_spec_l1Open_ok (Nat.le_of_ble_eq_true rfl) fun hS hA => ?_
  clear hS hA
  repeat' first|(apply yA;exact rfl)|apply yB|apply yC|((first|apply yD|apply yE);(first|exact yF|assumption);iterate 6 exact rfl)|((first|apply yG|apply yH|apply yI);exact rfl;(first|exact yJ|exact yK rfl rfl|exact yL rfl|exact yM rfl|exact rfl|exact aL rfl rfl rfl rfl rfl|exact aS rfl rfl rfl rfl rfl rfl rfl))|((first|apply yN|apply yO|apply yP);exact rfl)|(exfalso;omega)|(((first|apply yT|apply yU|apply yV|apply yW);exact rfl;(first|exact .d|exact .e|exact .n|((fail_if_success exact bqt);(fail_if_success exact bqf);exact .b)))<;>intro _)
  exact .ret rfl ⟨rfl, rfl⟩
/-- The reader that was opened. -/
theorem rd_open {σ : Store} {code : List UInt8} (hc : code.length ≤ 1048576) : Rd (E σ [(0, rdB code 0)]) (σ.next + 0) 0 code 0 := ⟨E_get (k := 0) rfl, by rw [E_next]; simp, Nat.zero_le _, hc⟩
theorem rd_opened {σ : Store} {code : List UInt8} (hc : code.length ≤ 1048576) : E σ [(0, rdB code 0)] = E (Rd.go (E σ [(0, rdB code 0)]) (σ.next + 0) 0 code 0) [] := by
  rw [(rd_open (σ := σ) hc).same, E_E, List.append_nil]
end Go.Proofs.Yteafjabcpmpmgaa.Am

/- An index made anew: the reference's. -/
set_option linter.unusedVariables false
set_option linter.unusedSimpArgs false
namespace Go.Proofs.Yteafjabcpmpmgaa.Am

theorem aop_cutF {fr : Fr} {σ : Store} {s : Nat} {x hi : Opd} {kd : IntKind} {es : List (List Ce)} {z : Int} {n : Nat} (hx : x.ev fr = some (.c (.fz es))) (hy : hi.ev fr = some (.c (.int kd z))) (hz : z = (n : Int)) (hn : n ≤ es.length) (hs : ∀ e ∈ es, e.length = s) : aop (.slice s x none (some hi) none) fr σ = some (.c (.fz (es.take n)), σ) := by
  have : sliceA σ s (.fz es) none (some (.c (.int kd z))) none = some (.fz (es.take n)) := by
    subst hz
    simp only [sliceA, bound]
    rw [if_pos (by omega)]
    simp only [Int.toNat_natCast]
    rw [if_pos ⟨Nat.zero_le _, hn, hs⟩, List.drop_zero]
  simp only [aop, hx, evo, hy, Option.map_some, this]
theorem aop_restF {fr : Fr} {σ : Store} {s : Nat} {x lo : Opd} {kd : IntKind} {es : List (List Ce)} {z : Int} {n : Nat} (hx : x.ev fr = some (.c (.fz es))) (hy : lo.ev fr = some (.c (.int kd z))) (hz : z = (n : Int)) (hn : n ≤ es.length) (hs : ∀ e ∈ es, e.length = s) : aop (.slice s x (some lo) none none) fr σ = some (.c (.fz (es.drop n)), σ) := by
  have : sliceA σ s (.fz es) (some (.c (.int kd z))) none none = some (.fz (es.drop n)) := by
    subst hz
    simp only [sliceA, bound]
    rw [if_pos (by omega)]
    simp only [Int.toNat_natCast]
    rw [if_pos ⟨hn, Nat.le_refl _, hs⟩, List.take_of_length_le (Nat.le_refl _)]
  simp only [aop, hx, evo, hy, Option.map_some, this]
def putPos (e : Entry) : List Entry → Nat
  | [] => 0
  | a :: r => if lessK a.key e.key a.id e.id then putPos e r + 1 else 0
def putF (e : Entry) (l : List Entry) : List Entry := l.take (putPos e l) ++ e :: l.drop (putPos e l)
theorem putF_perm (e : Entry) (l : List Entry) : (putF e l).Perm (e :: l) := by
  have h := List.perm_middle (l₁ := l.take (putPos e l)) (a := e) (l₂ := l.drop (putPos e l))
  rw [List.take_append_drop] at h
  exact h
theorem encE_two {l : List Entry} : ∀ q ∈ l.map encE, q.length = 2 := fun q hq => by
  obtain ⟨a, _, rfl⟩ := List.mem_map.1 hq
  rfl
theorem old_encE (n : Nat) (e : Entry) : ∀ x ∈ encE e, Old n x := fun x hx => by
  simp only [encE, List.mem_cons, List.not_mem_nil, or_false] at hx
  rcases hx with rfl | rfl
  · refine .fz _ fun i j hi hj => ?_
    exact ((clean_append _ (List.getElem_mem hi)).2 _ (List.getElem_mem hj)).old n
  · exact .int _ _
theorem oldEnts {n : Nat} (l : List Entry) : OldL n (l.map encE) := fun e he x hx => by
  obtain ⟨a, _, rfl⟩ := List.mem_map.1 he
  exact old_encE n a x hx
theorem l11Put_mk (l : List Entry) (e : Entry) (hx : l.length ≤ 1048576) (hk : ∀ q ∈ l, q.key.length ≤ 34359738368) (σ : Store) : Ok Try.prog 57 [.c (.fz (l.map encE)), .agg (encE e)] σ (Made σ 2 ((putF e l).map encE)) := by
  refine Ok.run mixed c_spec_l11Put_ok (Nat.le_of_ble_eq_true rfl) fun hS hA => ?_
  clear hS hA
  repeat' first|(apply yA;exact rfl)|apply yB|apply yC|((first|apply yD|apply yE);(first|exact yF|assumption);iterate 6 exact rfl)|((first|apply yG|apply yH|apply yI);exact rfl;(first|exact yJ|exact yK rfl rfl|exact yL rfl|exact yM rfl|exact rfl|exact aL rfl rfl rfl rfl rfl|exact aS rfl rfl rfl rfl rfl rfl rfl))|((first|apply yN|apply yO|apply yP);exact rfl)|(exfalso;omega)|(((first|apply yT|apply yU|apply yV|apply yW);exact rfl;(first|exact .d|exact .e|exact .n|((fail_if_success exact bqt);(fail_if_success exact bqf);exact .b)))<;>intro _)
  refine Go.keep [0, 3, 5] (Go.loops (I := fun m fr τ => ∃ (i : Nat) (k : Int), m = l.length - i ∧ i ≤ l.length ∧ k = i ∧ putPos e l = i + putPos e (l.drop i) ∧
    fr = [(0, .c (.fz (l.map encE))), (3, .c (.fp (encE e))), (5, .c (.int .i64 k))] ∧ τ = E σ []) ?_ _ _ _ ⟨0, _, rfl, Nat.zero_le _, rfl, (Nat.zero_add _).symm, rfl, rfl⟩)
  rintro m fr τ ⟨i, k, rfl, hi, hki, hs, rfl, rfl⟩ hrec
  have htl : ∀ q ∈ (l.map encE).take i, q.length = 2 := fun q hq => encE_two q (List.mem_of_mem_take hq)
  have hdl : ∀ q ∈ (l.map encE).drop i, q.length = 2 := fun q hq => encE_two q (List.mem_of_mem_drop hq)
  have hil : i ≤ (l.map encE).length := by rw [List.length_map]; exact hi
  have ht0 : ((l.map encE).take i).length = i := by rw [List.length_take]; omega
  have hd0 : ((l.map encE).drop i).length = l.length - i := by rw [List.length_drop, List.length_map]
  have hfin : putPos e l = i → (l.map encE).take i ++ [encE e] ++ (l.map encE).drop i = (putF e l).map encE := fun h => by
    rw [putF, h]
    simp
  by_cases hlt : i < l.length
  · rw [List.drop_eq_getElem_cons hlt, putPos] at hs
    have c1 := l11Less_ok l[i] e (hk _ (List.getElem_mem hlt))
    cases hb : lessK l[i].key e.key l[i].id e.id
    · rw [hb] at c1 hs
      rw [if_neg Bool.false_ne_true] at hs
      have hf := hfin (by omega)
      clear hrec hfin
      repeat' first|(apply yA;exact rfl)|apply yB|apply yC|((first|apply yD|apply yE);(first|exact yF|assumption);iterate 6 exact rfl)|((first|apply yG|apply yH|apply yI);exact rfl;(first|exact yJ|exact yK rfl rfl|exact yL rfl|exact yM rfl|exact rfl|exact aL rfl rfl rfl rfl rfl|exact aS rfl rfl rfl rfl rfl rfl rfl|exact yX (enc := encE) rfl rfl hki hlt rfl|exact aop_cutF rfl rfl hki hil encE_two|exact aop_restF rfl rfl hki hil encE_two))|((first|apply yN|apply yO|apply yP);exact rfl)|((first|apply yQ|apply yR|apply yS);(iterate 3 exact rfl);exact c1)|(exfalso;omega)|(((first|apply yT|apply yU|apply yV|apply yW);exact rfl;(first|exact .d|exact .e|exact .n|((fail_if_success exact bqt);(fail_if_success exact bqf);exact .b)))<;>intro _)
      refine Go.app (k := 0) (v := 0) (ys := []) (junk := []) (zs := (l.map encE).take i) rfl rfl rfl rfl rfl (by simp) Jk.nil htl (by rw [ht0]; simp; omega) fun v1 j1 hj1 => ?_
      repeat' first|(apply yA;exact rfl)|apply yB|apply yC|((first|apply yD|apply yE);(first|exact yF|assumption);iterate 6 exact rfl)|((first|apply yG|apply yH|apply yI);exact rfl;(first|exact yJ|exact yK rfl rfl|exact yL rfl|exact yM rfl|exact rfl|exact aL rfl rfl rfl rfl rfl|exact aS rfl rfl rfl rfl rfl rfl rfl))|((first|apply yN|apply yO|apply yP);exact rfl)|(exfalso;omega)|(((first|apply yT|apply yU|apply yV|apply yW);exact rfl;(first|exact .d|exact .e|exact .n|((fail_if_success exact bqt);(fail_if_success exact bqf);exact .b)))<;>intro _)
      refine Go.app1 (k := 0) (z := encE e) rfl rfl rfl rfl rfl htl hj1 rfl (by simp only [List.nil_append]; rw [ht0]; omega) fun v2 j2 hj2 => ?_
      repeat' first|(apply yA;exact rfl)|apply yB|apply yC|((first|apply yD|apply yE);(first|exact yF|assumption);iterate 6 exact rfl)|((first|apply yG|apply yH|apply yI);exact rfl;(first|exact yJ|exact yK rfl rfl|exact yL rfl|exact yM rfl|exact rfl|exact aL rfl rfl rfl rfl rfl|exact aS rfl rfl rfl rfl rfl rfl rfl|exact aop_restF rfl rfl hki hil encE_two))|((first|apply yN|apply yO|apply yP);exact rfl)|(exfalso;omega)|(((first|apply yT|apply yU|apply yV|apply yW);exact rfl;(first|exact .d|exact .e|exact .n|((fail_if_success exact bqt);(fail_if_success exact bqf);exact .b)))<;>intro _)
      refine Go.app (k := 0) (zs := (l.map encE).drop i) rfl rfl rfl rfl rfl (fun q hq => (List.mem_append.1 hq).elim (htl q) fun h => by rw [List.mem_singleton.1 h]; rfl) hj2 hdl (by simp only [List.nil_append, List.length_append, List.length_singleton]; rw [ht0, hd0]; omega) fun v3 j3 hj3 => ?_
      repeat' first|(apply yA;exact rfl)|apply yB|apply yC|((first|apply yD|apply yE);(first|exact yF|assumption);iterate 6 exact rfl)|((first|apply yG|apply yH|apply yI);exact rfl;(first|exact yJ|exact yK rfl rfl|exact yL rfl|exact yM rfl|exact rfl|exact aL rfl rfl rfl rfl rfl|exact aS rfl rfl rfl rfl rfl rfl rfl))|((first|apply yN|apply yO|apply yP);exact rfl)|(exfalso;omega)|(((first|apply yT|apply yU|apply yV|apply yW);exact rfl;(first|exact .d|exact .e|exact .n|((fail_if_success exact bqt);(fail_if_success exact bqf);exact .b)))<;>intro _)
      have hf2 : [] ++ (l.map encE).take i ++ [encE e] ++ (l.map encE).drop i = (putF e l).map encE := by rw [← hf]; rfl
      rw [hf2]
      exact .ret rfl ⟨v3, j3, hj3, rfl, rfl⟩
    · rw [hb] at c1 hs
      rw [if_pos rfl] at hs
      repeat' first|(apply yA;exact rfl)|apply yB|apply yC|((first|apply yD|apply yE);(first|exact yF|assumption);iterate 6 exact rfl)|((first|apply yG|apply yH|apply yI);exact rfl;(first|exact yJ|exact yK rfl rfl|exact yL rfl|exact yM rfl|exact rfl|exact aL rfl rfl rfl rfl rfl|exact aS rfl rfl rfl rfl rfl rfl rfl|exact yX (enc := encE) rfl rfl hki hlt rfl))|((first|apply yN|apply yO|apply yP);exact rfl)|((first|apply yQ|apply yR|apply yS);(iterate 3 exact rfl);exact c1)|(exfalso;omega)|(((first|apply yT|apply yU|apply yV|apply yW);exact rfl;(first|exact .d|exact .e|exact .n|((fail_if_success exact bqt);(fail_if_success exact bqf);exact .b)))<;>intro _)
      exact Go.keep [0, 3, 5] (hrec _ _ _ (by omega) ⟨i + 1, _, rfl, hlt, wrap_succ hki (by omega), by omega, rfl, rfl⟩)
  · rw [List.drop_eq_nil_of_le (by omega), putPos] at hs
    have hf := hfin (by omega)
    clear hrec hfin
    repeat' first|(apply yA;exact rfl)|apply yB|apply yC|((first|apply yD|apply yE);(first|exact yF|assumption);iterate 6 exact rfl)|((first|apply yG|apply yH|apply yI);exact rfl;(first|exact yJ|exact yK rfl rfl|exact yL rfl|exact yM rfl|exact rfl|exact aL rfl rfl rfl rfl rfl|exact aS rfl rfl rfl rfl rfl rfl rfl|exact aop_cutF rfl rfl hki hil encE_two|exact aop_restF rfl rfl hki hil encE_two))|((first|apply yN|apply yO|apply yP);exact rfl)|(exfalso;omega)|(((first|apply yT|apply yU|apply yV|apply yW);exact rfl;(first|exact .d|exact .e|exact .n|((fail_if_success exact bqt);(fail_if_success exact bqf);exact .b)))<;>intro _)
    refine Go.app (k := 0) (v := 0) (ys := []) (junk := []) (zs := (l.map encE).take i) rfl rfl rfl rfl rfl (by simp) Jk.nil htl (by rw [ht0]; simp; omega) fun v1 j1 hj1 => ?_
    repeat' first|(apply yA;exact rfl)|apply yB|apply yC|((first|apply yD|apply yE);(first|exact yF|assumption);iterate 6 exact rfl)|((first|apply yG|apply yH|apply yI);exact rfl;(first|exact yJ|exact yK rfl rfl|exact yL rfl|exact yM rfl|exact rfl|exact aL rfl rfl rfl rfl rfl|exact aS rfl rfl rfl rfl rfl rfl rfl))|((first|apply yN|apply yO|apply yP);exact rfl)|(exfalso;omega)|(((first|apply yT|apply yU|apply yV|apply yW);exact rfl;(first|exact .d|exact .e|exact .n|((fail_if_success exact bqt);(fail_if_success exact bqf);exact .b)))<;>intro _)
    refine Go.app1 (k := 0) (z := encE e) rfl rfl rfl rfl rfl htl hj1 rfl (by simp only [List.nil_append]; rw [ht0]; omega) fun v2 j2 hj2 => ?_
    repeat' first|(apply yA;exact rfl)|apply yB|apply yC|((first|apply yD|apply yE);(first|exact yF|assumption);iterate 6 exact rfl)|((first|apply yG|apply yH|apply yI);exact rfl;(first|exact yJ|exact yK rfl rfl|exact yL rfl|exact yM rfl|exact rfl|exact aL rfl rfl rfl rfl rfl|exact aS rfl rfl rfl rfl rfl rfl rfl|exact aop_restF rfl rfl hki hil encE_two))|((first|apply yN|apply yO|apply yP);exact rfl)|(exfalso;omega)|(((first|apply yT|apply yU|apply yV|apply yW);exact rfl;(first|exact .d|exact .e|exact .n|((fail_if_success exact bqt);(fail_if_success exact bqf);exact .b)))<;>intro _)
    refine Go.app (k := 0) (zs := (l.map encE).drop i) rfl rfl rfl rfl rfl (fun q hq => (List.mem_append.1 hq).elim (htl q) fun h => by rw [List.mem_singleton.1 h]; rfl) hj2 hdl (by simp only [List.nil_append, List.length_append, List.length_singleton]; rw [ht0, hd0]; omega) fun v3 j3 hj3 => ?_
    repeat' first|(apply yA;exact rfl)|apply yB|apply yC|((first|apply yD|apply yE);(first|exact yF|assumption);iterate 6 exact rfl)|((first|apply yG|apply yH|apply yI);exact rfl;(first|exact yJ|exact yK rfl rfl|exact yL rfl|exact yM rfl|exact rfl|exact aL rfl rfl rfl rfl rfl|exact aS rfl rfl rfl rfl rfl rfl rfl))|((first|apply yN|apply yO|apply yP);exact rfl)|(exfalso;omega)|(((first|apply yT|apply yU|apply yV|apply yW);exact rfl;(first|exact .d|exact .e|exact .n|((fail_if_success exact bqt);(fail_if_success exact bqf);exact .b)))<;>intro _)
    have hf2 : [] ++ (l.map encE).take i ++ [encE e] ++ (l.map encE).drop i = (putF e l).map encE := by rw [← hf]; rfl
    rw [hf2]
    exact .ret rfl ⟨v3, j3, hj3, rfl, rfl⟩
def ofAux (cols : List Int) : List RowD → List Entry → List Entry
  | [], acc => acc
  | r :: l, acc => ofAux cols l (putF ⟨keyF cols r.vals, r.id⟩ acc)
theorem ofAux_at (cols : List Int) : ∀ (l : List RowD) (acc : List Entry), (ofAux cols l acc).length = acc.length + l.length ∧ ((∀ e ∈ acc, e.key.length = cols.length) → ∀ e ∈ ofAux cols l acc, e.key.length = cols.length)
  | [], acc => ⟨rfl, fun h => h⟩
  | r :: l, acc => by
    obtain ⟨h1, h2⟩ := ofAux_at cols l (putF ⟨keyF cols r.vals, r.id⟩ acc)
    have hp := putF_perm ⟨keyF cols r.vals, r.id⟩ acc
    rw [ofAux]
    refine ⟨by rw [h1, hp.length_eq, List.length_cons, List.length_cons]; omega, fun h => h2 fun e he => ?_⟩
    rcases List.mem_cons.1 (hp.mem_iff.1 he) with rfl | he
    · exact keyF_len _ _
    · exact h e he
theorem l11Of_mk (d : Data) (cols : List Int) (hx : d.rows.length ≤ 1048576) (hc : cols.length ≤ 34359738368) (hi : ∀ r ∈ d.rows, InR cols r.vals.length) (σ : Store) : Ok Try.prog 44 [.agg (encData d), .c (.fz (cols.map encI))] σ (Made σ 2 ((ofAux cols d.rows []).map encE)) := by
  refine Ok.run mixed c_spec_l11Of_ok (Nat.le_of_ble_eq_true rfl) fun hS hA => ?_
  clear hA
  have old_cols : ∀ y ∈ (AV.c (.fz (cols.map encI))).all, Old σ.next y := fun y hy => by
    rw [List.mem_singleton.1 hy]; exact old_fz1 (oldInts _)
  have old_d : ∀ y ∈ (AV.c (.fp (encData d))).all, Old σ.next y := fun y hy => by
    rw [List.mem_singleton.1 hy]
    exact .fp _ fun j hj => oldDatas [d] _ (List.mem_singleton.2 rfl) _ (List.getElem_mem hj)
  repeat' first|(apply yA;exact rfl)|apply yB|apply yC|((first|apply yD|apply yE);(first|exact yF|assumption);iterate 6 exact rfl)|((first|apply yG|apply yH|apply yI);exact rfl;(first|exact yJ|exact yK rfl rfl|exact yL rfl|exact yM rfl|exact rfl|exact aL rfl rfl rfl rfl rfl|exact aS rfl rfl rfl rfl rfl rfl rfl))|((first|apply yN|apply yO|apply yP);exact rfl)|(exfalso;omega)|(((first|apply yT|apply yU|apply yV|apply yW);exact rfl;(first|exact .d|exact .e|exact .n|((fail_if_success exact bqt);(fail_if_success exact bqf);exact .b)))<;>intro _)
  refine Go.keep [1, 2, 5, 6] (Go.loops (I := fun m fr τ => ∃ (i : Nat) (k : Int) (acc : List Entry) (v : Nat) (junk : List (List Ce)), m = d.rows.length - i ∧ i ≤ d.rows.length ∧ k = i ∧ Jk 2 junk ∧ (acc.length = i ∧ (∀ e ∈ acc, e.key.length = cols.length) ∧ ofAux cols d.rows [] = ofAux cols (d.rows.drop i) acc) ∧
    fr = [(1, .c (.fz (cols.map encI))), (2, .c (.fp (encData d))), (5, .c (vec (σ.next + 0) v (acc.map encE) junk)), (6, .c (.int .i64 k))] ∧ τ = E σ [(v, acc.map encE ++ junk)]) ?_ _ _ _ ⟨0, _, [], 0, [], rfl, Nat.zero_le _, rfl, Jk.nil, ⟨rfl, fun e he => (by cases he), rfl⟩, rfl, rfl⟩)
  rintro m fr τ ⟨i, k, acc, v, junk, rfl, hil, hk, hj, ⟨hal, hak, hs⟩, rfl, rfl⟩ hrec
  by_cases hlt : i < d.rows.length
  · have c4 := l4Key_ok cols d.rows[i].vals hc (hi _ (List.getElem_mem hlt))
    rw [List.drop_eq_getElem_cons hlt, ofAux] at hs
    have hp := putF_perm ⟨keyF cols d.rows[i].vals, d.rows[i].id⟩ acc
    have cp := l11Put_mk acc ⟨keyF cols d.rows[i].vals, d.rows[i].id⟩ (by omega) (fun q hq => by rw [hak q hq]; exact hc) (E σ [])
    refine Go.freezeN (l := []) (m := [(v, acc.map encE ++ junk)]) (fr' := [(1, .c (.fz (cols.map encI))), (2, .c (.fp (encData d))), (5, .c (.fz (acc.map encE))), (6, .c (.int .i64 k))]) hS (fun b hb => by cases hb) (Nat.le_refl _)
      (.frz rfl (.refl old_cols) (.frz rfl (.refl old_d) (.frz rfl (frz_old (k := 0) rfl (oldEnts _) (Nat.le_refl _)) (.frz rfl (.refl old_c) .nil)))) ?_
    repeat' first|(apply yA;exact rfl)|apply yB|apply yC|((first|apply yD|apply yE);(first|exact yF|assumption);iterate 6 exact rfl)|((first|apply yG|apply yH|apply yI);exact rfl;(first|exact yJ|exact yK rfl rfl|exact yL rfl|exact yM rfl|exact rfl|exact aL rfl rfl rfl rfl rfl|exact aS rfl rfl rfl rfl rfl rfl rfl|exact yX (enc := encRowD) rfl rfl hk hlt rfl))|((first|apply yN|apply yO|apply yP);exact rfl)|((first|apply yQ|apply yR|apply yS);(iterate 3 exact rfl);exact c4)|(exfalso;omega)|(((first|apply yT|apply yU|apply yV|apply yW);exact rfl;(first|exact .d|exact .e|exact .n|((fail_if_success exact bqt);(fail_if_success exact bqf);exact .b)))<;>intro _)
    refine .call _ rfl rfl rfl cp ?_
    rintro r τ ⟨v2, j2, hj2, rfl, rfl⟩
    rw [E_E, List.nil_append]
    repeat' first|(apply yA;exact rfl)|apply yB|apply yC|((first|apply yD|apply yE);(first|exact yF|assumption);iterate 6 exact rfl)|((first|apply yG|apply yH|apply yI);exact rfl;(first|exact yJ|exact yK rfl rfl|exact yL rfl|exact yM rfl|exact rfl|exact aL rfl rfl rfl rfl rfl|exact aS rfl rfl rfl rfl rfl rfl rfl))|((first|apply yN|apply yO|apply yP);exact rfl)|(exfalso;omega)|(((first|apply yT|apply yU|apply yV|apply yW);exact rfl;(first|exact .d|exact .e|exact .n|((fail_if_success exact bqt);(fail_if_success exact bqf);exact .b)))<;>intro _)
    refine Go.keep [1, 2, 5, 6] (hrec _ _ _ (by omega) ⟨i + 1, _, _, v2, j2, rfl, hlt, wrap_succ hk (by omega), hj2, ⟨by rw [hp.length_eq, List.length_cons, hal], fun e he => ?_, hs⟩, rfl, rfl⟩)
    rcases List.mem_cons.1 (hp.mem_iff.1 he) with rfl | he
    · exact keyF_len _ _
    · exact hak e he
  · rw [List.drop_eq_nil_of_le (by omega), ofAux] at hs
    repeat' first|(apply yA;exact rfl)|apply yB|apply yC|((first|apply yD|apply yE);(first|exact yF|assumption);iterate 6 exact rfl)|((first|apply yG|apply yH|apply yI);exact rfl;(first|exact yJ|exact yK rfl rfl|exact yL rfl|exact yM rfl|exact rfl|exact aL rfl rfl rfl rfl rfl|exact aS rfl rfl rfl rfl rfl rfl rfl))|((first|apply yN|apply yO|apply yP);exact rfl)|(exfalso;omega)|(((first|apply yT|apply yU|apply yV|apply yW);exact rfl;(first|exact .d|exact .e|exact .n|((fail_if_success exact bqt);(fail_if_success exact bqf);exact .b)))<;>intro _)
    rw [hs]
    exact .ret rfl ⟨v, junk, hj, rfl, rfl⟩
/-- An index, or none. -/
def IdxR (σ : Store) (k : Nat) (r : AV) (τ : Store) : Prop := (r = .tup [.c .nils, .c (.bool false)] ∧ τ = E σ []) ∨ ∃ (es : List Entry) (v : Nat) (junk : List (List Ce)), Jk 2 junk ∧ es.length ≤ 60 ∧ (∀ e ∈ es, e.key.length = k) ∧ r = .tup [.c (vec (σ.next + 0) v (es.map encE) junk), .c (.bool true)] ∧ τ = E σ [(v, es.map encE ++ junk)]
theorem sIndexOf_own (s : List Table) (db : List Data) (n : Int) (cols : List Int) (hx : s.length ≤ 34359738368) (hb : ∀ t ∈ s, bTable 34359738368 t) (hd : db.length ≤ 34359738368) (hdb : ∀ d ∈ db, bData 34359738368 d) (hc : cols.length ≤ 34359738368) (σ : Store) :
    Ok Try.prog 22 [.c (.fz (s.map encTable)), .c (.fz (db.map encData)), .c (.int .i64 n), .c (.fz (cols.map encI))] σ (IdxR σ cols.length) := by
  refine Ok.run mixed c_spec_IndexOf_ok (Nat.le_of_ble_eq_true rfl) fun hS hA => ?_
  clear hS hA
  have c1 := l6Ok_ok s db n hx hb hd hdb
  cases h1 : (dbF s db && isIn n 0 (s.length - 1))
  · rw [h1] at c1
    repeat' first|(apply yA;exact rfl)|apply yB|apply yC|((first|apply yD|apply yE);(first|exact yF|assumption);iterate 6 exact rfl)|((first|apply yG|apply yH|apply yI);exact rfl;(first|exact yJ|exact yK rfl rfl|exact yL rfl|exact yM rfl|exact rfl|exact aL rfl rfl rfl rfl rfl|exact aS rfl rfl rfl rfl rfl rfl rfl))|((first|apply yN|apply yO|apply yP);exact rfl)|((first|apply yQ|apply yR|apply yS);(iterate 3 exact rfl);exact c1)|(exfalso;omega)|(((first|apply yT|apply yU|apply yV|apply yW);exact rfl;(first|exact .d|exact .e|exact .n|((fail_if_success exact bqt);(fail_if_success exact bqf);exact .b)))<;>intro _)
    exact .ret rfl (.inl ⟨rfl, rfl⟩)
  rw [h1] at c1
  rw [Bool.and_eq_true] at h1
  obtain ⟨h1, h2⟩ := h1
  obtain ⟨hs, hl, hrows⟩ := dbF_at h1
  obtain ⟨h3, h4⟩ := isIn_at h2
  have hn : n = (n.toNat : Int) := by omega
  have hlt : n.toNat < s.length := by omega
  have hlt2 : n.toNat < db.length := by omega
  have hcl := schemaF_cols hs _ (List.getElem_mem hlt)
  obtain ⟨hr1, hr2⟩ := rowsF_mem (hrows _ hlt hlt2)
  have c3 := l3Cols_ok cols s[n.toNat].cols.length hc (by omega) (by omega)
  cases h5 : colsF cols s[n.toNat].cols.length
  · rw [h5] at c3
    repeat' first|(apply yA;exact rfl)|apply yB|apply yC|((first|apply yD|apply yE);(first|exact yF|assumption);iterate 6 exact rfl)|((first|apply yG|apply yH|apply yI);exact rfl;(first|exact yJ|exact yK rfl rfl|exact yL rfl|exact yM rfl|exact rfl|exact aL rfl rfl rfl rfl rfl|exact aS rfl rfl rfl rfl rfl rfl rfl|exact yX (enc := encTable) rfl rfl hn hlt rfl))|((first|apply yN|apply yO|apply yP);exact rfl)|((first|apply yQ|apply yR|apply yS);(iterate 3 exact rfl);(first|exact c1|exact c3))|(exfalso;omega)|(((first|apply yT|apply yU|apply yV|apply yW);exact rfl;(first|exact .d|exact .e|exact .n|((fail_if_success exact bqt);(fail_if_success exact bqf);exact .b)))<;>intro _)
    exact .ret rfl (.inl ⟨rfl, rfl⟩)
  rw [h5] at c3
  have cof := l11Of_mk db[n.toNat] cols (by omega) hc (fun r hr => by rw [(fitF_vals (hr2 r hr).1).1]; exact fun c hc => colsF_in h5 c hc) (E σ [])
  obtain ⟨k1, k2⟩ := ofAux_at cols db[n.toNat].rows []
  repeat' first|(apply yA;exact rfl)|apply yB|apply yC|((first|apply yD|apply yE);(first|exact yF|assumption);iterate 6 exact rfl)|((first|apply yG|apply yH|apply yI);exact rfl;(first|exact yJ|exact yK rfl rfl|exact yL rfl|exact yM rfl|exact rfl|exact aL rfl rfl rfl rfl rfl|exact aS rfl rfl rfl rfl rfl rfl rfl|exact yX (enc := encTable) rfl rfl hn hlt rfl|exact yX (enc := encData) rfl rfl hn hlt2 rfl))|((first|apply yN|apply yO|apply yP);exact rfl)|((first|apply yQ|apply yR|apply yS);(iterate 3 exact rfl);(first|exact c1|exact c3))|(exfalso;omega)|(((first|apply yT|apply yU|apply yV|apply yW);exact rfl;(first|exact .d|exact .e|exact .n|((fail_if_success exact bqt);(fail_if_success exact bqf);exact .b)))<;>intro _)
  refine .call _ rfl rfl rfl cof ?_
  rintro r τ ⟨v, junk, hj, rfl, rfl⟩
  rw [E_E, List.nil_append]
  repeat' first|(apply yA;exact rfl)|apply yB|apply yC|((first|apply yD|apply yE);(first|exact yF|assumption);iterate 6 exact rfl)|((first|apply yG|apply yH|apply yI);exact rfl;(first|exact yJ|exact yK rfl rfl|exact yL rfl|exact yM rfl|exact rfl|exact aL rfl rfl rfl rfl rfl|exact aS rfl rfl rfl rfl rfl rfl rfl))|((first|apply yN|apply yO|apply yP);exact rfl)|(exfalso;omega)|(((first|apply yT|apply yU|apply yV|apply yW);exact rfl;(first|exact .d|exact .e|exact .n|((fail_if_success exact bqt);(fail_if_success exact bqf);exact .b)))<;>intro _)
  exact .ret rfl (.inr ⟨_, v, junk, hj, by rw [k1]; simp; omega, k2 fun e he => (by cases he), rfl, rfl⟩)
end Go.Proofs.Yteafjabcpmpmgaa.Am

/- The reader that draws: entries; drawn arguments of Range. -/
set_option linter.unusedVariables false
set_option linter.unusedSimpArgs false
namespace Go.Proofs.Yteafjabcpmpmgaa.Am

/-- Drawn entries: each has one value as its key. -/
def Ents (r : AV) : Prop := ∃ l : List Entry, l.length ≤ 60 ∧ (∀ e ∈ l, e.key.length = 1) ∧ r = .c (.fz (l.map encE))
theorem draw_dbI {s : List Table} {db : List Data} (h : dbF s db = true ∨ db = []) : db.length ≤ 34359738368 ∧ ∀ d ∈ db, bData 34359738368 d := by
  rcases h with h | rfl
  · exact ⟨by have := (dbF_b h).1; omega, (dbF_b h).2.1⟩
  · exact ⟨by simp, fun d hd => by cases hd⟩
theorem entries_ok : Draws Try.prog 11 [] Ents := by
  refine Draws.run mixed c_spec_l1Rd_entries_ok (Nat.le_of_ble_eq_true rfl) fun σ id v code p hr hp hc hS => ?_
  clear hS
  repeat' first|(apply yA;exact rfl)|apply yB|apply yC|((first|apply yD|apply yE);(first|exact yF|assumption);iterate 6 exact rfl)|((first|apply yG|apply yH|apply yI);exact rfl;(first|exact yJ|exact yK rfl rfl|exact yL rfl|exact yM rfl|exact rfl|exact aL rfl rfl rfl rfl rfl|exact aS rfl rfl rfl rfl rfl rfl rfl))|((first|apply yN|apply yO|apply yP);exact rfl)|(exfalso;omega)|(((first|apply yT|apply yU|apply yV|apply yW);exact rfl;(first|exact .d|exact .e|exact .n|((fail_if_success exact bqt);(fail_if_success exact bqf);exact .b)))<;>intro _)
  refine Go.drawn hr hp rfl rfl rfl schema_ok ?_
  rintro _ q hq ⟨s, hs, rfl⟩
  repeat' first|(apply yA;exact rfl)|apply yB|apply yC|((first|apply yD|apply yE);(first|exact yF|assumption);iterate 6 exact rfl)|((first|apply yG|apply yH|apply yI);exact rfl;(first|exact yJ|exact yK rfl rfl|exact yL rfl|exact yM rfl|exact rfl|exact aL rfl rfl rfl rfl rfl|exact aS rfl rfl rfl rfl rfl rfl rfl))|((first|apply yN|apply yO|apply yP);exact rfl)|(exfalso;omega)|(((first|apply yT|apply yU|apply yV|apply yW);exact rfl;(first|exact .d|exact .e|exact .n|((fail_if_success exact bqt);(fail_if_success exact bqf);exact .b)))<;>intro _)
  refine Go.drawn hr hq rfl rfl rfl (base_ok s 6 (by decide) (by decide) hs) ?_
  rintro _ q2 hq2 ⟨db, hd, rfl⟩
  repeat' first|(apply yA;exact rfl)|apply yB|apply yC|((first|apply yD|apply yE);(first|exact yF|assumption);iterate 6 exact rfl)|((first|apply yG|apply yH|apply yI);exact rfl;(first|exact yJ|exact yK rfl rfl|exact yL rfl|exact yM rfl|exact rfl|exact aL rfl rfl rfl rfl rfl|exact aS rfl rfl rfl rfl rfl rfl rfl))|((first|apply yN|apply yO|apply yP);exact rfl)|(exfalso;omega)|(((first|apply yT|apply yU|apply yV|apply yW);exact rfl;(first|exact .d|exact .e|exact .n|((fail_if_success exact bqt);(fail_if_success exact bqf);exact .b)))<;>intro _)
  refine Go.drawn hr hq2 rfl rfl rfl (below_ok 3 (by decide) (by decide)) ?_
  rintro _ q3 hq3 ⟨a, _, _, rfl⟩
  obtain ⟨hx, hb⟩ := hs.b
  obtain ⟨hdl, hdb⟩ := draw_dbI hd
  have ci := sIndexOf_own s db 0 [a] hx hb hdl hdb (by simp) (E (Rd.go σ id v code q3) [])
  repeat' first|(apply yA;exact rfl)|apply yB|apply yC|((first|apply yD|apply yE);(first|exact yF|assumption);iterate 6 exact rfl)|((first|apply yG|apply yH|apply yI);exact rfl;(first|exact yJ|exact yK rfl rfl|exact yL rfl|exact yM rfl|exact rfl|exact aL rfl rfl rfl rfl rfl|exact aS rfl rfl rfl rfl rfl rfl rfl))|((first|apply yN|apply yO|apply yP);exact rfl)|(exfalso;omega)|(((first|apply yT|apply yU|apply yV|apply yW);exact rfl;(first|exact .d|exact .e|exact .n|((fail_if_success exact bqt);(fail_if_success exact bqf);exact .b)))<;>intro _)
  refine .call _ rfl rfl rfl ci ?_
  rintro r τ (⟨rfl, rfl⟩ | ⟨es, u, junk, hj, hel, hek, rfl, rfl⟩)
  · rw [E_E, List.nil_append]
    repeat' first|(apply yA;exact rfl)|apply yB|apply yC|((first|apply yD|apply yE);(first|exact yF|assumption);iterate 6 exact rfl)|((first|apply yG|apply yH|apply yI);exact rfl;(first|exact yJ|exact yK rfl rfl|exact yL rfl|exact yM rfl|exact rfl|exact aL rfl rfl rfl rfl rfl|exact aS rfl rfl rfl rfl rfl rfl rfl))|((first|apply yN|apply yO|apply yP);exact rfl)|(exfalso;omega)|(((first|apply yT|apply yU|apply yV|apply yW);exact rfl;(first|exact .d|exact .e|exact .n|((fail_if_success exact bqt);(fail_if_success exact bqf);exact .b)))<;>intro _)
    refine Go.drawn hr hq3 rfl rfl rfl (once_ok 30 (by decide) (by decide)) ?_
    rintro _ q4 hq4 ⟨b3, rfl⟩
    cases b3
    · repeat' first|(apply yA;exact rfl)|apply yB|apply yC|((first|apply yD|apply yE);(first|exact yF|assumption);iterate 6 exact rfl)|((first|apply yG|apply yH|apply yI);exact rfl;(first|exact yJ|exact yK rfl rfl|exact yL rfl|exact yM rfl|exact rfl|exact aL rfl rfl rfl rfl rfl|exact aS rfl rfl rfl rfl rfl rfl rfl))|((first|apply yN|apply yO|apply yP);exact rfl)|(exfalso;omega)|(((first|apply yT|apply yU|apply yV|apply yW);exact rfl;(first|exact .d|exact .e|exact .n|((fail_if_success exact bqt);(fail_if_success exact bqf);exact .b)))<;>intro _)
      exact .ret rfl (.f hq4 ⟨[], by simp, fun e he => (by cases he), rfl⟩ (.c .nil))
    · repeat' first|(apply yA;exact rfl)|apply yB|apply yC|((first|apply yD|apply yE);(first|exact yF|assumption);iterate 6 exact rfl)|((first|apply yG|apply yH|apply yI);exact rfl;(first|exact yJ|exact yK rfl rfl|exact yL rfl|exact yM rfl|exact rfl|exact aL rfl rfl rfl rfl rfl|exact aS rfl rfl rfl rfl rfl rfl rfl))|((first|apply yN|apply yO|apply yP);exact rfl)|(exfalso;omega)|(((first|apply yT|apply yU|apply yV|apply yW);exact rfl;(first|exact .d|exact .e|exact .n|((fail_if_success exact bqt);(fail_if_success exact bqf);exact .b)))<;>intro _)
      exact .ret rfl (.f hq4 ⟨[], by simp, fun e he => (by cases he), rfl⟩ (.c .nil))
  · rw [E_E, List.nil_append]
    repeat' first|(apply yA;exact rfl)|apply yB|apply yC|((first|apply yD|apply yE);(first|exact yF|assumption);iterate 6 exact rfl)|((first|apply yG|apply yH|apply yI);exact rfl;(first|exact yJ|exact yK rfl rfl|exact yL rfl|exact yM rfl|exact rfl|exact aL rfl rfl rfl rfl rfl|exact aS rfl rfl rfl rfl rfl rfl rfl))|((first|apply yN|apply yO|apply yP);exact rfl)|(exfalso;omega)|(((first|apply yT|apply yU|apply yV|apply yW);exact rfl;(first|exact .d|exact .e|exact .n|((fail_if_success exact bqt);(fail_if_success exact bqf);exact .b)))<;>intro _)
    refine Go.drawn hr hq3 rfl rfl rfl (once_ok 30 (by decide) (by decide)) ?_
    rintro _ q4 hq4 ⟨b3, rfl⟩
    have fin : ∀ (es : List Entry) (q : Nat) (l : List (Nat × List (List Ce))), q ≤ code.length → es.length ≤ 60 → (∀ e ∈ es, e.key.length = 1) → FinR σ id v code Ents (.c (vec (σ.next + 0) u (es.map encE) junk)) (E (Rd.go σ id v code q) ((u, es.map encE ++ junk) :: l)) := fun es q l hq h1 h2 =>
      .f hq ⟨es, h1, h2, rfl⟩ (frz_old (σ := Rd.go σ id v code q) (k := 0) rfl (oldEnts _) (Nat.le_refl _))
    cases b3
    · repeat' first|(apply yA;exact rfl)|apply yB|apply yC|((first|apply yD|apply yE);(first|exact yF|assumption);iterate 6 exact rfl)|((first|apply yG|apply yH|apply yI);exact rfl;(first|exact yJ|exact yK rfl rfl|exact yL rfl|exact yM rfl|exact rfl|exact aL rfl rfl rfl rfl rfl|exact aS rfl rfl rfl rfl rfl rfl rfl))|((first|apply yN|apply yO|apply yP);exact rfl)|(exfalso;omega)|(((first|apply yT|apply yU|apply yV|apply yW);exact rfl;(first|exact .d|exact .e|exact .n|((fail_if_success exact bqt);(fail_if_success exact bqf);exact .b)))<;>intro _)
      exact .ret rfl (fin es q4 _ hq4 hel hek)
    · cases es with
      | nil =>
        repeat' first|(apply yA;exact rfl)|apply yB|apply yC|((first|apply yD|apply yE);(first|exact yF|assumption);iterate 6 exact rfl)|((first|apply yG|apply yH|apply yI);exact rfl;(first|exact yJ|exact yK rfl rfl|exact yL rfl|exact yM rfl|exact rfl|exact aL rfl rfl rfl rfl rfl|exact aS rfl rfl rfl rfl rfl rfl rfl))|((first|apply yN|apply yO|apply yP);exact rfl)|(exfalso;omega)|(((first|apply yT|apply yU|apply yV|apply yW);exact rfl;(first|exact .d|exact .e|exact .n|((fail_if_success exact bqt);(fail_if_success exact bqf);exact .b)))<;>intro _)
        exact .ret rfl (fin [] q4 _ hq4 (by simp) fun e he => (by cases he))
      | cons e0 es =>
        have hz0 : (0 : Int) = ((0 : Nat) : Int) := rfl
        have h0 : 0 < ((e0 :: es).map encE).length := by simp
        have hg : ∀ q : Nat, (E (Rd.go σ id v code q) [(u, (e0 :: es).map encE ++ junk)]).get (σ.next + 0) = some (u, (e0 :: es).map encE ++ junk) := fun q => E_get (σ := Rd.go σ id v code q) (k := 0) rfl
        have hev : ((e0 :: es).map encE ++ junk)[0 + 0]? = some (encE e0) := rfl
        repeat' first|(apply yA;exact rfl)|apply yB|apply yC|((first|apply yD|apply yE);(first|exact yF|assumption);iterate 6 exact rfl)|((first|apply yG|apply yH|apply yI);exact rfl;(first|exact yJ|exact yK rfl rfl|exact yL rfl|exact yM rfl|exact rfl|exact aL rfl rfl rfl rfl rfl|exact aS rfl rfl rfl rfl rfl rfl rfl))|((first|apply yN|apply yO|apply yP);exact rfl)|(exfalso;omega)|(((first|apply yT|apply yU|apply yV|apply yW);exact rfl;(first|exact .d|exact .e|exact .n|((fail_if_success exact bqt);(fail_if_success exact bqf);exact .b)))<;>intro _)
        refine Go.drawn hr hq4 rfl rfl rfl (off_ok 1 9 (by decide) (by decide) (by decide) (by decide)) ?_
        rintro _ q5 hq5 ⟨n, rfl⟩
        repeat' first|(apply yA;exact rfl)|apply yB|apply yC|((first|apply yD|apply yE);(first|exact yF|assumption);iterate 6 exact rfl)|((first|apply yG|apply yH|apply yI);exact rfl;(first|exact yJ|exact yK rfl rfl|exact yL rfl|exact yM rfl|exact rfl|exact aL rfl rfl rfl rfl rfl|exact aS rfl rfl rfl rfl rfl rfl rfl|exact aop_iaddrO rfl rfl hz0 h0 (hg _) hev rfl|exact aop_store (k := 0) rfl rfl rfl rfl hev rfl (Nat.le_of_ble_eq_true rfl)))|((first|apply yN|apply yO|apply yP);exact rfl)|(exfalso;omega)|(((first|apply yT|apply yU|apply yV|apply yW);exact rfl;(first|exact .d|exact .e|exact .n|((fail_if_success exact bqt);(fail_if_success exact bqf);exact .b)))<;>intro _)
        refine .ret rfl (fin (⟨e0.key, n⟩ :: es) q5 _ hq5 hel fun x hx => ?_)
        rcases List.mem_cons.1 hx with rfl | hx
        · exact hek e0 (by simp)
        · exact hek x (List.mem_cons_of_mem _ hx)
theorem rd_close2 {σ : Store} {code : List UInt8} {q : Nat} {l : List (Nat × List (List Ce))} : E (Rd.go (E σ [(0, rdB code 0)]) (σ.next + 0) 0 code q) l = E σ ((0, rdB code q) :: l) := by
  have : Rd.go (E σ [(0, rdB code 0)]) (σ.next + 0) 0 code q = E σ [(0, rdB code q)] := E_put (by simp)
  rw [this, E_E]
  rfl
theorem retv_tmm {fr : Fr} {σ : Store} {l : List (Nat × List (List Ce))} {t0 t1 t2 k1 v1 i1 j1 s1 k2 v2 i2 j2 s2 : Nat} {g1 g2 : Bool} {es1 es2 : List (List Ce)} {e1 e2 : List Ce} {x0 x1 x2 : AV} (h0 : look fr t0 = some x0)
    (hp1 : look fr t1 = some (.c (.ptr (σ.next + k1) v1 i1 j1))) (hl1 : l[k1]? = some (v1, es1)) (he1 : es1[i1]? = some e1) (hj1 : j1 ≤ e1.length) (hx1 : takeA g1 s1 (e1.drop j1) = some x1)
    (hp2 : look fr t2 = some (.c (.ptr (σ.next + k2) v2 i2 j2))) (hl2 : l[k2]? = some (v2, es2)) (he2 : es2[i2]? = some e2) (hj2 : j2 ≤ e2.length) (hx2 : takeA g2 s2 (e2.drop j2) = some x2) :
    retv fr (E σ l) [.t t0, .m t1 g1 s1, .m t2 g2 s2] = some (.tup [x0, x1, x2]) := by
  simp [retv, revs, RV.ev, h0, hp1, hp2, Store.at_, E_at, hl1, hl2, he1, he2, hj1, hj2, hx1, hx2]
def DrawR (r : AV) : Prop := ∃ (l : List Entry) (lo up : Val), l.length ≤ 60 ∧ (∀ e ∈ l, e.key.length = 1) ∧ r = .tup [.c (.fz (l.map encE)), .agg (encV lo), .agg (encV up)]
theorem DrawRange_ok (code : List UInt8) (hc : code.length ≤ 1048576) : Told Try.prog 5 [.c (.fz (code.map encB))] DrawR := by
  refine Told.run mixed c_spec_DrawRange_ok (Nat.le_of_ble_eq_true rfl) fun σ hS => ?_
  clear hS
  repeat' first|(apply yA;exact rfl)|apply yB|apply yC|((first|apply yG|apply yH|apply yI);exact rfl;(first|exact yJ|exact yK rfl rfl|exact yL rfl|exact yM rfl|exact rfl|exact aL rfl rfl rfl rfl rfl|exact aS rfl rfl rfl rfl rfl rfl rfl))|((first|apply yN|apply yO|apply yP);exact rfl)|(exfalso;omega)|(((first|apply yT|apply yU|apply yV|apply yW);exact rfl;(first|exact .d|exact .e|exact .n|((fail_if_success exact bqt);(fail_if_success exact bqf);exact .b)))<;>intro _)
  refine .call _ rfl rfl rfl (l1Open_ok code (E σ [(0, [encV vNull]), (0, [encV vNull])])) ?_
  rintro r τ ⟨rfl, rfl⟩
  rw [rd_opened hc]
  have hr := rd_open (σ := E σ [(0, [encV vNull]), (0, [encV vNull])]) hc
  repeat' first|(apply yA;exact rfl)|apply yB|apply yC|((first|apply yG|apply yH|apply yI);exact rfl;(first|exact yJ|exact yK rfl rfl|exact yL rfl|exact yM rfl|exact rfl|exact aL rfl rfl rfl rfl rfl|exact aS rfl rfl rfl rfl rfl rfl rfl))|((first|apply yN|apply yO|apply yP);exact rfl)|(exfalso;omega)|(((first|apply yT|apply yU|apply yV|apply yW);exact rfl;(first|exact .d|exact .e|exact .n|((fail_if_success exact bqt);(fail_if_success exact bqf);exact .b)))<;>intro _)
  refine Go.drawn hr (Nat.zero_le _) rfl rfl rfl entries_ok ?_
  rintro _ q hq ⟨l, hl, hk, rfl⟩
  repeat' first|(apply yA;exact rfl)|apply yB|apply yC|((first|apply yG|apply yH|apply yI);exact rfl;(first|exact yJ|exact yK rfl rfl|exact yL rfl|exact yM rfl|exact rfl|exact aL rfl rfl rfl rfl rfl|exact aS rfl rfl rfl rfl rfl rfl rfl))|((first|apply yN|apply yO|apply yP);exact rfl)|(exfalso;omega)|(((first|apply yT|apply yU|apply yV|apply yW);exact rfl;(first|exact .d|exact .e|exact .n|((fail_if_success exact bqt);(fail_if_success exact bqf);exact .b)))<;>intro _)
  refine Go.drawn hr hq rfl rfl rfl val_ok ?_
  rintro _ q2 hq2 ⟨lo, _, rfl⟩
  repeat' first|(apply yA;exact rfl)|apply yB|apply yC|((first|apply yG|apply yH|apply yI);exact rfl;(first|exact yJ|exact yK rfl rfl|exact yL rfl|exact yM rfl|exact rfl|exact aL rfl rfl rfl rfl rfl|exact aS rfl rfl rfl rfl rfl rfl rfl))|((first|apply yN|apply yO|apply yP);exact rfl)|(exfalso;omega)|(((first|apply yT|apply yU|apply yV|apply yW);exact rfl;(first|exact .d|exact .e|exact .n|((fail_if_success exact bqt);(fail_if_success exact bqf);exact .b)))<;>intro _)
  refine Go.meet (K' := [_, _]) (fun fr τ => ∃ (q : Nat) (lo : Val), q ≤ code.length ∧ fr = [(3, .c (.ptr (σ.next + 0) 0 0 0)), (4, .c (.ptr (σ.next + 1) 0 0 0)), (5, .c (.ptr ((E σ [(0, [encV vNull]), (0, [encV vNull])]).next + 0) 0 0 0)), (6, .c (.fz (l.map encE))), (7, .c (.ptr ((E (E σ [(0, [encV vNull]), (0, [encV vNull])]) [(0, rdB code 0)]).next + 0) 0 0 0))] ∧ τ = E (Rd.go (E (E σ [(0, [encV vNull]), (0, [encV vNull])]) [(0, rdB code 0)]) ((E σ [(0, [encV vNull]), (0, [encV vNull])]).next + 0) 0 code q) [(0, [encV lo])]) (fun K hm => ?_) ?_
  · refine Go.drawn hr hq2 rfl rfl rfl (once_ok 2 (by decide) (by decide)) ?_
    rintro _ q3 hq3 ⟨b3, rfl⟩
    cases b3
    · repeat' first|(apply yA;exact rfl)|apply yB|apply yC|((first|apply yG|apply yH|apply yI);exact rfl;(first|exact yJ|exact yK rfl rfl|exact yL rfl|exact yM rfl|exact rfl|exact aL rfl rfl rfl rfl rfl|exact aS rfl rfl rfl rfl rfl rfl rfl))|((first|apply yN|apply yO|apply yP);exact rfl)|(exfalso;omega)|(((first|apply yT|apply yU|apply yV|apply yW);exact rfl;(first|exact .d|exact .e|exact .n|((fail_if_success exact bqt);(fail_if_success exact bqf);exact .b)))<;>intro _)
      exact Go.keep [3, 4, 5, 6, 7] (hm _ _ ⟨q3, lo, hq3, rfl, rfl⟩)
    · repeat' first|(apply yA;exact rfl)|apply yB|apply yC|((first|apply yG|apply yH|apply yI);exact rfl;(first|exact yJ|exact yK rfl rfl|exact yL rfl|exact yM rfl|exact rfl|exact aL rfl rfl rfl rfl rfl|exact aS rfl rfl rfl rfl rfl rfl rfl))|((first|apply yN|apply yO|apply yP);exact rfl)|(exfalso;omega)|(((first|apply yT|apply yU|apply yV|apply yW);exact rfl;(first|exact .d|exact .e|exact .n|((fail_if_success exact bqt);(fail_if_success exact bqf);exact .b)))<;>intro _)
      exact Go.keep [3, 4, 5, 6, 7] (hm _ _ ⟨q3, vNull, hq3, rfl, rfl⟩)
  clear hq hq2
  rintro fr τ ⟨q, lo, hq, rfl, rfl⟩
  repeat' first|apply Go.seq|apply Go.skip|apply Go.region|apply Go.nil|apply Go.block|apply Go.blk|apply Go.segs|(apply Go.exit;exact rfl)|(apply Go.cond true;exact rfl)|(apply Go.cond false;exact rfl)|apply yB|apply yC|((first|apply yD|apply yE);(first|exact yF|assumption);iterate 6 exact rfl)|((first|apply yG|apply yH|apply yI);exact rfl;(first|exact yJ|exact yK rfl rfl|exact yL rfl|exact yM rfl|exact rfl|exact aL rfl rfl rfl rfl rfl|exact aS rfl rfl rfl rfl rfl rfl rfl))|((first|apply yN|apply yO|apply yP);exact rfl)|(exfalso;omega)|(((first|apply yT|apply yU|apply yV|apply yW);exact rfl;(first|exact .d|exact .e|exact .n|((fail_if_success exact bqt);(fail_if_success exact bqf);exact .b)))<;>intro _)
  apply Go.draw
  refine Go.qr [(0, [encV lo])] rfl ?_
  repeat' first|(apply Qx.op;exact rfl;(first|exact fun _ _ _ => rfl|exact aop_loadI (k := 0) rfl rfl rfl rfl rfl))
  refine Qx.drawn hr hq rfl rfl rfl val_ok ?_
  rintro _ q4 hq4 ⟨up, _, rfl⟩
  repeat' first|(apply Qx.op;exact rfl;(first|exact fun _ _ _ => rfl|exact aop_loadI (k := 0) rfl rfl rfl rfl rfl))
  refine .nil ?_
  rw [rd_close2, show E (E σ [(0, [encV vNull]), (0, [encV vNull])]) [(0, rdB code q4), (0, [encV lo])] = E σ [(0, [encV vNull]), (0, [encV vNull]), (0, rdB code q4), (0, [encV lo])] by rw [E_E]; rfl]
  repeat' first|(apply yA;exact rfl)|apply yB|apply yC|((first|apply yG|apply yH|apply yI);exact rfl;(first|exact yJ|exact yK rfl rfl|exact yL rfl|exact yM rfl|exact rfl|exact aL rfl rfl rfl rfl rfl|exact aS rfl rfl rfl rfl rfl rfl rfl))|((first|apply yN|apply yO|apply yP);exact rfl)|(exfalso;omega)|(((first|apply yT|apply yU|apply yV|apply yW);exact rfl;(first|exact .d|exact .e|exact .n|((fail_if_success exact bqt);(fail_if_success exact bqf);exact .b)))<;>intro _)
  refine .ret (retv_tmm (k1 := 0) (k2 := 1) (x0 := .c (.fz (l.map encE))) (x1 := .agg (encV lo)) (x2 := .agg (encV up)) rfl rfl rfl rfl (Nat.zero_le _) rfl rfl rfl rfl (Nat.zero_le _) rfl) ⟨_, ⟨l, lo, up, hl, hk, rfl⟩, _, rfl, .tup rfl fun i hi => ?_⟩
  have : i = 0 ∨ i = 1 ∨ i = 2 := by simp at hi; omega
  rcases this with rfl | rfl | rfl
  · exact .c (.same _ (old_fz1 (oldEnts _)))
  · exact .refl (old_v lo)
  · exact .refl (old_v up)
end Go.Proofs.Yteafjabcpmpmgaa.Am

/- What the rows say of a text of bytes. -/
set_option linter.unusedVariables false
set_option linter.unusedSimpArgs false
namespace Go.Proofs.Yteafjabcpmpmgaa.Am
open Go.RowKit Go.ChangeShapes Go.WideShapes

section
variable {H : Type} {enc : TypeId × Value → H} {W : World}
theorem Opens.isoG {P : Program} {t : TypeId} {α β : Type} {e : β → List Ce} {good : β → Prop} (h : Opens enc P W t e good) (g : β → α) {e' : α → List Ce} {good' : α → Prop} (he : ∀ b, good b → e' (g b) = e b) (hg : ∀ b, good b → good' (g b)) : Opens enc P W t e' good' := by
  constructor
  intro fuel cs x h1 h2
  obtain ⟨a, h3, hl, h4⟩ := h.op fuel cs x h1 h2
  refine ⟨g a, hg a h3, by rw [he a h3]; exact hl, fun i hi => ?_⟩
  simp only [he a h3]
  exact h4 i (by rw [he a h3] at hi; exact hi)
theorem openB : Opens enc Try.prog W 5 encB (fun _ => True) :=
  (Opens.int Try.underlying5).isoG (fun n => UInt8.ofNat n.toNat) (fun n hn => by
    have h1 : IntKind.u8.min = 0 := by decide
    have h2 : IntKind.u8.max = 255 := by decide
    simp only [Lit.wf, h1, h2, Bool.and_eq_true, decide_eq_true_eq] at hn
    have h3 : (UInt8.ofNat n.toNat).toNat = n.toNat := UInt8.toNat_ofNat_of_lt' (by show n.toNat < 256; omega)
    simp only [encB, h3, List.cons.injEq, Ce.int.injEq, true_and, and_true]
    omega) fun _ _ => trivial
theorem openBs : Opens enc Try.prog W 22 (fun l : List UInt8 => [.fz (l.map encB)]) (fun l => l.length ≤ 140737488351232) :=
  (Opens.slice (s := 1) Try.underlying22 openB (by kernel_rfl) (by decide) (fun _ => rfl)).iso id (fun _ => rfl) fun l h => Nat.le_trans (Nat.le_mul_of_pos_right _ (of_decide_eq_true (by kernel_rfl))) h.1
end
end Go.Proofs.Yteafjabcpmpmgaa.Am
