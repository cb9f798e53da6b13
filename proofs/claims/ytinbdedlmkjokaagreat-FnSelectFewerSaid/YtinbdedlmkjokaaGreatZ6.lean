/- Joined texts: Y6, Y7, Y8, N1, N2, Y9, Y13, H1, H2, F11, Q1, Q2, Q3, Q4, Q5, Q6, Q7, Q8, Q9, Q10, H3, J4, H4, H5, H6, H8, H7, H9, X1, X2, X3, X5, X6, T4. -/
import Derived.Test.YtinbdedlmkjokaaGreatProg
import Derived.KernelRfl
import Derived.Test.YtinbdedlmkjokaaGreatZ1
import Derived.Test.YtinbdedlmkjokaaGreatZ2
import Derived.Test.YtinbdedlmkjokaaGreatZ3
import Derived.Test.YtinbdedlmkjokaaGreatZ4
import Derived.Test.YtinbdedlmkjokaaGreatZ5
/- A row put in by the reference: whole, told by existence. -/
set_option linter.unusedVariables false
set_option linter.unusedSimpArgs false
namespace Go.Proofs.YtinbdedlmkjokaaGreat.Am

theorem splice1 (e : List Ce) (x : Ce) (h : e.length = 1) : splice e 0 [x] = [x] := by
  rw [splice, List.take_zero, List.nil_append, List.drop_eq_nil_of_le (by simp; omega), List.append_nil]
theorem set_left {α : Type} {l m : List α} {i : Nat} {x : α} (h : i < l.length) : (l ++ m).set i x = l.set i x ++ m := List.set_append_left _ _ h
theorem l4With_ok (db : List Data) (q : Int) (n : Nat) (d : Data) (hq : q = (n : Int)) (hn : n < db.length) (hd : db.length ≤ 60) : Pure Tryz.prog 281 [.c (.fz (db.map encData)), .c (.int .i64 q), .agg (encData d)] (.c (.fz ((db.set n d).map encData))) := by
  refine Pure.run mixed c_spec_l4With_ok (Nat.le_of_ble_eq_true rfl) fun σ hS hA => ?_
  clear hS hA
  repeat' first|refine yaG ?_|(exfalso;omega)|(refine yaS ?_ ?_<;>intro _)
  refine Go.app (k := 0) (ys := []) (junk := []) (zs := db.map encData) rfl rfl rfl rfl rfl (fun e he => by cases he) Jk.nil data_len (by simp; omega) fun v junk hj => ?_
  have hn2 : n < (db.map encData).length := by simpa using hn
  have hg : (E σ [(v, [] ++ db.map encData ++ junk)]).get (σ.next + 0) = some (v, [] ++ db.map encData ++ junk) := E_get (k := 0) rfl
  have he : ([] ++ db.map encData ++ junk)[0 + n]? = some (encData db[n]) := by
    rw [List.nil_append, Nat.zero_add, List.getElem?_append_left hn2]
    simp [hn]
  have he2 : ([] ++ db.map encData ++ junk)[0 + n]? = some (encData db[n]) := he
  repeat' first|refine yaG ?_|((first|apply yG|apply yH|apply yI);exact rfl;(first|exact aop_iaddrO rfl rfl hq (by simpa using hn2) hg he rfl|exact aop_store (k := 0) rfl rfl rfl rfl he2 rfl (Nat.le_of_ble_eq_true rfl)))|(exfalso;omega)|(refine yaS ?_ ?_<;>intro _)
  refine .ret rfl ⟨_, rfl, ?_⟩
  have e1 : ([] ++ db.map encData ++ junk).set (0 + n) (splice (encData db[n]) 0 (encData d)) = (db.set n d).map encData ++ junk := by
    rw [List.nil_append, Nat.zero_add, show splice (encData db[n]) 0 (encData d) = encData d from splice1 _ _ rfl, set_left hn2, List.map_set]
  have hz := frz_old (σ := σ) (l := [(v, (db.set n d).map encData ++ junk)]) (k := 0) (N := σ.next) (v := v) (ys := (db.set n d).map encData) (junk := junk) rfl (oldDatas _) (Nat.le_refl _)
  rw [← e1] at hz
  have e2 : vec (σ.next + 0) v ((db.set n d).map encData) junk = vec (σ.next + 0) v ([] ++ db.map encData) junk := by simp [vec]
  rw [e2] at hz
  exact hz
def outC (db : List Data) (i : Nat) : List (List Ce) := (db.take i).map encData ++ List.replicate (db.length - i) [.nils]
theorem outC_at {db : List Data} {i : Nat} (h : i < db.length) : (outC db i)[0 + i]? = some [.nils] := by
  rw [outC, Nat.zero_add, List.getElem?_append_right (by rw [List.length_map, List.length_take]; omega), List.getElem?_replicate, if_pos (by rw [List.length_map, List.length_take]; omega)]
theorem outC_set {db : List Data} {i : Nat} (h : i < db.length) : (outC db i).set (0 + i) (encData db[i]) = outC db (i + 1) := by
  have e1 : db.length - i = (db.length - (i + 1)) + 1 := by omega
  have e2 : i - (db.take i).length = 0 := by rw [List.length_take]; omega
  rw [outC, outC, Nat.zero_add, List.set_append_right _ _ (by simp; omega), List.length_map, e2, e1, List.replicate_succ, List.set_cons_zero, List.take_succ_eq_append_getElem h, List.map_append, List.append_assoc]
  rfl
theorem l4Copy_ok (db : List Data) (hd : db.length ≤ 60) (hr : ∀ d ∈ db, d.rows.length ≤ 60 ∧ ∀ r ∈ d.rows, r.vals.length ≤ 34359738368) : Pure Tryz.prog 229 [.c (.fz (db.map encData))] (.c (.fz (db.map encData))) := by
  refine Pure.run mixed c_spec_l4Copy_ok (Nat.le_of_ble_eq_true rfl) fun σ hS hA => ?_
  clear hA
  have hmk : 24 * db.length ≤ 140737488355328 := by omega
  repeat' first|refine yaG ?_|((first|apply yG|apply yH|apply yI);exact rfl;(first|exact aop_mkslice rfl rfl hmk))|(exfalso;omega)|(refine yaS ?_ ?_<;>intro _)
  refine Go.keep [0, 3, 4] (Go.loops (I := fun m fr τ => ∃ (i : Nat) (k : Int), m = db.length - i ∧ i ≤ db.length ∧ k = i ∧
    fr = [(0, .c (.fz (db.map encData))), (3, .c (.sl (σ.next + 0) 0 0 db.length db.length)), (4, .c (.int .i64 k))] ∧ τ = E σ [(0, outC db i)]) ?_ _ _ _ ⟨0, _, rfl, Nat.zero_le _, rfl, rfl, by rw [outC]; simp⟩)
  rintro m fr τ ⟨i, k, rfl, hi, hk, rfl, rfl⟩ hrec
  by_cases hlt : i < db.length
  · obtain ⟨hr1, hr2⟩ := hr _ (List.getElem_mem hlt)
    repeat' first|refine yaG ?_|(exfalso;omega)|(refine yaS ?_ ?_<;>intro _)
    refine Go.keep [0, 3, 4, 5, 6] (Go.loops (I := fun m fr τ => ∃ (j : Nat) (kj : Int) (v : Nat) (junk : List (List Ce)), m = db[i].rows.length - j ∧ j ≤ db[i].rows.length ∧ kj = j ∧ Jk 2 junk ∧
      fr = [(0, .c (.fz (db.map encData))), (3, .c (.sl (σ.next + 0) 0 0 db.length db.length)), (4, .c (.int .i64 k)), (5, .c (vec (σ.next + 1) v ((db[i].rows.take j).map encRowD) junk)), (6, .c (.int .i64 kj))] ∧ τ = E σ [(0, outC db i), (v, (db[i].rows.take j).map encRowD ++ junk)]) ?_ _ _ _ ⟨0, _, 0, [], rfl, Nat.zero_le _, rfl, Jk.nil, rfl, rfl⟩)
    rintro m fr τ ⟨j, kj, v, junk, rfl, hj, hkj, hjk, rfl, rfl⟩ hrecj
    by_cases hltj : j < db[i].rows.length
    · have hbd : (((db[i].rows.take j).map encRowD).length + 1) * 32 ≤ 140737488355328 := by rw [List.length_map, List.length_take]; omega
      have e1 : (db[i].rows.take j).map encRowD ++ [encRowD db[i].rows[j]] = (db[i].rows.take (j + 1)).map encRowD := by rw [List.take_succ_eq_append_getElem hltj, List.map_append]; rfl
      have cc := l1CopyVals_pure db[i].rows[j].vals (hr2 _ (List.getElem_mem hltj))
      repeat' first|refine yaG ?_|((first|apply yG|apply yH|apply yI);exact rfl;(first|exact yX (enc := encData) rfl rfl hk hlt rfl|exact yX (enc := encRowD) rfl rfl hkj hltj rfl))|(apply Go.sapp1;exact rfl;exact rfl;exact rfl;exact rfl;exact rfl;exact rowD_len;exact hjk;exact rfl;exact hbd;intro v' junk' hj')|refine yaC (cc) ?_|(exfalso;omega)|(refine yaS ?_ ?_<;>intro _)
      refine Go.keep [0, 3, 4, 5, 6] (hrecj _ _ _ (by omega) ⟨j + 1, _, v', junk', rfl, hltj, wrap_succ hkj (by omega), hj', ?_, ?_⟩)
      · rw [← e1]; rfl
      · rw [← e1]; rfl
    · clear hrecj
      repeat' first|refine yaG ?_|((first|apply yG|apply yH|apply yI);exact rfl;(first|exact yX (enc := encData) rfl rfl hk hlt rfl))|(exfalso;omega)|(refine yaS ?_ ?_<;>intro _)
      have e1 : db[i].rows.take j = db[i].rows := List.take_of_length_le (by omega)
      rw [e1]
      refine Go.freezeN (l := [(0, outC db i)]) (m := [(v, db[i].rows.map encRowD ++ junk)]) (fr' := [(0, .c (.fz (db.map encData))), (3, .c (.sl (σ.next + 0) 0 0 db.length db.length)), (4, .c (.int .i64 k)), (50, .c (.sl (σ.next + 0) 0 0 db.length db.length)), (51, .c (.int .i64 k)), (53, .agg [.fz (db[i].rows.map encRowD)])]) hS (fun b hb e he x hx => ?_) (Nat.le_refl _) (.frz rfl (.refl fun y hy => ?_) (.frz rfl (.refl (old_sl (Nat.lt_succ_self _))) (.frz rfl (.refl old_c) (.frz rfl (.refl (old_sl (Nat.lt_succ_self _))) (.frz rfl (.refl old_c) (.frz rfl (.agg rfl fun j hj0 => ?_) .nil)))))) ?_
      · rw [List.mem_singleton.1 hb] at he
        rcases List.mem_append.1 he with he | he
        · exact oldDatas _ e he x hx
        · rw [List.eq_of_mem_replicate he] at hx
          rw [List.mem_singleton.1 hx]
          exact .nils
      · rw [List.mem_singleton.1 hy]
        exact old_fz1 (oldDatas _)
      · have hz : FrzV (E σ ([(0, outC db i)] ++ [(v, db[i].rows.map encRowD ++ junk)])) (σ.next + [(0, outC db i)].length) (.c (vec (σ.next + 1) v (db[i].rows.map encRowD) junk)) (.c (.fz (db[i].rows.map encRowD))) := frz_old (k := 1) rfl (oldRows _) (Nat.le_refl _)
        have hj1 : j = 0 := by have hj9 : j < 1 := hj0; omega
        subst hj1
        cases hz with
        | c h => exact h
      have he := outC_at hlt
      have hg : (E σ [(0, outC db i)]).get (σ.next + 0) = some (0, outC db i) := E_get (k := 0) rfl
      repeat' first|refine yaG ?_|((first|apply yG|apply yH|apply yI);exact rfl;(first|exact aop_iaddrO rfl rfl hk hlt hg he rfl|exact aop_store (k := 0) rfl rfl rfl rfl he rfl (Nat.le_of_ble_eq_true rfl)))|(exfalso;omega)|(refine yaS ?_ ?_<;>intro _)
      refine Go.keep [0, 3, 4] (hrec _ _ _ (by omega) ⟨i + 1, _, rfl, hlt, wrap_succ hk (by omega), rfl, ?_⟩)
      rw [← outC_set hlt]
      rfl
  · repeat' first|refine yaG ?_|(exfalso;omega)|(refine yaS ?_ ?_<;>intro _)
    refine .ret rfl ⟨_, rfl, ?_⟩
    have e1 : outC db i = db.map encData ++ [] := by rw [outC, List.take_of_length_le (by omega), show db.length - i = 0 by omega]; rfl
    have hz := frz_old (σ := σ) (l := [(0, db.map encData ++ [])]) (k := 0) (N := σ.next) (v := 0) (ys := db.map encData) (junk := []) rfl (oldDatas _) (Nat.le_refl _)
    rw [← e1] at hz
    have e2 : vec (σ.next + 0) 0 (db.map encData) [] = .sl (σ.next + 0) 0 0 db.length db.length := by simp [vec]
    rw [e2] at hz
    exact hz
theorem DbNew_ok (s : List Table) (hx : s.length ≤ 34359738368) (hb : ∀ t ∈ s, bTable 34359738368 t) : Pure Tryz.prog 44 [.c (.fz (s.map encTable))] (.tup [.c (.fz ((if schemaF s then List.replicate s.length (⟨[]⟩ : Data) else []).map encData)), .c (.bool (schemaF s))]) := by
  refine Pure.run mixed c_spec_DbNew_ok (Nat.le_of_ble_eq_true rfl) fun σ hS hA => ?_
  clear hS hA
  have c1 := sSchemaOk_ok s hx hb
  cases h : schemaF s
  · rw [h] at c1
    repeat' first|refine yaG ?_|refine yaC (c1) ?_|(exfalso;omega)|(refine yaS ?_ ?_<;>intro _)
    exact .ret rfl ⟨_, rfl, .tup rfl fun i hi => by
      have : i = 0 ∨ i = 1 := by simp at hi; omega
      rcases this with rfl | rfl
      · exact .c .nil
      · exact .c (.same _ (.bool _))⟩
  · rw [h] at c1
    have h5 : s.length ≤ 5 := by
      simp only [schemaF, Bool.and_eq_true, decide_eq_true_eq] at h
      omega
    have hmk : 24 * s.length ≤ 140737488355328 := by omega
    repeat' first|refine yaG ?_|((first|apply yG|apply yH|apply yI);exact rfl;(first|exact aop_mkslice rfl rfl hmk))|refine yaC (c1) ?_|(exfalso;omega)|(refine yaS ?_ ?_<;>intro _)
    refine .ret rfl ⟨_, rfl, .tup rfl fun i hi => ?_⟩
    have : i = 0 ∨ i = 1 := by simp at hi; omega
    rcases this with rfl | rfl
    · have e1 : (List.replicate s.length (⟨[]⟩ : Data)).map encData = List.replicate s.length [.fz []] := by rw [List.map_replicate]; rfl
      refine .c (.sl _ _ _ _ _ (List.replicate s.length [.nils]) _ (Nat.le_add_right _ _) (E_get (k := 0) rfl) (by simp) (by simp) (fun k hk => ?_) (fun k j hk hj => ?_))
      · simp only [if_true, e1, List.getElem_replicate]
        rfl
      · have hj0 : j = 0 := by
          simp only [if_true, e1, List.getElem_replicate] at hj
          simpa using hj
        subst hj0
        simp only [if_true, e1, List.getElem_replicate]
        exact .nil
    · exact .c (.same _ (.bool _))
/-! ### what stays right -/
theorem rowsAux_snoc {t : Table} {x : RowD} (h1 : isIn x.id 1 1000000000 = true) (h2 : fitF t x.vals = true) : ∀ {l : List RowD} {p : Option Int}, rowsAux t p l = true → (∀ q ∈ l, q.id < x.id) → (∀ q, p = some q → q < x.id) → rowsAux t p (l ++ [x]) = true
  | [], p, _, _, h => by
    have h3 : risesId p x.id = true := by
      cases p with
      | none => rfl
      | some q => exact decide_eq_true (h q rfl)
    simp [rowsAux, rowOne, h1, h2, h3]
  | a :: l, p, h, hl, hp => by
    rw [rowsAux, Bool.and_eq_true] at h
    rw [List.cons_append, rowsAux, h.1, rowsAux_snoc h1 h2 h.2 (fun q hq => hl q (by simp [hq])) fun q hq => by injection hq with hq; rw [← hq]; exact hl a (by simp)]
    rfl
theorem dbAux_of : ∀ {s : List Table} {db : List Data}, (∀ i (hi : i < s.length) (hi2 : i < db.length), rowsF s[i] db[i].rows = true) → dbAux s db = true
  | [], _, _ => by simp [dbAux]
  | _ :: _, [], _ => by simp [dbAux]
  | t :: s, d :: db, h => by
    rw [dbAux, show rowsF t d.rows = true from h 0 (by simp) (by simp), dbAux_of fun i hi hi2 => h (i + 1) (by simp; omega) (by simp; omega)]
    rfl
theorem dbF_put {s : List Table} {db : List Data} (h : dbF s db = true) {n : Nat} (hn : n < s.length) (hn2 : n < db.length) {x : RowD} (h1 : isIn x.id 1 1000000000 = true) (h2 : fitF s[n] x.vals = true) (h3 : ∀ q ∈ db[n].rows, q.id < x.id) (h4 : db[n].rows.length < 60) : dbF s (db.set n ⟨db[n].rows ++ [x]⟩) = true := by
  obtain ⟨hs, hl, hrows⟩ := dbF_at h
  rw [dbF, hs, List.length_set, decide_eq_true (by omega), Bool.true_and, Bool.true_and]
  refine dbAux_of fun i hi hi2 => ?_
  rw [List.getElem_set]
  split
  · rename_i e
    subst e
    have hr := hrows n hn hn2
    rw [rowsF, Bool.and_eq_true] at hr ⊢
    exact ⟨rowsAux_snoc h1 h2 hr.1 h3 (fun q hq => nomatch hq), by rw [List.length_append, List.length_singleton]; exact decide_eq_true (by omega)⟩
  · exact hrows i hi _
theorem dbF_b {s : List Table} {db : List Data} (h : dbF s db = true) : db.length ≤ 5 ∧ (∀ d ∈ db, bData 34359738368 d) ∧ ∀ d ∈ db, d.rows.length ≤ 60 ∧ ∀ r ∈ d.rows, 1 ≤ r.vals.length ∧ r.vals.length ≤ 8 ∧ ∀ w ∈ r.vals, bV 12 w := by
  obtain ⟨hs, hl, hrows⟩ := dbF_at h
  have h5 : s.length ≤ 5 := by
    have := hs
    simp only [schemaF, Bool.and_eq_true, decide_eq_true_eq] at this
    omega
  have key : ∀ d ∈ db, d.rows.length ≤ 60 ∧ ∀ r ∈ d.rows, 1 ≤ r.vals.length ∧ r.vals.length ≤ 8 ∧ ∀ w ∈ r.vals, bV 12 w := fun d hd => by
    obtain ⟨i, hi, rfl⟩ := List.getElem_of_mem hd
    have hr := rowsF_mem (hrows i (by omega) hi)
    refine ⟨hr.1, fun r hm => ?_⟩
    obtain ⟨f1, f2⟩ := fitF_vals (hr.2 r hm).1
    have hc := schemaF_cols hs _ (List.getElem_mem (show i < s.length by omega))
    refine ⟨by omega, by omega, fun w hw => ?_⟩
    have := f2 w hw
    simp only [okVal, Bool.or_eq_true, Bool.and_eq_true, beq_iff_eq, decide_eq_true_eq] at this
    rw [bV]
    rcases this with (⟨_, h⟩ | ⟨_, h⟩) | ⟨_, h⟩
    · rw [h]; simp
    · rw [h]; simp
    · omega
  refine ⟨by omega, fun d hd => ⟨by have := (key d hd).1; omega, fun r hr => ?_⟩, key⟩
  obtain ⟨_, k2, k3⟩ := (key d hd).2 r hr
  exact ⟨by omega, fun w hw => Nat.le_trans (k3 w hw) (by decide)⟩
/-- A right database with a code, or none with another one. -/
def Put (s : List Table) (bad : Int → Prop) (r : AV) : Prop := ∃ y id code, r = .tup [.c y, .c (.int .i64 id), .c (.int .i64 code)] ∧ (¬ bad code → ∃ db, dbF s db = true ∧ y = .fz (db.map encData))
theorem fin_put {σ : Store} {l : List (Nat × List (List Ce))} {y : Ce} {a b : Int} (hy : Old σ.next y) : FrzV (E σ l) σ.next (.tup [.c y, .c (.int .i64 a), .c (.int .i64 b)]) (.tup [.c y, .c (.int .i64 a), .c (.int .i64 b)]) := .tup rfl fun i hi => by
  have : i = 0 ∨ i = 1 ∨ i = 2 := by simp at hi; omega
  rcases this with rfl | rfl | rfl
  · exact .c (.same _ hy)
  · exact .c (.same _ (.int _ _))
  · exact .c (.same _ (.int _ _))
theorem l6Insert_ok (s : List Table) (db : List Data) (q : Int) (n : Nat) (vals : List Val) (hq : q = (n : Int)) (hn : n < s.length) (hn2 : n < db.length) (h : dbF s db = true) (hb : ∀ t ∈ s, bTable 34359738368 t) (hf : fitF s[n] vals = true) :
    Told Tryz.prog 228 [.c (.fz (s.map encTable)), .c (.fz (db.map encData)), .c (.int .i64 q), .c (.fz (vals.map encV)), .c (.bool false)] (Put s fun c => c ≠ 0) := by
  refine Told.run mixed c_spec_l6Insert_ok (Nat.le_of_ble_eq_true rfl) fun σ hS => ?_
  clear hS
  obtain ⟨hs, hl, hrows⟩ := dbF_at h
  have hrn := hrows n hn hn2
  have hmem := rowsF_mem hrn
  have hT := schemaF_tab hs _ (List.getElem_mem hn)
  have hfv := fitF_vals hf
  have h5 := (dbF_b h).1
  have c0 := l6Able_ok s[n] vals hfv.1 hT (fitF_are hf hT.cols8)
  repeat' first|refine yaG ?_|((first|apply yG|apply yH|apply yI);exact rfl;(first|exact yX (enc := encTable) rfl rfl hq hn rfl))|(exfalso;omega)|(refine yaS ?_ ?_<;>intro _)
  refine Go.told rfl rfl rfl c0 ?_
  rintro _ ⟨code, rfl⟩
  by_cases h0 : code = 0
  · subst h0
    repeat' first|refine yaG ?_|((first|apply yG|apply yH|apply yI);exact rfl;(first|exact yX (enc := encData) rfl rfl hq hn2 rfl))|(exfalso;omega)|(refine yaS ?_ ?_<;>intro _)
    refine Go.told rfl rfl rfl (l6Next_ok db[n] (rowsF_rise hrn) hmem.1 fun r hr => ?_) ?_
    · have := (hmem.2 r hr).2
      simp only [isIn, Bool.and_eq_true, decide_eq_true_eq] at this
      exact this
    rintro _ ⟨k, hk1, hk2, hk3, rfl⟩
    have cc := l1CopyVals_pure vals (by have h8 := hT.cols8; have hf1 := hfv.1; omega)
    repeat' first|refine yaG ?_|refine yaC (cc) ?_|(exfalso;omega)|(refine yaS ?_ ?_<;>intro _)
    have hR := db_tab h hb hn hn2
    have hK : KeysR s[n] db[n] ⟨k, vals⟩ := ⟨hT.uniq3, hR.keys, fun c hc => by show InR c vals.length; rw [hfv.1]; exact hR.inr c hc, fun c hc r hr => by rw [(hR.row r hr).len]; exact hR.inr c hc⟩
    refine Go.told rfl rfl rfl (l6Clear_ok s db q n ⟨k, vals⟩ hq hn hn2 hmem.1 hK) ?_
    rintro _ (rfl | rfl)
    · by_cases hfull : db[n].rows.length = 60
      · have hfi : (db[n].rows.length : Int) = 60 := by omega
        repeat' first|refine yaG ?_|((first|apply yG|apply yH|apply yI);exact rfl;(first|exact yX (enc := encData) rfl rfl hq hn2 rfl))|(exfalso;omega)|(refine yaS ?_ ?_<;>intro _)
        exact .ret rfl ⟨_, ⟨_, _, _, rfl, fun hh => absurd (by decide) hh⟩, _, rfl, fin_put .nils⟩
      · have hfi : ¬ (db[n].rows.length : Int) = 60 := by omega
        by_cases hbig : k > 1000000000
        · repeat' first|refine yaG ?_|((first|apply yG|apply yH|apply yI);exact rfl;(first|exact yX (enc := encData) rfl rfl hq hn2 rfl))|(exfalso;omega)|(refine yaS ?_ ?_<;>intro _)
          exact .ret rfl ⟨_, ⟨_, _, _, rfl, fun hh => absurd (by decide) hh⟩, _, rfl, fin_put .nils⟩
        · have hd2 := dbF_put h hn hn2 (x := ⟨k, vals⟩) (by simp only [isIn, Bool.and_eq_true, decide_eq_true_eq]; omega) hf hk3 (by omega)
          have c4 := l4Put_ok db[n] ⟨k, vals⟩ hmem.1 hk3
          have c5 := l4With_ok db q n ⟨db[n].rows ++ [⟨k, vals⟩]⟩ hq hn2 (by omega)
          generalize hdb' : db.set n ⟨db[n].rows ++ [⟨k, vals⟩]⟩ = db' at hd2 c5
          have hl2 : db'.length = db.length := by rw [← hdb', List.length_set]
          have hR2 := db_tab hd2 hb hn (by omega)
          have hx : (⟨k, vals⟩ : RowD) ∈ (db'[n]'(by omega)).rows := by
            have : db'[n]'(by omega) = ⟨db[n].rows ++ [⟨k, vals⟩]⟩ := by simp only [← hdb', List.getElem_set_self]
            rw [this]
            simp
          have c6 := l5Refers_ok s db' q n vals true (by omega) hq hn hT.fk3 (hR2.row _ hx).fks
          generalize (!(s[n].fks.any (lostBad s db' (!true) vals))) = B at c6
          cases B
          · repeat' first|refine yaG ?_|((first|apply yG|apply yH|apply yI);exact rfl;(first|exact yX (enc := encData) rfl rfl hq hn2 rfl))|refine yaC (c4) ?_|refine yaC (c5) ?_|refine yaC (c6) ?_|(exfalso;omega)|(refine yaS ?_ ?_<;>intro _)
            exact .ret rfl ⟨_, ⟨_, _, _, rfl, fun hh => absurd (by decide) hh⟩, _, rfl, fin_put .nils⟩
          · repeat' first|refine yaG ?_|((first|apply yG|apply yH|apply yI);exact rfl;(first|exact yX (enc := encData) rfl rfl hq hn2 rfl))|refine yaC (c4) ?_|refine yaC (c5) ?_|refine yaC (c6) ?_|(exfalso;omega)|(refine yaS ?_ ?_<;>intro _)
            exact .ret rfl ⟨_, ⟨_, _, _, rfl, fun _ => ⟨db', hd2, rfl⟩⟩, _, rfl, fin_put (old_fz1 (oldDatas _))⟩
    · repeat' first|refine yaG ?_|(exfalso;omega)|(refine yaS ?_ ?_<;>intro _)
      exact .ret rfl ⟨_, ⟨_, _, _, rfl, fun hh => absurd (by decide) hh⟩, _, rfl, fin_put .nils⟩
  · repeat' first|refine yaG ?_|(exfalso;omega)|(refine yaS ?_ ?_<;>intro _)
    exact .ret rfl ⟨_, ⟨_, _, _, rfl, fun hh => absurd h0 hh⟩, _, rfl, fin_put .nils⟩
theorem InsertRow_told (s : List Table) (db : List Data) (q : Int) (n : Nat) (vals : List Val) (hq : q = (n : Int)) (hn : n < s.length) (hx : s.length ≤ 34359738368) (h : dbF s db = true) (hb : ∀ t ∈ s, bTable 34359738368 t) (hv : vals.length ≤ 34359738368) :
    Told Tryz.prog 158 [.c (.fz (s.map encTable)), .c (.fz (db.map encData)), .c (.int .i64 q), .c (.fz (vals.map encV)), .c (.bool false)] (Put s fun c => c = 1) := by
  refine Told.run mixed c_spec_InsertRow_ok (Nat.le_of_ble_eq_true rfl) fun σ hS => ?_
  clear hS
  obtain ⟨hs, hl, hrows⟩ := dbF_at h
  obtain ⟨h5, hbd, hrl⟩ := dbF_b h
  have hn2 : n < db.length := by omega
  have c1 := l6Ok_ok s db q hx hb (by omega) hbd
  have hin : isIn q 0 (s.length - 1) = true := by simp only [isIn, Bool.and_eq_true, decide_eq_true_eq]; omega
  rw [h, hin] at c1
  have c2 := l4Kinds_ok s[n] vals hv
  cases hf : fitF s[n] vals
  · rw [hf] at c2
    repeat' first|refine yaG ?_|((first|apply yG|apply yH|apply yI);exact rfl;(first|exact yX (enc := encTable) rfl rfl hq hn rfl))|refine yaC (c1) ?_|refine yaC (c2) ?_|(exfalso;omega)|(refine yaS ?_ ?_<;>intro _)
    exact .ret rfl ⟨_, ⟨_, _, _, rfl, fun hh => absurd rfl hh⟩, _, rfl, fin_put .nils⟩
  · rw [hf] at c2
    repeat' first|refine yaG ?_|((first|apply yG|apply yH|apply yI);exact rfl;(first|exact yX (enc := encTable) rfl rfl hq hn rfl))|refine yaC (c1) ?_|refine yaC (c2) ?_|(exfalso;omega)|(refine yaS ?_ ?_<;>intro _)
    refine Go.told rfl rfl rfl (l6Insert_ok s db q n vals hq hn hn2 h hb hf) ?_
    rintro _ ⟨y, id, code, rfl, hok⟩
    have cdb := l4Copy_ok db (by omega) fun d hd => ⟨(hrl d hd).1, fun r hr => by have := ((hrl d hd).2 r hr).2.1; omega⟩
    by_cases h0 : code = 0
    · subst h0
      obtain ⟨db', hd', rfl⟩ := hok (by decide)
      obtain ⟨h5', _, hrl'⟩ := dbF_b hd'
      have cdb' := l4Copy_ok db' (by omega) fun d hd => ⟨(hrl' d hd).1, fun r hr => by have := ((hrl' d hd).2 r hr).2.1; omega⟩
      repeat' first|refine yaG ?_|refine yaC (cdb') ?_|(exfalso;omega)|(refine yaS ?_ ?_<;>intro _)
      exact .ret rfl ⟨_, ⟨_, _, _, rfl, fun _ => ⟨db', hd', rfl⟩⟩, _, rfl, fin_put (old_fz1 (oldDatas _))⟩
    · repeat' first|refine yaG ?_|refine yaC (cdb) ?_|(exfalso;omega)|(refine yaS ?_ ?_<;>intro _)
      exact .ret rfl ⟨_, ⟨_, _, _, rfl, fun _ => ⟨db, h, rfl⟩⟩, _, rfl, fin_put (old_fz1 (oldDatas _))⟩
end Go.Proofs.YtinbdedlmkjokaaGreat.Am

/- The reader that draws: databases and places. -/
set_option linter.unusedVariables false
set_option linter.unusedSimpArgs false
namespace Go.Proofs.YtinbdedlmkjokaaGreat.Am

/-- A drawn database: right, or none. -/
def Bases (s : List Table) (r : AV) : Prop := ∃ db : List Data, (dbF s db = true ∨ db = []) ∧ r = .c (.fz (db.map encData))
theorem oldTables {n : Nat} (l : List Table) : OldL n (l.map encTable) := fun e he c hc => by
  obtain ⟨a, _, rfl⟩ := List.mem_map.1 he
  simp only [encTable, List.mem_cons, List.not_mem_nil, or_false] at hc
  rcases hc with rfl | rfl | rfl | rfl | rfl | rfl
  · exact .str _
  · exact old_fz1 (oldCols _)
  · exact old_fz1 (oldInts _)
  · exact old_fz1 (oldUniqs _)
  · exact old_fz1 (oldChks _)
  · exact old_fz1 (oldFks _)
theorem SmallT.b34 {t : Table} (h : SmallT t) : bTable 34359738368 t := by
  obtain ⟨⟨b1, ⟨b2, b3⟩, b4, ⟨b5, b6⟩, ⟨b7, b8⟩, b9, b10⟩, _, _⟩ := h
  have k : ∀ {n : Nat}, n ≤ 12 → n ≤ 34359738368 := fun h => by omega
  refine ⟨k b1, ⟨k b2, fun x hx => ?_⟩, k b4, ⟨k b5, fun x hx => k (b6 x hx)⟩, ⟨k b7, fun x hx => ?_⟩, k b9, fun x hx => ⟨k (b10 x hx).1, k (b10 x hx).2⟩⟩
  · exact ⟨k (b3 x hx).1, k (b3 x hx).2⟩
  · exact ⟨k (b8 x hx).1, fun t ht => k ((b8 x hx).2 t ht)⟩
theorem SchD.b {s : List Table} (h : SchD s) : s.length ≤ 34359738368 ∧ ∀ t ∈ s, bTable 34359738368 t := ⟨by have := h.2.1; omega, fun t ht => (h.2.2 t ht).b34⟩
theorem dbF_new {s : List Table} (h : schemaF s = true) : dbF s (List.replicate s.length (⟨[]⟩ : Data)) = true := by
  rw [dbF, h, List.length_replicate, decide_eq_true rfl, Bool.true_and, Bool.true_and]
  refine dbAux_of fun i hi hi2 => ?_
  simp [rowsF, rowsAux]
theorem below_pos {n : Nat} (h : 0 < n) {r : AV} (hr : BelowR (n : Int) r) : ∃ k : Nat, k < n ∧ r = .c (.int .i64 (k : Int)) := by
  obtain ⟨k, h0, h1, rfl⟩ := hr
  refine ⟨k.toNat, by omega, by rw [Int.toNat_of_nonneg h0]⟩
theorem base_ok (s : List Table) (most : Nat) (hm : 1 ≤ most) (hm2 : most ≤ 60) (hs : SchD s) : Draws Tryz.prog 70 [.c (.fz (s.map encTable)), .c (.int .i64 (most : Int))] (Bases s) := by
  refine Draws.run mixed c_spec_l1Rd_base_ok (Nat.le_of_ble_eq_true rfl) fun σ id v code p hr hp hc hS => ?_
  obtain ⟨hx, hb⟩ := hs.b
  have c0 := DbNew_ok s hx hb
  cases hsc : schemaF s
  · rw [hsc, if_neg (by decide)] at c0
    have hpos : (0 : Int) < s.length := by have := hs.1; omega
    repeat' first|refine yaG ?_|refine yaC (c0) ?_|(exfalso;omega)|(refine yaS ?_ ?_<;>intro _)
    apply Go.loop
    repeat' first|refine yaG ?_|(exfalso;omega)|(refine yaS ?_ ?_<;>intro _)
    exact .ret rfl (.c hp ⟨[], .inr rfl, rfl⟩ fun y hy => by
      rw [List.mem_singleton.1 hy]
      exact .fz _ fun i j hi => absurd hi (by simp))
  rw [hsc, if_pos rfl] at c0
  have hd0 := dbF_new hsc
  generalize List.replicate s.length (⟨[]⟩ : Data) = db0 at c0 hd0
  have hsO : ∀ y ∈ (AV.c (.fz (s.map encTable))).all, Old σ.next y := fun y hy => by
    rw [List.mem_singleton.1 hy]
    exact old_fz1 (oldTables _)
  have hs3 := hs.2.1
  have hs1 := hs.1
  repeat' first|refine yaG ?_|refine yaC (c0) ?_|(exfalso;omega)|(refine yaS ?_ ?_<;>intro _)
  refine Go.keep [0, 1, 2, 7, 8, 9] (Go.loops (I := fun m fr τ => ∃ (i : Nat) (k : Int) (q : Nat) (db : List Data), m = s.length - i ∧ i ≤ s.length ∧ k = i ∧ q ≤ code.length ∧ dbF s db = true ∧
    fr = [(0, .c (.ptr id v 0 0)), (1, .c (.fz (s.map encTable))), (2, .c (.int .i64 (most : Int))), (7, .c (.fz (db.map encData))), (8, .c (.bool true)), (9, .c (.int .i64 k))] ∧ τ = E (Rd.go σ id v code q) []) ?_ _ _ _ ⟨0, _, p, db0, rfl, Nat.zero_le _, rfl, hp, hd0, rfl, rfl⟩)
  clear c0 hd0 hp
  rintro m fr τ ⟨i, k, q, db, rfl, hi, hk, hq, hd, rfl, rfl⟩ hrec
  by_cases hlt : i < s.length
  · have hT := hs.2.2 _ (List.getElem_mem hlt)
    repeat' first|refine yaG ?_|(exfalso;omega)|(refine yaS ?_ ?_<;>intro _)
    refine Go.drawn hr hq rfl rfl rfl (below_ok most (by omega) (by omega)) ?_
    rintro _ q1 hq1 ⟨a, ha0, ha1, rfl⟩
    have ew : IntKind.i64.wrap (1 + a) = 1 + a := wrap64 (by omega) (by omega)
    repeat' first|refine yaG ?_|(exfalso;omega)|(refine yaS ?_ ?_<;>intro _)
    refine Go.keep [0, 1, 2, 7, 8, 9, 10] (Go.loops (I := fun m fr τ => ∃ (b : Int) (q : Nat) (db : List Data), m = b.toNat ∧ b ≤ 100 ∧ q ≤ code.length ∧ dbF s db = true ∧
      fr = [(0, .c (.ptr id v 0 0)), (1, .c (.fz (s.map encTable))), (2, .c (.int .i64 (most : Int))), (7, .c (.fz (db.map encData))), (8, .c (.bool true)), (9, .c (.int .i64 k)), (10, .c (.int .i64 b))] ∧ τ = E (Rd.go σ id v code q) []) ?_ _ _ _ ⟨_, q1, db, rfl, by omega, hq1, hd, rfl, rfl⟩)
    clear hq1 hd hq ew ha0 ha1
    clear db q q1
    rintro m fr τ ⟨b, q, db, rfl, hb100, hq, hd, rfl, rfl⟩ hrecb
    obtain ⟨h5, hbd, hrl⟩ := dbF_b hd
    have hdl := (dbF_at hd).2.1
    have hi2 : i < db.length := by omega
    have h00 : 0 < db.length := by omega
    have hz0 : (0 : Int) = ((0 : Nat) : Int) := rfl
    by_cases hb0 : b > 0
    · repeat' first|refine yaG ?_|((first|apply yG|apply yH|apply yI);exact rfl;(first|exact yX (enc := encTable) rfl rfl hk hlt rfl))|(exfalso;omega)|(refine yaS ?_ ?_<;>intro _)
      have cf := fit_own s[i] (by have := hT.hi; omega) (E (Rd.go σ id v code q) []) id v code q ((hr.at_ hq).E [])
      refine .call _ rfl rfl rfl cf ?_
      rintro r τ ⟨q2, vs, u, junk, hq2, hvl, hvb, hj, rfl, rfl⟩
      rw [Rd.go_E (show id < (Rd.go σ id v code q).next from hr.2.1), Rd.go_go, E_E, List.nil_append]
      have hlo := hT.lo
      have hz1 : (1 : Int) = ((1 : Nat) : Int) := rfl
      have h1v : 1 < (vs.map encV).length := by rw [List.length_map]; omega
      have h1v2 : 1 < vs.length := by omega
      have hev : (vs.map encV ++ junk)[0 + 1]? = some (encV vs[1]) := by
        rw [Nat.zero_add, List.getElem?_append_left h1v]
        simp [h1v2]
      have setV : ∀ w : Val, (vs.map encV ++ junk).set (0 + 1) (splice (encV vs[1]) 0 (encV w)) = (vs.set 1 w).map encV ++ junk := fun w => by
        have : splice (encV vs[1]) 0 (encV w) = encV w := by rw [splice, List.take_zero, List.nil_append, List.drop_eq_nil_of_le (by simp [encV]), List.append_nil]
        rw [this, Nat.zero_add, set_left h1v, List.map_set]
      have vec_set : ∀ w : Val, vec (σ.next + 0) u ((vs.set 1 w).map encV) junk = vec (σ.next + 0) u (vs.map encV) junk := fun w => by simp [vec]
      have hset : ∀ w : Val, bV 12 w → ∀ x ∈ vs.set 1 w, bV 12 x := fun w hw x hx => by
        rcases List.mem_or_eq_of_mem_set hx with hx | rfl
        · exact hvb x hx
        · exact hw
      refine Go.op rfl rfl (.nil (.seq ?_))
      refine Go.meet (K' := [_]) (fun fr τ => ∃ (q : Nat) (vs : List Val) (u : Nat) (junk : List (List Ce)), q ≤ code.length ∧ vs.length = s[i].cols.length ∧ (∀ w ∈ vs, bV 12 w) ∧ Jk 3 junk ∧
        fr = [(0, .c (.ptr id v 0 0)), (1, .c (.fz (s.map encTable))), (2, .c (.int .i64 (most : Int))), (7, .c (.fz (db.map encData))), (8, .c (.bool true)), (9, .c (.int .i64 k)), (10, .c (.int .i64 b)), (11, .c (vec (σ.next + 0) u (vs.map encV) junk))] ∧ τ = E (Rd.go σ id v code q) [(u, vs.map encV ++ junk)]) (fun K hm => ?_) ?_
      · have hgv : ∀ q : Nat, (E (Rd.go σ id v code q) [(u, vs.map encV ++ junk)]).get (σ.next + 0) = some (u, vs.map encV ++ junk) := fun q => E_get (σ := Rd.go σ id v code q) (k := 0) rfl
        repeat' first|refine yaG ?_|((first|apply yG|apply yH|apply yI);exact rfl;(first|exact yX (enc := encTable) rfl rfl hk hlt rfl|exact yX (enc := encData) rfl rfl hk hi2 rfl|exact yX (enc := encData) rfl rfl hz0 h00 rfl))|(exfalso;omega)|(refine yaS ?_ ?_<;>intro _)
        all_goals first
          | exact Go.keep [0, 1, 2, 7, 8, 9, 10, 11] (hm _ _ ⟨q2, vs, u, junk, hq2, hvl, hvb, hj, rfl, rfl⟩)
          | skip
        refine Go.drawn hr hq2 rfl rfl rfl (once_ok 4 (by decide) (by decide)) ?_
        rintro _ q3 hq3 ⟨b3, rfl⟩
        cases b3
        · repeat' first|refine yaG ?_|((first|apply yG|apply yH|apply yI);exact rfl;(first|exact yX (enc := encTable) rfl rfl hk hlt rfl|exact yX (enc := encData) rfl rfl hk hi2 rfl|exact yX (enc := encData) rfl rfl hz0 h00 rfl))|(exfalso;omega)|(refine yaS ?_ ?_<;>intro _)
          all_goals first
            | exact Go.keep [0, 1, 2, 7, 8, 9, 10, 11] (hm _ _ ⟨q3, vs, u, junk, hq3, hvl, hvb, hj, rfl, rfl⟩)
            | skip
          · have hr60 := (hrl _ (List.getElem_mem hi2)).1
            refine Go.drawn hr hq3 rfl rfl rfl (below_ok (db[i].rows).length (by omega) (by omega)) ?_
            intro r q4 hq4 hz
            obtain ⟨c, hc4, rfl⟩ := below_pos (by omega) hz
            have hrr := ((hrl _ (List.getElem_mem hi2)).2 _ (List.getElem_mem hc4))
            obtain ⟨w, hw, hw2⟩ : ∃ w, w = ((db[i].rows)[c]'hc4).vals[0]'(by omega) ∧ bV 12 w := ⟨_, rfl, hrr.2.2 _ (List.getElem_mem _)⟩
            have hv0 : 0 < ((db[i].rows)[c]'hc4).vals.length := by omega
            repeat' first|refine yaG ?_|((first|apply yG|apply yH|apply yI);exact rfl;(first|exact yX (enc := encRowD) rfl rfl rfl hc4 rfl|exact yX (enc := encV) rfl rfl hz0 hv0 rfl|exact aop_iaddrO rfl rfl hz1 h1v (hgv _) hev rfl|exact aop_store (k := 0) rfl rfl rfl rfl hev rfl (Nat.le_of_ble_eq_true rfl)))|(exfalso;omega)|(refine yaS ?_ ?_<;>intro _)
            refine Go.keep [0, 1, 2, 7, 8, 9, 10, 11] (hm _ _ ⟨q4, vs.set 1 w, u, junk, hq4, by rw [List.length_set]; exact hvl, hset w hw2, hj, ?_, ?_⟩)
            · rw [vec_set]; rfl
            · rw [← setV w, hw]; rfl
          · have hr60 := (hrl _ (List.getElem_mem h00)).1
            refine Go.drawn hr hq3 rfl rfl rfl (below_ok (db[0].rows).length (by omega) (by omega)) ?_
            intro r q4 hq4 hz
            obtain ⟨c, hc4, rfl⟩ := below_pos (by omega) hz
            have hrr := ((hrl _ (List.getElem_mem h00)).2 _ (List.getElem_mem hc4))
            obtain ⟨w, hw, hw2⟩ : ∃ w, w = ((db[0].rows)[c]'hc4).vals[0]'(by omega) ∧ bV 12 w := ⟨_, rfl, hrr.2.2 _ (List.getElem_mem _)⟩
            have hv0 : 0 < ((db[0].rows)[c]'hc4).vals.length := by omega
            repeat' first|refine yaG ?_|((first|apply yG|apply yH|apply yI);exact rfl;(first|exact yX (enc := encRowD) rfl rfl rfl hc4 rfl|exact yX (enc := encV) rfl rfl hz0 hv0 rfl|exact aop_iaddrO rfl rfl hz1 h1v (hgv _) hev rfl|exact aop_store (k := 0) rfl rfl rfl rfl hev rfl (Nat.le_of_ble_eq_true rfl)))|(exfalso;omega)|(refine yaS ?_ ?_<;>intro _)
            refine Go.keep [0, 1, 2, 7, 8, 9, 10, 11] (hm _ _ ⟨q4, vs.set 1 w, u, junk, hq4, by rw [List.length_set]; exact hvl, hset w hw2, hj, ?_, ?_⟩)
            · rw [vec_set]; rfl
            · rw [← setV w, hw]; rfl
        · repeat' first|refine yaG ?_|((first|apply yG|apply yH|apply yI);exact rfl;(first|exact yX (enc := encTable) rfl rfl hk hlt rfl|exact yX (enc := encData) rfl rfl hk hi2 rfl|exact yX (enc := encData) rfl rfl hz0 h00 rfl))|(exfalso;omega)|(refine yaS ?_ ?_<;>intro _)
          all_goals exact Go.keep [0, 1, 2, 7, 8, 9, 10, 11] (hm _ _ ⟨q3, vs, u, junk, hq3, hvl, hvb, hj, rfl, rfl⟩)
      · clear hset vec_set setV hev h1v2 h1v hz1
        clear hvl hvb hj hq2
        clear q2 vs u junk
        rintro fr τ ⟨q2, vs, u, junk, hq2, hvl, hvb, hj, rfl, rfl⟩
        have hz1 : (1 : Int) = ((1 : Nat) : Int) := rfl
        have h1v : 1 < (vs.map encV).length := by rw [List.length_map]; omega
        have h1v2 : 1 < vs.length := by omega
        have hev : (vs.map encV ++ junk)[0 + 1]? = some (encV vs[1]) := by
          rw [Nat.zero_add, List.getElem?_append_left h1v]
          simp [h1v2]
        have setV : ∀ w : Val, (vs.map encV ++ junk).set (0 + 1) (splice (encV vs[1]) 0 (encV w)) = (vs.set 1 w).map encV ++ junk := fun w => by
          have : splice (encV vs[1]) 0 (encV w) = encV w := by rw [splice, List.take_zero, List.nil_append, List.drop_eq_nil_of_le (by simp [encV]), List.append_nil]
          rw [this, Nat.zero_add, set_left h1v, List.map_set]
        have vec_set : ∀ w : Val, vec (σ.next + 0) u ((vs.set 1 w).map encV) junk = vec (σ.next + 0) u (vs.map encV) junk := fun w => by simp [vec]
        have hset : ∀ w : Val, bV 12 w → ∀ x ∈ vs.set 1 w, bV 12 x := fun w hw x hx => by
          rcases List.mem_or_eq_of_mem_set hx with hx | rfl
          · exact hvb x hx
          · exact hw
        refine .seq ?_
        refine Go.meet (K' := [_]) (fun fr τ => ∃ (q : Nat) (vs : List Val) (u : Nat) (junk : List (List Ce)), q ≤ code.length ∧ vs.length = s[i].cols.length ∧ (∀ w ∈ vs, bV 12 w) ∧ Jk 3 junk ∧
          fr = [(0, .c (.ptr id v 0 0)), (1, .c (.fz (s.map encTable))), (2, .c (.int .i64 (most : Int))), (7, .c (.fz (db.map encData))), (8, .c (.bool true)), (9, .c (.int .i64 k)), (10, .c (.int .i64 b)), (11, .c (vec (σ.next + 0) u (vs.map encV) junk))] ∧ τ = E (Rd.go σ id v code q) [(u, vs.map encV ++ junk)]) (fun K hm => ?_) ?_
        · have hgv : ∀ q : Nat, (E (Rd.go σ id v code q) [(u, vs.map encV ++ junk)]).get (σ.next + 0) = some (u, vs.map encV ++ junk) := fun q => E_get (σ := Rd.go σ id v code q) (k := 0) rfl
          repeat' first|refine yaG ?_|((first|apply yG|apply yH|apply yI);exact rfl;(first|exact yX (enc := encTable) rfl rfl hk hlt rfl|exact yX (enc := encData) rfl rfl hk hi2 rfl|exact yX (enc := encData) rfl rfl hz0 h00 rfl|exact aop_iaddrO rfl rfl hz1 h1v (hgv _) hev rfl|exact aop_store (k := 0) rfl rfl rfl rfl hev rfl (Nat.le_of_ble_eq_true rfl)))|(exfalso;omega)|(refine yaS ?_ ?_<;>intro _)
          all_goals first
            | exact Go.keep [0, 1, 2, 7, 8, 9, 10, 11] (hm _ _ ⟨q2, vs, u, junk, hq2, hvl, hvb, hj, rfl, rfl⟩)
            | skip
          refine Go.keep [0, 1, 2, 7, 8, 9, 10, 11] (hm _ _ ⟨q2, vs.set 1 vNull, u, junk, hq2, by rw [List.length_set]; exact hvl, hset vNull (Nat.zero_le _), hj, ?_, ?_⟩)
          · rw [vec_set]; rfl
          · rw [← setV vNull]; rfl
        · clear hset vec_set setV hev h1v2 h1v hz1
          clear hvl hvb hj hq2
          clear q2 vs u junk
          rintro fr τ ⟨q2, vs, u, junk, hq2, hvl, hvb, hj, rfl, rfl⟩
          refine Go.freezeN (l := []) (m := [(u, vs.map encV ++ junk)]) (fr' := [(0, .c (.ptr id v 0 0)), (1, .c (.fz (s.map encTable))), (2, .c (.int .i64 (most : Int))), (7, .c (.fz (db.map encData))), (8, .c (.bool true)), (9, .c (.int .i64 k)), (10, .c (.int .i64 b)), (11, .c (.fz (vs.map encV)))]) (hr.old hS) (fun b hb => by cases hb) (Nat.le_refl _)
            (.frz rfl (.refl (old_ptr hr.2.1)) (.frz rfl (.refl hsO) (.frz rfl (.refl old_c) (.frz rfl (.refl fun y hy => by rw [List.mem_singleton.1 hy]; exact old_fz1 (oldDatas _)) (.frz rfl (.refl old_b) (.frz rfl (.refl old_c) (.frz rfl (.refl old_c) (.frz rfl (frz_drop (n := 0) (k := 0) rfl flats (Nat.zero_le _) (Nat.le_refl _)) .nil)))))))) ?_
          repeat' first|refine yaG ?_|(exfalso;omega)|(refine yaS ?_ ?_<;>intro _)
          refine Go.told rfl rfl rfl (InsertRow_told s db k i vs hk hlt hx hd hb (by have := hT.hi; omega)) ?_
          rintro _ ⟨y, iid, cd, rfl, hok⟩
          have ew : IntKind.i64.wrap (b - 1) = b - 1 := wrap64 (by omega) (by omega)
          by_cases hcd : cd = 1
          · repeat' first|refine yaG ?_|(exfalso;omega)|(refine yaS ?_ ?_<;>intro _)
            exact Go.keep [0, 1, 2, 7, 8, 9, 10] (hrecb _ _ _ (by omega) ⟨b - 1, q2, db, rfl, by omega, hq2, hd, by rw [ew]; rfl, rfl⟩)
          · obtain ⟨db', hd', rfl⟩ := hok hcd
            repeat' first|refine yaG ?_|(exfalso;omega)|(refine yaS ?_ ?_<;>intro _)
            exact Go.keep [0, 1, 2, 7, 8, 9, 10] (hrecb _ _ _ (by omega) ⟨b - 1, q2, db', rfl, by omega, hq2, hd', by rw [ew]; rfl, rfl⟩)
    · repeat' first|refine yaG ?_|(exfalso;omega)|(refine yaS ?_ ?_<;>intro _)
      exact Go.keep [0, 1, 2, 7, 8, 9] (hrec _ _ _ (by omega) ⟨i + 1, _, q, db, rfl, hlt, wrap_succ hk (by omega), hq, hd, rfl, rfl⟩)
  · repeat' first|refine yaG ?_|(exfalso;omega)|(refine yaS ?_ ?_<;>intro _)
    exact .ret rfl (.c hq ⟨db, .inl hd, rfl⟩ fun y hy => by
      rw [List.mem_singleton.1 hy]
      exact old_fz1 (oldDatas _))
end Go.Proofs.YtinbdedlmkjokaaGreat.Am

/- Drawn arguments: of Matching, of JoinOn. -/
set_option linter.unusedVariables false
set_option linter.unusedSimpArgs false
namespace Go.Proofs.YtinbdedlmkjokaaGreat.Am

theorem l1Open_ok (code : List UInt8) (σ : Store) : Ok Tryz.prog 68 [.c (.fz (code.map encB))] σ (fun r τ => r = .c (.ptr (σ.next + 0) 0 0 0) ∧ τ = E σ [(0, rdB code 0)]) := by
  refine Ok.run mixed c_spec_l1Open_ok (Nat.le_of_ble_eq_true rfl) fun hS hA => ?_
  clear hS hA
  repeat' first|refine yaG ?_|(exfalso;omega)|(refine yaS ?_ ?_<;>intro _)
  exact .ret rfl ⟨rfl, rfl⟩
/-- The reader that was opened. -/
theorem rd_open {σ : Store} {code : List UInt8} (hc : code.length ≤ 1048576) : Rd (E σ [(0, rdB code 0)]) (σ.next + 0) 0 code 0 := ⟨E_get (k := 0) rfl, by rw [E_next]; simp, Nat.zero_le _, hc⟩
theorem rd_opened {σ : Store} {code : List UInt8} (hc : code.length ≤ 1048576) : E σ [(0, rdB code 0)] = E (Rd.go (E σ [(0, rdB code 0)]) (σ.next + 0) 0 code 0) [] := by
  rw [(rd_open (σ := σ) hc).same, E_E, List.append_nil]
end Go.Proofs.YtinbdedlmkjokaaGreat.Am

/- A slice that begins as nil; terms. -/
set_option linter.unusedVariables false
set_option linter.unusedSimpArgs false
namespace Go.Proofs.YtinbdedlmkjokaaGreat.Am

theorem aop_appNil {fr : Fr} {σ : Store} {l : List (Nat × List (List Ce))} {s bytes : Nat} {x y : Opd} {zs : List (List Ce)} (hx : x.ev fr = some (.c .nils)) (hy : y.ev fr = some (.c (.fz zs))) (hzs : ∀ e ∈ zs, e.length = s) (hb : zs.length * bytes ≤ 140737488355328) :
    aop (.app s bytes x y) fr (E σ l) = some (.c (vec (σ.next + l.length) 0 zs []), E σ (l ++ [(0, zs ++ [])])) := by
  have h : appA (E σ l) s bytes .nils zs = some (.sl (E σ l).next 0 0 zs.length zs.length, (E σ l).new (0, zs)) := by
    unfold appA
    rw [if_pos hzs]
    exact if_pos hb
  simp only [aop, hx, hy, Store.els, Option.bind_some, h, Option.map_some, E_new, E_next, vec, List.append_nil, List.length_nil, Nat.add_zero]
theorem oldTerms {n : Nat} (l : List Term) : OldL n (l.map encTerm) := fun e he c hc => by
  obtain ⟨a, _, rfl⟩ := List.mem_map.1 he
  simp only [encTerm, List.mem_cons, List.not_mem_nil, or_false] at hc
  subst hc
  exact old_fz1 (oldL_flat flatTs)
theorem term_len {l : List Term} : ∀ e ∈ l.map encTerm, e.length = 1 := fun e he => by
  obtain ⟨a, _, rfl⟩ := List.mem_map.1 he
  rfl
theorem tok_b34 {t : Tok} (h : bTok 12 t) : bTok 34359738368 t := Nat.le_trans h (by decide)
def TermB (t : Term) : Prop := t.expr.length ≤ 7 ∧ ∀ x ∈ t.expr, bTok 12 x
end Go.Proofs.YtinbdedlmkjokaaGreat.Am

/- Drawn arguments: results that are parts of memory; copies that are frozen. -/
set_option linter.unusedVariables false
set_option linter.unusedSimpArgs false
namespace Go.Proofs.YtinbdedlmkjokaaGreat.Am

theorem rd_close2 {σ : Store} {code : List UInt8} {q : Nat} {l : List (Nat × List (List Ce))} : E (Rd.go (E σ [(0, rdB code 0)]) (σ.next + 0) 0 code q) l = E σ ((0, rdB code q) :: l) := by
  have : Rd.go (E σ [(0, rdB code 0)]) (σ.next + 0) 0 code q = E σ [(0, rdB code q)] := E_put (by simp)
  rw [this, E_E]
  rfl
theorem retv_ttm {fr : Fr} {σ : Store} {l : List (Nat × List (List Ce))} {t0 t1 t2 k2 v2 i2 j2 s2 : Nat} {g2 : Bool} {es2 : List (List Ce)} {e2 : List Ce} {x0 x1 x2 : AV} (h0 : look fr t0 = some x0) (h1 : look fr t1 = some x1)
    (hp2 : look fr t2 = some (.c (.ptr (σ.next + k2) v2 i2 j2))) (hl2 : l[k2]? = some (v2, es2)) (he2 : es2[i2]? = some e2) (hj2 : j2 ≤ e2.length) (hx2 : takeA g2 s2 (e2.drop j2) = some x2) :
    retv fr (E σ l) [.t t0, .t t1, .m t2 g2 s2] = some (.tup [x0, x1, x2]) := by
  simp [retv, revs, RV.ev, h0, h1, hp2, Store.at_, E_at, hl2, he2, hj2, hx2]
theorem frz_ptrC {σ : Store} {l : List (Nat × List (List Ce))} {k v N : Nat} {e cs : List Ce} (hl : l[k]? = some (v, [e])) (hc : cs.length = e.length) (h : ∀ j (h1 : j < e.length) (h2 : j < cs.length), Frz (E σ l) N e[j] cs[j]) (hN : N ≤ σ.next + k) : FrzV (E σ l) N (.c (.ptr (σ.next + k) v 0 0)) (.c (.fp cs)) :=
  .c (.ptr _ _ _ _ [e] e cs hN (E_get hl) rfl (by omega) fun j hj => by
    simp only [Nat.zero_add]
    exact h j (by omega) hj)
theorem old_selC {n : Nat} (q : Sel) : ∀ y ∈ encSel q, Old n y := fun y hy => by
  simp only [encSel, List.mem_cons, List.not_mem_nil, or_false] at hy
  rcases hy with rfl | rfl | rfl | rfl | rfl
  · exact .str _
  · exact old_fz1 (oldTerms _)
  · exact old_fz1 (oldL_flat flatTs)
  · exact old_fz1 (oldInts _)
  · exact .int _ _
theorem old_selA {n : Nat} (q : Sel) : ∀ y ∈ (AV.agg (encSel q)).all, Old n y := old_selC q
end Go.Proofs.YtinbdedlmkjokaaGreat.Am

/- The reader that draws: queries. -/
set_option linter.unusedVariables false
set_option linter.unusedSimpArgs false
namespace Go.Proofs.YtinbdedlmkjokaaGreat.Am

def QSel (r : AV) : Prop := ∃ q : Sel, bSel 34359738368 q ∧ r = .agg (encSel q)
def z5 : List Ce := [.str [], .nils, .nils, .nils, .int .i64 0]
/-- The blocks of a query that is made. -/
def QSt (σ : Store) (nm : List UInt8) (ts : List Term) (x2 x3 : Ce) (mo : Int) (ll : List (Nat × List (List Ce))) : Prop :=
  (ts = [] ∧ ll = [(0, [z5]), (0, [[.str nm, .nils, x2, x3, .int .i64 mo]])]) ∨ ∃ v junk, Jk 1 junk ∧ ll = [(0, [z5]), (0, [[.str nm, vec (σ.next + 2) v (ts.map encTerm) junk, x2, x3, .int .i64 mo]]), (v, ts.map encTerm ++ junk)]
theorem query_ok (s : List Table) (hs : SchD s) : Draws Tryz.prog 71 [.c (.fz (s.map encTable))] QSel := by
  refine Draws.run mixed c_spec_l1Rd_query_ok (Nat.le_of_ble_eq_true rfl) fun σ id v code p hr hp hc hS => ?_
  have hs1 := hs.1
  have hs3 := hs.2.1
  repeat' first|refine yaG ?_|(exfalso;omega)|(refine yaS ?_ ?_<;>intro _)
  refine Go.drawn hr hp rfl rfl rfl (below_ok s.length (by omega) (by omega)) ?_
  intro r q hq hz
  obtain ⟨k, hk, rfl⟩ := below_pos (by omega) hz
  have hT := hs.2.2 _ (List.getElem_mem hk)
  have hlo := hT.lo
  have hhi := hT.hi
  have hnm := hT.b.1
  repeat' first|apply Go.seq|apply Go.skip|apply Go.region|apply Go.nil|apply Go.block|apply Go.blk|apply Go.segs|(apply Go.exit;exact rfl)|(apply Go.cond true;exact rfl)|(apply Go.cond false;exact rfl)|apply yB|apply yC|((first|apply yD|apply yE);(first|exact yF|assumption);iterate 6 exact rfl)|((first|apply yG|apply yH|apply yI);exact rfl;(first|exact yJ|exact yK rfl rfl|exact yL rfl|exact yM rfl|exact rfl|exact aL rfl rfl rfl rfl rfl|exact aS rfl rfl rfl rfl rfl rfl rfl|exact yX (enc := encTable) rfl rfl rfl hk rfl))|((first|apply yN|apply yO|apply yP);exact rfl)|(exfalso;omega)|(((first|apply yT|apply yU|apply yV|apply yW);exact rfl;(first|exact .d|exact .e|exact .n|((fail_if_success exact bqt);(fail_if_success exact bqf);exact .b)))<;>intro _)
  apply Go.draw
  refine Go.qr [(0, [z5])] rfl ?_
  repeat' first|(apply Qx.op;exact rfl;exact fun _ _ _ => rfl)
  refine Qx.drawn hr hq rfl rfl rfl (below_ok 6 (by decide) (by decide)) ?_
  rintro _ q1 hq1 ⟨mo, hm0, hm1, rfl⟩
  repeat' first|(apply Qx.op;exact rfl;exact fun _ _ _ => rfl)
  refine Qx.alloc rfl ⟨[], rfl⟩ ?_
  refine .nil ?_
  repeat' first|refine yaG ?_|(exfalso;omega)|(refine yaS ?_ ?_<;>intro _)
  refine Go.drawn hr hq1 rfl rfl rfl (below_ok 2 (by decide) (by decide)) ?_
  rintro _ q2 hq2 ⟨c, hc0, hc1, rfl⟩
  have ec : IntKind.i64.wrap (1 + c) = 1 + c := wrap64 (by omega) (by omega)
  generalize IntKind.i64.wrap (1 + mo) = mo2
  generalize hN : s[k].cols.length = N at hlo hhi
  generalize hT2 : s[k] = T at hN hnm
  have hTo : ∀ y ∈ (AV.c (.fp (encTable T))).all, Old σ.next y := fun y hy => by
    rw [List.mem_singleton.1 hy]
    exact .fp _ fun j hj => oldTables [T] _ (List.mem_singleton.2 rfl) _ (List.getElem_mem hj)
  repeat' first|refine yaG ?_|(exfalso;omega)|(refine yaS ?_ ?_<;>intro _)
  refine Go.keep [0, 4, 6, 7, 8] (Go.loops (I := fun m fr τ => ∃ (d : Int) (q : Nat) (ts : List Term) (ll : List (Nat × List (List Ce))), m = d.toNat ∧ q ≤ code.length ∧ (ts.length : Int) + d ≤ 2 ∧ 0 ≤ d ∧ (∀ t ∈ ts, TermB t) ∧ QSt σ T.name ts .nils .nils mo2 ll ∧
    fr = [(0, .c (.ptr id v 0 0)), (4, .c (.ptr (σ.next + 0) 0 0 0)), (6, .c (.int .i64 (N : Int))), (7, .c (.ptr (σ.next + 1) 0 0 0)), (8, .c (.int .i64 d))] ∧ τ = E (Rd.go σ id v code q) ll) ?_ _ _ _ ⟨1 + c, q2, [], _, rfl, hq2, by simp; omega, by omega, fun t ht => (by cases ht), .inl ⟨rfl, rfl⟩, by rw [ec, ← hN]; rfl, rfl⟩)
  rintro m fr τ ⟨d, q, ts, ll, rfl, hq, htd, hd0, htb, hQS, rfl, rfl⟩ hrec
  by_cases hd : d > 0
  · have ed : IntKind.i64.wrap (d - 1) = d - 1 := wrap64 (by omega) (by omega)
    have more : ∀ (t : Term) (q : Nat) (ll : List (Nat × List (List Ce))) (fr : Fr) (τ : Store), TermB t → q ≤ code.length → QSt σ T.name (ts ++ [t]) .nils .nils mo2 ll → fr = [(0, AV.c (.ptr id v 0 0)), (4, .c (.ptr (σ.next + 0) 0 0 0)), (6, .c (.int .i64 (N : Int))), (7, .c (.ptr (σ.next + 1) 0 0 0)), (8, .c (.int .i64 (IntKind.i64.wrap (d - 1))))] → τ = E (Rd.go σ id v code q) ll → _ := fun t q ll fr τ h1 h2 h3 h4 h5 =>
      hrec (d - 1).toNat fr τ (by omega) ⟨d - 1, q, ts ++ [t], ll, rfl, h2, by rw [List.length_append, List.length_singleton]; omega, by omega, fun x hx => by
        rcases List.mem_append.1 hx with hx | hx
        · exact htb x hx
        · rw [List.mem_singleton.1 hx]; exact h1, h3, by rw [h4, ed], h5⟩
    clear hrec
    repeat' first|refine yaG ?_|(exfalso;omega)|(refine yaS ?_ ?_<;>intro _)
    refine Go.drawn hr hq rfl rfl rfl (once_ok 3 (by decide) (by decide)) ?_
    rintro _ q3 hq3 ⟨b3, rfl⟩
    rcases hQS with ⟨rfl, rfl⟩ | ⟨u, junk, hj, rfl⟩
    · cases b3
      · repeat' first|apply Go.seq|apply Go.skip|apply Go.region|apply Go.nil|apply Go.block|apply Go.blk|apply Go.segs|(apply Go.exit;exact rfl)|(apply Go.cond true;exact rfl)|(apply Go.cond false;exact rfl)|apply yB|apply yC|((first|apply yD|apply yE);(first|exact yF|assumption);iterate 6 exact rfl)|((first|apply yG|apply yH|apply yI);exact rfl;(first|exact yJ|exact yK rfl rfl|exact yL rfl|exact yM rfl|exact rfl|exact aL rfl rfl rfl rfl rfl|exact aS rfl rfl rfl rfl rfl rfl rfl))|((first|apply yN|apply yO|apply yP);exact rfl)|(exfalso;omega)|(((first|apply yT|apply yU|apply yV|apply yW);exact rfl;(first|exact .d|exact .e|exact .n|((fail_if_success exact bqt);(fail_if_success exact bqf);exact .b)))<;>intro _)
        apply Go.draw
        refine Go.qr [(0, [z5]), (0, [[.str T.name, .nils, .nils, .nils, .int .i64 mo2]])] rfl ?_
        repeat' first|(apply Qx.op;exact rfl;(first|exact fun _ _ _ => rfl|exact aop_loadI (k := 1) rfl rfl rfl rfl rfl))
        refine Qx.drawn hr hq3 rfl rfl rfl (below_ok N (by omega) (by omega)) ?_
        rintro _ q4 hq4 ⟨a, ha0, ha1, rfl⟩
        refine Qx.pcall rfl rfl rfl (l2Col_ok a) ?_
        repeat' first|(apply Qx.op;exact rfl;exact fun _ _ _ => rfl)
        refine .nil ?_
        repeat' first|(apply yA;exact rfl)|apply yB|apply yC|((first|apply yD|apply yE);(first|exact yF|assumption);iterate 6 exact rfl)|((first|apply yG|apply yH|apply yI);exact rfl;(first|exact yJ|exact yK rfl rfl|exact yL rfl|exact yM rfl|exact aop_appNil rfl rfl (fun e he => by rw [List.mem_singleton.1 he];rfl) (by simp)|exact rfl|exact aL rfl rfl rfl rfl rfl|exact aS rfl rfl rfl rfl rfl rfl rfl))|((first|apply yN|apply yO|apply yP);exact rfl)|(exfalso;omega)|(((first|apply yT|apply yU|apply yV|apply yW);exact rfl;(first|exact .d|exact .e|exact .n|((fail_if_success exact bqt);(fail_if_success exact bqf);exact .b)))<;>intro _)
        exact Go.keep [0, 4, 6, 7, 8] (more (⟨[tCol a]⟩ : Term) q4 _ _ _ ⟨by simp, fun t ht => by rw [List.mem_singleton.1 ht]; exact Nat.zero_le _⟩ hq4 (.inr ⟨0, [], Jk.nil, rfl⟩) rfl rfl)
      · repeat' first|apply Go.seq|apply Go.skip|apply Go.region|apply Go.nil|apply Go.block|apply Go.blk|apply Go.segs|(apply Go.exit;exact rfl)|(apply Go.cond true;exact rfl)|(apply Go.cond false;exact rfl)|apply yB|apply yC|((first|apply yD|apply yE);(first|exact yF|assumption);iterate 6 exact rfl)|((first|apply yG|apply yH|apply yI);exact rfl;(first|exact yJ|exact yK rfl rfl|exact yL rfl|exact yM rfl|exact rfl|exact aL rfl rfl rfl rfl rfl|exact aS rfl rfl rfl rfl rfl rfl rfl))|((first|apply yN|apply yO|apply yP);exact rfl)|(exfalso;omega)|(((first|apply yT|apply yU|apply yV|apply yW);exact rfl;(first|exact .d|exact .e|exact .n|((fail_if_success exact bqt);(fail_if_success exact bqf);exact .b)))<;>intro _)
        apply Go.draw
        refine Go.qr [(0, [z5]), (0, [[.str T.name, .nils, .nils, .nils, .int .i64 mo2]])] rfl ?_
        repeat' first|(apply Qx.op;exact rfl;(first|exact fun _ _ _ => rfl|exact aop_loadI (k := 1) rfl rfl rfl rfl rfl))
        refine Qx.drawn hr hq3 rfl rfl rfl (expr_ok N (by omega) (by omega) 2 (by decide)) ?_
        rintro _ q4 hq4 ⟨e, he7, heb, rfl⟩
        repeat' first|(apply Qx.op;exact rfl;exact fun _ _ _ => rfl)
        refine .nil ?_
        repeat' first|(apply yA;exact rfl)|apply yB|apply yC|((first|apply yD|apply yE);(first|exact yF|assumption);iterate 6 exact rfl)|((first|apply yG|apply yH|apply yI);exact rfl;(first|exact yJ|exact yK rfl rfl|exact yL rfl|exact yM rfl|exact aop_appNil rfl rfl (fun e he => by rw [List.mem_singleton.1 he];rfl) (by simp)|exact rfl|exact aL rfl rfl rfl rfl rfl|exact aS rfl rfl rfl rfl rfl rfl rfl))|((first|apply yN|apply yO|apply yP);exact rfl)|(exfalso;omega)|(((first|apply yT|apply yU|apply yV|apply yW);exact rfl;(first|exact .d|exact .e|exact .n|((fail_if_success exact bqt);(fail_if_success exact bqf);exact .b)))<;>intro _)
        exact Go.keep [0, 4, 6, 7, 8] (more (⟨e⟩ : Term) q4 _ _ _ ⟨he7, heb⟩ hq4 (.inr ⟨0, [], Jk.nil, rfl⟩) rfl rfl)
    · have hbd : ((ts.map encTerm).length + 1) * 24 ≤ 140737488355328 := by rw [List.length_map]; omega
      cases b3
      · repeat' first|apply Go.seq|apply Go.skip|apply Go.region|apply Go.nil|apply Go.block|apply Go.blk|apply Go.segs|(apply Go.exit;exact rfl)|(apply Go.cond true;exact rfl)|(apply Go.cond false;exact rfl)|apply yB|apply yC|((first|apply yD|apply yE);(first|exact yF|assumption);iterate 6 exact rfl)|((first|apply yG|apply yH|apply yI);exact rfl;(first|exact yJ|exact yK rfl rfl|exact yL rfl|exact yM rfl|exact rfl|exact aL rfl rfl rfl rfl rfl|exact aS rfl rfl rfl rfl rfl rfl rfl))|((first|apply yN|apply yO|apply yP);exact rfl)|(exfalso;omega)|(((first|apply yT|apply yU|apply yV|apply yW);exact rfl;(first|exact .d|exact .e|exact .n|((fail_if_success exact bqt);(fail_if_success exact bqf);exact .b)))<;>intro _)
        apply Go.draw
        refine Go.qr [(0, [z5]), (0, [[.str T.name, vec (σ.next + 2) u (ts.map encTerm) junk, .nils, .nils, .int .i64 mo2]]), (u, ts.map encTerm ++ junk)] rfl ?_
        repeat' first|(apply Qx.op;exact rfl;(first|exact fun _ _ _ => rfl|exact aop_loadI (k := 1) rfl rfl rfl rfl rfl))
        refine Qx.drawn hr hq3 rfl rfl rfl (below_ok N (by omega) (by omega)) ?_
        rintro _ q4 hq4 ⟨a, ha0, ha1, rfl⟩
        refine Qx.pcall rfl rfl rfl (l2Col_ok a) ?_
        repeat' first|(apply Qx.op;exact rfl;exact fun _ _ _ => rfl)
        refine .nil ?_
        refine Go.sapp1 (k := 2) (ys := ts.map encTerm) (junk := junk) (z := encTerm (⟨[tCol a]⟩ : Term)) rfl rfl rfl rfl rfl term_len hj rfl hbd fun u' junk' hj' => ?_
        rw [show ts.map encTerm ++ [encTerm (⟨[tCol a]⟩ : Term)] = (ts ++ [(⟨[tCol a]⟩ : Term)]).map encTerm by simp]
        repeat' first|refine yaG ?_|(exfalso;omega)|(refine yaS ?_ ?_<;>intro _)
        exact Go.keep [0, 4, 6, 7, 8] (more (⟨[tCol a]⟩ : Term) q4 _ _ _ ⟨by simp, fun t ht => by rw [List.mem_singleton.1 ht]; exact Nat.zero_le _⟩ hq4 (.inr ⟨u', junk', hj', rfl⟩) rfl rfl)
      · repeat' first|apply Go.seq|apply Go.skip|apply Go.region|apply Go.nil|apply Go.block|apply Go.blk|apply Go.segs|(apply Go.exit;exact rfl)|(apply Go.cond true;exact rfl)|(apply Go.cond false;exact rfl)|apply yB|apply yC|((first|apply yD|apply yE);(first|exact yF|assumption);iterate 6 exact rfl)|((first|apply yG|apply yH|apply yI);exact rfl;(first|exact yJ|exact yK rfl rfl|exact yL rfl|exact yM rfl|exact rfl|exact aL rfl rfl rfl rfl rfl|exact aS rfl rfl rfl rfl rfl rfl rfl))|((first|apply yN|apply yO|apply yP);exact rfl)|(exfalso;omega)|(((first|apply yT|apply yU|apply yV|apply yW);exact rfl;(first|exact .d|exact .e|exact .n|((fail_if_success exact bqt);(fail_if_success exact bqf);exact .b)))<;>intro _)
        apply Go.draw
        refine Go.qr [(0, [z5]), (0, [[.str T.name, vec (σ.next + 2) u (ts.map encTerm) junk, .nils, .nils, .int .i64 mo2]]), (u, ts.map encTerm ++ junk)] rfl ?_
        repeat' first|(apply Qx.op;exact rfl;(first|exact fun _ _ _ => rfl|exact aop_loadI (k := 1) rfl rfl rfl rfl rfl))
        refine Qx.drawn hr hq3 rfl rfl rfl (expr_ok N (by omega) (by omega) 2 (by decide)) ?_
        rintro _ q4 hq4 ⟨e, he7, heb, rfl⟩
        repeat' first|(apply Qx.op;exact rfl;exact fun _ _ _ => rfl)
        refine .nil ?_
        refine Go.sapp1 (k := 2) (ys := ts.map encTerm) (junk := junk) (z := encTerm (⟨e⟩ : Term)) rfl rfl rfl rfl rfl term_len hj rfl hbd fun u' junk' hj' => ?_
        rw [show ts.map encTerm ++ [encTerm (⟨e⟩ : Term)] = (ts ++ [(⟨e⟩ : Term)]).map encTerm by simp]
        repeat' first|refine yaG ?_|(exfalso;omega)|(refine yaS ?_ ?_<;>intro _)
        exact Go.keep [0, 4, 6, 7, 8] (more (⟨e⟩ : Term) q4 _ _ _ ⟨he7, heb⟩ hq4 (.inr ⟨u', junk', hj', rfl⟩) rfl rfl)
  · clear hrec
    have hts : ts.length ≤ 2 := by omega
    repeat' first|refine yaG ?_|(exfalso;omega)|(refine yaS ?_ ?_<;>intro _)
    clear hd htd hd0
    refine Go.meet (K' := [_, _]) (fun fr τ => ∃ (q : Nat) (w : List Tok) (x2 : Ce) (ll : List (Nat × List (List Ce))), q ≤ code.length ∧ NF x2 (w.map encTok) ∧ w.length ≤ 7 ∧ (∀ t ∈ w, bTok 12 t) ∧ QSt σ T.name ts x2 .nils mo2 ll ∧
      fr = [(0, .c (.ptr id v 0 0)), (4, .c (.ptr (σ.next + 0) 0 0 0)), (6, .c (.int .i64 (N : Int))), (7, .c (.ptr (σ.next + 1) 0 0 0))] ∧ τ = E (Rd.go σ id v code q) ll) (fun K hm => ?_) ?_
    · refine Go.drawn hr hq rfl rfl rfl (once_ok 2 (by decide) (by decide)) ?_
      rintro _ q3 hq3 ⟨b3, rfl⟩
      cases b3
      · repeat' first|refine yaG ?_|(exfalso;omega)|(refine yaS ?_ ?_<;>intro _)
        exact Go.keep [0, 4, 6, 7] (hm _ _ ⟨q3, [], .nils, ll, hq3, .inr ⟨rfl, rfl⟩, by simp, fun t ht => (by cases ht), hQS, rfl, rfl⟩)
      · repeat' first|refine yaG ?_|(exfalso;omega)|(refine yaS ?_ ?_<;>intro _)
        refine Go.drawn hr hq3 rfl rfl rfl (cond_ok N (by omega) (by omega)) ?_
        rintro _ q4 hq4 ⟨w, hw, hwb, rfl⟩
        rcases hQS with ⟨rfl, rfl⟩ | ⟨u, junk, hj, rfl⟩
        · repeat' first|refine yaG ?_|(exfalso;omega)|(refine yaS ?_ ?_<;>intro _)
          exact Go.keep [0, 4, 6, 7] (hm _ _ ⟨q4, w, _, _, hq4, .inl rfl, hw, hwb, .inl ⟨rfl, rfl⟩, rfl, rfl⟩)
        · repeat' first|refine yaG ?_|(exfalso;omega)|(refine yaS ?_ ?_<;>intro _)
          exact Go.keep [0, 4, 6, 7] (hm _ _ ⟨q4, w, _, _, hq4, .inl rfl, hw, hwb, .inr ⟨u, junk, hj, rfl⟩, rfl, rfl⟩)
    clear hQS hq
    clear q ll
    rintro fr τ ⟨q, w, x2, ll, hq, h2, hw, hwb, hQS, rfl, rfl⟩
    repeat' first|refine yaG ?_|(exfalso;omega)|(refine yaS ?_ ?_<;>intro _)
    refine Go.meet (K' := [_, _]) (fun fr τ => ∃ (q : Nat) (by_ : List Int) (x3 : Ce) (ll : List (Nat × List (List Ce))), q ≤ code.length ∧ NF x3 (by_.map encI) ∧ by_.length ≤ 7 ∧ QSt σ T.name ts x2 x3 mo2 ll ∧
      fr = [(0, .c (.ptr id v 0 0)), (4, .c (.ptr (σ.next + 0) 0 0 0)), (7, .c (.ptr (σ.next + 1) 0 0 0))] ∧ τ = E (Rd.go σ id v code q) ll) (fun K hm => ?_) ?_
    · refine Go.drawn hr hq rfl rfl rfl (once_ok 3 (by decide) (by decide)) ?_
      rintro _ q3 hq3 ⟨b3, rfl⟩
      cases b3
      · repeat' first|refine yaG ?_|(exfalso;omega)|(refine yaS ?_ ?_<;>intro _)
        refine Go.drawn hr hq3 rfl rfl rfl (below_ok N (by omega) (by omega)) ?_
        rintro _ q4 hq4 ⟨a, ha0, ha1, rfl⟩
        rcases hQS with ⟨rfl, rfl⟩ | ⟨u, junk, hj, rfl⟩
        · repeat' first|refine yaG ?_|(exfalso;omega)|(refine yaS ?_ ?_<;>intro _)
          exact Go.keep [0, 4, 7] (hm _ _ ⟨q4, [a], _, _, hq4, .inl rfl, by simp, .inl ⟨rfl, rfl⟩, rfl, rfl⟩)
        · repeat' first|refine yaG ?_|(exfalso;omega)|(refine yaS ?_ ?_<;>intro _)
          exact Go.keep [0, 4, 7] (hm _ _ ⟨q4, [a], _, _, hq4, .inl rfl, by simp, .inr ⟨u, junk, hj, rfl⟩, rfl, rfl⟩)
      · repeat' first|refine yaG ?_|(exfalso;omega)|(refine yaS ?_ ?_<;>intro _)
        exact Go.keep [0, 4, 7] (hm _ _ ⟨q3, [], .nils, ll, hq3, .inr ⟨rfl, rfl⟩, by simp, hQS, rfl, rfl⟩)
    clear hQS hq
    clear q ll
    rintro fr τ ⟨q, by_, x3, ll, hq, h3, hby, hQS, rfl, rfl⟩
    repeat' first|refine yaG ?_|(exfalso;omega)|(refine yaS ?_ ?_<;>intro _)
    refine Go.meet (K' := [_, _]) (fun fr τ => ∃ (q : Nat) (mo : Int) (ll : List (Nat × List (List Ce))), q ≤ code.length ∧ QSt σ T.name ts x2 x3 mo ll ∧
      fr = [(4, .c (.ptr (σ.next + 0) 0 0 0)), (7, .c (.ptr (σ.next + 1) 0 0 0))] ∧ τ = E (Rd.go σ id v code q) ll) (fun K hm => ?_) ?_
    · refine Go.drawn hr hq rfl rfl rfl (once_ok 30 (by decide) (by decide)) ?_
      rintro _ q3 hq3 ⟨b3, rfl⟩
      cases b3
      · repeat' first|refine yaG ?_|(exfalso;omega)|(refine yaS ?_ ?_<;>intro _)
        exact Go.keep [4, 7] (hm _ _ ⟨q3, mo2, ll, hq3, hQS, rfl, rfl⟩)
      · repeat' first|refine yaG ?_|(exfalso;omega)|(refine yaS ?_ ?_<;>intro _)
        refine Go.drawn hr hq3 rfl rfl rfl (off_ok 0 60 (by decide) (by decide) (by decide) (by decide)) ?_
        rintro _ q4 hq4 ⟨a, rfl⟩
        rcases hQS with ⟨rfl, rfl⟩ | ⟨u, junk, hj, rfl⟩
        · repeat' first|refine yaG ?_|(exfalso;omega)|(refine yaS ?_ ?_<;>intro _)
          exact Go.keep [4, 7] (hm _ _ ⟨q4, a, _, hq4, .inl ⟨rfl, rfl⟩, rfl, rfl⟩)
        · repeat' first|refine yaG ?_|(exfalso;omega)|(refine yaS ?_ ?_<;>intro _)
          exact Go.keep [4, 7] (hm _ _ ⟨q4, a, _, hq4, .inr ⟨u, junk, hj, rfl⟩, rfl, rfl⟩)
    clear hQS hq
    clear q ll
    rintro fr τ ⟨q, mo, ll, hq, hQS, rfl, rfl⟩
    have hsel : bSel 34359738368 ⟨T.name, ts, w, by_, mo⟩ := ⟨by show T.name.length ≤ _; omega, ⟨by show ts.length ≤ _; omega, fun t ht => ⟨by have := (htb t ht).1; omega, fun x hx => tok_b34 ((htb t ht).2 x hx)⟩⟩, ⟨by show w.length ≤ _; omega, fun t ht => tok_b34 (hwb t ht)⟩, by show by_.length ≤ _; omega⟩
    rcases hQS with ⟨rfl, rfl⟩ | ⟨u, junk, hj, rfl⟩
    · repeat' first|refine yaG ?_|(exfalso;omega)|(refine yaS ?_ ?_<;>intro _)
      refine .ret (retv_m (k := 0) (x := .agg [.str T.name, .nils, x2, x3, .int .i64 mo]) rfl rfl rfl (Nat.zero_le _) rfl) (.f hq ⟨⟨T.name, [], w, by_, mo⟩, hsel, rfl⟩ (.agg rfl fun i hi => ?_))
      have hi5 : i < 5 := hi
      have : i = 0 ∨ i = 1 ∨ i = 2 ∨ i = 3 ∨ i = 4 := by omega
      rcases this with rfl | rfl | rfl | rfl | rfl
      · exact .same _ (.str _)
      · exact .nil
      · exact h2.frz (oldL_flat flatTs)
      · exact h3.frz (oldInts _)
      · exact .same _ (.int _ _)
    · repeat' first|refine yaG ?_|(exfalso;omega)|(refine yaS ?_ ?_<;>intro _)
      refine .ret (retv_m (k := 0) (x := .agg [.str T.name, vec (σ.next + 2) u (ts.map encTerm) junk, x2, x3, .int .i64 mo]) rfl rfl rfl (Nat.zero_le _) rfl) (.f hq ⟨⟨T.name, ts, w, by_, mo⟩, hsel, rfl⟩ (.agg rfl fun i hi => ?_))
      have hi5 : i < 5 := hi
      have : i = 0 ∨ i = 1 ∨ i = 2 ∨ i = 3 ∨ i = 4 := by omega
      rcases this with rfl | rfl | rfl | rfl | rfl
      · exact .same _ (.str _)
      · have hz := frz_old (σ := Rd.go σ id v code q) (l := [(0, [[.str T.name, vec (σ.next + 2) u (ts.map encTerm) junk, x2, x3, .int .i64 mo]]), (0, [[.str T.name, vec (σ.next + 2) u (ts.map encTerm) junk, x2, x3, .int .i64 mo]]), (u, ts.map encTerm ++ junk)]) (k := 2) (v := u) (N := σ.next) (ys := ts.map encTerm) (junk := junk) rfl (oldTerms _) (Nat.le_add_right _ _)
        cases hz with
        | c h => exact h
      · exact h2.frz (oldL_flat flatTs)
      · exact h3.frz (oldInts _)
      · exact .same _ (.int _ _)
end Go.Proofs.YtinbdedlmkjokaaGreat.Am

/- Drawn arguments: of RunSelect. -/
set_option linter.unusedVariables false
set_option linter.unusedSimpArgs false
namespace Go.Proofs.YtinbdedlmkjokaaGreat.Am

def DrawQ (r : AV) : Prop := ∃ (s : List Table) (db : List Data) (q : Sel), SchD s ∧ (dbF s db = true ∨ db = []) ∧ bSel 34359738368 q ∧ r = .tup [.c (.fz (s.map encTable)), .c (.fz (db.map encData)), .agg (encSel q)]
theorem DrawRunSelect_ok (code : List UInt8) (hc : code.length ≤ 1048576) : Told Tryz.prog 22 [.c (.fz (code.map encB))] DrawQ := by
  refine Told.run mixed c_spec_DrawRunSelect_ok (Nat.le_of_ble_eq_true rfl) fun σ hS => ?_
  clear hS
  repeat' first|refine yaN ?_|(exfalso;omega)|(refine yaS ?_ ?_<;>intro _)
  refine .call _ rfl rfl rfl (l1Open_ok code (E σ [(0, [z5])])) ?_
  rintro r τ ⟨rfl, rfl⟩
  rw [rd_opened hc]
  have hr := rd_open (σ := E σ [(0, [z5])]) hc
  repeat' first|refine yaN ?_|(exfalso;omega)|(refine yaS ?_ ?_<;>intro _)
  refine Go.drawn hr (Nat.zero_le _) rfl rfl rfl schema_ok ?_
  rintro _ q hq ⟨s, hs, rfl⟩
  repeat' first|refine yaN ?_|(exfalso;omega)|(refine yaS ?_ ?_<;>intro _)
  refine Go.drawn hr hq rfl rfl rfl (base_ok s 6 (by decide) (by decide) hs) ?_
  rintro _ q2 hq2 ⟨db, hd, rfl⟩
  repeat' first|refine yaN ?_|(exfalso;omega)|(refine yaS ?_ ?_<;>intro _)
  refine Go.drawn hr hq2 rfl rfl rfl (query_ok s hs) ?_
  rintro _ q3 hq3 ⟨sel, hsel, rfl⟩
  rw [rd_close2, show E (E σ [(0, [z5])]) [(0, rdB code q3)] = E σ [(0, [z5]), (0, rdB code q3)] by rw [E_E]; rfl]
  repeat' first|refine yaN ?_|(exfalso;omega)|(refine yaS ?_ ?_<;>intro _)
  refine .ret (retv_ttm (k2 := 0) (x0 := .c (.fz (s.map encTable))) (x1 := .c (.fz (db.map encData))) (x2 := .agg (encSel sel)) rfl rfl rfl rfl rfl (Nat.zero_le _) rfl) ⟨_, ⟨s, db, sel, hs, hd, hsel, rfl⟩, _, rfl, .tup rfl fun i hi => ?_⟩
  have : i = 0 ∨ i = 1 ∨ i = 2 := by simp at hi; omega
  rcases this with rfl | rfl | rfl
  · exact .c (.same _ (old_fz1 (oldTables _)))
  · exact .c (.same _ (old_fz1 (oldDatas _)))
  · exact .refl (old_selA sel)
end Go.Proofs.YtinbdedlmkjokaaGreat.Am

/- Queries: the order of rows. -/
set_option linter.unusedVariables false
set_option linter.unusedSimpArgs false
namespace Go.Proofs.YtinbdedlmkjokaaGreat.Am

def rowOrd (by_ : List Int) (r s : RowD) : Int := orI [orderOf (keyF by_ r.vals) (keyF by_ s.vals), cmpI r.id s.id]
theorem runSelect2_ok (q : Sel) (r s : RowD) (hb : q.by_.length ≤ 34359738368) (h1 : InR q.by_ r.vals.length) (h2 : InR q.by_ s.vals.length) : Pure Tryz.prog 79 [.agg (encRowD r), .agg (encRowD s), .c (.fp (encSel q))] (.c (.int .i64 (rowOrd q.by_ r s))) := by
  refine Pure.run mixed c_impl_RunSelect_2_ok (Nat.le_of_ble_eq_true rfl) fun σ hS hA => ?_
  clear hS hA
  have c1 := keyOf_ok q.by_ r.vals hb h1
  have c2 := keyOf_ok q.by_ s.vals hb h2
  have c3 := orderOf_ok (keyF q.by_ r.vals) (keyF q.by_ s.vals) (by rw [keyF_len]; exact hb) (by rw [keyF_len, keyF_len])
  repeat' first|refine yaG ?_|refine yaC (c1) ?_|refine yaC (c2) ?_|refine yaC (c3) ?_|refine yaC (Compare_ok _ _) ?_|refine yaC (Or_ok [orderOf (keyF q.by_ r.vals) (keyF q.by_ s.vals), cmpI r.id s.id] (by simp)) ?_|(exfalso;omega)|(refine yaS ?_ ?_<;>intro _)
  exact .ret rfl (.int rfl)
end Go.Proofs.YtinbdedlmkjokaaGreat.Am

/- Queries: the reference's order of rows. -/
set_option linter.unusedVariables false
set_option linter.unusedSimpArgs false
namespace Go.Proofs.YtinbdedlmkjokaaGreat.Am

def lessBy (a b : List Val) : List Int → Bool
  | [] => false
  | c :: r => if l1Ord (valAt a c) (valAt b c) = 0 then lessBy a b r else decide (l1Ord (valAt a c) (valAt b c) < 0)
theorem l10Less_ok (by_ : List Int) (a b : List Val) (hx : by_.length ≤ 34359738368) (h1 : InR by_ a.length) (h2 : InR by_ b.length) : Pure Tryz.prog 90 [.c (.fz (by_.map encI)), .c (.fz (a.map encV)), .c (.fz (b.map encV))] (.c (.bool (lessBy a b by_))) := by
  refine Pure.run mixed c_spec_l10Less_ok (Nat.le_of_ble_eq_true rfl) fun σ hS hA => ?_
  clear hS hA
  repeat' first|refine yaG ?_|(exfalso;omega)|(refine yaS ?_ ?_<;>intro _)
  refine Go.keep [0, 1, 2, 7] (Go.loops (I := fun m fr τ => ∃ (i : Nat) (k : Int), m = by_.length - i ∧ i ≤ by_.length ∧ k = i ∧ lessBy a b by_ = lessBy a b (by_.drop i) ∧
    fr = [(0, .c (.fz (by_.map encI))), (1, .c (.fz (a.map encV))), (2, .c (.fz (b.map encV))), (7, .c (.int .i64 k))] ∧ τ = E σ []) ?_ _ _ _ ⟨0, _, rfl, Nat.zero_le _, rfl, rfl, rfl, rfl⟩)
  rintro m fr τ ⟨i, k, rfl, hi, hk, hs, rfl, rfl⟩ hrec
  by_cases hlt : i < by_.length
  · obtain ⟨q1, q2⟩ := h1 _ (List.getElem_mem hlt)
    obtain ⟨_, q3⟩ := h2 _ (List.getElem_mem hlt)
    have hc : by_[i] = (by_[i].toNat : Int) := by omega
    have ha : by_[i].toNat < a.length := by omega
    have hb : by_[i].toNat < b.length := by omega
    rw [List.drop_eq_getElem_cons hlt, lessBy, valAt_eq ha, valAt_eq hb] at hs
    have c1 := l1Order_ok a[by_[i].toNat] b[by_[i].toNat]
    generalize l1Ord a[by_[i].toNat] b[by_[i].toNat] = o at c1 hs
    by_cases h0 : o = 0
    · rw [if_pos h0] at hs
      repeat' first|refine yaG ?_|((first|apply yG|apply yH|apply yI);exact rfl;(first|exact yX (enc := encI) rfl rfl hk hlt rfl|exact yX (enc := encV) rfl rfl hc ha rfl|exact yX (enc := encV) rfl rfl hc hb rfl))|refine yaC (c1) ?_|(exfalso;omega)|(refine yaS ?_ ?_<;>intro _)
      all_goals first
        | exact Go.keep [0, 1, 2, 7] (hrec _ _ _ (by omega) ⟨i + 1, _, rfl, hlt, wrap_succ hk (by omega), hs, rfl, rfl⟩)
        | (exfalso; simp_all; done)
    · rw [if_neg h0] at hs
      repeat' first|refine yaG ?_|((first|apply yG|apply yH|apply yI);exact rfl;(first|exact yX (enc := encI) rfl rfl hk hlt rfl|exact yX (enc := encV) rfl rfl hc ha rfl|exact yX (enc := encV) rfl rfl hc hb rfl))|refine yaC (c1) ?_|(exfalso;omega)|(refine yaS ?_ ?_<;>intro _)
      all_goals first
        | exact .ret rfl (.bool hs.symm)
        | (exfalso; simp_all; done)
  · repeat' first|refine yaG ?_|(exfalso;omega)|(refine yaS ?_ ?_<;>intro _)
    rw [List.drop_eq_nil_of_le (by omega), lessBy] at hs
    exact .ret rfl (.bool hs.symm)
end Go.Proofs.YtinbdedlmkjokaaGreat.Am

/- The order of entries; an index without one of its entries. Plain laws. -/
set_option linter.unusedVariables false
set_option linter.unusedSimpArgs false
namespace Go.Proofs.YtinbdedlmkjokaaGreat.Am

/-- A three-way order among those that are R. -/
structure Cmp {α : Type} (R : α → Prop) (c : α → α → Int) : Prop where
  refl : ∀ a, R a → c a a = 0
  eq : ∀ a b, R a → R b → c a b = 0 → a = b
  flip : ∀ a b, R a → R b → (c a b < 0 ↔ 0 < c b a)
  trans : ∀ a b d, R a → R b → R d → c a b < 0 → c b d < 0 → c a d < 0
theorem Cmp.lex {α β γ : Type} {R : γ → Prop} {f : γ → α} {g : γ → β} {c : α → α → Int} {d : β → β → Int} {Rα : α → Prop} {Rβ : β → Prop} (hc : Cmp Rα c) (hd : Cmp Rβ d) (h1 : ∀ x, R x → Rα (f x)) (h2 : ∀ x, R x → Rβ (g x)) (inj : ∀ x y, f x = f y → g x = g y → x = y) {e : γ → γ → Int} (he : ∀ x y, e x y = if c (f x) (f y) = 0 then d (g x) (g y) else c (f x) (f y)) : Cmp R e := by
  refine ⟨fun a ha => ?_, fun a b ha hb h => ?_, fun a b ha hb => ?_, fun a b x ha hb hx p q => ?_⟩
  · rw [he, hc.refl _ (h1 a ha), if_pos rfl, hd.refl _ (h2 a ha)]
  · rw [he] at h
    split at h
    · rename_i h0
      exact inj a b (hc.eq _ _ (h1 a ha) (h1 b hb) h0) (hd.eq _ _ (h2 a ha) (h2 b hb) h)
    · contradiction
  · have f1 := hc.flip _ _ (h1 a ha) (h1 b hb)
    have f2 := hc.flip _ _ (h1 b hb) (h1 a ha)
    have f3 := hd.flip _ _ (h2 a ha) (h2 b hb)
    rw [he, he]
    split <;> split <;> omega
  · rw [he] at p q ⊢
    split at p
    · rename_i e1
      have e1' := hc.eq _ _ (h1 a ha) (h1 b hb) e1
      rw [e1']
      split at q
      · rename_i e2
        rw [if_pos e2]
        exact hd.trans _ _ _ (h2 a ha) (h2 b hb) (h2 x hx) p q
      · rename_i e2
        rw [if_neg e2]
        exact q
    · rename_i e1
      split at q
      · rename_i e2
        have e2' := hc.eq _ _ (h1 b hb) (h1 x hx) e2
        rw [← e2', if_neg e1]
        exact p
      · have := hc.trans _ _ _ (h1 a ha) (h1 b hb) (h1 x hx) p q
        rw [if_neg (by omega)]
        exact this
theorem cmpI_cmp : Cmp (fun _ => True) cmpI := by
  refine ⟨fun a _ => ?_, fun a b _ _ h => ?_, fun a b _ _ => ?_, fun a b d _ _ _ h k => ?_⟩ <;> simp only [cmpI] at *
  · simp
  · split at h
    · omega
    · split at h <;> omega
  · split <;> split <;> (try split) <;> (try split) <;> omega
  · split at h <;> split at k <;> (try split at h) <;> (try split at k) <;> (try omega)
theorem bytesLt_trans : ∀ {a b d : List UInt8}, bytesLt a b = true → bytesLt b d = true → bytesLt a d = true
  | [], [], _, h, _ => by simp [bytesLt, Op.bytesLess] at h
  | [], _ :: _, [], _, k => by simp [bytesLt, Op.bytesLess] at k
  | [], _ :: _, _ :: _, _, _ => by simp [bytesLt, Op.bytesLess]
  | _ :: _, [], _, h, _ => by simp [bytesLt, Op.bytesLess] at h
  | _ :: _, _ :: _, [], _, k => by simp [bytesLt, Op.bytesLess] at k
  | x :: a, y :: b, z :: d, h, k => by
    have ih := @bytesLt_trans a b d
    simp only [bytesLt, Op.bytesLess, Bool.or_eq_true, Bool.and_eq_true, decide_eq_true_eq, beq_iff_eq] at h k ih ⊢
    rcases h with h | ⟨rfl, h⟩ <;> rcases k with k | ⟨rfl, k⟩
    · exact .inl (UInt8.lt_trans h k)
    · exact .inl h
    · exact .inl k
    · exact .inr ⟨rfl, ih h k⟩
theorem cmpS_cmp : Cmp (fun _ => True) cmpS := by
  refine ⟨fun a _ => ?_, fun a b _ _ h => ?_, fun a b _ _ => ?_, fun a b d _ _ _ h k => ?_⟩
  · simp [cmpS, bytesLt_irrefl]
  · simp only [cmpS] at h
    split at h
    · omega
    · split at h
      · rename_i h8; exact beq_iff_eq.1 h8
      · omega
  · have h1 := bytesLt_cases a b
    simp only [cmpS, h1]
    cases h2 : bytesLt a b <;> by_cases e : a = b
    · subst e; simp
    · have e' : ¬ b = a := fun h => e h.symm
      simp [e]
    · subst e; rw [bytesLt_irrefl] at h2; cases h2
    · have e' : ¬ b = a := fun h => e h.symm
      simp [e, e']
  · have key : ∀ {x y : List UInt8}, cmpS x y < 0 ↔ bytesLt x y = true := by
      intro x y
      simp only [cmpS]
      split
      · simp_all
      · split <;> simp_all
    rw [key] at *
    exact bytesLt_trans h k
theorem order_cmp : Cmp (fun _ : Val => True) order := by
  have h2 : Cmp (fun _ : Int × List UInt8 => True) (fun p q => if cmpI p.1 q.1 = 0 then cmpS p.2 q.2 else cmpI p.1 q.1) := Cmp.lex (f := Prod.fst) (g := Prod.snd) cmpI_cmp cmpS_cmp (fun _ _ => trivial) (fun _ _ => trivial) (fun _ _ h k => Prod.ext h k) (fun _ _ => rfl)
  refine Cmp.lex (f := Val.k) (g := fun v => (v.n, v.s)) cmpI_cmp h2 (fun _ _ => trivial) (fun _ _ => trivial) (fun x y h k => ?_) (fun x y => ?_)
  · obtain ⟨a, b, c⟩ := x
    obtain ⟨a', b', c'⟩ := y
    simp_all
  · simp only [order, orI]
    split
    · split
      · split <;> simp_all
      · rfl
    · rfl
theorem orderOf_cmp : ∀ n, Cmp (fun l : List Val => l.length = n) orderOf
  | 0 => ⟨fun a h => by rw [List.eq_nil_of_length_eq_zero h]; rfl, fun a b h k _ => by rw [List.eq_nil_of_length_eq_zero h, List.eq_nil_of_length_eq_zero k], fun a b h k => by rw [List.eq_nil_of_length_eq_zero h, List.eq_nil_of_length_eq_zero k]; simp [orderOf], fun a b d h k _ p => by rw [List.eq_nil_of_length_eq_zero h, List.eq_nil_of_length_eq_zero k] at p; simp [orderOf] at p⟩
  | n + 1 => by
    have ih := orderOf_cmp n
    have key : Cmp (fun p : Val × List Val => p.2.length = n) (fun p q => if order p.1 q.1 = 0 then orderOf p.2 q.2 else order p.1 q.1) := Cmp.lex (f := Prod.fst) (g := Prod.snd) order_cmp ih (fun _ _ => trivial) (fun _ h => h) (fun _ _ h k => Prod.ext h k) (fun _ _ => rfl)
    have cons : ∀ {a : List Val}, a.length = n + 1 → ∃ v r, a = v :: r ∧ r.length = n := by
      intro a h
      cases a with
      | nil => simp at h
      | cons v r => exact ⟨v, r, rfl, by simpa using h⟩
    refine ⟨fun a h => ?_, fun a b h k e => ?_, fun a b h k => ?_, fun a b d h k l p q => ?_⟩
    · obtain ⟨v, r, rfl, hr⟩ := cons h
      exact key.refl (v, r) hr
    · obtain ⟨v, r, rfl, hr⟩ := cons h
      obtain ⟨w, s, rfl, hs⟩ := cons k
      have := key.eq (v, r) (w, s) hr hs e
      injection this with h1 h2
      rw [h1, h2]
    · obtain ⟨v, r, rfl, hr⟩ := cons h
      obtain ⟨w, s, rfl, hs⟩ := cons k
      exact key.flip (v, r) (w, s) hr hs
    · obtain ⟨v, r, rfl, hr⟩ := cons h
      obtain ⟨w, s, rfl, hs⟩ := cons k
      obtain ⟨u, t, rfl, ht⟩ := cons l
      exact key.trans (v, r) (w, s) (u, t) hr hs ht p q
theorem entOrd_cmp (n : Nat) : Cmp (fun e : Entry => e.key.length = n) entOrd := by
  refine Cmp.lex (f := Entry.key) (g := Entry.id) (orderOf_cmp n) cmpI_cmp (fun _ h => h) (fun _ _ => trivial) (fun x y h k => ?_) (fun x y => ?_)
  · obtain ⟨a, b⟩ := x
    obtain ⟨a', b'⟩ := y
    simp_all
  · simp only [entOrd, orI]
    split
    · split <;> simp_all
    · rfl
/-- An index without an entry. -/
def without (l : List Entry) (e : Entry) : List Entry := l.filter fun x => !(x == e)
end Go.Proofs.YtinbdedlmkjokaaGreat.Am

/- Sorting in place, once for all element types: swaps, rotations. -/
set_option linter.unusedVariables false
set_option linter.unusedSimpArgs false
namespace Go.Proofs.YtinbdedlmkjokaaGreat.Am

/-- The store whose block id holds a list's elements. -/
structure Fam (α : Type) where
  σ : Store
  id : Nat
  v : Nat
  ce : α → List Ce
  junk : List (List Ce)
  two : ∀ x, (ce x).length = 2
def Fam.S {α : Type} (F : Fam α) (l : List α) : Store := F.σ.put F.id (F.v, l.map F.ce ++ F.junk)
section
variable {α : Type} {F : Fam α}
theorem Fam.get (l : List α) : (F.S l).get F.id = some (F.v, l.map F.ce ++ F.junk) := if_pos rfl
theorem Fam.put (l l' : List α) : (F.S l).put F.id (F.v, l'.map F.ce ++ F.junk) = F.S l' := by
  simp only [Fam.S, Store.put]
  congr 1
  funext a
  split <;> rfl
theorem aop_si {fr : Fr} {l : List α} {x y : Opd} {kd : IntKind} {z : Int} {m c i : Nat} (hx : x.ev fr = some (.c (.sl F.id F.v 0 m c))) (hy : y.ev fr = some (.c (.int kd z))) (hz : z = (i : Int)) (hm : m = l.length) (hi : i < l.length) :
    aop (.iaddr 2 x y) fr (F.S l) = some (.c (.ptr F.id F.v i 0), F.S l) := by
  have := aop_iaddrO (s := 2) hx hy hz (by omega) (F.get l) (e := F.ce l[i]) (by rw [Nat.zero_add, List.getElem?_append_left (by simpa using hi)]; simp [hi]) (F.two _)
  rw [Nat.zero_add] at this
  exact this
theorem aop_sl {fr : Fr} {l : List α} {a : Opd} {i : Nat} (ha : a.ev fr = some (.c (.ptr F.id F.v i 0))) (hi : i < l.length) : aop (.load true 2 a) fr (F.S l) = some (.agg (F.ce l[i]), F.S l) := by
  have he : (l.map F.ce ++ F.junk)[i]? = some (F.ce l[i]) := by rw [List.getElem?_append_left (by simpa using hi)]; simp [hi]
  have h2 := F.two l[i]
  simp only [aop, ha, Store.at_, F.get l, he, if_true, Option.bind_some, Nat.zero_le, List.drop_zero, takeA, h2, Nat.le_refl]
  have : (F.ce l[i]).take 2 = F.ce l[i] := List.take_of_length_le (by omega)
  rw [this]
  rfl
theorem aop_ss {fr : Fr} {l : List α} {a y : Opd} {i : Nat} {x : α} (ha : a.ev fr = some (.c (.ptr F.id F.v i 0))) (hy : y.ev fr = some (.agg (F.ce x))) (hi : i < l.length) : aop (.store 2 a y) fr (F.S l) = some (.un, F.S (l.set i x)) := by
  have he : (l.map F.ce ++ F.junk)[i]? = some (F.ce l[i]) := by rw [List.getElem?_append_left (by simpa using hi)]; simp [hi]
  have h2 := F.two l[i]
  have h3 := F.two x
  have hs : (l.map F.ce ++ F.junk).set i (splice (F.ce l[i]) 0 (F.ce x)) = (l.set i x).map F.ce ++ F.junk := by
    have : splice (F.ce l[i]) 0 (F.ce x) = F.ce x := by
      rw [splice, List.take_zero, List.nil_append, List.drop_eq_nil_of_le (by omega), List.append_nil]
    rw [this, List.set_append_left _ _ (by simpa using hi), List.map_set]
  have h4 : ∀ q : Store × AV, True := fun _ => trivial
  simp only [aop, ha, hy, AV.cells, Option.bind_some, F.get l, he, if_true, h2, h3, Nat.zero_add, Nat.le_refl, and_self, hs]
  rw [F.put]
end
def sw {α : Type} (l : List α) (i j : Nat) : List α := match l[i]?, l[j]? with
  | some x, some y => (l.set i y).set j x
  | _, _ => l
theorem sw_eq {α : Type} {l : List α} {i j : Nat} (hi : i < l.length) (hj : j < l.length) : sw l i j = (l.set i l[j]).set j l[i] := by
  rw [sw, List.getElem?_eq_getElem hi, List.getElem?_eq_getElem hj]
theorem sw_len {α : Type} {l : List α} {i j : Nat} : (sw l i j).length = l.length := by
  rw [sw]
  split <;> simp
/-- swapRange -/
def swR {α : Type} (a b : Nat) : Nat → Nat → List α → List α
  | 0, _, l => l
  | n + 1, i, l => swR a b n (i + 1) (sw l (a + i) (b + i))
theorem swR_len {α : Type} {a b : Nat} : ∀ {n i : Nat} {l : List α}, (swR a b n i l).length = l.length
  | 0, _, l => rfl
  | n + 1, i, l => by rw [swR, swR_len, sw_len]
theorem swapRange_ok {P : Program} (hm : P.follows .mixedOrders = true) {fz : List Nat} {n : Nat} (hc : compFn P fz n = some c_slices_swapRangeCmpFunc_Row) {α : Type} (F : Fam α) (l : List α) (a b k c : Nat) (za zb zk : Int) (ha : za = a) (hb : zb = b) (hk : zk = k) (f : Ce) (h1 : a + k ≤ l.length) (h2 : b + k ≤ l.length) (hx : l.length ≤ 34359738368) :
    Ok P n [.c (.sl F.id F.v 0 l.length c), .c (.int .i64 za), .c (.int .i64 zb), .c (.int .i64 zk), .c f] (F.S l) (fun r τ => r = .tup [] ∧ τ = F.S (swR a b k 0 l)) := by
  refine .of_go hm hc (Nat.le_of_ble_eq_true rfl) ?_
  repeat' first|refine yaG ?_|(exfalso;omega)|(refine yaS ?_ ?_<;>intro _)
  refine Go.keep [0, 1, 2, 3, 10] (Go.loops (I := fun m fr τ => ∃ (i : Nat) (z : Int) (q : List α), m = k - i ∧ i ≤ k ∧ z = i ∧ q.length = l.length ∧ swR a b k 0 l = swR a b (k - i) i q ∧
    fr = [(0, .c (.sl F.id F.v 0 l.length c)), (1, .c (.int .i64 za)), (2, .c (.int .i64 zb)), (3, .c (.int .i64 zk)), (10, .c (.int .i64 z))] ∧ τ = F.S q) ?_ _ _ _ ⟨0, _, l, rfl, Nat.zero_le _, rfl, rfl, rfl, rfl, rfl⟩)
  rintro m fr τ ⟨i, z, q, rfl, hi, hz, hql, hsw, rfl, rfl⟩ hrec
  by_cases hlt : i < k
  · have ei : IntKind.i64.wrap (za + z) = ((a + i : Nat) : Int) := by rw [wrap64 (by omega) (by omega)]; omega
    have ej : IntKind.i64.wrap (zb + z) = ((b + i : Nat) : Int) := by rw [wrap64 (by omega) (by omega)]; omega
    have hi1 : a + i < q.length := by omega
    have hj1 : b + i < q.length := by omega
    rw [show k - i = (k - (i + 1)) + 1 by omega, swR, sw_eq hi1 hj1] at hsw
    repeat' first|(apply yA;exact rfl)|apply yC|((first|apply yD|apply yE);(first|exact yF|assumption);iterate 6 exact rfl)|((first|apply yG|apply yH|apply yI);exact rfl;(first|exact yJ|exact yK rfl rfl|exact yL rfl|exact yM rfl|exact rfl|exact aL rfl rfl rfl rfl rfl|exact aS rfl rfl rfl rfl rfl rfl rfl))|((first|apply yN|apply yO|apply yP);exact rfl)|(exfalso;omega)|(((first|apply yT|apply yU|apply yV|apply yW);exact rfl;(first|exact .d|exact .e|exact .n|((fail_if_success exact bqt);(fail_if_success exact bqf);exact .b)))<;>intro _)
    refine Go.qw (fun F' τ => Go P (F.S l).next _ _ _ (.segs _ :: _) F' τ) ?_ fun _ _ h => h
    repeat' first|(apply Qw.op;exact rfl;exact fun _ => rfl)|(apply Qw.rd;exact rfl;exact rfl;first|exact aop_si rfl rfl ei hql.symm hi1|exact aop_si rfl rfl ej hql.symm hj1|exact aop_sl rfl hi1|exact aop_sl rfl hj1)|(apply Qw.wr;exact rfl;exact rfl;exact aop_ss rfl rfl hi1)|apply Qw.nil
    repeat' first|refine yaG ?_|((first|apply yG|apply yH|apply yI);exact rfl;(first|exact aop_si rfl rfl ej (by rw [List.length_set];exact hql.symm) (by rw [List.length_set];exact hj1)|exact aop_ss rfl rfl (by rw [List.length_set];exact hj1)))|(exfalso;omega)|(refine yaS ?_ ?_<;>intro _)
    refine Go.keep [0, 1, 2, 3, 10] (hrec _ _ _ (by omega) ⟨i + 1, _, _, rfl, hlt, wrap_succ hz (by omega), ?_, hsw, rfl, rfl⟩)
    simp [hql]
  · repeat' first|refine yaG ?_|(exfalso;omega)|(refine yaS ?_ ?_<;>intro _)
    rw [show k - i = 0 by omega, swR] at hsw
    exact .fin rfl ⟨rfl, by rw [hsw]⟩
end Go.Proofs.YtinbdedlmkjokaaGreat.Am

/- Sorting in place: rotations, insertion. -/
set_option linter.unusedVariables false
set_option linter.unusedSimpArgs false
namespace Go.Proofs.YtinbdedlmkjokaaGreat.Am

theorem sw_mem {α : Type} {l : List α} {i j : Nat} {x : α} (h : x ∈ sw l i j) : x ∈ l := by
  rw [sw] at h
  split at h
  · rename_i a b ha hb
    rcases List.mem_or_eq_of_mem_set h with h | rfl
    · rcases List.mem_or_eq_of_mem_set h with h | rfl
      · exact h
      · exact List.mem_of_getElem? hb
    · exact List.mem_of_getElem? ha
  · exact h
theorem swR_mem {α : Type} {a b : Nat} {x : α} : ∀ {n i : Nat} {l : List α}, x ∈ swR a b n i l → x ∈ l
  | 0, _, l, h => h
  | n + 1, i, l, h => sw_mem (swR_mem (by rwa [swR] at h))
def rot {α : Type} (m : Nat) : Nat → Nat → Nat → List α → List α
  | 0, _, _, l => l
  | n + 1, i, j, l => if i = j then swR (m - i) m i 0 l else if j < i then rot m n (i - j) j (swR (m - i) m j 0 l) else rot m n i (j - i) (swR (m - i) (m + j - i) i 0 l)
theorem rot_len {α : Type} {m : Nat} : ∀ {n i j : Nat} {l : List α}, (rot m n i j l).length = l.length
  | 0, _, _, l => rfl
  | n + 1, i, j, l => by
    rw [rot]
    split
    · exact swR_len
    · split
      · rw [rot_len, swR_len]
      · rw [rot_len, swR_len]
theorem rot_mem {α : Type} {m : Nat} {x : α} : ∀ {n i j : Nat} {l : List α}, x ∈ rot m n i j l → x ∈ l
  | 0, _, _, l, h => h
  | n + 1, i, j, l, h => by
    rw [rot] at h
    split at h
    · exact swR_mem h
    · split at h
      · exact swR_mem (rot_mem h)
      · exact swR_mem (rot_mem h)
def rotF {α : Type} (a m b : Nat) (l : List α) : List α := rot m (b - a) (m - a) (b - m) l
theorem rotate_ok {P : Program} (hm : P.follows .mixedOrders = true) {fz fz' : List Nat} {n : Nat} (hc : compFn P fz n = some c_slices_rotateCmpFunc_Row) (hc' : compFn P fz' 300 = some c_slices_swapRangeCmpFunc_Row) {α : Type} (F : Fam α) (l : List α) (a m b c : Nat) (za zm zb : Int) (ha : za = a) (hzm : zm = m) (hb : zb = b) (f : Ce) (h1 : a < m) (h2 : m < b) (h3 : b ≤ l.length) (hx : l.length ≤ 34359738368) :
    Ok P n [.c (.sl F.id F.v 0 l.length c), .c (.int .i64 za), .c (.int .i64 zm), .c (.int .i64 zb), .c f] (F.S l) (fun r τ => r = .tup [] ∧ τ = F.S (rotF a m b l)) := by
  refine .of_go hm hc (Nat.le_of_ble_eq_true rfl) ?_
  rw [rotF]
  have e1 : IntKind.i64.wrap (zm - za) = ((m - a : Nat) : Int) := by rw [wrap64 (by omega) (by omega)]; omega
  have e2 : IntKind.i64.wrap (zb - zm) = ((b - m : Nat) : Int) := by rw [wrap64 (by omega) (by omega)]; omega
  repeat' first|refine yaG ?_|(exfalso;omega)|(refine yaS ?_ ?_<;>intro _)
  refine Go.keep [0, 2, 4, 10, 11] (Go.loops (I := fun mm fr τ => ∃ (i j : Nat) (zi zj : Int) (q : List α), mm = i + j ∧ 1 ≤ i ∧ 1 ≤ j ∧ i ≤ m - a ∧ j ≤ b - m ∧ zi = i ∧ zj = j ∧ q.length = l.length ∧ (∃ k, i + j ≤ k ∧ rot m (b - a) (m - a) (b - m) l = rot m k i j q) ∧
    fr = [(0, .c (.sl F.id F.v 0 l.length c)), (2, .c (.int .i64 zm)), (4, .c f), (10, .c (.int .i64 zi)), (11, .c (.int .i64 zj))] ∧ τ = F.S q) ?_ _ _ _ ⟨m - a, b - m, _, _, l, rfl, by omega, by omega, Nat.le_refl _, Nat.le_refl _, e1, e2, rfl, ⟨b - a, by omega, rfl⟩, rfl, rfl⟩)
  rintro mm fr τ ⟨i, j, zi, zj, q, rfl, hi1, hj1, hi, hj, hzi, hzj, hql, ⟨k, hk, hr⟩, rfl, rfl⟩ hrec
  obtain ⟨k, rfl⟩ : ∃ k', k = k' + 1 := ⟨k - 1, by omega⟩
  rw [rot] at hr
  have e3 : IntKind.i64.wrap (zm - zi) = ((m - i : Nat) : Int) := by rw [wrap64 (by omega) (by omega)]; omega
  by_cases hij : i = j
  · subst hij
    have hzz : zi = zj := by omega
    subst hzz
    rw [if_pos rfl] at hr
    have cs := swapRange_ok hm hc' F q (m - i) m i c (IntKind.i64.wrap (zm - zi)) zm zi e3 hzm hzi f (by omega) (by omega) (by omega)
    rw [hql] at cs
    repeat' first|refine yaG ?_|(exfalso;omega)|(refine yaS ?_ ?_<;>intro _)
    all_goals first
      | (exfalso; omega)
      | skip
    refine .call _ rfl rfl rfl cs ?_
    rintro r τ ⟨rfl, rfl⟩
    repeat' first|refine yaG ?_|(exfalso;omega)|(refine yaS ?_ ?_<;>intro _)
    exact .fin rfl ⟨rfl, by rw [hr]⟩
  · rw [if_neg hij] at hr
    by_cases hlt : j < i
    · rw [if_pos hlt] at hr
      have cs := swapRange_ok hm hc' F q (m - i) m j c (IntKind.i64.wrap (zm - zi)) zm zj e3 hzm hzj f (by omega) (by omega) (by omega)
      rw [hql] at cs
      have e4 : IntKind.i64.wrap (zi - zj) = ((i - j : Nat) : Int) := by rw [wrap64 (by omega) (by omega)]; omega
      repeat' first|refine yaG ?_|(exfalso;omega)|(refine yaS ?_ ?_<;>intro _)
      refine .call _ rfl rfl rfl cs ?_
      rintro r τ ⟨rfl, rfl⟩
      repeat' first|refine yaG ?_|(exfalso;omega)|(refine yaS ?_ ?_<;>intro _)
      exact Go.keep [0, 2, 4, 10, 11] (hrec _ _ _ (by omega) ⟨i - j, j, _, _, _, rfl, by omega, hj1, by omega, hj, e4, hzj, by rw [swR_len]; exact hql, ⟨k, by omega, hr⟩, rfl, rfl⟩)
    · rw [if_neg hlt] at hr
      have e5 : IntKind.i64.wrap (IntKind.i64.wrap (zm + zj) - zi) = ((m + j - i : Nat) : Int) := by rw [wrap64 (n := zm + zj) (by omega) (by omega), wrap64 (by omega) (by omega)]; omega
      have cs := swapRange_ok hm hc' F q (m - i) (m + j - i) i c (IntKind.i64.wrap (zm - zi)) (IntKind.i64.wrap (IntKind.i64.wrap (zm + zj) - zi)) zi e3 e5 hzi f (by omega) (by omega) (by omega)
      rw [hql] at cs
      have e4 : IntKind.i64.wrap (zj - zi) = ((j - i : Nat) : Int) := by rw [wrap64 (by omega) (by omega)]; omega
      repeat' first|refine yaG ?_|(exfalso;omega)|(refine yaS ?_ ?_<;>intro _)
      refine .call _ rfl rfl rfl cs ?_
      rintro r τ ⟨rfl, rfl⟩
      repeat' first|refine yaG ?_|(exfalso;omega)|(refine yaS ?_ ?_<;>intro _)
      exact Go.keep [0, 2, 4, 10, 11] (hrec _ _ _ (by omega) ⟨i, j - i, _, _, _, rfl, hi1, by omega, hi, by omega, hzi, e4, by rw [swR_len]; exact hql, ⟨k, by omega, hr⟩, rfl, rfl⟩)
/-! ### Insertion -/
def ltA {α : Type} (c : α → α → Int) (l : List α) (i j : Nat) : Bool := match l[i]?, l[j]? with
  | some x, some y => decide (c x y < 0)
  | _, _ => false
theorem ltA_eq {α : Type} {c : α → α → Int} {l : List α} {i j : Nat} (hi : i < l.length) (hj : j < l.length) : ltA c l i j = decide (c l[i] l[j] < 0) := by
  rw [ltA, List.getElem?_eq_getElem hi, List.getElem?_eq_getElem hj]
def insIn {α : Type} (c : α → α → Int) (a : Nat) : Nat → List α → List α
  | 0, l => l
  | j + 1, l => if a < j + 1 ∧ ltA c l (j + 1) j = true then insIn c a j (sw l (j + 1) j) else l
def insOut {α : Type} (c : α → α → Int) (a : Nat) : Nat → Nat → List α → List α
  | 0, _, l => l
  | n + 1, i, l => insOut c a n (i + 1) (insIn c a i l)
theorem insIn_len {α : Type} {c : α → α → Int} {a : Nat} : ∀ {j : Nat} {l : List α}, (insIn c a j l).length = l.length
  | 0, l => rfl
  | j + 1, l => by
    rw [insIn]
    split
    · rw [insIn_len, sw_len]
    · rfl
theorem insIn_mem {α : Type} {c : α → α → Int} {a : Nat} {x : α} : ∀ {j : Nat} {l : List α}, x ∈ insIn c a j l → x ∈ l
  | 0, l, h => h
  | j + 1, l, h => by
    rw [insIn] at h
    split at h
    · exact sw_mem (insIn_mem h)
    · exact h
theorem insOut_len {α : Type} {c : α → α → Int} {a : Nat} : ∀ {n i : Nat} {l : List α}, (insOut c a n i l).length = l.length
  | 0, _, l => rfl
  | n + 1, i, l => by rw [insOut, insOut_len, insIn_len]
theorem insOut_mem {α : Type} {c : α → α → Int} {a : Nat} {x : α} : ∀ {n i : Nat} {l : List α}, x ∈ insOut c a n i l → x ∈ l
  | 0, _, l, h => h
  | n + 1, i, l, h => insIn_mem (insOut_mem (by rwa [insOut] at h))
def insF {α : Type} (c : α → α → Int) (a b : Nat) (l : List α) : List α := insOut c a (b - (a + 1)) (a + 1) l
/-- What the order's function does, while the elements are moved about. -/
def Cmps {α : Type} (P : Program) (F : Fam α) (D : α → Prop) (c : α → α → Int) (g : Nat) (pre cap : List Ce) : Prop :=
  ∀ (q : List α) (x y : α), D x → D y → Ok P g (pre.map .c ++ [.agg (F.ce x), .agg (F.ce y)] ++ cap.map .c) (F.S q) (fun r τ => r = .c (.int .i64 (c x y)) ∧ τ = F.S q)
theorem insertion_ok {P : Program} (hm : P.follows .mixedOrders = true) {fz : List Nat} {n : Nat} (hc : compFn P fz n = some c_slices_insertionSortCmpFunc_Row) {α : Type} (F : Fam α) (D : α → Prop) (co : α → α → Int) (g : Nat) (pre cap : List Ce) (hcmp : Cmps P F D co g pre cap) (l : List α) (a b c : Nat) (za zb : Int) (ha : za = a) (hb : zb = b) (hD : ∀ x ∈ l, D x) (h3 : b ≤ l.length) (hab : a ≤ b) (hx : l.length ≤ 34359738368) :
    Ok P n [.c (.sl F.id F.v 0 l.length c), .c (.int .i64 za), .c (.int .i64 zb), .c (.fn g pre cap)] (F.S l) (fun r τ => r = .tup [] ∧ τ = F.S (insF co a b l)) := by
  refine .of_go hm hc (Nat.le_of_ble_eq_true rfl) ?_
  rw [insF]
  have e1 : IntKind.i64.wrap (za + 1) = ((a + 1 : Nat) : Int) := by rw [wrap64 (by omega) (by omega)]; omega
  repeat' first|refine yaG ?_|(exfalso;omega)|(refine yaS ?_ ?_<;>intro _)
  refine Go.keep [0, 1, 2, 3, 8] (Go.loops (I := fun mm fr τ => ∃ (i : Nat) (z : Int) (q : List α), mm = b - i ∧ a + 1 ≤ i ∧ z = i ∧ q.length = l.length ∧ (∀ x ∈ q, D x) ∧ insOut co a (b - (a + 1)) (a + 1) l = insOut co a (b - i) i q ∧
    fr = [(0, .c (.sl F.id F.v 0 l.length c)), (1, .c (.int .i64 za)), (2, .c (.int .i64 zb)), (3, .c (.fn g pre cap)), (8, .c (.int .i64 z))] ∧ τ = F.S q) ?_ _ _ _ ⟨a + 1, _, l, rfl, Nat.le_refl _, e1, rfl, hD, rfl, rfl, rfl⟩)
  rintro mm fr τ ⟨i, z, q, rfl, hai, hz, hql, hqD, hr, rfl, rfl⟩ hrec
  by_cases hlt : i < b
  · rw [show b - i = (b - (i + 1)) + 1 by omega, insOut] at hr
    repeat' first|refine yaG ?_|(exfalso;omega)|(refine yaS ?_ ?_<;>intro _)
    refine Go.keep [0, 1, 2, 3, 8, 9] (Go.loops (I := fun mm fr τ => ∃ (j : Nat) (zj : Int) (u : List α), mm = j ∧ j ≤ i ∧ a ≤ j ∧ zj = j ∧ u.length = l.length ∧ (∀ x ∈ u, D x) ∧ insIn co a i q = insIn co a j u ∧
      fr = [(0, .c (.sl F.id F.v 0 l.length c)), (1, .c (.int .i64 za)), (2, .c (.int .i64 zb)), (3, .c (.fn g pre cap)), (8, .c (.int .i64 z)), (9, .c (.int .i64 zj))] ∧ τ = F.S u) ?_ _ _ _ ⟨i, _, q, rfl, Nat.le_refl _, by omega, hz, hql, hqD, rfl, rfl, rfl⟩)
    rintro mm fr τ ⟨j, zj, u, hmm, hji, haj, hzj, hul, huD, hin, rfl, rfl⟩ hrecj
    have out : ∀ fr τ, fr = [(0, AV.c (.sl F.id F.v 0 l.length c)), (1, .c (.int .i64 za)), (2, .c (.int .i64 zb)), (3, .c (.fn g pre cap)), (8, .c (.int .i64 (IntKind.i64.wrap (z + 1))))] → τ = F.S (insIn co a i q) → _ := fun fr τ p1 p2 =>
      hrec (b - (i + 1)) fr τ (by omega) ⟨i + 1, _, insIn co a i q, rfl, by omega, wrap_succ hz (by omega), by rw [insIn_len]; exact hql, fun x hx => hqD x (insIn_mem hx), hr, p1, p2⟩
    clear hrec
    by_cases hj : a < j
    · obtain ⟨j, rfl⟩ : ∃ j', j = j' + 1 := ⟨j - 1, by omega⟩
      rw [insIn] at hin
      have hj1 : j + 1 < u.length := by omega
      have hj0 : j < u.length := by omega
      have e2 : IntKind.i64.wrap (zj - 1) = (j : Int) := by rw [wrap64 (by omega) (by omega)]; omega
      have cc := hcmp u u[j + 1] u[j] (huD _ (List.getElem_mem hj1)) (huD _ (List.getElem_mem hj0))
      rw [ltA_eq hj1 hj0] at hin
      repeat' first|refine yaG ?_|((first|apply yG|apply yH|apply yI);exact rfl;(first|exact aop_si rfl rfl hzj hul.symm hj1|exact aop_si rfl rfl e2 hul.symm hj0|exact aop_sl rfl hj1|exact aop_sl rfl hj0))|(exfalso;omega)|(refine yaS ?_ ?_<;>intro _)
      refine Go.scall _ rfl rfl rfl cc ?_
      rintro r τ ⟨rfl, rfl⟩
      generalize hco : co u[j + 1] u[j] = o at hin
      by_cases ho : o < 0
      · rw [if_pos ⟨hj, decide_eq_true ho⟩, sw_eq hj1 hj0] at hin
        repeat' first|(apply yA;exact rfl)|apply yC|((first|apply yD|apply yE);(first|exact yF|assumption);iterate 6 exact rfl)|((first|apply yG|apply yH|apply yI);exact rfl;(first|exact yJ|exact yK rfl rfl|exact yL rfl|exact yM rfl|exact rfl|exact aL rfl rfl rfl rfl rfl|exact aS rfl rfl rfl rfl rfl rfl rfl))|((first|apply yN|apply yO|apply yP);exact rfl)|(exfalso;omega)|(((first|apply yT|apply yU|apply yV|apply yW);exact rfl;(first|exact .d|exact .e|exact .n|((fail_if_success exact bqt);(fail_if_success exact bqf);exact .b)))<;>intro _)
        all_goals first
          | (exfalso; omega)
          | skip
        refine Go.qw (fun F' τ => Go P (F.S l).next _ _ _ (.segs _ :: _) F' τ) ?_ fun _ _ h => h
        repeat' first|(apply Qw.op;exact rfl;exact fun _ => rfl)|(apply Qw.rd;exact rfl;exact rfl;first|exact aop_si rfl rfl hzj hul.symm hj1|exact aop_si rfl rfl e2 hul.symm hj0|exact aop_sl rfl hj1|exact aop_sl rfl hj0)|(apply Qw.wr;exact rfl;exact rfl;exact aop_ss rfl rfl hj1)|apply Qw.nil
        repeat' first|refine yaG ?_|((first|apply yG|apply yH|apply yI);exact rfl;(first|exact aop_si rfl rfl e2 (by rw [List.length_set];exact hul.symm) (by rw [List.length_set];exact hj0)|exact aop_ss rfl rfl (by rw [List.length_set];exact hj0)))|(exfalso;omega)|(refine yaS ?_ ?_<;>intro _)
        refine Go.keep [0, 1, 2, 3, 8, 9] (hrecj _ _ _ (by omega) ⟨j, _, _, rfl, by omega, by omega, e2, ?_, fun x hx => ?_, hin, rfl, rfl⟩)
        · simp [hul]
        · rw [← sw_eq hj1 hj0] at hx
          exact huD x (sw_mem hx)
      · rw [if_neg (by simp [ho])] at hin
        repeat' first|refine yaG ?_|(exfalso;omega)|(refine yaS ?_ ?_<;>intro _)
        all_goals first
          | (exfalso; omega)
          | skip
        exact Go.keep [0, 1, 2, 3, 8] (out _ _ rfl (by rw [hin]))
    · have hja : insIn co a j u = u := by
        cases j with
        | zero => rfl
        | succ j => rw [insIn, if_neg (fun h => hj h.1)]
      rw [hja] at hin
      repeat' first|refine yaG ?_|(exfalso;omega)|(refine yaS ?_ ?_<;>intro _)
      exact Go.keep [0, 1, 2, 3, 8] (out _ _ rfl (by rw [hin]))
  · repeat' first|refine yaG ?_|(exfalso;omega)|(refine yaS ?_ ?_<;>intro _)
    rw [show b - i = 0 by omega, insOut] at hr
    exact .fin rfl ⟨rfl, by rw [hr]⟩
end Go.Proofs.YtinbdedlmkjokaaGreat.Am

/- Sorting in place: merging. Plain part, and the three searches. -/
set_option linter.unusedVariables false
set_option linter.unusedSimpArgs false
namespace Go.Proofs.YtinbdedlmkjokaaGreat.Am

def bs (p : Nat → Bool) : Nat → Nat → Nat → Nat
  | 0, i, _ => i
  | n + 1, i, j => if i < j then (if p ((i + j) / 2) then bs p n ((i + j) / 2 + 1) j else bs p n i ((i + j) / 2)) else i
theorem bs_in {p : Nat → Bool} : ∀ {n i j : Nat}, i ≤ j → i ≤ bs p n i j ∧ bs p n i j ≤ j
  | 0, i, j, h => ⟨Nat.le_refl _, h⟩
  | n + 1, i, j, h => by
    rw [bs]
    split
    · split
      · have := bs_in (p := p) (n := n) (i := (i + j) / 2 + 1) (j := j) (by omega)
        omega
      · have := bs_in (p := p) (n := n) (i := i) (j := (i + j) / 2) (by omega)
        omega
    · omega
theorem bs_end {p : Nat → Bool} {n i j : Nat} (h : ¬ i < j) : bs p n i j = i := by
  cases n with
  | zero => rfl
  | succ n => rw [bs, if_neg h]
theorem half_eq {z : Int} {k : Nat} (hz : z = (k : Int)) (hk : k ≤ 1099511627776) : IntKind.i64.wrap ((IntKind.u64.wrap z).fdiv (2 ^ (min (1 : Int).toNat IntKind.u64.bits))) = ((k / 2 : Nat) : Int) := by
  have h1 : IntKind.u64.wrap z = (k : Int) := by
    rw [hz]
    simp only [IntKind.wrap]
    simp [IntKind.bits, IntKind.signed]
    omega
  rw [h1]
  have h2 : ((2 : Int) ^ (min (1 : Int).toNat IntKind.u64.bits)) = 2 := rfl
  rw [h2, Int.fdiv_eq_ediv_of_nonneg _ (by decide), wrap64 (by omega) (by omega)]
  omega
def shU {α : Type} : Nat → Nat → List α → List α
  | 0, _, l => l
  | n + 1, k, l => shU n (k + 1) (sw l k (k + 1))
def shD {α : Type} : Nat → Nat → List α → List α
  | 0, _, l => l
  | n + 1, k, l => shD n (k - 1) (sw l k (k - 1))
theorem shU_len {α : Type} : ∀ {n k : Nat} {l : List α}, (shU n k l).length = l.length
  | 0, _, l => rfl
  | n + 1, k, l => by rw [shU, shU_len, sw_len]
theorem shD_len {α : Type} : ∀ {n k : Nat} {l : List α}, (shD n k l).length = l.length
  | 0, _, l => rfl
  | n + 1, k, l => by rw [shD, shD_len, sw_len]
theorem shU_mem {α : Type} {x : α} : ∀ {n k : Nat} {l : List α}, x ∈ shU n k l → x ∈ l
  | 0, _, l, h => h
  | n + 1, k, l, h => sw_mem (shU_mem (by rwa [shU] at h))
theorem shD_mem {α : Type} {x : α} : ∀ {n k : Nat} {l : List α}, x ∈ shD n k l → x ∈ l
  | 0, _, l, h => h
  | n + 1, k, l, h => sw_mem (shD_mem (by rwa [shD] at h))
def symStart {α : Type} (c : α → α → Int) (a m b : Nat) (l : List α) : Nat :=
  if (a + b) / 2 < m then bs (fun h => !ltA c l ((a + b) / 2 + m - 1 - h) h) (b - m) ((a + b) / 2 + m - b) ((a + b) / 2)
  else bs (fun h => !ltA c l ((a + b) / 2 + m - 1 - h) h) (m - a) a m
def sym {α : Type} (c : α → α → Int) : Nat → Nat → Nat → Nat → List α → List α
  | 0, _, _, _, l => l
  | n + 1, a, m, b, l =>
    if m - a = 1 then shU (bs (fun h => ltA c l h a) (b - m) m b - 1 - a) a l
    else if b - m = 1 then shD (m - bs (fun h => !ltA c l m h) (m - a) a m) m l
    else
      let s := symStart c a m b l
      let e := (a + b) / 2 + m - s
      let l1 := if s < m ∧ m < e then rotF s m e l else l
      let l2 := if a < s ∧ s < (a + b) / 2 then sym c n a s ((a + b) / 2) l1 else l1
      if (a + b) / 2 < e ∧ e < b then sym c n ((a + b) / 2) e b l2 else l2
theorem sym_len {α : Type} {c : α → α → Int} : ∀ {n a m b : Nat} {l : List α}, (sym c n a m b l).length = l.length
  | 0, _, _, _, l => rfl
  | n + 1, a, m, b, l => by
    rw [sym]
    split
    · exact shU_len
    · split
      · exact shD_len
      · simp only
        have h1 : ∀ q : List α, (if symStart c a m b l < m ∧ m < (a + b) / 2 + m - symStart c a m b l then rotF (symStart c a m b l) m ((a + b) / 2 + m - symStart c a m b l) l else l) = q → q.length = l.length := fun q h => by
          rw [← h]
          split
          · exact rot_len
          · rfl
        generalize (if symStart c a m b l < m ∧ m < (a + b) / 2 + m - symStart c a m b l then rotF (symStart c a m b l) m ((a + b) / 2 + m - symStart c a m b l) l else l) = q at h1 ⊢
        have h1 := h1 q rfl
        split <;> split <;> simp only [sym_len, h1]
theorem sym_mem {α : Type} {c : α → α → Int} {x : α} : ∀ {n a m b : Nat} {l : List α}, x ∈ sym c n a m b l → x ∈ l
  | 0, _, _, _, l, h => h
  | n + 1, a, m, b, l, h => by
    rw [sym] at h
    split at h
    · exact shU_mem h
    · split at h
      · exact shD_mem h
      · simp only at h
        have h1 : ∀ q : List α, (if symStart c a m b l < m ∧ m < (a + b) / 2 + m - symStart c a m b l then rotF (symStart c a m b l) m ((a + b) / 2 + m - symStart c a m b l) l else l) = q → x ∈ q → x ∈ l := fun q h => by
          rw [← h]
          split
          · exact rot_mem
          · exact id
        generalize (if symStart c a m b l < m ∧ m < (a + b) / 2 + m - symStart c a m b l then rotF (symStart c a m b l) m ((a + b) / 2 + m - symStart c a m b l) l else l) = q at h1 h
        have h1 := h1 q rfl
        split at h <;> split at h
        · exact h1 (sym_mem (sym_mem h))
        · exact h1 (sym_mem h)
        · exact h1 (sym_mem h)
        · exact h1 h
end Go.Proofs.YtinbdedlmkjokaaGreat.Am

/- Sorting in place: merging, one element against many. -/
set_option linter.unusedVariables false
set_option linter.unusedSimpArgs false
namespace Go.Proofs.YtinbdedlmkjokaaGreat.Am

theorem symA_ok {P : Program} (hm : P.follows .mixedOrders = true) {fz : List Nat} {n : Nat} (hc : compFn P fz n = some c_slices_symMergeCmpFunc_Row) {α : Type} (F : Fam α) (D : α → Prop) (co : α → α → Int) (g : Nat) (pre cap : List Ce) (hcmp : Cmps P F D co g pre cap) (l : List α) (a m b c : Nat) (za zm zb : Int) (ha : za = a) (hzm : zm = m) (hb : zb = b) (hD : ∀ x ∈ l, D x) (h3 : b ≤ l.length) (hab : a < m) (hmb : m < b) (hx : l.length ≤ 34359738368) (h1 : m - a = 1) :
    Ok P n [.c (.sl F.id F.v 0 l.length c), .c (.int .i64 za), .c (.int .i64 zm), .c (.int .i64 zb), .c (.fn g pre cap)] (F.S l) (fun r τ => r = .tup [] ∧ τ = F.S (shU (bs (fun h => ltA co l h a) (b - m) m b - 1 - a) a l)) := by
  refine .of_go hm hc (Nat.le_of_ble_eq_true rfl) ?_
  have e1 : IntKind.i64.wrap (zm - za) = 1 := by rw [wrap64 (by omega) (by omega)]; omega
  have hal : a < l.length := by omega
  repeat' first|refine yaG ?_|(exfalso;omega)|(refine yaS ?_ ?_<;>intro _)
  all_goals first
    | (exfalso; omega)
    | skip
  obtain ⟨p, hp⟩ : ∃ p : Nat → Bool, p = fun h => ltA co l h a := ⟨_, rfl⟩
  rw [← hp]
  refine Go.keep [0, 1, 2, 3, 4, 10, 11] (Go.loops (I := fun mm fr τ => ∃ (i j : Nat) (zi zj : Int), mm = j - i ∧ m ≤ i ∧ i ≤ j ∧ j ≤ b ∧ zi = i ∧ zj = j ∧ (∃ k, j - i ≤ k ∧ bs p (b - m) m b = bs p k i j) ∧
    fr = [(0, .c (.sl F.id F.v 0 l.length c)), (1, .c (.int .i64 za)), (2, .c (.int .i64 zm)), (3, .c (.int .i64 zb)), (4, .c (.fn g pre cap)), (10, .c (.int .i64 zi)), (11, .c (.int .i64 zj))] ∧ τ = F.S l) ?_ _ _ _ ⟨m, b, _, _, rfl, Nat.le_refl _, by omega, Nat.le_refl _, hzm, hb, ⟨b - m, Nat.le_refl _, rfl⟩, rfl, rfl⟩)
  rintro mm fr τ ⟨i, j, zi, zj, hmm, hmi, hij, hjb, hzi, hzj, ⟨k, hk, hbs⟩, rfl, rfl⟩ hrec
  by_cases hlt : i < j
  · obtain ⟨k, rfl⟩ : ∃ k', k = k' + 1 := ⟨k - 1, by omega⟩
    rw [bs, if_pos hlt] at hbs
    have es : IntKind.i64.wrap (zi + zj) = ((i + j : Nat) : Int) := by rw [wrap64 (by omega) (by omega)]; omega
    have eh := half_eq es (by omega)
    have hh : (i + j) / 2 < l.length := by omega
    have hpv : p ((i + j) / 2) = decide (co l[(i + j) / 2] l[a] < 0) := by rw [hp]; exact ltA_eq hh hal
    have cc := hcmp l l[(i + j) / 2] l[a] (hD _ (List.getElem_mem hh)) (hD _ (List.getElem_mem hal))
    rw [hpv] at hbs
    generalize co l[(i + j) / 2] l[a] = o at cc hbs
    repeat' first|refine yaG ?_|((first|apply yG|apply yH|apply yI);exact rfl;(first|exact aop_si rfl rfl eh rfl hh|exact aop_si rfl rfl ha rfl hal|exact aop_sl rfl hh|exact aop_sl rfl hal))|(exfalso;omega)|(refine yaS ?_ ?_<;>intro _)
    refine Go.scall _ rfl rfl rfl cc ?_
    rintro r τ ⟨rfl, rfl⟩
    repeat' first|refine yaG ?_|(exfalso;omega)|(refine yaS ?_ ?_<;>intro _)
    · rename_i ho
      rw [if_pos (decide_eq_true ho)] at hbs
      exact Go.keep [0, 1, 2, 3, 4, 10, 11] (hrec _ _ _ (by omega) ⟨(i + j) / 2 + 1, j, _, _, rfl, by omega, by omega, hjb, wrap_succ eh (by omega), hzj, ⟨k, by omega, hbs⟩, rfl, rfl⟩)
    · rename_i ho
      rw [if_neg (by simp [ho])] at hbs
      exact Go.keep [0, 1, 2, 3, 4, 10, 11] (hrec _ _ _ (by omega) ⟨i, (i + j) / 2, _, _, rfl, hmi, by omega, by omega, hzi, eh, ⟨k, by omega, hbs⟩, rfl, rfl⟩)
  · rw [bs_end hlt] at hbs
    rw [hbs]
    clear hrec hbs hp
    have e2 : IntKind.i64.wrap (zi - 1) = ((i - 1 : Nat) : Int) := by rw [wrap64 (by omega) (by omega)]; omega
    repeat' first|refine yaG ?_|(exfalso;omega)|(refine yaS ?_ ?_<;>intro _)
    refine Go.keep [0, 10, 13] (Go.loops (I := fun mm fr τ => ∃ (k : Nat) (z : Int) (q : List α), mm = i - k ∧ k ≤ i - 1 ∧ z = k ∧ q.length = l.length ∧ shU (i - 1 - a) a l = shU (i - 1 - k) k q ∧
      fr = [(0, .c (.sl F.id F.v 0 l.length c)), (10, .c (.int .i64 zi)), (13, .c (.int .i64 z))] ∧ τ = F.S q) ?_ _ _ _ ⟨a, _, l, rfl, by omega, ha, rfl, rfl, rfl, rfl⟩)
    rintro mm fr τ ⟨k, z, q, hmm, hki, hz, hql, hsh, rfl, rfl⟩ hrec
    by_cases hk : k < i - 1
    · have hk0 : k < q.length := by omega
      have hk1 : k + 1 < q.length := by omega
      have e3 : IntKind.i64.wrap (z + 1) = ((k + 1 : Nat) : Int) := wrap_succ hz (by omega)
      rw [show i - 1 - k = (i - 1 - (k + 1)) + 1 by omega, shU, sw_eq hk0 hk1] at hsh
      repeat' first|(apply yA;exact rfl)|apply yC|((first|apply yD|apply yE);(first|exact yF|assumption);iterate 6 exact rfl)|((first|apply yG|apply yH|apply yI);exact rfl;(first|exact yJ|exact yK rfl rfl|exact yL rfl|exact yM rfl|exact rfl|exact aL rfl rfl rfl rfl rfl|exact aS rfl rfl rfl rfl rfl rfl rfl))|((first|apply yN|apply yO|apply yP);exact rfl)|(exfalso;omega)|(((first|apply yT|apply yU|apply yV|apply yW);exact rfl;(first|exact .d|exact .e|exact .n|((fail_if_success exact bqt);(fail_if_success exact bqf);exact .b)))<;>intro _)
      refine Go.qw (fun F' τ => Go P (F.S l).next _ _ _ (.segs _ :: _) F' τ) ?_ fun _ _ h => h
      repeat' first|(apply Qw.op;exact rfl;exact fun _ => rfl)|(apply Qw.rd;exact rfl;exact rfl;first|exact aop_si rfl rfl hz hql.symm hk0|exact aop_si rfl rfl e3 hql.symm hk1|exact aop_sl rfl hk0|exact aop_sl rfl hk1)|(apply Qw.wr;exact rfl;exact rfl;exact aop_ss rfl rfl hk0)|apply Qw.nil
      repeat' first|refine yaG ?_|((first|apply yG|apply yH|apply yI);exact rfl;(first|exact aop_si rfl rfl e3 (by rw [List.length_set];exact hql.symm) (by rw [List.length_set];exact hk1)|exact aop_ss rfl rfl (by rw [List.length_set];exact hk1)))|(exfalso;omega)|(refine yaS ?_ ?_<;>intro _)
      refine Go.keep [0, 10, 13] (hrec _ _ _ (by omega) ⟨k + 1, _, _, rfl, by omega, e3, ?_, hsh, rfl, rfl⟩)
      simp [hql]
    · repeat' first|refine yaG ?_|(exfalso;omega)|(refine yaS ?_ ?_<;>intro _)
      rw [show i - 1 - k = 0 by omega, shU] at hsh
      exact .ret rfl ⟨rfl, by rw [hsh]⟩
theorem symB_ok {P : Program} (hm : P.follows .mixedOrders = true) {fz : List Nat} {n : Nat} (hc : compFn P fz n = some c_slices_symMergeCmpFunc_Row) {α : Type} (F : Fam α) (D : α → Prop) (co : α → α → Int) (g : Nat) (pre cap : List Ce) (hcmp : Cmps P F D co g pre cap) (l : List α) (a m b c : Nat) (za zm zb : Int) (ha : za = a) (hzm : zm = m) (hb : zb = b) (hD : ∀ x ∈ l, D x) (h3 : b ≤ l.length) (hab : a < m) (hmb : m < b) (hx : l.length ≤ 34359738368) (h1 : ¬ m - a = 1) (h2 : b - m = 1) :
    Ok P n [.c (.sl F.id F.v 0 l.length c), .c (.int .i64 za), .c (.int .i64 zm), .c (.int .i64 zb), .c (.fn g pre cap)] (F.S l) (fun r τ => r = .tup [] ∧ τ = F.S (shD (m - bs (fun h => !ltA co l m h) (m - a) a m) m l)) := by
  refine .of_go hm hc (Nat.le_of_ble_eq_true rfl) ?_
  have e1 : ¬ IntKind.i64.wrap (zm - za) = 1 := by rw [wrap64 (by omega) (by omega)]; omega
  have e2 : IntKind.i64.wrap (zb - zm) = 1 := by rw [wrap64 (by omega) (by omega)]; omega
  have hml : m < l.length := by omega
  repeat' first|refine yaG ?_|(exfalso;omega)|(refine yaS ?_ ?_<;>intro _)
  all_goals first
    | (exfalso; omega)
    | skip
  obtain ⟨p, hp⟩ : ∃ p : Nat → Bool, p = fun h => !ltA co l m h := ⟨_, rfl⟩
  rw [← hp]
  refine Go.keep [0, 1, 2, 3, 4, 14, 15] (Go.loops (I := fun mm fr τ => ∃ (i j : Nat) (zi zj : Int), mm = j - i ∧ a ≤ i ∧ i ≤ j ∧ j ≤ m ∧ zi = i ∧ zj = j ∧ (∃ k, j - i ≤ k ∧ bs p (m - a) a m = bs p k i j) ∧
    fr = [(0, .c (.sl F.id F.v 0 l.length c)), (1, .c (.int .i64 za)), (2, .c (.int .i64 zm)), (3, .c (.int .i64 zb)), (4, .c (.fn g pre cap)), (14, .c (.int .i64 zi)), (15, .c (.int .i64 zj))] ∧ τ = F.S l) ?_ _ _ _ ⟨a, m, _, _, rfl, Nat.le_refl _, by omega, Nat.le_refl _, ha, hzm, ⟨m - a, Nat.le_refl _, rfl⟩, rfl, rfl⟩)
  rintro mm fr τ ⟨i, j, zi, zj, hmm, hmi, hij, hjb, hzi, hzj, ⟨k, hk, hbs⟩, rfl, rfl⟩ hrec
  by_cases hlt : i < j
  · obtain ⟨k, rfl⟩ : ∃ k', k = k' + 1 := ⟨k - 1, by omega⟩
    rw [bs, if_pos hlt] at hbs
    have es : IntKind.i64.wrap (zi + zj) = ((i + j : Nat) : Int) := by rw [wrap64 (by omega) (by omega)]; omega
    have eh := half_eq es (by omega)
    have hh : (i + j) / 2 < l.length := by omega
    have hpv : p ((i + j) / 2) = !decide (co l[m] l[(i + j) / 2] < 0) := by rw [hp]; exact congrArg _ (ltA_eq hml hh)
    have cc := hcmp l l[m] l[(i + j) / 2] (hD _ (List.getElem_mem hml)) (hD _ (List.getElem_mem hh))
    rw [hpv] at hbs
    generalize co l[m] l[(i + j) / 2] = o at cc hbs
    repeat' first|refine yaG ?_|((first|apply yG|apply yH|apply yI);exact rfl;(first|exact aop_si rfl rfl eh rfl hh|exact aop_si rfl rfl hzm rfl hml|exact aop_sl rfl hh|exact aop_sl rfl hml))|(exfalso;omega)|(refine yaS ?_ ?_<;>intro _)
    refine Go.scall _ rfl rfl rfl cc ?_
    rintro r τ ⟨rfl, rfl⟩
    by_cases ho : o < 0
    · rw [if_neg (by simp [ho])] at hbs
      repeat' first|refine yaG ?_|(exfalso;omega)|(refine yaS ?_ ?_<;>intro _)
      all_goals first
        | exact Go.keep [0, 1, 2, 3, 4, 14, 15] (hrec _ _ _ (by omega) ⟨i, (i + j) / 2, _, _, rfl, hmi, by omega, by omega, hzi, eh, ⟨k, by omega, hbs⟩, rfl, rfl⟩)
        | (exfalso; simp_all; done)
        | (exfalso; simp_all; omega)
    · rw [if_pos (by simp [ho])] at hbs
      repeat' first|refine yaG ?_|(exfalso;omega)|(refine yaS ?_ ?_<;>intro _)
      all_goals first
        | exact Go.keep [0, 1, 2, 3, 4, 14, 15] (hrec _ _ _ (by omega) ⟨(i + j) / 2 + 1, j, _, _, rfl, by omega, by omega, hjb, wrap_succ eh (by omega), hzj, ⟨k, by omega, hbs⟩, rfl, rfl⟩)
        | (exfalso; simp_all; done)
        | (exfalso; simp_all; omega)
  · rw [bs_end hlt] at hbs
    rw [hbs]
    clear hrec hbs hp
    repeat' first|refine yaG ?_|(exfalso;omega)|(refine yaS ?_ ?_<;>intro _)
    refine Go.keep [0, 14, 17] (Go.loops (I := fun mm fr τ => ∃ (k : Nat) (z : Int) (q : List α), mm = k - i ∧ i ≤ k ∧ k ≤ m ∧ z = k ∧ q.length = l.length ∧ shD (m - i) m l = shD (k - i) k q ∧
      fr = [(0, .c (.sl F.id F.v 0 l.length c)), (14, .c (.int .i64 zi)), (17, .c (.int .i64 z))] ∧ τ = F.S q) ?_ _ _ _ ⟨m, _, l, rfl, by omega, Nat.le_refl _, hzm, rfl, rfl, rfl, rfl⟩)
    rintro mm fr τ ⟨k, z, q, hmm, hki, hkm, hz, hql, hsh, rfl, rfl⟩ hrec
    by_cases hk : i < k
    · have hk0 : k < q.length := by omega
      have hk1 : k - 1 < q.length := by omega
      have e3 : IntKind.i64.wrap (z - 1) = ((k - 1 : Nat) : Int) := by rw [wrap64 (by omega) (by omega)]; omega
      rw [show k - i = (k - 1 - i) + 1 by omega, shD, sw_eq hk0 hk1] at hsh
      repeat' first|(apply yA;exact rfl)|apply yC|((first|apply yD|apply yE);(first|exact yF|assumption);iterate 6 exact rfl)|((first|apply yG|apply yH|apply yI);exact rfl;(first|exact yJ|exact yK rfl rfl|exact yL rfl|exact yM rfl|exact rfl|exact aL rfl rfl rfl rfl rfl|exact aS rfl rfl rfl rfl rfl rfl rfl))|((first|apply yN|apply yO|apply yP);exact rfl)|(exfalso;omega)|(((first|apply yT|apply yU|apply yV|apply yW);exact rfl;(first|exact .d|exact .e|exact .n|((fail_if_success exact bqt);(fail_if_success exact bqf);exact .b)))<;>intro _)
      refine Go.qw (fun F' τ => Go P (F.S l).next _ _ _ (.segs _ :: _) F' τ) ?_ fun _ _ h => h
      repeat' first|(apply Qw.op;exact rfl;exact fun _ => rfl)|(apply Qw.rd;exact rfl;exact rfl;first|exact aop_si rfl rfl hz hql.symm hk0|exact aop_si rfl rfl e3 hql.symm hk1|exact aop_sl rfl hk0|exact aop_sl rfl hk1)|(apply Qw.wr;exact rfl;exact rfl;exact aop_ss rfl rfl hk0)|apply Qw.nil
      repeat' first|refine yaG ?_|((first|apply yG|apply yH|apply yI);exact rfl;(first|exact aop_si rfl rfl e3 (by rw [List.length_set];exact hql.symm) (by rw [List.length_set];exact hk1)|exact aop_ss rfl rfl (by rw [List.length_set];exact hk1)))|(exfalso;omega)|(refine yaS ?_ ?_<;>intro _)
      refine Go.keep [0, 14, 17] (hrec _ _ _ (by omega) ⟨k - 1, _, _, rfl, by omega, by omega, e3, ?_, hsh, rfl, rfl⟩)
      simp [hql]
    · repeat' first|refine yaG ?_|(exfalso;omega)|(refine yaS ?_ ?_<;>intro _)
      rw [show k - i = 0 by omega, shD] at hsh
      exact .ret rfl ⟨rfl, by rw [hsh]⟩
end Go.Proofs.YtinbdedlmkjokaaGreat.Am

/- Sorting in place: merging, many against many; the whole sort. -/
set_option linter.unusedVariables false
set_option linter.unusedSimpArgs false
namespace Go.Proofs.YtinbdedlmkjokaaGreat.Am

set_option maxHeartbeats 4000000 in
theorem symC_ok {P : Program} (hm : P.follows .mixedOrders = true) {fz fz' fz'' : List Nat} (hc : compFn P fz 234 = some c_slices_symMergeCmpFunc_Row) (hc' : compFn P fz' 285 = some c_slices_rotateCmpFunc_Row) (hc'' : compFn P fz'' 300 = some c_slices_swapRangeCmpFunc_Row)
    {α : Type} (F : Fam α) (D : α → Prop) (co : α → α → Int) (g : Nat) (pre cap : List Ce) (hcmp : Cmps P F D co g pre cap) (N c d : Nat)
    (ih : ∀ (l : List α) (a m b : Nat) (za zm zb : Int), l.length = N → za = a → zm = m → zb = b → (∀ x ∈ l, D x) → b ≤ l.length → a < m → m < b → b - a ≤ d → Ok P 234 [.c (.sl F.id F.v 0 N c), .c (.int .i64 za), .c (.int .i64 zm), .c (.int .i64 zb), .c (.fn g pre cap)] (F.S l) (fun r τ => r = .tup [] ∧ τ = F.S (sym co d a m b l)))
    (l : List α) (a m b : Nat) (za zm zb : Int) (hN : l.length = N) (ha : za = a) (hzm : zm = m) (hb : zb = b) (hD : ∀ x ∈ l, D x) (h3 : b ≤ l.length) (hab : a < m) (hmb : m < b) (hd : b - a ≤ d + 1) (hx : l.length ≤ 34359738368) (h1 : ¬ m - a = 1) (h2 : ¬ b - m = 1) :
    Ok P 234 [.c (.sl F.id F.v 0 N c), .c (.int .i64 za), .c (.int .i64 zm), .c (.int .i64 zb), .c (.fn g pre cap)] (F.S l) (fun r τ => r = .tup [] ∧ τ = F.S (sym co (d + 1) a m b l)) := by
  refine .of_go hm hc (Nat.le_of_ble_eq_true rfl) ?_
  rw [sym, if_neg h1, if_neg h2]
  subst hN
  have e1 : ¬ IntKind.i64.wrap (zm - za) = 1 := by rw [wrap64 (by omega) (by omega)]; omega
  have e2 : ¬ IntKind.i64.wrap (zb - zm) = 1 := by rw [wrap64 (by omega) (by omega)]; omega
  have es : IntKind.i64.wrap (za + zb) = ((a + b : Nat) : Int) := by rw [wrap64 (by omega) (by omega)]; omega
  have emid := half_eq es (by omega)
  obtain ⟨zmid, hzmid⟩ : ∃ z, z = IntKind.i64.wrap ((IntKind.u64.wrap (IntKind.i64.wrap (za + zb))).fdiv (2 ^ (min (1 : Int).toNat IntKind.u64.bits))) := ⟨_, rfl⟩
  rw [← hzmid] at emid
  obtain ⟨mid, hmid⟩ : ∃ k, k = (a + b) / 2 := ⟨_, rfl⟩
  rw [← hmid] at emid
  have en : IntKind.i64.wrap (zmid + zm) = ((mid + m : Nat) : Int) := by rw [wrap64 (by omega) (by omega)]; omega
  have ep : IntKind.i64.wrap (IntKind.i64.wrap (zmid + zm) - 1) = ((mid + m - 1 : Nat) : Int) := by rw [en, wrap64 (by omega) (by omega)]; omega
  obtain ⟨p, hp⟩ : ∃ p : Nat → Bool, p = fun h => !ltA co l (mid + m - 1 - h) h := ⟨_, rfl⟩
  obtain ⟨s0, hs0⟩ : ∃ k, k = if mid < m then mid + m - b else a := ⟨_, rfl⟩
  obtain ⟨r0, hr0⟩ : ∃ k, k = if mid < m then mid else m := ⟨_, rfl⟩
  obtain ⟨f0, hf0⟩ : ∃ k, k = if mid < m then b - m else m - a := ⟨_, rfl⟩
  have hst : symStart co a m b l = bs p f0 s0 r0 := by
    rw [symStart, ← hmid, ← hp, hs0, hr0, hf0]
    split <;> rfl
  have hrange : s0 ≤ r0 ∧ r0 ≤ m ∧ r0 ≤ mid ∧ a ≤ s0 ∧ r0 - s0 ≤ f0 ∧ mid + m ≤ s0 + b := by
    rw [hs0, hr0, hf0]
    split <;> omega
  have hbi := bs_in (p := p) (n := f0) hrange.1
  have hes : IntKind.i64.wrap (IntKind.i64.wrap (zmid + zm) - zb) = ((mid + m - b : Nat) : Int) ∨ ¬ mid < m := by
    by_cases h : mid < m
    · left; rw [en, wrap64 (by omega) (by omega)]; omega
    · exact .inr h
  simp only [hst, ← hmid]
  rw [hzmid] at emid en ep hes
  by_cases hq : mid < m
  · have HS : IntKind.i64.wrap (IntKind.i64.wrap (IntKind.i64.wrap ((IntKind.u64.wrap (IntKind.i64.wrap (za + zb))).fdiv (2 ^ (min (1 : Int).toNat IntKind.u64.bits))) + zm) - zb) = (s0 : Int) := by
      rcases hes with h | h
      · rw [h, hs0, if_pos hq]
      · exact absurd hq h
    have HR : IntKind.i64.wrap ((IntKind.u64.wrap (IntKind.i64.wrap (za + zb))).fdiv (2 ^ (min (1 : Int).toNat IntKind.u64.bits))) = (r0 : Int) := by rw [emid, hr0, if_pos hq]
    have hlq : zm > IntKind.i64.wrap ((IntKind.u64.wrap (IntKind.i64.wrap (za + zb))).fdiv (2 ^ (min (1 : Int).toNat IntKind.u64.bits))) := by rw [emid]; omega
    repeat' first|refine yaG ?_|(exfalso;omega)|(refine yaS ?_ ?_<;>intro _)
    all_goals first
      | contradiction
      | skip
    refine Go.keep [0, 1, 2, 3, 4, 18, 19, 20, 21, 22] (Go.loops (I := fun mm fr τ => ∃ (i j : Nat) (zi zj zd zn zp : Int), mm = j - i ∧ s0 ≤ i ∧ i ≤ j ∧ j ≤ r0 ∧ zi = i ∧ zj = j ∧ zd = (mid : Nat) ∧ zn = ((mid + m : Nat) : Int) ∧ zp = ((mid + m - 1 : Nat) : Int) ∧ (∃ k, j - i ≤ k ∧ bs p f0 s0 r0 = bs p k i j) ∧
      fr = [(0, .c (.sl F.id F.v 0 l.length c)), (1, .c (.int .i64 za)), (2, .c (.int .i64 zm)), (3, .c (.int .i64 zb)), (4, .c (.fn g pre cap)), (18, .c (.int .i64 zd)), (19, .c (.int .i64 zn)), (20, .c (.int .i64 zi)), (21, .c (.int .i64 zj)), (22, .c (.int .i64 zp))] ∧ τ = F.S l) ?_ _ _ _ ⟨s0, r0, _, _, _, _, _, rfl, Nat.le_refl _, hrange.1, Nat.le_refl _, HS, HR, emid, en, ep, ⟨f0, hrange.2.2.2.2.1, rfl⟩, rfl, rfl⟩)
    clear emid en ep hes es hzmid
    clear zmid
    rintro mm fr τ ⟨i, j, zi, zj, zd, zn, zp, hmm, hsi, hij, hjr, hzi, hzj, hzd, hzn, hzp, ⟨k, hk, hbs⟩, rfl, rfl⟩ hrec
    by_cases hlt : i < j
    · obtain ⟨k, rfl⟩ : ∃ k', k = k' + 1 := ⟨k - 1, by omega⟩
      rw [bs, if_pos hlt] at hbs
      have es : IntKind.i64.wrap (zi + zj) = ((i + j : Nat) : Int) := by rw [wrap64 (by omega) (by omega)]; omega
      have eh := half_eq es (by omega)
      obtain ⟨h, hh0⟩ : ∃ h, h = (i + j) / 2 := ⟨_, rfl⟩
      rw [← hh0] at eh hbs
      have hh : h < l.length := by omega
      have hph : mid + m - 1 - h < l.length := by omega
      have ev : ∀ z : Int, z = (h : Int) → IntKind.i64.wrap (zp - z) = ((mid + m - 1 - h : Nat) : Int) := fun z hz => by rw [wrap64 (by omega) (by omega)]; omega
      have epc := ev _ eh
      have hpv : p h = !decide (co l[mid + m - 1 - h] l[h] < 0) := by rw [hp]; exact congrArg _ (ltA_eq hph hh)
      have cc := hcmp l l[mid + m - 1 - h] l[h] (hD _ (List.getElem_mem hph)) (hD _ (List.getElem_mem hh))
      rw [hpv] at hbs
      generalize co l[mid + m - 1 - h] l[h] = o at cc hbs
      repeat' first|refine yaG ?_|((first|apply yG|apply yH|apply yI);exact rfl;(first|exact aop_si rfl rfl eh rfl hh|exact aop_si rfl rfl epc rfl hph|exact aop_sl rfl hh|exact aop_sl rfl hph))|(exfalso;omega)|(refine yaS ?_ ?_<;>intro _)
      refine Go.scall _ rfl rfl rfl cc ?_
      rintro r τ ⟨rfl, rfl⟩
      have up : bs p f0 s0 r0 = bs p k (h + 1) j → ∀ fr τ, fr = [(0, AV.c (.sl F.id F.v 0 l.length c)), (1, .c (.int .i64 za)), (2, .c (.int .i64 zm)), (3, .c (.int .i64 zb)), (4, .c (.fn g pre cap)), (18, .c (.int .i64 zd)), (19, .c (.int .i64 zn)), (20, .c (.int .i64 (IntKind.i64.wrap (IntKind.i64.wrap ((IntKind.u64.wrap (IntKind.i64.wrap (zi + zj))).fdiv (2 ^ (min (1 : Int).toNat IntKind.u64.bits))) + 1)))), (21, .c (.int .i64 zj)), (22, .c (.int .i64 zp))] → τ = F.S l → _ := fun e fr τ p1 p2 => hrec (j - (h + 1)) fr τ (by omega) ⟨h + 1, j, _, _, _, _, _, rfl, by omega, by omega, hjr, wrap_succ eh (by omega), hzj, hzd, hzn, hzp, ⟨k, by omega, e⟩, p1, p2⟩
      have dn : bs p f0 s0 r0 = bs p k i h → ∀ fr τ, fr = [(0, AV.c (.sl F.id F.v 0 l.length c)), (1, .c (.int .i64 za)), (2, .c (.int .i64 zm)), (3, .c (.int .i64 zb)), (4, .c (.fn g pre cap)), (18, .c (.int .i64 zd)), (19, .c (.int .i64 zn)), (20, .c (.int .i64 zi)), (21, .c (.int .i64 (IntKind.i64.wrap ((IntKind.u64.wrap (IntKind.i64.wrap (zi + zj))).fdiv (2 ^ (min (1 : Int).toNat IntKind.u64.bits)))))), (22, .c (.int .i64 zp))] → τ = F.S l → _ := fun e fr τ p1 p2 => hrec (h - i) fr τ (by omega) ⟨i, h, _, _, _, _, _, rfl, hsi, by omega, by omega, hzi, eh, hzd, hzn, hzp, ⟨k, by omega, e⟩, p1, p2⟩
      clear hrec eh epc ev
      by_cases ho : o < 0
      · rw [if_neg (by simp [ho])] at hbs
        repeat' first|refine yaG ?_|(exfalso;omega)|(refine yaS ?_ ?_<;>intro _)
        all_goals first
          | exact Go.keep [0, 1, 2, 3, 4, 18, 19, 20, 21, 22] (dn hbs _ _ rfl rfl)
          | (exfalso; simp_all; done)
          | (exfalso; simp_all; omega)
      · rw [if_pos (by simp [ho])] at hbs
        repeat' first|refine yaG ?_|(exfalso;omega)|(refine yaS ?_ ?_<;>intro _)
        all_goals first
          | exact Go.keep [0, 1, 2, 3, 4, 18, 19, 20, 21, 22] (up hbs _ _ rfl rfl)
          | (exfalso; simp_all; done)
          | (exfalso; simp_all; omega)
    · rw [bs_end hlt] at hbs
      rw [hbs] at hbi ⊢
      clear hrec hbs hp hk hst hcmp
      obtain ⟨s, hs⟩ : ∃ s, s = i := ⟨_, rfl⟩
      rw [← hs] at hbi hzi ⊢
      obtain ⟨e, he⟩ : ∃ e, e = mid + m - s := ⟨_, rfl⟩
      rw [← he]
      have eend : IntKind.i64.wrap (zn - zi) = (e : Int) := by rw [wrap64 (by omega) (by omega)]; omega
      by_cases q1 : s < m ∧ m < e
      · rw [if_pos q1]
        have len1 : (rotF s m e l).length = l.length := rot_len
        have D1 : ∀ x ∈ rotF s m e l, D x := fun x hx => hD x (rot_mem hx)
        have cr := rotate_ok hm hc' hc'' F l s m e c zi zm (IntKind.i64.wrap (zn - zi)) hzi hzm eend (.fn g pre cap) q1.1 q1.2 (by omega) hx
        repeat' first|refine yaG ?_|(exfalso;omega)|(refine yaS ?_ ?_<;>intro _)
        all_goals first
          | (exfalso; omega)
          | skip
        refine .call _ rfl rfl rfl cr ?_
        rintro r τ ⟨rfl, rfl⟩
        generalize rotF s m e l = l1 at len1 D1 ⊢
        by_cases q2 : a < s ∧ s < mid
        · rw [if_pos q2]
          have c2 := ih l1 a s mid za zi zd len1 ha hzi hzd D1 (by omega) q2.1 q2.2 (by omega)
          have len2 : (sym co d a s mid l1).length = l.length := sym_len.trans len1
          have D2 : ∀ x ∈ sym co d a s mid l1, D x := fun x hx => D1 x (sym_mem hx)
          repeat' first|refine yaG ?_|(exfalso;omega)|(refine yaS ?_ ?_<;>intro _)
          all_goals first
            | (exfalso; omega)
            | skip
          refine .call _ rfl rfl rfl c2 ?_
          rintro r τ ⟨rfl, rfl⟩
          generalize sym co d a s mid l1 = l2 at len2 D2 ⊢
          by_cases q3 : mid < e ∧ e < b
          · rw [if_pos q3]
            have c3 := ih l2 mid e b zd (IntKind.i64.wrap (zn - zi)) zb len2 hzd eend hb D2 (by omega) q3.1 q3.2 (by omega)
            repeat' first|refine yaG ?_|(exfalso;omega)|(refine yaS ?_ ?_<;>intro _)
            all_goals first
              | (exfalso; omega)
              | skip
            refine .call _ rfl rfl rfl c3 ?_
            rintro r τ ⟨rfl, rfl⟩
            repeat' first|refine yaG ?_|(exfalso;omega)|(refine yaS ?_ ?_<;>intro _)
            exact .fin rfl ⟨rfl, rfl⟩
          · rw [if_neg q3]
            repeat' first|refine yaG ?_|(exfalso;omega)|(refine yaS ?_ ?_<;>intro _)
            all_goals first
              | (exfalso; omega)
              | exact .fin rfl ⟨rfl, rfl⟩
        · rw [if_neg q2]
          by_cases q3 : mid < e ∧ e < b
          · rw [if_pos q3]
            exfalso
            omega
          · rw [if_neg q3]
            repeat' first|refine yaG ?_|(exfalso;omega)|(refine yaS ?_ ?_<;>intro _)
            all_goals first
              | (exfalso; omega)
              | exact .fin rfl ⟨rfl, rfl⟩
      · rw [if_neg q1]
        have len1 : l.length = l.length := rfl
        by_cases q2 : a < s ∧ s < mid
        · rw [if_pos q2]
          exfalso
          omega
        · rw [if_neg q2]
          by_cases q3 : mid < e ∧ e < b
          · rw [if_pos q3]
            have c3 := ih l mid e b zd (IntKind.i64.wrap (zn - zi)) zb len1 hzd eend hb hD (by omega) q3.1 q3.2 (by omega)
            repeat' first|refine yaG ?_|(exfalso;omega)|(refine yaS ?_ ?_<;>intro _)
            all_goals first
              | (exfalso; omega)
              | skip
            refine .call _ rfl rfl rfl c3 ?_
            rintro r τ ⟨rfl, rfl⟩
            repeat' first|refine yaG ?_|(exfalso;omega)|(refine yaS ?_ ?_<;>intro _)
            exact .fin rfl ⟨rfl, rfl⟩
          · rw [if_neg q3]
            repeat' first|refine yaG ?_|(exfalso;omega)|(refine yaS ?_ ?_<;>intro _)
            all_goals first
              | (exfalso; omega)
              | exact .fin rfl ⟨rfl, rfl⟩
  · have HS : za = (s0 : Int) := by rw [hs0, if_neg hq]; exact ha
    have HR : zm = (r0 : Int) := by rw [hr0, if_neg hq]; exact hzm
    have hlq : ¬ zm > IntKind.i64.wrap ((IntKind.u64.wrap (IntKind.i64.wrap (za + zb))).fdiv (2 ^ (min (1 : Int).toNat IntKind.u64.bits))) := by rw [emid]; omega
    repeat' first|refine yaG ?_|(exfalso;omega)|(refine yaS ?_ ?_<;>intro _)
    all_goals first
      | contradiction
      | skip
    refine Go.keep [0, 1, 2, 3, 4, 18, 19, 20, 21, 22] (Go.loops (I := fun mm fr τ => ∃ (i j : Nat) (zi zj zd zn zp : Int), mm = j - i ∧ s0 ≤ i ∧ i ≤ j ∧ j ≤ r0 ∧ zi = i ∧ zj = j ∧ zd = (mid : Nat) ∧ zn = ((mid + m : Nat) : Int) ∧ zp = ((mid + m - 1 : Nat) : Int) ∧ (∃ k, j - i ≤ k ∧ bs p f0 s0 r0 = bs p k i j) ∧
      fr = [(0, .c (.sl F.id F.v 0 l.length c)), (1, .c (.int .i64 za)), (2, .c (.int .i64 zm)), (3, .c (.int .i64 zb)), (4, .c (.fn g pre cap)), (18, .c (.int .i64 zd)), (19, .c (.int .i64 zn)), (20, .c (.int .i64 zi)), (21, .c (.int .i64 zj)), (22, .c (.int .i64 zp))] ∧ τ = F.S l) ?_ _ _ _ ⟨s0, r0, _, _, _, _, _, rfl, Nat.le_refl _, hrange.1, Nat.le_refl _, HS, HR, emid, en, ep, ⟨f0, hrange.2.2.2.2.1, rfl⟩, rfl, rfl⟩)
    clear emid en ep hes es hzmid
    clear zmid
    rintro mm fr τ ⟨i, j, zi, zj, zd, zn, zp, hmm, hsi, hij, hjr, hzi, hzj, hzd, hzn, hzp, ⟨k, hk, hbs⟩, rfl, rfl⟩ hrec
    by_cases hlt : i < j
    · obtain ⟨k, rfl⟩ : ∃ k', k = k' + 1 := ⟨k - 1, by omega⟩
      rw [bs, if_pos hlt] at hbs
      have es : IntKind.i64.wrap (zi + zj) = ((i + j : Nat) : Int) := by rw [wrap64 (by omega) (by omega)]; omega
      have eh := half_eq es (by omega)
      obtain ⟨h, hh0⟩ : ∃ h, h = (i + j) / 2 := ⟨_, rfl⟩
      rw [← hh0] at eh hbs
      have hh : h < l.length := by omega
      have hph : mid + m - 1 - h < l.length := by omega
      have ev : ∀ z : Int, z = (h : Int) → IntKind.i64.wrap (zp - z) = ((mid + m - 1 - h : Nat) : Int) := fun z hz => by rw [wrap64 (by omega) (by omega)]; omega
      have epc := ev _ eh
      have hpv : p h = !decide (co l[mid + m - 1 - h] l[h] < 0) := by rw [hp]; exact congrArg _ (ltA_eq hph hh)
      have cc := hcmp l l[mid + m - 1 - h] l[h] (hD _ (List.getElem_mem hph)) (hD _ (List.getElem_mem hh))
      rw [hpv] at hbs
      generalize co l[mid + m - 1 - h] l[h] = o at cc hbs
      repeat' first|refine yaG ?_|((first|apply yG|apply yH|apply yI);exact rfl;(first|exact aop_si rfl rfl eh rfl hh|exact aop_si rfl rfl epc rfl hph|exact aop_sl rfl hh|exact aop_sl rfl hph))|(exfalso;omega)|(refine yaS ?_ ?_<;>intro _)
      refine Go.scall _ rfl rfl rfl cc ?_
      rintro r τ ⟨rfl, rfl⟩
      have up : bs p f0 s0 r0 = bs p k (h + 1) j → ∀ fr τ, fr = [(0, AV.c (.sl F.id F.v 0 l.length c)), (1, .c (.int .i64 za)), (2, .c (.int .i64 zm)), (3, .c (.int .i64 zb)), (4, .c (.fn g pre cap)), (18, .c (.int .i64 zd)), (19, .c (.int .i64 zn)), (20, .c (.int .i64 (IntKind.i64.wrap (IntKind.i64.wrap ((IntKind.u64.wrap (IntKind.i64.wrap (zi + zj))).fdiv (2 ^ (min (1 : Int).toNat IntKind.u64.bits))) + 1)))), (21, .c (.int .i64 zj)), (22, .c (.int .i64 zp))] → τ = F.S l → _ := fun e fr τ p1 p2 => hrec (j - (h + 1)) fr τ (by omega) ⟨h + 1, j, _, _, _, _, _, rfl, by omega, by omega, hjr, wrap_succ eh (by omega), hzj, hzd, hzn, hzp, ⟨k, by omega, e⟩, p1, p2⟩
      have dn : bs p f0 s0 r0 = bs p k i h → ∀ fr τ, fr = [(0, AV.c (.sl F.id F.v 0 l.length c)), (1, .c (.int .i64 za)), (2, .c (.int .i64 zm)), (3, .c (.int .i64 zb)), (4, .c (.fn g pre cap)), (18, .c (.int .i64 zd)), (19, .c (.int .i64 zn)), (20, .c (.int .i64 zi)), (21, .c (.int .i64 (IntKind.i64.wrap ((IntKind.u64.wrap (IntKind.i64.wrap (zi + zj))).fdiv (2 ^ (min (1 : Int).toNat IntKind.u64.bits)))))), (22, .c (.int .i64 zp))] → τ = F.S l → _ := fun e fr τ p1 p2 => hrec (h - i) fr τ (by omega) ⟨i, h, _, _, _, _, _, rfl, hsi, by omega, by omega, hzi, eh, hzd, hzn, hzp, ⟨k, by omega, e⟩, p1, p2⟩
      clear hrec eh epc ev
      by_cases ho : o < 0
      · rw [if_neg (by simp [ho])] at hbs
        repeat' first|refine yaG ?_|(exfalso;omega)|(refine yaS ?_ ?_<;>intro _)
        all_goals first
          | exact Go.keep [0, 1, 2, 3, 4, 18, 19, 20, 21, 22] (dn hbs _ _ rfl rfl)
          | (exfalso; simp_all; done)
          | (exfalso; simp_all; omega)
      · rw [if_pos (by simp [ho])] at hbs
        repeat' first|refine yaG ?_|(exfalso;omega)|(refine yaS ?_ ?_<;>intro _)
        all_goals first
          | exact Go.keep [0, 1, 2, 3, 4, 18, 19, 20, 21, 22] (up hbs _ _ rfl rfl)
          | (exfalso; simp_all; done)
          | (exfalso; simp_all; omega)
    · rw [bs_end hlt] at hbs
      rw [hbs] at hbi ⊢
      clear hrec hbs hp hk hst hcmp
      obtain ⟨s, hs⟩ : ∃ s, s = i := ⟨_, rfl⟩
      rw [← hs] at hbi hzi ⊢
      obtain ⟨e, he⟩ : ∃ e, e = mid + m - s := ⟨_, rfl⟩
      rw [← he]
      have eend : IntKind.i64.wrap (zn - zi) = (e : Int) := by rw [wrap64 (by omega) (by omega)]; omega
      by_cases q1 : s < m ∧ m < e
      · rw [if_pos q1]
        have len1 : (rotF s m e l).length = l.length := rot_len
        have D1 : ∀ x ∈ rotF s m e l, D x := fun x hx => hD x (rot_mem hx)
        have cr := rotate_ok hm hc' hc'' F l s m e c zi zm (IntKind.i64.wrap (zn - zi)) hzi hzm eend (.fn g pre cap) q1.1 q1.2 (by omega) hx
        repeat' first|refine yaG ?_|(exfalso;omega)|(refine yaS ?_ ?_<;>intro _)
        all_goals first
          | (exfalso; omega)
          | skip
        refine .call _ rfl rfl rfl cr ?_
        rintro r τ ⟨rfl, rfl⟩
        generalize rotF s m e l = l1 at len1 D1 ⊢
        by_cases q2 : a < s ∧ s < mid
        · rw [if_pos q2]
          have c2 := ih l1 a s mid za zi zd len1 ha hzi hzd D1 (by omega) q2.1 q2.2 (by omega)
          have len2 : (sym co d a s mid l1).length = l.length := sym_len.trans len1
          have D2 : ∀ x ∈ sym co d a s mid l1, D x := fun x hx => D1 x (sym_mem hx)
          repeat' first|refine yaG ?_|(exfalso;omega)|(refine yaS ?_ ?_<;>intro _)
          all_goals first
            | (exfalso; omega)
            | skip
          refine .call _ rfl rfl rfl c2 ?_
          rintro r τ ⟨rfl, rfl⟩
          generalize sym co d a s mid l1 = l2 at len2 D2 ⊢
          by_cases q3 : mid < e ∧ e < b
          · rw [if_pos q3]
            have c3 := ih l2 mid e b zd (IntKind.i64.wrap (zn - zi)) zb len2 hzd eend hb D2 (by omega) q3.1 q3.2 (by omega)
            repeat' first|refine yaG ?_|(exfalso;omega)|(refine yaS ?_ ?_<;>intro _)
            all_goals first
              | (exfalso; omega)
              | skip
            refine .call _ rfl rfl rfl c3 ?_
            rintro r τ ⟨rfl, rfl⟩
            repeat' first|refine yaG ?_|(exfalso;omega)|(refine yaS ?_ ?_<;>intro _)
            exact .fin rfl ⟨rfl, rfl⟩
          · rw [if_neg q3]
            repeat' first|refine yaG ?_|(exfalso;omega)|(refine yaS ?_ ?_<;>intro _)
            all_goals first
              | (exfalso; omega)
              | exact .fin rfl ⟨rfl, rfl⟩
        · rw [if_neg q2]
          by_cases q3 : mid < e ∧ e < b
          · rw [if_pos q3]
            have c3 := ih l1 mid e b zd (IntKind.i64.wrap (zn - zi)) zb len1 hzd eend hb D1 (by omega) q3.1 q3.2 (by omega)
            repeat' first|refine yaG ?_|(exfalso;omega)|(refine yaS ?_ ?_<;>intro _)
            all_goals first
              | (exfalso; omega)
              | skip
            refine .call _ rfl rfl rfl c3 ?_
            rintro r τ ⟨rfl, rfl⟩
            repeat' first|refine yaG ?_|(exfalso;omega)|(refine yaS ?_ ?_<;>intro _)
            exact .fin rfl ⟨rfl, rfl⟩
          · rw [if_neg q3]
            repeat' first|refine yaG ?_|(exfalso;omega)|(refine yaS ?_ ?_<;>intro _)
            all_goals first
              | (exfalso; omega)
              | exact .fin rfl ⟨rfl, rfl⟩
      · rw [if_neg q1]
        have len1 : l.length = l.length := rfl
        by_cases q2 : a < s ∧ s < mid
        · rw [if_pos q2]
          have c2 := ih l a s mid za zi zd len1 ha hzi hzd hD (by omega) q2.1 q2.2 (by omega)
          have len2 : (sym co d a s mid l).length = l.length := sym_len.trans len1
          have D2 : ∀ x ∈ sym co d a s mid l, D x := fun x hx => hD x (sym_mem hx)
          repeat' first|refine yaG ?_|(exfalso;omega)|(refine yaS ?_ ?_<;>intro _)
          all_goals first
            | (exfalso; omega)
            | skip
          refine .call _ rfl rfl rfl c2 ?_
          rintro r τ ⟨rfl, rfl⟩
          generalize sym co d a s mid l = l2 at len2 D2 ⊢
          by_cases q3 : mid < e ∧ e < b
          · rw [if_pos q3]
            exfalso
            omega
          · rw [if_neg q3]
            repeat' first|refine yaG ?_|(exfalso;omega)|(refine yaS ?_ ?_<;>intro _)
            all_goals first
              | (exfalso; omega)
              | exact .fin rfl ⟨rfl, rfl⟩
        · rw [if_neg q2]
          by_cases q3 : mid < e ∧ e < b
          · rw [if_pos q3]
            exfalso
            omega
          · rw [if_neg q3]
            repeat' first|refine yaG ?_|(exfalso;omega)|(refine yaS ?_ ?_<;>intro _)
            all_goals first
              | (exfalso; omega)
              | exact .fin rfl ⟨rfl, rfl⟩
end Go.Proofs.YtinbdedlmkjokaaGreat.Am

/- Sorting in place: the whole stable sort. -/
set_option linter.unusedVariables false
set_option linter.unusedSimpArgs false
namespace Go.Proofs.YtinbdedlmkjokaaGreat.Am

/-- The sort's functions, where they are. -/
structure Sorts (P : Program) : Prop where
  hm : P.follows .mixedOrders = true
  sym : ∃ fz, compFn P fz 234 = some c_slices_symMergeCmpFunc_Row
  rot : ∃ fz, compFn P fz 285 = some c_slices_rotateCmpFunc_Row
  swr : ∃ fz, compFn P fz 300 = some c_slices_swapRangeCmpFunc_Row
  ins : ∃ fz, compFn P fz 233 = some c_slices_insertionSortCmpFunc_Row
  stb : ∃ fz, compFn P fz 166 = some c_slices_stableCmpFunc_Row
theorem sym_ok {P : Program} (hs : Sorts P) {α : Type} (F : Fam α) (D : α → Prop) (co : α → α → Int) (g : Nat) (pre cap : List Ce) (hcmp : Cmps P F D co g pre cap) (N c : Nat) (hN : N ≤ 34359738368) :
    ∀ (d : Nat) (l : List α) (a m b : Nat) (za zm zb : Int), l.length = N → za = a → zm = m → zb = b → (∀ x ∈ l, D x) → b ≤ l.length → a < m → m < b → b - a ≤ d → Ok P 234 [.c (.sl F.id F.v 0 N c), .c (.int .i64 za), .c (.int .i64 zm), .c (.int .i64 zb), .c (.fn g pre cap)] (F.S l) (fun r τ => r = .tup [] ∧ τ = F.S (sym co d a m b l))
  | 0, l, a, m, b, za, zm, zb, h0, ha, hzm, hb, hD, h3, hab, hmb, hd => by omega
  | d + 1, l, a, m, b, za, zm, zb, h0, ha, hzm, hb, hD, h3, hab, hmb, hd => by
    obtain ⟨fz, hc⟩ := hs.sym
    obtain ⟨fz', hc'⟩ := hs.rot
    obtain ⟨fz'', hc''⟩ := hs.swr
    by_cases h1 : m - a = 1
    · have := symA_ok hs.hm hc F D co g pre cap hcmp l a m b c za zm zb ha hzm hb hD h3 hab hmb (by omega) h1
      rw [h0] at this
      rw [sym, if_pos h1]
      exact this
    · by_cases h2 : b - m = 1
      · have := symB_ok hs.hm hc F D co g pre cap hcmp l a m b c za zm zb ha hzm hb hD h3 hab hmb (by omega) h1 h2
        rw [h0] at this
        rw [sym, if_neg h1, if_pos h2]
        exact this
      · exact symC_ok hs.hm hc hc' hc'' F D co g pre cap hcmp N c d (sym_ok hs F D co g pre cap hcmp N c hN d) l a m b za zm zb h0 ha hzm hb hD h3 hab hmb (by omega) (by omega) h1 h2
def blk {α : Type} (c : α → α → Int) (n : Nat) : Nat → Nat → List α → List α
  | 0, _, l => l
  | k + 1, a, l => if a + 20 ≤ n then blk c n k (a + 20) (insF c a (a + 20) l) else insF c a n l
def mrg {α : Type} (c : α → α → Int) (n w : Nat) : Nat → Nat → List α → List α
  | 0, _, l => l
  | k + 1, a, l => if a + 2 * w ≤ n then mrg c n w k (a + 2 * w) (sym c (2 * w) a (a + w) (a + 2 * w) l) else if a + w < n then sym c (n - a) a (a + w) n l else l
def mrgs {α : Type} (c : α → α → Int) (n : Nat) : Nat → Nat → List α → List α
  | 0, _, l => l
  | k + 1, w, l => if w < n then mrgs c n k (2 * w) (mrg c n w (n + 1) 0 l) else l
def stableF {α : Type} (c : α → α → Int) (l : List α) : List α := mrgs c l.length (l.length + 1) 20 (blk c l.length (l.length + 1) 0 l)
theorem insF_len {α : Type} {c : α → α → Int} {a b : Nat} {l : List α} : (insF c a b l).length = l.length := insOut_len
theorem insF_mem {α : Type} {c : α → α → Int} {a b : Nat} {l : List α} {x : α} (h : x ∈ insF c a b l) : x ∈ l := insOut_mem h
theorem stable_ok {P : Program} (hs : Sorts P) {α : Type} (F : Fam α) (D : α → Prop) (co : α → α → Int) (g : Nat) (pre cap : List Ce) (hcmp : Cmps P F D co g pre cap) (l : List α) (c : Nat) (hD : ∀ x ∈ l, D x) (hx : l.length ≤ 34359738368) :
    Ok P 166 [.c (.sl F.id F.v 0 l.length c), .c (.int .i64 (l.length : Int)), .c (.fn g pre cap)] (F.S l) (fun r τ => r = .tup [] ∧ τ = F.S (stableF co l)) := by
  obtain ⟨fzs, hst⟩ := hs.stb
  obtain ⟨fzi, hins⟩ := hs.ins
  have hsym := sym_ok hs F D co g pre cap hcmp l.length c hx
  refine .of_go hs.hm hst (Nat.le_of_ble_eq_true rfl) ?_
  obtain ⟨n, hn⟩ : ∃ n, n = l.length := ⟨_, rfl⟩
  rw [stableF, ← hn]
  obtain ⟨res, hres⟩ : ∃ res, res = mrgs co n (n + 1) 20 (blk co n (n + 1) 0 l) := ⟨_, rfl⟩
  rw [← hres]
  rw [← hn] at hsym hx
  obtain ⟨bl, hbl0⟩ : ∃ x, x = blk co n (n + 1) 0 l := ⟨_, rfl⟩
  rw [← hbl0] at hres
  repeat' first|refine yaG ?_|(exfalso;omega)|(refine yaS ?_ ?_<;>intro _)
  refine Go.keep [0, 1, 2, 6, 7, 8] (Go.loops (I := fun mm fr τ => ∃ (a : Nat) (za zb : Int) (q : List α), mm = n - a ∧ a ≤ n ∧ za = a ∧ zb = ((a + 20 : Nat) : Int) ∧ q.length = n ∧ (∀ x ∈ q, D x) ∧ (∃ k, n - a < k ∧ bl = blk co n k a q) ∧
    fr = [(0, .c (.sl F.id F.v 0 n c)), (1, .c (.int .i64 (n : Int))), (2, .c (.fn g pre cap)), (6, .c (.int .i64 20)), (7, .c (.int .i64 za)), (8, .c (.int .i64 zb))] ∧ τ = F.S q) ?_ _ _ _ ⟨0, _, _, l, rfl, Nat.zero_le _, rfl, rfl, hn.symm, hD, ⟨n + 1, by omega, hbl0⟩, rfl, rfl⟩)
  rintro mm fr τ ⟨a, za, zb, q, hmm, han, hza, hzb, hql, hqD, ⟨k, hk, hbl⟩, rfl, rfl⟩ hrec
  obtain ⟨k, rfl⟩ : ∃ k', k = k' + 1 := ⟨k - 1, by omega⟩
  rw [blk] at hbl
  by_cases hlt : a + 20 ≤ n
  · rw [if_pos hlt] at hbl
    have ci := insertion_ok hs.hm hins F D co g pre cap hcmp q a (a + 20) c za zb hza hzb hqD (by omega) (by omega) (by omega)
    rw [hql] at ci
    have e1 : IntKind.i64.wrap (zb + 20) = ((a + 20 + 20 : Nat) : Int) := by rw [wrap64 (by omega) (by omega)]; omega
    repeat' first|refine yaG ?_|(exfalso;omega)|(refine yaS ?_ ?_<;>intro _)
    refine .call _ rfl rfl rfl ci ?_
    rintro r τ ⟨rfl, rfl⟩
    repeat' first|refine yaG ?_|(exfalso;omega)|(refine yaS ?_ ?_<;>intro _)
    exact Go.keep [0, 1, 2, 6, 7, 8] (hrec _ _ _ (by omega) ⟨a + 20, _, _, _, rfl, hlt, hzb, e1, by rw [insF_len]; exact hql, fun x hx => hqD x (insF_mem hx), ⟨k, by omega, hbl⟩, rfl, rfl⟩)
  · rw [if_neg hlt] at hbl
    have ci := insertion_ok hs.hm hins F D co g pre cap hcmp q a n c za n hza rfl hqD (by omega) han (by omega)
    rw [hql] at ci
    clear hrec
    repeat' first|refine yaG ?_|(exfalso;omega)|(refine yaS ?_ ?_<;>intro _)
    refine .call _ rfl rfl rfl ci ?_
    rintro r τ ⟨rfl, rfl⟩
    rw [hbl] at hres
    have hul : (insF co a n q).length = n := by rw [insF_len]; exact hql
    have huD : ∀ x ∈ insF co a n q, D x := fun x hx => hqD x (insF_mem hx)
    generalize insF co a n q = u at hul huD hres ⊢
    clear hbl hbl0 hqD hql hD ci hlt
    repeat' first|refine yaG ?_|(exfalso;omega)|(refine yaS ?_ ?_<;>intro _)
    refine Go.keep [0, 1, 2, 6] (Go.loops (I := fun mm fr τ => ∃ (w : Nat) (zw : Int) (q : List α), mm = n - w ∧ 20 ≤ w ∧ w ≤ 4 * 34359738368 ∧ zw = w ∧ q.length = n ∧ (∀ x ∈ q, D x) ∧ (∃ k, n - w < k ∧ res = mrgs co n k w q) ∧
      fr = [(0, .c (.sl F.id F.v 0 n c)), (1, .c (.int .i64 (n : Int))), (2, .c (.fn g pre cap)), (6, .c (.int .i64 zw))] ∧ τ = F.S q) ?_ _ _ _ ⟨20, _, u, rfl, Nat.le_refl _, by omega, rfl, hul, huD, ⟨n + 1, by omega, hres⟩, rfl, rfl⟩)
    clear hul huD hres
    clear u
    rintro mm fr τ ⟨w, zw, u, hmm, hw20, hwb, hzw, hul, huD, ⟨k, hk, hres⟩, rfl, rfl⟩ hrec
    obtain ⟨k, rfl⟩ : ∃ k', k = k' + 1 := ⟨k - 1, by omega⟩
    rw [mrgs] at hres
    by_cases hwn : w < n
    · rw [if_pos hwn] at hres
      have e2 : IntKind.i64.wrap (2 * zw) = ((2 * w : Nat) : Int) := by rw [wrap64 (by omega) (by omega)]; omega
      have e2' : IntKind.i64.wrap (zw * 2) = ((2 * w : Nat) : Int) := by rw [wrap64 (by omega) (by omega)]; omega
      obtain ⟨mg, hmg⟩ : ∃ x, x = mrg co n w (n + 1) 0 u := ⟨_, rfl⟩
      rw [← hmg] at hres
      have out : ∀ q : List α, q.length = n → (∀ x ∈ q, D x) → mg = q → ∀ fr τ, fr = [(0, AV.c (.sl F.id F.v 0 n c)), (1, .c (.int .i64 (n : Int))), (2, .c (.fn g pre cap)), (6, .c (.int .i64 (IntKind.i64.wrap (zw * 2))))] → τ = F.S q → _ := fun q p1 p2 p3 fr τ p4 p5 =>
        hrec (n - 2 * w) fr τ (by omega) ⟨2 * w, _, q, rfl, by omega, by omega, e2', p1, p2, ⟨k, by omega, by rw [← p3]; exact hres⟩, p4, p5⟩
      clear hrec hres
      repeat' first|refine yaG ?_|(exfalso;omega)|(refine yaS ?_ ?_<;>intro _)
      refine Go.keep [0, 1, 2, 6, 7, 8] (Go.loops (I := fun mm fr τ => ∃ (a : Nat) (za zb : Int) (q : List α), mm = n - a ∧ a ≤ n ∧ za = a ∧ zb = ((a + 2 * w : Nat) : Int) ∧ q.length = n ∧ (∀ x ∈ q, D x) ∧ (∃ k, n - a < k ∧ mg = mrg co n w k a q) ∧
        fr = [(0, .c (.sl F.id F.v 0 n c)), (1, .c (.int .i64 (n : Int))), (2, .c (.fn g pre cap)), (6, .c (.int .i64 zw)), (7, .c (.int .i64 za)), (8, .c (.int .i64 zb))] ∧ τ = F.S q) ?_ _ _ _ ⟨0, _, _, u, rfl, Nat.zero_le _, rfl, by rw [e2]; omega, hul, huD, ⟨n + 1, by omega, hmg⟩, rfl, rfl⟩)
      rintro mm fr τ ⟨a, za, zb, q, hmm, han, hza, hzb, hql, hqD, ⟨k, hk, hbl⟩, rfl, rfl⟩ hrec
      obtain ⟨k, rfl⟩ : ∃ k', k = k' + 1 := ⟨k - 1, by omega⟩
      rw [mrg] at hbl
      have ea : IntKind.i64.wrap (za + zw) = ((a + w : Nat) : Int) := by rw [wrap64 (by omega) (by omega)]; omega
      by_cases hlt : a + 2 * w ≤ n
      · rw [if_pos hlt] at hbl
        have ci := hsym (2 * w) q a (a + w) (a + 2 * w) za _ zb hql hza ea hzb hqD (by omega) (by omega) (by omega) (by omega)
        have e1 : IntKind.i64.wrap (zb + IntKind.i64.wrap (2 * zw)) = ((a + 2 * w + 2 * w : Nat) : Int) := by rw [e2, wrap64 (by omega) (by omega)]; omega
        repeat' first|refine yaG ?_|(exfalso;omega)|(refine yaS ?_ ?_<;>intro _)
        refine .call _ rfl rfl rfl ci ?_
        rintro r τ ⟨rfl, rfl⟩
        repeat' first|refine yaG ?_|(exfalso;omega)|(refine yaS ?_ ?_<;>intro _)
        exact Go.keep [0, 1, 2, 6, 7, 8] (hrec _ _ _ (by omega) ⟨a + 2 * w, _, _, _, rfl, hlt, hzb, e1, by rw [sym_len]; exact hql, fun x hx => hqD x (sym_mem hx), ⟨k, by omega, hbl⟩, rfl, rfl⟩)
      · rw [if_neg hlt] at hbl
        clear hrec
        by_cases ham : a + w < n
        · rw [if_pos ham] at hbl
          have ci := hsym (n - a) q a (a + w) n za _ n hql hza ea rfl hqD (by omega) (by omega) ham (by omega)
          repeat' first|refine yaG ?_|(exfalso;omega)|(refine yaS ?_ ?_<;>intro _)
          all_goals first
            | (exfalso; omega)
            | skip
          refine .call _ rfl rfl rfl ci ?_
          rintro r τ ⟨rfl, rfl⟩
          repeat' first|refine yaG ?_|(exfalso;omega)|(refine yaS ?_ ?_<;>intro _)
          exact Go.keep [0, 1, 2, 6] (out _ (by rw [sym_len]; exact hql) (fun x hx => hqD x (sym_mem hx)) hbl _ _ rfl rfl)
        · rw [if_neg ham] at hbl
          repeat' first|refine yaG ?_|(exfalso;omega)|(refine yaS ?_ ?_<;>intro _)
          all_goals first
            | (exfalso; omega)
            | exact Go.keep [0, 1, 2, 6] (out _ hql hqD hbl _ _ rfl rfl)
    · rw [if_neg hwn] at hres
      repeat' first|refine yaG ?_|(exfalso;omega)|(refine yaS ?_ ?_<;>intro _)
      exact .fin rfl ⟨rfl, by rw [hres]⟩
theorem sortStable_ok {P : Program} (hs : Sorts P) {fz : List Nat} {n : Nat} (hc : compFn P fz n = some c_slices_SortStableFunc_Row) {α : Type} (F : Fam α) (D : α → Prop) (co : α → α → Int) (g : Nat) (pre cap : List Ce) (hcmp : Cmps P F D co g pre cap) (l : List α) (c : Nat) (hD : ∀ x ∈ l, D x) (hx : l.length ≤ 34359738368) :
    Ok P n [.c (.sl F.id F.v 0 l.length c), .c (.fn g pre cap)] (F.S l) (fun r τ => r = .tup [] ∧ τ = F.S (stableF co l)) := by
  refine .of_go hs.hm hc (Nat.le_of_ble_eq_true rfl) ?_
  repeat' first|refine yaG ?_|(exfalso;omega)|(refine yaS ?_ ?_<;>intro _)
  refine .call _ rfl rfl rfl (stable_ok hs F D co g pre cap hcmp l c hD hx) ?_
  rintro r τ ⟨rfl, rfl⟩
  repeat' first|refine yaG ?_|(exfalso;omega)|(refine yaS ?_ ?_<;>intro _)
  exact .fin rfl ⟨rfl, rfl⟩
end Go.Proofs.YtinbdedlmkjokaaGreat.Am

/- The stable sort's plain law: swaps, rotations, shifts. -/
set_option linter.unusedVariables false
set_option linter.unusedSimpArgs false
namespace Go.Proofs.YtinbdedlmkjokaaGreat.Am

theorem sw_app {α : Type} {A B C : List α} {x y : α} : sw (A ++ x :: (B ++ y :: C)) A.length (A.length + 1 + B.length) = A ++ y :: (B ++ x :: C) := by
  have h1 : (A ++ x :: (B ++ y :: C))[A.length]? = some x := by simp
  have h2 : (A ++ x :: (B ++ y :: C))[A.length + 1 + B.length]? = some y := by
    rw [List.getElem?_append_right (by omega), show A.length + 1 + B.length - A.length = B.length + 1 by omega, List.getElem?_cons_succ]
    simp
  rw [sw, h1, h2]
  simp only
  rw [List.set_append_right _ _ (Nat.le_refl _), Nat.sub_self, List.set_cons_zero, List.set_append_right _ _ (by omega), show A.length + 1 + B.length - A.length = B.length + 1 by omega, List.set_cons_succ, List.set_append_right _ _ (Nat.le_refl _), Nat.sub_self, List.set_cons_zero]
theorem swR_app {α : Type} : ∀ {X Y A B C : List α} {i a b : Nat}, X.length = Y.length → a + i = A.length → b + i = A.length + X.length + B.length → swR a b X.length i (A ++ (X ++ (B ++ (Y ++ C)))) = A ++ (Y ++ (B ++ (X ++ C)))
  | [], [], A, B, C, i, a, b, _, _, _ => by simp [swR]
  | [], _ :: _, _, _, _, _, _, _, h, _, _ => by simp at h
  | _ :: _, [], _, _, _, _, _, _, h, _, _ => by simp at h
  | x :: X, y :: Y, A, B, C, i, a, b, h, ha, hb => by
    simp only [List.length_cons] at h hb ⊢
    rw [swR, ha, hb]
    have e1 : A ++ (x :: X ++ (B ++ (y :: Y ++ C))) = A ++ x :: ((X ++ B) ++ y :: (Y ++ C)) := by simp
    have e2 : A.length + (X.length + 1) + B.length = A.length + 1 + (X ++ B).length := by simp; omega
    rw [e1, e2, sw_app]
    have e3 : A ++ y :: ((X ++ B) ++ x :: (Y ++ C)) = (A ++ [y]) ++ (X ++ ((B ++ [x]) ++ (Y ++ C))) := by simp
    rw [e3, swR_app (X := X) (Y := Y) (A := A ++ [y]) (B := B ++ [x]) (by omega) (by simp; omega) (by simp; omega)]
    simp
theorem rot_app {α : Type} {m : Nat} : ∀ {n : Nat} {A I J C : List α}, 1 ≤ I.length → 1 ≤ J.length → I.length + J.length ≤ n + 1 → m = A.length + I.length → rot m n I.length J.length (A ++ (I ++ (J ++ C))) = A ++ (J ++ (I ++ C))
  | 0, A, I, J, C, h1, h2, h3, hm => by omega
  | n + 1, A, I, J, C, h1, h2, h3, hm => by
    rw [rot]
    split
    · rename_i e
      have := swR_app (X := I) (Y := J) (A := A) (B := []) (C := C) (i := 0) (a := m - I.length) (b := m) e (by omega) (by simp; omega)
      simpa using this
    · rename_i hne
      split
      · rename_i hlt
        obtain ⟨I1, I2, rfl, hl⟩ : ∃ I1 I2, I = I1 ++ I2 ∧ I1.length = J.length := ⟨I.take J.length, I.drop J.length, (List.take_append_drop _ _).symm, by simp; omega⟩
        simp only [List.length_append] at h1 h3 hm hlt hne ⊢
        have := swR_app (X := I1) (Y := J) (A := A) (B := I2) (C := C) (i := 0) (a := m - (I1.length + I2.length)) (b := m) hl (by omega) (by omega)
        rw [← hl, List.append_assoc, this]
        have ih := rot_app (m := m) (n := n) (A := A ++ J) (I := I2) (J := I1) (C := C) (by omega) (by omega) (by omega) (by simp; omega)
        rw [show I1.length + I2.length - I1.length = I2.length by omega]
        simpa using ih
      · obtain ⟨J1, J2, rfl, hl⟩ : ∃ J1 J2, J = J1 ++ J2 ∧ J2.length = I.length := ⟨J.take (J.length - I.length), J.drop (J.length - I.length), (List.take_append_drop _ _).symm, by simp; omega⟩
        rename_i hlt
        simp only [List.length_append] at h2 h3 hm hlt hne ⊢
        have := swR_app (X := I) (Y := J2) (A := A) (B := J1) (C := C) (i := 0) (a := m - I.length) (b := m + (J1.length + J2.length) - I.length) hl.symm (by omega) (by omega)
        rw [List.append_assoc J1, this]
        have ih := rot_app (m := m) (n := n) (A := A) (I := J2) (J := J1) (C := I ++ C) (by omega) (by omega) (by omega) (by omega)
        rw [show J1.length + J2.length - I.length = J1.length by omega, ← hl]
        rw [ih]
        simp
theorem rotF_app {α : Type} {A I J C : List α} (h1 : 1 ≤ I.length) (h2 : 1 ≤ J.length) : rotF A.length (A.length + I.length) (A.length + I.length + J.length) (A ++ (I ++ (J ++ C))) = A ++ (J ++ (I ++ C)) := by
  have := rot_app (m := A.length + I.length) (n := A.length + I.length + J.length - A.length) (A := A) (I := I) (J := J) (C := C) h1 h2 (by omega) rfl
  rw [rotF, show A.length + I.length - A.length = I.length by omega, show A.length + I.length + J.length - (A.length + I.length) = J.length by omega]
  exact this
theorem shU_app {α : Type} : ∀ {Y A C : List α} {x : α}, shU Y.length A.length (A ++ x :: (Y ++ C)) = A ++ (Y ++ x :: C)
  | [], A, C, x => by simp [shU]
  | y :: Y, A, C, x => by
    have h := sw_app (A := A) (B := []) (C := Y ++ C) (x := x) (y := y)
    simp only [List.nil_append, List.length_nil, Nat.add_zero] at h
    rw [List.length_cons, shU, List.cons_append, h]
    have ih := shU_app (Y := Y) (A := A ++ [y]) (C := C) (x := x)
    simpa using ih
theorem shD_app {α : Type} : ∀ {n : Nat} {Y A C : List α} {x : α}, Y.length = n → shD n (A.length + n) (A ++ (Y ++ x :: C)) = A ++ x :: (Y ++ C)
  | 0, Y, A, C, x, h => by rw [List.eq_nil_of_length_eq_zero h]; simp [shD]
  | n + 1, Y, A, C, x, h => by
    obtain ⟨Z, y, rfl⟩ : ∃ Z y, Y = Z ++ [y] := ⟨Y.dropLast, Y.getLast (by intro e; simp [e] at h), (List.dropLast_concat_getLast _).symm⟩
    have hz : Z.length = n := by simp at h; omega
    have h1 := sw_app (A := A ++ Z) (B := []) (C := C) (x := y) (y := x)
    simp only [List.nil_append, List.length_nil, Nat.add_zero, List.length_append] at h1
    have hsym : ∀ (l : List α) (i j : Nat), i < l.length → j < l.length → i ≠ j → sw l j i = sw l i j := fun l i j hi hj hij => by
      rw [sw_eq hj hi, sw_eq hi hj, List.set_comm _ _ (fun e => hij e.symm)]
    rw [shD, show A.length + (n + 1) - 1 = A.length + n by omega]
    have e1 : A ++ (Z ++ [y] ++ x :: C) = A ++ Z ++ y :: x :: C := by simp
    rw [e1, hsym _ (A.length + n) (A.length + (n + 1)) (by simp; omega) (by simp; omega) (by omega)]
    rw [show A.length + (n + 1) = A.length + Z.length + 1 by omega, show A.length + n = A.length + Z.length by omega, h1]
    have ih := shD_app (n := n) (Y := Z) (A := A) (C := y :: C) (x := x) hz
    rw [← hz] at ih
    rw [← hz]
    simpa using ih
end Go.Proofs.YtinbdedlmkjokaaGreat.Am

/- The stable sort's plain law: merging. -/
set_option linter.unusedVariables false
set_option linter.unusedSimpArgs false
namespace Go.Proofs.YtinbdedlmkjokaaGreat.Am

theorem bs_spec {p : Nat → Bool} : ∀ {n i j : Nat}, i ≤ j → j - i ≤ n → (∀ h h', i ≤ h' → h' < h → h < j → p h = true → p h' = true) → (∀ h, i ≤ h → h < bs p n i j → p h = true) ∧ (∀ h, bs p n i j ≤ h → h < j → p h = false)
  | 0, i, j, h, hn, hm => ⟨fun q h1 h2 => by simp only [bs] at h2; omega, fun q h1 h2 => by simp only [bs] at h1; omega⟩
  | n + 1, i, j, h, hn, hm => by
    rw [bs]
    split
    · rename_i hlt
      cases hp : p ((i + j) / 2)
      · rw [if_neg Bool.false_ne_true]
        obtain ⟨h1, h2⟩ := bs_spec (p := p) (n := n) (i := i) (j := (i + j) / 2) (by omega) (by omega) fun a b p1 p2 p3 => hm a b p1 p2 (by omega)
        refine ⟨h1, fun q q1 q2 => ?_⟩
        by_cases hq : q < (i + j) / 2
        · exact h2 q q1 hq
        · by_cases he : q = (i + j) / 2
          · rw [he]; exact hp
          · cases hpq : p q
            · rfl
            · rw [hm q ((i + j) / 2) (by omega) (by omega) q2 hpq] at hp
              cases hp
      · rw [if_pos rfl]
        obtain ⟨h1, h2⟩ := bs_spec (p := p) (n := n) (i := (i + j) / 2 + 1) (j := j) (by omega) (by omega) fun a b p1 p2 p3 => hm a b (by omega) p2 p3
        refine ⟨fun q q1 q2 => ?_, h2⟩
        by_cases hq : q < (i + j) / 2
        · exact hm ((i + j) / 2) q q1 hq (by omega) hp
        · by_cases he : q = (i + j) / 2
          · rw [he]; exact hp
          · exact h1 q (by omega) q2
    · exact ⟨fun q q1 q2 => by omega, fun q q1 q2 => by omega⟩
structure SOrd {α : Type} (R : α → α → Prop) : Prop where
  trans : ∀ x y z, R x y → R y z → R x z
  asymm : ∀ x y, R x y → ¬ R y x
def Cross {α : Type} (c : α → α → Int) (R : α → α → Prop) (x y : α) : Prop := (c y x < 0 ↔ R y x) ∧ (¬ c y x < 0 → R x y)
section
variable {α : Type} {c : α → α → Int} {R : α → α → Prop}
theorem Cross.neg (hR : SOrd R) {x y : α} (h : Cross c R x y) : ¬ c y x < 0 ↔ R x y := ⟨h.2, fun h1 h2 => hR.asymm _ _ h1 (h.1.1 h2)⟩
theorem pw_at {X : List α} (h : X.Pairwise R) {i j : Nat} (hij : i < j) (hj : j < X.length) : R (X[i]'(by omega)) X[j] := List.pairwise_iff_getElem.1 h i j (by omega) hj hij
theorem sym_one (hR : SOrd R) {A Y C : List α} {x : α} (hY : Y.Pairwise R) (hc : ∀ y ∈ Y, Cross c R x y) :
    ∃ Z, shU (bs (fun h => ltA c (A ++ x :: (Y ++ C)) h A.length) Y.length (A.length + 1) (A.length + 1 + Y.length) - 1 - A.length) A.length (A ++ x :: (Y ++ C)) = A ++ (Z ++ C) ∧ Z.Perm (x :: Y) ∧ Z.Pairwise R := by
  have hp : ∀ k (hk : k < Y.length), ltA c (A ++ x :: (Y ++ C)) (A.length + 1 + k) A.length = decide (c Y[k] x < 0) := fun k hk => by
    have h1 : (A ++ x :: (Y ++ C))[A.length + 1 + k]? = some Y[k] := by
      rw [List.getElem?_append_right (by omega), show A.length + 1 + k - A.length = k + 1 by omega, List.getElem?_cons_succ, List.getElem?_append_left hk, List.getElem?_eq_getElem hk]
    have h2 : (A ++ x :: (Y ++ C))[A.length]? = some x := by simp
    rw [ltA, h1, h2]
  obtain ⟨p, hpp⟩ : ∃ p : Nat → Bool, p = fun h => ltA c (A ++ x :: (Y ++ C)) h A.length := ⟨_, rfl⟩
  have hp2 : ∀ h (h1 : A.length + 1 ≤ h) (h2 : h < A.length + 1 + Y.length), p h = true ↔ R (Y[h - (A.length + 1)]'(by omega)) x := fun h h1 h2 => by
    have := hp (h - (A.length + 1)) (by omega)
    rw [show A.length + 1 + (h - (A.length + 1)) = h by omega] at this
    rw [hpp]
    show ltA c (A ++ x :: (Y ++ C)) h A.length = true ↔ _
    rw [this, decide_eq_true_iff]
    exact (hc _ (List.getElem_mem _)).1
  obtain ⟨b1, b2⟩ := bs_in (p := p) (n := Y.length) (i := A.length + 1) (j := A.length + 1 + Y.length) (by omega)
  obtain ⟨s1, s2⟩ := bs_spec (p := p) (n := Y.length) (i := A.length + 1) (j := A.length + 1 + Y.length) (by omega) (by omega) fun h h' q1 q2 q3 q4 => (hp2 h' q1 (by omega)).2 (hR.trans _ _ _ (pw_at hY (by omega) (by omega)) ((hp2 h (by omega) q3).1 q4))
  rw [← hpp]
  generalize bs p Y.length (A.length + 1) (A.length + 1 + Y.length) = s at b1 b2 s1 s2
  refine ⟨Y.take (s - (A.length + 1)) ++ x :: Y.drop (s - (A.length + 1)), ?_, ?_, ?_⟩
  · have hl : (Y.take (s - (A.length + 1))).length = s - 1 - A.length := by rw [List.length_take]; omega
    have := shU_app (Y := Y.take (s - (A.length + 1))) (A := A) (C := Y.drop (s - (A.length + 1)) ++ C) (x := x)
    rw [hl, ← List.append_assoc (Y.take _), List.take_append_drop] at this
    rw [this]
    simp
  · have := List.perm_middle (l₁ := Y.take (s - (A.length + 1))) (a := x) (l₂ := Y.drop (s - (A.length + 1)))
    rw [List.take_append_drop] at this
    exact this
  · have ht : ∀ y ∈ Y.take (s - (A.length + 1)), R y x := fun y hy => by
      obtain ⟨k, hk, rfl⟩ := List.getElem_of_mem hy
      rw [List.length_take] at hk
      rw [List.getElem_take]
      have := (hp2 (A.length + 1 + k) (by omega) (by omega)).1 (s1 _ (by omega) (by omega))
      simpa [show A.length + 1 + k - (A.length + 1) = k by omega] using this
    have hd : ∀ y ∈ Y.drop (s - (A.length + 1)), R x y := fun y hy => by
      obtain ⟨k, hk, rfl⟩ := List.getElem_of_mem hy
      rw [List.length_drop] at hk
      rw [List.getElem_drop]
      have hf := s2 (s + k) (by omega) (by omega)
      refine ((hc _ (List.getElem_mem _)).neg hR).1 fun h => ?_
      have := (hp2 (s + k) (by omega) (by omega)).2 (by
        have := (hc _ (List.getElem_mem _)).1.1 h
        simpa [show s + k - (A.length + 1) = s - (A.length + 1) + k by omega] using this)
      rw [this] at hf
      cases hf
    rw [List.pairwise_append, List.pairwise_cons]
    refine ⟨hY.sublist (List.take_sublist _ _), ⟨hd, hY.sublist (List.drop_sublist _ _)⟩, fun a ha b hb => ?_⟩
    rcases List.mem_cons.1 hb with rfl | hb
    · exact ht a ha
    · exact hR.trans _ _ _ (ht a ha) (hd b hb)
theorem sym_last (hR : SOrd R) {A X C : List α} {y : α} (hX : X.Pairwise R) (hc : ∀ x ∈ X, Cross c R x y) :
    ∃ Z, shD (A.length + X.length - bs (fun h => !ltA c (A ++ (X ++ y :: C)) (A.length + X.length) h) X.length A.length (A.length + X.length)) (A.length + X.length) (A ++ (X ++ y :: C)) = A ++ (Z ++ C) ∧ Z.Perm (X ++ [y]) ∧ Z.Pairwise R := by
  have hp : ∀ k (hk : k < X.length), ltA c (A ++ (X ++ y :: C)) (A.length + X.length) (A.length + k) = decide (c y X[k] < 0) := fun k hk => by
    have h1 : (A ++ (X ++ y :: C))[A.length + k]? = some X[k] := by
      rw [List.getElem?_append_right (by omega), show A.length + k - A.length = k by omega, List.getElem?_append_left hk, List.getElem?_eq_getElem hk]
    have h2 : (A ++ (X ++ y :: C))[A.length + X.length]? = some y := by
      rw [List.getElem?_append_right (by omega), show A.length + X.length - A.length = X.length by omega, List.getElem?_append_right (Nat.le_refl _), Nat.sub_self]
      rfl
    rw [ltA, h1, h2]
  obtain ⟨p, hpp⟩ : ∃ p : Nat → Bool, p = fun h => !ltA c (A ++ (X ++ y :: C)) (A.length + X.length) h := ⟨_, rfl⟩
  have hp2 : ∀ h (h1 : A.length ≤ h) (h2 : h < A.length + X.length), p h = true ↔ R (X[h - A.length]'(by omega)) y := fun h h1 h2 => by
    have := hp (h - A.length) (by omega)
    rw [show A.length + (h - A.length) = h by omega] at this
    rw [hpp]
    show (!ltA c (A ++ (X ++ y :: C)) (A.length + X.length) h) = true ↔ _
    rw [this, Bool.not_eq_true', decide_eq_false_iff_not]
    exact (hc _ (List.getElem_mem _)).neg hR
  obtain ⟨b1, b2⟩ := bs_in (p := p) (n := X.length) (i := A.length) (j := A.length + X.length) (by omega)
  obtain ⟨s1, s2⟩ := bs_spec (p := p) (n := X.length) (i := A.length) (j := A.length + X.length) (by omega) (by omega) fun h h' q1 q2 q3 q4 => (hp2 h' q1 (by omega)).2 (hR.trans _ _ _ (pw_at hX (by omega) (by omega)) ((hp2 h (by omega) q3).1 q4))
  rw [← hpp]
  generalize bs p X.length A.length (A.length + X.length) = s at b1 b2 s1 s2
  refine ⟨X.take (s - A.length) ++ y :: X.drop (s - A.length), ?_, ?_, ?_⟩
  · have hl : (X.drop (s - A.length)).length = A.length + X.length - s := by rw [List.length_drop]; omega
    have := shD_app (Y := X.drop (s - A.length)) (A := A ++ X.take (s - A.length)) (C := C) (x := y) hl
    rw [List.append_assoc, ← List.append_assoc (X.take _), List.take_append_drop] at this
    have hl2 : (A ++ X.take (s - A.length)).length + (A.length + X.length - s) = A.length + X.length := by rw [List.length_append, List.length_take]; omega
    rw [hl2] at this
    rw [this]
    simp
  · have := List.perm_middle (l₁ := X.take (s - A.length)) (a := y) (l₂ := X.drop (s - A.length))
    rw [List.take_append_drop] at this
    exact this.trans (List.perm_append_singleton y X).symm
  · have ht : ∀ x ∈ X.take (s - A.length), R x y := fun x hx => by
      obtain ⟨k, hk, rfl⟩ := List.getElem_of_mem hx
      rw [List.length_take] at hk
      rw [List.getElem_take]
      have := (hp2 (A.length + k) (by omega) (by omega)).1 (s1 _ (by omega) (by omega))
      simpa [show A.length + k - A.length = k by omega] using this
    have hd : ∀ x ∈ X.drop (s - A.length), R y x := fun x hx => by
      obtain ⟨k, hk, rfl⟩ := List.getElem_of_mem hx
      rw [List.length_drop] at hk
      rw [List.getElem_drop]
      have hf := s2 (s + k) (by omega) (by omega)
      have hcc := hc (X[s - A.length + k]'(by omega)) (List.getElem_mem _)
      refine Classical.byContradiction fun h => ?_
      have h3 : R X[s - A.length + k] y := hcc.2 fun h4 => h (hcc.1.1 h4)
      have := (hp2 (s + k) (by omega) (by omega)).2 (by simpa [show s + k - A.length = s - A.length + k by omega] using h3)
      rw [this] at hf
      cases hf
    rw [List.pairwise_append, List.pairwise_cons]
    refine ⟨hX.sublist (List.take_sublist _ _), ⟨hd, hX.sublist (List.drop_sublist _ _)⟩, fun a ha b hb => ?_⟩
    rcases List.mem_cons.1 hb with rfl | hb
    · exact ht a ha
    · exact hR.trans _ _ _ (ht a ha) (hd b hb)
end
end Go.Proofs.YtinbdedlmkjokaaGreat.Am

/- The stable sort's plain law: merging, whole. -/
set_option linter.unusedVariables false
set_option linter.unusedSimpArgs false
namespace Go.Proofs.YtinbdedlmkjokaaGreat.Am

section
variable {α : Type} {c : α → α → Int} {R : α → α → Prop}
theorem pw_le {X : List α} (h : X.Pairwise R) {i j : Nat} (hij : i ≤ j) (hj : j < X.length) : X[i]'(by omega) = X[j] ∨ R (X[i]'(by omega)) X[j] := by
  by_cases e : i = j
  · subst e; exact .inl rfl
  · exact .inr (pw_at h (by omega) hj)
theorem chain3 (hR : SOrd R) {x u v y : α} (h1 : x = u ∨ R x u) (h2 : R u v) (h3 : v = y ∨ R v y) : R x y := by
  rcases h1 with rfl | h1 <;> rcases h3 with rfl | h3
  · exact h2
  · exact hR.trans _ _ _ h2 h3
  · exact hR.trans _ _ _ h1 h2
  · exact hR.trans _ _ _ h1 (hR.trans _ _ _ h2 h3)
theorem nil_of_len {X : List α} (h : X.length = 0) : X = [] := List.eq_nil_of_length_eq_zero h
theorem sym_app (hR : SOrd R) : ∀ (n : Nat) {A X Y C : List α}, 1 ≤ X.length → 1 ≤ Y.length → X.length + Y.length ≤ n → X.Pairwise R → Y.Pairwise R → (∀ x ∈ X, ∀ y ∈ Y, Cross c R x y) →
    ∃ Z, sym c n A.length (A.length + X.length) (A.length + X.length + Y.length) (A ++ (X ++ (Y ++ C))) = A ++ (Z ++ C) ∧ Z.Perm (X ++ Y) ∧ Z.Pairwise R
  | 0, A, X, Y, C, hx, hy, hn, _, _, _ => by omega
  | n + 1, A, X, Y, C, hx, hy, hn, hX, hY, hc => by
    rw [sym]
    by_cases hx1 : X.length = 1
    · obtain ⟨x, rfl⟩ := List.length_eq_one_iff.1 hx1
      obtain ⟨Z, h1, h2, h3⟩ := sym_one (c := c) hR (A := A) (C := C) hY (hc x (by simp))
      simp only [List.length_singleton] at *
      rw [if_pos (by omega), show A.length + 1 + Y.length - (A.length + 1) = Y.length by omega]
      exact ⟨Z, h1, h2, h3⟩
    rw [if_neg (by omega)]
    by_cases hy1 : Y.length = 1
    · obtain ⟨y, rfl⟩ := List.length_eq_one_iff.1 hy1
      obtain ⟨Z, h1, h2, h3⟩ := sym_last (c := c) hR (A := A) (C := C) hX (fun x hx => hc x hx y (by simp))
      simp only [List.length_singleton] at *
      rw [if_pos (by omega), show A.length + X.length - A.length = X.length by omega]
      exact ⟨Z, h1, h2, h3⟩
    rw [if_neg (by omega)]
    obtain ⟨a, ha⟩ : ∃ a, a = A.length := ⟨_, rfl⟩
    obtain ⟨m, hm⟩ : ∃ m, m = A.length + X.length := ⟨_, rfl⟩
    obtain ⟨b, hb⟩ : ∃ b, b = A.length + X.length + Y.length := ⟨_, rfl⟩
    obtain ⟨l, hl⟩ : ∃ l, l = A ++ (X ++ (Y ++ C)) := ⟨_, rfl⟩
    rw [← hb, ← hm, ← ha, ← hl]
    obtain ⟨mid, hmid⟩ : ∃ k, k = (a + b) / 2 := ⟨_, rfl⟩
    obtain ⟨p, hp⟩ : ∃ p : Nat → Bool, p = fun h => !ltA c l (mid + m - 1 - h) h := ⟨_, rfl⟩
    obtain ⟨s0, hs0⟩ : ∃ k, k = if mid < m then mid + m - b else a := ⟨_, rfl⟩
    obtain ⟨r0, hr0⟩ : ∃ k, k = if mid < m then mid else m := ⟨_, rfl⟩
    obtain ⟨f0, hf0⟩ : ∃ k, k = if mid < m then b - m else m - a := ⟨_, rfl⟩
    have hst : symStart c a m b l = bs p f0 s0 r0 := by
      rw [symStart, ← hmid, ← hp, hs0, hr0, hf0]
      split <;> rfl
    have hrange : s0 ≤ r0 ∧ r0 ≤ m ∧ r0 ≤ mid ∧ a ≤ s0 ∧ r0 - s0 ≤ f0 ∧ mid + m ≤ s0 + b ∧ (r0 = m ∨ r0 = mid) ∧ (s0 = a ∨ mid + m = s0 + b) := by
      rw [hs0, hr0, hf0]
      split <;> omega
    clear hs0 hr0 hf0
    obtain ⟨r1, r2, r3, r4, r5, r6, r7, r8⟩ := hrange
    simp only [hst, ← hmid]
    have hlX : ∀ h (h1 : a ≤ h) (h2 : h < m), l[h]? = some (X[h - a]'(by omega)) := fun h h1 h2 => by
      rw [hl, List.getElem?_append_right (by omega), List.getElem?_append_left (by omega), ← ha, List.getElem?_eq_getElem (by omega)]
    have hlY : ∀ h (h1 : m ≤ h) (h2 : h < b), l[h]? = some (Y[h - m]'(by omega)) := fun h h1 h2 => by
      rw [hl, List.getElem?_append_right (by omega), List.getElem?_append_right (by omega), List.getElem?_append_left (by omega), List.getElem?_eq_getElem (by omega)]
      congr 2
      omega
    have hp2 : ∀ h (h1 : s0 ≤ h) (h2 : h < r0), p h = true ↔ R (X[h - a]'(by omega)) (Y[mid + m - 1 - h - m]'(by omega)) := fun h h1 h2 => by
      rw [hp]
      show (!ltA c l (mid + m - 1 - h) h) = true ↔ _
      rw [ltA, hlX h (by omega) (by omega), hlY (mid + m - 1 - h) (by omega) (by omega)]
      simp only [Bool.not_eq_true', decide_eq_false_iff_not]
      exact (hc _ (List.getElem_mem _) _ (List.getElem_mem _)).neg hR
    obtain ⟨b1, b2⟩ := bs_in (p := p) (n := f0) r1
    obtain ⟨s1, s2⟩ := bs_spec (p := p) (n := f0) r1 r5 fun h h' q1 q2 q3 q4 => (hp2 h' q1 (by omega)).2 (chain3 hR (.inr (pw_at hX (by omega) (by omega))) ((hp2 h (by omega) q3).1 q4) (pw_le hY (by omega) (by omega)))
    clear hst hp hlX hlY r5
    generalize bs p f0 s0 r0 = s at b1 b2 s1 s2 ⊢
    obtain ⟨e, he⟩ : ∃ e, e = mid + m - s := ⟨_, rfl⟩
    rw [← he]
    obtain ⟨X1, hX1⟩ : ∃ q, q = X.take (s - a) := ⟨_, rfl⟩
    obtain ⟨X2, hX2⟩ : ∃ q, q = X.drop (s - a) := ⟨_, rfl⟩
    obtain ⟨Y1, hY1⟩ : ∃ q, q = Y.take (e - m) := ⟨_, rfl⟩
    obtain ⟨Y2, hY2⟩ : ∃ q, q = Y.drop (e - m) := ⟨_, rfl⟩
    have lX1 : X1.length = s - a := by rw [hX1, List.length_take]; omega
    have lX2 : X2.length = m - s := by rw [hX2, List.length_drop]; omega
    have lY1 : Y1.length = e - m := by rw [hY1, List.length_take]; omega
    have lY2 : Y2.length = b - e := by rw [hY2, List.length_drop]; omega
    have eX : X1 ++ X2 = X := by rw [hX1, hX2, List.take_append_drop]
    have eY : Y1 ++ Y2 = Y := by rw [hY1, hY2, List.take_append_drop]
    -- what is ahead of what
    have cXY : ∀ x ∈ X1, ∀ y ∈ Y2, R x y := fun x hx y hy => by
      rw [hX1] at hx
      rw [hY2] at hy
      obtain ⟨i, hi, rfl⟩ := List.getElem_of_mem hx
      obtain ⟨k, hk, rfl⟩ := List.getElem_of_mem hy
      rw [List.length_take] at hi
      rw [List.length_drop] at hk
      rw [List.getElem_take, List.getElem_drop]
      have h1 := (hp2 (s - 1) (by omega) (by omega)).1 (s1 _ (by omega) (by omega))
      exact chain3 hR (pw_le hX (by omega) (by omega)) h1 (pw_le hY (by omega) (by omega))
    have cYX : ∀ y ∈ Y1, ∀ x ∈ X2, R y x := fun y hy x hx => by
      rw [hX2] at hx
      rw [hY1] at hy
      obtain ⟨i, hi, rfl⟩ := List.getElem_of_mem hx
      obtain ⟨k, hk, rfl⟩ := List.getElem_of_mem hy
      rw [List.length_drop] at hi
      rw [List.length_take] at hk
      rw [List.getElem_take, List.getElem_drop]
      have h1 := s2 s (Nat.le_refl _) (by omega)
      have hcc := hc (X[s - a]'(by omega)) (List.getElem_mem _) (Y[mid + m - 1 - s - m]'(by omega)) (List.getElem_mem _)
      have h2 : R (Y[mid + m - 1 - s - m]'(by omega)) (X[s - a]'(by omega)) := Classical.byContradiction fun h => by
        have h3 := hcc.2 fun h4 => h (hcc.1.1 h4)
        rw [(hp2 s b1 (by omega)).2 h3] at h1
        cases h1
      exact chain3 hR (pw_le hY (by omega) (by omega)) h2 (pw_le hX (by omega) (by omega))
    have pX := hX
    have pY := hY
    rw [← eX, List.pairwise_append] at pX
    rw [← eY, List.pairwise_append] at pY
    have hc2 : ∀ x ∈ X1 ++ X2, ∀ y ∈ Y1 ++ Y2, Cross c R x y := by rw [eX, eY]; exact hc
    have hl1 : (if s < m ∧ m < e then rotF s m e l else l) = A ++ (X1 ++ (Y1 ++ (X2 ++ (Y2 ++ C)))) := by
      have e0 : l = A ++ (X1 ++ (X2 ++ (Y1 ++ (Y2 ++ C)))) := by
        rw [hl, ← eX, ← eY]
        simp
      split
      · have := rotF_app (A := A ++ X1) (I := X2) (J := Y1) (C := Y2 ++ C) (by omega) (by omega)
        rw [List.length_append, lX1, lX2, lY1, ← ha, show a + (s - a) = s by omega, show s + (m - s) = m by omega, show m + (e - m) = e by omega] at this
        rw [e0]
        simpa using this
      · rw [e0]
        by_cases h0 : X2.length = 0
        · rw [nil_of_len h0]; simp
        · rw [nil_of_len (X := Y1) (by omega)]; simp
    rw [hl1]
    obtain ⟨Z1, z1, z2, z3⟩ : ∃ Z1, (if a < s ∧ s < mid then sym c n a s mid (A ++ (X1 ++ (Y1 ++ (X2 ++ (Y2 ++ C))))) else A ++ (X1 ++ (Y1 ++ (X2 ++ (Y2 ++ C))))) = A ++ (Z1 ++ (X2 ++ (Y2 ++ C))) ∧ Z1.Perm (X1 ++ Y1) ∧ Z1.Pairwise R := by
      split
      · obtain ⟨Z, h1, h2, h3⟩ := sym_app hR n (A := A) (X := X1) (Y := Y1) (C := X2 ++ (Y2 ++ C)) (by omega) (by omega) (by omega) pX.1 pY.1 (fun x hx y hy => hc2 x (List.mem_append_left _ hx) y (List.mem_append_left _ hy))
        rw [lX1, lY1, ← ha, show a + (s - a) = s by omega, show s + (e - m) = mid by omega] at h1
        exact ⟨Z, h1, h2, h3⟩
      · refine ⟨X1 ++ Y1, by simp, .refl _, ?_⟩
        by_cases h0 : X1.length = 0
        · rw [nil_of_len h0]; exact pY.1
        · rw [nil_of_len (X := Y1) (by omega), List.append_nil]; exact pX.1
    rw [z1]
    have lZ1 : Z1.length = mid - a := by rw [z2.length_eq, List.length_append]; omega
    obtain ⟨Z2, w1, w2, w3⟩ : ∃ Z2, (if mid < e ∧ e < b then sym c n mid e b (A ++ (Z1 ++ (X2 ++ (Y2 ++ C)))) else A ++ (Z1 ++ (X2 ++ (Y2 ++ C)))) = A ++ (Z1 ++ (Z2 ++ C)) ∧ Z2.Perm (X2 ++ Y2) ∧ Z2.Pairwise R := by
      split
      · obtain ⟨Z, h1, h2, h3⟩ := sym_app hR n (A := A ++ Z1) (X := X2) (Y := Y2) (C := C) (by omega) (by omega) (by omega) pX.2.1 pY.2.1 (fun x hx y hy => hc2 x (List.mem_append_right _ hx) y (List.mem_append_right _ hy))
        rw [List.length_append, lZ1, lX2, lY2, ← ha, show a + (mid - a) = mid by omega, show mid + (m - s) = e by omega, show e + (b - e) = b by omega] at h1
        refine ⟨Z, ?_, h2, h3⟩
        simpa using h1
      · refine ⟨X2 ++ Y2, by simp, .refl _, ?_⟩
        by_cases h0 : X2.length = 0
        · rw [nil_of_len h0]; exact pY.2.1
        · rw [nil_of_len (X := Y2) (by omega), List.append_nil]; exact pX.2.1
    rw [w1]
    refine ⟨Z1 ++ Z2, by simp, ?_, ?_⟩
    · refine (z2.append w2).trans ?_
      rw [← eX, ← eY, List.append_assoc, List.append_assoc]
      exact (List.perm_append_comm_assoc Y1 X2 Y2).append_left X1
    · rw [List.pairwise_append]
      refine ⟨z3, w3, fun x hx y hy => ?_⟩
      rcases List.mem_append.1 (z2.mem_iff.1 hx) with hx | hx <;> rcases List.mem_append.1 (w2.mem_iff.1 hy) with hy | hy
      · exact pX.2.2 x hx y hy
      · exact cXY x hx y hy
      · exact cYX x hx y hy
      · exact pY.2.2 x hx y hy
end
end Go.Proofs.YtinbdedlmkjokaaGreat.Am

/- The stable sort's plain law, whole. -/
set_option linter.unusedVariables false
set_option linter.unusedSimpArgs false
namespace Go.Proofs.YtinbdedlmkjokaaGreat.Am

section
variable {α : Type} {c : α → α → Int} {R : α → α → Prop}
theorem insIn_app (hR : SOrd R) : ∀ (n : Nat) {A S C : List α} {x : α}, S.length = n → S.Pairwise R → (∀ s ∈ S, Cross c R s x) → ∃ Z, insIn c A.length (A.length + n) (A ++ (S ++ x :: C)) = A ++ (Z ++ C) ∧ Z.Perm (S ++ [x]) ∧ Z.Pairwise R
  | 0, A, S, C, x, hn, hS, hc => by
    rw [nil_of_len hn]
    refine ⟨[x], ?_, by simp, by simp⟩
    have : insIn c A.length (A.length + 0) (A ++ ([] ++ x :: C)) = A ++ ([] ++ x :: C) := by
      generalize hj : A.length + 0 = j
      cases j with
      | zero => rfl
      | succ j => rw [insIn, if_neg (fun h => by omega)]
    rw [this]
    simp
  | n + 1, A, S, C, x, hn, hS, hc => by
    obtain ⟨T, s, rfl⟩ : ∃ T s, S = T ++ [s] := ⟨S.dropLast, S.getLast (by intro e; simp [e] at hn), (List.dropLast_concat_getLast _).symm⟩
    have hT : T.length = n := by simp at hn; omega
    rw [List.pairwise_append] at hS
    have hcs := hc s (by simp)
    have e1 : A ++ (T ++ [s] ++ x :: C) = (A ++ T) ++ s :: ([] ++ x :: C) := by simp
    have h1 : (A ++ (T ++ [s] ++ x :: C))[A.length + n]? = some s := by
      rw [e1, List.getElem?_append_right (by simp; omega)]
      simp [hT]
    have h2 : (A ++ (T ++ [s] ++ x :: C))[A.length + n + 1]? = some x := by
      rw [e1, List.getElem?_append_right (by simp; omega)]
      simp [hT]
    have hl : ltA c (A ++ (T ++ [s] ++ x :: C)) (A.length + n + 1) (A.length + n) = decide (c x s < 0) := by rw [ltA, h1, h2]
    rw [show A.length + (n + 1) = A.length + n + 1 by omega, insIn, hl]
    by_cases hlt : c x s < 0
    · rw [if_pos ⟨by omega, decide_eq_true hlt⟩]
      have hs : sw (A ++ (T ++ [s] ++ x :: C)) (A.length + n + 1) (A.length + n) = A ++ (T ++ x :: (s :: C)) := by
        have h3 := sw_app (A := A ++ T) (B := []) (C := C) (x := s) (y := x)
        have hsym : ∀ (l : List α) (i j : Nat), i < l.length → j < l.length → i ≠ j → sw l j i = sw l i j := fun l i j hi hj hij => by
          rw [sw_eq hj hi, sw_eq hi hj, List.set_comm _ _ (fun e => hij e.symm)]
        rw [e1, hsym _ (A.length + n) (A.length + n + 1) (by simp; omega) (by simp; omega) (by omega)]
        simp only [List.length_append, hT, List.length_nil, Nat.add_zero] at h3
        rw [h3]
        simp
      rw [hs]
      obtain ⟨Z, z1, z2, z3⟩ := insIn_app hR n (A := A) (S := T) (C := s :: C) (x := x) hT hS.1 (fun q hq => hc q (by simp [hq]))
      refine ⟨Z ++ [s], by rw [z1]; simp, ?_, ?_⟩
      · refine (z2.append_right [s]).trans ?_
        simp only [List.append_assoc]
        exact (List.perm_append_comm (l₁ := [x]) (l₂ := [s])).append_left T
      · rw [List.pairwise_append]
        refine ⟨z3, by simp, fun z hz q hq => ?_⟩
        rw [List.mem_singleton.1 hq]
        rcases List.mem_append.1 (z2.mem_iff.1 hz) with hz | hz
        · exact hS.2.2 z hz s (by simp)
        · rw [List.mem_singleton.1 hz]
          exact hcs.1.1 hlt
    · rw [if_neg (by simp [hlt])]
      have hsx : R s x := hcs.2 hlt
      refine ⟨T ++ [s] ++ [x], by simp, .refl _, ?_⟩
      rw [List.pairwise_append]
      refine ⟨by rw [List.pairwise_append]; exact hS, by simp, fun z hz q hq => ?_⟩
      rw [List.mem_singleton.1 hq]
      rcases List.mem_append.1 hz with hz | hz
      · exact hR.trans _ _ _ (hS.2.2 z hz s (by simp)) hsx
      · rw [List.mem_singleton.1 hz]
        exact hsx
theorem insOut_app (hR : SOrd R) : ∀ {T A S C : List α}, S.Pairwise R → T.Pairwise (Cross c R) → (∀ s ∈ S, ∀ t ∈ T, Cross c R s t) → ∃ Z, insOut c A.length T.length (A.length + S.length) (A ++ (S ++ (T ++ C))) = A ++ (Z ++ C) ∧ Z.Perm (S ++ T) ∧ Z.Pairwise R
  | [], A, S, C, hS, hT, hc => ⟨S, by simp [insOut], by simp, hS⟩
  | t :: T, A, S, C, hS, hT, hc => by
    rw [List.pairwise_cons] at hT
    obtain ⟨Z, z1, z2, z3⟩ := insIn_app (c := c) hR S.length (A := A) (S := S) (C := T ++ C) (x := t) rfl hS (fun s hs => hc s hs t (by simp))
    rw [List.length_cons, insOut, List.cons_append, z1]
    have hl : Z.length = S.length + 1 := by rw [z2.length_eq]; simp
    obtain ⟨W, w1, w2, w3⟩ := insOut_app hR (T := T) (A := A) (S := Z) (C := C) z3 hT.2 (fun s hs q hq => by
      rcases List.mem_append.1 (z2.mem_iff.1 hs) with hs | hs
      · exact hc s hs q (by simp [hq])
      · rw [List.mem_singleton.1 hs]; exact hT.1 q hq)
    rw [hl, ← Nat.add_assoc] at w1
    refine ⟨W, w1, w2.trans ?_, w3⟩
    refine (z2.append_right T).trans ?_
    simp
theorem insF_app (hR : SOrd R) {A X C : List α} (hX : X.Pairwise (Cross c R)) : ∃ Z, insF c A.length (A.length + X.length) (A ++ (X ++ C)) = A ++ (Z ++ C) ∧ Z.Perm X ∧ Z.Pairwise R := by
  cases X with
  | nil => exact ⟨[], by simp [insF, insOut], .refl _, .nil⟩
  | cons x T =>
    rw [List.pairwise_cons] at hX
    obtain ⟨Z, z1, z2, z3⟩ := insOut_app (c := c) hR (T := T) (A := A) (S := [x]) (C := C) (by simp) hX.2 (fun s hs t ht => by rw [List.mem_singleton.1 hs]; exact hX.1 t ht)
    refine ⟨Z, ?_, z2, z3⟩
    rw [insF, List.length_cons, show A.length + (T.length + 1) - (A.length + 1) = T.length by omega]
    exact z1
inductive Blocks (c : α → α → Int) (R : α → α → Prop) (w : Nat) : List α → Prop
  | last (X : List α) : X.length ≤ w → X.Pairwise R → Blocks c R w X
  | cons (X l : List α) : X.length = w → X.Pairwise R → (∀ x ∈ X, ∀ y ∈ l, Cross c R x y) → Blocks c R w l → Blocks c R w (X ++ l)
theorem Blocks.few {w : Nat} {l : List α} (h : Blocks c R w l) (hl : l.length ≤ w) : l.Pairwise R := by
  cases h with
  | last X h1 h2 => exact h2
  | cons X l h1 h2 h3 h4 =>
    rw [List.length_append] at hl
    rw [nil_of_len (X := l) (by omega), List.append_nil]
    exact h2
theorem Blocks.head {w : Nat} {l : List α} (h : Blocks c R w l) (hl : w < l.length) : ∃ X q, l = X ++ q ∧ X.length = w ∧ X.Pairwise R ∧ (∀ x ∈ X, ∀ y ∈ q, Cross c R x y) ∧ Blocks c R w q := by
  cases h with
  | last X h1 h2 => omega
  | cons X l h1 h2 h3 h4 => exact ⟨X, l, rfl, h1, h2, h3, h4⟩
theorem mrg_app (hR : SOrd R) {w : Nat} (hw : 1 ≤ w) {n : Nat} : ∀ (k : Nat) {A l : List α}, n = A.length + l.length → l.length < k → Blocks c R w l → ∃ q, mrg c n w k A.length (A ++ l) = A ++ q ∧ q.Perm l ∧ Blocks c R (2 * w) q
  | 0, A, l, hn, hk, hB => by omega
  | k + 1, A, l, hn, hk, hB => by
    rw [mrg]
    by_cases h2 : A.length + 2 * w ≤ n
    · rw [if_pos h2]
      obtain ⟨X, q, rfl, hX, pX, cX, hq⟩ := hB.head (by omega)
      rw [List.length_append] at hn hk
      obtain ⟨Y, u, rfl, hY, pY, hu, cY⟩ : ∃ Y u, q = Y ++ u ∧ Y.length = w ∧ Y.Pairwise R ∧ Blocks c R w u ∧ (∀ y ∈ Y, ∀ z ∈ u, Cross c R y z) := by
        by_cases hqw : q.length = w
        · exact ⟨q, [], by simp, hqw, hq.few (by omega), .last [] (by simp) .nil, fun y _ z hz => by simp at hz⟩
        · obtain ⟨Y, u, e, h1, h2, h3, h4⟩ := hq.head (by omega)
          exact ⟨Y, u, e, h1, h2, h4, h3⟩
      obtain ⟨Z, z1, z2, z3⟩ := sym_app (c := c) hR (2 * w) (A := A) (X := X) (Y := Y) (C := u) (by omega) (by omega) (by omega) pX pY (fun x hx y hy => cX x hx y (List.mem_append_left _ hy))
      rw [hX, hY, show A.length + w + w = A.length + 2 * w by omega] at z1
      rw [z1]
      have hZ : Z.length = 2 * w := by rw [z2.length_eq, List.length_append]; omega
      rw [List.length_append] at hn hk
      obtain ⟨v, v1, v2, v3⟩ := mrg_app hR hw (n := n) k (A := A ++ Z) (l := u) (by rw [List.length_append]; omega) (by omega) hu
      rw [List.length_append, hZ] at v1
      refine ⟨Z ++ v, by rw [← List.append_assoc, v1, List.append_assoc], ?_, ?_⟩
      · refine (z2.append v2).trans ?_
        simp
      · refine .cons Z v hZ z3 (fun x hx y hy => ?_) v3
        have hy := v2.mem_iff.1 hy
        rcases List.mem_append.1 (z2.mem_iff.1 hx) with hx | hx
        · exact cX x hx y (List.mem_append_right _ hy)
        · exact cY x hx y hy
    · rw [if_neg h2]
      by_cases h1 : A.length + w < n
      · rw [if_pos h1]
        obtain ⟨X, Y, rfl, hX, pX, cX, hq⟩ := hB.head (by omega)
        rw [List.length_append] at hn hk
        have pY := hq.few (by omega)
        obtain ⟨Z, z1, z2, z3⟩ := sym_app (c := c) hR (n - A.length) (A := A) (X := X) (Y := Y) (C := []) (by omega) (by omega) (by omega) pX pY cX
        rw [hX, show A.length + w + Y.length = n by omega, List.append_nil, List.append_nil] at z1
        refine ⟨Z, z1, z2, .last Z ?_ z3⟩
        rw [z2.length_eq, List.length_append]
        omega
      · rw [if_neg h1]
        exact ⟨l, rfl, .refl _, .last l (by omega) (hB.few (by omega))⟩
theorem mrgs_app (hR : SOrd R) {n : Nat} : ∀ (k : Nat) {w : Nat} {l : List α}, 1 ≤ w → n = l.length → n - w < k → Blocks c R w l → (mrgs c n k w l).Perm l ∧ (mrgs c n k w l).Pairwise R
  | 0, w, l, hw, hn, hk, hB => by omega
  | k + 1, w, l, hw, hn, hk, hB => by
    rw [mrgs]
    by_cases h : w < n
    · rw [if_pos h]
      obtain ⟨q, q1, q2, q3⟩ := mrg_app hR hw (n := n) (n + 1) (A := []) (l := l) (by simpa using hn) (by omega) hB
      simp only [List.length_nil, List.nil_append] at q1
      rw [q1]
      obtain ⟨h1, h2⟩ := mrgs_app hR (n := n) k (w := 2 * w) (l := q) (by omega) (by rw [q2.length_eq]; exact hn) (by omega) q3
      exact ⟨h1.trans q2, h2⟩
    · rw [if_neg h]
      exact ⟨.refl _, hB.few (by omega)⟩
theorem blk_app (hR : SOrd R) {n : Nat} : ∀ (k : Nat) {A X : List α}, n = A.length + X.length → X.length < k → X.Pairwise (Cross c R) → ∃ q, blk c n k A.length (A ++ X) = A ++ q ∧ q.Perm X ∧ Blocks c R 20 q
  | 0, A, X, hn, hk, hX => by omega
  | k + 1, A, X, hn, hk, hX => by
    rw [blk]
    by_cases h : A.length + 20 ≤ n
    · rw [if_pos h]
      obtain ⟨Y, u, rfl, hY⟩ : ∃ Y u, X = Y ++ u ∧ Y.length = 20 := ⟨X.take 20, X.drop 20, (List.take_append_drop _ _).symm, by rw [List.length_take]; omega⟩
      rw [List.length_append] at hn hk
      rw [List.pairwise_append] at hX
      obtain ⟨Z, z1, z2, z3⟩ := insF_app (c := c) hR (A := A) (X := Y) (C := u) hX.1
      rw [hY] at z1
      rw [z1]
      have hZ : Z.length = 20 := by rw [z2.length_eq]; exact hY
      obtain ⟨v, v1, v2, v3⟩ := blk_app hR (n := n) k (A := A ++ Z) (X := u) (by rw [List.length_append]; omega) (by omega) hX.2.1
      rw [List.length_append, hZ] at v1
      refine ⟨Z ++ v, by rw [← List.append_assoc, v1, List.append_assoc], z2.append v2, .cons Z v hZ z3 (fun x hx y hy => hX.2.2 x (z2.mem_iff.1 hx) y (v2.mem_iff.1 hy)) v3⟩
    · rw [if_neg h]
      obtain ⟨Z, z1, z2, z3⟩ := insF_app (c := c) hR (A := A) (X := X) (C := []) hX
      rw [← hn, List.append_nil, List.append_nil] at z1
      exact ⟨Z, z1, z2, .last Z (by rw [z2.length_eq]; omega) z3⟩
/-- The stable sort: the same elements, in order. -/
theorem stableF_spec (hR : SOrd R) {l : List α} (hl : l.Pairwise (Cross c R)) : (stableF c l).Perm l ∧ (stableF c l).Pairwise R := by
  obtain ⟨q, q1, q2, q3⟩ := blk_app hR (n := l.length) (l.length + 1) (A := []) (X := l) (by simp) (by omega) hl
  simp only [List.length_nil, List.nil_append] at q1
  rw [stableF, q1]
  obtain ⟨h1, h2⟩ := mrgs_app hR (n := l.length) (l.length + 1) (w := 20) (l := q) (by decide) q2.length_eq.symm (by omega) q3
  exact ⟨h1.trans q2, h2⟩
end
end Go.Proofs.YtinbdedlmkjokaaGreat.Am

/- Queries: rows that match, sorted. Plain laws. -/
set_option linter.unusedVariables false
set_option linter.unusedSimpArgs false
namespace Go.Proofs.YtinbdedlmkjokaaGreat.Am

def keptF (l : List RowD) (w : List Tok) : List RowD := l.filter fun r => decide (isM w r = 1)
theorem matchAux_ids {w : List Tok} : ∀ {l : List RowD} {acc ids : List Int}, matchAux w l acc = some ids → ids = acc ++ (keptF l w).map RowD.id
  | [], acc, ids, h => by injection h with h; subst h; simp [keptF]
  | r :: l, acc, ids, h => by
    rw [matchAux] at h
    split at h
    · cases h
    · rw [matchAux_ids h, keptF, keptF, List.filter_cons]
      split
      · rename_i h1
        simp [h1]
      · rename_i h1
        simp [h1]
theorem matchF_ids {l : List RowD} {w : List Tok} (h : (matchF l w).2 = true) : (matchF l w).1 = (keptF l w).map RowD.id := by
  rw [matchF] at h ⊢
  split at h
  · rename_i ids hm
    rw [matchAux_ids hm]
    simp
  · cases h
theorem Rise.inj {l : List RowD} (h : Rise l) {a b : RowD} (ha : a ∈ l) (hb : b ∈ l) (he : a.id = b.id) : a = b := by
  induction l with
  | nil => simp at ha
  | cons x r ih =>
    obtain ⟨h1, h2⟩ := List.pairwise_cons.1 h
    rcases List.mem_cons.1 ha with e1 | ha2 <;> rcases List.mem_cons.1 hb with e2 | hb2
    · rw [e1, e2]
    · have := h1 b hb2; rw [← e1] at this; omega
    · have := h1 a ha2; rw [← e2] at this; omega
    · exact ih h2 ha2 hb2
theorem Rise.kept {l : List RowD} (h : Rise l) (w : List Tok) : Rise (keptF l w) := List.Pairwise.sublist List.filter_sublist h
theorem pick_kept {l : List RowD} (h : Rise l) (w : List Tok) : l.filter (fun r => ((keptF l w).map RowD.id).contains r.id) = keptF l w := by
  refine List.filter_congr fun r hr => ?_
  by_cases h1 : isM w r = 1
  · have : r.id ∈ (keptF l w).map RowD.id := List.mem_map.2 ⟨r, List.mem_filter.2 ⟨hr, decide_eq_true h1⟩, rfl⟩
    rw [decide_eq_true h1, List.contains_iff_mem.2 this]
  · rw [decide_eq_false h1]
    refine Bool.eq_false_iff.2 fun hc => h1 ?_
    obtain ⟨q, hq, he⟩ := List.mem_map.1 (List.contains_iff_mem.1 hc)
    obtain ⟨hq1, hq2⟩ := List.mem_filter.1 hq
    rw [h.inj hr hq1 he.symm]
    exact of_decide_eq_true hq2
/-! ### the order -/
def rE (by_ : List Int) (r : RowD) : Entry := ⟨keyF by_ r.vals, r.id⟩
theorem rE_len (by_ : List Int) (r : RowD) : (rE by_ r).key.length = by_.length := keyF_len by_ r.vals
def RLt (by_ : List Int) (r s : RowD) : Prop := rowOrd by_ r s < 0
theorem RLt.ord (by_ : List Int) : SOrd (RLt by_) := by
  have hC := entOrd_cmp by_.length
  refine ⟨fun x y z h1 h2 => ?_, fun x y h1 h2 => ?_⟩
  · exact hC.trans _ _ _ (rE_len by_ x) (rE_len by_ y) (rE_len by_ z) h1 h2
  · have := (hC.flip _ _ (rE_len by_ x) (rE_len by_ y)).1 h1
    have h3 : entOrd (rE by_ y) (rE by_ x) < 0 := h2
    omega
theorem RLt.cross {by_ : List Int} {l : List RowD} (h : Rise l) : l.Pairwise (Cross (rowOrd by_) (RLt by_)) := by
  have hC := entOrd_cmp by_.length
  refine List.Pairwise.imp (fun {x y} hxy => ⟨Iff.rfl, fun h1 => ?_⟩) h
  have h2 : ¬ entOrd (rE by_ y) (rE by_ x) < 0 := h1
  have h3 : ¬ entOrd (rE by_ y) (rE by_ x) = 0 := fun h0 => by
    have := congrArg Entry.id (hC.eq _ _ (rE_len by_ y) (rE_len by_ x) h0)
    have : y.id = x.id := this
    omega
  exact (hC.flip _ _ (rE_len by_ x) (rE_len by_ y)).2 (by omega)
theorem sorted_unique {α : Type} {R : α → α → Prop} (hR : SOrd R) : ∀ {a b : List α}, a.Pairwise R → b.Pairwise R → a.Perm b → a = b
  | [], b, _, _, hp => (List.nil_perm.1 hp).symm
  | x :: r, [], _, _, hp => absurd hp.symm (fun h => by simpa using List.nil_perm.1 h)
  | x :: r, y :: t, ha, hb, hp => by
    have ha' := List.pairwise_cons.1 ha
    have hb' := List.pairwise_cons.1 hb
    have hxy : x = y := by
      have h1 : x ∈ y :: t := hp.mem_iff.1 (by simp)
      have h2 : y ∈ x :: r := hp.mem_iff.2 (by simp)
      rcases List.mem_cons.1 h1 with h1 | h1
      · exact h1
      · rcases List.mem_cons.1 h2 with h2 | h2
        · exact h2.symm
        · exact absurd (ha'.1 y h2) (hR.asymm _ _ (hb'.1 x h1))
    subst hxy
    rw [sorted_unique hR ha'.2 hb'.2 (List.Perm.cons_inv hp)]
/-! ### the reference inserts one by one -/
theorem okVal_at {a : List Val} (h : ∀ v ∈ a, okVal v = true) (c : Int) : okVal (valAt a c) = true := by
  rw [valAt]
  cases hc : a[c.toNat]? with
  | none => exact okVal_null
  | some v => exact h v (List.mem_of_getElem? hc)
theorem lessBy_eq {a b : List Val} (ha : ∀ v ∈ a, okVal v = true) (hb : ∀ v ∈ b, okVal v = true) : ∀ by_ : List Int, lessBy a b by_ = decide (orderOf (keyF by_ a) (keyF by_ b) < 0)
  | [] => by simp [lessBy, keyF, orderOf]
  | c :: r => by
    have ih := lessBy_eq ha hb r
    have h1 : keyF (c :: r) a = valAt a c :: keyF r a := rfl
    have h2 : keyF (c :: r) b = valAt b c :: keyF r b := rfl
    rw [lessBy, h1, h2, orderOf, l1Ord_order (okVal_at ha c) (okVal_at hb c), ih]
    split <;> simp_all
def insPos (by_ : List Int) (x : RowD) : List RowD → Nat
  | [] => 0
  | r :: l => if lessBy x.vals r.vals by_ then 0 else insPos by_ x l + 1
def insR (by_ : List Int) (x : RowD) (l : List RowD) : List RowD := l.take (insPos by_ x l) ++ x :: l.drop (insPos by_ x l)
theorem insPos_le (by_ : List Int) (x : RowD) : ∀ l : List RowD, insPos by_ x l ≤ l.length
  | [] => Nat.le_refl _
  | r :: l => by
    have := insPos_le by_ x l
    rw [insPos]
    split <;> simp <;> omega
theorem insR_perm (by_ : List Int) (x : RowD) (l : List RowD) : (insR by_ x l).Perm (l ++ [x]) := by
  have h := List.perm_middle (l₁ := l.take (insPos by_ x l)) (a := x) (l₂ := l.drop (insPos by_ x l))
  rw [List.take_append_drop] at h
  exact h.trans (List.perm_append_singleton x l).symm
def OkR (r : RowD) : Prop := ∀ v ∈ r.vals, okVal v = true
theorem insR_sorted {by_ : List Int} {x : RowD} (hx : OkR x) : ∀ {l : List RowD}, l.Pairwise (RLt by_) → (∀ r ∈ l, OkR r ∧ r.id < x.id) → (insR by_ x l).Pairwise (RLt by_)
  | [], _, _ => by simp [insR, insPos]
  | a :: r, hs, hn => by
    have hC := orderOf_cmp by_.length
    have hs' := List.pairwise_cons.1 hs
    obtain ⟨hoa, hia⟩ := hn a (by simp)
    have hl := lessBy_eq hx hoa by_
    have lx := keyF_len by_ x.vals
    have la := keyF_len by_ a.vals
    rw [insR, insPos]
    by_cases h : orderOf (keyF by_ x.vals) (keyF by_ a.vals) < 0
    · have h2 : lessBy x.vals a.vals by_ = true := by rw [hl]; exact decide_eq_true h
      rw [h2, if_pos rfl, List.take_zero, List.drop_zero, List.nil_append]
      have hxa : RLt by_ x a := by
        show orI [orderOf (keyF by_ x.vals) (keyF by_ a.vals), cmpI x.id a.id] < 0
        rw [orI, if_neg (by omega)]
        exact h
      refine List.pairwise_cons.2 ⟨fun q hq => ?_, hs⟩
      rcases List.mem_cons.1 hq with rfl | hq
      · exact hxa
      · exact (RLt.ord by_).trans _ _ _ hxa (hs'.1 q hq)
    · have h2 : lessBy x.vals a.vals by_ = false := by rw [hl]; exact decide_eq_false h
      rw [h2, if_neg (by decide), List.take_succ_cons, List.drop_succ_cons, List.cons_append]
      have ih := insR_sorted hx hs'.2 fun q hq => hn q (by simp [hq])
      have hax : RLt by_ a x := by
        show orI [orderOf (keyF by_ a.vals) (keyF by_ x.vals), cmpI a.id x.id] < 0
        by_cases h0 : orderOf (keyF by_ x.vals) (keyF by_ a.vals) = 0
        · rw [hC.eq _ _ lx la h0, hC.refl _ la, orI, if_pos rfl, orI]
          rw [cmpI, if_pos hia]
          decide
        · have h3 := (hC.flip _ _ la lx).2 (by omega)
          rw [orI, if_neg (by omega)]
          exact h3
      refine List.pairwise_cons.2 ⟨fun q hq => ?_, ih⟩
      have hq2 := (insR_perm by_ x r).mem_iff.1 hq
      rcases List.mem_append.1 hq2 with hq2 | hq2
      · exact hs'.1 q hq2
      · rw [List.mem_singleton.1 hq2]; exact hax
def insAll (by_ : List Int) : List RowD → List RowD → List RowD
  | [], acc => acc
  | x :: l, acc => insAll by_ l (insR by_ x acc)
theorem insAll_spec {by_ : List Int} : ∀ {l acc : List RowD}, Rise l → (∀ x ∈ l, OkR x) → acc.Pairwise (RLt by_) → (∀ a ∈ acc, OkR a ∧ ∀ x ∈ l, a.id < x.id) → (insAll by_ l acc).Perm (acc ++ l) ∧ (insAll by_ l acc).Pairwise (RLt by_)
  | [], acc, _, _, h, _ => by rw [insAll, List.append_nil]; exact ⟨.refl _, h⟩
  | x :: l, acc, h1, h2, h3, h4 => by
    have h1' := List.pairwise_cons.1 h1
    have hx := h2 x (by simp)
    have hp := insR_perm by_ x acc
    have hs := insR_sorted hx h3 fun r hr => ⟨(h4 r hr).1, (h4 r hr).2 x (by simp)⟩
    obtain ⟨p1, p2⟩ := insAll_spec (acc := insR by_ x acc) h1'.2 (fun y hy => h2 y (by simp [hy])) hs fun a ha => by
      rcases List.mem_append.1 (hp.mem_iff.1 ha) with ha | ha
      · exact ⟨(h4 a ha).1, fun y hy => (h4 a ha).2 y (by simp [hy])⟩
      · rw [List.mem_singleton.1 ha]; exact ⟨hx, h1'.1⟩
    refine ⟨?_, p2⟩
    rw [insAll]
    refine p1.trans ((hp.append_right l).trans ?_)
    simp
/-- The rows in order, as the reference makes them. -/
def sortedF (by_ : List Int) (K : List RowD) : List RowD := insAll by_ K []
theorem sortedF_spec {by_ : List Int} {K : List RowD} (h1 : Rise K) (h2 : ∀ x ∈ K, OkR x) : (sortedF by_ K).Perm K ∧ (sortedF by_ K).Pairwise (RLt by_) := by
  have := insAll_spec (by_ := by_) (l := K) (acc := []) h1 h2 .nil fun a ha => by simp at ha
  simpa [sortedF] using this
/-- The program's stable sort makes the same. -/
theorem stable_sorted {by_ : List Int} {K : List RowD} (h1 : Rise K) (h2 : ∀ x ∈ K, OkR x) : stableF (rowOrd by_) K = sortedF by_ K := by
  obtain ⟨p1, p2⟩ := stableF_spec (RLt.ord by_) (RLt.cross (by_ := by_) h1)
  obtain ⟨q1, q2⟩ := sortedF_spec (by_ := by_) h1 h2
  exact sorted_unique (RLt.ord by_) p2 q2 (p1.trans q1.symm)
/-! ### the lines that are told -/
def lineAux (vals : List Val) : List Term → List Val → Option (List Val)
  | [], acc => some acc
  | t :: l, acc => if (evalI t.expr vals).2 = true then lineAux vals l (acc ++ [(evalI t.expr vals).1]) else none
def linesAux (terms : List Term) : List RowD → List Line → Option (List Line)
  | [], acc => some acc
  | r :: l, acc => match lineAux r.vals terms [] with
    | some vs => linesAux terms l (acc ++ [⟨vs⟩])
    | none => none
def linesF (terms : List Term) (l : List RowD) : List Line × Bool := match linesAux terms l [] with | some ls => (ls, true) | none => ([], false)
def selRows (l : List RowD) (q : Sel) : List RowD := (sortedF q.by_ (keptF l q.wher)).take q.most.toNat
def runF (l : List RowD) (q : Sel) : List Line × Bool := if (matchF l q.wher).2 then linesF q.terms (selRows l q) else ([], false)
end Go.Proofs.YtinbdedlmkjokaaGreat.Am

/- Joined lines: what the results are like; marks held. -/
set_option linter.unusedVariables false
set_option linter.unusedSimpArgs false
namespace Go.Proofs.YtinbdedlmkjokaaGreat.Am

theorem cntL_le {α : Type} {c : α → Int} {B : Nat} : ∀ {l : List α}, (∀ x ∈ l, c x ≤ B) → cntL c l ≤ (B * l.length : Nat)
  | [], _ => by simp [cntL]
  | a :: l, h => by
    have h1 := h a (by simp)
    have h2 := cntL_le (c := c) (l := l) fun x hx => h x (by simp [hx])
    rw [cntL, List.length_cons, Nat.mul_add, Nat.mul_one]
    omega
/-! ### Marks of lines that are held -/
end Go.Proofs.YtinbdedlmkjokaaGreat.Am

/- Queries: what is told, plain facts. -/
set_option linter.unusedVariables false
set_option linter.unusedSimpArgs false
namespace Go.Proofs.YtinbdedlmkjokaaGreat.Am

theorem evalL_oks {row : List Val} (hr : Oks row) {n : Int} : ∀ {e : List Tok} {a : Int} {st q : List Val}, exprAux n a e = true → Oks st → evalL row e st = some q → Oks q
  | [], a, st, q, _, hs, h => by injection h with h; subst h; exact hs
  | t :: e, a, st, q, hx, hs, h => by
    obtain ⟨h1, h2, h3⟩ := exprAux_cons hx
    rw [evalL] at h
    split at h
    · rename_i hk
      exact evalL_oks hr h3 ((hs.take _).snoc (applyF_ok (fun h2 => tokOk_const h1 h2) (hs.drop _) hr hk)) h
    · cases h
theorem evalI_ok {e : List Tok} {row : List Val} (h : (evalI e row).2 = true) : okVal (evalI e row).1 = true := by
  rw [evalI] at h ⊢
  split at h
  · rename_i hk
    rw [if_pos hk]
    rw [evalOk, Bool.and_eq_true] at hk
    obtain ⟨hr, _⟩ := areVals_oks hk.1
    obtain ⟨_, he⟩ := exprF_aux hk.2
    rw [evalR] at h ⊢
    split at h
    · rename_i v r hq
      exact evalL_oks hr he (fun v hv => by simp at hv) hq v (by simp)
    · cases h
  · cases h
theorem okVal_len {v : Val} (h : okVal v = true) : v.s.length ≤ 34359738368 := by
  simp only [okVal, Bool.or_eq_true, Bool.and_eq_true, beq_iff_eq, decide_eq_true_eq] at h
  rcases h with (⟨_, h⟩ | ⟨_, h⟩) | ⟨_, h⟩
  · rw [h]; simp
  · rw [h]; simp
  · omega
theorem lineAux_ok {vals : List Val} : ∀ {l : List Term} {acc out : List Val}, lineAux vals l acc = some out → out.length = acc.length + l.length ∧ ((∀ v ∈ acc, okVal v = true) → ∀ v ∈ out, okVal v = true)
  | [], acc, out, h => by injection h with h; subst h; exact ⟨rfl, fun h => h⟩
  | t :: l, acc, out, h => by
    rw [lineAux] at h
    split at h
    · rename_i hk
      obtain ⟨h1, h2⟩ := lineAux_ok h
      refine ⟨by rw [h1]; simp; omega, fun ha => h2 fun v hv => ?_⟩
      rcases List.mem_append.1 hv with hv | hv
      · exact ha v hv
      · rw [List.mem_singleton.1 hv]; exact evalI_ok hk
    · cases h
theorem linesAux_ok {terms : List Term} : ∀ {l : List RowD} {acc out : List Line}, linesAux terms l acc = some out → out.length = acc.length + l.length ∧ ∀ x ∈ out, x ∈ acc ∨ (x.vals.length = terms.length ∧ ∀ v ∈ x.vals, okVal v = true)
  | [], acc, out, h => by injection h with h; subst h; exact ⟨rfl, fun x hx => .inl hx⟩
  | r :: l, acc, out, h => by
    rw [linesAux] at h
    split at h
    · rename_i vs hv
      obtain ⟨h1, h2⟩ := linesAux_ok h
      obtain ⟨h3, h4⟩ := lineAux_ok hv
      refine ⟨by rw [h1]; simp; omega, fun x hx => ?_⟩
      rcases h2 x hx with h5 | h5
      · rcases List.mem_append.1 h5 with h5 | h5
        · exact .inl h5
        · rw [List.mem_singleton.1 h5]
          exact .inr ⟨by rw [h3]; simp, h4 fun v hv => by simp at hv⟩
      · exact .inr h5
    · cases h
/-- Where the query's table lies. -/
def selPos (s : List Table) (q : Sel) : Int := idxA (fun u => u.name == q.table) s 0
def RunF (s : List Table) (db : List Data) (q : Sel) : List Line × Bool := if dbF s db && l10F s q then runF (rowsAt db (selPos s q)) q else ([], false)
/-- What is known of a query that is right. -/
structure SelAt (s : List Table) (q : Sel) (m : Nat) : Prop where
  pos : selPos s q = m
  lt : m < s.length
  tab : tabAt s q.table = some (s[m]'lt)
  terms : q.terms.length ≤ 8
  most0 : 0 ≤ q.most
  most : q.most ≤ 60
  each : ∀ t ∈ q.terms, exprF t.expr (s[m]'lt).cols.length = true
  wh : whereF q.wher (s[m]'lt).cols.length = true
  by_ : InR q.by_ (s[m]'lt).cols.length
theorem sel_at {s : List Table} {q : Sel} (h : l10F s q = true) : ∃ m, SelAt s q m := by
  rw [l10F] at h
  rcases idxA_at (p := fun u : Table => u.name == q.table) (l := s) (i := 0) (Int.le_refl _) with h0 | ⟨m, hm, h0, hp⟩
  · rw [tabAt_no h0] at h
    cases h
  · rw [Int.zero_add] at h0
    have ht := tabAt_yes h0 hm
    rw [ht] at h
    simp only [Bool.and_eq_true, selAt] at h
    obtain ⟨h1, h2, h3, h4, h5⟩ := h
    simp only [isIn, Bool.and_eq_true, decide_eq_true_eq] at h1 h2
    refine ⟨m, h0, hm, ht, by omega, h2.1, h2.2, fun t hq => ?_, h4, fun c hc => ?_⟩
    · rw [termsF, Bool.not_eq_true'] at h3
      have := List.any_eq_false.1 h3 t hq
      simpa using this
    · rw [byF] at h5
      rcases Bool.or_eq_true_iff.1 h5 with h6 | h6
      · have : q.by_.length = 0 := by
          have := beq_iff_eq.1 h6
          omega
        rw [List.eq_nil_of_length_eq_zero this] at hc
        cases hc
      · exact colsF_in h6 c hc
theorem RunSelect_fact (s : List Table) (db : List Data) (q : Sel) (hx : s.length ≤ 34359738368) (hb : ∀ t ∈ s, bTable 34359738368 t) (hd : db.length ≤ 34359738368) (hdb : ∀ d ∈ db, bData 34359738368 d) (hq : bSel 34359738368 q) :
    (RunF s db q).1.length ≤ 34359738368 ∧ (∀ x ∈ (RunF s db q).1, bLine 34359738368 x) ∧ 1 + cntL cntLine (RunF s db q).1 ≤ 34359738368 := by
  have h : (RunF s db q).1.length ≤ 60 ∧ ∀ x ∈ (RunF s db q).1, bLine 34359738368 x ∧ x.vals.length ≤ 8 := by
    rw [RunF]
    split
    · rename_i hk
      rw [Bool.and_eq_true] at hk
      obtain ⟨m, hS⟩ := sel_at hk.2
      rw [runF]
      split
      · rw [linesF]
        split
        · rename_i ls hl
          obtain ⟨h1, h2⟩ := linesAux_ok hl
          have h3 : (selRows (rowsAt db (selPos s q)) q).length ≤ 60 := by
            rw [selRows, List.length_take]
            have := hS.most
            omega
          refine ⟨by rw [h1]; simpa using h3, fun x hx => ?_⟩
          rcases h2 x hx with h4 | ⟨h4, h5⟩
          · cases h4
          · have := hS.terms
            exact ⟨⟨by omega, fun v hv => okVal_len (h5 v hv)⟩, by omega⟩
        · exact ⟨by simp, fun x hx => by simp at hx⟩
      · exact ⟨by simp, fun x hx => by simp at hx⟩
    · exact ⟨by simp, fun x hx => by simp at hx⟩
  have hc := cntL_le (c := cntLine) (B := 24) (l := (RunF s db q).1) fun x hx => by
    have := (h.2 x hx).2
    rw [cntLine, cnt3]
    omega
  exact ⟨by omega, fun x hx => (h.2 x hx).1, by omega⟩
end Go.Proofs.YtinbdedlmkjokaaGreat.Am

/- Queries: rows that are left out, in place. -/
set_option linter.unusedVariables false
set_option linter.unusedSimpArgs false
namespace Go.Proofs.YtinbdedlmkjokaaGreat.Am

theorem oldRw {n : Nat} (l : List RowD) : ∀ e ∈ l.map encRowD, ∀ x ∈ e, Old n x := fun e he c hc => by
  obtain ⟨a, _, rfl⟩ := List.mem_map.1 he
  simp only [encRowD, List.mem_cons, List.not_mem_nil, or_false] at hc
  rcases hc with rfl | rfl
  · exact .int _ _
  · exact .fz _ fun i j hi hj => (flats _ (List.getElem_mem hi) _ (List.getElem_mem hj)).old _
theorem rwLen {l : List RowD} : ∀ e ∈ l.map encRowD, e.length = 2 := fun e he => by
  obtain ⟨a, _, rfl⟩ := List.mem_map.1 he
  rfl
theorem idxA_no {α : Type} {p : α → Bool} {l : List α} (h : idxA p l 0 = -1) : ∀ a ∈ l, p a = false := fun a ha => by
  have := any_idx (p := p) (l := l)
  rw [h] at this
  have h2 : l.any p = false := this.symm
  simpa using List.any_eq_false.1 h2 a ha
theorem idxA_first {α : Type} {p : α → Bool} : ∀ {l : List α} {i : Int} {n : Nat}, 0 ≤ i → idxA p l i = i + n → ∃ h : n < l.length, p l[n] = true ∧ ∀ j (hj : j < l.length), j < n → p l[j] = false
  | [], i, n, h0, h => by rw [idxA] at h; omega
  | a :: l, i, n, h0, h => by
    rw [idxA] at h
    split at h
    · rename_i hp
      have hn : n = 0 := by omega
      subst hn
      exact ⟨by simp, hp, fun j hj hlt => by omega⟩
    · rename_i hp
      cases n with
      | zero =>
        exfalso
        rcases idxA_at (p := p) (l := l) (i := i + 1) (by omega) with h1 | ⟨m, _, h1, _⟩ <;> omega
      | succ n =>
        obtain ⟨h1, h2, h3⟩ := idxA_first (p := p) (l := l) (i := i + 1) (n := n) (by omega) (by omega)
        refine ⟨by simp; omega, h2, fun j hj hlt => ?_⟩
        cases j with
        | zero => simpa using hp
        | succ j => exact h3 j (by simpa using hj) (by omega)
theorem filter1 {α : Type} (f : α → Bool) (a : α) : [a].filter f = if f a = true then [a] else [] := by
  rw [List.filter_cons]
  split <;> rfl
theorem aop_clearR {fr : Fr} {σ : Store} {l : List (Nat × List (List Ce))} {k v i n c : Nat} {z : List Ce} {x : Opd} {es : List (List Ce)} (hx : x.ev fr = some (.c (.sl (σ.next + k) v i n c))) (hl : l[k]? = some (v, es)) (hi : i + n ≤ es.length) (hs : ∀ e ∈ es, e.length = z.length) : aop (.clear z x) fr (E σ l) = some (.un, E σ (l.set k (v, splice es i (List.replicate n z)))) := by
  have hk : k < l.length := (List.getElem?_eq_some_iff.1 hl).1
  simp only [aop, hx, E_get hl]
  rw [if_pos ⟨trivial, hi, hs⟩, E_put hk]
def zRow : List Ce := [.int .i64 0, .nils]
theorem deleteRows_ok (l : List RowD) (junk : List (List Ce)) (v : Nat) (p : RowD → Bool) (g : Nat) (pre cap : List Ce) (hp : ∀ r ∈ l, Pure Tryz.prog g (pre.map .c ++ [.agg (encRowD r)] ++ cap.map .c) (.c (.bool (p r)))) (hx : l.length ≤ 34359738368) (hj : Jk 2 junk) (σ : Store) :
    Ok Tryz.prog 74 [.c (vec (σ.next + 0) v (l.map encRowD) junk), .c (.fn g pre cap)] (E σ [(v, l.map encRowD ++ junk)]) (fun r τ => ∃ k2, Jk 2 k2 ∧ r = .c (vec (σ.next + 0) v ((l.filter fun a => !p a).map encRowD) k2) ∧ τ = E σ [(v, (l.filter fun a => !p a).map encRowD ++ k2)]) := by
  refine Ok.run mixed c_slices_DeleteFunc_Row_ok (Nat.le_of_ble_eq_true rfl) fun hS hA => ?_
  clear hS hA
  rw [E_E, List.append_nil]
  have ci := indexFuncA_ok mixed c_slices_IndexFunc_Row_ok encRowD (fun a => .agg (encRowD a)) (fun _ => rfl) (fun _ => rfl) l p g pre cap hx (fun i hi _ => hp _ (List.getElem_mem hi))
  repeat' first|refine yaG ?_|(exfalso;omega)|(refine yaS ?_ ?_<;>intro _)
  refine Go.lcall rfl rfl rfl ci (.int _ _) (.own (frz_old (k := 0) rfl (oldRw _) (Nat.zero_le _)) (.same .nil)) ?_
  rcases idxA_at (p := p) (l := l) (i := 0) (Int.le_refl _) with h0 | ⟨n0, hn0, h0, hpn⟩
  · rw [h0]
    repeat' first|refine yaG ?_|(exfalso;omega)|(refine yaS ?_ ?_<;>intro _)
    have hf : (l.filter fun a => !p a) = l := List.filter_eq_self.2 fun a ha => by rw [idxA_no h0 a ha]; rfl
    rw [hf]
    exact .ret rfl ⟨junk, hj, rfl, rfl⟩
  · obtain ⟨_, hp1, hp2⟩ := idxA_first (Int.le_refl _) h0
    rw [Int.zero_add] at h0
    rw [h0]
    have hne : ¬ (n0 : Int) = -1 := by omega
    have e1 : IntKind.i64.wrap ((n0 : Int) + 1) = ((n0 + 1 : Nat) : Int) := by rw [wrap64 (by omega) (by omega)]; omega
    have hft : (l.take (n0 + 1)).filter (fun a => !p a) = l.take n0 := by
      rw [List.take_succ_eq_append_getElem hn0, List.filter_append, filter1, hp1]
      simp only [Bool.not_true, Bool.false_eq_true, if_false, List.append_nil]
      refine List.filter_eq_self.2 fun a ha => ?_
      obtain ⟨j, hj1, rfl⟩ := List.getElem_of_mem ha
      rw [List.length_take] at hj1
      rw [List.getElem_take, hp2 j (by omega) (by omega)]
      rfl
    repeat' first|refine yaG ?_|(exfalso;omega)|(refine yaS ?_ ?_<;>intro _)
    refine Go.keep [0, 1, 5, 6] (Go.loops (I := fun m fr τ => ∃ (i j : Nat) (zi zj : Int) (q : List RowD), m = l.length - j ∧ j ≤ l.length ∧ i < j ∧ zi = i ∧ zj = j ∧ q.length = l.length ∧ q.take i = (l.take j).filter (fun a => !p a) ∧ q.drop j = l.drop j ∧
      fr = [(0, .c (vec (σ.next + 0) v (l.map encRowD) junk)), (1, .c (.fn g pre cap)), (5, .c (.int .i64 zi)), (6, .c (.int .i64 zj))] ∧ τ = E σ [(v, q.map encRowD ++ junk)]) ?_ _ _ _ ⟨n0, n0 + 1, _, _, l, rfl, hn0, by omega, rfl, e1, rfl, hft.symm, rfl, rfl, rfl⟩)
    rintro m fr τ ⟨i, j, zi, zj, q, rfl, hjl, hij, hzi, hzj, hql, hqt, hqd, rfl, rfl⟩ hrec
    have hlm : (l.map encRowD).length = l.length := List.length_map _
    have hqm : (q.map encRowD).length = q.length := List.length_map _
    have hg : (E σ [(v, q.map encRowD ++ junk)]).get (σ.next + 0) = some (v, q.map encRowD ++ junk) := E_get (k := 0) rfl
    have hn0 : (E σ [(v, l.map encRowD ++ junk)]).next ≤ (E σ [(v, q.map encRowD ++ junk)]).next := Nat.le_refl _
    by_cases hlt : j < l.length
    · have hqj : q[j]'(by omega) = l[j] := by
        have := congrArg (fun x => x[0]?) hqd
        simp only [List.getElem?_drop, Nat.add_zero] at this
        rw [List.getElem?_eq_getElem hlt, List.getElem?_eq_getElem (by omega)] at this
        injection this
      have hev : (q.map encRowD ++ junk)[0 + j]? = some (encRowD l[j]) := by
        rw [Nat.zero_add, List.getElem?_append_left (by omega), List.getElem?_map, List.getElem?_eq_getElem (by omega), hqj]
        rfl
      have hevi : (q.map encRowD ++ junk)[0 + i]? = some (encRowD (q[i]'(by omega))) := by
        rw [Nat.zero_add, List.getElem?_append_left (by omega), List.getElem?_map, List.getElem?_eq_getElem (by omega)]
        rfl
      have hjm : j < (l.map encRowD).length := by omega
      have him : i < (l.map encRowD).length := by omega
      have cp := hp _ (List.getElem_mem hlt)
      have setQ : (q.map encRowD ++ junk).set (0 + i) (splice (encRowD (q[i]'(by omega))) 0 (encRowD l[j])) = (q.set i l[j]).map encRowD ++ junk := by
        have : splice (encRowD (q[i]'(by omega))) 0 (encRowD l[j]) = encRowD l[j] := by rw [splice, List.take_zero, List.nil_append, List.drop_eq_nil_of_le (by simp [encRowD]), List.append_nil]
        rw [this, Nat.zero_add, List.set_append_left _ _ (by omega), List.map_set]
      cases hpj : p l[j]
      · rw [hpj] at cp
        repeat' first|refine yaG ?_|((first|apply yG|apply yH|apply yI);exact rfl;(first|exact aop_iaddrO rfl rfl hzj hjm hg hev rfl|exact aop_iaddrO rfl rfl hzi him hg hevi rfl|exact aop_load (k := 0) rfl rfl hev (Nat.le_of_ble_eq_true rfl) rfl|exact aop_store (k := 0) rfl rfl rfl rfl hevi rfl (Nat.le_of_ble_eq_true rfl)))|refine yaC (cp) ?_|(exfalso;omega)|(refine yaS ?_ ?_<;>intro _)
        refine Go.keep [0, 1, 5, 6] (hrec _ _ _ (by omega) ⟨i + 1, j + 1, _, _, q.set i l[j], rfl, hlt, by omega, wrap_succ hzi (by omega), wrap_succ hzj (by omega), by rw [List.length_set]; exact hql, ?_, ?_, rfl, ?_⟩)
        · rw [List.take_succ_eq_append_getElem (by rw [List.length_set]; omega), List.take_set_of_le (Nat.le_refl _), List.getElem_set_self, hqt, List.take_succ_eq_append_getElem hlt, List.filter_append, filter1, hpj]
          rfl
        · rw [List.drop_set_of_lt (by omega), ← List.drop_drop, hqd, List.drop_drop]
        · rw [← setQ]
          rfl
      · rw [hpj] at cp
        repeat' first|refine yaG ?_|((first|apply yG|apply yH|apply yI);exact rfl;(first|exact aop_iaddrO rfl rfl hzj hjm hg hev rfl|exact aop_load (k := 0) rfl rfl hev (Nat.le_of_ble_eq_true rfl) rfl))|refine yaC (cp) ?_|(exfalso;omega)|(refine yaS ?_ ?_<;>intro _)
        refine Go.keep [0, 1, 5, 6] (hrec _ _ _ (by omega) ⟨i, j + 1, _, _, q, rfl, hlt, by omega, hzi, wrap_succ hzj (by omega), hql, ?_, ?_, rfl, rfl⟩)
        · rw [hqt, List.take_succ_eq_append_getElem hlt, List.filter_append, filter1, hpj]
          simp
        · rw [← List.drop_drop, hqd, List.drop_drop]
    · clear hrec
      have hj2 : j = l.length := by omega
      have hK : q.take i = l.filter fun a => !p a := by rw [hqt, List.take_of_length_le (by omega)]
      have hil : i ≤ (q.map encRowD).length := by omega
      have hvq : vec (σ.next + 0) v (l.map encRowD) junk = vec (σ.next + 0) v (q.map encRowD) junk := by rw [vec, vec, hlm, hqm, hql]
      have hal : ∀ e ∈ q.map encRowD ++ junk, e.length = 2 := fun e he => (List.mem_append.1 he).elim (rwLen e) fun h => (hj e h).1
      rw [hvq]
      have hcl : i + ((q.map encRowD).length - i) ≤ (q.map encRowD ++ junk).length := by rw [List.length_append]; omega
      have hsp : splice (q.map encRowD ++ junk) i (List.replicate ((q.map encRowD).length - i) zRow) = ((q.take i).map encRowD ++ List.replicate ((q.map encRowD).length - i) zRow) ++ junk := by
        rw [splice, List.take_append_of_le_length hil, List.length_replicate, List.drop_append, List.drop_eq_nil_of_le (by omega), show i + ((q.map encRowD).length - i) - (q.map encRowD).length = 0 by omega, List.drop_zero, List.nil_append, ← List.map_take]
      generalize hZ : List.replicate ((q.map encRowD).length - i) zRow = zs at hsp
      have hzs : ∀ e ∈ zs, e.length = 2 ∧ ∀ x ∈ e, Flat x := fun e he => by
        rw [← hZ] at he
        rw [List.eq_of_mem_replicate he]
        refine ⟨rfl, fun x hx => ?_⟩
        simp only [zRow, List.mem_cons, List.not_mem_nil, or_false] at hx
        rcases hx with rfl | rfl
        · exact .int _ _
        · exact .nils
      have hvz : vec (σ.next + 0) v (q.map encRowD) junk = vec (σ.next + 0) v ((q.take i).map encRowD ++ zs) junk := by
        have : ((q.take i).map encRowD ++ zs).length = (q.map encRowD).length := by rw [List.length_append, List.length_map, List.length_take, ← hZ, List.length_replicate]; omega
        rw [vec, vec, this]
      have hal2 : ∀ e ∈ ((q.take i).map encRowD ++ zs) ++ junk, e.length = 2 := fun e he => by
        rcases List.mem_append.1 he with he | he
        · rcases List.mem_append.1 he with he | he
          · exact rwLen e he
          · exact (hzs e he).1
        · exact (hj e he).1
      have hi3 : i ≤ ((q.take i).map encRowD ++ zs).length := by rw [List.length_append, List.length_map, List.length_take]; omega
      repeat' first|refine yaG ?_|((first|apply yG|apply yH|apply yI);exact rfl;(first|exact aop_drop (k := 0) rfl rfl hzi hil rfl hal))|(exfalso;omega)|(refine yaS ?_ ?_<;>intro _)
      refine Go.op rfl (aop_clearR (k := 0) (z := zRow) rfl rfl hcl (fun e he => hal e he)) ?_
      rw [hZ]
      simp only [List.set_cons_zero]
      rw [hsp, hvz]
      repeat' first|refine yaG ?_|((first|apply yG|apply yH|apply yI);exact rfl;(first|exact aop_take (k := 0) rfl rfl hzi hi3 rfl hal2))|(exfalso;omega)|(refine yaS ?_ ?_<;>intro _)
      refine .ret rfl ⟨zs ++ junk, fun e he => (List.mem_append.1 he).elim (hzs e) (hj e), ?_, ?_⟩
      · have e2 : ((q.take i).map encRowD ++ zs).take i = (l.filter fun a => !p a).map encRowD := by
          rw [List.take_left' (by rw [List.length_map, List.length_take]; omega), hK]
        have e3 : ((q.take i).map encRowD ++ zs).drop i = zs := List.drop_left' (by rw [List.length_map, List.length_take]; omega)
        rw [e2, e3]
      · rw [hK, List.append_assoc]
end Go.Proofs.YtinbdedlmkjokaaGreat.Am

/- Queries: the program's RunSelect. -/
set_option linter.unusedVariables false
set_option linter.unusedSimpArgs false
namespace Go.Proofs.YtinbdedlmkjokaaGreat.Am

theorem aop_cutFz {fr : Fr} {σ : Store} {s : Nat} {x hi : Opd} {kd : IntKind} {es : List (List Ce)} {z : Int} {n : Nat} (hx : x.ev fr = some (.c (.fz es))) (hy : hi.ev fr = some (.c (.int kd z))) (hz : z = (n : Int)) (hn : n ≤ es.length) (hs : ∀ e ∈ es, e.length = s) : aop (.slice s x none (some hi) none) fr σ = some (.c (.fz (es.take n)), σ) := by
  have : sliceA σ s (.fz es) none (some (.c (.int kd z))) none = some (.fz (es.take n)) := by
    subst hz
    simp only [sliceA, bound]
    rw [if_pos (by omega)]
    simp only [Int.toNat_natCast]
    rw [if_pos ⟨Nat.zero_le _, hn, hs⟩, List.drop_zero]
  simp only [aop, hx, evo, hy, Option.map_some, this]
theorem has_vec {σ : Store} {l : List (Nat × List (List Ce))} {k v s : Nat} {ys junk : List (List Ce)} {S : Nat → Prop} (hl : l[k]? = some (v, ys ++ junk)) (hy : ∀ e ∈ ys, e.length = s ∧ ∀ x ∈ e, Flat x) (hj : Jk s junk) (hS : S (σ.next + k)) : Has (E σ l) S (.fz ys) (vec (σ.next + k) v ys junk) :=
  .o ys (σ.next + k) v s ys junk (fun _ _ _ => False) (E_get hl) hS rfl (fun i hi => rfl) (fun e he => (List.mem_append.1 he).elim (fun h => (hy e h).1) fun h => (hj e h).1) (fun e he => (hj e he).2) (fun _ _ _ h => h.elim) (fun _ _ _ _ _ h => h.elim) fun i j hi hj => .c ((hy _ (List.getElem_mem hi)).2 _ (List.getElem_mem hj))
theorem runSelect1_ok (ids : List Int) (r : RowD) (hx : ids.length ≤ 34359738368) : Pure Tryz.prog 76 [.agg (encRowD r), .c (.fp [.fz (ids.map encI)])] (.c (.bool (!(ids.any fun a => r.id == a)))) := by
  refine Pure.run mixed c_impl_RunSelect_1_ok (Nat.le_of_ble_eq_true rfl) fun σ hS hA => ?_
  clear hS hA
  repeat' first|refine yaG ?_|refine yaC (containsInt_ok mixed c_slices_Contains_int64_int64_ok c_slices_Index_int64_int64_ok ids r.id hx) ?_|(exfalso;omega)|(refine yaS ?_ ?_<;>intro _)
  exact .ret rfl (.bool rfl)
theorem any_contains (ids : List Int) (n : Int) : (ids.any fun a => n == a) = ids.contains n := by
  induction ids with
  | nil => rfl
  | cons a r ih => rw [List.any_cons, ih, List.contains_cons]
theorem rowSorts : Sorts Tryz.prog := ⟨mixed, ⟨_, c_slices_symMergeCmpFunc_Row_ok⟩, ⟨_, c_slices_rotateCmpFunc_Row_ok⟩, ⟨_, c_slices_swapRangeCmpFunc_Row_ok⟩, ⟨_, c_slices_insertionSortCmpFunc_Row_ok⟩, ⟨_, c_slices_stableCmpFunc_Row_ok⟩⟩
/-- Rows sorted in place. -/
theorem sortRows_ok (q : Sel) (K : List RowD) (k2 : List (List Ce)) (v N : Nat) (hb : q.by_.length ≤ 34359738368) (hI : ∀ r ∈ K, InR q.by_ r.vals.length) (hx : K.length ≤ 34359738368) (σ : Store) :
    Ok Tryz.prog 78 [.c (vec (σ.next + 0) v (K.map encRowD) k2), .c (.fn 79 [] [.fp (encSel q)])] (E σ [(v, K.map encRowD ++ k2)]) (fun r τ => r = .tup [] ∧ τ = E σ [(v, (stableF (rowOrd q.by_) K).map encRowD ++ k2)]) := by
  let F : Fam RowD := ⟨E σ [(v, [])], σ.next + 0, v, encRowD, k2, fun _ => rfl⟩
  have hFS : ∀ l : List RowD, F.S l = E σ [(v, l.map encRowD ++ k2)] := fun l => E_put (by simp)
  have hcmp : Cmps Tryz.prog F (fun r => InR q.by_ r.vals.length) (rowOrd q.by_) 79 [] [.fp (encSel q)] := fun u x y hx hy => (runSelect2_ok q x y hb hx hy).at_ _
  have h := sortStable_ok rowSorts c_slices_SortStableFunc_Row_ok F (fun r => InR q.by_ r.vals.length) (rowOrd q.by_) _ [] [.fp (encSel q)] hcmp K (K.length + k2.length) hI hx
  rw [hFS, hFS] at h
  have e : vec (σ.next + 0) v (K.map encRowD) k2 = .sl (σ.next + 0) v 0 K.length (K.length + k2.length) := by rw [vec, List.length_map]
  rw [e]
  exact h
theorem clone_rows (l : List RowD) (hx : l.length ≤ 1048576) (σ : Store) : Ok Tryz.prog 75 [.c (.fz (l.map encRowD))] σ (Cloned σ 2 (l.map encRowD)) :=
  clone_ok mixed c_slices_Clone_Row_ok (l.map encRowD) rwLen (by rw [List.length_map]; omega) σ
/-! ### of no rows -/
theorem indexNil (f : Ce) : Pure Tryz.prog 164 [.c .nils, .c f] (.c (.int .i64 (-1))) := by
  refine Pure.run mixed c_slices_IndexFunc_Row_ok (Nat.le_of_ble_eq_true rfl) fun σ hS hA => ?_
  clear hS hA
  repeat' first|refine yaG ?_|(exfalso;omega)|(refine yaS ?_ ?_<;>intro _)
  apply Go.loop
  repeat' first|refine yaG ?_|(exfalso;omega)|(refine yaS ?_ ?_<;>intro _)
  exact .ret rfl (.int rfl)
theorem finNil {σ : Store} {l : List (Nat × List (List Ce))} : Fin σ (.c .nils) (.c .nils) (E σ l) := ⟨l, rfl, .c (.same _ .nils)⟩
theorem deleteNil (f : Ce) : Pure Tryz.prog 74 [.c .nils, .c f] (.c .nils) := by
  refine Pure.run mixed c_slices_DeleteFunc_Row_ok (Nat.le_of_ble_eq_true rfl) fun σ hS hA => ?_
  clear hS hA
  repeat' first|refine yaG ?_|refine yaC (indexNil f) ?_|(exfalso;omega)|(refine yaS ?_ ?_<;>intro _)
  exact .ret rfl finNil
theorem finTup0 {σ : Store} {l : List (Nat × List (List Ce))} : Fin σ (.tup []) (.tup []) (E σ l) := ⟨l, rfl, .tup rfl fun i hi => by simp at hi⟩
theorem insertNil (f : Ce) : Pure Tryz.prog 233 [.c .nils, .c (.int .i64 0), .c (.int .i64 0), .c f] (.tup []) := by
  refine Pure.run mixed c_slices_insertionSortCmpFunc_Row_ok (Nat.le_of_ble_eq_true rfl) fun σ hS hA => ?_
  clear hS hA
  repeat' first|refine yaG ?_|(exfalso;omega)|(refine yaS ?_ ?_<;>intro _)
  apply Go.loop
  repeat' first|refine yaG ?_|(exfalso;omega)|(refine yaS ?_ ?_<;>intro _)
  exact .fin rfl finTup0
theorem stableNil (f : Ce) : Pure Tryz.prog 166 [.c .nils, .c (.int .i64 0), .c f] (.tup []) := by
  refine Pure.run mixed c_slices_stableCmpFunc_Row_ok (Nat.le_of_ble_eq_true rfl) fun σ hS hA => ?_
  clear hS hA
  repeat' first|refine yaG ?_|(exfalso;omega)|(refine yaS ?_ ?_<;>intro _)
  apply Go.loop
  repeat' first|refine yaG ?_|refine yaC (insertNil f) ?_|(exfalso;omega)|(refine yaS ?_ ?_<;>intro _)
  apply Go.loop
  repeat' first|refine yaG ?_|(exfalso;omega)|(refine yaS ?_ ?_<;>intro _)
  exact .fin rfl finTup0
theorem sortNil (f : Ce) : Pure Tryz.prog 78 [.c .nils, .c f] (.tup []) := by
  refine Pure.run mixed c_slices_SortStableFunc_Row_ok (Nat.le_of_ble_eq_true rfl) fun σ hS hA => ?_
  clear hS hA
  repeat' first|refine yaG ?_|refine yaC (stableNil f) ?_|(exfalso;omega)|(refine yaS ?_ ?_<;>intro _)
  exact .fin rfl finTup0
/-! ### a line that grows -/
def LineSt (τ : Store) (vs : List Val) (xv : Ce) (ll : List (Nat × List (List Ce))) : Prop := (vs = [] ∧ xv = .nils ∧ ll = [(0, [[.nils]])]) ∨ ∃ v junk, Jk 3 junk ∧ xv = vec (τ.next + 1) v (vs.map encV) junk ∧ ll = [(0, [[vec (τ.next + 1) v (vs.map encV) junk]]), (v, vs.map encV ++ junk)]
theorem LineSt.gr {τ : Store} {vs : List Val} {xv : Ce} {ll : List (Nat × List (List Ce))} (h : LineSt τ vs xv ll) : Gr τ (E τ ll) := by
  refine ⟨ll, rfl, fun b hb e he x hx => ?_⟩
  rcases h with ⟨_, _, rfl⟩ | ⟨v, junk, hj, _, rfl⟩
  · rw [List.mem_singleton.1 hb] at he
    rw [List.mem_singleton.1 he] at hx
    rw [List.mem_singleton.1 hx]
    exact .flat .nils
  · rcases List.mem_cons.1 hb with rfl | hb
    · rw [List.mem_singleton.1 he] at hx
      rw [List.mem_singleton.1 hx]
      exact .sl _ _ _ _ _ (Nat.le_add_right _ _)
    · rw [List.mem_singleton.1 hb] at he
      rcases List.mem_append.1 he with he | he
      · exact .flat (flats e he x hx)
      · exact .flat ((hj e he).2 x hx)
theorem LineSt.has {τ : Store} {vs : List Val} {xv : Ce} {ll : List (Nat × List (List Ce))} (h : LineSt τ vs xv ll) : Has (E τ ll) (fun a => τ.next ≤ a ∧ a < (E τ ll).next) (.fz (vs.map encV)) xv := by
  rcases h with ⟨rfl, rfl, rfl⟩ | ⟨v, junk, hj, rfl, rfl⟩
  · exact .nil
  · exact has_vec (k := 1) rfl clean_append hj ⟨Nat.le_add_right _ _, by rw [E_next]; simp⟩
theorem LineSt.at0 {τ : Store} {vs : List Val} {xv : Ce} {ll : List (Nat × List (List Ce))} (h : LineSt τ vs xv ll) : ll[0]? = some (0, [[xv]]) := by
  rcases h with ⟨rfl, rfl, rfl⟩ | ⟨v, junk, hj, rfl, rfl⟩ <;> rfl
end Go.Proofs.YtinbdedlmkjokaaGreat.Am

/- Queries: the reference's RunSelect, its parts. -/
set_option linter.unusedVariables false
set_option linter.unusedSimpArgs false
namespace Go.Proofs.YtinbdedlmkjokaaGreat.Am

theorem l4At_ok (d : Data) (n : Int) (hx : d.rows.length ≤ 34359738368) : Pure Tryz.prog 89 [.agg (encData d), .c (.int .i64 n)] (.c (.int .i64 (idxA (fun r : RowD => r.id == n) d.rows 0))) := by
  refine Pure.run mixed c_spec_l4At_ok (Nat.le_of_ble_eq_true rfl) fun σ hS hA => ?_
  clear hS hA
  repeat' first|refine yaG ?_|(exfalso;omega)|(refine yaS ?_ ?_<;>intro _)
  refine Go.keep [1, 2, 5] (Go.loops (I := fun m fr τ => ∃ i : Nat, ∃ k : Int, m = d.rows.length - i ∧ i ≤ d.rows.length ∧ k = i ∧ idxA (fun r : RowD => r.id == n) d.rows 0 = idxA (fun r : RowD => r.id == n) (d.rows.drop i) k ∧
    fr = [(1, .c (.int .i64 n)), (2, .c (.fp (encData d))), (5, .c (.int .i64 k))] ∧ τ = E σ []) ?_ _ _ _ ⟨0, _, rfl, Nat.zero_le _, rfl, rfl, rfl, rfl⟩)
  rintro m fr τ ⟨i, k, rfl, hi, hn, hsl, rfl, rfl⟩ hrec
  by_cases hlt : i < d.rows.length
  · repeat' first|refine yaG ?_|((first|apply yG|apply yH|apply yI);exact rfl;(first|exact yX (enc := encRowD) rfl rfl hn hlt rfl))|(exfalso;omega)|(refine yaS ?_ ?_<;>intro _)
    · rename_i h
      refine .ret rfl (.int ?_)
      rw [hsl, List.drop_eq_getElem_cons hlt, idxA, if_pos (by rw [h]; simp)]
    · rename_i h
      refine Go.keep [1, 2, 5] (hrec _ _ _ (by omega) ⟨i + 1, _, rfl, hlt, wrap_succ hn (by omega), ?_, rfl, rfl⟩)
      rw [hsl, List.drop_eq_getElem_cons hlt, idxA, if_neg (by simpa using h), wrap64 (by omega) (by omega)]
  · repeat' first|refine yaG ?_|(exfalso;omega)|(refine yaS ?_ ?_<;>intro _)
    refine .ret rfl (.int ?_)
    rw [hsl, List.drop_eq_nil_of_le (by omega)]
    rfl
/-- A row is found by its number. -/
theorem at_row {l : List RowD} (h : Rise l) {r : RowD} (hr : r ∈ l) : ∃ (m : Nat) (hm : m < l.length), idxA (fun x : RowD => x.id == r.id) l 0 = (m : Int) ∧ l[m] = r := by
  rcases idxA_at (p := fun x : RowD => x.id == r.id) (l := l) (i := 0) (Int.le_refl _) with h0 | ⟨m, hm, h0, hp⟩
  · have := idxA_no h0 r hr
    simp at this
  · rw [Int.zero_add] at h0
    exact ⟨m, hm, h0, h.inj (List.getElem_mem hm) hr (beq_iff_eq.1 hp)⟩
/-- The place of insertion, from i on. -/
theorem insPos_at {by_ : List Int} {x : RowD} : ∀ {l : List RowD} {i : Nat} (hi : i < l.length), (∀ j (hj : j < l.length), j < i → lessBy x.vals l[j].vals by_ = false) → lessBy x.vals l[i].vals by_ = true → insPos by_ x l = i
  | [], i, hi, _, _ => by simp at hi
  | r :: l, 0, hi, _, h => by
    have h2 : lessBy x.vals r.vals by_ = true := h
    rw [insPos, if_pos h2]
  | r :: l, i + 1, hi, h0, h => by
    have h1 : lessBy x.vals r.vals by_ = false := h0 0 (Nat.zero_lt_succ _) (Nat.zero_lt_succ _)
    have h2 : ¬ lessBy x.vals r.vals by_ = true := by rw [h1]; decide
    rw [insPos, if_neg h2, insPos_at (l := l) (i := i) (Nat.lt_of_succ_lt_succ hi) (fun j hj hlt => h0 (j + 1) (Nat.succ_lt_succ hj) (Nat.succ_lt_succ hlt)) h]
theorem insPos_end {by_ : List Int} {x : RowD} : ∀ {l : List RowD}, (∀ j (hj : j < l.length), lessBy x.vals l[j].vals by_ = false) → insPos by_ x l = l.length
  | [], _ => rfl
  | r :: l, h0 => by
    have h1 : lessBy x.vals r.vals by_ = false := h0 0 (Nat.zero_lt_succ _)
    have h2 : ¬ lessBy x.vals r.vals by_ = true := by rw [h1]; decide
    rw [insPos, if_neg h2, insPos_end (l := l) (fun j hj => h0 (j + 1) (Nat.succ_lt_succ hj)), List.length_cons]
theorem aop_cutLo {fr : Fr} {σ : Store} {s : Nat} {x lo : Opd} {kd : IntKind} {es : List (List Ce)} {z : Int} {n : Nat} (hx : x.ev fr = some (.c (.fz es))) (hy : lo.ev fr = some (.c (.int kd z))) (hz : z = (n : Int)) (hn : n ≤ es.length) (hs : ∀ e ∈ es, e.length = s) : aop (.slice s x (some lo) none none) fr σ = some (.c (.fz (es.drop n)), σ) := by
  have : sliceA σ s (.fz es) (some (.c (.int kd z))) none none = some (.fz (es.drop n)) := by
    subst hz
    simp only [sliceA, bound]
    rw [if_pos (by omega)]
    simp only [Int.toNat_natCast]
    rw [if_pos ⟨hn, Nat.le_refl _, hs⟩, List.take_length]
  simp only [aop, hx, evo, hy, Option.map_some, this]
end Go.Proofs.YtinbdedlmkjokaaGreat.Am

/- Queries: the program's RunSelect, whole. -/
set_option linter.unusedVariables false
set_option linter.unusedSimpArgs false
namespace Go.Proofs.YtinbdedlmkjokaaGreat.Am

theorem l10F_schema {s : List Table} {db : List Data} {q : Sel} (h : dbF s db = true) : selectF s q = l10F s q := by rw [selectF, (dbF_at h).1, Bool.true_and]
theorem take_min {α : Type} (l : List α) (n : Nat) : l.take (min l.length n) = l.take n := by
  by_cases h : n ≤ l.length
  · rw [Nat.min_eq_right h]
  · rw [Nat.min_eq_left (by omega), List.take_of_length_le (Nat.le_refl _), List.take_of_length_le (by omega)]
theorem aop_cutRows {fr : Fr} {σ : Store} {x hi : Opd} {kd : IntKind} {l : List RowD} {z : Int} {n : Nat} (hx : x.ev fr = some (.c (.fz (l.map encRowD)))) (hy : hi.ev fr = some (.c (.int kd z))) (hz : z = (n : Int)) (hn : n ≤ l.length) : aop (.slice 2 x none (some hi) none) fr σ = some (.c (.fz ((l.take n).map encRowD)), σ) := by
  rw [List.map_take]
  exact aop_cutFz hx hy hz (by rw [List.length_map]; exact hn) rwLen
theorem aop_min {fr : Fr} {σ : Store} {x y : Opd} {k : IntKind} {a b : Int} (hx : x.ev fr = some (.c (.int k a))) (hy : y.ev fr = some (.c (.int k b))) : aop (.mm false x y) fr σ = some (.c (.int k (if b < a then b else a)), σ) := by
  simp only [aop, hx, hy]
  rfl
theorem min_at {n : Nat} {m : Int} (h : 0 ≤ m) : (if m < (n : Int) then m else (n : Int)) = ((min n m.toNat : Nat) : Int) := by
  split <;> omega
theorem frz_nilrows {σ : Store} {l : List (Nat × List (List Ce))} {n : Nat} : FrzV (E σ l) n (.c .nils) (.c (.fz [])) := .c .nil
theorem clone_nil {l : List RowD} (h : l.map encRowD = []) : l = [] := List.map_eq_nil_iff.1 h
set_option maxHeartbeats 4000000 in
theorem RunSelect_ok (s : List Table) (db : List Data) (q : Sel) (hx : s.length ≤ 34359738368) (hb : ∀ t ∈ s, bTable 34359738368 t) (hd : db.length ≤ 34359738368) (hdb : ∀ d ∈ db, bData 34359738368 d) (hq : bSel 34359738368 q) (σ : Store) :
    Ok Tryz.prog 23 [.c (.fz (s.map encTable)), .c (.fz (db.map encData)), .agg (encSel q)] σ (NewV σ (.tup [.c (.fz ((RunF s db q).1.map encLine)), .c (.bool (RunF s db q).2)])) := by
  refine Ok.run mixed c_impl_RunSelect_ok (Nat.le_of_ble_eq_true rfl) fun hS hA => ?_
  have hQ : ∀ n, σ.next ≤ n → ∀ y ∈ (AV.c (.fp (encSel q))).all, Old n y := fun n hn y hy => by
    simp only [AV.all, List.mem_singleton] at hy
    subst hy
    exact .fp _ fun j hj => (hA _ (by simp) _ (List.getElem_mem (l := (AV.agg (encSel q)).all) (n := j) hj)).mono hn
  clear hA
  have c1 := DbOk_ok s db hx hb hd hdb
  have c2 := SelectOk_ok s q hx hb hq
  rw [RunF]
  cases h1 : dbF s db
  · rw [h1] at c1
    repeat' first|refine yaG ?_|refine yaC (c1) ?_|(exfalso;omega)|(refine yaS ?_ ?_<;>intro _)
    exact .ret rfl newNo
  rw [h1] at c1
  rw [l10F_schema h1] at c2
  cases h2 : l10F s q
  · rw [h2] at c2
    repeat' first|refine yaG ?_|refine yaC (c1) ?_|refine yaC (c2) ?_|(exfalso;omega)|(refine yaS ?_ ?_<;>intro _)
    exact .ret rfl newNo
  rw [h2] at c2
  rw [show (true && true) = true from rfl, if_pos rfl]
  obtain ⟨m, hM⟩ := sel_at h2
  obtain ⟨hs, hl, hrows⟩ := dbF_at h1
  have hlt := hM.lt
  have hlt2 : m < db.length := by omega
  have hrf := hrows m hlt hlt2
  obtain ⟨hr1, hr2⟩ := rowsF_mem hrf
  have hra : rowsAt db (selPos s q) = db[m].rows := by rw [hM.pos, rowsAt, Int.toNat_natCast, List.getElem?_eq_getElem hlt2]
  rw [hra]
  have c3 := TableAt_ok s q.table hx
  rw [show idxA (fun t : Table => t.name == q.table) s 0 = (m : Int) from hM.pos] at c3
  have hbd := hdb _ (List.getElem_mem hlt2)
  have hwl := hq.2.2.1.1
  have c4 := NewV.pure (matching_ok db[m].rows q.wher (by omega) (fun r hr => (hbd.2 r hr).1) hwl)
  have hids := matchF_ids (l := db[m].rows) (w := q.wher)
  rw [runF]
  generalize matchF db[m].rows q.wher = M at c4 hids
  obtain ⟨ids, mb⟩ := M
  simp only at c4 hids
  have hz : ((m : Int) : Int) = ((m : Nat) : Int) := rfl
  cases mb
  · repeat' first|refine yaG ?_|((first|apply yG|apply yH|apply yI);exact rfl;(first|exact yX (enc := encData) rfl rfl hz hlt2 rfl))|refine yaC (c1) ?_|refine yaC (c2) ?_|refine yaC (c3) ?_|refine yaC (c4) ?_|(exfalso;omega)|(refine yaS ?_ ?_<;>intro _)
    exact .ret rfl newNo
  have hids := hids rfl
  rw [if_pos rfl]
  have hOk : ∀ x ∈ keptF db[m].rows q.wher, OkR x := fun x hx => (fitF_vals (hr2 x (List.mem_filter.1 hx).1).1).2
  have hRi : Rise (keptF db[m].rows q.wher) := (rowsF_rise hrf).kept _
  have hIn : ∀ r ∈ keptF db[m].rows q.wher, InR q.by_ r.vals.length := fun r hr => by rw [(fitF_vals (hr2 r (List.mem_filter.1 hr).1).1).1]; exact hM.by_
  have hKl : (keptF db[m].rows q.wher).length ≤ 60 := Nat.le_trans (List.length_filter_le _ _) hr1
  have hst := stable_sorted (by_ := q.by_) hRi hOk
  have hsp := (sortedF_spec (by_ := q.by_) hRi hOk).1
  have hSl : (sortedF q.by_ (keptF db[m].rows q.wher)).length ≤ 60 := by rw [hsp.length_eq]; exact hKl
  have hSv : ∀ r ∈ sortedF q.by_ (keptF db[m].rows q.wher), r.vals.length ≤ 8 := fun r hr => by
    rw [(fitF_vals (hr2 r (List.mem_filter.1 (hsp.mem_iff.1 hr)).1).1).1]
    exact (schemaF_cols hs _ (List.getElem_mem hlt)).2
  have hpick : (db[m].rows.filter fun a => !!(ids.any fun x => a.id == x)) = keptF db[m].rows q.wher := by
    rw [← pick_kept (rowsF_rise hrf) q.wher, ← hids]
    refine List.filter_congr fun a _ => ?_
    rw [Bool.not_not, any_contains]
  have hidl : ids.length ≤ 34359738368 := by rw [hids, List.length_map]; omega
  rw [selRows]
  repeat' first|refine yaG ?_|((first|apply yG|apply yH|apply yI);exact rfl;(first|exact yX (enc := encData) rfl rfl hz hlt2 rfl))|refine yaC (c1) ?_|refine yaC (c2) ?_|refine yaC (c3) ?_|refine yaC (c4) ?_|(exfalso;omega)|(refine yaS ?_ ?_<;>intro _)
  clear c1 c2 c3 c4
  generalize hK : keptF db[m].rows q.wher = Kp at *
  have hps : ∀ r ∈ db[m].rows, Pure Tryz.prog 76 (([] : List Ce).map .c ++ [.agg (encRowD r)] ++ [.fp [.fz (ids.map encI)]].map .c) (.c (.bool (!(ids.any fun a => r.id == a)))) := fun r _ => runSelect1_ok ids r hidl
  have cd := fun v junk (hj : Jk 2 junk) => deleteRows_ok db[m].rows junk v (fun a => !(ids.any fun x => a.id == x)) 76 [] [.fp [.fz (ids.map encI)]] hps (by omega) hj σ
  simp only [hpick] at cd
  refine Go.keep [5, 9, 46] ?_
  refine Go.meet (K' := [_]) (fun fr τ => (Kp = [] ∧ fr = [(5, .c (.fp (encSel q))), (8, .c .nils)] ∧ τ = E σ []) ∨ ∃ v k2, Jk 2 k2 ∧ fr = [(5, .c (.fp (encSel q))), (8, .c (vec (σ.next + 0) v (Kp.map encRowD) k2))] ∧ τ = E σ [(v, Kp.map encRowD ++ k2)]) (fun K hm => ?_) ?_
  · refine .call _ rfl rfl rfl (clone_rows db[m].rows (by omega) (E σ [])) ?_
    rintro r τ (⟨he, rfl, rfl⟩ | ⟨v, junk, hj, rfl, rfl⟩)
    · have hr0 : db[m].rows = [] := clone_nil he
      rw [E_E, List.nil_append]
      repeat' first|refine yaG ?_|refine yaC (deleteNil _) ?_|(exfalso;omega)|(refine yaS ?_ ?_<;>intro _)
      refine Go.keep [5, 8] (hm _ _ (.inl ⟨?_, rfl, rfl⟩))
      rw [← hK, hr0]
      rfl
    · rw [E_E, List.nil_append]
      repeat' first|refine yaG ?_|(exfalso;omega)|(refine yaS ?_ ?_<;>intro _)
      refine .call _ rfl rfl rfl (cd v junk hj) ?_
      rintro r τ ⟨k2, hj2, rfl, rfl⟩
      repeat' first|refine yaG ?_|(exfalso;omega)|(refine yaS ?_ ?_<;>intro _)
      exact Go.keep [5, 8] (hm _ _ (.inr ⟨v, k2, hj2, rfl, rfl⟩))
  clear cd hps hpick hidl
  rintro fr τ hst1
  refine .seq ?_
  refine Go.meet (K' := [_]) (fun fr τ => fr = [(5, .c (.fp (encSel q))), (8, .c (.fz ((sortedF q.by_ Kp).map encRowD)))] ∧ τ = E σ []) (fun K hm => ?_) ?_
  · rcases hst1 with ⟨hK0, rfl, rfl⟩ | ⟨v, k2, hj2, rfl, rfl⟩
    · repeat' first|refine yaG ?_|refine yaC (sortNil _) ?_|(exfalso;omega)|(refine yaS ?_ ?_<;>intro _)
      refine Go.freezeN (l := []) (m := []) (fr' := [(5, .c (.fp (encSel q))), (8, .c (.fz ((sortedF q.by_ Kp).map encRowD)))]) hS (fun b hb => by cases hb) (Nat.le_refl _) (.frz rfl (.refl (hQ _ (Nat.le_refl _))) (.frz rfl ?_ .nil)) (hm _ _ ⟨rfl, rfl⟩)
      rw [hK0]
      exact frz_nilrows
    · repeat' first|refine yaG ?_|(exfalso;omega)|(refine yaS ?_ ?_<;>intro _)
      refine .call _ rfl rfl rfl (sortRows_ok q Kp k2 v 0 hq.2.2.2 hIn (by omega) σ) ?_
      rintro r τ ⟨rfl, rfl⟩
      rw [hst]
      repeat' first|refine yaG ?_|(exfalso;omega)|(refine yaS ?_ ?_<;>intro _)
      refine Go.freezeN (l := []) (m := [(v, (sortedF q.by_ Kp).map encRowD ++ k2)]) (fr' := [(5, .c (.fp (encSel q))), (8, .c (.fz ((sortedF q.by_ Kp).map encRowD)))]) hS (fun b hb => by cases hb) (Nat.le_refl _) (.frz rfl (.refl (hQ _ (Nat.le_refl _))) (.frz rfl ?_ .nil)) (hm _ _ ⟨rfl, rfl⟩)
      have hvv : vec (σ.next + 0) v (Kp.map encRowD) k2 = vec (σ.next + 0) v ((sortedF q.by_ Kp).map encRowD) k2 := by rw [vec, vec, List.length_map, List.length_map, hsp.length_eq]
      rw [hvv]
      exact frz_old (k := 0) rfl (oldRw _) (Nat.le_refl _)
  clear hst1
  clear fr τ
  rintro fr τ ⟨rfl, rfl⟩
  generalize sortedF q.by_ Kp = S at *
  have hm0 := hM.most0
  have hmin := min_at (n := S.length) hm0
  have hlen : (if q.most < ((S.map encRowD).length : Int) then q.most else ((S.map encRowD).length : Int)) = ((min S.length q.most.toNat : Nat) : Int) := by rw [List.length_map]; exact hmin
  have hcl : min S.length q.most.toNat ≤ S.length := Nat.min_le_left _ _
  have hS2 : ∀ r ∈ S.take (min S.length q.most.toNat), r.vals.length ≤ 8 := fun r hr => hSv r (List.mem_of_mem_take hr)
  rw [← take_min S q.most.toNat]
  repeat' first|(apply yA;exact rfl)|apply yB|apply yC|((first|apply yD|apply yE);(first|exact yF|assumption);iterate 6 exact rfl)|((first|apply yG|apply yH|apply yI);exact rfl;(first|exact yJ|exact yK rfl rfl|exact yL rfl|exact yM rfl|exact aop_min rfl rfl|exact aop_cutRows rfl rfl hmin hcl|exact rfl|exact aL rfl rfl rfl rfl rfl|exact aS rfl rfl rfl rfl rfl rfl rfl))|((first|apply yN|apply yO|apply yP);exact rfl)|(exfalso;omega)|(((first|apply yT|apply yU|apply yV|apply yW);exact rfl;(first|exact .d|exact .e|exact .n|((fail_if_success exact bqt);(fail_if_success exact bqf);exact .b)))<;>intro _)
  have hL60 : (S.take (min S.length q.most.toNat)).length ≤ 60 := by rw [List.length_take]; omega
  generalize S.take (min S.length q.most.toNat) = L at *
  clear hmin hlen hcl
  refine Go.keep [5, 11, 60, 61, 62] (Go.loops (I := fun k fr τ => ∃ (i : Nat) (z : Int) (acc : List Line) (x : Ce), k = L.length - i ∧ i ≤ L.length ∧ z = i ∧ (acc.length = i ∧ linesAux q.terms L [] = linesAux q.terms (L.drop i) acc) ∧ Grow σ τ 1 (acc.map encLine) x ∧
    fr = [(5, .c (.fp (encSel q))), (11, .c x), (60, .c (.fz (L.map encRowD))), (61, .c (.int .i64 (L.length : Int))), (62, .c (.int .i64 z))]) ?_ _ _ _ ⟨0, _, [], _, rfl, Nat.zero_le _, rfl, ⟨rfl, rfl⟩, Grow.empty, rfl⟩)
  rintro k fr τ ⟨i, z, acc, x, rfl, hi, hz, ⟨hal, hj⟩, hG, rfl⟩ hrec
  have hle : σ.next ≤ τ.next := hG.gr.next
  by_cases hlt : i < L.length
  · have hv8 := hS2 _ (List.getElem_mem hlt)
    rw [List.drop_eq_getElem_cons hlt, linesAux] at hj
    refine .old fun _ hSτ => ?_
    rw [← E_nil hSτ]
    have hle1 : σ.next ≤ (E τ []).next := hle
    repeat' first|(apply yA;exact rfl)|apply yB|apply yC|(apply yE (s := 2);(first|exact yF|assumption);iterate 6 exact rfl)|((first|apply yG|apply yH|apply yI);exact rfl;(first|exact yJ|exact yK rfl rfl|exact yL rfl|exact yM rfl|exact rfl|exact aL rfl rfl rfl rfl rfl|exact aS rfl rfl rfl rfl rfl rfl rfl|exact yX (enc := encRowD) rfl rfl hz hlt rfl))|((first|apply yN|apply yO|apply yP);exact rfl)|(exfalso;omega)|(((first|apply yT|apply yU|apply yV|apply yW);exact rfl;(first|exact .d|exact .e|exact .n|((fail_if_success exact bqt);(fail_if_success exact bqf);exact .b)))<;>intro _)
    refine Go.keep [5, 11, 13, 14, 60, 61, 62, 68, 69, 70] (Go.loops (I := fun k fr ρ => ∃ (j : Nat) (w : Int) (vs : List Val) (xv : Ce) (ll : List (Nat × List (List Ce))), k = q.terms.length - j ∧ j ≤ q.terms.length ∧ w = j ∧ (vs.length = j ∧ lineAux L[i].vals q.terms [] = lineAux L[i].vals (q.terms.drop j) vs) ∧ LineSt τ vs xv ll ∧
      fr = [(5, .c (.fp (encSel q))), (11, .c x), (13, .c (.fp (encRowD L[i]))), (14, .c (.ptr (τ.next + 0) 0 0 0)), (60, .c (.fz (L.map encRowD))), (61, .c (.int .i64 (L.length : Int))), (62, .c (.int .i64 z)), (68, .c (.fz (q.terms.map encTerm))), (69, .c (.int .i64 (q.terms.length : Int))), (70, .c (.int .i64 w))] ∧ ρ = E τ ll) ?_ _ _ _ ⟨0, _, [], .nils, _, rfl, Nat.zero_le _, rfl, ⟨rfl, rfl⟩, .inl ⟨rfl, rfl, rfl⟩, rfl, rfl⟩)
    rintro k ρ0 ρ ⟨j, w, vs, xv, ll, rfl, hjl, hw, ⟨hvl, hln⟩, hLS, rfl, rfl⟩ hrecj
    have hle2 : σ.next ≤ (E τ ll).next := Nat.le_trans hle (Nat.le_add_right _ _)
    have htl := hM.terms
    by_cases hjt : j < q.terms.length
    · rw [List.drop_eq_getElem_cons hjt, lineAux] at hln
      have hte := hq.2.1.2 _ (List.getElem_mem hjt)
      have c5 := Eval_ok q.terms[j].expr L[i].vals hte.1 (by omega)
      generalize evalI q.terms[j].expr L[i].vals = ev at c5 hln
      obtain ⟨ev1, ev2⟩ := ev
      simp only at c5 hln
      cases ev2
      · rw [if_neg (by decide)] at hln
        clear hrecj hrec
        repeat' first|refine yaG ?_|((first|apply yG|apply yH|apply yI);exact rfl;(first|exact yX (enc := encTerm) rfl rfl hw hjt rfl))|refine yaC (c5) ?_|(exfalso;omega)|(refine yaS ?_ ?_<;>intro _)
        refine .ret rfl ?_
        rw [hln] at hj
        rw [linesF, hj]
        exact newPair (.bool _) (newNil (hG.later hLS.gr).1)
      · rw [if_pos rfl] at hln
        have hbd : ((vs.map encV).length + 1) * 32 ≤ 140737488355328 := by rw [List.length_map]; omega
        rcases hLS with ⟨rfl, rfl, rfl⟩ | ⟨v, junk, hjk, rfl, rfl⟩
        · repeat' first|(apply yA;exact rfl)|apply yB|apply yC|((first|apply yD|apply yE);(first|exact yF|assumption);iterate 6 exact rfl)|((first|apply yG|apply yH|apply yI);exact rfl;(first|exact yJ|exact yK rfl rfl|exact yL rfl|exact yM rfl|exact aop_appNil rfl rfl (fun e he => by rw [List.mem_singleton.1 he];rfl) (by simp)|exact rfl|exact aL rfl rfl rfl rfl rfl|exact aS rfl rfl rfl rfl rfl rfl rfl|exact yX (enc := encTerm) rfl rfl hw hjt rfl))|((first|apply yN|apply yO|apply yP);exact rfl)|((first|apply yQ|apply yR|apply yS);(iterate 3 exact rfl);exact c5)|(exfalso;omega)|(((first|apply yT|apply yU|apply yV|apply yW);exact rfl;(first|exact .d|exact .e|exact .n|((fail_if_success exact bqt);(fail_if_success exact bqf);exact .b)))<;>intro _)
          exact Go.keep [5, 11, 13, 14, 60, 61, 62, 68, 69, 70] (hrecj _ _ _ (by omega) ⟨j + 1, _, [] ++ [ev1], _, _, rfl, hjt, wrap_succ hw (by omega), ⟨by rw [List.length_append, hvl]; rfl, hln⟩, .inr ⟨0, [], Jk.nil, rfl, rfl⟩, rfl, rfl⟩)
        · repeat' first|refine yaG ?_|((first|apply yG|apply yH|apply yI);exact rfl;(first|exact yX (enc := encTerm) rfl rfl hw hjt rfl))|refine yaC (c5) ?_|(exfalso;omega)|(refine yaS ?_ ?_<;>intro _)
          refine Go.app1 (k := 1) (ys := vs.map encV) (junk := junk) (z := encV ev1) rfl rfl rfl rfl rfl lens hjk rfl hbd fun v' junk' hj' => ?_
          rw [show vs.map encV ++ [encV ev1] = (vs ++ [ev1]).map encV by simp]
          repeat' first|refine yaG ?_|(exfalso;omega)|(refine yaS ?_ ?_<;>intro _)
          exact Go.keep [5, 11, 13, 14, 60, 61, 62, 68, 69, 70] (hrecj _ _ _ (by omega) ⟨j + 1, _, vs ++ [ev1], _, _, rfl, hjt, wrap_succ hw (by omega), ⟨by rw [List.length_append, hvl]; rfl, hln⟩, .inr ⟨v', junk', hj', rfl, rfl⟩, rfl, rfl⟩)
    · clear hrecj
      rw [List.drop_eq_nil_of_le (by omega), lineAux] at hln
      rw [hln] at hj
      have hh := hLS.has
      have hG2 := hG.later hLS.gr
      repeat' first|refine yaG ?_|((first|apply yG|apply yH|apply yI);exact rfl;(first|exact aop_load (k := 0) rfl hLS.at0 rfl (Nat.le_of_ble_eq_true rfl) rfl))|(exfalso;omega)|(refine yaS ?_ ?_<;>intro _)
      refine Go.grow ?_ ?_ ?_ hG2 hle (Nat.le_add_right _ _) (line_owned hh) rfl ?_ fun x' τ3 hG3 => ?_
      · exact rfl
      · exact rfl
      · exact rfl
      · rw [List.length_map]
        omega
      repeat' first|refine yaG ?_|(exfalso;omega)|(refine yaS ?_ ?_<;>intro _)
      refine Go.keep [5, 11, 60, 61, 62] (hrec _ _ _ (by omega) ⟨i + 1, _, acc ++ [⟨vs⟩], x', rfl, hlt, wrap_succ hz (by omega), ⟨by rw [List.length_append, hal]; rfl, hj⟩, ?_, rfl⟩)
      rw [List.map_append]
      exact hG3
  · rw [List.drop_eq_nil_of_le (by omega), linesAux] at hj
    repeat' first|refine yaG ?_|(exfalso;omega)|(refine yaS ?_ ?_<;>intro _)
    refine .ret rfl ?_
    rw [linesF, hj]
    exact newPair (.bool _) hG.v
end Go.Proofs.YtinbdedlmkjokaaGreat.Am

/- Queries: the reference's RunSelect. -/
set_option linter.unusedVariables false
set_option linter.unusedSimpArgs false
namespace Go.Proofs.YtinbdedlmkjokaaGreat.Am

theorem frz_ptr0 {σ : Store} {l : List (Nat × List (List Ce))} {k v N : Nat} {e : List Ce} (hl : l[k]? = some (v, [e])) (ho : ∀ x ∈ e, Old N x) (hN : N ≤ σ.next + k) : FrzV (E σ l) N (.c (.ptr (σ.next + k) v 0 0)) (.c (.fp e)) :=
  .c (.ptr _ _ _ _ [e] e e hN (E_get hl) rfl rfl fun j hj => by
    simp only [Nat.zero_add]
    exact .same _ (ho _ (List.getElem_mem hj)))
theorem old_ids {n : Nat} {l : List Int} : ∀ y ∈ (AV.c (.fz (l.map encI))).all, Old n y := fun y hy => by
  rw [List.mem_singleton.1 hy]; exact old_fz1 (oldInts _)
theorem old_rows {n : Nat} {l : List RowD} : ∀ y ∈ (AV.c (.fz (l.map encRowD))).all, Old n y := fun y hy => by
  rw [List.mem_singleton.1 hy]; exact old_fz1 fun e he x hx => oldRw l e he x hx
theorem old_data {n : Nat} {d : Data} : ∀ y ∈ (AV.c (.fp (encData d))).all, Old n y := fun y hy => by
  rw [List.mem_singleton.1 hy]
  exact .fp _ fun j hj => oldDatas [d] _ (List.mem_singleton.2 rfl) _ (List.getElem_mem hj)
theorem old_row {n : Nat} {x : RowD} : ∀ y ∈ encRowD x, Old n y := oldRw [x] _ (List.mem_singleton.2 rfl)
theorem LineSt.olds {τ : Store} {vs : List Val} {xv : Ce} {ll : List (Nat × List (List Ce))} (h : LineSt τ vs xv ll) : ∀ b ∈ ll, ∀ e ∈ b.2, ∀ x ∈ e, Old (τ.next + ll.length) x := by
  intro b hb e he x hx
  rcases h with ⟨_, _, rfl⟩ | ⟨v, junk, hj, _, rfl⟩
  · rw [List.mem_singleton.1 hb] at he
    rw [List.mem_singleton.1 he] at hx
    rw [List.mem_singleton.1 hx]
    exact .nils
  · rcases List.mem_cons.1 hb with rfl | hb
    · rw [List.mem_singleton.1 he] at hx
      rw [List.mem_singleton.1 hx]
      exact .sl _ _ _ _ _ (Nat.lt_succ_self _)
    · rw [List.mem_singleton.1 hb] at he
      rcases List.mem_append.1 he with he | he
      · exact (flats e he x hx).old _
      · exact ((hj e he).2 x hx).old _
set_option maxHeartbeats 4000000 in
theorem sRunSelect_ok (s : List Table) (db : List Data) (q : Sel) (hx : s.length ≤ 34359738368) (hb : ∀ t ∈ s, bTable 34359738368 t) (hd : db.length ≤ 34359738368) (hdb : ∀ d ∈ db, bData 34359738368 d) (hq : bSel 34359738368 q) (σ : Store) :
    Ok Tryz.prog 24 [.c (.fz (s.map encTable)), .c (.fz (db.map encData)), .agg (encSel q)] σ (NewV σ (.tup [.c (.fz ((RunF s db q).1.map encLine)), .c (.bool (RunF s db q).2)])) := by
  refine Ok.run mixed c_spec_RunSelect_ok (Nat.le_of_ble_eq_true rfl) fun hS hA => ?_
  have hQ : ∀ n, σ.next ≤ n → ∀ y ∈ (AV.c (.fp (encSel q))).all, Old n y := fun n hn y hy => by
    simp only [AV.all, List.mem_singleton] at hy
    subst hy
    exact .fp _ fun j hj => (hA _ (by simp) _ (List.getElem_mem (l := (AV.agg (encSel q)).all) (n := j) hj)).mono hn
  clear hA
  have c1 := sDbOk_ok s db hx hb hd hdb
  rw [RunF]
  cases h1 : dbF s db
  · rw [h1] at c1
    repeat' first|refine yaG ?_|refine yaC (c1) ?_|(exfalso;omega)|(refine yaS ?_ ?_<;>intro _)
    exact .ret rfl newNo
  rw [h1] at c1
  have c2 := l10Ok_ok s q (dbF_at h1).1 hx hb hq
  cases h2 : l10F s q
  · rw [h2] at c2
    repeat' first|refine yaG ?_|refine yaC (c1) ?_|refine yaC (c2) ?_|(exfalso;omega)|(refine yaS ?_ ?_<;>intro _)
    exact .ret rfl newNo
  rw [h2] at c2
  rw [show (true && true) = true from rfl, if_pos rfl]
  obtain ⟨m, hM⟩ := sel_at h2
  obtain ⟨hs, hl, hrows⟩ := dbF_at h1
  have hlt := hM.lt
  have hlt2 : m < db.length := by omega
  have hrf := hrows m hlt hlt2
  obtain ⟨hr1, hr2⟩ := rowsF_mem hrf
  have hcl := schemaF_cols hs _ (List.getElem_mem hlt)
  have hra : rowsAt db (selPos s q) = db[m].rows := by rw [hM.pos, rowsAt, Int.toNat_natCast, List.getElem?_eq_getElem hlt2]
  rw [hra]
  have c3 := l3At_ok s q.table hx
  rw [show idxA (fun t : Table => t.name == q.table) s 0 = (m : Int) from hM.pos] at c3
  have hwl := hq.2.2.1.1
  have hrow : ∀ r ∈ db[m].rows, areVals r.vals 16 = true ∧ r.vals.length = s[m].cols.length ∧ OkR r := fun r hr => by
    obtain ⟨q1, _⟩ := hr2 r hr
    exact ⟨fitF_are q1 hcl.2, (fitF_vals q1).1, (fitF_vals q1).2⟩
  have c4 := NewV.pure (l7Matching_ok db[m] q.wher (by omega) hwl fun h0 r hr => ⟨(hrow r hr).1, by rw [(hrow r hr).2.1]; exact whereF_some hM.wh h0⟩)
  have hids := matchF_ids (l := db[m].rows) (w := q.wher)
  rw [runF]
  generalize matchF db[m].rows q.wher = M at c4 hids
  obtain ⟨ids, mb⟩ := M
  simp only at c4 hids
  have hz : ((m : Int) : Int) = ((m : Nat) : Int) := rfl
  cases mb
  · repeat' first|refine yaG ?_|((first|apply yG|apply yH|apply yI);exact rfl;(first|exact yX (enc := encData) rfl rfl hz hlt2 rfl))|refine yaC (c1) ?_|refine yaC (c2) ?_|refine yaC (c3) ?_|refine yaC (c4) ?_|(exfalso;omega)|(refine yaS ?_ ?_<;>intro _)
    exact .ret rfl newNo
  have hids := hids rfl
  rw [if_pos rfl]
  have hRr := rowsF_rise hrf
  have hKm : ∀ r ∈ keptF db[m].rows q.wher, r ∈ db[m].rows := fun r hr => (List.mem_filter.1 hr).1
  have hKl : (keptF db[m].rows q.wher).length ≤ 60 := Nat.le_trans (List.length_filter_le _ _) hr1
  rw [selRows]
  repeat' first|refine yaG ?_|((first|apply yG|apply yH|apply yI);exact rfl;(first|exact yX (enc := encData) rfl rfl hz hlt2 rfl))|refine yaC (c1) ?_|refine yaC (c2) ?_|refine yaC (c3) ?_|refine yaC (c4) ?_|(exfalso;omega)|(refine yaS ?_ ?_<;>intro _)
  clear c1 c2 c3 c4
  have hRi : Rise (keptF db[m].rows q.wher) := hRr.kept _
  have hOk : ∀ x ∈ keptF db[m].rows q.wher, OkR x := fun x hx => (hrow x (hKm x hx)).2.2
  generalize keptF db[m].rows q.wher = Kp at *
  have hin : ∀ r ∈ db[m].rows, InR q.by_ r.vals.length := fun r hr => by rw [(hrow r hr).2.1]; exact hM.by_
  have hte : ∀ t ∈ q.terms, ∀ r ∈ db[m].rows, exprF t.expr r.vals.length = true := fun t ht r hr => by rw [(hrow r hr).2.1]; exact hM.each t ht
  generalize db[m] = d at *
  refine Go.freezeN (l := []) (m := [(0, [])]) (fr' := [(5, .c (.fp (encSel q))), (8, .c (.fp (encData d))), (9, .c (.fz (ids.map encI))), (11, .c (.fz (([] : List RowD).map encRowD))), (12, .c (.int .i64 0))]) hS (fun b hb => by cases hb) (Nat.le_refl _)
    (.frz rfl (.refl (hQ _ (Nat.le_refl _))) (.frz rfl (.refl old_data) (.frz rfl (.refl old_ids) (.frz rfl (frz_old (k := 0) (v := 0) (ys := []) (junk := []) rfl (fun e he => by cases he) (Nat.le_refl _)) (.frz rfl (.refl old_c) .nil))))) ?_
  have hSs := sortedF_spec (by_ := q.by_) hRi hOk
  refine Go.meet (K' := [_, _]) (fun fr τ => fr = [(5, .c (.fp (encSel q))), (11, .c (.fz ((sortedF q.by_ Kp).map encRowD)))] ∧ τ = E σ []) (fun K hm => ?_) ?_
  · refine Go.loops (I := fun k fr τ => ∃ (i : Nat) (z : Int) (acc : List RowD), k = Kp.length - i ∧ i ≤ Kp.length ∧ z = i ∧ (sortedF q.by_ Kp = insAll q.by_ (Kp.drop i) acc ∧ acc.length = i ∧ ∀ r ∈ acc, r ∈ d.rows) ∧
      fr = [(5, .c (.fp (encSel q))), (8, .c (.fp (encData d))), (9, .c (.fz (ids.map encI))), (11, .c (.fz (acc.map encRowD))), (12, .c (.int .i64 z))] ∧ τ = E σ []) ?_ _ _ _ ⟨0, _, [], rfl, Nat.zero_le _, rfl, ⟨rfl, rfl, fun r hr => by cases hr⟩, rfl, rfl⟩
    rintro k fr τ ⟨i, z, acc, rfl, hi, hz, ⟨hso, hal, hac⟩, rfl, rfl⟩ hrec
    have hil : ids.length = Kp.length := by rw [hids, List.length_map]
    by_cases hlt : i < Kp.length
    · have hxm := hKm _ (List.getElem_mem hlt)
      obtain ⟨j, hj, hji, hjr⟩ := at_row hRr hxm
      have hii : i < ids.length := by omega
      have hid : ids[i] = Kp[i].id := by
        rw [List.getElem_of_eq hids hii, List.getElem_map]
      have c5 := l4At_ok d ids[i] (by omega)
      rw [show idxA (fun r : RowD => r.id == ids[i]) d.rows 0 = (j : Int) by rw [hid]; exact hji] at c5
      have hzj : (j : Int) = ((j : Nat) : Int) := rfl
      repeat' first|apply Go.seq|apply Go.skip|apply Go.region|apply Go.nil|apply Go.block|apply Go.blk|apply Go.segs|(apply Go.exit;exact rfl)|(apply Go.cond true;exact rfl)|(apply Go.cond false;exact rfl)|apply yB|apply yC|((first|apply yD|apply yE);(first|exact yF|assumption);iterate 6 exact rfl)|((first|apply yG|apply yH|apply yI);exact rfl;(first|exact yJ|exact yK rfl rfl|exact yL rfl|exact yM rfl|exact rfl|exact aL rfl rfl rfl rfl rfl|exact aS rfl rfl rfl rfl rfl rfl rfl))|((first|apply yN|apply yO|apply yP);exact rfl)|(exfalso;omega)|(((first|apply yT|apply yU|apply yV|apply yW);exact rfl;(first|exact .d|exact .e|exact .n|((fail_if_success exact bqt);(fail_if_success exact bqf);exact .b)))<;>intro _)
      apply Go.draw
      refine Go.qkd [] ?_
      repeat' first|(apply Qk.nil;show Go _ _ _ _ _ _ _ _)|(apply Qk.op;exact rfl;(first|(rintro _ ⟨_, rfl⟩;exact rfl)|(rintro _ ⟨_, rfl⟩;exact aop_load rfl rfl rfl (Nat.le_of_ble_eq_true rfl) rfl)|(rintro _ ⟨_, rfl⟩;exact yX (enc := encI) rfl rfl hz hii rfl)|(rintro _ ⟨_, rfl⟩;exact yX (enc := encRowD) rfl rfl hzj hj rfl)))|(apply Qk.no;exact rfl)|(apply Qk.pcall;(iterate 3 exact rfl);(first|exact c5))|(apply Qk.wop;exact rfl;exact rfl;(first|exact yJ|exact yL rfl|exact aop_store rfl rfl rfl rfl rfl rfl (Nat.le_of_ble_eq_true rfl));exact ⟨_, rfl⟩)
      repeat' first|apply Go.seq|apply Go.skip|apply Go.region|apply Go.nil|apply Go.blk|apply Go.segs|(apply Go.exit;exact rfl)|(apply Go.cond true;exact rfl)|(apply Go.cond false;exact rfl)|apply yB|apply yC|((first|apply yD|apply yE);(first|exact yF|assumption);iterate 6 exact rfl)|((first|apply yG|apply yH|apply yI);exact rfl;(first|exact yJ|exact yK rfl rfl|exact yL rfl|exact yM rfl|exact rfl|exact aL rfl rfl rfl rfl rfl|exact aS rfl rfl rfl rfl rfl rfl rfl))|((first|apply yN|apply yO|apply yP);exact rfl)|(exfalso;omega)|(((first|apply yT|apply yU|apply yV|apply yW);exact rfl;(first|exact .d|exact .e|exact .n|((fail_if_success exact bqt);(fail_if_success exact bqf);exact .b)))<;>intro _)
      rw [hjr]
      rw [List.drop_eq_getElem_cons hlt, insAll] at hso
      clear c5 hid hji hjr
      generalize Kp[i] = x at *
      refine Go.freezeN (l := []) (m := [(0, [encRowD x])]) (fr' := [(5, .c (.fp (encSel q))), (8, .c (.fp (encData d))), (9, .c (.fz (ids.map encI))), (11, .c (.fz (acc.map encRowD))), (12, .c (.int .i64 z)), (13, .c (.fp (encRowD x))), (14, .c (.int .i64 0))]) hS (fun b hb => by cases hb) (Nat.le_refl _)
        (.frz rfl (.refl (hQ _ (Nat.le_refl _))) (.frz rfl (.refl old_data) (.frz rfl (.refl old_ids) (.frz rfl (.refl old_rows) (.frz rfl (.refl old_c) (.frz rfl (frz_ptr0 (k := 0) (v := 0) rfl old_row (Nat.le_refl _)) (.frz rfl (.refl old_c) .nil))))))) ?_
      refine Go.meet (K' := [_]) (fun fr τ => ∃ w : Int, w = (insPos q.by_ x acc : Nat) ∧ fr = [(5, .c (.fp (encSel q))), (8, .c (.fp (encData d))), (9, .c (.fz (ids.map encI))), (11, .c (.fz (acc.map encRowD))), (12, .c (.int .i64 z)), (13, .c (.fp (encRowD x))), (14, .c (.int .i64 w))] ∧ τ = E σ []) (fun K hm => ?_) ?_
      · repeat' first|refine yaG ?_|(exfalso;omega)|(refine yaS ?_ ?_<;>intro _)
        refine Go.keep [5, 8, 9, 11, 12, 13, 14] (Go.loops (I := fun k fr τ => ∃ (n : Nat) (w : Int), k = acc.length - n ∧ n ≤ acc.length ∧ w = n ∧ (∀ j (hj : j < acc.length), j < n → lessBy x.vals acc[j].vals q.by_ = false) ∧
          fr = [(5, .c (.fp (encSel q))), (8, .c (.fp (encData d))), (9, .c (.fz (ids.map encI))), (11, .c (.fz (acc.map encRowD))), (12, .c (.int .i64 z)), (13, .c (.fp (encRowD x))), (14, .c (.int .i64 w))] ∧ τ = E σ []) ?_ _ _ _ ⟨0, _, rfl, Nat.zero_le _, rfl, fun j hj h => absurd h (Nat.not_lt_zero _), rfl, rfl⟩)
        rintro k fr τ ⟨n, w, rfl, hn, hw, hls, rfl, rfl⟩ hrec2
        by_cases hlt2 : n < acc.length
        · have c6 := l10Less_ok q.by_ x.vals acc[n].vals hq.2.2.2 (hin _ hxm) (hin _ (hac _ (List.getElem_mem hlt2)))
          cases hL : lessBy x.vals acc[n].vals q.by_
          · rw [hL] at c6
            repeat' first|refine yaG ?_|((first|apply yG|apply yH|apply yI);exact rfl;(first|exact yX (enc := encRowD) rfl rfl hw hlt2 rfl))|refine yaC (c6) ?_|(exfalso;omega)|(refine yaS ?_ ?_<;>intro _)
            refine Go.keep [5, 8, 9, 11, 12, 13, 14] (hrec2 _ _ _ (by omega) ⟨n + 1, _, rfl, hlt2, wrap_succ hw (by omega), fun j hj h => ?_, rfl, rfl⟩)
            by_cases e : j = n
            · subst e; exact hL
            · exact hls j hj (by omega)
          · rw [hL] at c6
            repeat' first|refine yaG ?_|((first|apply yG|apply yH|apply yI);exact rfl;(first|exact yX (enc := encRowD) rfl rfl hw hlt2 rfl))|refine yaC (c6) ?_|(exfalso;omega)|(refine yaS ?_ ?_<;>intro _)
            exact Go.keep [5, 8, 9, 11, 12, 13, 14] (hm _ _ ⟨w, by rw [insPos_at hlt2 hls hL]; exact hw, rfl, rfl⟩)
        · repeat' first|refine yaG ?_|(exfalso;omega)|(refine yaS ?_ ?_<;>intro _)
          exact Go.keep [5, 8, 9, 11, 12, 13, 14] (hm _ _ ⟨w, by rw [insPos_end fun j hj => hls j hj (by omega)]; omega, rfl, rfl⟩)
      · clear hm
        rintro fr τ ⟨w, hw, rfl, rfl⟩
        have hp := insPos_le q.by_ x acc
        have hperm := insR_perm q.by_ x acc
        have hR : (acc.map encRowD).take (insPos q.by_ x acc) ++ [encRowD x] ++ (acc.map encRowD).drop (insPos q.by_ x acc) = (insR q.by_ x acc).map encRowD := by simp [insR]
        generalize insPos q.by_ x acc = p at *
        have hpm : p ≤ (acc.map encRowD).length := by rw [List.length_map]; exact hp
        have htl : ∀ e ∈ (acc.map encRowD).take p, e.length = 2 := fun e he => rwLen e (List.mem_of_mem_take he)
        have hdl : ∀ e ∈ (acc.map encRowD).drop p, e.length = 2 := fun e he => rwLen e (List.mem_of_mem_drop he)
        have hb1 : (([] : List (List Ce)).length + ((acc.map encRowD).take p).length) * 32 ≤ 140737488355328 := by simp; omega
        have hb2 : (((acc.map encRowD).take p).length + 1) * 32 ≤ 140737488355328 := by simp; omega
        have hb3 : (((acc.map encRowD).take p ++ [encRowD x]).length + ((acc.map encRowD).drop p).length) * 32 ≤ 140737488355328 := by simp; omega
        repeat' first|refine yaG ?_|((first|apply yG|apply yH|apply yI);exact rfl;(first|exact aop_cutFz rfl rfl hw hpm rwLen))|(exfalso;omega)|(refine yaS ?_ ?_<;>intro _)
        refine Go.app (k := 0) (v := 0) (ys := []) (junk := []) (zs := (acc.map encRowD).take p) rfl rfl rfl rfl rfl (fun e he => by cases he) Jk.nil htl hb1 fun v1 j1 hj1 => ?_
        simp only [List.nil_append]
        repeat' first|refine yaG ?_|(exfalso;omega)|(refine yaS ?_ ?_<;>intro _)
        refine Go.app1 (k := 0) (ys := (acc.map encRowD).take p) (junk := j1) (z := encRowD x) rfl rfl rfl rfl rfl htl hj1 rfl hb2 fun v2 j2 hj2 => ?_
        repeat' first|refine yaG ?_|((first|apply yG|apply yH|apply yI);exact rfl;(first|exact aop_cutLo rfl rfl hw hpm rwLen))|(exfalso;omega)|(refine yaS ?_ ?_<;>intro _)
        refine Go.app (k := 0) (ys := (acc.map encRowD).take p ++ [encRowD x]) (junk := j2) (zs := (acc.map encRowD).drop p) rfl rfl rfl rfl rfl (fun e he => (List.mem_append.1 he).elim (htl e) fun h => by rw [List.mem_singleton.1 h]; rfl) hj2 hdl hb3 fun v3 j3 hj3 => ?_
        rw [hR]
        repeat' first|refine yaG ?_|(exfalso;omega)|(refine yaS ?_ ?_<;>intro _)
        refine Go.keep [5, 8, 9, 11, 12] ?_
        refine Go.freezeN (l := []) (m := [(v3, (insR q.by_ x acc).map encRowD ++ j3)]) (fr' := [(5, .c (.fp (encSel q))), (8, .c (.fp (encData d))), (9, .c (.fz (ids.map encI))), (11, .c (.fz ((insR q.by_ x acc).map encRowD))), (12, .c (.int .i64 (IntKind.i64.wrap (z + 1))))]) hS (fun b hb => by cases hb) (Nat.le_refl _)
          (.frz rfl (.refl (hQ _ (Nat.le_refl _))) (.frz rfl (.refl old_data) (.frz rfl (.refl old_ids) (.frz rfl (frz_old (k := 0) rfl (oldRw _) (Nat.le_refl _)) (.frz rfl (.refl old_c) .nil))))) ?_
        refine hrec _ _ _ (by omega) ⟨i + 1, _, insR q.by_ x acc, rfl, hlt, wrap_succ hz (by omega), ⟨hso, by rw [hperm.length_eq, List.length_append, hal]; rfl, fun r hr => ?_⟩, rfl, rfl⟩
        rcases List.mem_append.1 (hperm.mem_iff.1 hr) with hr | hr
        · exact hac r hr
        · rw [List.mem_singleton.1 hr]; exact hxm
    · clear hrec
      rw [List.drop_eq_nil_of_le (by omega), insAll] at hso
      repeat' first|refine yaG ?_|(exfalso;omega)|(refine yaS ?_ ?_<;>intro _)
      exact Go.keep [5, 11] (hm _ _ ⟨by rw [hso]; rfl, rfl⟩)
  · rintro fr τ ⟨rfl, rfl⟩
    have hSp : ∀ r ∈ sortedF q.by_ Kp, r ∈ d.rows := fun r hr => hKm _ (hSs.1.mem_iff.1 hr)
    have hSl : (sortedF q.by_ Kp).length ≤ 60 := by rw [hSs.1.length_eq]; exact hKl
    have hm0 := hM.most0
    have htl := hM.terms
    clear hSs hOk hRi
    generalize sortedF q.by_ Kp = S at *
    repeat' first|refine yaG ?_|(exfalso;omega)|(refine yaS ?_ ?_<;>intro _)
    refine Go.keep [5, 11, 16, 17] (Go.loops (I := fun k fr τ => ∃ (i : Nat) (z : Int) (acc : List Line) (x : Ce), k = S.length - i ∧ i ≤ S.length ∧ z = i ∧ (acc.length = i ∧ linesAux q.terms (S.take q.most.toNat) [] = linesAux q.terms ((S.take q.most.toNat).drop i) acc) ∧ Grow σ τ 1 (acc.map encLine) x ∧
      fr = [(5, .c (.fp (encSel q))), (11, .c (.fz (S.map encRowD))), (16, .c x), (17, .c (.int .i64 z))]) ?_ _ _ _ ⟨0, _, [], _, rfl, Nat.zero_le _, rfl, ⟨rfl, rfl⟩, Grow.empty, rfl⟩)
    rintro k fr τ ⟨i, z, acc, x, rfl, hi, hz, ⟨hal, hj⟩, hG, rfl⟩ hrec
    have hle : σ.next ≤ τ.next := hG.gr.next
    by_cases hlt : i < S.length
    · by_cases hmo : (i : Int) < q.most
      · have hti : i < (S.take q.most.toNat).length := by rw [List.length_take]; omega
        rw [List.drop_eq_getElem_cons hti, linesAux, List.getElem_take] at hj
        have hSi := hSp _ (List.getElem_mem hlt)
        obtain ⟨hr3, hr4, hr5⟩ := hrow _ hSi
        have hv16 : S[i].vals.length ≤ 16 := by rw [hr4]; omega
        refine .old fun ho hSτ => ?_
        have hxo : ∀ y ∈ (AV.c x).all, Old τ.next y := ho 16 _ rfl
        clear ho
        rw [← E_nil hSτ]
        repeat' first|refine yaN ?_|(exfalso;omega)|(refine yaS ?_ ?_<;>intro _)
        refine Go.keep [5, 11, 16, 17, 18, 19] (Go.loops (I := fun k fr ρ => ∃ (j : Nat) (w : Int) (vs : List Val) (xv : Ce) (ll : List (Nat × List (List Ce))), k = q.terms.length - j ∧ j ≤ q.terms.length ∧ w = j ∧ (vs.length = j ∧ lineAux S[i].vals q.terms [] = lineAux S[i].vals (q.terms.drop j) vs) ∧ LineSt τ vs xv ll ∧
          fr = [(5, .c (.fp (encSel q))), (11, .c (.fz (S.map encRowD))), (16, .c x), (17, .c (.int .i64 z)), (18, .c (.ptr (τ.next + 0) 0 0 0)), (19, .c (.int .i64 w))] ∧ ρ = E τ ll) ?_ _ _ _ ⟨0, _, [], .nils, _, rfl, Nat.zero_le _, rfl, ⟨rfl, rfl⟩, .inl ⟨rfl, rfl, rfl⟩, rfl, rfl⟩)
        rintro k ρ0 ρ ⟨j, w, vs, xv, ll, rfl, hjl, hw, ⟨hvl, hln⟩, hLS, rfl, rfl⟩ hrecj
        by_cases hjt : j < q.terms.length
        · rw [List.drop_eq_getElem_cons hjt, lineAux] at hln
          have hea := hte _ (List.getElem_mem hjt) _ hSi
          obtain ⟨hx24, hax⟩ := exprF_aux hea
          have c5 := l2Eval_ok q.terms[j].expr S[i].vals (by omega) hv16 hr5 hax
          have hER : evalI q.terms[j].expr S[i].vals = evalR q.terms[j].expr S[i].vals := by rw [evalI, if_pos (by rw [evalOk, hr3, hea]; rfl)]
          rw [hER] at hln
          generalize evalR q.terms[j].expr S[i].vals = ev at c5 hln
          obtain ⟨ev1, ev2⟩ := ev
          simp only at c5 hln
          repeat' first|apply Go.seq|apply Go.skip|apply Go.region|apply Go.nil|apply Go.block|apply Go.blk|apply Go.segs|(apply Go.exit;exact rfl)|(apply Go.cond true;exact rfl)|(apply Go.cond false;exact rfl)|apply yB|apply yC|((first|apply yD|apply yE);(first|exact yF|assumption);iterate 6 exact rfl)|((first|apply yG|apply yH|apply yI);exact rfl;(first|exact yJ|exact yK rfl rfl|exact yL rfl|exact yM rfl|exact rfl|exact aL rfl rfl rfl rfl rfl|exact aS rfl rfl rfl rfl rfl rfl rfl))|((first|apply yN|apply yO|apply yP);exact rfl)|(exfalso;omega)|(((first|apply yT|apply yU|apply yV|apply yW);exact rfl;(first|exact .d|exact .e|exact .n|((fail_if_success exact bqt);(fail_if_success exact bqf);exact .b)))<;>intro _)
          refine Go.meet (K' := [_]) (fun fr ρ => fr = [(5, .c (.fp (encSel q))), (11, .c (.fz (S.map encRowD))), (16, .c x), (17, .c (.int .i64 z)), (18, .c (.ptr (τ.next + 0) 0 0 0)), (19, .c (.int .i64 w)), (20, .c (.fp (encV ev1))), (21, .c (.bool ev2))] ∧ ρ = E τ ll) (fun K hm => ?_) ?_
          · have hold := hLS.olds
            clear hrecj hrec
            rcases hLS with ⟨rfl, rfl, rfl⟩ | ⟨v, junk, hjk, rfl, rfl⟩
            · apply Go.draw
              refine Go.qkd [(0, [[.nils]])] ?_
              repeat' first|(apply Qk.nil;show Go _ _ _ _ _ _ _ _)|(apply Qk.op;exact rfl;(first|(rintro _ ⟨_, rfl⟩;exact rfl)|(rintro _ ⟨_, rfl⟩;exact aop_load rfl rfl rfl (Nat.le_of_ble_eq_true rfl) rfl)|(rintro _ ⟨_, rfl⟩;exact yX (enc := encTerm) rfl rfl hw hjt rfl)|(rintro _ ⟨_, rfl⟩;exact yX (enc := encRowD) rfl rfl hz hlt rfl)))|(apply Qk.no;exact rfl)|(apply Qk.pcall;(iterate 3 exact rfl);(first|exact c5))|(apply Qk.wop;exact rfl;exact rfl;(first|exact yJ|exact yL rfl|exact aop_store rfl rfl rfl rfl rfl rfl (Nat.le_of_ble_eq_true rfl));exact ⟨_, rfl⟩)
              repeat' first|refine yaN ?_|(exfalso;omega)|(refine yaS ?_ ?_<;>intro _)
              refine Go.keep [5, 11, 16, 17, 18, 19, 20, 21] ?_
              exact Go.freezeN (σ := τ) (l := [(0, [[.nils]])]) (m := [(0, [encV ev1])]) (fr' := [(5, .c (.fp (encSel q))), (11, .c (.fz (S.map encRowD))), (16, .c x), (17, .c (.int .i64 z)), (18, .c (.ptr (τ.next + 0) 0 0 0)), (19, .c (.int .i64 w)), (20, .c (.fp (encV ev1))), (21, .c (.bool ev2))]) hSτ hold hle
                (.frz rfl (.refl (hQ _ (Nat.le_trans hle (Nat.le_add_right _ _)))) (.frz rfl (.refl old_rows) (.frz rfl (.refl fun y hy => (hxo y hy).mono (Nat.le_add_right _ _)) (.frz rfl (.refl old_c) (.frz rfl (.refl (old_ptr (Nat.lt_add_of_pos_right (Nat.zero_lt_succ _)))) (.frz rfl (.refl old_c) (.frz rfl (frz_ptr0 (k := 1) (v := 0) rfl (fun y hy => (encV_flat ev1 y hy).old _) (Nat.le_refl _)) (.frz rfl (.refl old_b) .nil)))))))) (hm _ _ ⟨rfl, rfl⟩)
            · apply Go.draw
              refine Go.qkd [(0, [[vec (τ.next + 1) v (vs.map encV) junk]]), (v, vs.map encV ++ junk)] ?_
              repeat' first|(apply Qk.nil;show Go _ _ _ _ _ _ _ _)|(apply Qk.op;exact rfl;(first|(rintro _ ⟨_, rfl⟩;exact rfl)|(rintro _ ⟨_, rfl⟩;exact aop_load rfl rfl rfl (Nat.le_of_ble_eq_true rfl) rfl)|(rintro _ ⟨_, rfl⟩;exact yX (enc := encTerm) rfl rfl hw hjt rfl)|(rintro _ ⟨_, rfl⟩;exact yX (enc := encRowD) rfl rfl hz hlt rfl)))|(apply Qk.no;exact rfl)|(apply Qk.pcall;(iterate 3 exact rfl);(first|exact c5))|(apply Qk.wop;exact rfl;exact rfl;(first|exact yJ|exact yL rfl|exact aop_store rfl rfl rfl rfl rfl rfl (Nat.le_of_ble_eq_true rfl));exact ⟨_, rfl⟩)
              repeat' first|refine yaN ?_|(exfalso;omega)|(refine yaS ?_ ?_<;>intro _)
              refine Go.keep [5, 11, 16, 17, 18, 19, 20, 21] ?_
              exact Go.freezeN (σ := τ) (l := [(0, [[vec (τ.next + 1) v (vs.map encV) junk]]), (v, vs.map encV ++ junk)]) (m := [(0, [encV ev1])]) (fr' := [(5, .c (.fp (encSel q))), (11, .c (.fz (S.map encRowD))), (16, .c x), (17, .c (.int .i64 z)), (18, .c (.ptr (τ.next + 0) 0 0 0)), (19, .c (.int .i64 w)), (20, .c (.fp (encV ev1))), (21, .c (.bool ev2))]) hSτ hold hle
                (.frz rfl (.refl (hQ _ (Nat.le_trans hle (Nat.le_add_right _ _)))) (.frz rfl (.refl old_rows) (.frz rfl (.refl fun y hy => (hxo y hy).mono (Nat.le_add_right _ _)) (.frz rfl (.refl old_c) (.frz rfl (.refl (old_ptr (Nat.lt_add_of_pos_right (Nat.zero_lt_succ _)))) (.frz rfl (.refl old_c) (.frz rfl (frz_ptr0 (k := 2) (v := 0) rfl (fun y hy => (encV_flat ev1 y hy).old _) (Nat.le_refl _)) (.frz rfl (.refl old_b) .nil)))))))) (hm _ _ ⟨rfl, rfl⟩)
          rintro fr ρ ⟨rfl, rfl⟩
          clear c5
          have hbd : ((vs.map encV).length + 1) * 32 ≤ 140737488355328 := by rw [List.length_map]; omega
          cases ev2
          · rw [if_neg (by decide)] at hln
            clear hrecj hrec
            repeat' first|refine yaG ?_|(exfalso;omega)|(refine yaS ?_ ?_<;>intro _)
            refine .ret rfl ?_
            rw [hln] at hj
            rw [linesF, hj]
            exact newPair (.bool _) (newNil (hG.later hLS.gr).1)
          · rw [if_pos rfl] at hln
            rcases hLS with ⟨rfl, rfl, rfl⟩ | ⟨v, junk, hjk, rfl, rfl⟩
            · repeat' first|(apply yA;exact rfl)|apply yB|apply yC|((first|apply yD|apply yE);(first|exact yF|assumption);iterate 6 exact rfl)|((first|apply yG|apply yH|apply yI);exact rfl;(first|exact yJ|exact yK rfl rfl|exact yL rfl|exact yM rfl|exact aop_appNil rfl rfl (fun e he => by rw [List.mem_singleton.1 he];rfl) (by simp)|exact rfl|exact aL rfl rfl rfl rfl rfl|exact aS rfl rfl rfl rfl rfl rfl rfl))|((first|apply yN|apply yO|apply yP);exact rfl)|(exfalso;omega)|(((first|apply yT|apply yU|apply yV|apply yW);exact rfl;(first|exact .d|exact .e|exact .n|((fail_if_success exact bqt);(fail_if_success exact bqf);exact .b)))<;>intro _)
              exact Go.keep [5, 11, 16, 17, 18, 19] (hrecj _ _ _ (by omega) ⟨j + 1, _, [] ++ [ev1], _, _, rfl, hjt, wrap_succ hw (by omega), ⟨by rw [List.length_append, hvl]; rfl, hln⟩, .inr ⟨0, [], Jk.nil, rfl, rfl⟩, rfl, rfl⟩)
            · repeat' first|refine yaG ?_|(exfalso;omega)|(refine yaS ?_ ?_<;>intro _)
              refine Go.app1 (k := 1) (ys := vs.map encV) (junk := junk) (z := encV ev1) rfl rfl rfl rfl rfl lens hjk rfl hbd fun v' junk' hj' => ?_
              rw [show vs.map encV ++ [encV ev1] = (vs ++ [ev1]).map encV by simp]
              repeat' first|refine yaG ?_|(exfalso;omega)|(refine yaS ?_ ?_<;>intro _)
              exact Go.keep [5, 11, 16, 17, 18, 19] (hrecj _ _ _ (by omega) ⟨j + 1, _, vs ++ [ev1], _, _, rfl, hjt, wrap_succ hw (by omega), ⟨by rw [List.length_append, hvl]; rfl, hln⟩, .inr ⟨v', junk', hj', rfl, rfl⟩, rfl, rfl⟩)
        · clear hrecj
          rw [List.drop_eq_nil_of_le (by omega), lineAux] at hln
          rw [hln] at hj
          have hh := hLS.has
          have hG2 := hG.later hLS.gr
          repeat' first|refine yaG ?_|((first|apply yG|apply yH|apply yI);exact rfl;(first|exact aop_load (k := 0) rfl hLS.at0 rfl (Nat.le_of_ble_eq_true rfl) rfl))|(exfalso;omega)|(refine yaS ?_ ?_<;>intro _)
          refine Go.grow ?_ ?_ ?_ hG2 hle (Nat.le_add_right _ _) (line_owned hh) rfl ?_ fun x' τ3 hG3 => ?_
          · exact rfl
          · exact rfl
          · exact rfl
          · rw [List.length_map]
            omega
          repeat' first|refine yaG ?_|(exfalso;omega)|(refine yaS ?_ ?_<;>intro _)
          refine Go.keep [5, 11, 16, 17] (hrec _ _ _ (by omega) ⟨i + 1, _, acc ++ [⟨vs⟩], x', rfl, hlt, wrap_succ hz (by omega), ⟨by rw [List.length_append, hal]; rfl, hj⟩, ?_, rfl⟩)
          rw [List.map_append]
          exact hG3
      · clear hrec
        rw [List.drop_eq_nil_of_le (by rw [List.length_take]; omega), linesAux] at hj
        repeat' first|refine yaG ?_|(exfalso;omega)|(refine yaS ?_ ?_<;>intro _)
        refine .ret rfl ?_
        rw [linesF, hj]
        exact newPair (.bool _) hG.v
    · clear hrec
      rw [List.drop_eq_nil_of_le (by rw [List.length_take]; omega), linesAux] at hj
      repeat' first|refine yaG ?_|(exfalso;omega)|(refine yaS ?_ ?_<;>intro _)
      refine .ret rfl ?_
      rw [linesF, hj]
      exact newPair (.bool _) hG.v
end Go.Proofs.YtinbdedlmkjokaaGreat.Am

/- Conditions put together: plain laws. -/
set_option linter.unusedVariables false
set_option linter.unusedSimpArgs false
namespace Go.Proofs.YtinbdedlmkjokaaGreat.Am

end Go.Proofs.YtinbdedlmkjokaaGreat.Am

/- Rows that match conditions put together: plain laws. -/
set_option linter.unusedVariables false
set_option linter.unusedSimpArgs false
namespace Go.Proofs.YtinbdedlmkjokaaGreat.Am

end Go.Proofs.YtinbdedlmkjokaaGreat.Am

/- Two tables joined the other way round: plain laws. -/
set_option linter.unusedVariables false
set_option linter.unusedSimpArgs false
namespace Go.Proofs.YtinbdedlmkjokaaGreat.Am

def turnT (n m : Int) (t : Tok) : Tok := if t.kind = 1 ∧ t.col < n then { t with col := t.col + m } else if t.kind = 1 then { t with col := t.col - n } else t
/-! ### counting pairs -/
end Go.Proofs.YtinbdedlmkjokaaGreat.Am

/- Queries with fewer conditions; ordered lines: plain laws. -/
set_option linter.unusedVariables false
set_option linter.unusedSimpArgs false
namespace Go.Proofs.YtinbdedlmkjokaaGreat.Am

theorem insAll_len {by_ : List Int} : ∀ {l acc : List RowD}, (insAll by_ l acc).length = acc.length + l.length
  | [], acc => by rw [insAll]; simp
  | x :: l, acc => by
    rw [insAll, insAll_len, (insR_perm by_ x acc).length_eq]
    simp
    omega
theorem sortedF_len {by_ : List Int} {K : List RowD} : (sortedF by_ K).length = K.length := by rw [sortedF, insAll_len]; simp
theorem linesAux_at {terms : List Term} : ∀ {l : List RowD} {acc out : List Line}, linesAux terms l acc = some out → ∃ m, out = acc ++ m ∧ m.length = l.length ∧ ∀ i (hi : i < l.length) (hm : i < m.length), lineAux l[i].vals terms [] = some m[i].vals
  | [], acc, out, h => by
    injection h with h
    subst h
    exact ⟨[], by simp, rfl, fun i hi => by simp at hi⟩
  | r :: l, acc, out, h => by
    rw [linesAux] at h
    split at h
    · rename_i vs hv
      obtain ⟨m, h1, h2, h3⟩ := linesAux_at h
      refine ⟨⟨vs⟩ :: m, by rw [h1]; simp, by simp [h2], fun i hi hm => ?_⟩
      cases i with
      | zero => exact hv
      | succ i => exact h3 i (by simpa using hi) (by simpa using hm)
    · cases h
theorem run_ok {s : List Table} {db : List Data} {q : Sel} (h : (RunF s db q).2 = true) : dbF s db = true ∧ l10F s q = true ∧ (matchF (rowsAt db (selPos s q)) q.wher).2 = true ∧ ∃ ls, (RunF s db q).1 = ls ∧ linesAux q.terms (selRows (rowsAt db (selPos s q)) q) [] = some ls := by
  rw [RunF] at h
  split at h
  · rename_i hk
    rw [RunF, if_pos hk]
    rw [Bool.and_eq_true] at hk
    rw [runF] at h ⊢
    split at h
    · rename_i hm
      rw [if_pos hm]
      rw [linesF] at h ⊢
      split at h
      · rename_i ls hl
        rw [hl]
        exact ⟨hk.1, hk.2, hm, ls, rfl, rfl⟩
      · cases h
    · cases h
  · cases h
theorem run_len {s : List Table} {db : List Data} {q : Sel} (h : (RunF s db q).2 = true) : (RunF s db q).1.length = min q.most.toNat (keptF (rowsAt db (selPos s q)) q.wher).length := by
  obtain ⟨_, _, _, ls, h1, h2⟩ := run_ok h
  obtain ⟨m, h3, h4, _⟩ := linesAux_at h2
  rw [h1, h3, List.nil_append, h4, selRows, List.length_take, sortedF_len]
theorem kept_all (l : List RowD) : keptF l [] = l := by
  rw [keptF]
  exact List.filter_eq_self.2 fun r _ => rfl
theorem fewer_law {s : List Table} {db : List Data} {q : Sel} (h : (RunF s db q).2 = true) (h2 : (RunF s db { q with wher := [] }).2 = true) : (RunF s db q).1.length ≤ (RunF s db { q with wher := [] }).1.length := by
  rw [run_len h, run_len h2]
  have h3 : (keptF (rowsAt db (selPos s q)) q.wher).length ≤ (rowsAt db (selPos s q)).length := List.length_filter_le _ _
  show min q.most.toNat _ ≤ min q.most.toNat (keptF (rowsAt db (selPos s q)) []).length
  rw [kept_all]
  omega
/-- What the program's Order answers. -/
def ordF (a b : Val) : Int := if okVal a && okVal b then order a b else 0
theorem ordered_law {s : List Table} {db : List Data} {q : Sel} {c : Int} {r : List Int} (hby : q.by_ = c :: r) (ht : q.terms = [⟨[⟨1, c, vNull⟩]⟩]) (h : (RunF s db q).2 = true) {i : Nat} (hi : i + 1 < (RunF s db q).1.length) :
    ∃ a b, (RunF s db q).1[i].vals = [a] ∧ (RunF s db q).1[i + 1].vals = [b] ∧ ordF a b ≤ 0 := by
  obtain ⟨hd, hl, hm, ls, h1, h2⟩ := run_ok h
  obtain ⟨m, h3, h4, h5⟩ := linesAux_at h2
  rw [List.nil_append] at h3
  subst h3
  have e : ∀ (xs : List Line), (RunF s db q).1 = xs → ∀ k (hk : k < (RunF s db q).1.length), ∃ hk' : k < xs.length, (RunF s db q).1[k] = xs[k] := fun xs hx k hk => by subst hx; exact ⟨hk, rfl⟩
  obtain ⟨k1, e1⟩ := e _ h1 i (by omega)
  obtain ⟨k2, e2⟩ := e _ h1 (i + 1) hi
  rw [e1, e2]
  have f1 := h5 i (by omega) k1
  have f2 := h5 (i + 1) (by omega) k2
  obtain ⟨p, hS⟩ := sel_at hl
  obtain ⟨hs, hdl, hrows⟩ := dbF_at hd
  have hp2 : p < db.length := by have := hS.lt; omega
  have hra : rowsAt db (selPos s q) = db[p].rows := by rw [hS.pos, rowsAt, Int.toNat_natCast, List.getElem?_eq_getElem hp2]
  have hrf := hrows p hS.lt hp2
  have hok : ∀ x ∈ keptF (rowsAt db (selPos s q)) q.wher, OkR x := fun x hx => by
    rw [hra] at hx
    exact (fitF_vals ((rowsF_mem hrf).2 x (List.mem_filter.1 hx).1).1).2
  have hri : Rise (keptF (rowsAt db (selPos s q)) q.wher) := by rw [hra]; exact (rowsF_rise hrf).kept _
  obtain ⟨s1, s2⟩ := sortedF_spec (by_ := q.by_) hri hok
  have hsel : (selRows (rowsAt db (selPos s q)) q).Pairwise (RLt q.by_) := List.Pairwise.sublist (List.take_sublist _ _) s2
  have hlt := List.pairwise_iff_getElem.1 hsel i (i + 1) (by omega) (by omega) (by omega)
  have hlen : ∀ x ∈ selRows (rowsAt db (selPos s q)) q, OkR x ∧ areVals x.vals 16 = true ∧ 0 ≤ c ∧ c < x.vals.length := fun x hx => by
    have hx2 := s1.mem_iff.1 (List.mem_of_mem_take hx)
    have hx3 := (List.mem_filter.1 hx2).1
    rw [hra] at hx3
    have h6 := ((rowsF_mem hrf).2 x hx3).1
    have h7 := hS.by_ c (by rw [hby]; simp)
    refine ⟨hok x hx2, fitF_are h6 (schemaF_cols hs _ (List.getElem_mem hS.lt)).2, h7.1, ?_⟩
    rw [(fitF_vals h6).1]
    exact h7.2
  have hev : ∀ x ∈ selRows (rowsAt db (selPos s q)) q, ∀ vs, lineAux x.vals q.terms [] = some vs → vs = [valAt x.vals c] := fun x hx vs hvs => by
    obtain ⟨q1, q2, q3, q4⟩ := hlen x hx
    have hx16 : exprF [⟨1, c, vNull⟩] x.vals.length = true := by
      have : isTokF ⟨1, c, vNull⟩ x.vals.length = true := by
        have e3 : isIn c 0 ((x.vals.length : Int) - 1) = true := by simp only [isIn, Bool.and_eq_true, decide_eq_true_eq]; omega
        simp only [isTokF, if_true, e3]
        rfl
      rw [exprF, exprAux, this]
      rfl
    rw [ht, lineAux, evalI, evalOk, q2, hx16] at hvs
    have e4 : evalR [⟨1, c, vNull⟩] x.vals = (vAt x.vals c.toNat, true) := rfl
    simp only [Bool.and_self, if_true, e4, lineAux, List.nil_append] at hvs
    injection hvs with hvs
    rw [← hvs]
    rfl
  have m1 := List.getElem_mem (l := selRows (rowsAt db (selPos s q)) q) (n := i) (by omega)
  have m2 := List.getElem_mem (l := selRows (rowsAt db (selPos s q)) q) (n := i + 1) (by omega)
  refine ⟨_, _, hev _ m1 _ f1, hev _ m2 _ f2, ?_⟩
  generalize (selRows (rowsAt db (selPos s q)) q)[i] = x at hlt m1
  generalize (selRows (rowsAt db (selPos s q)) q)[i + 1] = y at hlt m2
  rw [ordF, okVal_at (hlen x m1).1 c, okVal_at (hlen y m2).1 c]
  have h8 : orI [orderOf (keyF q.by_ x.vals) (keyF q.by_ y.vals), cmpI x.id y.id] < 0 := hlt
  have h9 : orderOf (keyF q.by_ x.vals) (keyF q.by_ y.vals) = if order (valAt x.vals c) (valAt y.vals c) = 0 then orderOf (keyF r x.vals) (keyF r y.vals) else order (valAt x.vals c) (valAt y.vals c) := by
    rw [hby]
    rfl
  simp only [Bool.and_self, if_true]
  rw [h9, orI] at h8
  by_cases h0 : order (valAt x.vals c) (valAt y.vals c) = 0
  · omega
  · rw [if_neg h0, if_neg h0] at h8
    omega
end Go.Proofs.YtinbdedlmkjokaaGreat.Am

/- How many lines a query tells: plain law. -/
set_option linter.unusedVariables false
set_option linter.unusedSimpArgs false
namespace Go.Proofs.YtinbdedlmkjokaaGreat.Am

theorem ordered_len {s : List Table} {db : List Data} {q : Sel} (h : (RunF s db q).2 = true) : (MatchF s db (selPos s q) q.wher).2 = true ∧ (RunF s db q).1.length = min q.most.toNat (MatchF s db (selPos s q) q.wher).1.length ∧ 0 ≤ q.most := by
  obtain ⟨hd, hl, hm, _⟩ := run_ok h
  obtain ⟨m, hM⟩ := sel_at hl
  obtain ⟨hs, hdl, hrows⟩ := dbF_at hd
  have hlt := hM.lt
  have hin : isIn (selPos s q) 0 (s.length - 1) = true := by
    rw [hM.pos]
    simp only [isIn, Bool.and_eq_true, decide_eq_true_eq]
    omega
  have hw : whereF q.wher (colsAt s (selPos s q)) = true := by
    rw [hM.pos, colsAt, Int.toNat_natCast, List.getElem?_eq_getElem hlt]
    exact hM.wh
  have hMF : MatchF s db (selPos s q) q.wher = matchF (rowsAt db (selPos s q)) q.wher := by
    rw [MatchF, if_pos (by rw [matchOk, hd, hin, hw]; rfl)]
  rw [hMF]
  refine ⟨hm, ?_, hM.most0⟩
  rw [run_len h, matchF_ids hm, List.length_map]
theorem ordered_two {s : List Table} {db : List Data} {q : Sel} {c : Int} {r : List Int} (hby : q.by_ = c :: r) (ht : q.terms = [⟨[⟨1, c, vNull⟩]⟩]) (h : (RunF s db q).2 = true) {i : Nat} (hi : i + 1 < (RunF s db q).1.length) :
    ∃ x y a b, (RunF s db q).1[i]? = some x ∧ (RunF s db q).1[i + 1]? = some y ∧ x.vals = [a] ∧ y.vals = [b] ∧ ordF a b ≤ 0 := by
  obtain ⟨a, b, h1, h2, h3⟩ := ordered_law hby ht h hi
  exact ⟨_, _, a, b, List.getElem?_eq_getElem (by omega), List.getElem?_eq_getElem hi, h1, h2, h3⟩
end Go.Proofs.YtinbdedlmkjokaaGreat.Am

/- What the rows say of a text of bytes. -/
set_option linter.unusedVariables false
set_option linter.unusedSimpArgs false
namespace Go.Proofs.YtinbdedlmkjokaaGreat.Am
open Go.RowKit Go.ChangeShapes Go.WideShapes

section
variable {H : Type} {enc : TypeId × Value → H} {W : World}
theorem Opens.isoG {P : Program} {t : TypeId} {α β : Type} {e : β → List Ce} {good : β → Prop} (h : Opens enc P W t e good) (g : β → α) {e' : α → List Ce} {good' : α → Prop} (he : ∀ b, good b → e' (g b) = e b) (hg : ∀ b, good b → good' (g b)) : Opens enc P W t e' good' := by
  constructor
  intro fuel cs x h1 h2
  obtain ⟨a, h3, hl, h4⟩ := h.op fuel cs x h1 h2
  refine ⟨g a, hg a h3, by rw [he a h3]; exact hl, fun i hi => ?_⟩
  simp only [he a h3]
  exact h4 i (by rw [he a h3] at hi; exact hi)
theorem openB : Opens enc Tryz.prog W 5 encB (fun _ => True) :=
  (Opens.int Tryz.underlying5).isoG (fun n => UInt8.ofNat n.toNat) (fun n hn => by
    have h1 : IntKind.u8.min = 0 := by decide
    have h2 : IntKind.u8.max = 255 := by decide
    simp only [Lit.wf, h1, h2, Bool.and_eq_true, decide_eq_true_eq] at hn
    have h3 : (UInt8.ofNat n.toNat).toNat = n.toNat := UInt8.toNat_ofNat_of_lt' (by show n.toNat < 256; omega)
    simp only [encB, h3, List.cons.injEq, Ce.int.injEq, true_and, and_true]
    omega) fun _ _ => trivial
theorem openBs : Opens enc Tryz.prog W 22 (fun l : List UInt8 => [.fz (l.map encB)]) (fun l => l.length ≤ 140737488351232) :=
  (Opens.slice (s := 1) Tryz.underlying22 openB (by kernel_rfl) (by decide) (fun _ => rfl)).iso id (fun _ => rfl) fun l h => Nat.le_trans (Nat.le_mul_of_pos_right _ (of_decide_eq_true (by kernel_rfl))) h.1
end
end Go.Proofs.YtinbdedlmkjokaaGreat.Am
