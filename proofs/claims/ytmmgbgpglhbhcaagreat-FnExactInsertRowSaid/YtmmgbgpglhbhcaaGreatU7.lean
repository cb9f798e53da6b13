/- Joined texts: A24, A25, A26, A22, T1, T2, T3. -/
import Derived.KernelRfl
import Derived.Test.YtmmgbgpglhbhcaaGreatU1
import Derived.Test.YtmmgbgpglhbhcaaGreatU2
import Derived.Test.YtmmgbgpglhbhcaaGreatU3
import Derived.Test.YtmmgbgpglhbhcaaGreatU4
import Derived.Test.YtmmgbgpglhbhcaaGreatU5
import Derived.Test.YtmmgbgpglhbhcaaGreatU6
set_option linter.unusedVariables false
set_option linter.unusedSimpArgs false
namespace Go.Proofs.YtmmgbgpglhbhcaaGreat.Am
abbrev Ins := List Data × Int × Int
def insE (s : List Table) (k : Nat) (vals : List Val) (nx : Int) (db : List Data) : Ins := if ((tabN s k).fks.any fun f => lostBad s db false vals f) = true then ([], 0, 5) else (db, nx, 0)
def insD (s : List Table) (k : Nat) (vals : List Val) (nx : Int) (db : List Data) : Ins := if (rowsN db k).length = 60 ∨ nx > 1000000000 then ([], 0, 7) else insE s k vals nx (db.set k ⟨rowsN db k ++ [⟨nx, vals⟩]⟩)
def insC (s : List Table) (k : Nat) (vals : List Val) (nx : Int) (c : Res) : Ins := if c.2 = 0 then insD s k vals nx c.1 else ([], 0, c.2)
def insF (run : Chg → List Data → Res) (s : List Table) (k : Nat) (vals : List Val) (rep : Bool) (db : List Data) : Ins :=
  if ableF (tabN s k) vals = 0 then insC s k vals (nextF (rowsN db k)) (clearF run (tabN s k) k ⟨nextF (rowsN db k), vals⟩ rep db) else ([], 0, ableF (tabN s k) vals)
def resI (q : Ins) : AV := .tup [.c (if q.2.2 = 0 then .fz (q.1.map encData) else .nils), .c (.int .i64 q.2.1), .c (.int .i64 q.2.2)]
theorem resI_no {e : Int} (h : e ≠ 0) : resI ([], 0, e) = .tup [.c .nils, .c (.int .i64 0), .c (.int .i64 e)] := by rw [resI, if_neg h]
theorem old_resI (q : Ins) (n : Nat) : ∀ y ∈ (resI q).all, Old n y := fun y hy => by
  simp only [resI, AV.all, AV.all.allL, List.append_nil, List.mem_append, List.mem_singleton] at hy
  rcases hy with rfl | rfl | rfl
  · split
    · exact old_fz1 (oldDatas _)
    · exact .nils
  · exact .int _ _
  · exact .int _ _
def NextI (k : Nat) (nx : Int) : Nat → Int → Prop := fun j id => 1 ≤ id ∧ id ≤ 1000000000 ∧ (j = k → id < nx)
theorem putA2_app {x : RowD} : ∀ {l : List RowD}, (∀ r ∈ l, r.id < x.id) → putA2 x false l = l ++ [x]
  | [], _ => rfl
  | r :: l, h => by
    have h1 := h r (by simp)
    have h2 := putA2_app (x := x) (l := l) fun q hq => h q (by simp [hq])
    rw [putA2, decide_eq_false (by omega), if_neg (by simp), if_neg (by omega)]
    simp only [Bool.or_false]
    rw [h2]
    rfl
theorem RowsG.mono {Q Q' : Int → Prop} {t : Table} {l : List RowD} (h : RowsG Q t l) (hq : ∀ i, Q i → Q' i) : RowsG Q' t l := ⟨h.len, fun r hr => hq _ (h.ids r hr), h.rise, h.fit⟩
theorem DbG.mono {I I' : Nat → Int → Prop} {s : List Table} {db : List Data} (h : DbG I s db) (hI : ∀ k i, I k i → I' k i) : DbG I' s db := ⟨h.len, fun i h1 h2 => (h.rows i h1 h2).mono (hI i)⟩
def BI : Nat → Int → Prop := fun _ id => 1 ≤ id ∧ id ≤ 1000000000
theorem next_pos {l : List RowD} (h : ∀ r ∈ l, 1 ≤ r.id) : 1 ≤ nextF l := by
  by_cases h0 : 0 < l.length
  · have hlt : l.length - 1 < l.length := by omega
    have := nextF_at (l := l) (k := l.length - 1) hlt (by omega)
    have := h _ (List.getElem_mem hlt)
    omega
  · have : l = [] := List.eq_nil_of_length_eq_zero (by omega)
    subst this
    exact Int.le_refl _
theorem RowsG.snoc {t : Table} {l : List RowD} {k : Nat} {nx : Int} (h : RowsG (NextI k nx k) t l) {x : RowD} (hx : x.id = nx) (h1 : 1 ≤ nx) (h2 : nx ≤ 1000000000) (hl : l.length < 60) (hf : x.vals.length = t.cols.length ∧ areVals x.vals 16 = true) : RowsG (BI k) t (l ++ [x]) := by
  refine ⟨by rw [List.length_append, List.length_singleton]; omega, fun r hr => ?_, ?_, fun r hr => ?_⟩
  · rcases List.mem_append.1 hr with hr | hr
    · exact ⟨(h.ids r hr).1, (h.ids r hr).2.1⟩
    · rw [List.mem_singleton.1 hr, hx]
      exact ⟨h1, h2⟩
  · refine List.pairwise_append.2 ⟨h.rise, List.pairwise_singleton _ _, fun a ha b hb => ?_⟩
    rw [List.mem_singleton.1 hb, hx]
    exact (h.ids a ha).2.2 rfl
  · rcases List.mem_append.1 hr with hr | hr
    · exact h.fit r hr
    · rw [List.mem_singleton.1 hr]
      exact hf
theorem DbG.next {s : List Table} {db : List Data} {k : Nat} {nx : Int} (h : DbG (NextI k nx) s db) : DbG BI s db := h.mono fun _ _ h => ⟨h.1, h.2.1⟩
theorem next_lt {l : List RowD} (hr : Rise l) : ∀ r ∈ l, r.id < nextF l := fun r hm => by
  obtain ⟨i, hi, rfl⟩ := List.getElem_of_mem hm
  have h1 := nextF_at (l := l) (k := l.length - 1) (by omega) (by omega)
  rw [h1]
  have h2 := List.pairwise_iff_getElem.1 hr
  by_cases e : i = l.length - 1
  · subst e
    omega
  · have := h2 i (l.length - 1) hi (by omega) (by omega)
    omega
set_option maxHeartbeats 2000000 in
theorem l6InsertX_ok {s : List Table} (hs : SchG s) {k : Nat} (hk : k < s.length) (vals0 : List Val) (rep : Bool) (db : List Data) {nx : Int} (hnx : nx = nextF (rowsN db k)) (h : DbG (NextI k nx) s db) (hl : vals0.length = s[k].cols.length) (hv : areVals vals0 16 = true) :
    Pure Tryz.prog 72 [.c (.fz (s.map encTable)), .c (.fz (db.map encData)), .c (.int .i64 (k : Int)), .c (.fz (vals0.map encV)), .c (.bool rep)] (resI (insF (chgF s 12) s k (if rep then fillAux s[k] 0 vals0 else vals0) rep db)) := by
  refine Pure.run mixed c_spec_l6Insert_ok (Nat.le_of_ble_eq_true rfl) fun σ hS hA => ?_
  clear hS hA
  have hk2 : k < db.length := by rw [h.len]; exact hk
  have ht := hs.tab _ (List.getElem_mem hk)
  have hb := hs.big _ (List.getElem_mem hk)
  have hR := h.rows k hk hk2
  have cF := l6Filled_ok s[k] vals0 hl ht.cols8
  have hvv := fillOk hs hk hl hv rep
  rw [rowsN_at hk2] at hnx
  have cn := l6NextX_ok db[k] hR.len fun r hr => ⟨(hR.ids r hr).1, (hR.ids r hr).2.1⟩
  have hn9 : 1 ≤ nx := by rw [hnx]; exact next_pos fun r hr => (hR.ids r hr).1
  rw [← hnx] at cn
  rw [insF, tabN_at hk, rowsN_at hk2, ← hnx]
  repeat' first|refine yaG ?_|((first|apply yG|apply yH|apply yI);exact rfl;(first|exact yX (enc := encTable) rfl rfl rfl hk rfl))
  refine Go.meet (K' := [_]) (fun fr τ' => ∃ vals, vals = (if rep then fillAux s[k] 0 vals0 else vals0) ∧ fr = [(0, AV.c (.fz (s.map encTable))), (1, .c (.fz (db.map encData))), (2, .c (.int .i64 (k : Int))), (3, .c (.fz (vals.map encV))), (4, .c (.bool rep)), (13, .c (.fp (encTable s[k])))] ∧ τ' = E σ []) ?_ ?_
  · intro K hrec
    cases rep
    · repeat' first|refine yaG ?_|(exfalso;omega)|(refine yaS ?_ ?_<;>intro _)
      exact Go.keep [0, 1, 2, 3, 4, 13] (hrec _ _ ⟨_, rfl, rfl, rfl⟩)
    · repeat' first|refine yaG ?_|refine yaC (cF) ?_|(exfalso;omega)|(refine yaS ?_ ?_<;>intro _)
      exact Go.keep [0, 1, 2, 3, 4, 13] (hrec _ _ ⟨_, rfl, rfl, rfl⟩)
  rintro fr τ' ⟨vals, hve, rfl, rfl⟩
  rw [← hve] at hvv ⊢
  clear cF hl hv hve
  have ca := l6AbleX_ok s[k] vals hvv.1 ht hvv.2
  have cv := l1CopyVals_pure vals (Nat.le_trans (areVals_iff.1 hvv.2).1 (by decide))
  by_cases hab : ableF s[k] vals = 0
  · rw [hab] at ca
    rw [if_pos hab]
    have hr := specRun (I := NextI k nx) hs 12 1 (by decide) rfl
    have cc := l6ClearX_ok (deep := 0) hs hr hk ⟨nx, vals⟩ hvv.1 rep db h
    have hkc := fun (h2 : (clearF (chgF s 12) s[k] k ⟨nx, vals⟩ rep db).2 = 0) => clearF_ok hr.keeps hk (t := s[k]) (x := ⟨nx, vals⟩) (rep := rep) h h2
    generalize clearF (chgF s 12) s[k] k ⟨nx, vals⟩ rep db = c at cc hkc ⊢
    rw [insC]
    by_cases hc0 : c.2 = 0
    · rw [resV_zero hc0] at cc
      rw [if_pos hc0]
      have hdb1 := hkc hc0
      generalize c.1 = db1 at cc hdb1 ⊢
      have hn1 : k < db1.length := by rw [hdb1.len]; exact hk
      have hR1 := hdb1.rows k hk hn1
      rw [insD, rowsN_at hn1]
      by_cases hlen : db1[k].rows.length = 60
      · rw [if_pos (.inl hlen)]
        repeat' first|refine yaG ?_|((first|apply yG|apply yH|apply yI);exact rfl;(first|exact yX (enc := encData) rfl rfl rfl hk2 rfl|exact yX (enc := encData) rfl rfl rfl hn1 rfl))|refine yaC (ca) ?_|refine yaC (cn) ?_|refine yaC (cv) ?_|refine yaC (cc) ?_|(exfalso;omega)|(refine yaS ?_ ?_<;>intro _)
        all_goals first
          | (exfalso; omega)
          | contradiction
          | skip
        exact .ret rfl (Fin.same rfl (old_resI ([], 0, 7) _))
      · by_cases hbig : nx > 1000000000
        · rw [if_pos (.inr hbig)]
          repeat' first|refine yaG ?_|((first|apply yG|apply yH|apply yI);exact rfl;(first|exact yX (enc := encData) rfl rfl rfl hk2 rfl|exact yX (enc := encData) rfl rfl rfl hn1 rfl))|refine yaC (ca) ?_|refine yaC (cn) ?_|refine yaC (cv) ?_|refine yaC (cc) ?_|(exfalso;omega)|(refine yaS ?_ ?_<;>intro _)
          all_goals first
            | (exfalso; omega)
            | contradiction
            | skip
          all_goals exact .ret rfl (Fin.same rfl (old_resI ([], 0, 7) _))
        · rw [if_neg (fun h => by rcases h with h | h <;> omega)]
          have c4 := l4PutX_ok db1[k] ⟨nx, vals⟩ hR1.len
          rw [putA2_app fun r hr => (hR1.ids r hr).2.2 rfl] at c4
          have c5 := l4With_ok db1 (k : Int) k ⟨db1[k].rows ++ [⟨nx, vals⟩]⟩ rfl hn1 (by rw [hdb1.len]; exact Nat.le_trans hs.few (by decide))
          have hset : DbG BI s (db1.set k ⟨db1[k].rows ++ [⟨nx, vals⟩]⟩) := hdb1.next.set hk (hR1.snoc rfl hn9 (by omega) (by have := hR1.len; omega) hvv)
          generalize db1.set k ⟨db1[k].rows ++ [⟨nx, vals⟩]⟩ = db2 at c5 hset ⊢
          have c9 := l5Refers_ok s db2 (k : Int) k vals true (Nat.le_trans hs.few (by decide)) rfl hk ht.fk3 (fkR hs hset hk hvv.1)
          have e9 : s[k].fks.any (lostBad s db2 (!true) vals) = s[k].fks.any fun f => lostBad s db2 false vals f := rfl
          rw [e9] at c9
          rw [insE, tabN_at hk]
          generalize (s[k].fks.any fun f => lostBad s db2 false vals f) = B at c9 ⊢
          cases B
          · rw [if_neg Bool.false_ne_true]
            repeat' first|refine yaG ?_|((first|apply yG|apply yH|apply yI);exact rfl;(first|exact yX (enc := encData) rfl rfl rfl hk2 rfl|exact yX (enc := encData) rfl rfl rfl hn1 rfl))|refine yaC (ca) ?_|refine yaC (cn) ?_|refine yaC (cv) ?_|refine yaC (cc) ?_|refine yaC (c4) ?_|refine yaC (c5) ?_|refine yaC (c9) ?_|(exfalso;omega)|(refine yaS ?_ ?_<;>intro _)
            all_goals first
              | (exfalso; omega)
              | contradiction
              | skip
            exact .ret rfl (Fin.same rfl (old_resI (db2, nx, 0) _))
          · rw [if_pos rfl]
            repeat' first|refine yaG ?_|((first|apply yG|apply yH|apply yI);exact rfl;(first|exact yX (enc := encData) rfl rfl rfl hk2 rfl|exact yX (enc := encData) rfl rfl rfl hn1 rfl))|refine yaC (ca) ?_|refine yaC (cn) ?_|refine yaC (cv) ?_|refine yaC (cc) ?_|refine yaC (c4) ?_|refine yaC (c5) ?_|refine yaC (c9) ?_|(exfalso;omega)|(refine yaS ?_ ?_<;>intro _)
            all_goals first
              | (exfalso; omega)
              | contradiction
              | skip
            exact .ret rfl (Fin.same rfl (old_resI ([], 0, 5) _))
    · rw [if_neg hc0]
      obtain ⟨e, he⟩ : ∃ e, c.2 = e := ⟨_, rfl⟩
      rw [he] at hc0
      rw [resV_err he hc0] at cc
      rw [he]
      repeat' first|refine yaG ?_|((first|apply yG|apply yH|apply yI);exact rfl;(first|exact yX (enc := encData) rfl rfl rfl hk2 rfl))|refine yaC (ca) ?_|refine yaC (cn) ?_|refine yaC (cv) ?_|refine yaC (cc) ?_|(exfalso;omega)|(refine yaS ?_ ?_<;>intro _)
      exact .ret rfl (Fin.same (resI_no hc0).symm (old_resI ([], 0, e) _))
  · rw [if_neg hab]
    generalize ableF s[k] vals = e at ca hab ⊢
    repeat' first|refine yaG ?_|refine yaC (ca) ?_|(exfalso;omega)|(refine yaS ?_ ?_<;>intro _)
    exact .ret rfl (Fin.same (resI_no hab).symm (old_resI ([], 0, e) _))
theorem appO_ex {s bytes v : Nat} {ys junk : List (List Ce)} {e : List Ce} (hys : ∀ q ∈ ys, q.length = s) (hj : Jk s junk) (he : e.length = s) (hb : (ys.length + 1) * bytes ≤ 140737488355328) :
    ∃ v' junk', Jk s junk' ∧ ∀ (id : Nat) (τ : Store) (fr : Fr) (x y : Opd), x.ev fr = some (.c (vec id v ys junk)) → y.ev fr = some (.c (.fz [e])) → τ.get id = some (v, ys ++ junk) → aop (.app s bytes x y) fr τ = some (.c (vec id v' (ys ++ [e]) junk'), τ.put id (v', ys ++ [e] ++ junk')) := by
  have hall1 : ∀ q ∈ [e], q.length = s := fun q hq => by rw [List.mem_singleton.1 hq]; exact he
  have hall : ∀ q ∈ ys ++ junk, q.length = s := fun q hq => by
    rcases List.mem_append.1 hq with hq | hq
    · exact hys q hq
    · exact (hj q hq).1
  by_cases c : 1 ≤ junk.length
  · refine ⟨v, junk.drop 1, fun q hq => hj q (List.mem_of_mem_drop hq), fun id τ fr x y hx hy hg => ?_⟩
    have e2 : splice (ys ++ junk) (0 + ys.length) [e] = ys ++ [e] ++ junk.drop 1 := by
      simp only [splice, Nat.zero_add, List.length_singleton]
      rw [List.take_left' rfl, List.drop_append]
      rw [List.drop_eq_nil_of_le (by omega), Nat.add_sub_cancel_left]
      simp
    have h1 : appA τ s bytes (vec id v ys junk) [e] = some (vec id v (ys ++ [e]) (junk.drop 1), τ.put id (v, ys ++ [e] ++ junk.drop 1)) := by
      unfold appA
      rw [if_pos hall1]
      simp only [vec, hg]
      rw [if_pos ⟨trivial, by simp, by omega, hall⟩, if_pos (by simp only [List.length_singleton]; omega), e2]
      simp only [List.length_append, List.length_singleton, List.length_drop]
      rw [show ys.length + 1 + (junk.length - 1) = ys.length + junk.length by omega]
    simp only [aop, hx, hy, Store.els, Option.bind_some, h1, Option.map_some]
  · refine ⟨v + 1, [], Jk.nil, fun id τ fr x y hx hy hg => ?_⟩
    have e3 : (List.drop 0 (ys ++ junk)).take ys.length = ys := by rw [List.drop_zero, List.take_left' rfl]
    have h1 : appA τ s bytes (vec id v ys junk) [e] = some (vec id (v + 1) (ys ++ [e]) [], τ.put id (v + 1, ys ++ [e] ++ [])) := by
      unfold appA
      rw [if_pos hall1]
      simp only [vec, hg]
      rw [if_pos ⟨trivial, by simp, by omega, hall⟩, if_neg (by simp only [List.length_singleton]; omega), if_pos (by simpa using hb), e3]
      simp
    simp only [aop, hx, hy, Store.els, Option.bind_some, h1, Option.map_some]
theorem E_putN {τ : Store} {id : Nat} {b : Nat × List (List Ce)} {l : List (Nat × List (List Ce))} (h : id < τ.next) : E ((E τ []).put id b) l = (E τ l).put id b := by
  refine Store.ext (by show (E τ []).next + l.length = τ.next + l.length; rw [E_next]; rfl) fun a => ?_
  by_cases h1 : a < τ.next
  · rw [E_lt (show a < ((E τ []).put id b).next from h1)]
    show (if a = id then some b else (E τ []).get a) = (if a = id then some b else (E τ l).get a)
    rw [E_lt h1, E_lt h1]
  · rw [E_ge (show ¬ a < ((E τ []).put id b).next from h1)]
    show _ = (if a = id then some b else (E τ l).get a)
    rw [if_neg (by omega), E_ge h1]
    rfl
theorem next_ok {L : ChL} {n : Nat} {s : List Table} {xs : List Ce} {db : List Data} {τ : Store} (h : Holds L n s xs db τ) {k : Nat} (hk : k < db.length) (hk2 : k < xs.length) (hl : db[k].rows.length ≤ 60) (hid : ∀ r ∈ db[k].rows, 1 ≤ r.id ∧ r.id ≤ 1000000000) :
    Ok Tryz.prog 149 [.c (.ptr L.c L.vc 0 0), .c (.int .i64 (k : Int))] τ (fun r τ' => r = .c (.int .i64 (nextF db[k].rows)) ∧ τ' = τ) := by
  refine Ok.run0 mixed c_impl_changer_next_ok (Nat.le_of_ble_eq_true rfl) fun hS hA => ?_
  clear hS hA
  obtain ⟨lab, ps, id2, v2, junk2, hat, hl2⟩ := h.any hk hk2
  have hpl : (ps.map encP).length = db[k].rows.length := by rw [List.length_map, hat.len]
  by_cases h0 : 0 < db[k].rows.length
  · have hlt : db[k].rows.length - 1 < db[k].rows.length := by omega
    have hz : IntKind.i64.wrap ((db[k].rows.length : Int) - 1) = ((db[k].rows.length - 1 : Nat) : Int) := by rw [wrap64 (by omega) (by omega)]; omega
    have hlast := hid _ (List.getElem_mem hlt)
    have hnx := nextF_at (l := db[k].rows) (k := db[k].rows.length - 1) hlt (by omega)
    repeat' first|refine yaG ?_|((first|apply yG|apply yH|apply yI);exact rfl;(first|exact aop_hd h rfl|exact aop_hi h rfl rfl rfl hk|exact aop_hr h rfl hk2|exact aop_lenR h hk hk2 rfl))|(exfalso;omega)|(refine yaS ?_ ?_<;>intro _)
    all_goals first
      | (exfalso; omega)
      | skip
    rw [hat.x]
    repeat' first|refine yaG ?_|((first|apply yG|apply yH|apply yI);exact rfl;(first|exact aop_iaddrO rfl rfl hz (by rw [hpl];exact hlt) hat.get (hat.at hlt) rfl|exact aop_loadO rfl hat.get (hat.at hlt) (Nat.zero_lt_succ _)))|(exfalso;omega)|(refine yaS ?_ ?_<;>intro _)
    refine .ret rfl ⟨?_, rfl⟩
    rw [hnx, ← hat.row hlt]
    show AV.c (.int .i64 (IntKind.i64.wrap ((ps[db[k].rows.length - 1]'_).1.id + 1))) = _
    rw [wrap64 (by rw [hat.row hlt]; omega) (by rw [hat.row hlt]; omega)]
  · have hnil : db[k].rows = [] := List.eq_nil_of_length_eq_zero (by omega)
    repeat' first|refine yaG ?_|((first|apply yG|apply yH|apply yI);exact rfl;(first|exact aop_hd h rfl|exact aop_hi h rfl rfl rfl hk|exact aop_hr h rfl hk2|exact aop_lenR h hk hk2 rfl))|(exfalso;omega)|(refine yaS ?_ ?_<;>intro _)
    all_goals first
      | (exfalso; omega)
      | skip
    rw [hnil]
    exact .ret rfl ⟨rfl, rfl⟩
theorem rivalsF_id {rows : List RowD} {keys : List (List Int)} {a b : Int} {vals : List Val} (h : ∀ r ∈ rows, r.id ≠ a ∧ r.id ≠ b) : rivalsF rows keys a vals = rivalsF rows keys b vals := by
  rw [rivalsF, rivalsF]
  congr 1
  refine List.filter_congr fun r hr => ?_
  obtain ⟨h1, h2⟩ := h r hr
  rw [beq_eq_false_iff_ne.2 h1, beq_eq_false_iff_ne.2 h2]
theorem clearF_id {run : Chg → List Data → Res} {t : Table} {k : Nat} {a b : Int} {vals : List Val} {rep : Bool} {db : List Data} (h : ∀ r ∈ rowsN db k, r.id ≠ a ∧ r.id ≠ b) : clearF run t k ⟨a, vals⟩ rep db = clearF run t k ⟨b, vals⟩ rep db := by
  rw [clearF, clearF]
  simp only [rivalsF_id h]
def DoneI (L : ChL) (n : Nat) (s : List Table) (q : Ins) (τ : Store) (r : AV) (τ' : Store) : Prop := r = .tup [.c (.int .i64 q.2.2), .c (.int .i64 q.2.1)] ∧ Kept n τ τ' ∧ (q.2.2 = 0 → ∃ xs, Holds L n s xs q.1 τ')
set_option maxHeartbeats 4000000 in
theorem insert_ok {L : ChL} {n : Nat} {s : List Table} (hs : SchG s) {k : Nat} (hk : k < s.length) (vals0 : List Val) (rep : Bool) (db : List Data) {nx : Int} (hnx : nx = nextF (rowsN db k)) (xs : List Ce) (τ : Store) (h : Holds L n s xs db τ) (hdb : DbG (NextI k nx) s db) (hl : vals0.length = s[k].cols.length) (hv : areVals vals0 16 = true) :
    Ok Tryz.prog 74 [.c (.ptr L.c L.vc 0 0), .c (.int .i64 (k : Int)), .c (.fz (vals0.map encV)), .c (.bool rep)] τ (DoneI L n s (insF (chgF s 12) s k (if rep then fillAux s[k] 0 vals0 else vals0) rep db) τ) := by
  refine Ok.run0 mixed c_impl_changer_insert_ok (Nat.le_of_ble_eq_true rfl) fun hS hA => ?_
  clear hS hA
  have hk2 : k < db.length := by rw [hdb.len]; exact hk
  have hk3 : k < xs.length := by rw [h.len]; exact hk2
  have ht := hs.tab _ (List.getElem_mem hk)
  have hb := hs.big _ (List.getElem_mem hk)
  have hR := hdb.rows k hk hk2
  have hne : ∀ {l : List Val}, l.length = s[k].cols.length → l ≠ [] := fun h1 h0 => by
    rw [h0] at h1
    have := ht.cols0
    simp at h1
    omega
  have cF := filled_ok s[k] vals0 hl (hne hl) ht.cols8
  have hvv := fillOk hs hk hl hv rep
  rw [rowsN_at hk2] at hnx
  have hn9 : 1 ≤ nx := by rw [hnx]; exact next_pos fun r hr => (hR.ids r hr).1
  rw [insF, tabN_at hk, rowsN_at hk2, ← hnx]
  have hn0 : τ.next ≤ τ.next := Nat.le_refl _
  repeat' first|refine yaG ?_|((first|apply yG|apply yH|apply yI);exact rfl;(first|exact aop_hs h rfl|exact yX (enc := encTable) rfl rfl rfl hk rfl))
  refine Go.meet (K' := [_]) (fun fr τ' => τ' = τ ∧ ∃ vals, vals = (if rep then fillAux s[k] 0 vals0 else vals0) ∧ fr = [(0, AV.c (.ptr L.c L.vc 0 0)), (1, .c (.int .i64 (k : Int))), (2, .c (.fz (vals.map encV))), (3, .c (.bool rep)), (10, .c (.fp (encTable s[k])))]) ?_ ?_
  · intro K hrec
    cases rep
    · repeat' first|refine yaG ?_|(exfalso;omega)|(refine yaS ?_ ?_<;>intro _)
      exact Go.keep [0, 1, 2, 3, 10] (hrec _ _ ⟨rfl, _, rfl, rfl⟩)
    · repeat' first|refine yaG ?_|refine yaC (cF) ?_|(exfalso;omega)|(refine yaS ?_ ?_<;>intro _)
      exact Go.keep [0, 1, 2, 3, 10] (hrec _ _ ⟨rfl, _, rfl, rfl⟩)
  rintro fr τ' ⟨hτ, vals, hve, rfl⟩
  rw [hτ]
  rw [← hve] at hvv ⊢
  clear cF hl hv hve hτ
  have ca := refused_ok s[k] vals hvv.1 ht hb
  by_cases hab : ableF s[k] vals = 0
  · rw [hab] at ca
    rw [if_pos hab]
    repeat' first|refine yaG ?_|refine yaC (ca) ?_|(exfalso;omega)|(refine yaS ?_ ?_<;>intro _)
    clear ca
    have cn := next_ok h hk2 hk3 hR.len fun r hr => ⟨(hR.ids r hr).1, (hR.ids r hr).2.1⟩
    rw [← hnx] at cn
    refine .call _ rfl rfl rfl cn ?_
    rintro r9 τ9 ⟨hr9, ht9⟩
    rw [hr9, ht9]
    clear hr9 ht9 cn
    have hr := impRun (I := NextI k nx) (L := L) (n := n) hs 12 1 (by decide) rfl
    have cc := clear_ok (deep := 0) hs hr hk 0 vals hvv.1 rep db xs τ h hdb
    rw [clearF_id (b := nx) fun r hm => by
      rw [rowsN_at hk2] at hm
      have h1 := hR.ids r hm
      exact ⟨fun e => by have := h1.1; omega, fun e => by have := h1.2.2 rfl; omega⟩] at cc
    have hkc := fun (h2 : (clearF (chgF s 12) s[k] k ⟨nx, vals⟩ rep db).2 = 0) => clearF_ok hr.keeps hk (t := s[k]) (x := ⟨nx, vals⟩) (rep := rep) hdb h2
    generalize clearF (chgF s 12) s[k] k ⟨nx, vals⟩ rep db = c at cc hkc ⊢
    repeat' first|refine yaG ?_|(exfalso;omega)|(refine yaS ?_ ?_<;>intro _)
    refine .call _ rfl rfl rfl cc ?_
    rintro r9 τ1 ⟨hr9, hk1, hq1⟩
    rw [hr9]
    clear cc hr9
    rw [insC]
    by_cases hc0 : c.2 = 0
    · obtain ⟨xs1, hH1⟩ := hq1 hc0
      have hdb1 := hkc hc0
      rw [if_pos hc0, hc0]
      generalize c.1 = db1 at hdb1 hH1 ⊢
      clear hkc hq1
      have hn1 : k < db1.length := by rw [hdb1.len]; exact hk
      have hn2 : k < xs1.length := by rw [hH1.len]; exact hn1
      have hR1 := hdb1.rows k hk hn1
      rw [insD, rowsN_at hn1]
      have hlen60 := hR1.len
      by_cases hlen : db1[k].rows.length = 60
      · rw [if_pos (.inl hlen)]
        repeat' first|refine yaG ?_|((first|apply yG|apply yH|apply yI);exact rfl;(first|exact aop_hd hH1 rfl|exact aop_hi hH1 rfl rfl rfl hn1|exact aop_hr hH1 rfl hn2|exact aop_lenR hH1 hn1 hn2 rfl))|(exfalso;omega)|(refine yaS ?_ ?_<;>intro _)
        all_goals first
          | (exfalso; omega)
          | skip
        all_goals exact .ret rfl ⟨rfl, hk1, fun h => by cases h⟩
      · by_cases hbig : nx > 1000000000
        · rw [if_pos (.inr hbig)]
          repeat' first|refine yaG ?_|((first|apply yG|apply yH|apply yI);exact rfl;(first|exact aop_hd hH1 rfl|exact aop_hi hH1 rfl rfl rfl hn1|exact aop_hr hH1 rfl hn2|exact aop_lenR hH1 hn1 hn2 rfl))|(exfalso;omega)|(refine yaS ?_ ?_<;>intro _)
          all_goals first
            | (exfalso; omega)
            | skip
          all_goals exact .ret rfl ⟨rfl, hk1, fun h => by cases h⟩
        · rw [if_neg (fun h => by rcases h with h | h <;> omega)]
          have hset : DbG BI s (db1.set k ⟨db1[k].rows ++ [⟨nx, vals⟩]⟩) := hdb1.next.set hk (hR1.snoc rfl hn9 (by omega) (by omega) hvv)
          obtain ⟨lab2, ps2, id2, v2, junk2, hat, hl2⟩ := hH1.any hn1 hn2
          obtain ⟨_, q1, q2, q3, q4⟩ := hat.own
          repeat' first|apply Go.seq|apply Go.skip|apply Go.region|apply Go.nil|apply Go.block|apply Go.blk|apply Go.segs|(apply Go.exit;exact rfl)|(apply Go.cond true;exact rfl)|(apply Go.cond false;exact rfl)|apply yB|apply yC|((first|apply yD|apply yE);(first|exact yF|assumption);iterate 6 exact rfl)|((first|apply yG|apply yH|apply yI);exact rfl;(first|exact yJ|exact yK rfl rfl|exact yL rfl|exact yM rfl|exact rfl|exact aL rfl rfl rfl rfl rfl|exact aS rfl rfl rfl rfl rfl rfl rfl|exact aop_hd hH1 rfl|exact aop_hi hH1 rfl rfl rfl hn1|exact aop_hr hH1 rfl hn2|exact aop_lenR hH1 hn1 hn2 rfl))|((first|apply yN|apply yO|apply yP);exact rfl)|(exfalso;omega)|(((first|apply yT|apply yU|apply yV|apply yW);exact rfl;(first|exact .d|exact .e|exact .n|((fail_if_success exact bqt);(fail_if_success exact bqf);exact .b)))<;>intro _)
          all_goals first
            | (exfalso; omega)
            | skip
          apply Go.draw
          refine .old fun _ hSt => ?_
          have hE0 : (E τ1 []).put id2 (v2, ps2.map encP ++ junk2) = τ1 := by rw [E_nil hSt, putself hat.get]
          refine Go.ext ?_ hE0
          have hcS : ∀ a b, ((E τ1 a).put id2 b).get L.c = some (L.vc, [[.fz (s.map encTable), .sl L.d L.vd 0 db1.length (db1.length + L.junk.length)]]) := fun a b => (if_neg (Ne.symm q3)).trans ((E_lt hH1.lc).trans hH1.c)
          have hdS : ∀ a b, ((E τ1 a).put id2 b).get L.d = some (L.vd, cells xs1 ++ L.junk) := fun a b => (if_neg (Ne.symm q4)).trans ((E_lt hH1.ld).trans hH1.d)
          have o1 : ∀ (a : List (Nat × List (List Ce))) (b : Nat × List (List Ce)) (fr : Fr) (x : Opd), x.ev fr = some (.c (.ptr L.c L.vc 0 1)) → aop (.load false 1 x) fr ((E τ1 a).put id2 b) = some (.c (.sl L.d L.vd 0 db1.length (db1.length + L.junk.length)), (E τ1 a).put id2 b) := fun a b fr x hx => aop_loadO hx (hcS a b) rfl (Nat.lt_succ_self _)
          have o2 : ∀ (a : List (Nat × List (List Ce))) (b : Nat × List (List Ce)) (fr : Fr) (x y : Opd), x.ev fr = some (.c (.sl L.d L.vd 0 db1.length (db1.length + L.junk.length))) → y.ev fr = some (.c (.int .i64 (k : Int))) → aop (.iaddr 1 x y) fr ((E τ1 a).put id2 b) = some (.c (.ptr L.d L.vd (0 + k) 0), (E τ1 a).put id2 b) := fun a b fr x y hx hy => aop_iaddrO hx hy rfl hn1 (hdS a b) (cells_at hn2) rfl
          have o3 : ∀ (a : List (Nat × List (List Ce))) (b : Nat × List (List Ce)) (fr : Fr) (x : Opd), x.ev fr = some (.c (.ptr L.d L.vd (0 + k) 0)) → aop (.load false 1 x) fr ((E τ1 a).put id2 b) = some (.c xs1[k], (E τ1 a).put id2 b) := fun a b fr x hx => aop_loadO hx (hdS a b) (cells_at hn2) (Nat.lt_succ_self _)
          refine Go.qxd (fun a b => (E τ1 a).put id2 b) (fun _ => True) [] (v2, ps2.map encP ++ junk2) (fun a b b' h => Option.some.inj (putget.symm.trans ((congrArg (fun σ => σ.get id2) h).trans putget))) trivial ?_
          repeat' first|(apply Qx.op;exact rfl;(first|exact fun a b _ => o1 a b _ _ rfl|exact fun a b _ => o2 a b _ _ _ rfl rfl|exact fun a b _ => o3 a b _ _ rfl|exact fun _ _ _ => rfl))
          refine Qx.call (fun r a' => ∃ v9 junk9, Jk 3 junk9 ∧ r = .c (vec (τ1.next + 0) v9 (vals.map encV) junk9) ∧ a' = [(v9, vals.map encV ++ junk9)]) rfl rfl rfl (fun b _ => (cloneV_made vals (hne hvv.1) (Nat.le_trans (areVals_iff.1 hvv.2).1 (by decide)) ((E τ1 []).put id2 b)).mono ?_) ?_
          · rintro r τ9 ⟨v9, junk9, hj9, hr9, ht9⟩
            exact ⟨_, ⟨v9, junk9, hj9, hr9, rfl⟩, by rw [ht9, E_putN q2]⟩
          rintro r a' ⟨v9, junk9, hj9, hr9, ha9⟩
          rw [hr9, ha9]
          have hbd : ((ps2.map encP).length + 1) * 32 ≤ 140737488355328 := by rw [List.length_map, hat.len]; omega
          obtain ⟨v', junk', hj', hap⟩ := appO_ex (bytes := 32) (v := v2) (e := [.int .i64 nx, vec (τ1.next + 0) v9 (vals.map encV) junk9]) (encP_len (ps := ps2)) hat.jk rfl hbd
          repeat' first|(apply Qx.op;exact rfl;exact fun _ _ _ => rfl)
          refine .wop (v := .c (vec id2 v' (ps2.map encP ++ [[.int .i64 nx, vec (τ1.next + 0) v9 (vals.map encV) junk9]]) junk')) (b' := (v', ps2.map encP ++ [[.int .i64 nx, vec (τ1.next + 0) v9 (vals.map encV) junk9]] ++ junk')) rfl rfl (fun a => ?_) trivial ?_
          · rw [hap id2 ((E τ1 a).put id2 (v2, ps2.map encP ++ junk2)) _ _ _ (by rw [← hat.x]; rfl) rfl putget, putput]
          refine .nil ?_
          have e1 : ps2.map encP ++ [[.int .i64 nx, vec (τ1.next + 0) v9 (vals.map encV) junk9]] = (ps2 ++ [((⟨nx, vals⟩ : RowD), vec (τ1.next + 0) v9 (vals.map encV) junk9)]).map encP := by
            rw [List.map_append]
            rfl
          rw [e1]
          have hH2 : Holds L n s (xs1.set k (vec id2 v' ((ps2 ++ [((⟨nx, vals⟩ : RowD), vec (τ1.next + 0) v9 (vals.map encV) junk9)]).map encP) junk')) (db1.set k ⟨db1[k].rows ++ [⟨nx, vals⟩]⟩) (((E τ1 [(v9, vals.map encV ++ junk9)]).put id2 (v', (ps2 ++ [((⟨nx, vals⟩ : RowD), vec (τ1.next + 0) v9 (vals.map encV) junk9)]).map encP ++ junk')).put L.d (L.vd, (cells xs1 ++ L.junk).set (0 + k) [vec id2 v' ((ps2 ++ [((⟨nx, vals⟩ : RowD), vec (τ1.next + 0) v9 (vals.map encV) junk9)]).map encP) junk'])) := by
            have hng : ∀ {a : Nat}, a < τ1.next → a ≠ id2 → a ≠ L.d → (((E τ1 [(v9, vals.map encV ++ junk9)]).put id2 (v', (ps2 ++ [((⟨nx, vals⟩ : RowD), vec (τ1.next + 0) v9 (vals.map encV) junk9)]).map encP ++ junk')).put L.d (L.vd, (cells xs1 ++ L.junk).set (0 + k) [vec id2 v' ((ps2 ++ [((⟨nx, vals⟩ : RowD), vec (τ1.next + 0) v9 (vals.map encV) junk9)]).map encP) junk'])).get a = τ1.get a := fun ha h1 h2 => (if_neg h2).trans ((if_neg h1).trans (E_lt ha))
            have hld := hH1.ld
            refine hH1.upd hl2 hn2 (new := fun _ => some nx) (by show τ1.next ≤ τ1.next + 1; omega) (fun a ha hne hno => hng ha (fun e => hno ⟨none, by rw [e]; exact hat.own⟩) hne) ?_ ?_
            · rw [cells_set hn2]
              exact putget
            · refine .sl _ _ id2 v' junk' ?_ ((if_neg q4).trans putget) hj' (.inl hat.own) fun p hp => ?_
              · rw [List.map_append, hat.rows]
                rfl
              · rcases List.mem_append.1 hp with hm | hm
                · exact ⟨(hat.vl p hm).1.frame fun a ha => hng ((hat.vl p hm).2 a ha).2.2.1 (hat.ne hm ha) ((hat.vl p hm).2 a ha).2.2.2.2, fun a ha => .inl ((hat.vl p hm).2 a ha)⟩
                · rw [List.mem_singleton.1 hm]
                  refine ⟨.sl vals _ v9 junk9 ((if_neg (by omega)).trans ((if_neg (by omega)).trans ?_)) hj9, fun a ha => .inr ?_⟩
                  · rw [E_at]
                    rfl
                  · cases ha
                    exact ⟨Nat.le_refl _, by show τ1.next + 0 < τ1.next + 1; omega, rfl⟩
          have hK2 : Kept n τ1 (((E τ1 [(v9, vals.map encV ++ junk9)]).put id2 (v', (ps2 ++ [((⟨nx, vals⟩ : RowD), vec (τ1.next + 0) v9 (vals.map encV) junk9)]).map encP ++ junk')).put L.d (L.vd, (cells xs1 ++ L.junk).set (0 + k) [vec id2 v' ((ps2 ++ [((⟨nx, vals⟩ : RowD), vec (τ1.next + 0) v9 (vals.map encV) junk9)]).map encP) junk'])) := ((Kept.ofE hH1.le _).trans (.put q1)).trans (.put hH1.nd)
          repeat' first|apply Go.seq|apply Go.skip|apply Go.region|apply Go.nil|apply Go.block|apply Go.blk|apply Go.segs|(apply Go.exit;exact rfl)|(apply Go.cond true;exact rfl)|(apply Go.cond false;exact rfl)|apply yB|apply yC|((first|apply yD|apply yE);(first|exact yF|assumption);iterate 6 exact rfl)|((first|apply yG|apply yH|apply yI);exact rfl;(first|exact yJ|exact yK rfl rfl|exact yL rfl|exact yM rfl|exact rfl|exact aL rfl rfl rfl rfl rfl|exact aS rfl rfl rfl rfl rfl rfl rfl|exact aop_iaddrO rfl rfl rfl hn1 (hdS _ _) (cells_at hn2) rfl|exact aop_storeO rfl rfl (hdS _ _) (cells_at hn2) (Nat.lt_succ_self _)))|((first|apply yN|apply yO|apply yP);exact rfl)|(exfalso;omega)|(((first|apply yT|apply yU|apply yV|apply yW);exact rfl;(first|exact .d|exact .e|exact .n|((fail_if_success exact bqt);(fail_if_success exact bqf);exact .b)))<;>intro _)
          obtain ⟨τ2, hτ2⟩ : ∃ τ2, τ2 = (((E τ1 [(v9, vals.map encV ++ junk9)]).put id2 (v', (ps2 ++ [((⟨nx, vals⟩ : RowD), vec (τ1.next + 0) v9 (vals.map encV) junk9)]).map encP ++ junk')).put L.d (L.vd, (cells xs1 ++ L.junk).set (0 + k) [vec id2 v' ((ps2 ++ [((⟨nx, vals⟩ : RowD), vec (τ1.next + 0) v9 (vals.map encV) junk9)]).map encP) junk'])) := ⟨_, rfl⟩
          refine Go.ext ?_ hτ2
          rw [← hτ2] at hH2 hK2
          clear hτ2 hap o1 o2 o3 hcS hdS
          generalize xs1.set k (vec id2 v' ((ps2 ++ [((⟨nx, vals⟩ : RowD), vec (τ1.next + 0) v9 (vals.map encV) junk9)]).map encP) junk') = xs2 at hH2
          generalize db1.set k ⟨db1[k].rows ++ [⟨nx, vals⟩]⟩ = db2 at hset hH2 ⊢
          have hK3 := hk1.trans hK2
          rw [insE, tabN_at hk]
          have c9 := isLostRow_ok s db2 s[k] vals false (Nat.le_trans hs.few (by decide)) (Nat.le_trans ht.fk3 (by decide)) (fkR hs hset hk hvv.1)
          have e9 : s[k].fks.any (lostBad s db2 false vals) = s[k].fks.any fun f => lostBad s db2 false vals f := rfl
          rw [e9] at c9
          generalize (s[k].fks.any fun f => lostBad s db2 false vals f) = B at c9 ⊢
          repeat' first|refine yaG ?_|((first|apply yG|apply yH|apply yI);exact rfl;(first|exact aop_hs hH2 rfl|exact aop_hd hH2 rfl))|(exfalso;omega)|(refine yaS ?_ ?_<;>intro _)
          refine Go.slcall rfl rfl rfl c9 (.bool _) (.same (.own hH2.frz (.same (.same (.same .nil))))) ?_
          cases B
          · rw [if_neg Bool.false_ne_true]
            repeat' first|refine yaG ?_|(exfalso;omega)|(refine yaS ?_ ?_<;>intro _)
            exact .ret rfl ⟨rfl, hK3, fun _ => ⟨xs2, hH2⟩⟩
          · rw [if_pos rfl]
            repeat' first|refine yaG ?_|(exfalso;omega)|(refine yaS ?_ ?_<;>intro _)
            exact .ret rfl ⟨rfl, hK3, fun h => by cases h⟩
    · rw [if_neg hc0]
      generalize c.2 = e at hc0 ⊢
      repeat' first|refine yaG ?_|(exfalso;omega)|(refine yaS ?_ ?_<;>intro _)
      exact .ret rfl ⟨rfl, hk1, fun h => absurd h hc0⟩
  · rw [if_neg hab]
    generalize ableF s[k] vals = e at ca hab ⊢
    repeat' first|refine yaG ?_|refine yaC (ca) ?_|(exfalso;omega)|(refine yaS ?_ ?_<;>intro _)
    exact .ret rfl ⟨rfl, .refl, fun h => absurd h hab⟩
theorem changed_ok2 (s : List Table) (db : List Data) (hd : db.length ≤ 60) (hr : ∀ d ∈ db, d.rows.length ≤ 60 ∧ ∀ r ∈ d.rows, r.vals ≠ [] ∧ r.vals.length ≤ 34359738368) (hrise : ∀ d ∈ db, Rise d.rows) (f : Nat) (pre cap : List Ce) (q : Res) (hq : q.2 = 0 → ∀ d ∈ q.1, Rise d.rows) (σ : Store) {n x : Nat} {y : Nat × List (List Ce)} (hx : x < σ.next) (hn : n ≤ σ.next)
    (hf : ∀ L xs τ, Holds L σ.next s xs db τ → τ.get x = σ.get x → Ok Tryz.prog f (pre.map .c ++ [.c (.ptr L.c L.vc 0 0)] ++ cap.map .c) τ (fun r τ' => r = .c (.int .i64 q.2) ∧ Kept n τ τ' ∧ τ'.get x = some y ∧ (q.2 = 0 → ∃ xs', Holds L σ.next s xs' q.1 τ'))) :
    Ok Tryz.prog 49 [.c (.fz (s.map encTable)), .c (.fz (db.map encData)), .c (.fn f pre cap)] σ (fun r τ => Kept n σ τ ∧ τ.get x = some y ∧ ∃ z, r = .tup [.c z, .c (.int .i64 (topR db q).2)] ∧ Has τ (fun a => σ.next ≤ a ∧ a < τ.next) (.fz ((topR db q).1.map encData)) z) := by
  refine Ok.run0 mixed c_impl_changed_ok (Nat.le_of_ble_eq_true rfl) fun hS hA => ?_
  clear hS hA
  repeat' first|refine yaG ?_|(exfalso;omega)|(refine yaS ?_ ?_<;>intro _)
  refine .call _ rfl rfl rfl (copiedDb_ok db hd hr σ) ?_
  rintro r9 τ1 ⟨o, vo, xs, junk, hr9, hK1, hD1⟩
  rw [hr9]
  clear hr9
  have hH := hD1.holds (s := s) hK1.next
  have hK2 : Kept σ.next σ (τ1.new (0, [[.fz (s.map encTable), vec o vo (cells xs) junk]])) := hK1.trans (.new hK1.next)
  repeat' first|refine yaG ?_|((first|apply yG|apply yH|apply yI);exact rfl;(first|exact aop_boxO rfl))|(exfalso;omega)|(refine yaS ?_ ?_<;>intro _)
  refine .call _ rfl rfl rfl (hf _ _ _ hH (hK2.get x hx)) ?_
  rintro r9 τ2 ⟨hr9, hk2, hg2, hq2⟩
  rw [hr9]
  have hK3 := (hK2.mono hn).trans hk2
  by_cases h0 : q.2 = 0
  · obtain ⟨xs2, hH2⟩ := hq2 h0
    rw [topR, if_pos h0, h0]
    repeat' first|refine yaG ?_|((first|apply yG|apply yH|apply yI);exact rfl;(first|exact aop_hd hH2 rfl))|(exfalso;omega)|(refine yaS ?_ ?_<;>intro _)
    exact .ret rfl ⟨hK3, hg2, _, rfl, (hH2.has (hq h0)).mono fun a ha => ⟨ha.1, ha.2.1⟩⟩
  · rw [topR, if_neg h0]
    generalize q.2 = e at h0 ⊢
    repeat' first|refine yaG ?_|(exfalso;omega)|(refine yaS ?_ ?_<;>intro _)
    refine .call _ rfl rfl rfl (copiedDb_ok db hd hr τ2) ?_
    rintro r9 τ3 ⟨o3, vo3, xs3, junk3, hr9, hK4, hD4⟩
    rw [hr9]
    have hnx : σ.next ≤ τ2.next := Nat.le_trans hK2.next hk2.next
    repeat' first|refine yaG ?_|(exfalso;omega)|(refine yaS ?_ ?_<;>intro _)
    exact .ret rfl ⟨hK3.trans (hK4.mono (Nat.le_trans hn hnx)), (hK4.get x (Nat.lt_of_lt_of_le hx hnx)).trans hg2, _, rfl, (hD4.has hK4.next hrise).mono fun a ha => ⟨Nat.le_trans hnx ha.1, ha.2⟩⟩
theorem Holds.above {L : ChL} {n : Nat} {s : List Table} {xs : List Ce} {db : List Data} {τ : Store} (h : Holds L n s xs db τ) {x : Nat} {y : Nat × List (List Ce)} (hx : x < n) : Holds L n s xs db (τ.put x y) where
  c := (if_neg (by have := h.nc; omega)).trans h.c
  d := (if_neg (by have := h.nd; omega)).trans h.d
  jk := h.jk
  len := h.len
  tb := let ⟨lab, hl⟩ := h.tb; ⟨lab, fun i h3 h2 => (hl i h3 h2).frame (fun w a ha => ha) fun w a ha => if_neg (by have := ha.2.1; omega)⟩
  nc := h.nc
  nd := h.nd
  cd := h.cd
  lc := h.lc
  ld := h.ld
def topI (db : List Data) (q : Ins) : Ins := if q.2.2 = 0 then q else (db, 0, q.2.2)
def InsF (s : List Table) (db : List Data) (n : Int) (vals : List Val) (rep : Bool) : Ins :=
  if (dbF s db && (isIn n 0 (s.length - 1) && fitF (tabN s n.toNat) vals)) = true then topI db (insF (chgF s 12) s n.toNat (if rep then fillAux (tabN s n.toNat) 0 vals else vals) rep db) else ([], 0, 1)
theorem insF_no {run : Chg → List Data → Res} {s : List Table} {k : Nat} {vals : List Val} {rep : Bool} {db : List Data} (h : ¬ (insF run s k vals rep db).2.2 = 0) : (insF run s k vals rep db).2.1 = 0 := by
  revert h
  rw [insF]
  split
  · rw [insC]
    split
    · rw [insD]
      split
      · exact fun _ => rfl
      · rw [insE]
        split
        · exact fun _ => rfl
        · exact fun h => absurd rfl h
    · exact fun _ => rfl
  · exact fun _ => rfl
theorem insF_ok {s : List Table} (hs : SchG s) {k : Nat} (hk : k < s.length) {vals : List Val} (hvv : vals.length = s[k].cols.length ∧ areVals vals 16 = true) {rep : Bool} {db : List Data} (h : DbG (NextI k (nextF (rowsN db k))) s db) (h0 : (insF (chgF s 12) s k vals rep db).2.2 = 0) : DbG BI s (insF (chgF s 12) s k vals rep db).1 := by
  have hn9 : 1 ≤ nextF (rowsN db k) := next_pos fun r hr => ((h.at hk).ids r hr).1
  revert h0
  rw [insF, tabN_at hk]
  split
  · have hkc := fun (h2 : (clearF (chgF s 12) s[k] k ⟨nextF (rowsN db k), vals⟩ rep db).2 = 0) => clearF_ok (chgF_keeps hs 12) hk (t := s[k]) (x := ⟨nextF (rowsN db k), vals⟩) (rep := rep) h h2
    generalize clearF (chgF s 12) s[k] k ⟨nextF (rowsN db k), vals⟩ rep db = c at hkc ⊢
    rw [insC]
    split
    · rename_i hc
      have hdb1 := hkc hc
      have hn1 : k < c.1.length := by rw [hdb1.len]; exact hk
      have hR1 := hdb1.rows k hk hn1
      have h60 := hR1.len
      rw [insD, rowsN_at hn1]
      split
      · intro h
        cases h
      · rename_i hno
        rw [insE]
        split
        · intro h
          cases h
        · exact fun _ => hdb1.next.set hk (hR1.snoc rfl hn9 (by omega) (by omega) hvv)
    · rename_i hc
      exact fun h => absurd h hc
  · rename_i hc
    exact fun h => absurd h hc
theorem dbB {s : List Table} {db : List Data} (h : dbF s db = true) : DbG BI s db := by
  obtain ⟨h1, h2, h3⟩ := dbF_at h
  refine dbG h fun i hi r hr => ?_
  obtain ⟨h5, h6⟩ := (rowsF_mem (h3 i (by omega) hi)).2 r hr
  simp only [isIn, Bool.and_eq_true, decide_eq_true_eq] at h6
  exact h6
theorem dbNext {s : List Table} {db : List Data} (h : DbG BI s db) {k : Nat} (hk : k < s.length) : DbG (NextI k (nextF (rowsN db k))) s db := by
  refine ⟨h.len, fun i h1 h2 => ?_⟩
  have hR := h.rows i h1 h2
  refine ⟨hR.len, fun r hr => ⟨(hR.ids r hr).1, (hR.ids r hr).2, fun e => ?_⟩, hR.rise, hR.fit⟩
  subst e
  rw [rowsN_at h2]
  exact next_lt hR.rise r hr
theorem HasV.three {τ : Store} {S : Nat → Prop} {y x : Ce} {k : IntKind} {z z2 : Int} (h : Has τ S y x) : HasV τ S (.tup [.c y, .c (.int k z), .c (.int k z2)]) (.tup [.c x, .c (.int k z), .c (.int k z2)]) := by
  refine .tup (fun i a => i = 0 ∧ S a) rfl (fun i a ha => ha.2) (fun i i' a h1 h2 => h1.1.trans h2.1.symm) fun i hy hx => ?_
  have hi : i < 3 := hy
  have hi3 : i = 0 ∨ i = 1 ∨ i = 2 := by omega
  rcases hi3 with rfl | rfl | rfl
  · exact .c (h.mono fun a ha => ⟨rfl, ha⟩)
  · exact .c (.c (.int _ _))
  · exact .c (.c (.int _ _))
theorem InsertRow1_ok {L : ChL} {n x : Nat} {s : List Table} (hs : SchG s) {k : Nat} (hk : k < s.length) (vals : List Val) (rep : Bool) (hl : vals.length = s[k].cols.length) (hv : areVals vals 16 = true) (db : List Data) (hdb : DbG (NextI k (nextF (rowsN db k))) s db) (xs : List Ce) (τ : Store) (h : Holds L n s xs db τ) (hx : x < n) (hg : τ.get x = some (0, [[.int .i64 0]])) :
    Ok Tryz.prog 73 [.c (.ptr L.c L.vc 0 0), .c (.fp [.int .i64 (k : Int)]), .c (.fp [.fz (vals.map encV)]), .c (.fp [.bool rep]), .c (.ptr x 0 0 0)] τ (fun r τ' => r = .c (.int .i64 (insF (chgF s 12) s k (if rep then fillAux s[k] 0 vals else vals) rep db).2.2) ∧ Kept x τ τ' ∧ τ'.get x = some (0, [[.int .i64 (insF (chgF s 12) s k (if rep then fillAux s[k] 0 vals else vals) rep db).2.1]]) ∧
      ((insF (chgF s 12) s k (if rep then fillAux s[k] 0 vals else vals) rep db).2.2 = 0 → ∃ xs', Holds L n s xs' (insF (chgF s 12) s k (if rep then fillAux s[k] 0 vals else vals) rep db).1 τ')) := by
  refine Ok.run0 mixed c_impl_InsertRow_1_ok (Nat.le_of_ble_eq_true rfl) fun hS hA => ?_
  clear hS hA
  have c1 := insert_ok hs hk vals rep db rfl xs τ h hdb hl hv
  generalize insF (chgF s 12) s k (if rep then fillAux s[k] 0 vals else vals) rep db = q at c1 ⊢
  repeat' first|refine yaG ?_|(exfalso;omega)|(refine yaS ?_ ?_<;>intro _)
  refine .call _ rfl rfl rfl c1 ?_
  rintro r9 τ2 ⟨hr9, hk2, hq2⟩
  rw [hr9]
  have hg2 : τ2.get x = some (0, [[.int .i64 0]]) := (hk2.get x hx).trans hg
  repeat' first|refine yaG ?_|((first|apply yG|apply yH|apply yI);exact rfl;(first|exact aop_storeO rfl rfl hg2 rfl (Nat.zero_lt_succ _)))|(exfalso;omega)|(refine yaS ?_ ?_<;>intro _)
  exact .ret rfl ⟨rfl, (hk2.mono (Nat.le_of_lt hx)).trans (.put (Nat.le_refl _)), putget, fun h0 => let ⟨xs', hH⟩ := hq2 h0; ⟨xs', hH.above hx⟩⟩
theorem topI_of {db : List Data} {q : Ins} (h : ¬ q.2.2 = 0 → q.2.1 = 0) : topI db q = ((topR db (q.1, q.2.2)).1, q.2.1, (topR db (q.1, q.2.2)).2) := by
  rw [topI, topR]
  obtain ⟨d, i, c⟩ := q
  simp only at h ⊢
  split
  · rename_i h0
    subst h0
    rfl
  · rename_i h0
    rw [h h0]
theorem InsertRow_new (s : List Table) (db : List Data) (n : Int) (vals : List Val) (rep : Bool) (hx : s.length ≤ 34359738368) (hb : ∀ t ∈ s, bTable 34359738368 t) (hd : db.length ≤ 34359738368) (hdb : ∀ d ∈ db, bData 34359738368 d) (hv : vals.length ≤ 34359738368) (hv2 : ∀ v ∈ vals, bV 34359738368 v) (σ : Store) :
    Ok Tryz.prog 26 [.c (.fz (s.map encTable)), .c (.fz (db.map encData)), .c (.int .i64 n), .c (.fz (vals.map encV)), .c (.bool rep)] σ (NewV σ (.tup [.c (.fz ((InsF s db n vals rep).1.map encData)), .c (.int .i64 (InsF s db n vals rep).2.1), .c (.int .i64 (InsF s db n vals rep).2.2)])) := by
  refine Ok.newV (Ok.run mixed c_impl_InsertRow_ok (Nat.le_of_ble_eq_true rfl) fun hS hA => ?_)
  clear hA
  have hK0 : Kept σ.next σ (E σ []) := .ofE (Nat.le_refl _) _
  have c1 := DbOk_ok s db hx hb hd hdb
  have c2 := isTable_ok s n hx
  rw [InsF]
  cases h1 : dbF s db
  · rw [h1] at c1
    rw [Bool.false_and, if_neg Bool.false_ne_true]
    repeat' first|refine yaN ?_|refine yaC (c1) ?_|refine yaC (c2) ?_|(exfalso;omega)|(refine yaS ?_ ?_<;>intro _)
    exact .ret rfl ⟨hK0, .three .nil⟩
  · rw [h1] at c1
    rw [Bool.true_and]
    cases h2 : isIn n 0 (s.length - 1)
    · rw [h2] at c2
      rw [Bool.false_and, if_neg Bool.false_ne_true]
      repeat' first|refine yaN ?_|refine yaC (c1) ?_|refine yaC (c2) ?_|(exfalso;omega)|(refine yaS ?_ ?_<;>intro _)
      exact .ret rfl ⟨hK0, .three .nil⟩
    · rw [h2] at c2
      rw [Bool.true_and]
      obtain ⟨h3, h4⟩ := isIn_at h2
      obtain ⟨k, rfl⟩ : ∃ k : Nat, n = (k : Int) := ⟨n.toNat, by omega⟩
      have hk : k < s.length := by omega
      rw [Int.toNat_natCast, tabN_at hk]
      have c3 := fit_ok s[k] vals hv
      cases hf : fitF s[k] vals
      · rw [hf] at c3
        rw [if_neg Bool.false_ne_true]
        repeat' first|refine yaN ?_|((first|apply yG|apply yH|apply yI);exact rfl;(first|exact yX (enc := encTable) rfl rfl rfl hk rfl))|refine yaC (c1) ?_|refine yaC (c2) ?_|refine yaC (c3) ?_|(exfalso;omega)|(refine yaS ?_ ?_<;>intro _)
        exact .ret rfl ⟨hK0, .three .nil⟩
      · rw [hf] at c3
        rw [if_pos rfl]
        have hs := schG (dbF_at h1).1 hb
        have hdg : DbG BI s db := dbB h1
        obtain ⟨b1, b2, b3⟩ := dbG_b hs hdg
        have hl := (fitF_vals hf).1
        have hva := fitF_are hf (hs.tab _ (List.getElem_mem hk)).cols8
        have hk2 : k < db.length := by rw [hdg.len]; exact hk
        have hdn := dbNext (dbB h1) hk
        have hkp := insF_ok hs hk (rep := rep) (fillOk hs hk hl hva rep) hdn
        have hno := insF_no (run := chgF s 12) (s := s) (k := k) (vals := if rep then fillAux s[k] 0 vals else vals) (rep := rep) (db := db)
        have cf := fun (L : ChL) (n x : Nat) (xs : List Ce) (τ : Store) (hH : Holds L n s xs db τ) (hx : x < n) hg => InsertRow1_ok hs hk vals rep hl hva db hdn xs τ hH hx hg
        generalize insF (chgF s 12) s k (if rep then fillAux s[k] 0 vals else vals) rep db = q at hkp hno cf ⊢
        rw [topI_of hno]
        repeat' first|refine yaN ?_|((first|apply yG|apply yH|apply yI);exact rfl;(first|exact yX (enc := encTable) rfl rfl rfl hk rfl))|refine yaC (c1) ?_|refine yaC (c2) ?_|refine yaC (c3) ?_|(exfalso;omega)|(refine yaS ?_ ?_<;>intro _)
        have hgx : (E σ [(0, [[.int .i64 0]])]).get (σ.next + 0) = some (0, [[Ce.int .i64 0]]) := by rw [E_at]; rfl
        refine .call _ rfl rfl rfl (changed_ok2 s db (by omega) (fun d hd => ⟨(b3 d hd).2.1, fun r hr => ⟨((b3 d hd).2.2 r hr).1, by have := ((b3 d hd).2.2 r hr).2.1; omega⟩⟩) (fun d hd => (b3 d hd).1) _ _ _ (q.1, q.2.2) (fun h0 d hd => ((dbG_b hs (hkp h0)).2.2 d hd).1) (E σ [(0, [[.int .i64 0]])]) (n := σ.next + 0) (x := σ.next + 0) (y := (0, [[.int .i64 q.2.1]])) (by show σ.next + 0 < σ.next + 1; omega) (by show σ.next + 0 ≤ σ.next + 1; omega) (fun L xs τ hH hg => cf L _ _ xs τ hH (by show σ.next + 0 < σ.next + 1; omega) (hg.trans hgx))) ?_
        rintro r9 τ2 ⟨hK, hgy, z, hr9, hh⟩
        rw [hr9]
        repeat' first|refine yaG ?_|((first|apply yG|apply yH|apply yI);exact rfl;(first|exact aop_loadO rfl hgy rfl (Nat.zero_lt_succ _)))|(exfalso;omega)|(refine yaS ?_ ?_<;>intro _)
        exact .ret rfl ⟨(Kept.ofE (Nat.le_refl _) _).trans hK, .three (hh.mono fun a ha => ⟨Nat.le_trans (Nat.le_succ _) ha.1, ha.2⟩)⟩
theorem Fin.nil3 {σ : Store} {l : List (Nat × List (List Ce))} {z z2 : Int} : Fin σ (.tup [.c (.fz []), .c (.int .i64 z), .c (.int .i64 z2)]) (.tup [.c .nils, .c (.int .i64 z), .c (.int .i64 z2)]) (E σ l) := by
  refine ⟨l, rfl, .tup rfl fun i hi => ?_⟩
  have hi2 : i < 3 := hi
  have hi3 : i = 0 ∨ i = 1 ∨ i = 2 := by omega
  rcases hi3 with rfl | rfl | rfl
  · exact .c .nil
  · exact .c (.same _ (.int _ _))
  · exact .c (.same _ (.int _ _))
theorem old_top3 (l : List Data) (z z2 : Int) (n : Nat) : ∀ y ∈ (AV.tup [.c (.fz (l.map encData)), .c (.int .i64 z), .c (.int .i64 z2)]).all, Old n y := fun y hy => by
  simp only [AV.all, AV.all.allL, List.append_nil, List.mem_append, List.mem_singleton] at hy
  rcases hy with rfl | rfl | rfl
  · exact old_fz1 (oldDatas _)
  · exact .int _ _
  · exact .int _ _
theorem sInsertRow_ok (s : List Table) (db : List Data) (n : Int) (vals : List Val) (rep : Bool) (hx : s.length ≤ 34359738368) (hb : ∀ t ∈ s, bTable 34359738368 t) (hd : db.length ≤ 34359738368) (hdb : ∀ d ∈ db, bData 34359738368 d) (hv : vals.length ≤ 34359738368) (hv2 : ∀ v ∈ vals, bV 34359738368 v) :
    Pure Tryz.prog 25 [.c (.fz (s.map encTable)), .c (.fz (db.map encData)), .c (.int .i64 n), .c (.fz (vals.map encV)), .c (.bool rep)] (.tup [.c (.fz ((InsF s db n vals rep).1.map encData)), .c (.int .i64 (InsF s db n vals rep).2.1), .c (.int .i64 (InsF s db n vals rep).2.2)]) := by
  refine Pure.run mixed c_spec_InsertRow_ok (Nat.le_of_ble_eq_true rfl) fun σ hS hA => ?_
  clear hS hA
  have c1 := l6Ok_ok s db n hx hb hd hdb
  rw [InsF, ← Bool.and_assoc]
  cases h0 : (dbF s db && isIn n 0 (s.length - 1))
  · rw [h0] at c1
    rw [Bool.false_and, if_neg Bool.false_ne_true]
    repeat' first|refine yaG ?_|refine yaC (c1) ?_|(exfalso;omega)|(refine yaS ?_ ?_<;>intro _)
    exact .ret rfl .nil3
  · rw [h0] at c1
    rw [Bool.true_and]
    rw [Bool.and_eq_true] at h0
    obtain ⟨h1, h2⟩ := h0
    obtain ⟨h3, h4⟩ := isIn_at h2
    obtain ⟨k, rfl⟩ : ∃ k : Nat, n = (k : Int) := ⟨n.toNat, by omega⟩
    have hk : k < s.length := by omega
    rw [Int.toNat_natCast, tabN_at hk]
    have c7 := l4Kinds_ok s[k] vals hv
    cases hf : fitF s[k] vals
    · rw [hf] at c7
      rw [if_neg Bool.false_ne_true]
      repeat' first|refine yaG ?_|((first|apply yG|apply yH|apply yI);exact rfl;(first|exact yX (enc := encTable) rfl rfl rfl hk rfl))|refine yaC (c1) ?_|refine yaC (c7) ?_|(exfalso;omega)|(refine yaS ?_ ?_<;>intro _)
      exact .ret rfl .nil3
    · rw [hf] at c7
      rw [if_pos rfl]
      have hs := schG (dbF_at h1).1 hb
      have hdg : DbG BI s db := dbB h1
      have hk2 : k < db.length := by rw [hdg.len]; exact hk
      have hl := (fitF_vals hf).1
      have hva := fitF_are hf (hs.tab _ (List.getElem_mem hk)).cols8
      have hcp : ∀ {x : List Data}, DbG BI s x → Pure Tryz.prog 43 [.c (.fz (x.map encData))] (.c (.fz (x.map encData))) := fun {x} hg => by
        obtain ⟨b1, b2, b3⟩ := dbG_b hs hg
        exact l4Copy_ok x (by omega) fun d hd => ⟨(b3 d hd).2.1, fun r hr => by have := ((b3 d hd).2.2 r hr).2.1; omega⟩
      have c4 := hcp hdg
      have hdn := dbNext (dbB h1) hk
      have hkp := insF_ok hs hk (rep := rep) (fillOk hs hk hl hva rep) hdn
      have c3 := l6InsertX_ok hs hk vals rep db rfl hdn hl hva
      generalize insF (chgF s 12) s k (if rep then fillAux s[k] 0 vals else vals) rep db = q at hkp c3 ⊢
      obtain ⟨qd, qi, qc⟩ := q
      rw [topI]
      simp only at hkp ⊢
      by_cases hq : qc = 0
      · have c5 := hcp (hkp hq)
        rw [if_pos hq]
        rw [resI, if_pos hq] at c3
        subst hq
        repeat' first|refine yaG ?_|((first|apply yG|apply yH|apply yI);exact rfl;(first|exact yX (enc := encTable) rfl rfl rfl hk rfl))|refine yaC (c1) ?_|refine yaC (c7) ?_|refine yaC (c3) ?_|refine yaC (c5) ?_|(exfalso;omega)|(refine yaS ?_ ?_<;>intro _)
        exact .ret rfl (Fin.same rfl (old_top3 _ _ _ _))
      · rw [if_neg hq]
        rw [resI, if_neg hq] at c3
        repeat' first|refine yaG ?_|((first|apply yG|apply yH|apply yI);exact rfl;(first|exact yX (enc := encTable) rfl rfl rfl hk rfl))|refine yaC (c1) ?_|refine yaC (c7) ?_|refine yaC (c3) ?_|refine yaC (c4) ?_|(exfalso;omega)|(refine yaS ?_ ?_<;>intro _)
        all_goals first
          | contradiction
          | exact .ret rfl (Fin.same rfl (old_top3 _ _ _ _))
theorem InsertRow_fact (s : List Table) (db : List Data) (n : Int) (vals : List Val) (rep : Bool) (hx : s.length ≤ 34359738368) (hb : ∀ t ∈ s, bTable 34359738368 t) (hd : db.length ≤ 34359738368) (hdb : ∀ d ∈ db, bData 34359738368 d) (hv : vals.length ≤ 34359738368) (hv2 : ∀ v ∈ vals, bV 34359738368 v) :
    (InsF s db n vals rep).1.length ≤ 34359738368 ∧ (∀ x ∈ (InsF s db n vals rep).1, bData 34359738368 x) ∧ 1 + cntL cntData (InsF s db n vals rep).1 ≤ 34359738368 := by
  rw [InsF]
  split
  · rename_i h0
    rw [Bool.and_eq_true, Bool.and_eq_true] at h0
    obtain ⟨h1, h2, hf⟩ := h0
    have hs := schG (dbF_at h1).1 hb
    have hdg : DbG BI s db := dbB h1
    obtain ⟨h3, h4⟩ := isIn_at h2
    have hk : n.toNat < s.length := by omega
    rw [tabN_at hk] at hf ⊢
    have hl := (fitF_vals hf).1
    have hva := fitF_are hf (hs.tab _ (List.getElem_mem hk)).cols8
    have hdn := dbNext (dbB h1) hk
    have hi := insF_ok hs hk (rep := rep) (fillOk hs hk hl hva rep) hdn
    generalize insF (chgF s 12) s n.toNat (if rep then fillAux s[n.toNat] 0 vals else vals) rep db = q at hi ⊢
    rw [topI]
    split
    · rename_i hq
      exact fact_of hs (hi hq)
    · exact fact_of hs hdg
  · exact ⟨Nat.zero_le _, fun x hx => (by cases hx), by decide⟩
theorem heldS_orD {α : Type} {h : α → Int → Int} {c : α → Int} (hh : ∀ a k, h a k = -1 ∨ h a k = k + c a) : ∀ (xs : List α) (k : Int), heldS h xs k = -1 ∨ heldS h xs k = k + cntL c xs
  | [], k => by simp [heldS, cntL]
  | a :: r, k => by
    simp only [heldS, cntL]
    split
    · exact .inl rfl
    · rename_i h0
      rcases hh a k with h1 | h1
      · omega
      · rw [h1]
        rcases heldS_orD hh r (k + c a) with h2 | h2
        · exact .inl h2
        · right; rw [h2]; omega
theorem heldV_orD (v : Val) (k : Int) : heldV v k = -1 ∨ heldV v k = k + 3 := by
  simp only [heldV]
  split
  · exact .inr rfl
  · exact .inl rfl
def heldR (r : RowD) (k : Int) : Int := if r.id = k then heldS heldV r.vals (k + 1) else -1
def heldD (d : Data) (k : Int) : Int := heldS heldR d.rows k
theorem heldR_mark (r : RowD) (k : Int) (hk : 0 ≤ k) : heldR (markRowD r k) k = k + cntRowD r := by
  have h := heldS_mark (c := fun _ => 3) heldV_mark (fun _ => by decide) r.vals (k + 1) (by omega)
  rw [heldR, cntRowD]
  show (if k = k then heldS heldV (markL markV (fun _ => 3) r.vals (k + 1)) (k + 1) else -1) = _
  rw [if_pos rfl, h]
  omega
theorem heldR_or (r : RowD) (k : Int) : heldR r k = -1 ∨ heldR r k = k + cntRowD r := by
  rw [heldR, cntRowD]
  split
  · rcases heldS_orD (c := fun _ => 3) heldV_orD r.vals (k + 1) with h | h
    · exact .inl h
    · right
      rw [h]
      omega
  · exact .inl rfl
theorem heldD_mark (d : Data) (k : Int) (hk : 0 ≤ k) : heldD (markData d k) k = k + cntData d := by
  rw [heldD, cntData, Int.zero_add]
  exact heldS_mark heldR_mark cntRowD_nonneg d.rows k hk
theorem heldRowS_ok (xs : List RowD) (k : Int) (hx : xs.length ≤ 34359738368) (hkl : ∀ e ∈ xs, e.vals.length ≤ 34359738368) (hk0 : 0 ≤ k) (hk : k + cntL cntRowD xs ≤ 34359738368) : Pure Tryz.prog 61 [.c (.fz (xs.map encRowD)), .c (.int .i64 k)] (.c (.int .i64 (heldS heldR xs k))) := by
  refine Pure.run mixed c_laws_heldRowS_ok (Nat.le_of_ble_eq_true rfl) fun σ hS hA => ?_
  clear hS hA
  repeat' first|refine yaG ?_|(exfalso;omega)|(refine yaS ?_ ?_<;>intro _)
  refine Go.keep [0, 1, 5] (Go.loops (I := fun m fr τ => ∃ i : Nat, ∃ n l : Int, m = xs.length - i ∧ i ≤ xs.length ∧ n = i ∧ (0 ≤ l ∧ l + cntL cntRowD (xs.drop i) ≤ 34359738368 ∧ heldS heldR xs k = heldS heldR (xs.drop i) l) ∧
    fr = [(0, .c (.fz (xs.map encRowD))), (1, .c (.int .i64 l)), (5, .c (.int .i64 n))] ∧ τ = E σ []) ?_ _ _ _ ⟨0, _, _, rfl, Nat.zero_le _, rfl, ⟨hk0, by simpa using hk, rfl⟩, rfl, rfl⟩)
  rintro m fr τ ⟨i, n, l, rfl, hi, hn, ⟨hl0, hl, hsl⟩, rfl, rfl⟩ hrec
  by_cases hlt : i < xs.length
  · have hdr := List.drop_eq_getElem_cons hlt
    have hn0 := cntL_nonneg cntRowD_nonneg (xs.drop (i + 1))
    have hn1 := cntL_nonneg (c := fun _ : Val => 3) (fun _ => by decide) xs[i].vals
    rw [hdr] at hl
    simp only [cntL, cntRowD] at hl
    rw [hdr, heldS, heldR] at hsl
    have hor := heldS_orD (c := fun _ => 3) heldV_orD xs[i].vals (l + 1)
    have hc := heldValS_ok xs[i].vals (l + 1) (hkl _ (List.getElem_mem hlt)) (by omega) (by omega)
    have hw : IntKind.i64.wrap (l + 1) = l + 1 := wrap64 (by omega) (by omega)
    have hl2 : cntL cntRowD (xs.drop (i + 1)) + (l + 1 + cntL (fun _ => 3) xs[i].vals) ≤ 34359738368 := by
      have e : cntL cntRowD (xs.drop (i + 1)) = cntL cntRowD (xs.drop (i + 1)) := rfl
      omega
    generalize heldS heldV xs[i].vals (l + 1) = l1 at hc hor hsl
    rw [← hw] at hc
    by_cases h0 : xs[i].id = l
    · rw [if_pos h0] at hsl
      repeat' first|refine yaG ?_|((first|apply yG|apply yH|apply yI);exact rfl;(first|exact yX (enc := encRowD) rfl rfl hn hlt rfl))|refine yaC (hc) ?_|(exfalso;omega)|(refine yaS ?_ ?_<;>intro _)
      all_goals first
        | (exfalso; omega)
        | contradiction
        | skip
      · rename_i h1
        rw [if_pos h1] at hsl
        exact .ret rfl (.int hsl.symm)
      · rename_i h1
        rw [if_neg h1] at hsl
        exact Go.keep [0, 1, 5] (hrec _ _ _ (by omega) ⟨i + 1, _, _, rfl, hlt, wrap_succ hn (by omega), ⟨by omega, by omega, hsl⟩, rfl, rfl⟩)
    · rw [if_neg h0] at hsl
      repeat' first|refine yaG ?_|((first|apply yG|apply yH|apply yI);exact rfl;(first|exact yX (enc := encRowD) rfl rfl hn hlt rfl))|refine yaC (hc) ?_|(exfalso;omega)|(refine yaS ?_ ?_<;>intro _)
      all_goals first
        | (exfalso; omega)
        | contradiction
        | skip
      exact .ret rfl (.int hsl.symm)
  · repeat' first|refine yaG ?_|(exfalso;omega)|(refine yaS ?_ ?_<;>intro _)
    refine .ret rfl (.int ?_)
    rw [hsl, List.drop_eq_nil_of_le (by omega)]
    rfl
theorem heldDataS_ok (xs : List Data) (k : Int) (hx : xs.length ≤ 34359738368) (hkl : ∀ e ∈ xs, e.rows.length ≤ 34359738368 ∧ ∀ r ∈ e.rows, r.vals.length ≤ 34359738368) (hk0 : 0 ≤ k) (hk : k + cntL cntData xs ≤ 34359738368) : Pure Tryz.prog 18 [.c (.fz (xs.map encData)), .c (.int .i64 k)] (.c (.int .i64 (heldS heldD xs k))) := by
  refine Pure.run mixed c_laws_heldDataS_ok (Nat.le_of_ble_eq_true rfl) fun σ hS hA => ?_
  clear hS hA
  repeat' first|refine yaG ?_|(exfalso;omega)|(refine yaS ?_ ?_<;>intro _)
  refine Go.keep [0, 1, 5] (Go.loops (I := fun m fr τ => ∃ i : Nat, ∃ n l : Int, m = xs.length - i ∧ i ≤ xs.length ∧ n = i ∧ (0 ≤ l ∧ l + cntL cntData (xs.drop i) ≤ 34359738368 ∧ heldS heldD xs k = heldS heldD (xs.drop i) l) ∧
    fr = [(0, .c (.fz (xs.map encData))), (1, .c (.int .i64 l)), (5, .c (.int .i64 n))] ∧ τ = E σ []) ?_ _ _ _ ⟨0, _, _, rfl, Nat.zero_le _, rfl, ⟨hk0, by simpa using hk, rfl⟩, rfl, rfl⟩)
  rintro m fr τ ⟨i, n, l, rfl, hi, hn, ⟨hl0, hl, hsl⟩, rfl, rfl⟩ hrec
  by_cases hlt : i < xs.length
  · have hdr := List.drop_eq_getElem_cons hlt
    have hn0 := cntL_nonneg cntData_nonneg (xs.drop (i + 1))
    have hn1 := cntL_nonneg cntRowD_nonneg xs[i].rows
    rw [hdr] at hl
    simp only [cntL, cntData, Int.zero_add] at hl
    rw [hdr, heldS, heldD] at hsl
    have hor := heldS_orD heldR_or xs[i].rows l
    have hk1 := hkl _ (List.getElem_mem hlt)
    have hl2 : cntL cntData (xs.drop (i + 1)) + (l + cntL cntRowD xs[i].rows) ≤ 34359738368 := by
      have e : cntL cntData (xs.drop (i + 1)) = cntL (fun a => cntL cntRowD a.rows) (xs.drop (i + 1)) := by
        congr 1
        funext a
        exact Int.zero_add _
      omega
    have hc := heldRowS_ok xs[i].rows l hk1.1 hk1.2 hl0 (by omega)
    generalize heldS heldR xs[i].rows l = l1 at hc hor hsl
    repeat' first|refine yaG ?_|((first|apply yG|apply yH|apply yI);exact rfl;(first|exact yX (enc := encData) rfl rfl hn hlt rfl))|refine yaC (hc) ?_|(exfalso;omega)|(refine yaS ?_ ?_<;>intro _)
    · rename_i h1
      rw [if_pos h1] at hsl
      exact .ret rfl (.int hsl.symm)
    · rename_i h1
      rw [if_neg h1] at hsl
      exact Go.keep [0, 1, 5] (hrec _ _ _ (by omega) ⟨i + 1, _, _, rfl, hlt, wrap_succ hn (by omega), ⟨by omega, by omega, hsl⟩, rfl, rfl⟩)
  · repeat' first|refine yaG ?_|(exfalso;omega)|(refine yaS ?_ ?_<;>intro _)
    refine .ret rfl (.int ?_)
    rw [hsl, List.drop_eq_nil_of_le (by omega)]
    rfl
theorem markRowS_b : ∀ (ws : List RowD) (k : Int), (∀ x ∈ ws, bRowD 34359738368 x) → (∀ e ∈ markL markRowD cntRowD ws k, e.vals.length ≤ 34359738368) ∧ cntL cntRowD (markL markRowD cntRowD ws k) = cntL cntRowD ws
  | [], k, _ => ⟨fun e he => (by cases he), rfl⟩
  | a :: ws, k, h => by
    obtain ⟨i1, i2⟩ := markRowS_b ws (k + cntRowD a) fun x hx => h x (by simp [hx])
    have hml : (markRowD a k).vals.length = a.vals.length := markL_length
    refine ⟨fun e he => ?_, ?_⟩
    · rw [markL] at he
      rcases List.mem_cons.1 he with rfl | he
      · rw [hml]; exact (h a (by simp)).1
      · exact i1 e he
    · rw [markL, cntL, cntL, i2, cntRowD, cntRowD, cnt3, cnt3, hml]
theorem markDataS_b : ∀ (ws : List Data) (k : Int), (∀ x ∈ ws, bData 34359738368 x) → (∀ e ∈ markL markData cntData ws k, e.rows.length ≤ 34359738368 ∧ ∀ r ∈ e.rows, r.vals.length ≤ 34359738368) ∧ cntL cntData (markL markData cntData ws k) = cntL cntData ws
  | [], k, _ => ⟨fun e he => (by cases he), rfl⟩
  | a :: ws, k, h => by
    obtain ⟨i1, i2⟩ := markDataS_b ws (k + cntData a) fun x hx => h x (by simp [hx])
    have ha := h a (by simp)
    obtain ⟨j1, j2⟩ := markRowS_b a.rows k ha.2
    have hml : (markData a k).rows.length = a.rows.length := markL_length
    refine ⟨fun e he => ?_, ?_⟩
    · rw [markL] at he
      rcases List.mem_cons.1 he with rfl | he
      · exact ⟨by rw [hml]; exact ha.1, j1⟩
      · exact i1 e he
    · have e1 : cntData (markData a k) = cntData a := by
        rw [cntData, cntData]
        exact congrArg (0 + ·) j2
      rw [markL, cntL, cntL, i2, e1]
theorem heldDataS_at (ws : List Data) (w1 : ws.length ≤ 34359738368) (w2 : ∀ x ∈ ws, bData 34359738368 x) (w3 : 1 + cntL cntData ws ≤ 34359738368) : Pure Tryz.prog 18 [.c (.fz ((markL markData cntData ws 1).map encData)), .c (.int .i64 1)] (.c (.int .i64 (1 + cntL cntData ws))) := by
  obtain ⟨h2, h3⟩ := markDataS_b ws 1 w2
  have := heldDataS_ok (markL markData cntData ws 1) 1 (by rw [markL_length]; exact w1) h2 (by decide) (by rw [h3]; exact w3)
  rw [heldS_mark heldD_mark cntData_nonneg ws 1 (by decide)] at this
  exact this
theorem heldDataS_nn (ws : List Data) : 0 ≤ cntL cntData ws := cntL_nonneg cntData_nonneg ws
end Go.Proofs.YtmmgbgpglhbhcaaGreat.Am
namespace Go.Proofs.YtmmgbgpglhbhcaaGreat.Am
open Go.RowKit Go.ChangeShapes Go.WideShapes

section
variable {H : Type} {enc : TypeId × Value → H} {W : World}
theorem openV : Opens enc Tryz.prog W 114 encV LenV := 
  (Opens.struct (s := 3) Tryz.underlying114 (.cons (s := 1) rfl (.int Tryz.underlying2) rfl (fun _ => rfl) (.cons (s := 1) rfl (.int Tryz.underlying2) rfl (fun _ => rfl) (.cons (s := 1) rfl (.str Tryz.underlying9) rfl (fun _ => rfl) .nil))) (by kernel_rfl) (fun _ => rfl)).iso (fun p => Val.mk p.1 p.2.1 p.2.2.1) (fun _ => rfl) fun p h => Nat.le_trans h.2.2.1 (by decide)
theorem openVs : Opens enc Tryz.prog W 37 (fun l : List Val => [.fz (l.map encV)]) (fun l => l.length ≤ 140737488351232 ∧ ∀ v ∈ l, LenV v) :=
  (Opens.slice (s := 3) Tryz.underlying37 openV (by kernel_rfl) (by decide) (fun _ => rfl)).iso id (fun _ => rfl) fun l h => ⟨Nat.le_trans (Nat.le_mul_of_pos_right _ (of_decide_eq_true (by kernel_rfl))) h.1, h.2⟩
end
end Go.Proofs.YtmmgbgpglhbhcaaGreat.Am
namespace Go.Proofs.YtmmgbgpglhbhcaaGreat.Am
open Go.RowKit Go.ChangeShapes Go.WideShapes
section
variable {H : Type} {enc : TypeId × Value → H} {W : World}
theorem openIs : Opens enc Tryz.prog W 74 (fun l : List Int => [.fz (l.map encI)]) (fun l => l.length ≤ 140737488351232) :=
  (Opens.slice (s := 1) Tryz.underlying74 (.int Tryz.underlying2) (by kernel_rfl) (by decide) (fun _ => rfl)).iso id (fun _ => rfl) fun l h => Nat.le_trans (Nat.le_mul_of_pos_right _ (of_decide_eq_true (by kernel_rfl))) h.1
theorem openTok : Opens enc Tryz.prog W 210 encTok (bTok 1125899906842624) :=
  (Opens.struct (s := 5) Tryz.underlying210 (.cons (s := 1) rfl (.int Tryz.underlying2) rfl (fun _ => rfl) (.cons (s := 1) rfl (.int Tryz.underlying2) rfl (fun _ => rfl) (.cons (s := 3) rfl openV rfl (fun _ => rfl) .nil))) (by kernel_rfl) (fun _ => rfl)).iso (fun p => Tok.mk p.1 p.2.1 p.2.2.1) (fun _ => rfl) fun p h => h.2.2.1
theorem openToks : Opens enc Tryz.prog W 49 (fun l : List Tok => [.fz (l.map encTok)]) (fun l => l.length ≤ 140737488351232 ∧ ∀ v ∈ l, bTok 1125899906842624 v) :=
  (Opens.slice (s := 5) Tryz.underlying49 openTok (by kernel_rfl) (by decide) (fun _ => rfl)).iso id (fun _ => rfl) fun l h => ⟨Nat.le_trans (Nat.le_mul_of_pos_right _ (of_decide_eq_true (by kernel_rfl))) h.1, h.2⟩
theorem openChk : Opens enc Tryz.prog W 255 encChk (bChk 1125899906842624) :=
  (Opens.struct (s := 1) Tryz.underlying255 (.cons (s := 1) rfl openToks rfl (fun _ => rfl) .nil) (by kernel_rfl) (fun _ => rfl)).iso (fun p => Chk.mk p.1) (fun _ => rfl) fun p h => ⟨Nat.le_trans h.1.1 (by decide), h.1.2⟩
theorem openChks : Opens enc Tryz.prog W 76 (fun l : List Chk => [.fz (l.map encChk)]) (fun l => l.length ≤ 140737488351232 ∧ ∀ v ∈ l, bChk 1125899906842624 v) :=
  (Opens.slice (s := 1) Tryz.underlying76 openChk (by kernel_rfl) (by decide) (fun _ => rfl)).iso id (fun _ => rfl) fun l h => ⟨Nat.le_trans (Nat.le_mul_of_pos_right _ (of_decide_eq_true (by kernel_rfl))) h.1, h.2⟩
theorem openUniq : Opens enc Tryz.prog W 252 encUniq (bUniq 1125899906842624) :=
  (Opens.struct (s := 1) Tryz.underlying252 (.cons (s := 1) rfl openIs rfl (fun _ => rfl) .nil) (by kernel_rfl) (fun _ => rfl)).iso (fun p => Uniq.mk p.1) (fun _ => rfl) fun p h => Nat.le_trans h.1 (by decide)
theorem openUniqs : Opens enc Tryz.prog W 75 (fun l : List Uniq => [.fz (l.map encUniq)]) (fun l => l.length ≤ 140737488351232 ∧ ∀ v ∈ l, bUniq 1125899906842624 v) :=
  (Opens.slice (s := 1) Tryz.underlying75 openUniq (by kernel_rfl) (by decide) (fun _ => rfl)).iso id (fun _ => rfl) fun l h => ⟨Nat.le_trans (Nat.le_mul_of_pos_right _ (of_decide_eq_true (by kernel_rfl))) h.1, h.2⟩
theorem openFk : Opens enc Tryz.prog W 257 encFk (bFk 1125899906842624) :=
  (Opens.struct (s := 5) Tryz.underlying257 (.cons (s := 1) rfl openIs rfl (fun _ => rfl) (.cons (s := 1) rfl (.str Tryz.underlying9) rfl (fun _ => rfl) (.cons (s := 1) rfl (.int Tryz.underlying2) rfl (fun _ => rfl) (.cons (s := 1) rfl (.int Tryz.underlying2) rfl (fun _ => rfl) (.cons (s := 1) rfl (.bool Tryz.underlying4) rfl (fun _ => rfl) .nil))))) (by kernel_rfl) (fun _ => rfl)).iso (fun p => Fk.mk p.1 p.2.1 p.2.2.1 p.2.2.2.1 p.2.2.2.2.1) (fun _ => rfl) fun p h => ⟨Nat.le_trans h.1 (by decide), Nat.le_trans h.2.1 (by decide)⟩
theorem openFks : Opens enc Tryz.prog W 77 (fun l : List Fk => [.fz (l.map encFk)]) (fun l => l.length ≤ 140737488351232 ∧ ∀ v ∈ l, bFk 1125899906842624 v) :=
  (Opens.slice (s := 5) Tryz.underlying77 openFk (by kernel_rfl) (by decide) (fun _ => rfl)).iso id (fun _ => rfl) fun l h => ⟨Nat.le_trans (Nat.le_mul_of_pos_right _ (of_decide_eq_true (by kernel_rfl))) h.1, h.2⟩
theorem openCol : Opens enc Tryz.prog W 250 encCol (bCol 1125899906842624) :=
  (Opens.struct (s := 6) Tryz.underlying250 (.cons (s := 1) rfl (.str Tryz.underlying9) rfl (fun _ => rfl) (.cons (s := 1) rfl (.int Tryz.underlying2) rfl (fun _ => rfl) (.cons (s := 1) rfl (.bool Tryz.underlying4) rfl (fun _ => rfl) (.cons (s := 3) rfl openV rfl (fun _ => rfl) .nil)))) (by kernel_rfl) (fun _ => rfl)).iso (fun p => Col.mk p.1 p.2.1 p.2.2.1 p.2.2.2.1) (fun _ => rfl) fun p h => ⟨Nat.le_trans h.1 (by decide), h.2.2.2.1⟩
theorem openCols : Opens enc Tryz.prog W 73 (fun l : List Col => [.fz (l.map encCol)]) (fun l => l.length ≤ 140737488351232 ∧ ∀ v ∈ l, bCol 1125899906842624 v) :=
  (Opens.slice (s := 6) Tryz.underlying73 openCol (by kernel_rfl) (by decide) (fun _ => rfl)).iso id (fun _ => rfl) fun l h => ⟨Nat.le_trans (Nat.le_mul_of_pos_right _ (of_decide_eq_true (by kernel_rfl))) h.1, h.2⟩
theorem openTable : Opens enc Tryz.prog W 79 encTable (bTable 1125899906842624) :=
  (Opens.struct (s := 6) Tryz.underlying79 (.cons (s := 1) rfl (.str Tryz.underlying9) rfl (fun _ => rfl) (.cons (s := 1) rfl openCols rfl (fun _ => rfl) (.cons (s := 1) rfl openIs rfl (fun _ => rfl) (.cons (s := 1) rfl openUniqs rfl (fun _ => rfl) (.cons (s := 1) rfl openChks rfl (fun _ => rfl) (.cons (s := 1) rfl openFks rfl (fun _ => rfl) .nil)))))) (by kernel_rfl) (fun _ => rfl)).iso (fun p => Table.mk p.1 p.2.1 p.2.2.1 p.2.2.2.1 p.2.2.2.2.1 p.2.2.2.2.2.1) (fun _ => rfl) fun p h => ⟨Nat.le_trans h.1 (by decide), ⟨Nat.le_trans h.2.1.1 (by decide), h.2.1.2⟩, Nat.le_trans h.2.2.1 (by decide), ⟨Nat.le_trans h.2.2.2.1.1 (by decide), h.2.2.2.1.2⟩, ⟨Nat.le_trans h.2.2.2.2.1.1 (by decide), h.2.2.2.2.1.2⟩, ⟨Nat.le_trans h.2.2.2.2.2.1.1 (by decide), h.2.2.2.2.2.1.2⟩⟩
theorem openTables : Opens enc Tryz.prog W 22 (fun l : List Table => [.fz (l.map encTable)]) (fun l => l.length ≤ 140737488351232 ∧ ∀ v ∈ l, bTable 1125899906842624 v) :=
  (Opens.slice (s := 6) Tryz.underlying22 openTable (by kernel_rfl) (by decide) (fun _ => rfl)).iso id (fun _ => rfl) fun l h => ⟨Nat.le_trans (Nat.le_mul_of_pos_right _ (of_decide_eq_true (by kernel_rfl))) h.1, h.2⟩
theorem openRowD : Opens enc Tryz.prog W 207 encRowD (bRowD 1125899906842624) :=
  (Opens.struct (s := 2) Tryz.underlying207 (.cons (s := 1) rfl (.int Tryz.underlying2) rfl (fun _ => rfl) (.cons (s := 1) rfl openVs rfl (fun _ => rfl) .nil)) (by kernel_rfl) (fun _ => rfl)).iso (fun p => RowD.mk p.1 p.2.1) (fun _ => rfl) fun p h => ⟨Nat.le_trans h.2.1.1 (by decide), h.2.1.2⟩
theorem openRowDs : Opens enc Tryz.prog W 48 (fun l : List RowD => [.fz (l.map encRowD)]) (fun l => l.length ≤ 140737488351232 ∧ ∀ v ∈ l, bRowD 1125899906842624 v) :=
  (Opens.slice (s := 2) Tryz.underlying48 openRowD (by kernel_rfl) (by decide) (fun _ => rfl)).iso id (fun _ => rfl) fun l h => ⟨Nat.le_trans (Nat.le_mul_of_pos_right _ (of_decide_eq_true (by kernel_rfl))) h.1, h.2⟩
end
end Go.Proofs.YtmmgbgpglhbhcaaGreat.Am
namespace Go.Proofs.YtmmgbgpglhbhcaaGreat.Am
open Go.RowKit Go.ChangeShapes Go.WideShapes
section
variable {H : Type} {enc : TypeId × Value → H} {W : World}
theorem openData : Opens enc Tryz.prog W 82 encData (bData 1125899906842624) :=
  (Opens.struct (s := 1) Tryz.underlying82 (.cons (s := 1) rfl openRowDs rfl (fun _ => rfl) .nil) (by kernel_rfl) (fun _ => rfl)).iso (fun p => Data.mk p.1) (fun _ => rfl) fun p h => ⟨Nat.le_trans h.1.1 (by decide), h.1.2⟩
theorem openDatas : Opens enc Tryz.prog W 23 (fun l : List Data => [.fz (l.map encData)]) (fun l => l.length ≤ 140737488351232 ∧ ∀ v ∈ l, bData 1125899906842624 v) :=
  (Opens.slice (s := 1) Tryz.underlying23 openData (by kernel_rfl) (by decide) (fun _ => rfl)).iso id (fun _ => rfl) fun l h => ⟨Nat.le_trans (Nat.le_mul_of_pos_right _ (of_decide_eq_true (by kernel_rfl))) h.1, h.2⟩
end
end Go.Proofs.YtmmgbgpglhbhcaaGreat.Am
