/- Joined texts: S5, S6, S7, S9, K4, D1, M0, M1, M3, M2, N0, D2, G1, G2, G3, G4, G5, G6, J1, J2, J3, H0, Y5, Y6, Y7, Y8, I1, O10, F13, O11, T1, T2, T3, O12. -/
import Derived.KernelRfl
import Derived.Test.YtdgnfdljkghpjaaGreatU1
import Derived.Test.YtdgnfdljkghpjaaGreatU2
import Derived.Test.YtdgnfdljkghpjaaGreatU3
import Derived.Test.YtdgnfdljkghpjaaGreatU4
import Derived.Test.YtdgnfdljkghpjaaGreatU5
/- Schemas, as the program sees them. -/
set_option linter.unusedVariables false
set_option linter.unusedSimpArgs false
namespace Go.Proofs.YtdgnfdljkghpjaaGreat.Am

theorem idxA_at {α : Type} {p : α → Bool} : ∀ {l : List α} {i : Int}, 0 ≤ i → idxA p l i = -1 ∨ ∃ n : Nat, ∃ h : n < l.length, idxA p l i = i + n ∧ p l[n] = true
  | [], i, h => .inl rfl
  | a :: r, i, h => by
    simp only [idxA]
    split
    · exact .inr ⟨0, by simp, by simp, by assumption⟩
    · rcases idxA_at (p := p) (l := r) (i := i + 1) (by omega) with h1 | ⟨n, hn, h1, h2⟩
      · exact .inl h1
      · exact .inr ⟨n + 1, by simpa using hn, by omega, by simpa using h2⟩
theorem TableAt1_ok (t : Table) (s : List UInt8) : Pure Tryz.prog 225 [.agg (encTable t), .c (.fp [.str s])] (.c (.bool (t.name == s))) := by
  refine Pure.run mixed c_impl_TableAt_1_ok (Nat.le_of_ble_eq_true rfl) fun σ hS hA => ?_
  clear hS hA
  repeat' first|refine yaG ?_|(exfalso;omega)|(refine yaS ?_ ?_<;>intro _)
  all_goals refine .ret rfl (.bool ?_)
  all_goals simp_all
theorem TableAt_ok (l : List Table) (s : List UInt8) (hx : l.length ≤ 34359738368) : Pure Tryz.prog 182 [.c (.fz (l.map encTable)), .c (.str s)] (.c (.int .i64 (idxA (fun t => t.name == s) l 0))) := by
  refine Pure.run mixed c_impl_TableAt_ok (Nat.le_of_ble_eq_true rfl) fun σ hS hA => ?_
  clear hS hA
  repeat' first|refine yaG ?_|((first|apply yQ|apply yR|apply yS);(iterate 3 exact rfl);exact indexFuncA_ok mixed c_slices_IndexFunc_Table_ok encTable (fun t => .agg (encTable t)) (fun _ => rfl) (fun _ => rfl) l (fun t => t.name == s) _ [] [.fp [.str s]] hx (fun j hj _ => TableAt1_ok _ _))|(exfalso;omega)|(refine yaS ?_ ?_<;>intro _)
  exact .ret rfl (.int rfl)
def kindAt (t : Table) (c : Int) : Int := match t.cols[c.toNat]? with | some x => x.kind | none => 0
def kindsEq (u t : Table) : List Int → List Int → Bool
  | a :: r, c :: q => kindAt u a == kindAt t c && kindsEq u t r q
  | _, _ => true
def metAt (u t : Table) (f : Fk) : Bool := decide (u.key.length = f.cols.length) && kindsEq u t u.key f.cols
def metF (s : List Table) (t : Table) (f : Fk) : Bool := s.any (fun u => u.name == f.table) && (match s[(idxA (fun u => u.name == f.table) s 0).toNat]? with | some u => metAt u t f | none => false)
theorem kindAt_at {t : Table} {c : Int} {n : Nat} (h : c = n) (hn : n < t.cols.length) : kindAt t c = t.cols[n].kind := by
  simp [kindAt, h, hn]
theorem metF_no {s : List Table} {t : Table} {f : Fk} (h : idxA (fun u => u.name == f.table) s 0 = -1) : metF s t f = false := by
  have := any_idx (p := fun u : Table => u.name == f.table) (l := s)
  rw [h] at this
  rw [metF, ← this]
  rfl
theorem metF_yes {s : List Table} {t : Table} {f : Fk} {n : Nat} (h : idxA (fun u => u.name == f.table) s 0 = n) (hn : n < s.length) : metF s t f = metAt s[n] t f := by
  have := any_idx (p := fun u : Table => u.name == f.table) (l := s)
  rw [h] at this
  rw [metF, ← this, h, decide_eq_true (by omega)]
  simp [hn]
theorem isMet_ok (s : List Table) (t : Table) (f : Fk) (hx : s.length ≤ 34359738368) (hs : ∀ u ∈ s, u.key.length ≤ 34359738368 ∧ ∀ c ∈ u.key, 0 ≤ c ∧ c < u.cols.length) (hf0 : f.cols.length ≤ 34359738368) (hf : ∀ c ∈ f.cols, 0 ≤ c ∧ c < t.cols.length) : Pure Tryz.prog 187 [.c (.fz (s.map encTable)), .agg (encTable t), .agg (encFk f)] (.c (.bool (metF s t f))) := by
  refine Pure.run mixed c_impl_isMet_ok (Nat.le_of_ble_eq_true rfl) fun σ hS hA => ?_
  clear hS hA
  repeat' first|refine yaG ?_|fail
  refine .pcall rfl rfl rfl (TableAt_ok s f.table hx) ?_
  rcases idxA_at (p := fun u : Table => u.name == f.table) (l := s) (i := 0) (Int.le_refl _) with hq | ⟨n, hn, hq, hp⟩
  · have hm := metF_no (t := t) hq
    rw [hq]
    repeat' first|refine yaG ?_|(exfalso;omega)|(refine yaS ?_ ?_<;>intro _)
    exact .ret rfl (.bool hm.symm)
  rw [Int.zero_add] at hq
  have hm := metF_yes (t := t) hq hn
  have hsn := hs _ (List.getElem_mem hn)
  rw [hq]
  have hnz : ¬ ((n : Int) < 0) := by omega
  repeat' first|refine yaG ?_|((first|apply yG|apply yH|apply yI);exact rfl;(first|exact yX (enc := encTable) rfl rfl rfl hn rfl))|(exfalso;omega)|(refine yaS ?_ ?_<;>intro _)
  · refine .ret rfl (.bool ?_)
    rename_i h
    rw [hm, metAt, decide_eq_false (by omega)]
    rfl
  rename_i hlen
  refine Go.keep [0, 4, 7, 29, 30, 31] (Go.loops (I := fun m fr τ => ∃ i : Nat, ∃ k : Int, m = f.cols.length - i ∧ i ≤ f.cols.length ∧ k = i ∧ kindsEq s[n] t s[n].key f.cols = kindsEq s[n] t (s[n].key.drop i) (f.cols.drop i) ∧
    fr = [(0, .c (.fz (s.map encTable))), (4, .c (.fp (encTable t))), (7, .c (.int .i64 (n : Int))), (29, .c (.fz (f.cols.map encI))), (30, .c (.int .i64 (f.cols.length : Int))), (31, .c (.int .i64 k))] ∧ τ = E σ []) ?_ _ _ _ ⟨0, _, rfl, Nat.zero_le _, rfl, rfl, rfl, rfl⟩)
  rintro m fr τ ⟨i, k, rfl, hi, hk, hsl, rfl, rfl⟩ hrec
  by_cases hlt : i < f.cols.length
  · have hlt2 : i < s[n].key.length := by omega
    have h1 := hsn.2 _ (List.getElem_mem hlt2)
    have h2 := hf _ (List.getElem_mem hlt)
    obtain ⟨a, ha⟩ : ∃ a : Nat, s[n].key[i] = a := ⟨s[n].key[i].toNat, by omega⟩
    obtain ⟨c, hc⟩ : ∃ c : Nat, f.cols[i] = c := ⟨f.cols[i].toNat, by omega⟩
    have ha2 : a < s[n].cols.length := by omega
    have hc2 : c < t.cols.length := by omega
    have e1 := kindAt_at ha ha2
    have e2 := kindAt_at hc hc2
    have hstep : kindsEq s[n] t s[n].key f.cols = (s[n].cols[a].kind == t.cols[c].kind && kindsEq s[n] t (s[n].key.drop (i + 1)) (f.cols.drop (i + 1))) := by
      rw [hsl, List.drop_eq_getElem_cons hlt, List.drop_eq_getElem_cons hlt2, kindsEq, e1, e2]
    repeat' first|refine yaG ?_|((first|apply yG|apply yH|apply yI);exact rfl;(first|exact yX (enc := encI) rfl rfl hk hlt rfl|exact yX (enc := encTable) rfl rfl rfl hn rfl|exact yX (enc := encI) rfl rfl hk hlt2 rfl|exact yX (enc := encCol) rfl rfl ha ha2 rfl|exact yX (enc := encCol) rfl rfl hc hc2 rfl))|(exfalso;omega)|(refine yaS ?_ ?_<;>intro _)
    · refine .ret rfl (.bool ?_)
      rename_i h
      rw [hm, metAt, hstep, beq_eq_false_iff_ne.2 h]
      simp
    · rename_i h
      refine Go.keep [0, 4, 7, 29, 30, 31] (hrec _ _ _ (by omega) ⟨i + 1, _, rfl, hlt, wrap_succ hk (by omega), ?_, rfl, rfl⟩)
      rw [hstep, h]
      simp
  · repeat' first|refine yaG ?_|(exfalso;omega)|(refine yaS ?_ ?_<;>intro _)
    refine .ret rfl (.bool ?_)
    rw [hm, metAt, hsl, List.drop_eq_nil_of_le (by omega), decide_eq_true (by omega)]
    cases s[n].key.drop i <;> rfl
def namesAux : List Table → List Table → Bool
  | _, [] => true
  | pre, t :: r => tableF t && !(pre.any fun u => u.name == t.name) && namesAux (pre ++ [t]) r
def schemaF (s : List Table) : Bool := decide ((s.length : Int) ≤ 5) && (namesAux [] s && !(s.any fun t => t.fks.any fun f => !metF s t f))
theorem namesAux_ok : ∀ {l pre : List Table}, namesAux pre l = true → ∀ t ∈ l, tableF t = true
  | [], _, _, t, h => by simp at h
  | a :: r, pre, h, t, ht => by
    simp only [namesAux, Bool.and_eq_true] at h
    rcases List.mem_cons.1 ht with rfl | ht
    · exact h.1.1
    · exact namesAux_ok h.2 t ht
theorem tableF_key {t : Table} (h : tableF t = true) : ∀ c ∈ t.key, 0 ≤ c ∧ c < t.cols.length := colsF_in (tableF_iff.1 h).2.2.1
theorem tableF_fk {t : Table} (h : tableF t = true) {f : Fk} (hf : f ∈ t.fks) : ∀ c ∈ f.cols, 0 ≤ c ∧ c < t.cols.length := by
  have h1 := (tableF_iff.1 h).2.2.2.2.2.2.2.2.2.2
  rw [List.any_eq_false] at h1
  have := h1 f hf
  simp only [Bool.not_eq_true', Bool.not_eq_false, isFkF, Bool.and_eq_true] at this
  exact colsF_in this.1
theorem SchemaOk11_ok (s : List Table) (t : Table) (f : Fk) (hx : s.length ≤ 34359738368) (hs : ∀ u ∈ s, u.key.length ≤ 34359738368 ∧ ∀ c ∈ u.key, 0 ≤ c ∧ c < u.cols.length) (hf0 : f.cols.length ≤ 34359738368) (hf : ∀ c ∈ f.cols, 0 ≤ c ∧ c < t.cols.length) : Pure Tryz.prog 186 [.agg (encFk f), .c (.fp [.fz (s.map encTable)]), .c (.fp (encTable t))] (.c (.bool (!metF s t f))) := by
  refine Pure.run mixed c_impl_SchemaOk_1_1_ok (Nat.le_of_ble_eq_true rfl) fun σ hS hA => ?_
  clear hS hA
  repeat' first|refine yaG ?_|refine yaC (isMet_ok s t f hx hs hf0 hf) ?_|(exfalso;omega)|(refine yaS ?_ ?_<;>intro _)
  exact .ret rfl (.bool rfl)
theorem SchemaOk1_ok (s : List Table) (t : Table) (hx : s.length ≤ 34359738368) (hs : ∀ u ∈ s, u.key.length ≤ 34359738368 ∧ ∀ c ∈ u.key, 0 ≤ c ∧ c < u.cols.length) (hb : bTable 34359738368 t) (hf : ∀ f ∈ t.fks, ∀ c ∈ f.cols, 0 ≤ c ∧ c < t.cols.length) : Pure Tryz.prog 184 [.agg (encTable t), .c (.fp [.fz (s.map encTable)])] (.c (.bool (t.fks.any fun f => !metF s t f))) := by
  refine Pure.run mixed c_impl_SchemaOk_1_ok (Nat.le_of_ble_eq_true rfl) fun σ hS hA => ?_
  clear hS hA
  have b6 := hb.2.2.2.2.2
  repeat' first|refine yaG ?_|((first|apply yQ|apply yR|apply yS);(iterate 3 exact rfl);exact containsFuncA_ok mixed c_slices_ContainsFunc_Fk_ok c_slices_IndexFunc_Fk_ok encFk (fun u => .agg (encFk u)) (fun _ => rfl) (fun _ => rfl) t.fks (fun f => !metF s t f) _ [] [.fp [.fz (s.map encTable)], .fp (encTable t)] b6.1 (fun j hj _ => SchemaOk11_ok s t _ hx hs (b6.2 _ (List.getElem_mem hj)).1 (hf _ (List.getElem_mem hj))))|(exfalso;omega)|(refine yaS ?_ ?_<;>intro _)
  exact .ret rfl (.bool rfl)
theorem encTable_len {l : List Table} : ∀ e ∈ l.map encTable, e.length = 6 := fun e he => by
  obtain ⟨t, _, rfl⟩ := List.mem_map.1 he
  rfl
theorem SchemaOk_ok (s : List Table) (hx : s.length ≤ 34359738368) (hb : ∀ t ∈ s, bTable 34359738368 t) : Pure Tryz.prog 140 [.c (.fz (s.map encTable))] (.c (.bool (schemaF s))) := by
  refine Pure.run mixed c_impl_SchemaOk_ok (Nat.le_of_ble_eq_true rfl) fun σ hS hA => ?_
  clear hS hA
  repeat' first|refine yaG ?_|(exfalso;omega)|(refine yaS ?_ ?_<;>intro _)
  · refine .ret rfl (.bool ?_)
    rw [schemaF, decide_eq_false (by omega)]
    rfl
  rename_i h5
  refine Go.keep [1, 8, 9, 10] (Go.loops (I := fun m fr τ => ∃ i : Nat, ∃ k : Int, m = s.length - i ∧ i ≤ s.length ∧ k = i ∧ namesAux [] s = namesAux (s.take i) (s.drop i) ∧
    fr = [(1, .c (.fp [.fz (s.map encTable)])), (8, .c (.fz (s.map encTable))), (9, .c (.int .i64 (s.length : Int))), (10, .c (.int .i64 k))] ∧ τ = E σ []) ?_ _ _ _ ⟨0, _, rfl, Nat.zero_le _, rfl, rfl, rfl, rfl⟩)
  rintro m fr τ ⟨i, k, rfl, hi, hk, hsl, rfl, rfl⟩ hrec
  by_cases hlt : i < s.length
  · have hd := List.drop_eq_getElem_cons hlt
    have htk : (s.map encTable).take i = (s.take i).map encTable := List.map_take.symm
    have hstep : namesAux [] s = (tableF s[i] && !((s.take i).any fun d => d.name == s[i].name) && namesAux (s.take (i + 1)) (s.drop (i + 1))) := by
      rw [hsl, hd, namesAux, List.take_succ_eq_append_getElem hlt]
    have neg : (tableF s[i] = false ∨ ((s.take i).any fun d => d.name == s[i].name) = true) → schemaF s = false := by
      rintro (h | h)
      · rw [schemaF, hstep, h]; simp
      · rw [schemaF, hstep, h]; simp
    have hany := any_idx (p := fun d : Table => d.name == s[i].name) (l := s.take i)
    repeat' first|refine yaG ?_|((first|apply yG|apply yH|apply yI);exact rfl;(first|exact yX (enc := encTable) rfl rfl hk hlt rfl|exact aop_sliceF (n := i) rfl rfl hk (by simp;omega) encTable_len))|((first|apply Go.pcallB|apply Go.spcallB|apply Qg.pcallB);(iterate 3 exact rfl);exact TableOk_ok s[i] (hb _ (List.getElem_mem hlt));intro _ _)|(exfalso;omega)|(refine yaS ?_ ?_<;>intro _)
    · rename_i c p q
      exact .ret rfl (.bool (neg (.inl (nbT p q))).symm)
    rename_i c p q
    rw [htk]
    repeat' first|refine yaG ?_|((first|apply Go.pcallI|apply Go.spcallI|apply Qg.pcallI);(iterate 3 exact rfl);exact TableAt_ok (s.take i) s[i].name (by simp;omega);intro _ _)|(exfalso;omega)|(refine yaS ?_ ?_<;>intro _)
    · rename_i z hz hz2
      refine .ret rfl (.bool (neg (.inr ?_)).symm)
      rw [← hany, hz]
      simpa using hz2
    · rename_i z hz hz2
      refine Go.keep [1, 8, 9, 10] (hrec _ _ _ (by omega) ⟨i + 1, _, rfl, hlt, wrap_succ hk (by omega), ?_, rfl, rfl⟩)
      rw [hstep, nbF p q, ← hany, hz, decide_eq_false (by omega)]
      rfl
  have hfin : namesAux [] s = true := by
    rw [hsl, List.drop_eq_nil_of_le (by omega)]
    rfl
  have hok := namesAux_ok hfin
  clear hrec hsl
  repeat' first|refine yaG ?_|((first|apply yQ|apply yR|apply yS);(iterate 3 exact rfl);exact containsFuncA_ok mixed c_slices_ContainsFunc_Table_ok c_slices_IndexFunc_Table_ok encTable (fun u => .agg (encTable u)) (fun _ => rfl) (fun _ => rfl) s (fun t => t.fks.any fun f => !metF s t f) _ [] [.fp [.fz (s.map encTable)]] hx (fun j hj _ => SchemaOk1_ok s _ hx (fun u hu => ⟨(hb u hu).2.2.1, tableF_key (hok u hu)⟩) (hb _ (List.getElem_mem hj)) (fun f hf => tableF_fk (hok _ (List.getElem_mem hj)) hf)))|(exfalso;omega)|(refine yaS ?_ ?_<;>intro _)
  refine .ret rfl (.bool ?_)
  rw [schemaF, hfin, decide_eq_true (by omega)]
  rfl
end Go.Proofs.YtdgnfdljkghpjaaGreat.Am

/- Schemas, as the reference sees them. -/
set_option linter.unusedVariables false
set_option linter.unusedSimpArgs false
namespace Go.Proofs.YtdgnfdljkghpjaaGreat.Am

theorem schemaF_not {s : List Table} (h : schemaF s = true → False) : schemaF s = false := by
  cases c : schemaF s
  · rfl
  · exact (h c).elim
theorem schemaF_iff {s : List Table} : schemaF s = true ↔ (s.length : Int) ≤ 5 ∧ namesAux [] s = true ∧ (s.any fun t => t.fks.any fun f => !metF s t f) = false := by
  simp only [schemaF, Bool.and_eq_true, decide_eq_true_eq, Bool.not_eq_true']
theorem sSchemaOk_ok (s : List Table) (hx : s.length ≤ 34359738368) (hb : ∀ t ∈ s, bTable 34359738368 t) : Pure Tryz.prog 177 [.c (.fz (s.map encTable))] (.c (.bool (schemaF s))) := by
  refine Pure.run mixed c_spec_SchemaOk_ok (Nat.le_of_ble_eq_true rfl) fun σ hS hA => ?_
  clear hS hA
  repeat' first|refine yaG ?_|(exfalso;omega)|(refine yaS ?_ ?_<;>intro _)
  refine Go.keep [0, 3] (Go.loops (I := fun m fr τ => ∃ i : Nat, ∃ k : Int, m = s.length - i ∧ i ≤ s.length ∧ k = i ∧ namesAux [] s = namesAux (s.take i) (s.drop i) ∧
    fr = [(0, .c (.fz (s.map encTable))), (3, .c (.int .i64 k))] ∧ τ = E σ []) ?_ _ _ _ ⟨0, _, rfl, Nat.zero_le _, rfl, rfl, rfl, rfl⟩)
  rintro m fr τ ⟨i, k, rfl, hi, hk, hsl, rfl, rfl⟩ hrec
  by_cases hlt : i < s.length
  · have hd := List.drop_eq_getElem_cons hlt
    have htk : (s.map encTable).take i = (s.take i).map encTable := List.map_take.symm
    have hstep : namesAux [] s = (tableF s[i] && !((s.take i).any fun d => d.name == s[i].name) && namesAux (s.take (i + 1)) (s.drop (i + 1))) := by
      rw [hsl, hd, namesAux, List.take_succ_eq_append_getElem hlt]
    have neg : (tableF s[i] = false ∨ ((s.take i).any fun d => d.name == s[i].name) = true) → schemaF s = false := by
      rintro (h | h)
      · rw [schemaF, hstep, h]; simp
      · rw [schemaF, hstep, h]; simp
    have hany := any_idx (p := fun d : Table => d.name == s[i].name) (l := s.take i)
    repeat' first|refine yaG ?_|((first|apply yG|apply yH|apply yI);exact rfl;(first|exact yX (enc := encTable) rfl rfl hk hlt rfl|exact aop_sliceF (n := i) rfl rfl hk (by simp;omega) encTable_len))|((first|apply Go.pcallB|apply Go.spcallB|apply Qg.pcallB);(iterate 3 exact rfl);exact sTableOk_ok s[i] (hb _ (List.getElem_mem hlt));intro _ _)|(exfalso;omega)|(refine yaS ?_ ?_<;>intro _)
    · rename_i c p q
      exact .ret rfl (.bool (neg (.inl (nbT p q))).symm)
    rename_i c p q
    rw [htk]
    repeat' first|refine yaG ?_|((first|apply Go.pcallI|apply Go.spcallI|apply Qg.pcallI);(iterate 3 exact rfl);exact l3At_ok (s.take i) s[i].name (by simp;omega);intro _ _)|(exfalso;omega)|(refine yaS ?_ ?_<;>intro _)
    · rename_i z hz hz2
      refine .ret rfl (.bool (neg (.inr ?_)).symm)
      rw [← hany, hz]
      simpa using hz2
    · rename_i z hz hz2
      refine Go.keep [0, 3] (hrec _ _ _ (by omega) ⟨i + 1, _, rfl, hlt, wrap_succ hk (by omega), ?_, rfl, rfl⟩)
      rw [hstep, nbF p q, ← hany, hz, decide_eq_false (by omega)]
      rfl
  have hfin : namesAux [] s = true := by
    rw [hsl, List.drop_eq_nil_of_le (by omega)]
    rfl
  have hok := namesAux_ok hfin
  clear hrec hsl
  repeat' first|refine yaG ?_|(exfalso;omega)|(refine yaS ?_ ?_<;>intro _)
  clear hlt hk hi
  -- the references
  refine Go.keep [0, 4] (Go.loops (I := fun m fr τ => ∃ i : Nat, ∃ k : Int, m = s.length - i ∧ i ≤ s.length ∧ k = i ∧ (∀ j (hj : j < s.length), j < i → (!(s[j].fks.any fun f => !metF s s[j] f)) = true) ∧
    fr = [(0, .c (.fz (s.map encTable))), (4, .c (.int .i64 k))] ∧ τ = E σ []) ?_ _ _ _ ⟨0, _, rfl, Nat.zero_le _, rfl, fun j _ h => absurd h (by omega), rfl, rfl⟩)
  rintro m fr τ ⟨i, k, rfl, hi, hk, hall, rfl, rfl⟩ hrec
  by_cases hlt : i < s.length
  · have hmem := List.getElem_mem hlt
    have hti := hok _ hmem
    have b6 := (hb _ hmem).2.2.2.2.2
    repeat' first|refine yaG ?_|(exfalso;omega)|(refine yaS ?_ ?_<;>intro _)
    refine Go.keep [0, 4, 5] (Go.loops (I := fun m fr τ => ∃ i2 : Nat, ∃ k2 : Int, m = s[i].fks.length - i2 ∧ i2 ≤ s[i].fks.length ∧ k2 = i2 ∧ (∀ j (hj : j < s[i].fks.length), j < i2 → metF s s[i] s[i].fks[j] = true) ∧
      fr = [(0, .c (.fz (s.map encTable))), (4, .c (.int .i64 k)), (5, .c (.int .i64 k2))] ∧ τ = E σ []) ?_ _ _ _ ⟨0, _, rfl, Nat.zero_le _, rfl, fun j _ h => absurd h (by omega), rfl, rfl⟩)
    rintro m fr τ ⟨i2, k2, rfl, hi2, hk2, hall2, rfl, rfl⟩ hrec2
    by_cases hlt2 : i2 < s[i].fks.length
    · have hfm := List.getElem_mem hlt2
      have hf := tableF_fk hti hfm
      have hf0 := (b6.2 _ hfm).1
      have neg : metF s s[i] s[i].fks[i2] = false → schemaF s = false := fun h => schemaF_not fun hh => by
        have h2 := (schemaF_iff.1 hh).2.2
        rw [List.any_eq_false] at h2
        exact h2 _ hmem (List.any_eq_true.2 ⟨_, hfm, by rw [h]; rfl⟩)
      repeat' first|refine yaG ?_|((first|apply yG|apply yH|apply yI);exact rfl;(first|exact yX (enc := encTable) rfl rfl hk hlt rfl|exact yX (enc := encFk) rfl rfl hk2 hlt2 rfl))|(exfalso;omega)|(refine yaS ?_ ?_<;>intro _)
      refine .pcall rfl rfl rfl (l3At_ok s s[i].fks[i2].table hx) ?_
      rcases idxA_at (p := fun u : Table => u.name == s[i].fks[i2].table) (l := s) (i := 0) (Int.le_refl _) with hq | ⟨n, hn, hq, hp⟩
      · have hm := metF_no (t := s[i]) hq
        rw [hq]
        repeat' first|refine yaG ?_|(exfalso;omega)|(refine yaS ?_ ?_<;>intro _)
        exact .ret rfl (.bool (neg hm).symm)
      rw [Int.zero_add] at hq
      have hm := metF_yes (t := s[i]) hq hn
      have hsk := tableF_key (hok _ (List.getElem_mem hn))
      rw [hq]
      have hnz : ¬ ((n : Int) < 0) := by omega
      repeat' first|refine yaG ?_|((first|apply yG|apply yH|apply yI);exact rfl;(first|exact yX (enc := encTable) rfl rfl rfl hn rfl))|(exfalso;omega)|(refine yaS ?_ ?_<;>intro _)
      · rename_i h
        refine .ret rfl (.bool (neg ?_).symm)
        rw [hm, metAt, decide_eq_false (by omega)]
        rfl
      rename_i hlen
      refine Go.keep [0, 4, 5, 6, 7, 8] (Go.loops (I := fun m fr τ => ∃ i3 : Nat, ∃ k3 : Int, m = s[i].fks[i2].cols.length - i3 ∧ i3 ≤ s[i].fks[i2].cols.length ∧ k3 = i3 ∧ kindsEq s[n] s[i] s[n].key s[i].fks[i2].cols = kindsEq s[n] s[i] (s[n].key.drop i3) (s[i].fks[i2].cols.drop i3) ∧
        fr = [(0, .c (.fz (s.map encTable))), (4, .c (.int .i64 k)), (5, .c (.int .i64 k2)), (6, .c (.fp (encFk s[i].fks[i2]))), (7, .c (.int .i64 (n : Int))), (8, .c (.int .i64 k3))] ∧ τ = E σ []) ?_ _ _ _ ⟨0, _, rfl, Nat.zero_le _, rfl, rfl, rfl, rfl⟩)
      rintro m fr τ ⟨i3, k3, rfl, hi3, hk3, hsl, rfl, rfl⟩ hrec3
      by_cases hlt3 : i3 < s[i].fks[i2].cols.length
      · have hlt4 : i3 < s[n].key.length := by omega
        have h1 := hsk _ (List.getElem_mem hlt4)
        have h2 := hf _ (List.getElem_mem hlt3)
        obtain ⟨a, ha⟩ : ∃ a : Nat, s[n].key[i3] = a := ⟨s[n].key[i3].toNat, by omega⟩
        obtain ⟨c, hc⟩ : ∃ c : Nat, s[i].fks[i2].cols[i3] = c := ⟨s[i].fks[i2].cols[i3].toNat, by omega⟩
        have ha2 : a < s[n].cols.length := by omega
        have hc2 : c < s[i].cols.length := by omega
        have e1 := kindAt_at ha ha2
        have e2 := kindAt_at hc hc2
        have hstep : kindsEq s[n] s[i] s[n].key s[i].fks[i2].cols = (s[n].cols[a].kind == s[i].cols[c].kind && kindsEq s[n] s[i] (s[n].key.drop (i3 + 1)) (s[i].fks[i2].cols.drop (i3 + 1))) := by
          rw [hsl, List.drop_eq_getElem_cons hlt3, List.drop_eq_getElem_cons hlt4, kindsEq, e1, e2]
        repeat' first|refine yaG ?_|((first|apply yG|apply yH|apply yI);exact rfl;(first|exact yX (enc := encTable) rfl rfl hk hlt rfl|exact yX (enc := encI) rfl rfl hk3 hlt3 rfl|exact yX (enc := encTable) rfl rfl rfl hn rfl|exact yX (enc := encI) rfl rfl hk3 hlt4 rfl|exact yX (enc := encCol) rfl rfl ha ha2 rfl|exact yX (enc := encCol) rfl rfl hc hc2 rfl))|(exfalso;omega)|(refine yaS ?_ ?_<;>intro _)
        · rename_i h
          refine .ret rfl (.bool (neg ?_).symm)
          rw [hm, metAt, hstep, beq_eq_false_iff_ne.2 fun e => h e.symm]
          simp
        · rename_i h
          refine Go.keep [0, 4, 5, 6, 7, 8] (hrec3 _ _ _ (by omega) ⟨i3 + 1, _, rfl, hlt3, wrap_succ hk3 (by omega), ?_, rfl, rfl⟩)
          rw [hstep, h]
          simp
      · have hmt : metF s s[i] s[i].fks[i2] = true := by
          rw [hm, metAt, hsl, List.drop_eq_nil_of_le (by omega), decide_eq_true (by omega)]
          cases s[n].key.drop i3 <;> rfl
        clear hrec3
        repeat' first|refine yaG ?_|(exfalso;omega)|(refine yaS ?_ ?_<;>intro _)
        exact Go.keep [0, 4, 5] (hrec2 _ _ _ (by omega) ⟨i2 + 1, _, rfl, hlt2, wrap_succ hk2 (by omega), upto (p := fun f => metF s s[i] f) hall2 hlt2 hmt, rfl, rfl⟩)
    · have hany := any_none (p := fun f => metF s s[i] f) (l := s[i].fks) fun j hj => hall2 j hj (by omega)
      clear hrec2
      repeat' first|refine yaG ?_|((first|apply yG|apply yH|apply yI);exact rfl;(first|exact yX (enc := encTable) rfl rfl hk hlt rfl))|(exfalso;omega)|(refine yaS ?_ ?_<;>intro _)
      exact Go.keep [0, 4] (hrec _ _ _ (by omega) ⟨i + 1, _, rfl, hlt, wrap_succ hk (by omega), upto (p := fun t : Table => !(t.fks.any fun f => !metF s t f)) hall hlt (by rw [hany]; rfl), rfl, rfl⟩)
  · have hany := any_none (p := fun t : Table => !(t.fks.any fun f => !metF s t f)) (l := s) fun j hj => hall j hj (by omega)
    clear hrec
    repeat' first|refine yaG ?_|(exfalso;omega)|(refine yaS ?_ ?_<;>intro _)
    refine .ret rfl (.bool ?_)
    simp only [Bool.not_not] at hany
    rw [schemaF, hfin, hany]
    simp
end Go.Proofs.YtdgnfdljkghpjaaGreat.Am

/- Queries: the program and its reference. -/
set_option linter.unusedVariables false
set_option linter.unusedSimpArgs false
namespace Go.Proofs.YtdgnfdljkghpjaaGreat.Am

theorem schemaF_cols {s : List Table} (h : schemaF s = true) : ∀ t ∈ s, 1 ≤ t.cols.length ∧ t.cols.length ≤ 8 := fun t ht => by
  have := (tableF_iff.1 (namesAux_ok (schemaF_iff.1 h).2.1 t ht)).2.1
  simp only [isIn, Bool.and_eq_true, decide_eq_true_eq] at this
  omega
end Go.Proofs.YtdgnfdljkghpjaaGreat.Am

/- Statements: the program and its reference. -/
set_option linter.unusedVariables false
set_option linter.unusedSimpArgs false
namespace Go.Proofs.YtdgnfdljkghpjaaGreat.Am

def fitAux (t : Table) : Nat → List Val → Bool
  | _, [] => true
  | i, v :: r => isOfF v (kindAt t i) && fitAux t (i + 1) r
def fitF (t : Table) (vals : List Val) : Bool := decide ((vals.length : Int) = t.cols.length) && fitAux t 0 vals
theorem fit_ok (t : Table) (vals : List Val) (hx : vals.length ≤ 34359738368) : Pure Tryz.prog 188 [.agg (encTable t), .c (.fz (vals.map encV))] (.c (.bool (fitF t vals))) := by
  refine Pure.run mixed c_impl_fit_ok (Nat.le_of_ble_eq_true rfl) fun σ hS hA => ?_
  clear hS hA
  repeat' first|refine yaG ?_|(exfalso;omega)|(refine yaS ?_ ?_<;>intro _)
  · rename_i h
    refine .ret rfl (.bool ?_)
    rw [fitF, decide_eq_false h]
    rfl
  rename_i hlen
  have hlen : (vals.length : Int) = t.cols.length := by omega
  refine Go.keep [2, 13, 14, 15] (Go.loops (I := fun m fr τ => ∃ i : Nat, ∃ k : Int, m = vals.length - i ∧ i ≤ vals.length ∧ k = i ∧ fitAux t 0 vals = fitAux t i (vals.drop i) ∧
    fr = [(2, .c (.fp (encTable t))), (13, .c (.fz (vals.map encV))), (14, .c (.int .i64 (vals.length : Int))), (15, .c (.int .i64 k))] ∧ τ = E σ []) ?_ _ _ _ ⟨0, _, rfl, Nat.zero_le _, rfl, rfl, rfl, rfl⟩)
  rintro m fr τ ⟨i, k, rfl, hi, hk, hsl, rfl, rfl⟩ hrec
  by_cases hlt : i < vals.length
  · have hd := List.drop_eq_getElem_cons hlt
    have hlc : i < t.cols.length := by omega
    have hka : kindAt t i = t.cols[i].kind := kindAt_at rfl hlc
    rw [hd, fitAux, hka] at hsl
    repeat' first|refine yaG ?_|((first|apply yG|apply yH|apply yI);exact rfl;(first|exact yX (enc := encV) rfl rfl hk hlt rfl|exact yX (enc := encCol) rfl rfl hk hlc rfl))|((first|apply Go.pcallB|apply Go.spcallB|apply Qg.pcallB);(iterate 3 exact rfl);exact isOf_ok vals[i] t.cols[i].kind;intro _ _)|(exfalso;omega)|(refine yaS ?_ ?_<;>intro _)
    · rename_i b p k4
      refine .ret rfl (.bool ?_)
      rw [fitF, hsl, nbT p k4]
      simp
    · rename_i b p k4
      refine Go.keep [2, 13, 14, 15] (hrec _ _ _ (by omega) ⟨i + 1, _, rfl, hlt, wrap_succ hk (by omega), ?_, rfl, rfl⟩)
      rw [hsl, nbF p k4]
      rfl
  · repeat' first|refine yaG ?_|(exfalso;omega)|(refine yaS ?_ ?_<;>intro _)
    refine .ret rfl (.bool ?_)
    rw [fitF, hsl, List.drop_eq_nil_of_le (by omega), decide_eq_true hlen]
    rfl
theorem l4Kinds_ok (t : Table) (vals : List Val) (hx : vals.length ≤ 34359738368) : Pure Tryz.prog 178 [.agg (encTable t), .c (.fz (vals.map encV))] (.c (.bool (fitF t vals))) := by
  refine Pure.run mixed c_spec_l4Kinds_ok (Nat.le_of_ble_eq_true rfl) fun σ hS hA => ?_
  clear hS hA
  repeat' first|refine yaG ?_|(exfalso;omega)|(refine yaS ?_ ?_<;>intro _)
  · rename_i h
    refine .ret rfl (.bool ?_)
    rw [fitF, decide_eq_false h]
    rfl
  rename_i hlen
  have hlen : (vals.length : Int) = t.cols.length := by omega
  refine Go.keep [1, 2, 5] (Go.loops (I := fun m fr τ => ∃ i : Nat, ∃ k : Int, m = vals.length - i ∧ i ≤ vals.length ∧ k = i ∧ fitAux t 0 vals = fitAux t i (vals.drop i) ∧
    fr = [(1, .c (.fz (vals.map encV))), (2, .c (.fp (encTable t))), (5, .c (.int .i64 k))] ∧ τ = E σ []) ?_ _ _ _ ⟨0, _, rfl, Nat.zero_le _, rfl, rfl, rfl, rfl⟩)
  rintro m fr τ ⟨i, k, rfl, hi, hk, hsl, rfl, rfl⟩ hrec
  by_cases hlt : i < vals.length
  · have hd := List.drop_eq_getElem_cons hlt
    have hlc : i < t.cols.length := by omega
    have hka : kindAt t i = t.cols[i].kind := kindAt_at rfl hlc
    rw [hd, fitAux, hka] at hsl
    repeat' first|refine yaG ?_|((first|apply yG|apply yH|apply yI);exact rfl;(first|exact yX (enc := encV) rfl rfl hk hlt rfl|exact yX (enc := encCol) rfl rfl hk hlc rfl))|((first|apply Go.pcallB|apply Go.spcallB|apply Qg.pcallB);(iterate 3 exact rfl);exact sValOk_ok vals[i];intro _ _)|(exfalso;omega)|(refine yaS ?_ ?_<;>intro _)
    all_goals first
      | (refine .ret rfl (.bool ?_); rw [fitF, hsl, isOfF]; clear hrec hsl; simp_all; done)
      | (refine Go.keep [1, 2, 5] (hrec _ _ _ (by omega) ⟨i + 1, _, rfl, hlt, wrap_succ hk (by omega), ?_, rfl, rfl⟩); rw [hsl, isOfF]; clear hrec hsl; simp_all; done)
  · repeat' first|refine yaG ?_|(exfalso;omega)|(refine yaS ?_ ?_<;>intro _)
    refine .ret rfl (.bool ?_)
    rw [fitF, hsl, List.drop_eq_nil_of_le (by omega), decide_eq_true hlen]
    rfl
end Go.Proofs.YtdgnfdljkghpjaaGreat.Am

/- The laws' helpers on types, printed by a program: Data, Line, Save, Session. -/
set_option linter.unusedVariables false
set_option linter.unusedSimpArgs false
namespace Go.Proofs.YtdgnfdljkghpjaaGreat.Am
structure Data where
  rows : List RowD
  deriving DecidableEq
def encData (a : Data) : List Ce := [.fz (a.rows.map encRowD)]
def bData (N : Nat) (a : Data) : Prop := (a.rows.length ≤ N ∧ ∀ x ∈ a.rows, bRowD N x)
def zData (a : Data) : Int → Int := chain [(szL zRowD a.rows)]
theorem zData_steps (a : Data) : Steps [(szL zRowD a.rows)] := (.cons (fun l h => szL_le zRowD_le _ l h) .nil)
theorem zData_le (a : Data) (l : Int) (h : 0 ≤ l) : zData a l ≤ l := chain_le (zData_steps a) l h
theorem bData_of (a : Data) (l : Int) (N : Nat) (h0 : 0 ≤ l) (h : 0 ≤ zData a l) (hl : l ≤ N) : bData N a := by
  have hh := chain_all (zData_steps a) l h0 h
  obtain ⟨q0, u0, v0, w0⟩ := hh (szL zRowD a.rows) (by simp)
  exact (list_of zRowD_le bRowD_of u0 w0 (by omega))
theorem szData_ok (a : Data) (left : Int) (hb : bData 1125899906842624 a) (h0 : 0 ≤ left) (h1 : left ≤ 34359738368) : Pure Tryz.prog 67 [.agg (encData a), .c (.int .i64 left)] (.c (.int .i64 (zData a left))) := by
  refine Pure.run mixed c_laws_szData_ok (Nat.le_of_ble_eq_true rfl) fun σ hS hA => ?_
  clear hS hA
  repeat' first|refine yaG ?_|fail
  refine .pcall rfl rfl rfl (szRowDS_ok a.rows left hb.1 hb.2 (by omega) (by omega)) ?_
  have y1 := szL_le zRowD_le a.rows left (by omega)
  generalize e1 : szL zRowD a.rows left = l1 at y1 ⊢
  repeat' first|refine yaG ?_|(exfalso;omega)|(refine yaS ?_ ?_<;>intro _)
  · refine .ret rfl (.int ?_)
    rename_i h
    simp only [zData, chain, e1, if_pos h]
  rename_i g1
  refine .ret rfl (.int ?_)
  simp only [zData, chain, e1, if_neg g1]
theorem szDataS_ok (xs : List Data) (left : Int) (hx : xs.length ≤ 1125899906842624) (hv : ∀ e ∈ xs, bData 1125899906842624 e) (h0 : 0 ≤ left) (h1 : left ≤ 34359738368) : Pure Tryz.prog 17 [.c (.fz (xs.map encData)), .c (.int .i64 left)] (.c (.int .i64 (szL zData xs left))) :=
  szS_ok mixed c_laws_szDataS_ok encData zData xs left hx h0 h1 (fun _ => rfl) zData_le fun a ha l h2 h3 => szData_ok a l (hv a ha) h2 (by omega)
theorem toData_ok (a : Data) (hb : bData 34359738368 a) (σ : Store) : Ok Tryz.prog 70 [.agg (encData a)] σ (NewL σ (encData a)) := by
  refine Ok.run mixed c_laws_toData_ok (Nat.le_of_ble_eq_true rfl) fun hS hA => ?_
  clear hS hA
  repeat' first|refine yaG ?_|(exfalso;omega)|(refine yaS ?_ ?_<;>intro _)
  refine Go.call _ rfl rfl rfl (toRowDS_ok a.rows hb.1 hb.2 _) ?_
  rintro r σ0 ⟨x0, m0, rfl, rfl, t0, h0⟩
  rw [E_E] at h0 ⊢
  have t0 := tidy_up t0
  have h0 := h0.new2
  repeat' first|refine yaG ?_|(exfalso;omega)|(refine yaS ?_ ?_<;>intro _)
  have hL : HasL (E σ ((0, [[x0]]) :: (0, [[x0]]) :: ([] ++ m0))) (fun a => σ.next + 2 ≤ a ∧ a < σ.next + 2 + ([] ++ m0).length) (encData a) [x0] := by
    refine HasL.mono ?_ (HasL.two (h0 _ _) (HasL.nil (S := fun a => a < 0)) (fun a ha hb => by (try dsimp only at ha hb); (try simp only [List.append_eq, List.length_append, List.length_nil, List.nil_append] at ha hb); omega))
    intro a ha
    (try dsimp only at ha)
    (try simp only [List.append_eq, List.length_append, List.length_nil, List.nil_append] at ha ⊢)
    omega
  have hT := hL.tidy (n := σ.next) fun a ha => by have := ha.1; omega
  have hM : TidyL σ.next ([] ++ m0) := (tidy_pre (fun b hb => by simp at hb) t0)
  have hN : NewL σ (encData a) (.agg [x0]) (E σ ((0, [[x0]]) :: (0, [[x0]]) :: ([] ++ m0))) := by
    refine ⟨_, _, rfl, rfl, .one hT (.one hT hM), hL.mono ?_⟩
    intro a ha
    have h9 := ha.1
    have h8 := ha.2
    (try simp only [E_next, List.length_cons, List.append_eq, List.length_append, List.length_nil, List.nil_append] at h8 ⊢)
    constructor <;> omega
  exact .ret (retv_m rfl rfl rfl (Nat.le_of_ble_eq_true rfl) rfl) hN
theorem toDataS_ok (xs : List Data) (hx : xs.length ≤ 34359738368) (hv : ∀ e ∈ xs, bData 34359738368 e) (σ : Store) : Ok Tryz.prog 21 [.c (.fz (xs.map encData))] σ (New σ (.fz (xs.map encData))) :=
  toS_ok mixed c_laws_toDataS_ok encData xs hx (by decide) rfl (fun _ => rfl) (by intro x hx; simp only [List.mem_cons, List.not_mem_nil, or_false] at hx; rcases hx with rfl <;> constructor) (fun a ha σ => toData_ok a (hv a ha) σ) σ
theorem Data_beq (a b : Data) : (a == b) = (a.rows == b.rows) := by
  obtain ⟨a0⟩ := a
  obtain ⟨b0⟩ := b
  rw [Bool.eq_iff_iff]
  simp [and_assoc]
theorem eqData_ok (a b : Data) (hb : bData 34359738368 a) : Pure Tryz.prog 74 [.agg (encData a), .agg (encData b)] (.c (.bool (a == b))) := by
  refine Pure.run mixed c_laws_eqData_ok (Nat.le_of_ble_eq_true rfl) fun σ hS hA => ?_
  clear hS hA
  have hq := Data_beq a b
  repeat' first|refine yaG ?_|((first|apply Go.pcallB|apply Go.spcallB|apply Qg.pcallB);(iterate 3 exact rfl);exact eqRowDS_ok a.rows b.rows hb.1 hb.2;intro _ _)|(exfalso;omega)|(refine yaS ?_ ?_<;>intro _)
  all_goals refine .ret rfl (.bool ?_)
  all_goals rw [hq]
  all_goals clear hq hb
  all_goals simp_all
theorem eqDataS_ok (xs ys : List Data) (hx : xs.length ≤ 34359738368) (hv : ∀ e ∈ xs, bData 34359738368 e) : Pure Tryz.prog 26 [.c (.fz (xs.map encData)), .c (.fz (ys.map encData))] (.c (.bool (xs == ys))) :=
  eqS_ok mixed c_laws_eqDataS_ok encData xs ys hx (fun _ => rfl) fun a ha b => eqData_ok a b (hv a ha)
end Go.Proofs.YtdgnfdljkghpjaaGreat.Am

/- Databases: which are right, by the program and its reference. -/
set_option linter.unusedVariables false
set_option linter.unusedSimpArgs false
namespace Go.Proofs.YtdgnfdljkghpjaaGreat.Am

def risesId (p : Option Int) (n : Int) : Bool := match p with | none => true | some q => decide (q < n)
def rowOne (t : Table) (p : Option Int) (r : RowD) : Bool := isIn r.id 1 1000000000 && (risesId p r.id && fitF t r.vals)
def rowsAux (t : Table) : Option Int → List RowD → Bool
  | _, [] => true
  | p, r :: l => rowOne t p r && rowsAux t (some r.id) l
def rowsF (t : Table) (l : List RowD) : Bool := rowsAux t none l && decide ((l.length : Int) ≤ 60)
def dbAux : List Table → List Data → Bool
  | t :: s, d :: db => rowsF t d.rows && dbAux s db
  | _, _ => true
def dbF (s : List Table) (db : List Data) : Bool := schemaF s && (decide ((db.length : Int) = s.length) && dbAux s db)
theorem areRows_ok (t : Table) (l : List RowD) (hx : l.length ≤ 34359738368) (hb : ∀ r ∈ l, r.vals.length ≤ 34359738368) : Pure Tryz.prog 141 [.agg (encTable t), .c (.fz (l.map encRowD))] (.c (.bool (rowsF t l))) := by
  refine Pure.run mixed c_impl_areRows_ok (Nat.le_of_ble_eq_true rfl) fun σ hS hA => ?_
  clear hS hA
  repeat' first|refine yaG ?_|(exfalso;omega)|(refine yaS ?_ ?_<;>intro _)
  refine Go.keep [1, 2, 7, 8, 9] (Go.loops (I := fun m fr τ => ∃ (i : Nat) (k : Int) (p : Option Int), m = l.length - i ∧ i ≤ l.length ∧ k = i ∧ (rowsAux t none l = rowsAux t p (l.drop i) ∧ ((i = 0 ∧ p = none) ∨ ∃ j, ∃ hj : j < l.length, i = j + 1 ∧ p = some l[j].id)) ∧
    fr = [(1, .c (.fz (l.map encRowD))), (2, .c (.fp (encTable t))), (7, .c (.fz (l.map encRowD))), (8, .c (.int .i64 (l.length : Int))), (9, .c (.int .i64 k))] ∧ τ = E σ []) ?_ _ _ _ ⟨0, _, none, rfl, Nat.zero_le _, rfl, ⟨rfl, .inl ⟨rfl, rfl⟩⟩, rfl, rfl⟩)
  rintro m fr τ ⟨i, k, p, rfl, hi, hk, ⟨hs, hp⟩, rfl, rfl⟩ hrec
  by_cases hlt : i < l.length
  · have hv := hb _ (List.getElem_mem hlt)
    rw [List.drop_eq_getElem_cons hlt, rowsAux] at hs
    rcases hp with ⟨rfl, rfl⟩ | ⟨j, hj, rfl, rfl⟩
    · repeat' first|refine yaG ?_|((first|apply yG|apply yH|apply yI);exact rfl;(first|exact yX (enc := encRowD) rfl rfl hk hlt rfl))|((first|apply Go.pcallB|apply Go.spcallB|apply Qg.pcallB);(iterate 3 exact rfl);(first|exact in_ok _ _ _|exact fit_ok t l[0].vals hv);intro _ _)|(exfalso;omega)|(refine yaS ?_ ?_<;>intro _)
      all_goals first
        | (refine .ret rfl (.bool ?_); clear hrec; rw [rowsF, hs, rowOne, risesId]; clear hs; simp_all; done)
        | (refine Go.keep [1, 2, 7, 8, 9] (hrec _ _ _ (by omega) ⟨0 + 1, _, some l[0].id, rfl, hlt, wrap_succ hk (by omega), ⟨?_, .inr ⟨0, hlt, rfl, rfl⟩⟩, rfl, rfl⟩); clear hrec; rw [hs, rowOne, risesId]; clear hs; simp_all; done)
    · repeat' first|refine yaG ?_|((first|apply yG|apply yH|apply yI);exact rfl;(first|exact yX (enc := encRowD) rfl rfl hk hlt rfl|exact yX (enc := encRowD) rfl rfl (wrap_pred hk (by omega)) hj rfl))|((first|apply Go.pcallB|apply Go.spcallB|apply Qg.pcallB);(iterate 3 exact rfl);(first|exact in_ok _ _ _|exact fit_ok t l[j + 1].vals hv);intro _ _)|(exfalso;omega)|(refine yaS ?_ ?_<;>intro _)
      all_goals first
        | (refine .ret rfl (.bool ?_); clear hrec; rw [rowsF, hs, rowOne, risesId]; clear hs; (simp_all <;> intros <;> omega); done)
        | (refine Go.keep [1, 2, 7, 8, 9] (hrec _ _ _ (by omega) ⟨j + 1 + 1, _, some l[j + 1].id, rfl, hlt, wrap_succ hk (by omega), ⟨?_, .inr ⟨j + 1, hlt, rfl, rfl⟩⟩, rfl, rfl⟩); clear hrec; rw [hs, rowOne, risesId]; clear hs; (simp_all <;> intros <;> omega); done)
  · repeat' first|refine yaG ?_|(exfalso;omega)|(refine yaS ?_ ?_<;>intro _)
    refine .ret rfl (.bool ?_)
    rw [rowsF, hs, List.drop_eq_nil_of_le (by omega)]
    simp [rowsAux]
theorem DbOk_ok (s : List Table) (db : List Data) (hx : s.length ≤ 34359738368) (hb : ∀ t ∈ s, bTable 34359738368 t) (hd : db.length ≤ 34359738368) (hdb : ∀ d ∈ db, bData 34359738368 d) : Pure Tryz.prog 79 [.c (.fz (s.map encTable)), .c (.fz (db.map encData))] (.c (.bool (dbF s db))) := by
  refine Pure.run mixed c_impl_DbOk_ok (Nat.le_of_ble_eq_true rfl) fun σ hS hA => ?_
  clear hS hA
  have c1 := SchemaOk_ok s hx hb
  cases hs : schemaF s
  · rw [hs] at c1
    repeat' first|refine yaG ?_|refine yaC (c1) ?_|(exfalso;omega)|(refine yaS ?_ ?_<;>intro _)
    refine .ret rfl (.bool ?_)
    rw [dbF, hs]
    rfl
  rw [hs] at c1
  repeat' first|refine yaG ?_|refine yaC (c1) ?_|(exfalso;omega)|(refine yaS ?_ ?_<;>intro _)
  · rename_i h
    refine .ret rfl (.bool ?_)
    rw [dbF, hs, decide_eq_false h]
    rfl
  rename_i hl
  have hl : (db.length : Int) = s.length := by omega
  refine Go.keep [0, 17, 18, 19] (Go.loops (I := fun m fr τ => ∃ (i : Nat) (k : Int), m = db.length - i ∧ i ≤ db.length ∧ k = i ∧ dbAux s db = dbAux (s.drop i) (db.drop i) ∧
    fr = [(0, .c (.fz (s.map encTable))), (17, .c (.fz (db.map encData))), (18, .c (.int .i64 (db.length : Int))), (19, .c (.int .i64 k))] ∧ τ = E σ []) ?_ _ _ _ ⟨0, _, rfl, Nat.zero_le _, rfl, rfl, rfl, rfl⟩)
  rintro m fr τ ⟨i, k, rfl, hi, hk, hsl, rfl, rfl⟩ hrec
  clear c1
  by_cases hlt : i < db.length
  · have hlt2 : i < s.length := by omega
    have hbd := hdb _ (List.getElem_mem hlt)
    rw [List.drop_eq_getElem_cons hlt, List.drop_eq_getElem_cons hlt2, dbAux] at hsl
    repeat' first|refine yaG ?_|((first|apply yG|apply yH|apply yI);exact rfl;(first|exact yX (enc := encData) rfl rfl hk hlt rfl|exact yX (enc := encTable) rfl rfl hk hlt2 rfl))|((first|apply Go.pcallB|apply Go.spcallB|apply Qg.pcallB);(iterate 3 exact rfl);exact areRows_ok s[i] db[i].rows hbd.1 (fun r hr => (hbd.2 r hr).1);intro _ _)|(exfalso;omega)|(refine yaS ?_ ?_<;>intro _)
    · rename_i b p h
      refine .ret rfl (.bool ?_)
      rw [dbF, hsl, nbT p h]
      simp
    · rename_i b p h
      refine Go.keep [0, 17, 18, 19] (hrec _ _ _ (by omega) ⟨i + 1, _, rfl, hlt, wrap_succ hk (by omega), ?_, rfl, rfl⟩)
      rw [hsl, nbF p h, Bool.true_and]
  · repeat' first|refine yaG ?_|(exfalso;omega)|(refine yaS ?_ ?_<;>intro _)
    refine .ret rfl (.bool ?_)
    rw [dbF, hs, hsl, decide_eq_true hl, show db.drop i = [] from List.drop_eq_nil_of_le (by omega)]
    cases List.drop i s <;> rfl
theorem l4Db_ok (s : List Table) (db : List Data) (hx : s.length ≤ 34359738368) (hd : db.length ≤ 34359738368) (hdb : ∀ d ∈ db, bData 34359738368 d) : Pure Tryz.prog 199 [.c (.fz (s.map encTable)), .c (.fz (db.map encData))] (.c (.bool (decide ((db.length : Int) = s.length) && dbAux s db))) := by
  refine Pure.run mixed c_spec_l4Db_ok (Nat.le_of_ble_eq_true rfl) fun σ hS hA => ?_
  clear hS hA
  repeat' first|refine yaG ?_|(exfalso;omega)|(refine yaS ?_ ?_<;>intro _)
  · rename_i h
    refine .ret rfl (.bool ?_)
    rw [decide_eq_false h]
    rfl
  rename_i hl
  have hl : (db.length : Int) = s.length := by omega
  refine Go.keep [0, 1, 5] (Go.loops (I := fun m fr τ => ∃ (i : Nat) (k : Int), m = db.length - i ∧ i ≤ db.length ∧ k = i ∧ dbAux s db = dbAux (s.drop i) (db.drop i) ∧
    fr = [(0, .c (.fz (s.map encTable))), (1, .c (.fz (db.map encData))), (5, .c (.int .i64 k))] ∧ τ = E σ []) ?_ _ _ _ ⟨0, _, rfl, Nat.zero_le _, rfl, rfl, rfl, rfl⟩)
  rintro m fr τ ⟨i, k, rfl, hi, hk, hsl, rfl, rfl⟩ hrec
  by_cases hlt : i < db.length
  · have hlt2 : i < s.length := by omega
    have hbd := hdb _ (List.getElem_mem hlt)
    rw [List.drop_eq_getElem_cons hlt, List.drop_eq_getElem_cons hlt2, dbAux, rowsF] at hsl
    obtain ⟨l, hle⟩ : ∃ l, db[i].rows = l := ⟨_, rfl⟩
    have hrl : l.length ≤ 34359738368 := by rw [← hle]; exact hbd.1
    have hrv : ∀ r ∈ l, r.vals.length ≤ 34359738368 := by rw [← hle]; exact fun r hr => (hbd.2 r hr).1
    repeat' first|refine yaG ?_|((first|apply yG|apply yH|apply yI);exact rfl;(first|exact yX (enc := encData) rfl rfl hk hlt rfl))|(exfalso;omega)|(refine yaS ?_ ?_<;>intro _)
    rw [hle] at hsl ⊢
    refine Go.keep [0, 1, 5, 6, 7] (Go.loops (I := fun m fr τ => ∃ (j : Nat) (q : Int) (p : Option Int), m = l.length - j ∧ j ≤ l.length ∧ q = j ∧ (rowsAux s[i] none l = rowsAux s[i] p (l.drop j) ∧ ((j = 0 ∧ p = none) ∨ ∃ a, ∃ ha : a < l.length, j = a + 1 ∧ p = some l[a].id)) ∧
      fr = [(0, .c (.fz (s.map encTable))), (1, .c (.fz (db.map encData))), (5, .c (.int .i64 k)), (6, .c (.fz (l.map encRowD))), (7, .c (.int .i64 q))] ∧ τ = E σ []) ?_ _ _ _ ⟨0, _, none, rfl, Nat.zero_le _, rfl, ⟨rfl, .inl ⟨rfl, rfl⟩⟩, rfl, rfl⟩)
    rintro m fr τ ⟨j, q, p, rfl, hj, hq, ⟨hs2, hp⟩, rfl, rfl⟩ hrec2
    by_cases hlj : j < l.length
    · have hv := hrv _ (List.getElem_mem hlj)
      rw [List.drop_eq_getElem_cons hlj, rowsAux] at hs2
      clear hrec
      rcases hp with ⟨rfl, rfl⟩ | ⟨a, ha, rfl, rfl⟩
      · repeat' first|refine yaG ?_|((first|apply yG|apply yH|apply yI);exact rfl;(first|exact yX (enc := encRowD) rfl rfl hq hlj rfl|exact yX (enc := encTable) rfl rfl hk hlt2 rfl))|((first|apply Go.pcallB|apply Go.spcallB|apply Qg.pcallB);(iterate 3 exact rfl);(first|exact l1In_ok _ _ _|exact l4Kinds_ok s[i] l[0].vals hv);intro _ _)|(exfalso;omega)|(refine yaS ?_ ?_<;>intro _)
        all_goals first
          | (refine .ret rfl (.bool ?_); clear hrec2; rw [hsl, hs2, rowOne, risesId]; clear hs2 hsl; simp_all; done)
          | (refine Go.keep [0, 1, 5, 6, 7] (hrec2 _ _ _ (by omega) ⟨0 + 1, _, some l[0].id, rfl, hlj, wrap_succ hq (by omega), ⟨?_, .inr ⟨0, hlj, rfl, rfl⟩⟩, rfl, rfl⟩); clear hrec2; rw [hs2, rowOne, risesId]; clear hs2 hsl; simp_all; done)
      · repeat' first|refine yaG ?_|((first|apply yG|apply yH|apply yI);exact rfl;(first|exact yX (enc := encRowD) rfl rfl hq hlj rfl|exact yX (enc := encRowD) rfl rfl (wrap_pred hq (by omega)) ha rfl|exact yX (enc := encTable) rfl rfl hk hlt2 rfl))|((first|apply Go.pcallB|apply Go.spcallB|apply Qg.pcallB);(iterate 3 exact rfl);(first|exact l1In_ok _ _ _|exact l4Kinds_ok s[i] l[a + 1].vals hv);intro _ _)|(exfalso;omega)|(refine yaS ?_ ?_<;>intro _)
        all_goals first
          | (refine .ret rfl (.bool ?_); clear hrec2; rw [hsl, hs2, rowOne, risesId]; clear hs2 hsl; (simp_all <;> intros <;> omega); done)
          | (refine Go.keep [0, 1, 5, 6, 7] (hrec2 _ _ _ (by omega) ⟨a + 1 + 1, _, some l[a + 1].id, rfl, hlj, wrap_succ hq (by omega), ⟨?_, .inr ⟨a + 1, hlj, rfl, rfl⟩⟩, rfl, rfl⟩); clear hrec2; rw [hs2, rowOne, risesId]; clear hs2 hsl; (simp_all <;> intros <;> omega); done)
    · clear hrec2
      rw [List.drop_eq_nil_of_le (by omega), rowsAux] at hs2
      repeat' first|refine yaG ?_|(exfalso;omega)|(refine yaS ?_ ?_<;>intro _)
      · rename_i h
        refine .ret rfl (.bool ?_)
        rw [hsl, hs2, decide_eq_false (p := (l.length : Int) ≤ 60) (by omega)]
        simp
      · rename_i h
        refine Go.keep [0, 1, 5] (hrec _ _ _ (by omega) ⟨i + 1, _, rfl, hlt, wrap_succ hk (by omega), ?_, rfl, rfl⟩)
        rw [hsl, hs2, decide_eq_true (p := (l.length : Int) ≤ 60) (by omega)]
        rfl
  · repeat' first|refine yaG ?_|(exfalso;omega)|(refine yaS ?_ ?_<;>intro _)
    refine .ret rfl (.bool ?_)
    rw [hsl, decide_eq_true hl, show db.drop i = [] from List.drop_eq_nil_of_le (by omega)]
    cases List.drop i s <;> rfl
theorem sDbOk_ok (s : List Table) (db : List Data) (hx : s.length ≤ 34359738368) (hb : ∀ t ∈ s, bTable 34359738368 t) (hd : db.length ≤ 34359738368) (hdb : ∀ d ∈ db, bData 34359738368 d) : Pure Tryz.prog 146 [.c (.fz (s.map encTable)), .c (.fz (db.map encData))] (.c (.bool (dbF s db))) := by
  refine Pure.run mixed c_spec_DbOk_ok (Nat.le_of_ble_eq_true rfl) fun σ hS hA => ?_
  clear hS hA
  have c1 := sSchemaOk_ok s hx hb
  have c2 := l4Db_ok s db hx hd hdb
  rw [dbF]
  generalize (decide ((db.length : Int) = s.length) && dbAux s db) = B at c2 ⊢
  cases hs : schemaF s
  · rw [hs] at c1
    repeat' first|refine yaG ?_|refine yaC (c1) ?_|(exfalso;omega)|(refine yaS ?_ ?_<;>intro _)
    exact .ret rfl (.bool rfl)
  · rw [hs] at c1
    repeat' first|refine yaG ?_|refine yaC (c1) ?_|refine yaC (c2) ?_|(exfalso;omega)|(refine yaS ?_ ?_<;>intro _)
    exact .ret rfl (.bool rfl)
theorem isTable_ok (s : List Table) (n : Int) (hx : s.length ≤ 34359738368) : Pure Tryz.prog 142 [.c (.fz (s.map encTable)), .c (.int .i64 n)] (.c (.bool (isIn n 0 (s.length - 1)))) := by
  refine Pure.run mixed c_impl_isTable_ok (Nat.le_of_ble_eq_true rfl) fun σ hS hA => ?_
  clear hS hA
  repeat' first|refine yaG ?_|((first|apply yQ|apply yR|apply yS);(iterate 3 exact rfl);exact in_ok _ _ _)|(exfalso;omega)|(refine yaS ?_ ?_<;>intro _)
  refine .ret rfl (.bool ?_)
  rw [wrap64 (by omega) (by omega)]
theorem l6Ok_ok (s : List Table) (db : List Data) (n : Int) (hx : s.length ≤ 34359738368) (hb : ∀ t ∈ s, bTable 34359738368 t) (hd : db.length ≤ 34359738368) (hdb : ∀ d ∈ db, bData 34359738368 d) : Pure Tryz.prog 83 [.c (.fz (s.map encTable)), .c (.fz (db.map encData)), .c (.int .i64 n)] (.c (.bool (dbF s db && isIn n 0 (s.length - 1)))) := by
  refine Pure.run mixed c_spec_l6Ok_ok (Nat.le_of_ble_eq_true rfl) fun σ hS hA => ?_
  clear hS hA
  have c1 := sDbOk_ok s db hx hb hd hdb
  have hw : IntKind.i64.wrap ((s.length : Int) - 1) = s.length - 1 := wrap64 (by omega) (by omega)
  cases hs : dbF s db
  · rw [hs] at c1
    repeat' first|refine yaG ?_|refine yaC (c1) ?_|(exfalso;omega)|(refine yaS ?_ ?_<;>intro _)
    exact .ret rfl (.bool rfl)
  · rw [hs] at c1
    repeat' first|refine yaG ?_|refine yaC (c1) ?_|((first|apply yQ|apply yR|apply yS);(iterate 3 exact rfl);exact l1In_ok _ _ _)|(exfalso;omega)|(refine yaS ?_ ?_<;>intro _)
    refine .ret rfl (.bool ?_)
    rw [hw]
    rfl
/-- What a right database is like. -/
theorem dbF_at {s : List Table} {db : List Data} (h : dbF s db = true) : schemaF s = true ∧ db.length = s.length ∧ ∀ i (hi : i < s.length) (hi2 : i < db.length), rowsF s[i] db[i].rows = true := by
  simp only [dbF, Bool.and_eq_true, decide_eq_true_eq] at h
  obtain ⟨h1, h2, h3⟩ := h
  refine ⟨h1, by omega, ?_⟩
  clear h1 h2
  induction s generalizing db with
  | nil => intro i hi; simp at hi
  | cons t s ih =>
    cases db with
    | nil => intro i _ hi; simp at hi
    | cons d db =>
      rw [dbAux, Bool.and_eq_true] at h3
      intro i hi hi2
      cases i with
      | zero => exact h3.1
      | succ i => exact ih h3.2 i (by simpa using hi) (by simpa using hi2)
theorem rowsAux_mem {t : Table} : ∀ {l : List RowD} {p : Option Int}, rowsAux t p l = true → ∀ r ∈ l, fitF t r.vals = true ∧ isIn r.id 1 1000000000 = true
  | [], _, _, r, hr => by simp at hr
  | a :: l, p, h, r, hr => by
    simp only [rowsAux, rowOne, Bool.and_eq_true] at h
    rcases List.mem_cons.1 hr with rfl | hr
    · exact ⟨h.1.2.2, h.1.1⟩
    · exact rowsAux_mem h.2 r hr
theorem rowsF_mem {t : Table} {l : List RowD} (h : rowsF t l = true) : l.length ≤ 60 ∧ ∀ r ∈ l, fitF t r.vals = true ∧ isIn r.id 1 1000000000 = true := by
  simp only [rowsF, Bool.and_eq_true, decide_eq_true_eq] at h
  exact ⟨by omega, rowsAux_mem h.1⟩
theorem fitAux_ok {t : Table} : ∀ {l : List Val} {i : Nat}, fitAux t i l = true → ∀ v ∈ l, okVal v = true
  | [], _, _, v, hv => by simp at hv
  | a :: l, i, h, v, hv => by
    simp only [fitAux, isOfF, Bool.and_eq_true] at h
    rcases List.mem_cons.1 hv with rfl | hv
    · exact h.1.1
    · exact fitAux_ok h.2 v hv
theorem fitF_vals {t : Table} {l : List Val} (h : fitF t l = true) : l.length = t.cols.length ∧ ∀ v ∈ l, okVal v = true := by
  simp only [fitF, Bool.and_eq_true, decide_eq_true_eq] at h
  exact ⟨by omega, fitAux_ok h.2⟩
end Go.Proofs.YtdgnfdljkghpjaaGreat.Am

/- Marks by fields, and how many marks a value takes. -/
set_option linter.unusedVariables false
set_option linter.unusedSimpArgs false
namespace Go.Proofs.YtdgnfdljkghpjaaGreat.Am

theorem Has.shape {σ : Store} {S : Nat → Prop} {ys : List (List Ce)} {x : Ce} (h : Has σ S (.fz ys) x) {i : Nat} (hi : i < ys.length) : ∃ id v c, x = .sl id v 0 ys.length c := by
  obtain ⟨id, v, s, cs, junk, T, rfl, _⟩ := h.open (by omega)
  exact ⟨_, _, _, rfl⟩
/-- One cell of one element is written. -/
theorem Has.wr {σ : Store} {S : Nat → Prop} {zs : List (List Ce)} {e : List Ce} {id v n c i j : Nat} (h : Has σ S (.fz (zs.set i e)) (.sl id v 0 n c)) (hi : i < zs.length) (hj : j < e.length) :
    ∃ (es : List (List Ce)) (e' : List Ce), σ.get id = some (v, es) ∧ es[0 + i]? = some e' ∧ e'.length = e.length ∧ S id ∧
      ∀ z, Flat z → Has (σ.put id (v, es.set (0 + i) (splice e' (0 + j) [z]))) S (.fz (zs.set i (e.set j z))) (.sl id v 0 n c) ∧
        (∀ a, ¬ S a → (σ.put id (v, es.set (0 + i) (splice e' (0 + j) [z]))).get a = σ.get a) ∧ (σ.put id (v, es.set (0 + i) (splice e' (0 + j) [z]))).next = σ.next := by
  have hi' : i < (zs.set i e).length := by simpa using hi
  have hii : (zs.set i e)[i] = e := by simp
  obtain ⟨id1, v1, c1, es, e', hx, hg, he, hel, hS, hw⟩ := h.write (i := i) (j := j) hi' (by rw [hii]; exact hj)
  obtain ⟨rfl, rfl, -⟩ := sl_inj hx
  refine ⟨es, e', hg, he, by rw [hel, hii], hS, fun z hz => ⟨?_, fun a ha => put_off hS a ha, rfl⟩⟩
  have := hw z hz
  rw [List.set_set, hii] at this
  exact this
/-- A child of one element is given to a call. -/
theorem Has.ch {σ : Store} {S : Nat → Prop} {zs : List (List Ce)} {e : List Ce} {y : Ce} {id v n c i j : Nat} (h : Has σ S (.fz (zs.set i e)) (.sl id v 0 n c)) (hi : i < zs.length) (hj : j < e.length) (hy : e[j] = y) :
    ∃ (es : List (List Ce)) (e' : List Ce) (T : Nat → Prop), σ.get id = some (v, es) ∧ es[0 + i]? = some e' ∧ e'.length = e.length ∧ (∀ a, T a → S a) ∧
      ∃ hj' : j < e'.length, Has σ T y e'[j] ∧ ∀ σ' y', (∀ a, ¬ T a → σ'.get a = σ.get a) → Has σ' T y' e'[j] → Has σ' S (.fz (zs.set i (e.set j y'))) (.sl id v 0 n c) := by
  have hi' : i < (zs.set i e).length := by simpa using hi
  have hii : (zs.set i e)[i] = e := by simp
  obtain ⟨id1, v1, c1, es, e', T, hx, hg, he, hel, hTS, hj', hch, hback⟩ := h.child (i := i) (j := j) hi' (by rw [hii]; exact hj)
  obtain ⟨rfl, rfl, -⟩ := sl_inj hx
  subst hy
  refine ⟨es, e', T, hg, he, by rw [hel, hii], hTS, hj', ?_, fun σ' y' hf hh => ?_⟩
  · have e0 : (zs.set i e)[i][j]'(by rw [hii]; exact hj) = e[j] := by simp
    rw [← e0]
    exact hch
  · have := hback σ' y' hf hh
    rw [List.set_set, hii] at this
    exact this
/-- Counts along the sizes' chain. -/
inductive Cnts : List (Int → Int) → Int → Prop where
  | nil : Cnts [] 0
  | cons {f : Int → Int} {r : List (Int → Int)} {c d : Int} (h : ∀ q, 0 ≤ q → 0 ≤ f q → c ≤ 8 * (q - f q)) (k : Cnts r d) : Cnts (f :: r) (c + d)
theorem chain_cnt {fs : List (Int → Int)} {c : Int} (h : Cnts fs c) : ∀ l, 0 ≤ l → 0 ≤ chain fs l → c ≤ 8 * (l - chain fs l) := by
  induction h with
  | nil => intro l _ _; simp only [chain]; omega
  | @cons f r c d h _ ih =>
    intro l hl hc
    simp only [chain] at hc ⊢
    split at hc
    · omega
    · rename_i h0
      rw [if_neg h0]
      have := h l hl (by omega)
      have := ih (f l) (by omega) hc
      omega
theorem szList_cnt8 {α : Type} {g : α → Int → Int} {c : α → Int} (hg : ∀ a l, 0 ≤ l → g a l ≤ l) (hc : ∀ a l, 0 ≤ l → 0 ≤ g a l → c a ≤ 8 * (l - g a l) + 8) : ∀ (xs : List α) (left : Int), 0 ≤ left → 0 ≤ szList g xs left → cntL c xs ≤ 8 * (left - szList g xs left) + 8 * xs.length
  | [], left, h, hs => by simp [szList, cntL]
  | a :: r, left, h, hs => by
    simp only [szList] at hs ⊢
    split at hs
    · omega
    · rename_i h0
      rw [if_neg h0]
      have h1 := szList_cnt8 hg hc r (g a left) (by omega) hs
      have h2 := hc a left h (by omega)
      simp only [cntL, List.length_cons]
      omega
theorem szL_cnt8 {α : Type} {g : α → Int → Int} {c : α → Int} (hg : ∀ a l, 0 ≤ l → g a l ≤ l) (hc : ∀ a l, 0 ≤ l → 0 ≤ g a l → c a ≤ 8 * (l - g a l) + 8) (xs : List α) (left : Int) (h : 0 ≤ left) (hs : 0 ≤ szL g xs left) : cntL c xs ≤ 8 * (left - szL g xs left) := by
  simp only [szL] at hs ⊢
  split at hs
  · omega
  · rename_i h0
    rw [if_neg h0]
    have := szList_cnt8 hg hc xs (left - xs.length) (by omega) hs
    omega
theorem cnt_str (s : List UInt8) : ∀ q : Int, 0 ≤ q → 0 ≤ q - s.length → (0 : Int) ≤ 8 * (q - (q - s.length)) := fun q _ _ => by omega
theorem cnt_ints (xs : List Int) : ∀ q : Int, 0 ≤ q → 0 ≤ zI xs q → cntL (fun _ => 1) xs ≤ 8 * (q - zI xs q) := fun q _ h => by
  simp only [zI] at h ⊢
  rw [cnt1]
  split at h
  · omega
  · rename_i h0; rw [if_neg h0]; omega
theorem szV_cnt (v : Val) (l : Int) (h : 0 ≤ l) (hs : 0 ≤ szV v l) : (3 : Int) ≤ 8 * (l - szV v l) + 8 := by
  have := szV_le v l h
  omega
end Go.Proofs.YtdgnfdljkghpjaaGreat.Am

/- The laws' helpers on types, printed by a program: Tok, Check, Unique, Fk, Col. -/
set_option linter.unusedVariables false
set_option linter.unusedSimpArgs false
namespace Go.Proofs.YtdgnfdljkghpjaaGreat.Am
def markTok (a : Tok) (k : Int) : Tok := ⟨k, k + 1, ⟨k + 1 + 1, k + 1 + 1 + 1, mText (k + 1 + 1 + 1 + 1)⟩⟩
def cntTok (a : Tok) : Int := 5
theorem cntTok_nonneg (a : Tok) : 0 ≤ cntTok a := by
  simp only [cntTok]
  omega
theorem cntTok_sz (a : Tok) (l : Int) (h : 0 ≤ l) (hs : 0 ≤ zTok a l) : cntTok a ≤ 8 * (l - zTok a l) + 8 := by
  have := chain_cnt (fs := [(szV a.v)]) (.cons (c := 0) (fun q h hs => by have := szV_le a.v q h; omega) .nil) l h hs
  simp only [cntTok]
  simp only [zTok] at hs ⊢
  omega
theorem markTokS_ok (xs : List Tok) (k : Int) (hx : xs.length ≤ 34359738368) (hb : ∀ a ∈ xs, bTok 34359738368 a) (hk0 : 0 ≤ k) (hk : k + cntL cntTok xs ≤ 34359738368) : Marks Tryz.prog 152 (.fz (xs.map encTok)) (.fz ((markL markTok cntTok xs k).map encTok)) k (k + cntL cntTok xs) := by
  refine markS_ok mixed c_laws_markTokS_ok (Nat.le_of_ble_eq_true rfl) (Nat.le_of_ble_eq_true rfl) encTok markTok cntTok cntTok_nonneg xs k hx hk0 hk ?_
  intro n0 rets R K σ τ S x i ni ki ys hi fr hn0 hyl hni hki0 hki1 h0 h1 h5 hmem hh hnext
  have hi' : i < (ys.map encTok).length := by simpa using hi
  have hyi : (ys.map encTok)[i] = encTok ys[i] := by simp
  have hb := hb _ hmem
  obtain ⟨id, v, c, rfl⟩ := hh.shape hi'
  have hh : Has τ S (.fz ((ys.map encTok).set i (encTok ys[i]))) (.sl id v 0 (ys.map encTok).length c) := by rw [← hyi, List.set_getElem_self]; exact hh
  have hfr : ∀ a, ¬ S a → τ.get a = τ.get a := fun _ _ => rfl
  have hnx : τ.next = τ.next := rfl
  refine .same (look_three h0 h1 h5) ?_
  have hset : ∀ q, (ys.set i q).map encTok = (ys.map encTok).set i (encTok q) := fun q => List.map_set
  simp only [cntTok] at hki1
  obtain ⟨es0, e0, hg0, he0, hel0, hS0, hw0⟩ := hh.wr (j := 0) hi' (Nat.le_of_ble_eq_true rfl)
  have hel0 : e0.length = 5 := hel0
  obtain ⟨hh, hf0, hn0⟩ := hw0 (.int .i64 ki) (.int _ _)
  have hfr := fun a (ha : ¬ S a) => (hf0 a ha).trans (hfr a ha)
  have hnx := hn0.trans hnx
  repeat' first|(apply yA;exact rfl)|apply yB|apply yC|((first|apply yG|apply yH|apply yI);exact rfl;(first|exact rfl|exact aop_iaddrO rfl rfl hni hi' hg0 he0 hel0|exact aop_storeO rfl rfl hg0 he0 (by omega)))|(apply yN;exact rfl)
  obtain ⟨k0, hk0⟩ : ∃ z, ki + 1 = z := ⟨_, rfl⟩
  rw [show IntKind.i64.wrap (ki + 1) = k0 by rw [wrap64 (by omega) (by omega)]; exact hk0]
  obtain ⟨es1, e1, hg1, he1, hel1, hS1, hw1⟩ := hh.wr (j := 1) hi' (Nat.le_of_ble_eq_true rfl)
  have hel1 : e1.length = 5 := hel1
  obtain ⟨hh, hf1, hn1⟩ := hw1 (.int .i64 k0) (.int _ _)
  have hfr := fun a (ha : ¬ S a) => (hf1 a ha).trans (hfr a ha)
  have hnx := hn1.trans hnx
  repeat' first|(apply yA;exact rfl)|apply yB|apply yC|((first|apply yG|apply yH|apply yI);exact rfl;(first|exact rfl|exact aop_iaddrO rfl rfl hni hi' hg1 he1 hel1|exact aop_storeO rfl rfl hg1 he1 (by omega)))|(apply yN;exact rfl)
  obtain ⟨k1, hk1⟩ : ∃ z, k0 + 1 = z := ⟨_, rfl⟩
  rw [show IntKind.i64.wrap (k0 + 1) = k1 by rw [wrap64 (by omega) (by omega)]; exact hk1]
  obtain ⟨es2, e2, hg2, he2, hel2, hS2, hw2⟩ := hh.wr (j := 2) hi' (Nat.le_of_ble_eq_true rfl)
  have hel2 : e2.length = 5 := hel2
  obtain ⟨hh, hf2, hn2⟩ := hw2 (.int .i64 k1) (.int _ _)
  have hfr := fun a (ha : ¬ S a) => (hf2 a ha).trans (hfr a ha)
  have hnx := hn2.trans hnx
  repeat' first|(apply yA;exact rfl)|apply yB|apply yC|((first|apply yG|apply yH|apply yI);exact rfl;(first|exact rfl|exact aop_iaddrO rfl rfl hni hi' hg2 he2 hel2|exact aop_storeO rfl rfl hg2 he2 (by omega)))|(apply yN;exact rfl)
  obtain ⟨k2, hk2⟩ : ∃ z, k1 + 1 = z := ⟨_, rfl⟩
  rw [show IntKind.i64.wrap (k1 + 1) = k2 by rw [wrap64 (by omega) (by omega)]; exact hk2]
  obtain ⟨es3, e3, hg3, he3, hel3, hS3, hw3⟩ := hh.wr (j := 3) hi' (Nat.le_of_ble_eq_true rfl)
  have hel3 : e3.length = 5 := hel3
  obtain ⟨hh, hf3, hn3⟩ := hw3 (.int .i64 k2) (.int _ _)
  have hfr := fun a (ha : ¬ S a) => (hf3 a ha).trans (hfr a ha)
  have hnx := hn3.trans hnx
  repeat' first|(apply yA;exact rfl)|apply yB|apply yC|((first|apply yG|apply yH|apply yI);exact rfl;(first|exact rfl|exact aop_iaddrO rfl rfl hni hi' hg3 he3 hel3|exact aop_storeO rfl rfl hg3 he3 (by omega)))|(apply yN;exact rfl)
  obtain ⟨k3, hk3⟩ : ∃ z, k2 + 1 = z := ⟨_, rfl⟩
  rw [show IntKind.i64.wrap (k2 + 1) = k3 by rw [wrap64 (by omega) (by omega)]; exact hk3]
  obtain ⟨es4, e4, hg4, he4, hel4, hS4, hw4⟩ := hh.wr (j := 4) hi' (Nat.le_of_ble_eq_true rfl)
  have hel4 : e4.length = 5 := hel4
  obtain ⟨hh, hf4, hn4⟩ := hw4 (.str (mText k3)) (.str _)
  have hfr := fun a (ha : ¬ S a) => (hf4 a ha).trans (hfr a ha)
  have hnx := hn4.trans hnx
  repeat' first|(apply yA;exact rfl)|apply yB|apply yC|((first|apply yG|apply yH|apply yI);exact rfl;(first|exact rfl|exact aop_iaddrO rfl rfl hni hi' hg4 he4 hel4|exact aop_storeO rfl rfl hg4 he4 (by omega)))|(apply yN;exact rfl)|((first|apply yQ|apply yR|apply yS);(iterate 3 exact rfl);exact markText_ok _ (by omega))
  obtain ⟨k4, hk4⟩ : ∃ z, k3 + 1 = z := ⟨_, rfl⟩
  rw [show IntKind.i64.wrap (k3 + 1) = k4 by rw [wrap64 (by omega) (by omega)]; exact hk4]
  have hkend : k4 = ki + cntTok ys[i] := by simp only [cntTok]; omega
  refine hnext _ _ rfl (congrArg (fun z => some (AV.c (Ce.int .i64 z))) hkend) rfl hnx hfr ?_
  rw [hset]
  subst hk0 hk1 hk2 hk3 hk4
  exact hh
def markChk (a : Chk) (k : Int) : Chk := ⟨markL markTok cntTok a.expr (k)⟩
def cntChk (a : Chk) : Int := 0 + cntL cntTok a.expr
theorem cntChk_nonneg (a : Chk) : 0 ≤ cntChk a := by
  have := cntL_nonneg (c := cntTok) cntTok_nonneg a.expr
  simp only [cntChk]
  omega
theorem cntChk_sz (a : Chk) (l : Int) (h : 0 ≤ l) (hs : 0 ≤ zChk a l) : cntChk a ≤ 8 * (l - zChk a l) + 8 := by
  have := chain_cnt (fs := [(szL zTok a.expr)]) (.cons (c := cntL cntTok a.expr) (fun q h hs => szL_cnt8 zTok_le cntTok_sz a.expr q h hs) .nil) l h hs
  simp only [cntChk]
  simp only [zChk] at hs ⊢
  omega
theorem markChkS_ok (xs : List Chk) (k : Int) (hx : xs.length ≤ 34359738368) (hb : ∀ a ∈ xs, bChk 34359738368 a) (hk0 : 0 ≤ k) (hk : k + cntL cntChk xs ≤ 34359738368) : Marks Tryz.prog 96 (.fz (xs.map encChk)) (.fz ((markL markChk cntChk xs k).map encChk)) k (k + cntL cntChk xs) := by
  refine markS_ok mixed c_laws_markCheckS_ok (Nat.le_of_ble_eq_true rfl) (Nat.le_of_ble_eq_true rfl) encChk markChk cntChk cntChk_nonneg xs k hx hk0 hk ?_
  intro n0 rets R K σ τ S x i ni ki ys hi fr hn0 hyl hni hki0 hki1 h0 h1 h5 hmem hh hnext
  have hi' : i < (ys.map encChk).length := by simpa using hi
  have hyi : (ys.map encChk)[i] = encChk ys[i] := by simp
  have hb := hb _ hmem
  obtain ⟨id, v, c, rfl⟩ := hh.shape hi'
  have hh : Has τ S (.fz ((ys.map encChk).set i (encChk ys[i]))) (.sl id v 0 (ys.map encChk).length c) := by rw [← hyi, List.set_getElem_self]; exact hh
  have hfr : ∀ a, ¬ S a → τ.get a = τ.get a := fun _ _ => rfl
  have hnx : τ.next = τ.next := rfl
  refine .same (look_three h0 h1 h5) ?_
  have hset : ∀ q, (ys.set i q).map encChk = (ys.map encChk).set i (encChk q) := fun q => List.map_set
  have hc0 := cntL_nonneg (c := cntTok) cntTok_nonneg ys[i].expr
  simp only [cntChk] at hki1
  obtain ⟨es0, e0, T0, hg0, he0, hel0, hTS0, hj0, hch0, hback0⟩ := hh.ch (j := 0) (y := .fz (ys[i].expr.map encTok)) hi' (Nat.le_of_ble_eq_true rfl) rfl
  repeat' first|(apply yA;exact rfl)|apply yB|apply yC|((first|apply yG|apply yH|apply yI);exact rfl;(first|exact rfl|exact aop_iaddrO rfl rfl hni hi' hg0 he0 hel0|exact aop_loadO rfl hg0 he0 (show 0 + 0 < e0.length by omega)))|(apply yN;exact rfl)
  refine Go.call _ rfl rfl rfl ((markTokS_ok ys[i].expr ki hb.1 hb.2 (by omega) (by omega)).at_ _ T0 _ hch0) ?_
  rintro r τ0 ⟨rfl, hn0, hf0, hhc0⟩
  have hh := hback0 τ0 _ hf0 hhc0
  have hfr := fun a (ha : ¬ S a) => (hf0 a (fun h => ha (hTS0 a h))).trans (hfr a ha)
  have hnx := hn0.trans hnx
  obtain ⟨k0, hk0⟩ : ∃ z, ki + cntL cntTok ys[i].expr = z := ⟨_, rfl⟩
  rw [hk0]
  clear hg0 he0 hel0 hch0 hback0 hf0 hn0 hhc0
  repeat' first|(apply yA;exact rfl)|apply yB|apply yC|((first|apply yG|apply yH|apply yI);exact rfl;(first|exact rfl))|(apply yN;exact rfl)
  have hkend : k0 = ki + cntChk ys[i] := by simp only [cntChk]; omega
  refine hnext _ _ rfl (congrArg (fun z => some (AV.c (Ce.int .i64 z))) hkend) rfl hnx hfr ?_
  rw [hset]
  subst hk0
  exact hh
def markUniq (a : Uniq) (k : Int) : Uniq := ⟨markL markI (fun _ => 1) a.cols (k)⟩
def cntUniq (a : Uniq) : Int := 0 + cntL (fun _ => 1) a.cols
theorem cntUniq_nonneg (a : Uniq) : 0 ≤ cntUniq a := by
  have := cntL_nonneg (c := (fun _ => 1)) (fun _ => by decide) a.cols
  simp only [cntUniq]
  omega
theorem cntUniq_sz (a : Uniq) (l : Int) (h : 0 ≤ l) (hs : 0 ≤ zUniq a l) : cntUniq a ≤ 8 * (l - zUniq a l) + 8 := by
  have := chain_cnt (fs := [(zI a.cols)]) (.cons (c := cntL (fun _ => 1) a.cols) (cnt_ints a.cols) .nil) l h hs
  simp only [cntUniq]
  simp only [zUniq] at hs ⊢
  omega
theorem markUniqS_ok (xs : List Uniq) (k : Int) (hx : xs.length ≤ 34359738368) (hb : ∀ a ∈ xs, bUniq 34359738368 a) (hk0 : 0 ≤ k) (hk : k + cntL cntUniq xs ≤ 34359738368) : Marks Tryz.prog 95 (.fz (xs.map encUniq)) (.fz ((markL markUniq cntUniq xs k).map encUniq)) k (k + cntL cntUniq xs) := by
  refine markS_ok mixed c_laws_markUniqueS_ok (Nat.le_of_ble_eq_true rfl) (Nat.le_of_ble_eq_true rfl) encUniq markUniq cntUniq cntUniq_nonneg xs k hx hk0 hk ?_
  intro n0 rets R K σ τ S x i ni ki ys hi fr hn0 hyl hni hki0 hki1 h0 h1 h5 hmem hh hnext
  have hi' : i < (ys.map encUniq).length := by simpa using hi
  have hyi : (ys.map encUniq)[i] = encUniq ys[i] := by simp
  have hb := hb _ hmem
  obtain ⟨id, v, c, rfl⟩ := hh.shape hi'
  have hh : Has τ S (.fz ((ys.map encUniq).set i (encUniq ys[i]))) (.sl id v 0 (ys.map encUniq).length c) := by rw [← hyi, List.set_getElem_self]; exact hh
  have hfr : ∀ a, ¬ S a → τ.get a = τ.get a := fun _ _ => rfl
  have hnx : τ.next = τ.next := rfl
  refine .same (look_three h0 h1 h5) ?_
  have hset : ∀ q, (ys.set i q).map encUniq = (ys.map encUniq).set i (encUniq q) := fun q => List.map_set
  have hc0 := cntL_nonneg (c := (fun _ => 1)) (fun _ => by decide) ys[i].cols
  simp only [cntUniq] at hki1
  obtain ⟨es0, e0, T0, hg0, he0, hel0, hTS0, hj0, hch0, hback0⟩ := hh.ch (j := 0) (y := .fz (ys[i].cols.map encI)) hi' (Nat.le_of_ble_eq_true rfl) rfl
  repeat' first|(apply yA;exact rfl)|apply yB|apply yC|((first|apply yG|apply yH|apply yI);exact rfl;(first|exact rfl|exact aop_iaddrO rfl rfl hni hi' hg0 he0 hel0|exact aop_loadO rfl hg0 he0 (show 0 + 0 < e0.length by omega)))|(apply yN;exact rfl)
  refine Go.call _ rfl rfl rfl ((markInt64S_ok ys[i].cols ki hb  (by omega) (by omega)).at_ _ T0 _ hch0) ?_
  rintro r τ0 ⟨rfl, hn0, hf0, hhc0⟩
  have hh := hback0 τ0 _ hf0 hhc0
  have hfr := fun a (ha : ¬ S a) => (hf0 a (fun h => ha (hTS0 a h))).trans (hfr a ha)
  have hnx := hn0.trans hnx
  obtain ⟨k0, hk0⟩ : ∃ z, ki + cntL (fun _ => 1) ys[i].cols = z := ⟨_, rfl⟩
  rw [hk0]
  clear hg0 he0 hel0 hch0 hback0 hf0 hn0 hhc0
  repeat' first|(apply yA;exact rfl)|apply yB|apply yC|((first|apply yG|apply yH|apply yI);exact rfl;(first|exact rfl))|(apply yN;exact rfl)
  have hkend : k0 = ki + cntUniq ys[i] := by simp only [cntUniq]; omega
  refine hnext _ _ rfl (congrArg (fun z => some (AV.c (Ce.int .i64 z))) hkend) rfl hnx hfr ?_
  rw [hset]
  subst hk0
  exact hh
def markFk (a : Fk) (k : Int) : Fk := ⟨markL markI (fun _ => 1) a.cols (k), mText (k + cntL (fun _ => 1) a.cols), k + cntL (fun _ => 1) a.cols + 1, k + cntL (fun _ => 1) a.cols + 1 + 1, (k + cntL (fun _ => 1) a.cols + 1 + 1 + 1).tmod 3 == 0⟩
def cntFk (a : Fk) : Int := 4 + cntL (fun _ => 1) a.cols
theorem cntFk_nonneg (a : Fk) : 0 ≤ cntFk a := by
  have := cntL_nonneg (c := (fun _ => 1)) (fun _ => by decide) a.cols
  simp only [cntFk]
  omega
theorem cntFk_sz (a : Fk) (l : Int) (h : 0 ≤ l) (hs : 0 ≤ zFk a l) : cntFk a ≤ 8 * (l - zFk a l) + 8 := by
  have := chain_cnt (fs := [(zI a.cols), (fun l => l - a.table.length)]) (.cons (c := cntL (fun _ => 1) a.cols) (cnt_ints a.cols) (.cons (c := 0) (cnt_str a.table) .nil)) l h hs
  simp only [cntFk]
  simp only [zFk] at hs ⊢
  omega
theorem markFkS_ok (xs : List Fk) (k : Int) (hx : xs.length ≤ 34359738368) (hb : ∀ a ∈ xs, bFk 34359738368 a) (hk0 : 0 ≤ k) (hk : k + cntL cntFk xs ≤ 34359738368) : Marks Tryz.prog 97 (.fz (xs.map encFk)) (.fz ((markL markFk cntFk xs k).map encFk)) k (k + cntL cntFk xs) := by
  refine markS_ok mixed c_laws_markFkS_ok (Nat.le_of_ble_eq_true rfl) (Nat.le_of_ble_eq_true rfl) encFk markFk cntFk cntFk_nonneg xs k hx hk0 hk ?_
  intro n0 rets R K σ τ S x i ni ki ys hi fr hn0 hyl hni hki0 hki1 h0 h1 h5 hmem hh hnext
  have hi' : i < (ys.map encFk).length := by simpa using hi
  have hyi : (ys.map encFk)[i] = encFk ys[i] := by simp
  have hb := hb _ hmem
  obtain ⟨id, v, c, rfl⟩ := hh.shape hi'
  have hh : Has τ S (.fz ((ys.map encFk).set i (encFk ys[i]))) (.sl id v 0 (ys.map encFk).length c) := by rw [← hyi, List.set_getElem_self]; exact hh
  have hfr : ∀ a, ¬ S a → τ.get a = τ.get a := fun _ _ => rfl
  have hnx : τ.next = τ.next := rfl
  refine .same (look_three h0 h1 h5) ?_
  have hset : ∀ q, (ys.set i q).map encFk = (ys.map encFk).set i (encFk q) := fun q => List.map_set
  have hc0 := cntL_nonneg (c := (fun _ => 1)) (fun _ => by decide) ys[i].cols
  simp only [cntFk] at hki1
  obtain ⟨es0, e0, T0, hg0, he0, hel0, hTS0, hj0, hch0, hback0⟩ := hh.ch (j := 0) (y := .fz (ys[i].cols.map encI)) hi' (Nat.le_of_ble_eq_true rfl) rfl
  repeat' first|(apply yA;exact rfl)|apply yB|apply yC|((first|apply yG|apply yH|apply yI);exact rfl;(first|exact rfl|exact aop_iaddrO rfl rfl hni hi' hg0 he0 hel0|exact aop_loadO rfl hg0 he0 (show 0 + 0 < e0.length by omega)))|(apply yN;exact rfl)
  refine Go.call _ rfl rfl rfl ((markInt64S_ok ys[i].cols ki hb.1  (by omega) (by omega)).at_ _ T0 _ hch0) ?_
  rintro r τ0 ⟨rfl, hn0, hf0, hhc0⟩
  have hh := hback0 τ0 _ hf0 hhc0
  have hfr := fun a (ha : ¬ S a) => (hf0 a (fun h => ha (hTS0 a h))).trans (hfr a ha)
  have hnx := hn0.trans hnx
  obtain ⟨k0, hk0⟩ : ∃ z, ki + cntL (fun _ => 1) ys[i].cols = z := ⟨_, rfl⟩
  rw [hk0]
  clear hg0 he0 hel0 hch0 hback0 hf0 hn0 hhc0
  obtain ⟨es1, e1, hg1, he1, hel1, hS1, hw1⟩ := hh.wr (j := 1) hi' (Nat.le_of_ble_eq_true rfl)
  have hel1 : e1.length = 5 := hel1
  obtain ⟨hh, hf1, hn1⟩ := hw1 (.str (mText k0)) (.str _)
  have hfr := fun a (ha : ¬ S a) => (hf1 a ha).trans (hfr a ha)
  have hnx := hn1.trans hnx
  repeat' first|(apply yA;exact rfl)|apply yB|apply yC|((first|apply yG|apply yH|apply yI);exact rfl;(first|exact rfl|exact aop_iaddrO rfl rfl hni hi' hg1 he1 hel1|exact aop_storeO rfl rfl hg1 he1 (by omega)))|(apply yN;exact rfl)|((first|apply yQ|apply yR|apply yS);(iterate 3 exact rfl);exact markText_ok _ (by omega))
  obtain ⟨k1, hk1⟩ : ∃ z, k0 + 1 = z := ⟨_, rfl⟩
  rw [show IntKind.i64.wrap (k0 + 1) = k1 by rw [wrap64 (by omega) (by omega)]; exact hk1]
  obtain ⟨es2, e2, hg2, he2, hel2, hS2, hw2⟩ := hh.wr (j := 2) hi' (Nat.le_of_ble_eq_true rfl)
  have hel2 : e2.length = 5 := hel2
  obtain ⟨hh, hf2, hn2⟩ := hw2 (.int .i64 k1) (.int _ _)
  have hfr := fun a (ha : ¬ S a) => (hf2 a ha).trans (hfr a ha)
  have hnx := hn2.trans hnx
  repeat' first|(apply yA;exact rfl)|apply yB|apply yC|((first|apply yG|apply yH|apply yI);exact rfl;(first|exact rfl|exact aop_iaddrO rfl rfl hni hi' hg2 he2 hel2|exact aop_storeO rfl rfl hg2 he2 (by omega)))|(apply yN;exact rfl)
  obtain ⟨k2, hk2⟩ : ∃ z, k1 + 1 = z := ⟨_, rfl⟩
  rw [show IntKind.i64.wrap (k1 + 1) = k2 by rw [wrap64 (by omega) (by omega)]; exact hk2]
  obtain ⟨es3, e3, hg3, he3, hel3, hS3, hw3⟩ := hh.wr (j := 3) hi' (Nat.le_of_ble_eq_true rfl)
  have hel3 : e3.length = 5 := hel3
  obtain ⟨hh, hf3, hn3⟩ := hw3 (.int .i64 k2) (.int _ _)
  have hfr := fun a (ha : ¬ S a) => (hf3 a ha).trans (hfr a ha)
  have hnx := hn3.trans hnx
  repeat' first|(apply yA;exact rfl)|apply yB|apply yC|((first|apply yG|apply yH|apply yI);exact rfl;(first|exact rfl|exact aop_iaddrO rfl rfl hni hi' hg3 he3 hel3|exact aop_storeO rfl rfl hg3 he3 (by omega)))|(apply yN;exact rfl)
  obtain ⟨k3, hk3⟩ : ∃ z, k2 + 1 = z := ⟨_, rfl⟩
  rw [show IntKind.i64.wrap (k2 + 1) = k3 by rw [wrap64 (by omega) (by omega)]; exact hk3]
  obtain ⟨es4, e4, hg4, he4, hel4, hS4, hw4⟩ := hh.wr (j := 4) hi' (Nat.le_of_ble_eq_true rfl)
  have hel4 : e4.length = 5 := hel4
  obtain ⟨hh, hf4, hn4⟩ := hw4 (.bool ((k3).tmod 3 == 0)) (.bool _)
  have hfr := fun a (ha : ¬ S a) => (hf4 a ha).trans (hfr a ha)
  have hnx := hn4.trans hnx
  repeat' first|(apply yA;exact rfl)|apply yB|apply yC|((first|apply yG|apply yH|apply yI);exact rfl;(first|exact rfl|exact aop_iaddrO rfl rfl hni hi' hg4 he4 hel4|exact aop_storeO rfl rfl hg4 he4 (by omega)|exact aop_rem rfl rfl (by decide)))|(apply yN;exact rfl)
  obtain ⟨k4, hk4⟩ : ∃ z, k3 + 1 = z := ⟨_, rfl⟩
  rw [show IntKind.i64.wrap (k3 + 1) = k4 by rw [wrap64 (by omega) (by omega)]; exact hk4]
  have hkend : k4 = ki + cntFk ys[i] := by simp only [cntFk]; omega
  refine hnext _ _ rfl (congrArg (fun z => some (AV.c (Ce.int .i64 z))) hkend) rfl hnx hfr ?_
  rw [hset]
  subst hk0 hk1 hk2 hk3 hk4
  exact hh
def markCol (a : Col) (k : Int) : Col := ⟨mText (k), k + 1, (k + 1 + 1).tmod 3 == 0, ⟨k + 1 + 1 + 1, k + 1 + 1 + 1 + 1, mText (k + 1 + 1 + 1 + 1 + 1)⟩⟩
def cntCol (a : Col) : Int := 6
theorem cntCol_nonneg (a : Col) : 0 ≤ cntCol a := by
  simp only [cntCol]
  omega
theorem cntCol_sz (a : Col) (l : Int) (h : 0 ≤ l) (hs : 0 ≤ zCol a l) : cntCol a ≤ 8 * (l - zCol a l) + 8 := by
  have := chain_cnt (fs := [(fun l => l - a.name.length), (szV a.dflt)]) (.cons (c := 0) (cnt_str a.name) (.cons (c := 0) (fun q h hs => by have := szV_le a.dflt q h; omega) .nil)) l h hs
  simp only [cntCol]
  simp only [zCol] at hs ⊢
  omega
theorem markColS_ok (xs : List Col) (k : Int) (hx : xs.length ≤ 34359738368) (hb : ∀ a ∈ xs, bCol 34359738368 a) (hk0 : 0 ≤ k) (hk : k + cntL cntCol xs ≤ 34359738368) : Marks Tryz.prog 94 (.fz (xs.map encCol)) (.fz ((markL markCol cntCol xs k).map encCol)) k (k + cntL cntCol xs) := by
  refine markS_ok mixed c_laws_markColS_ok (Nat.le_of_ble_eq_true rfl) (Nat.le_of_ble_eq_true rfl) encCol markCol cntCol cntCol_nonneg xs k hx hk0 hk ?_
  intro n0 rets R K σ τ S x i ni ki ys hi fr hn0 hyl hni hki0 hki1 h0 h1 h5 hmem hh hnext
  have hi' : i < (ys.map encCol).length := by simpa using hi
  have hyi : (ys.map encCol)[i] = encCol ys[i] := by simp
  have hb := hb _ hmem
  obtain ⟨id, v, c, rfl⟩ := hh.shape hi'
  have hh : Has τ S (.fz ((ys.map encCol).set i (encCol ys[i]))) (.sl id v 0 (ys.map encCol).length c) := by rw [← hyi, List.set_getElem_self]; exact hh
  have hfr : ∀ a, ¬ S a → τ.get a = τ.get a := fun _ _ => rfl
  have hnx : τ.next = τ.next := rfl
  refine .same (look_three h0 h1 h5) ?_
  have hset : ∀ q, (ys.set i q).map encCol = (ys.map encCol).set i (encCol q) := fun q => List.map_set
  simp only [cntCol] at hki1
  obtain ⟨es0, e0, hg0, he0, hel0, hS0, hw0⟩ := hh.wr (j := 0) hi' (Nat.le_of_ble_eq_true rfl)
  have hel0 : e0.length = 6 := hel0
  obtain ⟨hh, hf0, hn0⟩ := hw0 (.str (mText ki)) (.str _)
  have hfr := fun a (ha : ¬ S a) => (hf0 a ha).trans (hfr a ha)
  have hnx := hn0.trans hnx
  repeat' first|(apply yA;exact rfl)|apply yB|apply yC|((first|apply yG|apply yH|apply yI);exact rfl;(first|exact rfl|exact aop_iaddrO rfl rfl hni hi' hg0 he0 hel0|exact aop_storeO rfl rfl hg0 he0 (by omega)))|(apply yN;exact rfl)|((first|apply yQ|apply yR|apply yS);(iterate 3 exact rfl);exact markText_ok _ (by omega))
  obtain ⟨k0, hk0⟩ : ∃ z, ki + 1 = z := ⟨_, rfl⟩
  rw [show IntKind.i64.wrap (ki + 1) = k0 by rw [wrap64 (by omega) (by omega)]; exact hk0]
  obtain ⟨es1, e1, hg1, he1, hel1, hS1, hw1⟩ := hh.wr (j := 1) hi' (Nat.le_of_ble_eq_true rfl)
  have hel1 : e1.length = 6 := hel1
  obtain ⟨hh, hf1, hn1⟩ := hw1 (.int .i64 k0) (.int _ _)
  have hfr := fun a (ha : ¬ S a) => (hf1 a ha).trans (hfr a ha)
  have hnx := hn1.trans hnx
  repeat' first|(apply yA;exact rfl)|apply yB|apply yC|((first|apply yG|apply yH|apply yI);exact rfl;(first|exact rfl|exact aop_iaddrO rfl rfl hni hi' hg1 he1 hel1|exact aop_storeO rfl rfl hg1 he1 (by omega)))|(apply yN;exact rfl)
  obtain ⟨k1, hk1⟩ : ∃ z, k0 + 1 = z := ⟨_, rfl⟩
  rw [show IntKind.i64.wrap (k0 + 1) = k1 by rw [wrap64 (by omega) (by omega)]; exact hk1]
  obtain ⟨es2, e2, hg2, he2, hel2, hS2, hw2⟩ := hh.wr (j := 2) hi' (Nat.le_of_ble_eq_true rfl)
  have hel2 : e2.length = 6 := hel2
  obtain ⟨hh, hf2, hn2⟩ := hw2 (.bool ((k1).tmod 3 == 0)) (.bool _)
  have hfr := fun a (ha : ¬ S a) => (hf2 a ha).trans (hfr a ha)
  have hnx := hn2.trans hnx
  repeat' first|(apply yA;exact rfl)|apply yB|apply yC|((first|apply yG|apply yH|apply yI);exact rfl;(first|exact rfl|exact aop_iaddrO rfl rfl hni hi' hg2 he2 hel2|exact aop_storeO rfl rfl hg2 he2 (by omega)|exact aop_rem rfl rfl (by decide)))|(apply yN;exact rfl)
  obtain ⟨k2, hk2⟩ : ∃ z, k1 + 1 = z := ⟨_, rfl⟩
  rw [show IntKind.i64.wrap (k1 + 1) = k2 by rw [wrap64 (by omega) (by omega)]; exact hk2]
  obtain ⟨es3, e3, hg3, he3, hel3, hS3, hw3⟩ := hh.wr (j := 3) hi' (Nat.le_of_ble_eq_true rfl)
  have hel3 : e3.length = 6 := hel3
  obtain ⟨hh, hf3, hn3⟩ := hw3 (.int .i64 k2) (.int _ _)
  have hfr := fun a (ha : ¬ S a) => (hf3 a ha).trans (hfr a ha)
  have hnx := hn3.trans hnx
  repeat' first|(apply yA;exact rfl)|apply yB|apply yC|((first|apply yG|apply yH|apply yI);exact rfl;(first|exact rfl|exact aop_iaddrO rfl rfl hni hi' hg3 he3 hel3|exact aop_storeO rfl rfl hg3 he3 (by omega)))|(apply yN;exact rfl)
  obtain ⟨k3, hk3⟩ : ∃ z, k2 + 1 = z := ⟨_, rfl⟩
  rw [show IntKind.i64.wrap (k2 + 1) = k3 by rw [wrap64 (by omega) (by omega)]; exact hk3]
  obtain ⟨es4, e4, hg4, he4, hel4, hS4, hw4⟩ := hh.wr (j := 4) hi' (Nat.le_of_ble_eq_true rfl)
  have hel4 : e4.length = 6 := hel4
  obtain ⟨hh, hf4, hn4⟩ := hw4 (.int .i64 k3) (.int _ _)
  have hfr := fun a (ha : ¬ S a) => (hf4 a ha).trans (hfr a ha)
  have hnx := hn4.trans hnx
  repeat' first|(apply yA;exact rfl)|apply yB|apply yC|((first|apply yG|apply yH|apply yI);exact rfl;(first|exact rfl|exact aop_iaddrO rfl rfl hni hi' hg4 he4 hel4|exact aop_storeO rfl rfl hg4 he4 (by omega)))|(apply yN;exact rfl)
  obtain ⟨k4, hk4⟩ : ∃ z, k3 + 1 = z := ⟨_, rfl⟩
  rw [show IntKind.i64.wrap (k3 + 1) = k4 by rw [wrap64 (by omega) (by omega)]; exact hk4]
  obtain ⟨es5, e5, hg5, he5, hel5, hS5, hw5⟩ := hh.wr (j := 5) hi' (Nat.le_of_ble_eq_true rfl)
  have hel5 : e5.length = 6 := hel5
  obtain ⟨hh, hf5, hn5⟩ := hw5 (.str (mText k4)) (.str _)
  have hfr := fun a (ha : ¬ S a) => (hf5 a ha).trans (hfr a ha)
  have hnx := hn5.trans hnx
  repeat' first|(apply yA;exact rfl)|apply yB|apply yC|((first|apply yG|apply yH|apply yI);exact rfl;(first|exact rfl|exact aop_iaddrO rfl rfl hni hi' hg5 he5 hel5|exact aop_storeO rfl rfl hg5 he5 (by omega)))|(apply yN;exact rfl)|((first|apply yQ|apply yR|apply yS);(iterate 3 exact rfl);exact markText_ok _ (by omega))
  obtain ⟨k5, hk5⟩ : ∃ z, k4 + 1 = z := ⟨_, rfl⟩
  rw [show IntKind.i64.wrap (k4 + 1) = k5 by rw [wrap64 (by omega) (by omega)]; exact hk5]
  have hkend : k5 = ki + cntCol ys[i] := by simp only [cntCol]; omega
  refine hnext _ _ rfl (congrArg (fun z => some (AV.c (Ce.int .i64 z))) hkend) rfl hnx hfr ?_
  rw [hset]
  subst hk0 hk1 hk2 hk3 hk4 hk5
  exact hh
end Go.Proofs.YtdgnfdljkghpjaaGreat.Am

/- The laws' helpers on types, printed by a program: Row, Data, Line. -/
set_option linter.unusedVariables false
set_option linter.unusedSimpArgs false
namespace Go.Proofs.YtdgnfdljkghpjaaGreat.Am
def markRowD (a : RowD) (k : Int) : RowD := ⟨k, markL markV (fun _ => 3) a.vals (k + 1)⟩
def cntRowD (a : RowD) : Int := 1 + cntL (fun _ => 3) a.vals
theorem cntRowD_nonneg (a : RowD) : 0 ≤ cntRowD a := by
  have := cntL_nonneg (c := (fun _ => 3)) (fun _ => by decide) a.vals
  simp only [cntRowD]
  omega
theorem cntRowD_sz (a : RowD) (l : Int) (h : 0 ≤ l) (hs : 0 ≤ zRowD a l) : cntRowD a ≤ 8 * (l - zRowD a l) + 8 := by
  have := chain_cnt (fs := [(szL szV a.vals)]) (.cons (c := cntL (fun _ => 3) a.vals) (fun q h hs => szL_cnt8 szV_le szV_cnt a.vals q h hs) .nil) l h hs
  simp only [cntRowD]
  simp only [zRowD] at hs ⊢
  omega
theorem markRowDS_ok (xs : List RowD) (k : Int) (hx : xs.length ≤ 34359738368) (hb : ∀ a ∈ xs, bRowD 34359738368 a) (hk0 : 0 ≤ k) (hk : k + cntL cntRowD xs ≤ 34359738368) : Marks Tryz.prog 98 (.fz (xs.map encRowD)) (.fz ((markL markRowD cntRowD xs k).map encRowD)) k (k + cntL cntRowD xs) := by
  refine markS_ok mixed c_laws_markRowS_ok (Nat.le_of_ble_eq_true rfl) (Nat.le_of_ble_eq_true rfl) encRowD markRowD cntRowD cntRowD_nonneg xs k hx hk0 hk ?_
  intro n0 rets R K σ τ S x i ni ki ys hi fr hn0 hyl hni hki0 hki1 h0 h1 h5 hmem hh hnext
  have hi' : i < (ys.map encRowD).length := by simpa using hi
  have hyi : (ys.map encRowD)[i] = encRowD ys[i] := by simp
  have hb := hb _ hmem
  obtain ⟨id, v, c, rfl⟩ := hh.shape hi'
  have hh : Has τ S (.fz ((ys.map encRowD).set i (encRowD ys[i]))) (.sl id v 0 (ys.map encRowD).length c) := by rw [← hyi, List.set_getElem_self]; exact hh
  have hfr : ∀ a, ¬ S a → τ.get a = τ.get a := fun _ _ => rfl
  have hnx : τ.next = τ.next := rfl
  refine .same (look_three h0 h1 h5) ?_
  have hset : ∀ q, (ys.set i q).map encRowD = (ys.map encRowD).set i (encRowD q) := fun q => List.map_set
  have hc0 := cntL_nonneg (c := (fun _ => 3)) (fun _ => by decide) ys[i].vals
  simp only [cntRowD] at hki1
  obtain ⟨es0, e0, hg0, he0, hel0, hS0, hw0⟩ := hh.wr (j := 0) hi' (Nat.le_of_ble_eq_true rfl)
  have hel0 : e0.length = 2 := hel0
  obtain ⟨hh, hf0, hn0⟩ := hw0 (.int .i64 ki) (.int _ _)
  have hfr := fun a (ha : ¬ S a) => (hf0 a ha).trans (hfr a ha)
  have hnx := hn0.trans hnx
  repeat' first|(apply yA;exact rfl)|apply yB|apply yC|((first|apply yG|apply yH|apply yI);exact rfl;(first|exact rfl|exact aop_iaddrO rfl rfl hni hi' hg0 he0 hel0|exact aop_storeO rfl rfl hg0 he0 (by omega)))|(apply yN;exact rfl)
  obtain ⟨k0, hk0⟩ : ∃ z, ki + 1 = z := ⟨_, rfl⟩
  rw [show IntKind.i64.wrap (ki + 1) = k0 by rw [wrap64 (by omega) (by omega)]; exact hk0]
  obtain ⟨es1, e1, T1, hg1, he1, hel1, hTS1, hj1, hch1, hback1⟩ := hh.ch (j := 1) (y := .fz (ys[i].vals.map encV)) hi' (Nat.le_of_ble_eq_true rfl) rfl
  repeat' first|(apply yA;exact rfl)|apply yB|apply yC|((first|apply yG|apply yH|apply yI);exact rfl;(first|exact rfl|exact aop_iaddrO rfl rfl hni hi' hg1 he1 hel1|exact aop_loadO rfl hg1 he1 (show 0 + 1 < e1.length by omega)))|(apply yN;exact rfl)
  refine Go.call _ rfl rfl rfl ((markValS_ok ys[i].vals k0 hb.1 (by omega) (by omega)).at_ _ T1 _ hch1) ?_
  rintro r τ1 ⟨rfl, hn1, hf1, hhc1⟩
  have hh := hback1 τ1 _ hf1 hhc1
  have hfr := fun a (ha : ¬ S a) => (hf1 a (fun h => ha (hTS1 a h))).trans (hfr a ha)
  have hnx := hn1.trans hnx
  obtain ⟨k1, hk1⟩ : ∃ z, k0 + cntL (fun _ => 3) ys[i].vals = z := ⟨_, rfl⟩
  rw [hk1]
  clear hg1 he1 hel1 hch1 hback1 hf1 hn1 hhc1
  repeat' first|(apply yA;exact rfl)|apply yB|apply yC|((first|apply yG|apply yH|apply yI);exact rfl;(first|exact rfl))|(apply yN;exact rfl)
  have hkend : k1 = ki + cntRowD ys[i] := by simp only [cntRowD]; omega
  refine hnext _ _ rfl (congrArg (fun z => some (AV.c (Ce.int .i64 z))) hkend) rfl hnx hfr ?_
  rw [hset]
  subst hk0 hk1
  exact hh
def markData (a : Data) (k : Int) : Data := ⟨markL markRowD cntRowD a.rows (k)⟩
def cntData (a : Data) : Int := 0 + cntL cntRowD a.rows
theorem cntData_nonneg (a : Data) : 0 ≤ cntData a := by
  have := cntL_nonneg (c := cntRowD) cntRowD_nonneg a.rows
  simp only [cntData]
  omega
theorem cntData_sz (a : Data) (l : Int) (h : 0 ≤ l) (hs : 0 ≤ zData a l) : cntData a ≤ 8 * (l - zData a l) + 8 := by
  have := chain_cnt (fs := [(szL zRowD a.rows)]) (.cons (c := cntL cntRowD a.rows) (fun q h hs => szL_cnt8 zRowD_le cntRowD_sz a.rows q h hs) .nil) l h hs
  simp only [cntData]
  simp only [zData] at hs ⊢
  omega
theorem markDataS_ok (xs : List Data) (k : Int) (hx : xs.length ≤ 34359738368) (hb : ∀ a ∈ xs, bData 34359738368 a) (hk0 : 0 ≤ k) (hk : k + cntL cntData xs ≤ 34359738368) : Marks Tryz.prog 42 (.fz (xs.map encData)) (.fz ((markL markData cntData xs k).map encData)) k (k + cntL cntData xs) := by
  refine markS_ok mixed c_laws_markDataS_ok (Nat.le_of_ble_eq_true rfl) (Nat.le_of_ble_eq_true rfl) encData markData cntData cntData_nonneg xs k hx hk0 hk ?_
  intro n0 rets R K σ τ S x i ni ki ys hi fr hn0 hyl hni hki0 hki1 h0 h1 h5 hmem hh hnext
  have hi' : i < (ys.map encData).length := by simpa using hi
  have hyi : (ys.map encData)[i] = encData ys[i] := by simp
  have hb := hb _ hmem
  obtain ⟨id, v, c, rfl⟩ := hh.shape hi'
  have hh : Has τ S (.fz ((ys.map encData).set i (encData ys[i]))) (.sl id v 0 (ys.map encData).length c) := by rw [← hyi, List.set_getElem_self]; exact hh
  have hfr : ∀ a, ¬ S a → τ.get a = τ.get a := fun _ _ => rfl
  have hnx : τ.next = τ.next := rfl
  refine .same (look_three h0 h1 h5) ?_
  have hset : ∀ q, (ys.set i q).map encData = (ys.map encData).set i (encData q) := fun q => List.map_set
  have hc0 := cntL_nonneg (c := cntRowD) cntRowD_nonneg ys[i].rows
  simp only [cntData] at hki1
  obtain ⟨es0, e0, T0, hg0, he0, hel0, hTS0, hj0, hch0, hback0⟩ := hh.ch (j := 0) (y := .fz (ys[i].rows.map encRowD)) hi' (Nat.le_of_ble_eq_true rfl) rfl
  repeat' first|(apply yA;exact rfl)|apply yB|apply yC|((first|apply yG|apply yH|apply yI);exact rfl;(first|exact rfl|exact aop_iaddrO rfl rfl hni hi' hg0 he0 hel0|exact aop_loadO rfl hg0 he0 (show 0 + 0 < e0.length by omega)))|(apply yN;exact rfl)
  refine Go.call _ rfl rfl rfl ((markRowDS_ok ys[i].rows ki hb.1 hb.2 (by omega) (by omega)).at_ _ T0 _ hch0) ?_
  rintro r τ0 ⟨rfl, hn0, hf0, hhc0⟩
  have hh := hback0 τ0 _ hf0 hhc0
  have hfr := fun a (ha : ¬ S a) => (hf0 a (fun h => ha (hTS0 a h))).trans (hfr a ha)
  have hnx := hn0.trans hnx
  obtain ⟨k0, hk0⟩ : ∃ z, ki + cntL cntRowD ys[i].rows = z := ⟨_, rfl⟩
  rw [hk0]
  clear hg0 he0 hel0 hch0 hback0 hf0 hn0 hhc0
  repeat' first|(apply yA;exact rfl)|apply yB|apply yC|((first|apply yG|apply yH|apply yI);exact rfl;(first|exact rfl))|(apply yN;exact rfl)
  have hkend : k0 = ki + cntData ys[i] := by simp only [cntData]; omega
  refine hnext _ _ rfl (congrArg (fun z => some (AV.c (Ce.int .i64 z))) hkend) rfl hnx hfr ?_
  rw [hset]
  subst hk0
  exact hh
end Go.Proofs.YtdgnfdljkghpjaaGreat.Am

/- The laws' helpers on types, printed by a program: Table, Term, Trigger. -/
set_option linter.unusedVariables false
set_option linter.unusedSimpArgs false
namespace Go.Proofs.YtdgnfdljkghpjaaGreat.Am
def markTable (a : Table) (k : Int) : Table := ⟨mText (k), markL markCol cntCol a.cols (k + 1), markL markI (fun _ => 1) a.key (k + 1 + cntL cntCol a.cols), markL markUniq cntUniq a.uniques (k + 1 + cntL cntCol a.cols + cntL (fun _ => 1) a.key), markL markChk cntChk a.checks (k + 1 + cntL cntCol a.cols + cntL (fun _ => 1) a.key + cntL cntUniq a.uniques), markL markFk cntFk a.fks (k + 1 + cntL cntCol a.cols + cntL (fun _ => 1) a.key + cntL cntUniq a.uniques + cntL cntChk a.checks)⟩
def cntTable (a : Table) : Int := 1 + cntL cntCol a.cols + cntL (fun _ => 1) a.key + cntL cntUniq a.uniques + cntL cntChk a.checks + cntL cntFk a.fks
theorem cntTable_nonneg (a : Table) : 0 ≤ cntTable a := by
  have := cntL_nonneg (c := cntCol) cntCol_nonneg a.cols
  have := cntL_nonneg (c := (fun _ => 1)) (fun _ => by decide) a.key
  have := cntL_nonneg (c := cntUniq) cntUniq_nonneg a.uniques
  have := cntL_nonneg (c := cntChk) cntChk_nonneg a.checks
  have := cntL_nonneg (c := cntFk) cntFk_nonneg a.fks
  simp only [cntTable]
  omega
theorem cntTable_sz (a : Table) (l : Int) (h : 0 ≤ l) (hs : 0 ≤ zTable a l) : cntTable a ≤ 8 * (l - zTable a l) + 8 := by
  have := chain_cnt (fs := [(fun l => l - a.name.length), (szL zCol a.cols), (zI a.key), (szL zUniq a.uniques), (szL zChk a.checks), (szL zFk a.fks)]) (.cons (c := 0) (cnt_str a.name) (.cons (c := cntL cntCol a.cols) (fun q h hs => szL_cnt8 zCol_le cntCol_sz a.cols q h hs) (.cons (c := cntL (fun _ => 1) a.key) (cnt_ints a.key) (.cons (c := cntL cntUniq a.uniques) (fun q h hs => szL_cnt8 zUniq_le cntUniq_sz a.uniques q h hs) (.cons (c := cntL cntChk a.checks) (fun q h hs => szL_cnt8 zChk_le cntChk_sz a.checks q h hs) (.cons (c := cntL cntFk a.fks) (fun q h hs => szL_cnt8 zFk_le cntFk_sz a.fks q h hs) .nil)))))) l h hs
  simp only [cntTable]
  simp only [zTable] at hs ⊢
  omega
theorem markTableS_ok (xs : List Table) (k : Int) (hx : xs.length ≤ 34359738368) (hb : ∀ a ∈ xs, bTable 34359738368 a) (hk0 : 0 ≤ k) (hk : k + cntL cntTable xs ≤ 34359738368) : Marks Tryz.prog 41 (.fz (xs.map encTable)) (.fz ((markL markTable cntTable xs k).map encTable)) k (k + cntL cntTable xs) := by
  refine markS_ok mixed c_laws_markTableS_ok (Nat.le_of_ble_eq_true rfl) (Nat.le_of_ble_eq_true rfl) encTable markTable cntTable cntTable_nonneg xs k hx hk0 hk ?_
  intro n0 rets R K σ τ S x i ni ki ys hi fr hn0 hyl hni hki0 hki1 h0 h1 h5 hmem hh hnext
  have hi' : i < (ys.map encTable).length := by simpa using hi
  have hyi : (ys.map encTable)[i] = encTable ys[i] := by simp
  have hb := hb _ hmem
  obtain ⟨id, v, c, rfl⟩ := hh.shape hi'
  have hh : Has τ S (.fz ((ys.map encTable).set i (encTable ys[i]))) (.sl id v 0 (ys.map encTable).length c) := by rw [← hyi, List.set_getElem_self]; exact hh
  have hfr : ∀ a, ¬ S a → τ.get a = τ.get a := fun _ _ => rfl
  have hnx : τ.next = τ.next := rfl
  refine .same (look_three h0 h1 h5) ?_
  have hset : ∀ q, (ys.set i q).map encTable = (ys.map encTable).set i (encTable q) := fun q => List.map_set
  have hc0 := cntL_nonneg (c := cntCol) cntCol_nonneg ys[i].cols
  have hc1 := cntL_nonneg (c := (fun _ => 1)) (fun _ => by decide) ys[i].key
  have hc2 := cntL_nonneg (c := cntUniq) cntUniq_nonneg ys[i].uniques
  have hc3 := cntL_nonneg (c := cntChk) cntChk_nonneg ys[i].checks
  have hc4 := cntL_nonneg (c := cntFk) cntFk_nonneg ys[i].fks
  simp only [cntTable] at hki1
  obtain ⟨es0, e0, hg0, he0, hel0, hS0, hw0⟩ := hh.wr (j := 0) hi' (Nat.le_of_ble_eq_true rfl)
  have hel0 : e0.length = 6 := hel0
  obtain ⟨hh, hf0, hn0⟩ := hw0 (.str (mText ki)) (.str _)
  have hfr := fun a (ha : ¬ S a) => (hf0 a ha).trans (hfr a ha)
  have hnx := hn0.trans hnx
  repeat' first|(apply yA;exact rfl)|apply yB|apply yC|((first|apply yG|apply yH|apply yI);exact rfl;(first|exact rfl|exact aop_iaddrO rfl rfl hni hi' hg0 he0 hel0|exact aop_storeO rfl rfl hg0 he0 (by omega)))|(apply yN;exact rfl)|((first|apply yQ|apply yR|apply yS);(iterate 3 exact rfl);exact markText_ok _ (by omega))
  obtain ⟨k0, hk0⟩ : ∃ z, ki + 1 = z := ⟨_, rfl⟩
  rw [show IntKind.i64.wrap (ki + 1) = k0 by rw [wrap64 (by omega) (by omega)]; exact hk0]
  obtain ⟨es1, e1, T1, hg1, he1, hel1, hTS1, hj1, hch1, hback1⟩ := hh.ch (j := 1) (y := .fz (ys[i].cols.map encCol)) hi' (Nat.le_of_ble_eq_true rfl) rfl
  repeat' first|(apply yA;exact rfl)|apply yB|apply yC|((first|apply yG|apply yH|apply yI);exact rfl;(first|exact rfl|exact aop_iaddrO rfl rfl hni hi' hg1 he1 hel1|exact aop_loadO rfl hg1 he1 (show 0 + 1 < e1.length by omega)))|(apply yN;exact rfl)
  refine Go.call _ rfl rfl rfl ((markColS_ok ys[i].cols k0 hb.2.1.1 hb.2.1.2 (by omega) (by omega)).at_ _ T1 _ hch1) ?_
  rintro r τ1 ⟨rfl, hn1, hf1, hhc1⟩
  have hh := hback1 τ1 _ hf1 hhc1
  have hfr := fun a (ha : ¬ S a) => (hf1 a (fun h => ha (hTS1 a h))).trans (hfr a ha)
  have hnx := hn1.trans hnx
  obtain ⟨k1, hk1⟩ : ∃ z, k0 + cntL cntCol ys[i].cols = z := ⟨_, rfl⟩
  rw [hk1]
  clear hg1 he1 hel1 hch1 hback1 hf1 hn1 hhc1
  obtain ⟨es2, e2, T2, hg2, he2, hel2, hTS2, hj2, hch2, hback2⟩ := hh.ch (j := 2) (y := .fz (ys[i].key.map encI)) hi' (Nat.le_of_ble_eq_true rfl) rfl
  repeat' first|(apply yA;exact rfl)|apply yB|apply yC|((first|apply yG|apply yH|apply yI);exact rfl;(first|exact rfl|exact aop_iaddrO rfl rfl hni hi' hg2 he2 hel2|exact aop_loadO rfl hg2 he2 (show 0 + 2 < e2.length by omega)))|(apply yN;exact rfl)
  refine Go.call _ rfl rfl rfl ((markInt64S_ok ys[i].key k1 hb.2.2.1  (by omega) (by omega)).at_ _ T2 _ hch2) ?_
  rintro r τ2 ⟨rfl, hn2, hf2, hhc2⟩
  have hh := hback2 τ2 _ hf2 hhc2
  have hfr := fun a (ha : ¬ S a) => (hf2 a (fun h => ha (hTS2 a h))).trans (hfr a ha)
  have hnx := hn2.trans hnx
  obtain ⟨k2, hk2⟩ : ∃ z, k1 + cntL (fun _ => 1) ys[i].key = z := ⟨_, rfl⟩
  rw [hk2]
  clear hg2 he2 hel2 hch2 hback2 hf2 hn2 hhc2
  obtain ⟨es3, e3, T3, hg3, he3, hel3, hTS3, hj3, hch3, hback3⟩ := hh.ch (j := 3) (y := .fz (ys[i].uniques.map encUniq)) hi' (Nat.le_of_ble_eq_true rfl) rfl
  repeat' first|(apply yA;exact rfl)|apply yB|apply yC|((first|apply yG|apply yH|apply yI);exact rfl;(first|exact rfl|exact aop_iaddrO rfl rfl hni hi' hg3 he3 hel3|exact aop_loadO rfl hg3 he3 (show 0 + 3 < e3.length by omega)))|(apply yN;exact rfl)
  refine Go.call _ rfl rfl rfl ((markUniqS_ok ys[i].uniques k2 hb.2.2.2.1.1 hb.2.2.2.1.2 (by omega) (by omega)).at_ _ T3 _ hch3) ?_
  rintro r τ3 ⟨rfl, hn3, hf3, hhc3⟩
  have hh := hback3 τ3 _ hf3 hhc3
  have hfr := fun a (ha : ¬ S a) => (hf3 a (fun h => ha (hTS3 a h))).trans (hfr a ha)
  have hnx := hn3.trans hnx
  obtain ⟨k3, hk3⟩ : ∃ z, k2 + cntL cntUniq ys[i].uniques = z := ⟨_, rfl⟩
  rw [hk3]
  clear hg3 he3 hel3 hch3 hback3 hf3 hn3 hhc3
  obtain ⟨es4, e4, T4, hg4, he4, hel4, hTS4, hj4, hch4, hback4⟩ := hh.ch (j := 4) (y := .fz (ys[i].checks.map encChk)) hi' (Nat.le_of_ble_eq_true rfl) rfl
  repeat' first|(apply yA;exact rfl)|apply yB|apply yC|((first|apply yG|apply yH|apply yI);exact rfl;(first|exact rfl|exact aop_iaddrO rfl rfl hni hi' hg4 he4 hel4|exact aop_loadO rfl hg4 he4 (show 0 + 4 < e4.length by omega)))|(apply yN;exact rfl)
  refine Go.call _ rfl rfl rfl ((markChkS_ok ys[i].checks k3 hb.2.2.2.2.1.1 hb.2.2.2.2.1.2 (by omega) (by omega)).at_ _ T4 _ hch4) ?_
  rintro r τ4 ⟨rfl, hn4, hf4, hhc4⟩
  have hh := hback4 τ4 _ hf4 hhc4
  have hfr := fun a (ha : ¬ S a) => (hf4 a (fun h => ha (hTS4 a h))).trans (hfr a ha)
  have hnx := hn4.trans hnx
  obtain ⟨k4, hk4⟩ : ∃ z, k3 + cntL cntChk ys[i].checks = z := ⟨_, rfl⟩
  rw [hk4]
  clear hg4 he4 hel4 hch4 hback4 hf4 hn4 hhc4
  obtain ⟨es5, e5, T5, hg5, he5, hel5, hTS5, hj5, hch5, hback5⟩ := hh.ch (j := 5) (y := .fz (ys[i].fks.map encFk)) hi' (Nat.le_of_ble_eq_true rfl) rfl
  repeat' first|(apply yA;exact rfl)|apply yB|apply yC|((first|apply yG|apply yH|apply yI);exact rfl;(first|exact rfl|exact aop_iaddrO rfl rfl hni hi' hg5 he5 hel5|exact aop_loadO rfl hg5 he5 (show 0 + 5 < e5.length by omega)))|(apply yN;exact rfl)
  refine Go.call _ rfl rfl rfl ((markFkS_ok ys[i].fks k4 hb.2.2.2.2.2.1 hb.2.2.2.2.2.2 (by omega) (by omega)).at_ _ T5 _ hch5) ?_
  rintro r τ5 ⟨rfl, hn5, hf5, hhc5⟩
  have hh := hback5 τ5 _ hf5 hhc5
  have hfr := fun a (ha : ¬ S a) => (hf5 a (fun h => ha (hTS5 a h))).trans (hfr a ha)
  have hnx := hn5.trans hnx
  obtain ⟨k5, hk5⟩ : ∃ z, k4 + cntL cntFk ys[i].fks = z := ⟨_, rfl⟩
  rw [hk5]
  clear hg5 he5 hel5 hch5 hback5 hf5 hn5 hhc5
  repeat' first|(apply yA;exact rfl)|apply yB|apply yC|((first|apply yG|apply yH|apply yI);exact rfl;(first|exact rfl))|(apply yN;exact rfl)
  have hkend : k5 = ki + cntTable ys[i] := by simp only [cntTable]; omega
  refine hnext _ _ rfl (congrArg (fun z => some (AV.c (Ce.int .i64 z))) hkend) rfl hnx hfr ?_
  rw [hset]
  subst hk0 hk1 hk2 hk3 hk4 hk5
  exact hh
end Go.Proofs.YtdgnfdljkghpjaaGreat.Am

/- What the laws with marks have in common. -/
set_option linter.unusedVariables false
set_option linter.unusedSimpArgs false
namespace Go.Proofs.YtdgnfdljkghpjaaGreat.Am

theorem aop_neB {fr : Fr} {σ : Store} {x y : Opd} {b : Bool} (hx : x.ev fr = some (.c (.bool b))) (hy : y.ev fr = some (.c (.bool b))) : aop (.eq true false [.b] x y) fr σ = some (.c (.bool false), σ) := by
  cases b <;> simp [aop, hx, hy, eqKs, eqK]
theorem solid_end {σ : Store} {τ : Store} {b : Bool} : FrzV τ σ.next (.c (.bool b)) (.c (.bool b)) := .refl (by intro y hy; simp [AV.all] at hy; subst hy; exact .bool _)
theorem New.openC {σ τ : Store} {y : Ce} {r : AV} (h : New σ y r τ) : ∃ x, r = .c x ∧ Gr σ τ ∧ Has τ (fun a => σ.next ≤ a ∧ a < τ.next) y x := by
  obtain ⟨x, l, rfl, rfl, ht, hh⟩ := h
  exact ⟨x, rfl, ⟨l, rfl, ht⟩, hh⟩
theorem NewL.openC {σ τ : Store} {ys : List Ce} {r : AV} (h : NewL σ ys r τ) : ∃ xs, r = .agg xs ∧ Gr σ τ ∧ HasL τ (fun a => σ.next ≤ a ∧ a < τ.next) ys xs := by
  obtain ⟨x, l, rfl, rfl, ht, hh⟩ := h
  exact ⟨x, rfl, ⟨l, rfl, ht⟩, hh⟩
theorem has_flat {σ : Store} {S : Nat → Prop} {y x : Ce} (hf : Flat y) (h : Has σ S y x) : x = y := by
  cases hf <;> (cases h; rfl)
theorem hasV_flat {σ : Store} {S : Nat → Prop} {y : Ce} {x : AV} (hf : Flat y) (h : HasV σ S (.c y) x) : x = .c y := by
  cases h with
  | c h => rw [has_flat hf h]
theorem newtup_open {σ τ : Store} {ys : List AV} {r : AV} (h : NewV σ (.tup ys) r τ) : ∃ xs, ∃ U : Nat → Nat → Prop, ∃ hl : xs.length = ys.length, r = .tup xs ∧ Gr σ τ ∧ (∀ i a, U i a → σ.next ≤ a ∧ a < τ.next) ∧ ∀ i (hy : i < ys.length) (hx : i < xs.length), HasV τ (U i) ys[i] xs[i] := by
  obtain ⟨hg, hh⟩ := h
  generalize hy0 : AV.tup ys = y0 at hh
  cases hh with
  | c h => cases hy0
  | agg h => cases hy0
  | @tup S ys' xs U hl hU hd h =>
    injection hy0 with hy0
    subst hy0
    exact ⟨xs, U, hl, rfl, hg, fun i a ha => hU i a ha, h⟩
theorem new2_open {σ τ : Store} {y f : Ce} {r : AV} (hf : Flat f) (h : NewV σ (.tup [.c y, .c f]) r τ) : ∃ x, r = .tup [.c x, .c f] ∧ Gr σ τ ∧ Has τ (fun a => σ.next ≤ a ∧ a < τ.next) y x := by
  obtain ⟨xs, U, hl, rfl, hg, hU, h⟩ := newtup_open h
  match xs, hl with
  | [x1, x2], _ =>
    have h1 := h 0 (by simp) (by simp)
    have h2 := h 1 (by simp) (by simp)
    simp only [List.getElem_cons_zero, List.getElem_cons_succ] at h1 h2
    obtain rfl := hasV_flat hf h2
    cases h1 with
    | c h1 => exact ⟨_, rfl, hg, h1.mono fun a ha => hU 0 a ha⟩
theorem hv_flat {τ : Store} {S : Nat → Prop} {f : Ce} (h : Flat f) : HasV τ S (.c f) (.c f) := .c (.c h)
theorem newPair {σ τ : Store} {y x f : Ce} (hf : Flat f) (h : NewV σ (.c y) (.c x) τ) : NewV σ (.tup [.c y, .c f]) (.tup [.c x, .c f]) τ :=
  ⟨h.1, .pair h.2 (hv_flat (S := fun _ => False) hf) (fun _ h => h) (fun _ h => h.elim) (fun _ _ h => h)⟩
theorem newVec {σ : Store} {v : Nat} {s : Nat} {ys junk : List (List Ce)} (hy : ∀ e ∈ ys, e.length = s ∧ ∀ x ∈ e, Flat x) (hj : Jk s junk) : NewV σ (.c (.fz ys)) (.c (vec (σ.next + 0) v ys junk)) (E σ [(v, ys ++ junk)]) :=
  (Made.new hy (r := .c (vec (σ.next + 0) v ys junk)) ⟨v, junk, hj, rfl, rfl⟩).v
end Go.Proofs.YtdgnfdljkghpjaaGreat.Am

/- Rows that match: the program and its reference. -/
set_option linter.unusedVariables false
set_option linter.unusedSimpArgs false
namespace Go.Proofs.YtdgnfdljkghpjaaGreat.Am

def rowsAt (db : List Data) (n : Int) : List RowD := match db[n.toNat]? with | some d => d.rows | none => []
def colsAt (s : List Table) (n : Int) : Nat := match s[n.toNat]? with | some t => t.cols.length | none => 0
theorem isIn_at {n m : Int} (h : isIn n 0 (m - 1) = true) : 0 ≤ n ∧ n < m := by
  simp only [isIn, Bool.and_eq_true, decide_eq_true_eq] at h
  omega
end Go.Proofs.YtdgnfdljkghpjaaGreat.Am

/- Keys of rows; rows that have a key. -/
set_option linter.unusedVariables false
set_option linter.unusedSimpArgs false
namespace Go.Proofs.YtdgnfdljkghpjaaGreat.Am

def valAt (vals : List Val) (c : Int) : Val := vals[c.toNat]?.getD vNull
def keyF (cols : List Int) (vals : List Val) : List Val := cols.map (valAt vals)
def wholeF (cols : List Int) (vals : List Val) : Bool := cols.all fun c => !((valAt vals c).k == 0)
def InR (cols : List Int) (n : Nat) : Prop := ∀ c ∈ cols, 0 ≤ c ∧ c < n
theorem valAt_eq {vals : List Val} {c : Int} (h : c.toNat < vals.length) : valAt vals c = vals[c.toNat] := by rw [valAt, List.getElem?_eq_getElem h]; rfl
theorem keyF_len (cols : List Int) (vals : List Val) : (keyF cols vals).length = cols.length := List.length_map _
theorem keyF_take {cols : List Int} {vals : List Val} {i : Nat} (h : i < cols.length) : keyF (cols.take (i + 1)) vals = keyF (cols.take i) vals ++ [valAt vals cols[i]] := by
  rw [List.take_succ_eq_append_getElem h, keyF, List.map_append]; rfl
theorem wholeF_take {cols : List Int} {vals : List Val} {i : Nat} (h : i < cols.length) : wholeF (cols.take (i + 1)) vals = (wholeF (cols.take i) vals && !((valAt vals cols[i]).k == 0)) := by
  rw [List.take_succ_eq_append_getElem h, wholeF, List.all_append, wholeF, List.all_cons, List.all_nil, Bool.and_true]
theorem keyOf_new (cols : List Int) (vals : List Val) (hx : cols.length ≤ 34359738368) (hi : InR cols vals.length) (σ : Store) : Ok Tryz.prog 81 [.c (.fz (cols.map encI)), .c (.fz (vals.map encV))] σ (NewV σ (.tup [.c (.fz ((keyF cols vals).map encV)), .c (.bool (wholeF cols vals))])) := by
  refine Ok.run mixed c_impl_keyOf_ok (Nat.le_of_ble_eq_true rfl) fun hS hA => ?_
  clear hS hA
  repeat' first|refine yaG ?_|(exfalso;omega)|(refine yaS ?_ ?_<;>intro _)
  refine Go.keep [1, 6, 7, 11, 12, 13] (Go.loops (I := fun m fr τ => ∃ (i : Nat) (k : Int) (v : Nat) (junk : List (List Ce)) (ks : List Val) (b : Bool), m = cols.length - i ∧ i ≤ cols.length ∧ k = i ∧ Jk 3 junk ∧ (ks = keyF (cols.take i) vals ∧ b = wholeF (cols.take i) vals) ∧
    fr = [(1, .c (.fz (vals.map encV))), (6, .c (vec (σ.next + 0) v (ks.map encV) junk)), (7, .c (.bool b)), (11, .c (.fz (cols.map encI))), (12, .c (.int .i64 (cols.length : Int))), (13, .c (.int .i64 k))] ∧ τ = E σ [(v, ks.map encV ++ junk)]) ?_ _ _ _ ⟨0, _, 0, [], [], true, rfl, Nat.zero_le _, rfl, Jk.nil, ⟨rfl, rfl⟩, rfl, rfl⟩)
  rintro m fr τ ⟨i, k, v, junk, ks, b, rfl, hile, hk, hj, ⟨hks, hb⟩, rfl, rfl⟩ hrec
  by_cases hlt : i < cols.length
  · obtain ⟨q1, q2⟩ := hi _ (List.getElem_mem hlt)
    have hc : cols[i] = (cols[i].toNat : Int) := by omega
    have hcl : cols[i].toNat < vals.length := by omega
    have hv := valAt_eq hcl
    have hkl : (ks.map encV).length = i := by rw [List.length_map, hks, keyF_len, List.length_take]; omega
    have hbd : ((ks.map encV).length + 1) * 32 ≤ 140737488355328 := by omega
    have e1 : ks.map encV ++ [encV vals[cols[i].toNat]] = (ks ++ [vals[cols[i].toNat]]).map encV := by simp
    have hk2 : ks ++ [vals[cols[i].toNat]] = keyF (cols.take (i + 1)) vals := by rw [keyF_take hlt, ← hks, hv]
    have hw2 := wholeF_take (vals := vals) hlt
    rw [← hb, hv] at hw2
    cases b
    · repeat' first|refine yaG ?_|((first|apply yG|apply yH|apply yI);exact rfl;(first|exact yX (enc := encI) rfl rfl hk hlt rfl|exact yX (enc := encV) rfl rfl hc hcl rfl))|(apply Go.app1;exact rfl;exact rfl;exact rfl;exact rfl;exact rfl;exact lens;exact hj;exact rfl;exact hbd;intro v' junk' hj')|(exfalso;omega)|(refine yaS ?_ ?_<;>intro _)
      refine Go.keep [1, 6, 7, 11, 12, 13] (hrec _ _ _ (by omega) ⟨i + 1, _, v', junk', ks ++ [vals[cols[i].toNat]], _, rfl, hlt, wrap_succ hk (by omega), hj', ⟨hk2, hw2.symm⟩, ?_, ?_⟩)
      · rw [← e1]; rfl
      · rw [← e1]; rfl
    · repeat' first|refine yaG ?_|((first|apply yG|apply yH|apply yI);exact rfl;(first|exact yX (enc := encI) rfl rfl hk hlt rfl|exact yX (enc := encV) rfl rfl hc hcl rfl))|(apply Go.app1;exact rfl;exact rfl;exact rfl;exact rfl;exact rfl;exact lens;exact hj;exact rfl;exact hbd;intro v' junk' hj')|(exfalso;omega)|(refine yaS ?_ ?_<;>intro _)
      refine Go.keep [1, 6, 7, 11, 12, 13] (hrec _ _ _ (by omega) ⟨i + 1, _, v', junk', ks ++ [vals[cols[i].toNat]], vals[cols[i].toNat].k != 0, rfl, hlt, wrap_succ hk (by omega), hj', ⟨hk2, hw2.symm⟩, ?_, ?_⟩)
      · rw [← e1]; rfl
      · rw [← e1]; rfl
  · repeat' first|refine yaG ?_|(exfalso;omega)|(refine yaS ?_ ?_<;>intro _)
    refine .ret rfl ?_
    rw [List.take_of_length_le (by omega)] at hks hb
    rw [← hks, ← hb]
    exact newPair (.bool _) (newVec clean_append hj)
theorem l4Key_new (cols : List Int) (vals : List Val) (hx : cols.length ≤ 34359738368) (hi : InR cols vals.length) (σ : Store) : Ok Tryz.prog 148 [.c (.fz (cols.map encI)), .c (.fz (vals.map encV))] σ (NewV σ (.tup [.c (.fz ((keyF cols vals).map encV)), .c (.bool (wholeF cols vals))])) := by
  refine Ok.run mixed c_spec_l4Key_ok (Nat.le_of_ble_eq_true rfl) fun hS hA => ?_
  clear hS hA
  repeat' first|refine yaG ?_|(exfalso;omega)|(refine yaS ?_ ?_<;>intro _)
  refine Go.keep [0, 1, 6, 7, 8] (Go.loops (I := fun m fr τ => ∃ (i : Nat) (k : Int) (v : Nat) (junk : List (List Ce)) (ks : List Val) (b : Bool), m = cols.length - i ∧ i ≤ cols.length ∧ k = i ∧ Jk 3 junk ∧ (ks = keyF (cols.take i) vals ∧ b = wholeF (cols.take i) vals) ∧
    fr = [(0, .c (.fz (cols.map encI))), (1, .c (.fz (vals.map encV))), (6, .c (vec (σ.next + 0) v (ks.map encV) junk)), (7, .c (.bool b)), (8, .c (.int .i64 k))] ∧ τ = E σ [(v, ks.map encV ++ junk)]) ?_ _ _ _ ⟨0, _, 0, [], [], true, rfl, Nat.zero_le _, rfl, Jk.nil, ⟨rfl, rfl⟩, rfl, rfl⟩)
  rintro m fr τ ⟨i, k, v, junk, ks, b, rfl, hile, hk, hj, ⟨hks, hb⟩, rfl, rfl⟩ hrec
  by_cases hlt : i < cols.length
  · obtain ⟨q1, q2⟩ := hi _ (List.getElem_mem hlt)
    have hc : cols[i] = (cols[i].toNat : Int) := by omega
    have hcl : cols[i].toNat < vals.length := by omega
    have hv := valAt_eq hcl
    have hkl : (ks.map encV).length = i := by rw [List.length_map, hks, keyF_len, List.length_take]; omega
    have hbd : ((ks.map encV).length + 1) * 32 ≤ 140737488355328 := by omega
    have e1 : ks.map encV ++ [encV vals[cols[i].toNat]] = (ks ++ [vals[cols[i].toNat]]).map encV := by simp
    have hk2 : ks ++ [vals[cols[i].toNat]] = keyF (cols.take (i + 1)) vals := by rw [keyF_take hlt, ← hks, hv]
    have hw2 := wholeF_take (vals := vals) hlt
    rw [← hb, hv] at hw2
    cases b
    · repeat' first|refine yaG ?_|((first|apply yG|apply yH|apply yI);exact rfl;(first|exact yX (enc := encI) rfl rfl hk hlt rfl|exact yX (enc := encV) rfl rfl hc hcl rfl))|(apply Go.app1;exact rfl;exact rfl;exact rfl;exact rfl;exact rfl;exact lens;exact hj;exact rfl;exact hbd;intro v' junk' hj')|(exfalso;omega)|(refine yaS ?_ ?_<;>intro _)
      refine Go.keep [0, 1, 6, 7, 8] (hrec _ _ _ (by omega) ⟨i + 1, _, v', junk', ks ++ [vals[cols[i].toNat]], _, rfl, hlt, wrap_succ hk (by omega), hj', ⟨hk2, hw2.symm⟩, ?_, ?_⟩)
      · rw [← e1]; rfl
      · rw [← e1]; rfl
    · repeat' first|refine yaG ?_|((first|apply yG|apply yH|apply yI);exact rfl;(first|exact yX (enc := encI) rfl rfl hk hlt rfl|exact yX (enc := encV) rfl rfl hc hcl rfl))|(apply Go.app1;exact rfl;exact rfl;exact rfl;exact rfl;exact rfl;exact lens;exact hj;exact rfl;exact hbd;intro v' junk' hj')|(exfalso;omega)|(refine yaS ?_ ?_<;>intro _)
      refine Go.keep [0, 1, 6, 7, 8] (hrec _ _ _ (by omega) ⟨i + 1, _, v', junk', ks ++ [vals[cols[i].toNat]], vals[cols[i].toNat].k != 0, rfl, hlt, wrap_succ hk (by omega), hj', ⟨hk2, hw2.symm⟩, ?_, ?_⟩)
      · rw [← e1]; rfl
      · rw [← e1]; rfl
  · repeat' first|refine yaG ?_|(exfalso;omega)|(refine yaS ?_ ?_<;>intro _)
    refine .ret rfl ?_
    rw [List.take_of_length_le (by omega)] at hks hb
    rw [← hks, ← hb]
    exact newPair (.bool _) (newVec clean_append hj)
theorem l4Key_ok (cols : List Int) (vals : List Val) (hx : cols.length ≤ 34359738368) (hi : InR cols vals.length) : Pure Tryz.prog 148 [.c (.fz (cols.map encI)), .c (.fz (vals.map encV))] (.tup [.c (.fz ((keyF cols vals).map encV)), .c (.bool (wholeF cols vals))]) := NewV.pure (l4Key_new cols vals hx hi)
end Go.Proofs.YtdgnfdljkghpjaaGreat.Am

/- Rows that have a key. -/
set_option linter.unusedVariables false
set_option linter.unusedSimpArgs false
namespace Go.Proofs.YtdgnfdljkghpjaaGreat.Am

end Go.Proofs.YtdgnfdljkghpjaaGreat.Am

/- Rows' nulls and checks. -/
set_option linter.unusedVariables false
set_option linter.unusedSimpArgs false
namespace Go.Proofs.YtdgnfdljkghpjaaGreat.Am

end Go.Proofs.YtdgnfdljkghpjaaGreat.Am

/- Rivals: rows with the same key. -/
set_option linter.unusedVariables false
set_option linter.unusedSimpArgs false
namespace Go.Proofs.YtdgnfdljkghpjaaGreat.Am

theorem frz_old {σ : Store} {l : List (Nat × List (List Ce))} {k v N : Nat} {ys junk : List (List Ce)} (hl : l[k]? = some (v, ys ++ junk)) (ho : ∀ e ∈ ys, ∀ x ∈ e, Old N x) (hN : N ≤ σ.next + k) : FrzV (E σ l) N (.c (vec (σ.next + k) v ys junk)) (.c (.fz ys)) := by
  refine .c (.sl _ _ _ _ _ (ys ++ junk) ys hN (by rw [E_at]; exact hl) (by simp) rfl (fun i hi => ?_) (fun i j hi hj => ?_))
  · simp only [Nat.zero_add]
    rw [List.getElem_append_left hi]
  · have e : (ys ++ junk)[0 + i]'(by simp; omega) = ys[i] := by
      simp only [Nat.zero_add]
      rw [List.getElem_append_left hi]
    simp only [e]
    exact .same _ (ho _ (List.getElem_mem _) _ (List.getElem_mem hj))
end Go.Proofs.YtdgnfdljkghpjaaGreat.Am

/- References that lead nowhere. -/
set_option linter.unusedVariables false
set_option linter.unusedSimpArgs false
namespace Go.Proofs.YtdgnfdljkghpjaaGreat.Am

end Go.Proofs.YtdgnfdljkghpjaaGreat.Am

/- Flaws: what is true of the rows of a database. -/
set_option linter.unusedVariables false
set_option linter.unusedSimpArgs false
namespace Go.Proofs.YtdgnfdljkghpjaaGreat.Am

end Go.Proofs.YtdgnfdljkghpjaaGreat.Am

/- Joined lines: rooms made, slices joined. -/
set_option linter.unusedVariables false
set_option linter.unusedSimpArgs false
namespace Go.Proofs.YtdgnfdljkghpjaaGreat.Am

end Go.Proofs.YtdgnfdljkghpjaaGreat.Am

/- Joined lines: the walk of both packages' loops. -/
set_option linter.unusedVariables false
set_option linter.unusedSimpArgs false
namespace Go.Proofs.YtdgnfdljkghpjaaGreat.Am

end Go.Proofs.YtdgnfdljkghpjaaGreat.Am

/- Joined lines: the reference's; what the results are like; marks held. -/
set_option linter.unusedVariables false
set_option linter.unusedSimpArgs false
namespace Go.Proofs.YtdgnfdljkghpjaaGreat.Am

end Go.Proofs.YtdgnfdljkghpjaaGreat.Am

/- Rows whose numbers rise. -/
set_option linter.unusedVariables false
set_option linter.unusedSimpArgs false
namespace Go.Proofs.YtdgnfdljkghpjaaGreat.Am

def Rise (l : List RowD) : Prop := l.Pairwise fun a b => a.id < b.id
theorem rowsAux_rise {t : Table} : ∀ {l : List RowD} {p : Option Int}, rowsAux t p l = true → Rise l ∧ ∀ q, p = some q → ∀ r ∈ l, q < r.id
  | [], p, _ => ⟨.nil, fun q _ r hr => by simp at hr⟩
  | a :: l, p, h => by
    rw [rowsAux, Bool.and_eq_true] at h
    obtain ⟨h1, h2⟩ := rowsAux_rise h.2
    have h3 := h2 a.id rfl
    refine ⟨List.pairwise_cons.2 ⟨h3, h1⟩, fun q hq r hr => ?_⟩
    subst hq
    have h4 : q < a.id := by
      have := h.1
      simp only [rowOne, risesId, Bool.and_eq_true, decide_eq_true_eq] at this
      exact this.2.1
    rcases List.mem_cons.1 hr with rfl | hr
    · exact h4
    · exact Int.lt_trans h4 (h3 r hr)
theorem rowsF_rise {t : Table} {l : List RowD} (h : rowsF t l = true) : Rise l := by
  rw [rowsF, Bool.and_eq_true] at h
  exact (rowsAux_rise h.1).1
end Go.Proofs.YtdgnfdljkghpjaaGreat.Am

/- A row put in by the reference: parts. -/
set_option linter.unusedVariables false
set_option linter.unusedSimpArgs false
namespace Go.Proofs.YtdgnfdljkghpjaaGreat.Am

theorem oldRows {n : Nat} (l : List RowD) : OldL n (l.map encRowD) := fun e he c hc => by
  obtain ⟨a, _, rfl⟩ := List.mem_map.1 he
  simp only [encRowD, List.mem_cons, List.not_mem_nil, or_false] at hc
  rcases hc with rfl | rfl
  · exact .int _ _
  · exact old_fz1 (oldL_flat flats)
theorem oldDatas {n : Nat} (l : List Data) : OldL n (l.map encData) := fun e he c hc => by
  obtain ⟨a, _, rfl⟩ := List.mem_map.1 he
  simp only [encData, List.mem_cons, List.not_mem_nil, or_false] at hc
  subst hc
  exact old_fz1 (oldRows _)
end Go.Proofs.YtdgnfdljkghpjaaGreat.Am

/- A row put in by the reference: whole, told by existence. -/
set_option linter.unusedVariables false
set_option linter.unusedSimpArgs false
namespace Go.Proofs.YtdgnfdljkghpjaaGreat.Am

/-! ### what stays right -/
end Go.Proofs.YtdgnfdljkghpjaaGreat.Am

/- The reader that draws: databases and places. -/
set_option linter.unusedVariables false
set_option linter.unusedSimpArgs false
namespace Go.Proofs.YtdgnfdljkghpjaaGreat.Am

end Go.Proofs.YtdgnfdljkghpjaaGreat.Am

/- Drawn arguments: of Matching, of JoinOn. -/
set_option linter.unusedVariables false
set_option linter.unusedSimpArgs false
namespace Go.Proofs.YtdgnfdljkghpjaaGreat.Am

end Go.Proofs.YtdgnfdljkghpjaaGreat.Am

/- An index made anew: the reference's. -/
set_option linter.unusedVariables false
set_option linter.unusedSimpArgs false
namespace Go.Proofs.YtdgnfdljkghpjaaGreat.Am

theorem putF_permI (e : Entry) (l : List Entry) : (putF e l).Perm (e :: l) := by
  have h := List.perm_middle (l₁ := l.take (putPos e l)) (a := e) (l₂ := l.drop (putPos e l))
  rw [List.take_append_drop] at h
  exact h
theorem oldEnts {n : Nat} (l : List Entry) : OldL n (l.map encE) := fun e he x hx => by
  obtain ⟨a, _, rfl⟩ := List.mem_map.1 he
  exact old_encE n a x hx
theorem l11Put_mk (l : List Entry) (e : Entry) (hx : l.length ≤ 1048576) (hk : ∀ q ∈ l, q.key.length ≤ 34359738368) (σ : Store) : Ok Tryz.prog 58 [.c (.fz (l.map encE)), .agg (encE e)] σ (Made σ 2 ((putF e l).map encE)) := by
  refine Ok.run mixed c_spec_l11Put_ok (Nat.le_of_ble_eq_true rfl) fun hS hA => ?_
  clear hS hA
  repeat' first|refine yaG ?_|(exfalso;omega)|(refine yaS ?_ ?_<;>intro _)
  refine Go.keep [0, 3, 5] (Go.loops (I := fun m fr τ => ∃ (i : Nat) (k : Int), m = l.length - i ∧ i ≤ l.length ∧ k = i ∧ putPos e l = i + putPos e (l.drop i) ∧
    fr = [(0, .c (.fz (l.map encE))), (3, .c (.fp (encE e))), (5, .c (.int .i64 k))] ∧ τ = E σ []) ?_ _ _ _ ⟨0, _, rfl, Nat.zero_le _, rfl, (Nat.zero_add _).symm, rfl, rfl⟩)
  rintro m fr τ ⟨i, k, rfl, hi, hki, hs, rfl, rfl⟩ hrec
  have htl : ∀ q ∈ (l.map encE).take i, q.length = 2 := fun q hq => encE_two q (List.mem_of_mem_take hq)
  have hdl : ∀ q ∈ (l.map encE).drop i, q.length = 2 := fun q hq => encE_two q (List.mem_of_mem_drop hq)
  have hil : i ≤ (l.map encE).length := by rw [List.length_map]; exact hi
  have ht0 : ((l.map encE).take i).length = i := by rw [List.length_take]; omega
  have hd0 : ((l.map encE).drop i).length = l.length - i := by rw [List.length_drop, List.length_map]
  have hfin : putPos e l = i → (l.map encE).take i ++ [encE e] ++ (l.map encE).drop i = (putF e l).map encE := fun h => by
    rw [putF, h]
    simp
  by_cases hlt : i < l.length
  · rw [List.drop_eq_getElem_cons hlt, putPos] at hs
    have c1 := l11Less_ok l[i] e (hk _ (List.getElem_mem hlt))
    cases hb : lessK l[i].key e.key l[i].id e.id
    · rw [hb] at c1 hs
      rw [if_neg Bool.false_ne_true] at hs
      have hf := hfin (by omega)
      clear hrec hfin
      repeat' first|refine yaG ?_|((first|apply yG|apply yH|apply yI);exact rfl;(first|exact yX (enc := encE) rfl rfl hki hlt rfl|exact aop_cutF rfl rfl hki hil encE_two|exact aop_restF rfl rfl hki hil encE_two))|refine yaC (c1) ?_|(exfalso;omega)|(refine yaS ?_ ?_<;>intro _)
      refine Go.app (k := 0) (v := 0) (ys := []) (junk := []) (zs := (l.map encE).take i) rfl rfl rfl rfl rfl (by simp) Jk.nil htl (by rw [ht0]; simp; omega) fun v1 j1 hj1 => ?_
      repeat' first|refine yaG ?_|(exfalso;omega)|(refine yaS ?_ ?_<;>intro _)
      refine Go.app1 (k := 0) (z := encE e) rfl rfl rfl rfl rfl htl hj1 rfl (by simp only [List.nil_append]; rw [ht0]; omega) fun v2 j2 hj2 => ?_
      repeat' first|refine yaG ?_|((first|apply yG|apply yH|apply yI);exact rfl;(first|exact aop_restF rfl rfl hki hil encE_two))|(exfalso;omega)|(refine yaS ?_ ?_<;>intro _)
      refine Go.app (k := 0) (zs := (l.map encE).drop i) rfl rfl rfl rfl rfl (fun q hq => (List.mem_append.1 hq).elim (htl q) fun h => by rw [List.mem_singleton.1 h]; rfl) hj2 hdl (by simp only [List.nil_append, List.length_append, List.length_singleton]; rw [ht0, hd0]; omega) fun v3 j3 hj3 => ?_
      repeat' first|refine yaG ?_|(exfalso;omega)|(refine yaS ?_ ?_<;>intro _)
      have hf2 : [] ++ (l.map encE).take i ++ [encE e] ++ (l.map encE).drop i = (putF e l).map encE := by rw [← hf]; rfl
      rw [hf2]
      exact .ret rfl ⟨v3, j3, hj3, rfl, rfl⟩
    · rw [hb] at c1 hs
      rw [if_pos rfl] at hs
      repeat' first|refine yaG ?_|((first|apply yG|apply yH|apply yI);exact rfl;(first|exact yX (enc := encE) rfl rfl hki hlt rfl))|refine yaC (c1) ?_|(exfalso;omega)|(refine yaS ?_ ?_<;>intro _)
      exact Go.keep [0, 3, 5] (hrec _ _ _ (by omega) ⟨i + 1, _, rfl, hlt, wrap_succ hki (by omega), by omega, rfl, rfl⟩)
  · rw [List.drop_eq_nil_of_le (by omega), putPos] at hs
    have hf := hfin (by omega)
    clear hrec hfin
    repeat' first|refine yaG ?_|((first|apply yG|apply yH|apply yI);exact rfl;(first|exact aop_cutF rfl rfl hki hil encE_two|exact aop_restF rfl rfl hki hil encE_two))|(exfalso;omega)|(refine yaS ?_ ?_<;>intro _)
    refine Go.app (k := 0) (v := 0) (ys := []) (junk := []) (zs := (l.map encE).take i) rfl rfl rfl rfl rfl (by simp) Jk.nil htl (by rw [ht0]; simp; omega) fun v1 j1 hj1 => ?_
    repeat' first|refine yaG ?_|(exfalso;omega)|(refine yaS ?_ ?_<;>intro _)
    refine Go.app1 (k := 0) (z := encE e) rfl rfl rfl rfl rfl htl hj1 rfl (by simp only [List.nil_append]; rw [ht0]; omega) fun v2 j2 hj2 => ?_
    repeat' first|refine yaG ?_|((first|apply yG|apply yH|apply yI);exact rfl;(first|exact aop_restF rfl rfl hki hil encE_two))|(exfalso;omega)|(refine yaS ?_ ?_<;>intro _)
    refine Go.app (k := 0) (zs := (l.map encE).drop i) rfl rfl rfl rfl rfl (fun q hq => (List.mem_append.1 hq).elim (htl q) fun h => by rw [List.mem_singleton.1 h]; rfl) hj2 hdl (by simp only [List.nil_append, List.length_append, List.length_singleton]; rw [ht0, hd0]; omega) fun v3 j3 hj3 => ?_
    repeat' first|refine yaG ?_|(exfalso;omega)|(refine yaS ?_ ?_<;>intro _)
    have hf2 : [] ++ (l.map encE).take i ++ [encE e] ++ (l.map encE).drop i = (putF e l).map encE := by rw [← hf]; rfl
    rw [hf2]
    exact .ret rfl ⟨v3, j3, hj3, rfl, rfl⟩
def ofAux (cols : List Int) : List RowD → List Entry → List Entry
  | [], acc => acc
  | r :: l, acc => ofAux cols l (putF ⟨keyF cols r.vals, r.id⟩ acc)
theorem ofAux_at (cols : List Int) : ∀ (l : List RowD) (acc : List Entry), (ofAux cols l acc).length = acc.length + l.length ∧ ((∀ e ∈ acc, e.key.length = cols.length) → ∀ e ∈ ofAux cols l acc, e.key.length = cols.length)
  | [], acc => ⟨rfl, fun h => h⟩
  | r :: l, acc => by
    obtain ⟨h1, h2⟩ := ofAux_at cols l (putF ⟨keyF cols r.vals, r.id⟩ acc)
    have hp := putF_permI ⟨keyF cols r.vals, r.id⟩ acc
    rw [ofAux]
    refine ⟨by rw [h1, hp.length_eq, List.length_cons, List.length_cons]; omega, fun h => h2 fun e he => ?_⟩
    rcases List.mem_cons.1 (hp.mem_iff.1 he) with rfl | he
    · exact keyF_len _ _
    · exact h e he
theorem l11Of_mk (d : Data) (cols : List Int) (hx : d.rows.length ≤ 1048576) (hc : cols.length ≤ 34359738368) (hi : ∀ r ∈ d.rows, InR cols r.vals.length) (σ : Store) : Ok Tryz.prog 85 [.agg (encData d), .c (.fz (cols.map encI))] σ (Made σ 2 ((ofAux cols d.rows []).map encE)) := by
  refine Ok.run mixed c_spec_l11Of_ok (Nat.le_of_ble_eq_true rfl) fun hS hA => ?_
  clear hA
  have old_cols : ∀ y ∈ (AV.c (.fz (cols.map encI))).all, Old σ.next y := fun y hy => by
    rw [List.mem_singleton.1 hy]; exact old_fz1 (oldInts _)
  have old_d : ∀ y ∈ (AV.c (.fp (encData d))).all, Old σ.next y := fun y hy => by
    rw [List.mem_singleton.1 hy]
    exact .fp _ fun j hj => oldDatas [d] _ (List.mem_singleton.2 rfl) _ (List.getElem_mem hj)
  repeat' first|refine yaG ?_|(exfalso;omega)|(refine yaS ?_ ?_<;>intro _)
  refine Go.keep [1, 2, 5, 6] (Go.loops (I := fun m fr τ => ∃ (i : Nat) (k : Int) (acc : List Entry) (v : Nat) (junk : List (List Ce)), m = d.rows.length - i ∧ i ≤ d.rows.length ∧ k = i ∧ Jk 2 junk ∧ (acc.length = i ∧ (∀ e ∈ acc, e.key.length = cols.length) ∧ ofAux cols d.rows [] = ofAux cols (d.rows.drop i) acc) ∧
    fr = [(1, .c (.fz (cols.map encI))), (2, .c (.fp (encData d))), (5, .c (vec (σ.next + 0) v (acc.map encE) junk)), (6, .c (.int .i64 k))] ∧ τ = E σ [(v, acc.map encE ++ junk)]) ?_ _ _ _ ⟨0, _, [], 0, [], rfl, Nat.zero_le _, rfl, Jk.nil, ⟨rfl, fun e he => (by cases he), rfl⟩, rfl, rfl⟩)
  rintro m fr τ ⟨i, k, acc, v, junk, rfl, hil, hk, hj, ⟨hal, hak, hs⟩, rfl, rfl⟩ hrec
  by_cases hlt : i < d.rows.length
  · have c4 := l4Key_ok cols d.rows[i].vals hc (hi _ (List.getElem_mem hlt))
    rw [List.drop_eq_getElem_cons hlt, ofAux] at hs
    have hp := putF_permI ⟨keyF cols d.rows[i].vals, d.rows[i].id⟩ acc
    have cp := l11Put_mk acc ⟨keyF cols d.rows[i].vals, d.rows[i].id⟩ (by omega) (fun q hq => by rw [hak q hq]; exact hc) (E σ [])
    refine Go.freezeN (l := []) (m := [(v, acc.map encE ++ junk)]) (fr' := [(1, .c (.fz (cols.map encI))), (2, .c (.fp (encData d))), (5, .c (.fz (acc.map encE))), (6, .c (.int .i64 k))]) hS (fun b hb => by cases hb) (Nat.le_refl _)
      (.frz rfl (.refl old_cols) (.frz rfl (.refl old_d) (.frz rfl (frz_old (k := 0) rfl (oldEnts _) (Nat.le_refl _)) (.frz rfl (.refl old_c) .nil)))) ?_
    repeat' first|refine yaG ?_|((first|apply yG|apply yH|apply yI);exact rfl;(first|exact yX (enc := encRowD) rfl rfl hk hlt rfl))|refine yaC (c4) ?_|(exfalso;omega)|(refine yaS ?_ ?_<;>intro _)
    refine .call _ rfl rfl rfl cp ?_
    rintro r τ ⟨v2, j2, hj2, rfl, rfl⟩
    rw [E_E, List.nil_append]
    repeat' first|refine yaG ?_|(exfalso;omega)|(refine yaS ?_ ?_<;>intro _)
    refine Go.keep [1, 2, 5, 6] (hrec _ _ _ (by omega) ⟨i + 1, _, _, v2, j2, rfl, hlt, wrap_succ hk (by omega), hj2, ⟨by rw [hp.length_eq, List.length_cons, hal], fun e he => ?_, hs⟩, rfl, rfl⟩)
    rcases List.mem_cons.1 (hp.mem_iff.1 he) with rfl | he
    · exact keyF_len _ _
    · exact hak e he
  · rw [List.drop_eq_nil_of_le (by omega), ofAux] at hs
    repeat' first|refine yaG ?_|(exfalso;omega)|(refine yaS ?_ ?_<;>intro _)
    rw [hs]
    exact .ret rfl ⟨v, junk, hj, rfl, rfl⟩
end Go.Proofs.YtdgnfdljkghpjaaGreat.Am

/- An index made anew: the program's own. -/
set_option linter.unusedVariables false
set_option linter.unusedSimpArgs false
namespace Go.Proofs.YtdgnfdljkghpjaaGreat.Am

def idxOk (s : List Table) (db : List Data) (n : Int) (cols : List Int) : Bool := dbF s db && (isIn n 0 (s.length - 1) && colsF cols (colsAt s n))
def IndexOfF (s : List Table) (db : List Data) (n : Int) (cols : List Int) : List Entry × Bool := if idxOk s db n cols then (ofAux cols (rowsAt db n) [], true) else ([], false)
theorem areIn_ok (s : List Table) (n : Int) (cols : List Int) (hx : s.length ≤ 34359738368) (hb : ∀ t ∈ s, bTable 34359738368 t) (hc : cols.length ≤ 34359738368) : Pure Tryz.prog 80 [.c (.fz (s.map encTable)), .c (.int .i64 n), .c (.fz (cols.map encI))] (.c (.bool (isIn n 0 (s.length - 1) && colsF cols (colsAt s n)))) := by
  refine Pure.run mixed c_impl_areIn_ok (Nat.le_of_ble_eq_true rfl) fun σ hS hA => ?_
  clear hS hA
  have c1 := isTable_ok s n hx
  cases h1 : isIn n 0 (s.length - 1)
  · rw [h1] at c1
    repeat' first|refine yaG ?_|refine yaC (c1) ?_|(exfalso;omega)|(refine yaS ?_ ?_<;>intro _)
    exact .ret rfl (.bool rfl)
  rw [h1] at c1
  obtain ⟨h3, h4⟩ := isIn_at h1
  have hn : n = (n.toNat : Int) := by omega
  have hlt : n.toNat < s.length := by omega
  have hcb := (hb _ (List.getElem_mem hlt)).2.1.1
  have hco : colsAt s n = s[n.toNat].cols.length := by rw [colsAt, List.getElem?_eq_getElem hlt]
  have c2 := areColumns_ok cols s[n.toNat].cols.length hc (by omega) (by omega)
  rw [hco]
  generalize colsF cols s[n.toNat].cols.length = B at c2
  repeat' first|refine yaG ?_|((first|apply yG|apply yH|apply yI);exact rfl;(first|exact yX (enc := encTable) rfl rfl hn hlt rfl))|refine yaC (c1) ?_|refine yaC (c2) ?_|(exfalso;omega)|(refine yaS ?_ ?_<;>intro _)
  exact .ret rfl (.bool (Bool.true_and _).symm)
theorem idxOk_at {s : List Table} {db : List Data} {n : Int} {cols : List Int} (h : idxOk s db n cols = true) :
    ∃ (m : Nat) (h1 : m < s.length) (h2 : m < db.length), n = m ∧ dbF s db = true ∧ colsF cols s[m].cols.length = true ∧ rowsF s[m] db[m].rows = true ∧ colsAt s n = s[m].cols.length ∧ rowsAt db n = db[m].rows ∧ isIn n 0 (s.length - 1) = true := by
  simp only [idxOk, Bool.and_eq_true] at h
  obtain ⟨h1, h2, h3⟩ := h
  obtain ⟨_, hl, hrows⟩ := dbF_at h1
  obtain ⟨h4, h5⟩ := isIn_at h2
  have hlt : n.toNat < s.length := by omega
  have hlt2 : n.toNat < db.length := by omega
  have hc : colsAt s n = s[n.toNat].cols.length := by rw [colsAt, List.getElem?_eq_getElem hlt]
  rw [hc] at h3
  exact ⟨n.toNat, hlt, hlt2, by omega, h1, h3, hrows _ hlt hlt2, hc, by rw [rowsAt, List.getElem?_eq_getElem hlt2], h2⟩
/-- What the index's entries are, before they are in order. -/
def entsF (cols : List Int) (rows : List RowD) : List Entry := rows.map fun r => ⟨keyF cols r.vals, r.id⟩
theorem ofAux_perm (cols : List Int) : ∀ (l : List RowD) (acc : List Entry), (ofAux cols l acc).Perm (acc ++ entsF cols l)
  | [], acc => by simp [ofAux, entsF]
  | r :: l, acc => by
    rw [ofAux]
    refine (ofAux_perm cols l _).trans ?_
    have h := putF_permI ⟨keyF cols r.vals, r.id⟩ acc
    show (putF ⟨keyF cols r.vals, r.id⟩ acc ++ entsF cols l).Perm (acc ++ (⟨keyF cols r.vals, r.id⟩ :: entsF cols l))
    exact (h.append_right _).trans List.perm_middle.symm
theorem lessK_ord : ∀ {xs ys : List Val} {a b : Int}, (∀ v ∈ xs, okVal v = true) → (∀ v ∈ ys, okVal v = true) → xs.length = ys.length → lessK xs ys a b = decide (orI [orderOf xs ys, cmpI a b] < 0)
  | [], [], a, b, _, _, _ => lessK_order rfl rfl rfl
  | v :: r, w :: s, a, b, hv, hw, hl => by
    have h1 := hv v (by simp)
    have h3 := hw w (by simp)
    have ih := lessK_ord (xs := r) (ys := s) (a := a) (b := b) (fun x hx => hv x (List.mem_cons_of_mem _ hx)) (fun x hx => hw x (List.mem_cons_of_mem _ hx)) (by simpa using hl)
    simp only [lessK, orderOf, l1Ord_order h1 h3]
    by_cases h : order v w = 0
    · simp [h, ih]
    · simp [h, orI]
theorem ofAux_sorted {cols : List Int} : ∀ {l : List RowD} {acc : List Entry}, (∀ e ∈ acc, e.key.length = cols.length ∧ ∀ v ∈ e.key, okVal v = true) → acc.Pairwise (fun x y => entOrd x y < 0) → (∀ r ∈ l, ∀ v ∈ keyF cols r.vals, okVal v = true) → (∀ e ∈ acc, ∀ r ∈ l, e.id ≠ r.id) → l.Pairwise (fun a b => a.id ≠ b.id) →
    (ofAux cols l acc).Pairwise fun x y => entOrd x y < 0
  | [], _, _, h, _, _, _ => h
  | r :: l, acc, h1, h2, h3, h4, h5 => by
    rw [ofAux]
    rw [List.pairwise_cons] at h5
    have hp := putF_permI ⟨keyF cols r.vals, r.id⟩ acc
    have hr := h3 r (by simp)
    refine ofAux_sorted (fun e he => ?_) ?_ (fun q hq => h3 q (by simp [hq])) (fun e he q hq => ?_) h5.2
    · rcases List.mem_cons.1 (hp.mem_iff.1 he) with rfl | he
      · exact ⟨keyF_len _ _, hr⟩
      · exact h1 e he
    · refine putF_sorted (n0 := cols.length) h2 (fun q hq => (h1 q hq).1) (keyF_len _ _) (fun he => h4 _ he r (by simp) rfl) fun q hq => ?_
      exact lessK_ord (h1 q hq).2 hr (by rw [(h1 q hq).1, keyF_len])
    · rcases List.mem_cons.1 (hp.mem_iff.1 he) with rfl | he
      · exact h5.1 q hq
      · exact h4 e he q (by simp [hq])
theorem keyF_okv {cols : List Int} {vals : List Val} (hi : InR cols vals.length) (hv : ∀ v ∈ vals, okVal v = true) : ∀ v ∈ keyF cols vals, okVal v = true := fun v hv2 => by
  obtain ⟨c, hc, rfl⟩ := List.mem_map.1 hv2
  obtain ⟨h1, h2⟩ := hi c hc
  have : c.toNat < vals.length := by omega
  rw [valAt, List.getElem?_eq_getElem this]
  exact hv _ (List.getElem_mem _)
theorem index_sorted {t : Table} {rows : List RowD} {cols : List Int} (hr : rowsF t rows = true) (hc : colsF cols t.cols.length = true) : (ofAux cols rows []).Pairwise fun x y => entOrd x y < 0 := by
  obtain ⟨h1, h2⟩ := rowsF_mem hr
  refine ofAux_sorted (fun e he => (by cases he)) .nil (fun r hr => ?_) (fun e he => (by cases he)) ((rowsF_rise hr).imp fun h => Int.ne_of_lt h)
  obtain ⟨f1, f2⟩ := fitF_vals (h2 r hr).1
  exact keyF_okv (fun c hcm => by rw [f1]; exact colsF_in hc c hcm) f2
/-- A sorted index of the same entries is the index. -/
theorem index_eq {t : Table} {rows : List RowD} {cols : List Int} (hr : rowsF t rows = true) (hc : colsF cols t.cols.length = true) {q : List Entry} (hp : q.Perm (entsF cols rows)) (hs : q.Pairwise fun a b => entOrd a b < 0 ∨ a = b) : q = ofAux cols rows [] := by
  have hsort := index_sorted hr hc
  have hperm : q.Perm (ofAux cols rows []) := hp.trans (by simpa using (ofAux_perm cols rows []).symm)
  have hlen : ∀ e ∈ q, e.key.length = cols.length := fun e he => by
    obtain ⟨r, _, rfl⟩ := List.mem_map.1 (hp.mem_iff.1 he)
    exact keyF_len _ _
  have hnd : q.Nodup := by
    rw [hperm.nodup_iff]
    refine hsort.imp_of_mem fun {a b} ha hb h he => ?_
    subst he
    have := (entOrd_cmp cols.length).refl a (hlen a (hperm.mem_iff.2 ha))
    omega
  exact ent_eq_sorted (strict_of hs hnd) hsort hlen hperm
theorem sIndexOf_ok (s : List Table) (db : List Data) (n : Int) (cols : List Int) (hx : s.length ≤ 34359738368) (hb : ∀ t ∈ s, bTable 34359738368 t) (hd : db.length ≤ 34359738368) (hdb : ∀ d ∈ db, bData 34359738368 d) (hc : cols.length ≤ 34359738368) :
    Pure Tryz.prog 31 [.c (.fz (s.map encTable)), .c (.fz (db.map encData)), .c (.int .i64 n), .c (.fz (cols.map encI))] (.tup [.c (.fz ((IndexOfF s db n cols).1.map encE)), .c (.bool (IndexOfF s db n cols).2)]) := by
  refine Pure.run mixed c_spec_IndexOf_ok (Nat.le_of_ble_eq_true rfl) fun σ hS hA => ?_
  clear hS hA
  have c1 := l6Ok_ok s db n hx hb hd hdb
  rw [IndexOfF]
  cases h1 : (dbF s db && isIn n 0 (s.length - 1))
  · rw [h1] at c1
    have hno : idxOk s db n cols = false := by rw [idxOk, ← Bool.and_assoc, h1]; rfl
    rw [hno]
    repeat' first|refine yaG ?_|refine yaC (c1) ?_|(exfalso;omega)|(refine yaS ?_ ?_<;>intro _)
    exact .ret rfl fin_no
  rw [h1] at c1
  rw [Bool.and_eq_true] at h1
  obtain ⟨g3, g4⟩ := isIn_at h1.2
  have hn0 : n = (n.toNat : Int) := by omega
  have hlt0 : n.toNat < s.length := by omega
  have hcb := (hb _ (List.getElem_mem hlt0)).2.1.1
  have hco : colsAt s n = s[n.toNat].cols.length := by rw [colsAt, List.getElem?_eq_getElem hlt0]
  have c3 := l3Cols_ok cols s[n.toNat].cols.length hc (by omega) (by omega)
  cases h2 : idxOk s db n cols
  · have hno : colsF cols s[n.toNat].cols.length = false := by
      rw [idxOk, h1.1, h1.2, hco] at h2
      simpa using h2
    rw [hno] at c3
    repeat' first|refine yaG ?_|((first|apply yG|apply yH|apply yI);exact rfl;(first|exact yX (enc := encTable) rfl rfl hn0 hlt0 rfl))|refine yaC (c1) ?_|refine yaC (c3) ?_|(exfalso;omega)|(refine yaS ?_ ?_<;>intro _)
    exact .ret rfl fin_no
  obtain ⟨m, hlt, hlt2, rfl, _, h5, h6, _, h7, _⟩ := idxOk_at h2
  simp only [Int.toNat_natCast] at c3
  rw [h5] at c3
  obtain ⟨hr1, hr2⟩ := rowsF_mem h6
  have hnn : (m : Int) = ((m : Nat) : Int) := rfl
  have cof := l11Of_mk db[m] cols (by omega) hc (fun r hr => by rw [(fitF_vals (hr2 r hr).1).1]; exact fun c hcm => colsF_in h5 c hcm) (E σ [])
  rw [h7]
  repeat' first|refine yaG ?_|((first|apply yG|apply yH|apply yI);exact rfl;(first|exact yX (enc := encTable) rfl rfl hnn hlt rfl|exact yX (enc := encData) rfl rfl hnn hlt2 rfl))|refine yaC (c1) ?_|refine yaC (c3) ?_|(exfalso;omega)|(refine yaS ?_ ?_<;>intro _)
  refine .call _ rfl rfl rfl cof ?_
  rintro r τ ⟨v, junk, hj, rfl, rfl⟩
  rw [E_E, List.nil_append]
  repeat' first|refine yaG ?_|(exfalso;omega)|(refine yaS ?_ ?_<;>intro _)
  refine .ret rfl ⟨_, rfl, .tup rfl fun i hi => ?_⟩
  match i, hi with
  | 0, _ => exact frz_oldQ (k := 0) rfl old_maps (Nat.le_refl _)
  | 1, _ => exact solid_end
theorem IndexOf_ok (s : List Table) (db : List Data) (n : Int) (cols : List Int) (hx : s.length ≤ 34359738368) (hb : ∀ t ∈ s, bTable 34359738368 t) (hd : db.length ≤ 34359738368) (hdb : ∀ d ∈ db, bData 34359738368 d) (hc : cols.length ≤ 34359738368) (σ : Store) :
    Ok Tryz.prog 30 [.c (.fz (s.map encTable)), .c (.fz (db.map encData)), .c (.int .i64 n), .c (.fz (cols.map encI))] σ (NewV σ (.tup [.c (.fz ((IndexOfF s db n cols).1.map encE)), .c (.bool (IndexOfF s db n cols).2)])) := by
  refine Ok.run mixed c_impl_IndexOf_ok (Nat.le_of_ble_eq_true rfl) fun hS hA => ?_
  clear hS hA
  have c1 := DbOk_ok s db hx hb hd hdb
  have c2 := areIn_ok s n cols hx hb hc
  rw [IndexOfF]
  cases h1 : dbF s db
  · rw [h1] at c1
    have hno : idxOk s db n cols = false := by rw [idxOk, h1]; rfl
    rw [hno]
    repeat' first|refine yaG ?_|refine yaC (c1) ?_|(exfalso;omega)|(refine yaS ?_ ?_<;>intro _)
    exact .ret rfl (newPairE ⟨.start σ, .c .nil⟩)
  rw [h1] at c1
  cases h2 : idxOk s db n cols
  · have hno : (isIn n 0 (s.length - 1) && colsF cols (colsAt s n)) = false := by
      rw [idxOk, h1] at h2
      simpa using h2
    rw [hno] at c2
    repeat' first|refine yaG ?_|refine yaC (c1) ?_|refine yaC (c2) ?_|(exfalso;omega)|(refine yaS ?_ ?_<;>intro _)
    exact .ret rfl (newPairE ⟨.start σ, .c .nil⟩)
  obtain ⟨m, hlt, hlt2, rfl, _, h5, h6, hco, h7, hin⟩ := idxOk_at h2
  rw [hin, hco, h5] at c2
  obtain ⟨hr1, hr2⟩ := rowsF_mem h6
  have hnn : (m : Int) = ((m : Nat) : Int) := rfl
  rw [h7]
  repeat' first|refine yaG ?_|((first|apply yG|apply yH|apply yI);exact rfl;(first|exact yX (enc := encData) rfl rfl hnn hlt2 rfl))|refine yaC (c1) ?_|refine yaC (c2) ?_|(exfalso;omega)|(refine yaS ?_ ?_<;>intro _)
  have hne0 : Ce.sl (σ.next + 0) 0 0 0 0 ≠ .nils := fun h => by cases h
  clear h7
  generalize db[m].rows = rows at h6 hr1 hr2 ⊢
  have hin2 : ∀ r ∈ rows, InR cols r.vals.length := fun r hr => by rw [(fitF_vals (hr2 r hr).1).1]; exact fun c hcm => colsF_in h5 c hcm
  refine Go.keep [3, 10, 31, 32, 33] (Go.loops (I := fun k fr τ => ∃ (i : Nat) (z : Int) (x : Ce), k = rows.length - i ∧ i ≤ rows.length ∧ z = i ∧ x ≠ .nils ∧ Grow σ τ 2 ((entsF cols (rows.take i)).map encE) x ∧
    fr = [(3, .c (.fz (cols.map encI))), (10, .c x), (31, .c (.fz (rows.map encRowD))), (32, .c (.int .i64 (rows.length : Int))), (33, .c (.int .i64 z))]) ?_ _ _ _ ⟨0, _, _, rfl, Nat.zero_le _, rfl, hne0, Grow.empty, rfl⟩)
  rintro k fr τ ⟨i, z, x, rfl, hi, hz, hxn, hG, rfl⟩ hrec
  have hle : σ.next ≤ τ.next := hG.gr.next
  by_cases hlt3 : i < rows.length
  · refine .old fun _ hSτ => ?_
    rw [← E_nil hSτ]
    have hle1 : σ.next ≤ (E τ []).next := hle
    have ck := keyOf_new cols rows[i].vals hc (hin2 _ (List.getElem_mem hlt3)) (E τ [])
    repeat' first|refine yaG ?_|((first|apply yG|apply yH|apply yI);exact rfl;(first|exact yX (enc := encRowD) rfl rfl hz hlt3 rfl))|(exfalso;omega)|(refine yaS ?_ ?_<;>intro _)
    refine .call _ rfl rfl rfl ck ?_
    intro r τ2 hn
    obtain ⟨xk, rfl, hg2, hh2⟩ := new2_open (.bool _) hn
    rw [E_nil hSτ] at hg2
    repeat' first|refine yaG ?_|(exfalso;omega)|(refine yaS ?_ ?_<;>intro _)
    refine Go.grow rfl rfl rfl (hG.later hg2) hle hg2.next (entry_owned (n := rows[i].id) hh2) rfl ?_ fun x' τ3 hG3 => ?_
    · simp [entsF]
      omega
    have e1 : (entsF cols (rows.take i)).map encE ++ [[.fz ((keyF cols rows[i].vals).map encV), .int .i64 rows[i].id]] = (entsF cols (rows.take (i + 1))).map encE := by
      rw [List.take_succ_eq_append_getElem hlt3, entsF, entsF, List.map_append, List.map_append]
      rfl
    rw [e1] at hG3
    have hxn3 : x' ≠ .nils := by
      rintro rfl
      have h := hG3.row.has
      rw [List.take_succ_eq_append_getElem hlt3] at h
      simp only [entsF, List.map_append, List.map_cons, List.map_nil] at h
      generalize hy : List.map encE (List.map (fun r : RowD => (⟨keyF cols r.vals, r.id⟩ : Entry)) (rows.take i)) ++ [encE ⟨keyF cols rows[i].vals, rows[i].id⟩] = ys at h
      cases h
      simp at hy
    repeat' first|refine yaG ?_|(exfalso;omega)|(refine yaS ?_ ?_<;>intro _)
    exact Go.keep [3, 10, 31, 32, 33] (hrec _ _ _ (by omega) ⟨i + 1, _, x', rfl, hlt3, wrap_succ hz (by omega), hxn3, hG3, rfl⟩)
  · repeat' first|refine yaG ?_|(exfalso;omega)|(refine yaS ?_ ?_<;>intro _)
    rw [List.take_of_length_le (by omega)] at hG
    have hv := hG.v
    obtain ⟨hGr, hh⟩ := hv
    cases hh with
    | c hh =>
    refine .call _ rfl rfl rfl (pdqEntries_ok (entsF cols rows) cols.length (fun e he => ?_) hc (by simp [entsF]; omega) (fun a ha => ha.2) hxn hh) ?_
    · obtain ⟨r, _, rfl⟩ := List.mem_map.1 he
      exact keyF_len _ _
    rintro r τ' ⟨rfl, q, p1, p2, p3, p4, p5, p6⟩
    have hq := index_eq h6 h5 p1 p2
    subst hq
    repeat' first|refine yaG ?_|(exfalso;omega)|(refine yaS ?_ ?_<;>intro _)
    exact .ret rfl (newPairE ⟨p6 σ hGr (fun a ha => ha), .c (p3.mono fun a ha => by rw [p4]; exact ha)⟩)
end Go.Proofs.YtdgnfdljkghpjaaGreat.Am

/- The law FnExactIndexDrop: its function returns true. -/
set_option linter.unusedVariables false
set_option linter.unusedSimpArgs false
namespace Go.Proofs.YtdgnfdljkghpjaaGreat.Am

def heldE (e : Entry) (k : Int) : Int := if heldS heldV e.key k < 0 then -1 else if e.id = heldS heldV e.key k then heldS heldV e.key k + 1 else -1
theorem heldE_mark (e : Entry) (k : Int) (hk : 0 ≤ k) : heldE (markE e k) k = k + cntE e := by
  have h := heldS_mark (c := fun _ => 3) heldV_mark (fun _ => by decide) e.key k hk
  have h0 := cntL_nonneg (c := fun _ : Val => 3) (fun _ => by decide) e.key
  simp only [heldE, markE, h, cntE]
  rw [if_neg (by omega)]
  simp
  omega
theorem heldS_or {α : Type} {h : α → Int → Int} {c : α → Int} (hh : ∀ a k, h a k = -1 ∨ h a k = k + c a) : ∀ (xs : List α) (k : Int), heldS h xs k = -1 ∨ heldS h xs k = k + cntL c xs
  | [], k => by simp [heldS, cntL]
  | a :: r, k => by
    simp only [heldS, cntL]
    split
    · exact .inl rfl
    · rename_i h0
      rcases hh a k with h1 | h1
      · omega
      · rw [h1]
        rcases heldS_or hh r (k + c a) with h2 | h2
        · exact .inl h2
        · right; rw [h2]; omega
theorem heldV_or (v : Val) (k : Int) : heldV v k = -1 ∨ heldV v k = k + 3 := by
  simp only [heldV]
  split
  · exact .inr rfl
  · exact .inl rfl
theorem heldEntryS_ok (xs : List Entry) (k : Int) (hx : xs.length ≤ 34359738368) (hkl : ∀ e ∈ xs, e.key.length ≤ 34359738368) (hk0 : 0 ≤ k) (hk : k + cntL cntE xs ≤ 34359738368) : Pure Tryz.prog 45 [.c (.fz (xs.map encE)), .c (.int .i64 k)] (.c (.int .i64 (heldS heldE xs k))) := by
  refine Pure.run mixed c_laws_heldEntryS_ok (Nat.le_of_ble_eq_true rfl) fun σ hS hA => ?_
  clear hS hA
  repeat' first|refine yaG ?_|(exfalso;omega)|(refine yaS ?_ ?_<;>intro _)
  refine Go.keep [0, 1, 5] (Go.loops (I := fun m fr τ => ∃ i : Nat, ∃ n l : Int, m = xs.length - i ∧ i ≤ xs.length ∧ n = i ∧ (0 ≤ l ∧ l + cntL cntE (xs.drop i) ≤ 34359738368 ∧ heldS heldE xs k = heldS heldE (xs.drop i) l) ∧
    fr = [(0, .c (.fz (xs.map encE))), (1, .c (.int .i64 l)), (5, .c (.int .i64 n))] ∧ τ = E σ []) ?_ _ _ _ ⟨0, _, _, rfl, Nat.zero_le _, rfl, ⟨hk0, by simpa using hk, rfl⟩, rfl, rfl⟩)
  rintro m fr τ ⟨i, n, l, rfl, hi, hn, ⟨hl0, hl, hsl⟩, rfl, rfl⟩ hrec
  by_cases hlt : i < xs.length
  · have hdr := List.drop_eq_getElem_cons hlt
    have hn0 := cntL_nonneg cntE_nonneg (xs.drop (i + 1))
    have hn1 := cntL_nonneg (c := fun _ : Val => 3) (fun _ => by decide) xs[i].key
    rw [hdr] at hl
    simp only [cntL, cntE] at hl
    have neg : heldE xs[i] l = -1 → heldS heldE xs k = -1 := fun h => by
      rw [hsl, hdr, heldS, h]
      rfl
    have hor := heldS_or (c := fun _ => 3) heldV_or xs[i].key l
    repeat' first|refine yaG ?_|((first|apply yG|apply yH|apply yI);exact rfl;(first|exact yX (enc := encE) rfl rfl hn hlt rfl))|((first|apply Go.pcallI|apply Go.spcallI|apply Qg.pcallI);(iterate 3 exact rfl);exact heldValS_ok xs[i].key l (hkl _ (List.getElem_mem hlt)) hl0 (by omega);intro _ _)|(exfalso;omega)|(refine yaS ?_ ?_<;>intro _)
    · refine .ret rfl (.int ?_)
      refine (neg ?_).symm
      rw [heldE, if_pos (by omega)]
    · rename_i l1 h1 h2 h3
      refine .ret rfl (.int ?_)
      refine (neg ?_).symm
      rw [heldE, h1, if_neg h2, if_neg h3]
    · rename_i l1 h1 h2 h3
      have hw : IntKind.i64.wrap (l1 + 1) = l1 + 1 := wrap64 (by omega) (by omega)
      have hhe : heldE xs[i] l = l1 + 1 := by rw [heldE, h1, if_neg h2, if_pos h3]
      refine Go.keep [0, 1, 5] (hrec _ _ _ (by omega) ⟨i + 1, _, _, rfl, hlt, wrap_succ hn (by omega), ⟨?_, ?_, ?_⟩, rfl, rfl⟩)
      · rw [hw]; omega
      · rw [hw]; omega
      · rw [hsl, hdr, heldS, hhe, if_neg (by omega), hw]
  · repeat' first|refine yaG ?_|(exfalso;omega)|(refine yaS ?_ ?_<;>intro _)
    refine .ret rfl (.int ?_)
    rw [hsl, List.drop_eq_nil_of_le (by omega)]
    rfl
end Go.Proofs.YtdgnfdljkghpjaaGreat.Am

/- What the law of IndexOf asks of the entries: how many, how long, held as they were marked. -/
set_option linter.unusedVariables false
set_option linter.unusedSimpArgs false
namespace Go.Proofs.YtdgnfdljkghpjaaGreat.Am

theorem heldEntryS_at (ws : List Entry) (w1 : ws.length ≤ 34359738368) (w2 : ∀ x ∈ ws, x.key.length ≤ 34359738368) (w3 : 1 + cntL cntE ws ≤ 34359738368) : Pure Tryz.prog 45 [.c (.fz ((markL markE cntE ws 1).map encE)), .c (.int .i64 1)] (.c (.int .i64 (1 + cntL cntE ws))) := by
  have h1 : ∀ (ws : List Entry) (k : Int), (∀ x ∈ ws, x.key.length ≤ 34359738368) → (∀ e ∈ markL markE cntE ws k, e.key.length ≤ 34359738368) ∧ cntL cntE (markL markE cntE ws k) = cntL cntE ws := by
    intro ws
    induction ws with
    | nil => intro k _; exact ⟨fun e he => by simp [markL] at he, rfl⟩
    | cons a ws ih =>
      intro k h
      obtain ⟨i1, i2⟩ := ih (k + cntE a) fun x hx => h x (by simp [hx])
      refine ⟨fun e he => ?_, by rw [markL, cntL, cntL, i2]; simp only [cntE, markE, cnt3, markL_length]⟩
      rw [markL] at he
      rcases List.mem_cons.1 he with rfl | he
      · simp only [markE, markL_length]
        exact h a (by simp)
      · exact i1 e he
  obtain ⟨h2, h3⟩ := h1 ws 1 w2
  have := heldEntryS_ok (markL markE cntE ws 1) 1 (by rw [markL_length]; exact w1) h2 (by decide) (by rw [h3]; exact w3)
  rw [heldS_mark heldE_mark cntE_nonneg ws 1 (by decide)] at this
  exact this
theorem heldEntryS_nn (ws : List Entry) : 0 ≤ cntL cntE ws := cntL_nonneg cntE_nonneg ws
theorem cnt_len : ∀ l : List Int, cntL (fun _ : Int => 1) l = l.length
  | [] => rfl
  | a :: r => by
    rw [cntL, cnt_len r, List.length_cons]
    omega
theorem nodup_few : ∀ (n : Nat) (l : List Int), l.Nodup → (∀ c ∈ l, 0 ≤ c ∧ c < (n : Int)) → l.length ≤ n
  | 0, l, _, h => by
    cases l with
    | nil => exact Nat.le_refl _
    | cons a r =>
      have := h a (by simp)
      omega
  | n + 1, l, hn, h => by
    by_cases hm : (n : Int) ∈ l
    · have h1 := List.length_erase_of_mem hm
      have h2 := nodup_few n (l.erase (n : Int)) (hn.erase _) fun c hc => by
        have h3 := h c (List.mem_of_mem_erase hc)
        have h4 : c ≠ (n : Int) := fun e => by
          subst e
          exact (List.Nodup.not_mem_erase hn) hc
        omega
      omega
    · have h2 := nodup_few n l hn fun c hc => by
        have h3 := h c hc
        have h4 : c ≠ (n : Int) := fun e => hm (e ▸ hc)
        omega
      omega
theorem colsAux_nodup {n : Int} : ∀ {l pre : List Int}, colsAux n pre l = true → l.Nodup ∧ ∀ c ∈ l, c ∉ pre
  | [], pre, _ => ⟨.nil, fun c hc => by cases hc⟩
  | c :: r, pre, h => by
    simp only [colsAux, Bool.and_eq_true, Bool.not_eq_true', List.any_eq_false, beq_iff_eq] at h
    obtain ⟨⟨_, h2⟩, h3⟩ := h
    obtain ⟨i1, i2⟩ := colsAux_nodup h3
    refine ⟨List.nodup_cons.2 ⟨fun hc => i2 c hc (by simp), i1⟩, fun q hq hp => ?_⟩
    rcases List.mem_cons.1 hq with rfl | hq
    · exact h2 q hp rfl
    · exact i2 q hq (by simp [hp])
theorem colsF_few {l : List Int} {n : Nat} (h : colsF l n = true) : l.length ≤ n := by
  have h2 := h
  rw [colsF, Bool.and_eq_true] at h2
  exact nodup_few n l (colsAux_nodup h2.1).1 (colsF_in h)
theorem IndexOf_fact (s : List Table) (db : List Data) (n : Int) (cols : List Int) (hx : s.length ≤ 34359738368) (hb : ∀ t ∈ s, bTable 34359738368 t) (hd : db.length ≤ 34359738368) (hdb : ∀ d ∈ db, bData 34359738368 d) (hc : cols.length ≤ 34359738368) :
    (IndexOfF s db n cols).1.length ≤ 34359738368 ∧ (∀ x ∈ (IndexOfF s db n cols).1, x.key.length ≤ 34359738368) ∧ 1 + cntL cntE (IndexOfF s db n cols).1 ≤ 34359738368 := by
  have key : (IndexOfF s db n cols).1.length ≤ 60 ∧ ∀ x ∈ (IndexOfF s db n cols).1, x.key.length ≤ 8 := by
    rw [IndexOfF]
    cases h2 : idxOk s db n cols
    · exact ⟨Nat.zero_le _, fun x hx => by cases hx⟩
    obtain ⟨m, hlt, hlt2, rfl, h4, h5, h6, _, h7, _⟩ := idxOk_at h2
    obtain ⟨hr1, hr2⟩ := rowsF_mem h6
    obtain ⟨k1, k2⟩ := ofAux_at cols db[m].rows []
    have hcl := schemaF_cols (dbF_at h4).1 _ (List.getElem_mem hlt)
    have hfew := colsF_few h5
    rw [h7]
    refine ⟨by show (ofAux cols db[m].rows []).length ≤ 60; rw [k1]; simp; omega, fun x hx => ?_⟩
    have := k2 (fun e he => by cases he) x hx
    omega
  obtain ⟨h1, h2⟩ := key
  generalize (IndexOfF s db n cols).1 = ws at h1 h2 ⊢
  have hc : ∀ l : List Entry, (∀ x ∈ l, x.key.length ≤ 8) → cntL cntE l ≤ 25 * l.length := by
    intro l
    induction l with
    | nil => intro _; exact Int.le_refl _
    | cons a r ih =>
      intro h
      have h3 := ih fun x hx => h x (by simp [hx])
      have h4 := h a (by simp)
      have h5 : cntE a ≤ 25 := by
        rw [cntE, cnt3]
        omega
      simp only [cntL, List.length_cons]
      omega
  have := hc ws h2
  exact ⟨by omega, fun x hx => by have := h2 x hx; omega, by omega⟩
end Go.Proofs.YtdgnfdljkghpjaaGreat.Am

/- What the rows say of values and entries. -/
set_option linter.unusedVariables false
set_option linter.unusedSimpArgs false
namespace Go.Proofs.YtdgnfdljkghpjaaGreat.Am
open Go.RowKit Go.ChangeShapes Go.WideShapes

section
variable {H : Type} {enc : TypeId × Value → H} {W : World}
theorem openV : Opens enc Tryz.prog W 204 encV LenV := 
  (Opens.struct (s := 3) Tryz.underlying204 (.cons (s := 1) rfl (.int Tryz.underlying2) rfl (fun _ => rfl) (.cons (s := 1) rfl (.int Tryz.underlying2) rfl (fun _ => rfl) (.cons (s := 1) rfl (.str Tryz.underlying9) rfl (fun _ => rfl) .nil))) (by kernel_rfl) (fun _ => rfl)).iso (fun p => Val.mk p.1 p.2.1 p.2.2.1) (fun _ => rfl) fun p h => Nat.le_trans h.2.2.1 (by decide)
theorem openVs : Opens enc Tryz.prog W 105 (fun l : List Val => [.fz (l.map encV)]) (fun l => l.length ≤ 140737488351232 ∧ ∀ v ∈ l, LenV v) :=
  (Opens.slice (s := 3) Tryz.underlying105 openV (by kernel_rfl) (by decide) (fun _ => rfl)).iso id (fun _ => rfl) fun l h => ⟨Nat.le_trans (Nat.le_mul_of_pos_right _ (of_decide_eq_true (by kernel_rfl))) h.1, h.2⟩
theorem openE : Opens enc Tryz.prog W 107 encE LenE := 
  (Opens.struct (s := 2) Tryz.underlying107 (.cons (s := 1) rfl openVs rfl (fun _ => rfl) (.cons (s := 1) rfl (.int Tryz.underlying2) rfl (fun _ => rfl) .nil)) (by kernel_rfl) (fun _ => rfl)).iso (fun p => Entry.mk p.1 p.2.1) (fun _ => rfl) fun p h => ⟨Nat.le_trans h.1.1 (by decide), h.1.2⟩
theorem openEs : Opens enc Tryz.prog W 36 (fun l : List Entry => [.fz (l.map encE)]) (fun l => l.length ≤ 140737488351232 ∧ ∀ v ∈ l, LenE v) :=
  (Opens.slice (s := 2) Tryz.underlying36 openE (by kernel_rfl) (by decide) (fun _ => rfl)).iso id (fun _ => rfl) fun l h => ⟨Nat.le_trans (Nat.le_mul_of_pos_right _ (of_decide_eq_true (by kernel_rfl))) h.1, h.2⟩
end
end Go.Proofs.YtdgnfdljkghpjaaGreat.Am

/- The laws' helpers on types, printed by a program: Tok, Check, Unique, Fk, Col, Table, Term, Select, Trigger, Set, Row, Stmt. -/
set_option linter.unusedVariables false
set_option linter.unusedSimpArgs false
namespace Go.Proofs.YtdgnfdljkghpjaaGreat.Am
open Go.RowKit Go.ChangeShapes Go.WideShapes
section
variable {H : Type} {enc : TypeId × Value → H} {W : World}
theorem openIs : Opens enc Tryz.prog W 35 (fun l : List Int => [.fz (l.map encI)]) (fun l => l.length ≤ 140737488351232) :=
  (Opens.slice (s := 1) Tryz.underlying35 (.int Tryz.underlying2) (by kernel_rfl) (by decide) (fun _ => rfl)).iso id (fun _ => rfl) fun l h => Nat.le_trans (Nat.le_mul_of_pos_right _ (of_decide_eq_true (by kernel_rfl))) h.1
theorem openTok : Opens enc Tryz.prog W 279 encTok (bTok 1125899906842624) :=
  (Opens.struct (s := 5) Tryz.underlying279 (.cons (s := 1) rfl (.int Tryz.underlying2) rfl (fun _ => rfl) (.cons (s := 1) rfl (.int Tryz.underlying2) rfl (fun _ => rfl) (.cons (s := 3) rfl openV rfl (fun _ => rfl) .nil))) (by kernel_rfl) (fun _ => rfl)).iso (fun p => Tok.mk p.1 p.2.1 p.2.2.1) (fun _ => rfl) fun p h => h.2.2.1
theorem openToks : Opens enc Tryz.prog W 210 (fun l : List Tok => [.fz (l.map encTok)]) (fun l => l.length ≤ 140737488351232 ∧ ∀ v ∈ l, bTok 1125899906842624 v) :=
  (Opens.slice (s := 5) Tryz.underlying210 openTok (by kernel_rfl) (by decide) (fun _ => rfl)).iso id (fun _ => rfl) fun l h => ⟨Nat.le_trans (Nat.le_mul_of_pos_right _ (of_decide_eq_true (by kernel_rfl))) h.1, h.2⟩
theorem openChk : Opens enc Tryz.prog W 212 encChk (bChk 1125899906842624) :=
  (Opens.struct (s := 1) Tryz.underlying212 (.cons (s := 1) rfl openToks rfl (fun _ => rfl) .nil) (by kernel_rfl) (fun _ => rfl)).iso (fun p => Chk.mk p.1) (fun _ => rfl) fun p h => ⟨Nat.le_trans h.1.1 (by decide), h.1.2⟩
theorem openChks : Opens enc Tryz.prog W 96 (fun l : List Chk => [.fz (l.map encChk)]) (fun l => l.length ≤ 140737488351232 ∧ ∀ v ∈ l, bChk 1125899906842624 v) :=
  (Opens.slice (s := 1) Tryz.underlying96 openChk (by kernel_rfl) (by decide) (fun _ => rfl)).iso id (fun _ => rfl) fun l h => ⟨Nat.le_trans (Nat.le_mul_of_pos_right _ (of_decide_eq_true (by kernel_rfl))) h.1, h.2⟩
theorem openUniq : Opens enc Tryz.prog W 208 encUniq (bUniq 1125899906842624) :=
  (Opens.struct (s := 1) Tryz.underlying208 (.cons (s := 1) rfl openIs rfl (fun _ => rfl) .nil) (by kernel_rfl) (fun _ => rfl)).iso (fun p => Uniq.mk p.1) (fun _ => rfl) fun p h => Nat.le_trans h.1 (by decide)
theorem openUniqs : Opens enc Tryz.prog W 95 (fun l : List Uniq => [.fz (l.map encUniq)]) (fun l => l.length ≤ 140737488351232 ∧ ∀ v ∈ l, bUniq 1125899906842624 v) :=
  (Opens.slice (s := 1) Tryz.underlying95 openUniq (by kernel_rfl) (by decide) (fun _ => rfl)).iso id (fun _ => rfl) fun l h => ⟨Nat.le_trans (Nat.le_mul_of_pos_right _ (of_decide_eq_true (by kernel_rfl))) h.1, h.2⟩
theorem openFk : Opens enc Tryz.prog W 214 encFk (bFk 1125899906842624) :=
  (Opens.struct (s := 5) Tryz.underlying214 (.cons (s := 1) rfl openIs rfl (fun _ => rfl) (.cons (s := 1) rfl (.str Tryz.underlying9) rfl (fun _ => rfl) (.cons (s := 1) rfl (.int Tryz.underlying2) rfl (fun _ => rfl) (.cons (s := 1) rfl (.int Tryz.underlying2) rfl (fun _ => rfl) (.cons (s := 1) rfl (.bool Tryz.underlying4) rfl (fun _ => rfl) .nil))))) (by kernel_rfl) (fun _ => rfl)).iso (fun p => Fk.mk p.1 p.2.1 p.2.2.1 p.2.2.2.1 p.2.2.2.2.1) (fun _ => rfl) fun p h => ⟨Nat.le_trans h.1 (by decide), Nat.le_trans h.2.1 (by decide)⟩
theorem openFks : Opens enc Tryz.prog W 97 (fun l : List Fk => [.fz (l.map encFk)]) (fun l => l.length ≤ 140737488351232 ∧ ∀ v ∈ l, bFk 1125899906842624 v) :=
  (Opens.slice (s := 5) Tryz.underlying97 openFk (by kernel_rfl) (by decide) (fun _ => rfl)).iso id (fun _ => rfl) fun l h => ⟨Nat.le_trans (Nat.le_mul_of_pos_right _ (of_decide_eq_true (by kernel_rfl))) h.1, h.2⟩
theorem openCol : Opens enc Tryz.prog W 206 encCol (bCol 1125899906842624) :=
  (Opens.struct (s := 6) Tryz.underlying206 (.cons (s := 1) rfl (.str Tryz.underlying9) rfl (fun _ => rfl) (.cons (s := 1) rfl (.int Tryz.underlying2) rfl (fun _ => rfl) (.cons (s := 1) rfl (.bool Tryz.underlying4) rfl (fun _ => rfl) (.cons (s := 3) rfl openV rfl (fun _ => rfl) .nil)))) (by kernel_rfl) (fun _ => rfl)).iso (fun p => Col.mk p.1 p.2.1 p.2.2.1 p.2.2.2.1) (fun _ => rfl) fun p h => ⟨Nat.le_trans h.1 (by decide), h.2.2.2.1⟩
theorem openCols : Opens enc Tryz.prog W 94 (fun l : List Col => [.fz (l.map encCol)]) (fun l => l.length ≤ 140737488351232 ∧ ∀ v ∈ l, bCol 1125899906842624 v) :=
  (Opens.slice (s := 6) Tryz.underlying94 openCol (by kernel_rfl) (by decide) (fun _ => rfl)).iso id (fun _ => rfl) fun l h => ⟨Nat.le_trans (Nat.le_mul_of_pos_right _ (of_decide_eq_true (by kernel_rfl))) h.1, h.2⟩
theorem openTable : Opens enc Tryz.prog W 99 encTable (bTable 1125899906842624) :=
  (Opens.struct (s := 6) Tryz.underlying99 (.cons (s := 1) rfl (.str Tryz.underlying9) rfl (fun _ => rfl) (.cons (s := 1) rfl openCols rfl (fun _ => rfl) (.cons (s := 1) rfl openIs rfl (fun _ => rfl) (.cons (s := 1) rfl openUniqs rfl (fun _ => rfl) (.cons (s := 1) rfl openChks rfl (fun _ => rfl) (.cons (s := 1) rfl openFks rfl (fun _ => rfl) .nil)))))) (by kernel_rfl) (fun _ => rfl)).iso (fun p => Table.mk p.1 p.2.1 p.2.2.1 p.2.2.2.1 p.2.2.2.2.1 p.2.2.2.2.2.1) (fun _ => rfl) fun p h => ⟨Nat.le_trans h.1 (by decide), ⟨Nat.le_trans h.2.1.1 (by decide), h.2.1.2⟩, Nat.le_trans h.2.2.1 (by decide), ⟨Nat.le_trans h.2.2.2.1.1 (by decide), h.2.2.2.1.2⟩, ⟨Nat.le_trans h.2.2.2.2.1.1 (by decide), h.2.2.2.2.1.2⟩, ⟨Nat.le_trans h.2.2.2.2.2.1.1 (by decide), h.2.2.2.2.2.1.2⟩⟩
theorem openTables : Opens enc Tryz.prog W 33 (fun l : List Table => [.fz (l.map encTable)]) (fun l => l.length ≤ 140737488351232 ∧ ∀ v ∈ l, bTable 1125899906842624 v) :=
  (Opens.slice (s := 6) Tryz.underlying33 openTable (by kernel_rfl) (by decide) (fun _ => rfl)).iso id (fun _ => rfl) fun l h => ⟨Nat.le_trans (Nat.le_mul_of_pos_right _ (of_decide_eq_true (by kernel_rfl))) h.1, h.2⟩
theorem openRowD : Opens enc Tryz.prog W 217 encRowD (bRowD 1125899906842624) :=
  (Opens.struct (s := 2) Tryz.underlying217 (.cons (s := 1) rfl (.int Tryz.underlying2) rfl (fun _ => rfl) (.cons (s := 1) rfl openVs rfl (fun _ => rfl) .nil)) (by kernel_rfl) (fun _ => rfl)).iso (fun p => RowD.mk p.1 p.2.1) (fun _ => rfl) fun p h => ⟨Nat.le_trans h.2.1.1 (by decide), h.2.1.2⟩
theorem openRowDs : Opens enc Tryz.prog W 101 (fun l : List RowD => [.fz (l.map encRowD)]) (fun l => l.length ≤ 140737488351232 ∧ ∀ v ∈ l, bRowD 1125899906842624 v) :=
  (Opens.slice (s := 2) Tryz.underlying101 openRowD (by kernel_rfl) (by decide) (fun _ => rfl)).iso id (fun _ => rfl) fun l h => ⟨Nat.le_trans (Nat.le_mul_of_pos_right _ (of_decide_eq_true (by kernel_rfl))) h.1, h.2⟩
end
end Go.Proofs.YtdgnfdljkghpjaaGreat.Am

/- The laws' helpers on types, printed by a program: Data, Line, Save, Session. -/
set_option linter.unusedVariables false
set_option linter.unusedSimpArgs false
namespace Go.Proofs.YtdgnfdljkghpjaaGreat.Am
open Go.RowKit Go.ChangeShapes Go.WideShapes
section
variable {H : Type} {enc : TypeId × Value → H} {W : World}
theorem openData : Opens enc Tryz.prog W 103 encData (bData 1125899906842624) :=
  (Opens.struct (s := 1) Tryz.underlying103 (.cons (s := 1) rfl openRowDs rfl (fun _ => rfl) .nil) (by kernel_rfl) (fun _ => rfl)).iso (fun p => Data.mk p.1) (fun _ => rfl) fun p h => ⟨Nat.le_trans h.1.1 (by decide), h.1.2⟩
theorem openDatas : Opens enc Tryz.prog W 34 (fun l : List Data => [.fz (l.map encData)]) (fun l => l.length ≤ 140737488351232 ∧ ∀ v ∈ l, bData 1125899906842624 v) :=
  (Opens.slice (s := 1) Tryz.underlying34 openData (by kernel_rfl) (by decide) (fun _ => rfl)).iso id (fun _ => rfl) fun l h => ⟨Nat.le_trans (Nat.le_mul_of_pos_right _ (of_decide_eq_true (by kernel_rfl))) h.1, h.2⟩
end
end Go.Proofs.YtdgnfdljkghpjaaGreat.Am

/- IndexOk: both sides. -/
set_option linter.unusedVariables false
set_option linter.unusedSimpArgs false
namespace Go.Proofs.YtdgnfdljkghpjaaGreat.Am

theorem ents_of {xs : List Entry} {l : Int} (h0 : 0 ≤ l) (h : 0 ≤ szL szE xs l) (hl : l ≤ 34359738368) : xs.length ≤ 34359738368 ∧ ∀ e ∈ xs, e.key.length ≤ 34359738368 := by
  obtain ⟨h1, h2⟩ := szL_mem szE_le h0 h
  refine ⟨by omega, fun e he => ?_⟩
  obtain ⟨q, q1, q2, q3⟩ := h2 e he
  simp only [szE] at q3
  split at q3
  · omega
  · have := (szL_mem szV_le q1 q3).1
    omega
theorem beq_step {α : Type} [BEq α] {xs ys : List α} {i : Nat} (h1 : i < xs.length) (h2 : i < ys.length) : (xs.drop i == ys.drop i) = (xs[i] == ys[i] && (xs.drop (i + 1) == ys.drop (i + 1))) := by
  rw [List.drop_eq_getElem_cons h1, List.drop_eq_getElem_cons h2]
  rfl
theorem equalFunc_ok (xs ys : List Entry) (hx : xs.length ≤ 34359738368) (hk : ∀ e ∈ xs, e.key.length ≤ 34359738368) : Pure Tryz.prog 72 [.c (.fz (xs.map encE)), .c (.fz (ys.map encE)), .c (.fn 63 [] [])] (.c (.bool (xs == ys))) := by
  refine Pure.run mixed c_slices_EqualFunc_Entry_ok (Nat.le_of_ble_eq_true rfl) fun σ hS hA => ?_
  clear hS hA
  by_cases hl : xs.length = ys.length
  · have hl2 : (xs.length : Int) = ys.length := by omega
    repeat' first|refine yaG ?_|(exfalso;omega)|(refine yaS ?_ ?_<;>intro _)
    refine Go.keep [1, 2, 15, 16, 17] (Go.loops (I := fun m fr τ => ∃ i : Nat, ∃ n : Int, m = xs.length - i ∧ i ≤ xs.length ∧ n = i ∧ ((xs == ys) = (xs.drop i == ys.drop i)) ∧
      fr = [(1, .c (.fz (ys.map encE))), (2, .c (.fn 63 [] [])), (15, .c (.fz (xs.map encE))), (16, .c (.int .i64 (xs.length : Int))), (17, .c (.int .i64 n))] ∧ τ = E σ []) ?_ _ _ _ ⟨0, _, rfl, Nat.zero_le _, rfl, rfl, rfl, rfl⟩)
    rintro m fr τ ⟨i, n, rfl, hi, hn, hs, rfl, rfl⟩ hrec
    by_cases hlt : i < xs.length
    · have hlt2 : i < ys.length := by omega
      rw [beq_step hlt hlt2] at hs
      have c1 := sameEntry_ok xs[i] ys[i] (hk _ (List.getElem_mem hlt))
      cases hb : (xs[i] == ys[i])
      · rw [hb] at c1 hs
        repeat' first|refine yaG ?_|((first|apply yG|apply yH|apply yI);exact rfl;(first|exact yX (enc := encE) rfl rfl hn hlt rfl|exact yX (enc := encE) rfl rfl hn hlt2 rfl))|refine yaC (c1) ?_|(exfalso;omega)|(refine yaS ?_ ?_<;>intro _)
        exact .ret rfl (.bool hs.symm)
      · rw [hb, Bool.true_and] at hs
        rw [hb] at c1
        repeat' first|refine yaG ?_|((first|apply yG|apply yH|apply yI);exact rfl;(first|exact yX (enc := encE) rfl rfl hn hlt rfl|exact yX (enc := encE) rfl rfl hn hlt2 rfl))|refine yaC (c1) ?_|(exfalso;omega)|(refine yaS ?_ ?_<;>intro _)
        exact Go.keep [1, 2, 15, 16, 17] (hrec _ _ _ (by omega) ⟨i + 1, _, rfl, hlt, wrap_succ hn (by omega), hs, rfl, rfl⟩)
    · repeat' first|refine yaG ?_|(exfalso;omega)|(refine yaS ?_ ?_<;>intro _)
      refine .ret rfl (.bool ?_)
      rw [hs, List.drop_eq_nil_of_le (by omega), List.drop_eq_nil_of_le (by omega)]
      rfl
  · have hl2 : ¬ (xs.length : Int) = ys.length := by omega
    repeat' first|refine yaG ?_|(exfalso;omega)|(refine yaS ?_ ?_<;>intro _)
    refine .ret rfl (.bool ?_)
    rw [eq_comm, beq_eq_false_iff_ne]
    intro e
    exact hl (by rw [e])
def IndexOkF (s : List Table) (db : List Data) (n : Int) (cols : List Int) (l : List Entry) : Bool := (IndexOfF s db n cols).2 && ((IndexOfF s db n cols).1 == l)
theorem IndexOk_ok (s : List Table) (db : List Data) (n : Int) (cols : List Int) (l : List Entry) (hx : s.length ≤ 34359738368) (hb : ∀ t ∈ s, bTable 34359738368 t) (hd : db.length ≤ 34359738368) (hdb : ∀ d ∈ db, bData 34359738368 d) (hc : cols.length ≤ 34359738368) :
    Pure Tryz.prog 24 [.c (.fz (s.map encTable)), .c (.fz (db.map encData)), .c (.int .i64 n), .c (.fz (cols.map encI)), .c (.fz (l.map encE))] (.c (.bool (IndexOkF s db n cols l))) := by
  refine Pure.run mixed c_impl_IndexOk_ok (Nat.le_of_ble_eq_true rfl) fun σ hS hA => ?_
  clear hS hA
  have c1 := NewV.pure (IndexOf_ok s db n cols hx hb hd hdb hc)
  obtain ⟨w1, w2, w3⟩ := IndexOf_fact s db n cols hx hb hd hdb hc
  rw [IndexOkF]
  generalize IndexOfF s db n cols = X at c1 w1 w2 ⊢
  obtain ⟨ws, is⟩ := X
  simp only at c1 w1 w2 ⊢
  have c2 := equalFunc_ok ws l w1 w2
  cases is
  · repeat' first|refine yaG ?_|refine yaC (c1) ?_|(exfalso;omega)|(refine yaS ?_ ?_<;>intro _)
    exact .ret rfl (.bool rfl)
  · repeat' first|refine yaG ?_|refine yaC (c1) ?_|refine yaC (c2) ?_|(exfalso;omega)|(refine yaS ?_ ?_<;>intro _)
    exact .ret rfl (.bool (Bool.true_and _).symm)
theorem sIndexOk_ok (s : List Table) (db : List Data) (n : Int) (cols : List Int) (l : List Entry) (hx : s.length ≤ 34359738368) (hb : ∀ t ∈ s, bTable 34359738368 t) (hd : db.length ≤ 34359738368) (hdb : ∀ d ∈ db, bData 34359738368 d) (hc : cols.length ≤ 34359738368) :
    Pure Tryz.prog 19 [.c (.fz (s.map encTable)), .c (.fz (db.map encData)), .c (.int .i64 n), .c (.fz (cols.map encI)), .c (.fz (l.map encE))] (.c (.bool (IndexOkF s db n cols l))) := by
  refine Pure.run mixed c_spec_IndexOk_ok (Nat.le_of_ble_eq_true rfl) fun σ hS hA => ?_
  clear hS hA
  have c1 := sIndexOf_ok s db n cols hx hb hd hdb hc
  obtain ⟨w1, w2, w3⟩ := IndexOf_fact s db n cols hx hb hd hdb hc
  rw [IndexOkF]
  generalize IndexOfF s db n cols = X at c1 w1 w2 ⊢
  obtain ⟨xs, is⟩ := X
  simp only at c1 w1 w2 ⊢
  cases is
  · repeat' first|refine yaG ?_|refine yaC (c1) ?_|(exfalso;omega)|(refine yaS ?_ ?_<;>intro _)
    exact .ret rfl (.bool rfl)
  rw [Bool.true_and]
  by_cases hl : xs.length = l.length
  · have hl2 : (xs.length : Int) = l.length := by omega
    repeat' first|refine yaG ?_|refine yaC (c1) ?_|(exfalso;omega)|(refine yaS ?_ ?_<;>intro _)
    refine Go.keep [4, 11, 13] (Go.loops (I := fun m fr τ => ∃ i : Nat, ∃ n : Int, m = xs.length - i ∧ i ≤ xs.length ∧ n = i ∧ ((xs == l) = (xs.drop i == l.drop i)) ∧
      fr = [(4, .c (.fz (l.map encE))), (11, .c (.fz (xs.map encE))), (13, .c (.int .i64 n))] ∧ τ = E σ []) ?_ _ _ _ ⟨0, _, rfl, Nat.zero_le _, rfl, rfl, rfl, rfl⟩)
    rintro m fr τ ⟨i, n, rfl, hi, hn, hs, rfl, rfl⟩ hrec
    by_cases hlt : i < xs.length
    · have hlt2 : i < l.length := by omega
      rw [beq_step hlt hlt2] at hs
      have c1 := l11Same_ok xs[i] l[i] (w2 _ (List.getElem_mem hlt))
      cases hb : (xs[i] == l[i])
      · rw [hb] at c1 hs
        repeat' first|refine yaG ?_|((first|apply yG|apply yH|apply yI);exact rfl;(first|exact yX (enc := encE) rfl rfl hn hlt rfl|exact yX (enc := encE) rfl rfl hn hlt2 rfl))|refine yaC (c1) ?_|(exfalso;omega)|(refine yaS ?_ ?_<;>intro _)
        exact .ret rfl (.bool hs.symm)
      · rw [hb, Bool.true_and] at hs
        rw [hb] at c1
        repeat' first|refine yaG ?_|((first|apply yG|apply yH|apply yI);exact rfl;(first|exact yX (enc := encE) rfl rfl hn hlt rfl|exact yX (enc := encE) rfl rfl hn hlt2 rfl))|refine yaC (c1) ?_|(exfalso;omega)|(refine yaS ?_ ?_<;>intro _)
        exact Go.keep [4, 11, 13] (hrec _ _ _ (by omega) ⟨i + 1, _, rfl, hlt, wrap_succ hn (by omega), hs, rfl, rfl⟩)
    · repeat' first|refine yaG ?_|(exfalso;omega)|(refine yaS ?_ ?_<;>intro _)
      refine .ret rfl (.bool ?_)
      rw [hs, List.drop_eq_nil_of_le (by omega), List.drop_eq_nil_of_le (by omega)]
      rfl
  · have hl2 : ¬ (xs.length : Int) = l.length := by omega
    repeat' first|refine yaG ?_|refine yaC (c1) ?_|(exfalso;omega)|(refine yaS ?_ ?_<;>intro _)
    refine .ret rfl (.bool ?_)
    rw [eq_comm, beq_eq_false_iff_ne]
    intro e
    exact hl (by rw [e])
end Go.Proofs.YtdgnfdljkghpjaaGreat.Am
