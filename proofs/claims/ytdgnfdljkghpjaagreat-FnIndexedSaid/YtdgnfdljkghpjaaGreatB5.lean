/- Joined texts: S3, S4, P1, F9, E1, E3, E2, Y1, E4, Y2, K3, Y3, Y4, O3, O4, O5, O6, O7, O8, Q3, Q4, Q5, Q6, Q7, Q8, Q9, Q10, F10. -/
import Derived.Test.YtdgnfdljkghpjaaGreatB1
import Derived.Test.YtdgnfdljkghpjaaGreatB2
import Derived.Test.YtdgnfdljkghpjaaGreatB3
import Derived.Test.YtdgnfdljkghpjaaGreatB4
/- Tables: their columns, references, rules. -/
set_option linter.unusedVariables false
set_option linter.unusedSimpArgs false
namespace Go.Proofs.YtdgnfdljkghpjaaGreat.Am

theorem l1Has_ok (l : List Int) (v : Int) (hx : l.length ≤ 34359738368) : Pure Tryz.prog 147 [.c (.fz (l.map encI)), .c (.int .i64 v)] (.c (.bool (l.any fun a => v == a))) := by
  refine Pure.run mixed c_spec_l1Has_ok (Nat.le_of_ble_eq_true rfl) fun σ hS hA => ?_
  clear hS hA
  repeat' first|refine yaG ?_|(exfalso;omega)|(refine yaS ?_ ?_<;>intro _)
  refine Go.keep [0, 1, 5] (Go.loops (I := fun m fr τ => ∃ i : Nat, ∃ k : Int, m = l.length - i ∧ i ≤ l.length ∧ k = i ∧ (l.any fun a => v == a) = ((l.drop i).any fun a => v == a) ∧
    fr = [(0, .c (.fz (l.map encI))), (1, .c (.int .i64 v)), (5, .c (.int .i64 k))] ∧ τ = E σ []) ?_ _ _ _ ⟨0, _, rfl, Nat.zero_le _, rfl, rfl, rfl, rfl⟩)
  rintro m fr τ ⟨i, k, rfl, hi, hn, hsl, rfl, rfl⟩ hrec
  by_cases hlt : i < l.length
  · have hd := List.drop_eq_getElem_cons hlt
    repeat' first|refine yaG ?_|((first|apply yG|apply yH|apply yI);exact rfl;(first|exact yX (enc := encI) rfl rfl hn hlt rfl))|(exfalso;omega)|(refine yaS ?_ ?_<;>intro _)
    · refine .ret rfl (.bool ?_)
      rename_i h
      rw [hsl, hd, List.any_cons, h]
      simp
    · rename_i h
      refine Go.keep [0, 1, 5] (hrec _ _ _ (by omega) ⟨i + 1, _, rfl, hlt, wrap_succ hn (by omega), ?_, rfl, rfl⟩)
      rw [hsl, hd, List.any_cons, beq_eq_false_iff_ne.2 (fun e => h e.symm)]
      rfl
  · repeat' first|refine yaG ?_|(exfalso;omega)|(refine yaS ?_ ?_<;>intro _)
    refine .ret rfl (.bool ?_)
    rw [hsl, List.drop_eq_nil_of_le (by omega)]
    rfl
theorem l3Cols_ok (l : List Int) (n : Int) (hx : l.length ≤ 34359738368) (h0 : -4611686018427387904 ≤ n) (h1 : n ≤ 4611686018427387904) : Pure Tryz.prog 84 [.c (.fz (l.map encI)), .c (.int .i64 n)] (.c (.bool (colsF l n))) := by
  refine Pure.run mixed c_spec_l3Cols_ok (Nat.le_of_ble_eq_true rfl) fun σ hS hA => ?_
  clear hS hA
  have hw : IntKind.i64.wrap (n - 1) = n - 1 := wrap64 (by omega) (by omega)
  repeat' first|refine yaG ?_|(exfalso;omega)|(refine yaS ?_ ?_<;>intro _)
  refine Go.keep [0, 1, 5] (Go.loops (I := fun m fr τ => ∃ i : Nat, ∃ k : Int, m = l.length - i ∧ i ≤ l.length ∧ k = i ∧ colsAux n [] l = colsAux n (l.take i) (l.drop i) ∧
    fr = [(0, .c (.fz (l.map encI))), (1, .c (.int .i64 n)), (5, .c (.int .i64 k))] ∧ τ = E σ []) ?_ _ _ _ ⟨0, _, rfl, Nat.zero_le _, rfl, rfl, rfl, rfl⟩)
  rintro m fr τ ⟨i, k, rfl, hi, hk, hsl, rfl, rfl⟩ hrec
  by_cases hlt : i < l.length
  · have hd := List.drop_eq_getElem_cons hlt
    have htk : (l.map encI).take i = (l.take i).map encI := List.map_take.symm
    have hstep : colsAux n [] l = (isIn l[i] 0 (n - 1) && !((l.take i).any fun a => l[i] == a) && colsAux n (l.take (i + 1)) (l.drop (i + 1))) := by
      rw [hsl, hd, colsAux, List.take_succ_eq_append_getElem hlt]
    repeat' first|refine yaG ?_|((first|apply yG|apply yH|apply yI);exact rfl;(first|exact yX (enc := encI) rfl rfl hk hlt rfl))|((first|apply Go.pcallB|apply Go.spcallB|apply Qg.pcallB);(iterate 3 exact rfl);exact l1In_ok _ _ _;intro _ _)|(exfalso;omega)|(refine yaS ?_ ?_<;>intro _)
    · refine .ret rfl (.bool ?_)
      rename_i b hb hb2
      rw [hw] at hb
      rw [colsF, hstep, nbT hb hb2]
      rfl
    rename_i b hb hb2
    repeat' first|refine yaG ?_|((first|apply yG|apply yH|apply yI);exact rfl;(first|exact aop_sliceF (n := i) rfl rfl hk (by simp;omega) encI_len|exact yX (enc := encI) rfl rfl hk hlt rfl))|(exfalso;omega)|(refine yaS ?_ ?_<;>intro _)
    rw [htk]
    repeat' first|refine yaG ?_|((first|apply Go.pcallB|apply Go.spcallB|apply Qg.pcallB);(iterate 3 exact rfl);exact l1Has_ok (l.take i) l[i] (by simp;omega);intro _ _)|(exfalso;omega)|(refine yaS ?_ ?_<;>intro _)
    · refine .ret rfl (.bool ?_)
      rename_i b1 hb1 hb3
      rw [colsF, hstep, bT hb1 hb3]
      simp
    · refine Go.keep [0, 1, 5] (hrec _ _ _ (by omega) ⟨i + 1, _, rfl, hlt, wrap_succ hk (by omega), ?_, rfl, rfl⟩)
      rename_i b1 hb1 hb3
      rw [hw] at hb
      rw [hstep, bF hb1 hb3, nbF hb hb2]
      simp
  · have hfin : colsAux n [] l = true := by
      rw [hsl, List.drop_eq_nil_of_le (by omega)]
      rfl
    repeat' first|refine yaG ?_|(exfalso;omega)|(refine yaS ?_ ?_<;>intro _)
    refine .ret rfl (.bool ?_)
    rw [colsF, hfin]
    rfl
def isOfF (v : Val) (k : Int) : Bool := okVal v && (v.k == 0 || v.k == k)
theorem isOf_ok (v : Val) (k : Int) : Pure Tryz.prog 227 [.agg (encV v), .c (.int .i64 k)] (.c (.bool (isOfF v k))) := by
  refine Pure.run mixed c_impl_isOf_ok (Nat.le_of_ble_eq_true rfl) fun σ hS hA => ?_
  clear hS hA
  repeat' first|refine yaG ?_|((first|apply Go.pcallB|apply Go.spcallB|apply Qg.pcallB);(iterate 3 exact rfl);exact ValOk_ok _;intro _ _)|(exfalso;omega)|(refine yaS ?_ ?_<;>intro _)
  all_goals refine .ret rfl (.bool ?_)
  all_goals simp_all [isOfF]
def isFkF (f : Fk) (n : Int) : Bool := colsF f.cols n && (isNameF f.table && (isIn f.onDelete 0 2 && isIn f.onUpdate 0 2))
theorem isFk_ok (f : Fk) (n : Int) (hb : bFk 34359738368 f) (h0 : -4611686018427387904 ≤ n) (h1 : n ≤ 4611686018427387904) : Pure Tryz.prog 223 [.agg (encFk f), .c (.int .i64 n)] (.c (.bool (isFkF f n))) := by
  refine Pure.run mixed c_impl_isFk_ok (Nat.le_of_ble_eq_true rfl) fun σ hS hA => ?_
  clear hS hA
  repeat' first|refine yaG ?_|((first|apply Go.pcallB|apply Go.spcallB|apply Qg.pcallB);(iterate 3 exact rfl);(first|exact areColumns_ok f.cols n hb.1 h0 h1|exact isName_ok f.table hb.2|exact in_ok _ _ _);intro _ _)|(exfalso;omega)|(refine yaS ?_ ?_<;>intro _)
  all_goals refine .ret rfl (.bool ?_)
  all_goals simp_all [isFkF]
/-! ### The columns of a table -/
def colOk (c : Col) : Bool := isNameF c.name && ((c.kind == 1 || c.kind == 2) && isOfF c.dflt c.kind)
def colsDef : List Col → List Col → Bool
  | _, [] => true
  | pre, c :: r => colOk c && !(pre.any fun d => d.name == c.name) && colsDef (pre ++ [c]) r
def areColsF (l : List Col) : Bool := decide ((l.length : Int) ≤ 8) && (colsDef [] l && decide (0 < (l.length : Int)))
theorem areCols1_ok (d c : Col) : Pure Tryz.prog 248 [.agg (encCol d), .c (.fp (encCol c))] (.c (.bool (d.name == c.name))) := by
  refine Pure.run mixed c_impl_areCols_1_ok (Nat.le_of_ble_eq_true rfl) fun σ hS hA => ?_
  clear hS hA
  repeat' first|refine yaG ?_|(exfalso;omega)|(refine yaS ?_ ?_<;>intro _)
  all_goals refine .ret rfl (.bool ?_)
  all_goals simp_all
theorem areCols_ok (l : List Col) (hx : l.length ≤ 34359738368) (hb : ∀ c ∈ l, bCol 34359738368 c) : Pure Tryz.prog 215 [.c (.fz (l.map encCol))] (.c (.bool (areColsF l))) := by
  refine Pure.run mixed c_impl_areCols_ok (Nat.le_of_ble_eq_true rfl) fun σ hS hA => ?_
  clear hS hA
  repeat' first|refine yaG ?_|(exfalso;omega)|(refine yaS ?_ ?_<;>intro _)
  refine Go.keep [0, 5, 6, 7] (Go.loops (I := fun m fr τ => ∃ i : Nat, ∃ k : Int, m = l.length - i ∧ i ≤ l.length ∧ k = i ∧ (i ≤ 8 ∧ colsDef [] l = colsDef (l.take i) (l.drop i)) ∧
    fr = [(0, .c (.fz (l.map encCol))), (5, .c (.fz (l.map encCol))), (6, .c (.int .i64 (l.length : Int))), (7, .c (.int .i64 k))] ∧ τ = E σ []) ?_ _ _ _ ⟨0, _, rfl, Nat.zero_le _, rfl, ⟨by omega, rfl⟩, rfl, rfl⟩)
  rintro m fr τ ⟨i, k, rfl, hi, hk, ⟨h8, hsl⟩, rfl, rfl⟩ hrec
  by_cases hlt : i < l.length
  · have hd := List.drop_eq_getElem_cons hlt
    have hbc := hb _ (List.getElem_mem hlt)
    have htk : (l.map encCol).take i = (l.take i).map encCol := List.map_take.symm
    have hstep : colsDef [] l = (colOk l[i] && !((l.take i).any fun d => d.name == l[i].name) && colsDef (l.take (i + 1)) (l.drop (i + 1))) := by
      rw [hsl, hd, colsDef, List.take_succ_eq_append_getElem hlt]
    have neg : (k = 8 ∨ colOk l[i] = false ∨ ((l.take i).any fun d => d.name == l[i].name) = true) → areColsF l = false := by
      rintro (h | h | h)
      · rw [areColsF, decide_eq_false (by omega)]
        rfl
      · rw [areColsF, hstep, h]
        simp
      · rw [areColsF, hstep, h]
        simp
    repeat' first|refine yaG ?_|((first|apply yG|apply yH|apply yI);exact rfl;(first|exact yX (enc := encCol) rfl rfl hk hlt rfl))|((first|apply Go.pcallB|apply Go.spcallB|apply Qg.pcallB);(iterate 3 exact rfl);(first|exact isName_ok l[i].name hbc.1|exact isOf_ok l[i].dflt l[i].kind);intro _ _)|(exfalso;omega)|(refine yaS ?_ ?_<;>intro _)
    all_goals try (refine .ret rfl (.bool (neg ?_).symm); clear hrec hsl hstep neg; simp_all [colOk]; done)
    all_goals have hcol : colOk l[i] = true := (by clear hrec hsl hstep neg; simp_all [colOk])
    all_goals refine .op rfl (aop_sliceF (n := i) rfl rfl hk (by simp; omega) (fun e he => by obtain ⟨c, _, rfl⟩ := List.mem_map.1 he; rfl)) ?_
    all_goals rw [htk]
    all_goals (repeat' first|(apply yA;exact rfl)|apply yB|apply yC|((first|apply yD|apply yE);(first|exact yF|assumption);iterate 6 exact rfl)|((first|apply yG|apply yH|apply yI);exact rfl;(first|exact yJ|exact yK rfl rfl|exact yL rfl|exact yM rfl|exact rfl|exact aL rfl rfl rfl rfl rfl|exact aS rfl rfl rfl rfl rfl rfl rfl))|((first|apply yN|apply yO|apply yP);exact rfl)|((first|apply Go.pcallB|apply Go.spcallB|apply Qg.pcallB);(iterate 3 exact rfl);exact containsFuncA_ok mixed c_slices_ContainsFunc_Col_ok c_slices_IndexFunc_Col_ok encCol (fun c => .agg (encCol c)) (fun _ => rfl) (fun _ => rfl) (l.take i) (fun d => d.name == l[i].name) _ [] [.fp (encCol l[i])] (by simp;omega) (fun j hj _ => areCols1_ok _ _);intro _ _)|(exfalso;omega)|(((first|apply yT|apply yU|apply yV|apply yW);exact rfl;(first|exact .d|exact .e|exact .n|((fail_if_success exact bqt);(fail_if_success exact bqf);exact .b)))<;>intro _))
    all_goals rename_i b9 hb9 hb8
    all_goals first
      | exact .ret rfl (.bool (neg (.inr (.inr (bT hb9 hb8)))).symm)
      | (refine Go.keep [0, 5, 6, 7] (hrec _ _ _ (by omega) ⟨i + 1, _, rfl, hlt, wrap_succ hk (by omega), ⟨by omega, ?_⟩, rfl, rfl⟩); rw [hstep, hcol, bF hb9 hb8]; rfl)
  · have hfin : colsDef [] l = true := by
      rw [hsl, List.drop_eq_nil_of_le (by omega)]
      rfl
    repeat' first|refine yaG ?_|(exfalso;omega)|(refine yaS ?_ ?_<;>intro _)
    refine .ret rfl (.bool ?_)
    rw [areColsF, hfin, decide_eq_true (p := (l.length : Int) ≤ 8) (by omega)]
    rfl

/-! ### Tables -/
def notNullAt (t : Table) (c : Int) : Bool := match t.cols[c.toNat]? with | some x => x.notNull | none => false
def exprF (e : List Tok) (n : Int) : Bool := decide ((e.length : Int) ≤ 24) && exprAux n 0 e
def tableF (t : Table) : Bool :=
  isNameF t.name && (areColsF t.cols && (colsF t.key t.cols.length && (decide ((t.uniques.length : Int) ≤ 3) && (decide ((t.checks.length : Int) ≤ 3) && (decide ((t.fks.length : Int) ≤ 3) &&
    (!(t.key.any fun c => !notNullAt t c) && (!(t.uniques.any fun u => !colsF u.cols t.cols.length) && (!(t.checks.any fun c => !exprF c.expr t.cols.length) && !(t.fks.any fun f => !isFkF f t.cols.length)))))))))
theorem colsAux_in {n : Int} : ∀ {l pre : List Int}, colsAux n pre l = true → ∀ c ∈ l, isIn c 0 (n - 1) = true
  | [], _, _, c, h => by simp at h
  | a :: r, pre, h, c, hc => by
    simp only [colsAux, Bool.and_eq_true] at h
    rcases List.mem_cons.1 hc with rfl | hc
    · exact h.1.1
    · exact colsAux_in h.2 c hc
theorem colsF_in {l : List Int} {n : Int} (h : colsF l n = true) : ∀ c ∈ l, 0 ≤ c ∧ c < n := by
  intro c hc
  simp only [colsF, Bool.and_eq_true] at h
  have := colsAux_in h.1 c hc
  simp only [isIn, Bool.and_eq_true, decide_eq_true_eq] at this
  omega
theorem areColsF_len {l : List Col} (h : areColsF l = true) : 0 < l.length ∧ l.length ≤ 8 := by
  simp only [areColsF, Bool.and_eq_true, decide_eq_true_eq] at h
  omega
theorem TableOk1_ok (t : Table) (c : Int) (h0 : 0 ≤ c) (h1 : c < t.cols.length) : Pure Tryz.prog 216 [.c (.int .i64 c), .c (.fp (encTable t))] (.c (.bool (!notNullAt t c))) := by
  refine Pure.run mixed c_impl_TableOk_1_ok (Nat.le_of_ble_eq_true rfl) fun σ hS hA => ?_
  clear hS hA
  obtain ⟨n, rfl⟩ : ∃ n : Nat, c = n := ⟨c.toNat, by omega⟩
  have hn : n < t.cols.length := by omega
  repeat' first|refine yaG ?_|((first|apply yG|apply yH|apply yI);exact rfl;(first|exact yX (enc := encCol) rfl rfl rfl hn rfl))|(exfalso;omega)|(refine yaS ?_ ?_<;>intro _)
  refine .ret rfl (.bool ?_)
  simp [notNullAt, hn]
theorem TableOk2_ok (u : Uniq) (n : Int) (hb : bUniq 34359738368 u) (h0 : -4611686018427387904 ≤ n) (h1 : n ≤ 4611686018427387904) : Pure Tryz.prog 218 [.agg (encUniq u), .c (.fp [.int .i64 n])] (.c (.bool (!colsF u.cols n))) := by
  refine Pure.run mixed c_impl_TableOk_2_ok (Nat.le_of_ble_eq_true rfl) fun σ hS hA => ?_
  clear hS hA
  repeat' first|refine yaG ?_|refine yaC (areColumns_ok u.cols n hb h0 h1) ?_|(exfalso;omega)|(refine yaS ?_ ?_<;>intro _)
  exact .ret rfl (.bool rfl)
theorem exprF_eq {e : List Tok} {n : Int} (h0 : 0 ≤ n) (h1 : n ≤ 16) : (decide ((e.length : Int) ≤ 24) && isIn n 0 16 && exprAux n 0 e) = exprF e n := by
  have : isIn n 0 16 = true := by simp [isIn, h0, h1]
  rw [this, Bool.and_true]
  rfl
theorem TableOk3_ok (c : Chk) (n : Int) (hb : bChk 34359738368 c) (h0 : 0 ≤ n) (h1 : n ≤ 16) : Pure Tryz.prog 220 [.agg (encChk c), .c (.fp [.int .i64 n])] (.c (.bool (!exprF c.expr n))) := by
  refine Pure.run mixed c_impl_TableOk_3_ok (Nat.le_of_ble_eq_true rfl) fun σ hS hA => ?_
  clear hS hA
  have hc := ExprOk_ok c.expr n hb.1
  rw [exprF_eq h0 h1] at hc
  repeat' first|refine yaG ?_|refine yaC (hc) ?_|(exfalso;omega)|(refine yaS ?_ ?_<;>intro _)
  exact .ret rfl (.bool rfl)
theorem TableOk4_ok (f : Fk) (n : Int) (hb : bFk 34359738368 f) (h0 : -4611686018427387904 ≤ n) (h1 : n ≤ 4611686018427387904) : Pure Tryz.prog 222 [.agg (encFk f), .c (.fp [.int .i64 n])] (.c (.bool (!isFkF f n))) := by
  refine Pure.run mixed c_impl_TableOk_4_ok (Nat.le_of_ble_eq_true rfl) fun σ hS hA => ?_
  clear hS hA
  repeat' first|refine yaG ?_|refine yaC (isFk_ok f n hb h0 h1) ?_|(exfalso;omega)|(refine yaS ?_ ?_<;>intro _)
  exact .ret rfl (.bool rfl)
theorem TableOk_ok (t : Table) (hb : bTable 34359738368 t) : Pure Tryz.prog 181 [.agg (encTable t)] (.c (.bool (tableF t))) := by
  refine Pure.run mixed c_impl_TableOk_ok (Nat.le_of_ble_eq_true rfl) fun σ hS hA => ?_
  clear hS hA
  obtain ⟨b1, b2, b3, b4, b5, b6⟩ := hb
  repeat' first|refine yaG ?_|((first|apply Go.pcallB|apply Go.spcallB|apply Qg.pcallB);(iterate 3 exact rfl);(first|exact isName_ok t.name b1|exact areCols_ok t.cols b2.1 b2.2|exact areColumns_ok t.key t.cols.length b3 (by omega) (by omega));intro _ _)|(exfalso;omega)|(refine yaS ?_ ?_<;>intro _)
  all_goals try (refine .ret rfl (.bool ?_); simp_all [tableF]; done)
  · refine .ret rfl (.bool ?_)
    rw [tableF, decide_eq_false (p := (t.uniques.length : Int) ≤ 3) (by omega)]
    simp
  · refine .ret rfl (.bool ?_)
    rw [tableF, decide_eq_false (p := (t.checks.length : Int) ≤ 3) (by omega)]
    simp
  · refine .ret rfl (.bool ?_)
    rw [tableF, decide_eq_false (p := (t.fks.length : Int) ≤ 3) (by omega)]
    simp
  rename_i c1 p1 q1 c2 p2 q2 c3 p3 q3 g1 g2 g3
  have k1 := nbF p1 q1
  have k2 := nbF p2 q2
  have k3 := nbF p3 q3
  have hcl := areColsF_len k2
  have hin := colsF_in k3
  clear p1 q1 p2 q2 p3 q3
  repeat' first|refine yaG ?_|((first|apply Go.pcallB|apply Go.spcallB|apply Qg.pcallB);(iterate 3 exact rfl);(first|exact containsFuncA_ok mixed c_slices_ContainsFunc_int64_int64_ok c_slices_IndexFunc_int64_int64_ok encI (fun n => .c (.int .i64 n)) (fun _ => rfl) (fun _ => rfl) t.key (fun c => !notNullAt t c) _ [] [.fp (encTable t)] b3 (fun j hj _ => TableOk1_ok t _ (hin _ (List.getElem_mem hj)).1 (hin _ (List.getElem_mem hj)).2)|exact containsFuncA_ok mixed c_slices_ContainsFunc_Unique_ok c_slices_IndexFunc_Unique_ok encUniq (fun u => .agg (encUniq u)) (fun _ => rfl) (fun _ => rfl) t.uniques (fun u => !colsF u.cols t.cols.length) _ [] [.fp [.int .i64 t.cols.length]] b4.1 (fun j hj _ => TableOk2_ok _ _ (b4.2 _ (List.getElem_mem hj)) (by omega) (by omega))|exact containsFuncA_ok mixed c_slices_ContainsFunc_Check_ok c_slices_IndexFunc_Check_ok encChk (fun u => .agg (encChk u)) (fun _ => rfl) (fun _ => rfl) t.checks (fun c => !exprF c.expr t.cols.length) _ [] [.fp [.int .i64 t.cols.length]] b5.1 (fun j hj _ => TableOk3_ok _ _ (b5.2 _ (List.getElem_mem hj)) (by omega) (by omega))|exact containsFuncA_ok mixed c_slices_ContainsFunc_Fk_ok c_slices_IndexFunc_Fk_ok encFk (fun u => .agg (encFk u)) (fun _ => rfl) (fun _ => rfl) t.fks (fun f => !isFkF f t.cols.length) _ [] [.fp [.int .i64 t.cols.length]] b6.1 (fun j hj _ => TableOk4_ok _ _ (b6.2 _ (List.getElem_mem hj)) (by omega) (by omega)));intro _ _)|(exfalso;omega)|(refine yaS ?_ ?_<;>intro _)
  all_goals refine .ret rfl (.bool ?_)
  all_goals rw [tableF, k1, k2, k3, decide_eq_true (p := (t.uniques.length : Int) ≤ 3) (by omega), decide_eq_true (p := (t.checks.length : Int) ≤ 3) (by omega), decide_eq_true (p := (t.fks.length : Int) ≤ 3) (by omega)]
  all_goals simp_all
end Go.Proofs.YtdgnfdljkghpjaaGreat.Am

/- Tables, as the reference sees them. -/
set_option linter.unusedVariables false
set_option linter.unusedSimpArgs false
namespace Go.Proofs.YtdgnfdljkghpjaaGreat.Am

theorem ColAt_ok (x0 x2 x3 x4 x5 : Ce) (l : List Col) (s : List UInt8) (hx : l.length ≤ 34359738368) : Pure Tryz.prog 239 [.agg [x0, .fz (l.map encCol), x2, x3, x4, x5], .c (.str s)] (.c (.int .i64 (idxA (fun c => c.name == s) l 0))) := by
  refine Pure.run mixed c_spec_ColAt_ok (Nat.le_of_ble_eq_true rfl) fun σ hS hA => ?_
  clear hS hA
  repeat' first|refine yaG ?_|(exfalso;omega)|(refine yaS ?_ ?_<;>intro _)
  refine Go.keep [1, 2, 5] (Go.loops (I := fun m fr τ => ∃ i : Nat, ∃ k : Int, m = l.length - i ∧ i ≤ l.length ∧ k = i ∧ idxA (fun c => c.name == s) l 0 = idxA (fun c => c.name == s) (l.drop i) k ∧
    fr = [(1, .c (.str s)), (2, .c (.fp [x0, .fz (l.map encCol), x2, x3, x4, x5])), (5, .c (.int .i64 k))] ∧ τ = E σ []) ?_ _ _ _ ⟨0, _, rfl, Nat.zero_le _, rfl, rfl, rfl, rfl⟩)
  rintro m fr τ ⟨i, k, rfl, hi, hn, hsl, rfl, rfl⟩ hrec
  by_cases hlt : i < l.length
  · repeat' first|refine yaG ?_|((first|apply yG|apply yH|apply yI);exact rfl;(first|exact yX (enc := encCol) rfl rfl hn hlt rfl))|(exfalso;omega)|(refine yaS ?_ ?_<;>intro _)
    · refine .ret rfl (.int ?_)
      rw [hsl, List.drop_eq_getElem_cons hlt, idxA, if_pos (by assumption)]
    · rename_i h
      refine Go.keep [1, 2, 5] (hrec _ _ _ (by omega) ⟨i + 1, _, rfl, hlt, wrap_succ hn (by omega), ?_, rfl, rfl⟩)
      rw [hsl, List.drop_eq_getElem_cons hlt, idxA, if_neg (by rw [h]; simp), wrap64 (by omega) (by omega)]
  · repeat' first|refine yaG ?_|(exfalso;omega)|(refine yaS ?_ ?_<;>intro _)
    refine .ret rfl (.int ?_)
    rw [hsl, List.drop_eq_nil_of_le (by omega)]
    rfl
theorem l3At_ok (l : List Table) (s : List UInt8) (hx : l.length ≤ 34359738368) : Pure Tryz.prog 206 [.c (.fz (l.map encTable)), .c (.str s)] (.c (.int .i64 (idxA (fun t => t.name == s) l 0))) := by
  refine Pure.run mixed c_spec_l3At_ok (Nat.le_of_ble_eq_true rfl) fun σ hS hA => ?_
  clear hS hA
  repeat' first|refine yaG ?_|(exfalso;omega)|(refine yaS ?_ ?_<;>intro _)
  refine Go.keep [0, 1, 5] (Go.loops (I := fun m fr τ => ∃ i : Nat, ∃ k : Int, m = l.length - i ∧ i ≤ l.length ∧ k = i ∧ idxA (fun c => c.name == s) l 0 = idxA (fun c => c.name == s) (l.drop i) k ∧
    fr = [(0, .c (.fz (l.map encTable))), (1, .c (.str s)), (5, .c (.int .i64 k))] ∧ τ = E σ []) ?_ _ _ _ ⟨0, _, rfl, Nat.zero_le _, rfl, rfl, rfl, rfl⟩)
  rintro m fr τ ⟨i, k, rfl, hi, hn, hsl, rfl, rfl⟩ hrec
  by_cases hlt : i < l.length
  · repeat' first|refine yaG ?_|((first|apply yG|apply yH|apply yI);exact rfl;(first|exact yX (enc := encTable) rfl rfl hn hlt rfl))|(exfalso;omega)|(refine yaS ?_ ?_<;>intro _)
    · refine .ret rfl (.int ?_)
      rw [hsl, List.drop_eq_getElem_cons hlt, idxA, if_pos (by assumption)]
    · rename_i h
      refine Go.keep [0, 1, 5] (hrec _ _ _ (by omega) ⟨i + 1, _, rfl, hlt, wrap_succ hn (by omega), ?_, rfl, rfl⟩)
      rw [hsl, List.drop_eq_getElem_cons hlt, idxA, if_neg (by rw [h]; simp), wrap64 (by omega) (by omega)]
  · repeat' first|refine yaG ?_|(exfalso;omega)|(refine yaS ?_ ?_<;>intro _)
    refine .ret rfl (.int ?_)
    rw [hsl, List.drop_eq_nil_of_le (by omega)]
    rfl
theorem any_at {α : Type} {p : α → Bool} {l : List α} {i : Nat} (hi : i < l.length) (h : p l[i] = false) : (l.any fun a => !p a) = true := List.any_eq_true.2 ⟨l[i], List.getElem_mem hi, by rw [h]; rfl⟩
theorem any_none {α : Type} {p : α → Bool} {l : List α} (h : ∀ j (hj : j < l.length), p l[j] = true) : (l.any fun a => !p a) = false := by
  rw [List.any_eq_false]
  intro a ha
  obtain ⟨j, hj, rfl⟩ := List.mem_iff_getElem.1 ha
  rw [h j hj]
  simp
theorem upto {α : Type} {p : α → Bool} {l : List α} {i : Nat} (h : ∀ j (hj : j < l.length), j < i → p l[j] = true) (hi : i < l.length) (hp : p l[i] = true) : ∀ j (hj : j < l.length), j < i + 1 → p l[j] = true := fun j hj hji => by
  by_cases e : j = i
  · subst e; exact hp
  · exact h j hj (by omega)
theorem isIn12 {k : Int} : isIn k 1 2 = (k == 1 || k == 2) := by
  rw [Bool.eq_iff_iff]
  simp [isIn]
  omega
theorem tableF_iff {t : Table} : tableF t = true ↔ isNameF t.name = true ∧ isIn t.cols.length 1 8 = true ∧ colsF t.key t.cols.length = true ∧ (t.uniques.length : Int) ≤ 3 ∧ (t.checks.length : Int) ≤ 3 ∧ (t.fks.length : Int) ≤ 3 ∧ colsDef [] t.cols = true ∧
    (t.key.any fun c => !notNullAt t c) = false ∧ (t.uniques.any fun u => !colsF u.cols t.cols.length) = false ∧ (t.checks.any fun c => !exprF c.expr t.cols.length) = false ∧ (t.fks.any fun f => !isFkF f t.cols.length) = false := by
  simp only [tableF, areColsF, isIn, Bool.and_eq_true, decide_eq_true_eq, Bool.not_eq_true']
  constructor
  · rintro ⟨h1, ⟨h2, h3, h4⟩, h5, h6, h7, h8, h9, h10, h11, h12⟩
    exact ⟨h1, ⟨by omega, h2⟩, h5, h6, h7, h8, h3, h9, h10, h11, h12⟩
  · rintro ⟨h1, ⟨h2, h2'⟩, h3, h4, h5, h6, h7, h8, h9, h10, h11⟩
    exact ⟨h1, ⟨h2', h7, by omega⟩, h3, h4, h5, h6, h8, h9, h10, h11⟩
theorem tableF_not {t : Table} (h : tableF t = true → False) : tableF t = false := by
  cases c : tableF t
  · rfl
  · exact (h c).elim
theorem sTableOk_ok (t : Table) (hb : bTable 34359738368 t) : Pure Tryz.prog 205 [.agg (encTable t)] (.c (.bool (tableF t))) := by
  refine Pure.run mixed c_spec_TableOk_ok (Nat.le_of_ble_eq_true rfl) fun σ hS hA => ?_
  clear hS hA
  obtain ⟨b1, b2, b3, b4, b5, b6⟩ := hb
  repeat' first|refine yaG ?_|((first|apply Go.pcallB|apply Go.spcallB|apply Qg.pcallB);(iterate 3 exact rfl);(first|exact l3Name_ok t.name b1|exact l1In_ok _ _ _|exact l3Cols_ok t.key t.cols.length b3 (by omega) (by omega));intro _ _)|(exfalso;omega)|(refine yaS ?_ ?_<;>intro _)
  · exact .ret rfl (.bool (tableF_not fun h => by rename_i c p q; have h2 := (tableF_iff.1 h).1; rw [nbT p q] at h2; cases h2).symm)
  · exact .ret rfl (.bool (tableF_not fun h => by rename_i c1 p1 q1 c p q; have h2 := (tableF_iff.1 h).2.1; rw [nbT p q] at h2; cases h2).symm)
  · exact .ret rfl (.bool (tableF_not fun h => by rename_i c p q; have h2 := (tableF_iff.1 h).2.2.1; rw [nbT p q] at h2; cases h2).symm)
  · exact .ret rfl (.bool (tableF_not fun h => by have h2 := tableF_iff.1 h; omega).symm)
  · exact .ret rfl (.bool (tableF_not fun h => by have h2 := tableF_iff.1 h; omega).symm)
  · exact .ret rfl (.bool (tableF_not fun h => by have h2 := tableF_iff.1 h; omega).symm)
  rename_i c1 p1 q1 c2 p2 q2 c3 p3 q3 g1 g2 g3
  have k1 := nbF p1 q1
  have k2 := nbF p2 q2
  have k3 := nbF p3 q3
  have hin := colsF_in k3
  have hln : 1 ≤ (t.cols.length : Int) ∧ (t.cols.length : Int) ≤ 8 := by simpa [isIn] using k2
  clear p1 q1 p2 q2 p3 q3
  -- the columns
  refine Go.keep [1, 3, 4] (Go.loops (I := fun m fr τ => ∃ i : Nat, ∃ k : Int, m = t.cols.length - i ∧ i ≤ t.cols.length ∧ k = i ∧ colsDef [] t.cols = colsDef (t.cols.take i) (t.cols.drop i) ∧
    fr = [(1, .c (.fp (encTable t))), (3, .c (.int .i64 (t.cols.length : Int))), (4, .c (.int .i64 k))] ∧ τ = E σ []) ?_ _ _ _ ⟨0, _, rfl, Nat.zero_le _, rfl, rfl, rfl, rfl⟩)
  rintro m fr τ ⟨i, k, rfl, hi, hk, hsl, rfl, rfl⟩ hrec
  by_cases hlt : i < t.cols.length
  · have hd := List.drop_eq_getElem_cons hlt
    have hbc := b2.2 _ (List.getElem_mem hlt)
    have htk : (t.cols.map encCol).take i = (t.cols.take i).map encCol := List.map_take.symm
    have hstep : colsDef [] t.cols = (colOk t.cols[i] && !((t.cols.take i).any fun d => d.name == t.cols[i].name) && colsDef (t.cols.take (i + 1)) (t.cols.drop (i + 1))) := by
      rw [hsl, hd, colsDef, List.take_succ_eq_append_getElem hlt]
    have neg : (colOk t.cols[i] = false ∨ ((t.cols.take i).any fun d => d.name == t.cols[i].name) = true) → tableF t = false := fun h => tableF_not fun hh => by
      have h2 := (tableF_iff.1 hh).2.2.2.2.2.2.1
      rw [hstep] at h2
      rcases h with h | h <;> simp [h] at h2
    have hany := any_idx (p := fun d : Col => d.name == t.cols[i].name) (l := t.cols.take i)
    repeat' first|refine yaG ?_|((first|apply yG|apply yH|apply yI);exact rfl;(first|exact yX (enc := encCol) rfl rfl hk hlt rfl|exact aop_sliceF (n := i) rfl rfl hk (by simp;omega) (fun e he => by obtain ⟨c, _, rfl⟩ := List.mem_map.1 he;rfl)))|((first|apply Go.pcallB|apply Go.spcallB|apply Qg.pcallB);(iterate 3 exact rfl);exact l3Name_ok t.cols[i].name hbc.1;intro _ _)|(exfalso;omega)|(refine yaS ?_ ?_<;>intro _)
    · rename_i c p q
      exact .ret rfl (.bool (neg (.inl (by rw [colOk, nbT p q]; rfl))).symm)
    rename_i c p q
    have hnm := nbF p q
    rw [htk]
    repeat' first|refine yaG ?_|((first|apply Go.pcallB|apply Go.spcallB|apply Qg.pcallB);(iterate 3 exact rfl);(first|exact l1In_ok _ _ _|exact sValOk_ok _);intro _ _)|((first|apply Go.pcallI|apply Go.spcallI|apply Qg.pcallI);(iterate 3 exact rfl);exact ColAt_ok (.str []) .nils .nils .nils .nils (t.cols.take i) t.cols[i].name (by simp;omega);intro _ _)|(exfalso;omega)|(refine yaS ?_ ?_<;>intro _)
    all_goals clear p q
    all_goals try (refine .ret rfl (.bool (neg ?_).symm); clear hrec hsl hstep neg hin; simp_all [colOk, isOfF, isIn12]; done)
    all_goals have hok : (colOk t.cols[i] && !((t.cols.take i).any fun d => d.name == t.cols[i].name)) = true := (by clear hrec hsl hstep neg hin; simp_all [colOk, isOfF, isIn12])
    all_goals refine Go.keep [1, 3, 4] (hrec _ _ _ (by omega) ⟨i + 1, _, rfl, hlt, wrap_succ hk (by omega), ?_, rfl, rfl⟩)
    all_goals rw [hstep, hok, Bool.true_and]
  have hfin : colsDef [] t.cols = true := by
    rw [hsl, List.drop_eq_nil_of_le (by omega)]
    rfl
  clear hrec hsl
  repeat' first|refine yaG ?_|(exfalso;omega)|(refine yaS ?_ ?_<;>intro _)
  clear hlt hk hi
  -- the key
  refine Go.keep [1, 3, 6] (Go.loops (I := fun m fr τ => ∃ i : Nat, ∃ k : Int, m = t.key.length - i ∧ i ≤ t.key.length ∧ k = i ∧ (∀ j (hj : j < t.key.length), j < i → notNullAt t t.key[j] = true) ∧
    fr = [(1, .c (.fp (encTable t))), (3, .c (.int .i64 (t.cols.length : Int))), (6, .c (.int .i64 k))] ∧ τ = E σ []) ?_ _ _ _ ⟨0, _, rfl, Nat.zero_le _, rfl, fun j _ h => absurd h (by omega), rfl, rfl⟩)
  rintro m fr τ ⟨i, k, rfl, hi, hk, hall, rfl, rfl⟩ hrec
  by_cases hlt : i < t.key.length
  · have hc := hin _ (List.getElem_mem hlt)
    obtain ⟨n, hn⟩ : ∃ n : Nat, t.key[i] = n := ⟨t.key[i].toNat, by omega⟩
    have hn2 : n < t.cols.length := by omega
    have hnn : notNullAt t t.key[i] = t.cols[n].notNull := by simp [notNullAt, hn, hn2]
    repeat' first|refine yaG ?_|((first|apply yG|apply yH|apply yI);exact rfl;(first|exact yX (enc := encI) rfl rfl hk hlt rfl|exact yX (enc := encCol) rfl rfl hn hn2 rfl))|(exfalso;omega)|(refine yaS ?_ ?_<;>intro _)
    · rename_i h
      exact .ret rfl (.bool (tableF_not fun hh => by
        have h2 := (tableF_iff.1 hh).2.2.2.2.2.2.2.1
        rw [any_at hlt (by rw [hnn]; simpa using h)] at h2
        cases h2).symm)
    · rename_i h
      exact Go.keep [1, 3, 6] (hrec _ _ _ (by omega) ⟨i + 1, _, rfl, hlt, wrap_succ hk (by omega), upto hall hlt (by rw [hnn]; simpa using h), rfl, rfl⟩)
  have hkey := any_none (p := notNullAt t) (l := t.key) fun j hj => hall j hj (by omega)
  clear hrec hall
  repeat' first|refine yaG ?_|(exfalso;omega)|(refine yaS ?_ ?_<;>intro _)
  clear hlt hk hi
  -- the uniques
  refine Go.keep [1, 3, 7] (Go.loops (I := fun m fr τ => ∃ i : Nat, ∃ k : Int, m = t.uniques.length - i ∧ i ≤ t.uniques.length ∧ k = i ∧ (∀ j (hj : j < t.uniques.length), j < i → colsF t.uniques[j].cols t.cols.length = true) ∧
    fr = [(1, .c (.fp (encTable t))), (3, .c (.int .i64 (t.cols.length : Int))), (7, .c (.int .i64 k))] ∧ τ = E σ []) ?_ _ _ _ ⟨0, _, rfl, Nat.zero_le _, rfl, fun j _ h => absurd h (by omega), rfl, rfl⟩)
  rintro m fr τ ⟨i, k, rfl, hi, hk, hall, rfl, rfl⟩ hrec
  by_cases hlt : i < t.uniques.length
  · repeat' first|refine yaG ?_|((first|apply yG|apply yH|apply yI);exact rfl;(first|exact yX (enc := encUniq) rfl rfl hk hlt rfl))|((first|apply Go.pcallB|apply Go.spcallB|apply Qg.pcallB);(iterate 3 exact rfl);exact l3Cols_ok t.uniques[i].cols t.cols.length (b4.2 _ (List.getElem_mem hlt)) (by omega) (by omega);intro _ _)|(exfalso;omega)|(refine yaS ?_ ?_<;>intro _)
    · rename_i c p q
      exact .ret rfl (.bool (tableF_not fun hh => by
        have h2 := (tableF_iff.1 hh).2.2.2.2.2.2.2.2.1
        rw [any_at (p := fun u : Uniq => colsF u.cols t.cols.length) hlt (nbT p q)] at h2
        cases h2).symm)
    · rename_i c p q
      exact Go.keep [1, 3, 7] (hrec _ _ _ (by omega) ⟨i + 1, _, rfl, hlt, wrap_succ hk (by omega), upto (p := fun u : Uniq => colsF u.cols t.cols.length) hall hlt (nbF p q), rfl, rfl⟩)
  have huni := any_none (p := fun u : Uniq => colsF u.cols t.cols.length) (l := t.uniques) fun j hj => hall j hj (by omega)
  clear hrec hall
  repeat' first|refine yaG ?_|(exfalso;omega)|(refine yaS ?_ ?_<;>intro _)
  clear hlt hk hi
  -- the checks
  refine Go.keep [1, 3, 8] (Go.loops (I := fun m fr τ => ∃ i : Nat, ∃ k : Int, m = t.checks.length - i ∧ i ≤ t.checks.length ∧ k = i ∧ (∀ j (hj : j < t.checks.length), j < i → exprF t.checks[j].expr t.cols.length = true) ∧
    fr = [(1, .c (.fp (encTable t))), (3, .c (.int .i64 (t.cols.length : Int))), (8, .c (.int .i64 k))] ∧ τ = E σ []) ?_ _ _ _ ⟨0, _, rfl, Nat.zero_le _, rfl, fun j _ h => absurd h (by omega), rfl, rfl⟩)
  rintro m fr τ ⟨i, k, rfl, hi, hk, hall, rfl, rfl⟩ hrec
  by_cases hlt : i < t.checks.length
  · have hx := l2Expr_ok t.checks[i].expr t.cols.length (b5.2 _ (List.getElem_mem hlt)).1 (by omega) (by omega)
    rw [show (decide ((t.checks[i].expr.length : Int) ≤ 24) && exprAux t.cols.length 0 t.checks[i].expr) = exprF t.checks[i].expr t.cols.length from rfl] at hx
    repeat' first|refine yaG ?_|((first|apply yG|apply yH|apply yI);exact rfl;(first|exact yX (enc := encChk) rfl rfl hk hlt rfl))|((first|apply Go.pcallB|apply Go.spcallB|apply Qg.pcallB);(iterate 3 exact rfl);exact hx;intro _ _)|(exfalso;omega)|(refine yaS ?_ ?_<;>intro _)
    · rename_i c p q
      exact .ret rfl (.bool (tableF_not fun hh => by
        have h2 := (tableF_iff.1 hh).2.2.2.2.2.2.2.2.2.1
        rw [any_at (p := fun u : Chk => exprF u.expr t.cols.length) hlt (nbT p q)] at h2
        cases h2).symm)
    · rename_i c p q
      exact Go.keep [1, 3, 8] (hrec _ _ _ (by omega) ⟨i + 1, _, rfl, hlt, wrap_succ hk (by omega), upto (p := fun u : Chk => exprF u.expr t.cols.length) hall hlt (nbF p q), rfl, rfl⟩)
  have hchk := any_none (p := fun u : Chk => exprF u.expr t.cols.length) (l := t.checks) fun j hj => hall j hj (by omega)
  clear hrec hall
  repeat' first|refine yaG ?_|(exfalso;omega)|(refine yaS ?_ ?_<;>intro _)
  clear hlt hk hi
  -- the references
  refine Go.keep [1, 3, 9] (Go.loops (I := fun m fr τ => ∃ i : Nat, ∃ k : Int, m = t.fks.length - i ∧ i ≤ t.fks.length ∧ k = i ∧ (∀ j (hj : j < t.fks.length), j < i → isFkF t.fks[j] t.cols.length = true) ∧
    fr = [(1, .c (.fp (encTable t))), (3, .c (.int .i64 (t.cols.length : Int))), (9, .c (.int .i64 k))] ∧ τ = E σ []) ?_ _ _ _ ⟨0, _, rfl, Nat.zero_le _, rfl, fun j _ h => absurd h (by omega), rfl, rfl⟩)
  rintro m fr τ ⟨i, k, rfl, hi, hk, hall, rfl, rfl⟩ hrec
  by_cases hlt : i < t.fks.length
  · have hbf := b6.2 _ (List.getElem_mem hlt)
    have neg : isFkF t.fks[i] t.cols.length = false → tableF t = false := fun h => tableF_not fun hh => by
      have h2 := (tableF_iff.1 hh).2.2.2.2.2.2.2.2.2.2
      rw [any_at (p := fun u : Fk => isFkF u t.cols.length) hlt h] at h2
      cases h2
    repeat' first|refine yaG ?_|((first|apply yG|apply yH|apply yI);exact rfl;(first|exact yX (enc := encFk) rfl rfl hk hlt rfl))|((first|apply Go.pcallB|apply Go.spcallB|apply Qg.pcallB);(iterate 3 exact rfl);(first|exact l3Cols_ok t.fks[i].cols t.cols.length hbf.1 (by omega) (by omega)|exact l3Name_ok t.fks[i].table hbf.2|exact l1In_ok _ _ _);intro _ _)|(exfalso;omega)|(refine yaS ?_ ?_<;>intro _)
    all_goals try (refine .ret rfl (.bool (neg ?_).symm); clear hrec neg hin hall hkey huni hchk; simp_all [isFkF]; done)
    have hok : isFkF t.fks[i] t.cols.length = true := by
      clear hrec neg hin hall hkey huni hchk
      simp_all [isFkF]
    exact Go.keep [1, 3, 9] (hrec _ _ _ (by omega) ⟨i + 1, _, rfl, hlt, wrap_succ hk (by omega), upto (p := fun u : Fk => isFkF u t.cols.length) hall hlt hok, rfl, rfl⟩)
  have hfk := any_none (p := fun u : Fk => isFkF u t.cols.length) (l := t.fks) fun j hj => hall j hj (by omega)
  clear hrec hall
  repeat' first|refine yaG ?_|(exfalso;omega)|(refine yaS ?_ ?_<;>intro _)
  refine .ret rfl (.bool ?_)
  rw [eq_comm, tableF_iff]
  exact ⟨k1, k2, k3, by omega, by omega, by omega, hfin, hkey, huni, hchk, hfk⟩
end Go.Proofs.YtdgnfdljkghpjaaGreat.Am

/- What expressions come to, in plain Lean. -/
set_option linter.unusedVariables false
set_option linter.unusedSimpArgs false
namespace Go.Proofs.YtdgnfdljkghpjaaGreat.Am

def vNull : Val := ⟨0, 0, []⟩
def vInt (n : Int) : Val := ⟨1, n, []⟩
def yes (b : Bool) : Int := if b then 1 else 0
def truthV (v : Val) : Int := if v.k = 0 then 2 else if v.k = 1 then (if v.n = 0 then 0 else 1) else -1
def knownV (a b : Val) : Bool := okVal a && (okVal b && (!(a.k == 0) && !(b.k == 0)))
def eq3 (a b : Val) : Int := if knownV a b then yes (a == b) else 2
def less3 (a b : Val) : Int := if knownV a b then yes (decide (order a b < 0)) else 2
def tru (a : Int) : Bool := isIn a 0 2
def and3 (a b : Int) : Int := if tru a && tru b then (if a = 0 ∨ b = 0 then 0 else if a = 1 ∧ b = 1 then 1 else 2) else -1
def or3 (a b : Int) : Int := if tru a && tru b then (if a = 1 ∨ b = 1 then 1 else if a = 0 ∧ b = 0 then 0 else 2) else -1
def not3 (a : Int) : Int := if tru a then (if a = 2 then 2 else 1 - a) else -1
def asV (t : Int) : Val × Bool := if t = 2 then (vNull, true) else (vInt t, decide (0 ≤ t))
def sumV (a b : Val) (s : Int) : Val × Bool := if a.k = 2 ∨ b.k = 2 then (vNull, false) else if a.k = 0 ∨ b.k = 0 then (vNull, true) else (vInt (a.n + s * b.n), okVal (vInt (a.n + s * b.n)))
def vAt (l : List Val) (i : Nat) : Val := l[i]?.getD vNull
def applyF (t : Tok) (l row : List Val) : Val × Bool :=
  if t.kind = 1 then (vAt row t.col.toNat, true) else if t.kind = 2 then (t.v, true) else if t.kind = 3 then asV (eq3 (vAt l 0) (vAt l 1)) else if t.kind = 4 then asV (less3 (vAt l 0) (vAt l 1))
  else if t.kind = 5 then asV (and3 (truthV (vAt l 0)) (truthV (vAt l 1))) else if t.kind = 6 then asV (or3 (truthV (vAt l 0)) (truthV (vAt l 1))) else if t.kind = 7 then asV (not3 (truthV (vAt l 0)))
  else if t.kind = 8 then asV (yes ((vAt l 0).k == 0)) else if t.kind = 9 then sumV (vAt l 0) (vAt l 1) 1 else sumV (vAt l 0) (vAt l 1) (-1)
def fromOf (t : Tok) (st : List Val) : Nat := st.length - (tokTakes t).toNat
def evalL (row : List Val) : List Tok → List Val → Option (List Val)
  | [], st => some st
  | t :: r, st => if (applyF t (st.drop (fromOf t st)) row).2 then evalL row r (st.take (fromOf t st) ++ [(applyF t (st.drop (fromOf t st)) row).1]) else none
def evalR (e : List Tok) (row : List Val) : Val × Bool := match evalL row e [] with
  | some (v :: _) => (v, true)
  | _ => (vNull, false)
def evalOk (e : List Tok) (row : List Val) : Bool := areVals row 16 && exprF e row.length
def truthR (e : List Tok) (row : List Val) : Int := if (evalR e row).2 then truthV (evalR e row).1 else -1
def truthI (e : List Tok) (row : List Val) : Int := if evalOk e row then truthR e row else -1
/-- Values that are right: what an expression leaves on its stack. -/
def Oks (l : List Val) : Prop := ∀ v ∈ l, okVal v = true
theorem Oks.at_ {l : List Val} (h : Oks l) (i : Nat) : okVal (vAt l i) = true := by
  simp only [vAt]
  cases hi : l[i]? with
  | none => rfl
  | some v => exact h v (List.mem_of_getElem? hi)
theorem okVal_int {n : Int} (h0 : -1000000000 ≤ n) (h1 : n ≤ 1000000000) : okVal (vInt n) = true := by
  simp [okVal, vInt, isIn, h0, h1]
theorem yes_range (b : Bool) : 0 ≤ yes b ∧ yes b ≤ 1 := by cases b <;> simp [yes]
theorem okVal_asV {t : Int} (h : t ≤ 2) (hk : (asV t).2 = true) : okVal (asV t).1 = true := by
  simp only [asV] at hk ⊢
  split
  · rfl
  · rename_i h2
    rw [if_neg h2] at hk
    have h0 : 0 ≤ t := of_decide_eq_true hk
    exact okVal_int (by omega) (by omega)
theorem okVal_sumV {a b : Val} {s : Int} (hk : (sumV a b s).2 = true) : okVal (sumV a b s).1 = true := by
  simp only [sumV] at hk ⊢
  split
  · rfl
  · rename_i h
    rw [if_neg h] at hk
    split
    · rfl
    · rename_i h2
      rw [if_neg h2] at hk
      exact hk
theorem eq3_range (a b : Val) : 0 ≤ eq3 a b ∧ eq3 a b ≤ 2 := by
  simp only [eq3]
  have := yes_range (a == b)
  split <;> omega
theorem less3_range (a b : Val) : 0 ≤ less3 a b ∧ less3 a b ≤ 2 := by
  simp only [less3]
  have := yes_range (decide (order a b < 0))
  split <;> omega
theorem and3_range (a b : Int) : -1 ≤ and3 a b ∧ and3 a b ≤ 2 := by
  simp only [and3]
  split
  · split
    · omega
    · split <;> omega
  · omega
theorem or3_range (a b : Int) : -1 ≤ or3 a b ∧ or3 a b ≤ 2 := by
  simp only [or3]
  split
  · split
    · omega
    · split <;> omega
  · omega
theorem tru_range {a : Int} : tru a = true ↔ 0 ≤ a ∧ a ≤ 2 := by simp [tru, isIn]
theorem not3_range (a : Int) : -1 ≤ not3 a ∧ not3 a ≤ 2 := by
  simp only [not3]
  split
  · rename_i h
    have := tru_range.1 h
    split <;> omega
  · omega
theorem applyF_ok {t : Tok} {l row : List Val} (ht : t.kind = 2 → okVal t.v = true) (hl : Oks l) (hr : Oks row) (h : (applyF t l row).2 = true) : okVal (applyF t l row).1 = true := by
  simp only [applyF] at h ⊢
  split
  · exact hr.at_ _
  · rename_i n1
    rw [if_neg n1] at h
    split
    · rename_i n2; exact ht n2
    · rename_i n2
      rw [if_neg n2] at h
      split
      · rename_i n3
        rw [if_pos n3] at h
        exact okVal_asV (eq3_range _ _).2 h
      · rename_i n3
        rw [if_neg n3] at h
        split
        · rename_i n4
          rw [if_pos n4] at h
          exact okVal_asV (less3_range _ _).2 h
        · rename_i n4
          rw [if_neg n4] at h
          split
          · rename_i n5
            rw [if_pos n5] at h
            exact okVal_asV (and3_range _ _).2 h
          · rename_i n5
            rw [if_neg n5] at h
            split
            · rename_i n6
              rw [if_pos n6] at h
              exact okVal_asV (or3_range _ _).2 h
            · rename_i n6
              rw [if_neg n6] at h
              split
              · rename_i n7
                rw [if_pos n7] at h
                exact okVal_asV (not3_range _).2 h
              · rename_i n7
                rw [if_neg n7] at h
                split
                · rename_i n8
                  rw [if_pos n8] at h
                  exact okVal_asV (by have := yes_range ((vAt l 0).k == 0); omega) h
                · rename_i n8
                  rw [if_neg n8] at h
                  split
                  · rename_i n9
                    rw [if_pos n9] at h
                    exact okVal_sumV h
                  · rename_i n9
                    rw [if_neg n9] at h
                    exact okVal_sumV h
theorem tokOk_const {t : Tok} {n : Int} (h : isTokF t n = true) (h2 : t.kind = 2) : okVal t.v = true := by
  simp only [isTokF] at h
  rw [if_neg (by omega), if_pos h2] at h
  simp at h
  exact h.2
theorem okVal_range {v : Val} (h : okVal v = true) (h1 : v.k = 1) : -1000000000 ≤ v.n ∧ v.n ≤ 1000000000 := by
  simp [okVal, isIn, h1] at h
  exact h.1
theorem okVal_kind {v : Val} (h : okVal v = true) : v.k = 0 ∨ v.k = 1 ∨ v.k = 2 := by
  simp [okVal] at h
  rcases h with (h | h) | h <;> simp [h]
end Go.Proofs.YtdgnfdljkghpjaaGreat.Am

/- Entries: sameness, copies, dropping. -/
set_option linter.unusedVariables false
set_option linter.unusedSimpArgs false
namespace Go.Proofs.YtdgnfdljkghpjaaGreat.Am

theorem sameVals_step {xs ys : List Val} {i : Nat} (h1 : i < xs.length) (h2 : i < ys.length) : (xs.drop i == ys.drop i) = ((xs[i].k == ys[i].k && (xs[i].n == ys[i].n && xs[i].s == ys[i].s)) && (xs.drop (i + 1) == ys.drop (i + 1))) := by
  rw [List.drop_eq_getElem_cons h1, List.drop_eq_getElem_cons h2, List.cons_beq_cons]
  congr 1
  generalize xs[i] = a
  generalize ys[i] = b
  obtain ⟨a1, a2, a3⟩ := a
  obtain ⟨b1, b2, b3⟩ := b
  rw [Bool.eq_iff_iff]
  simp
theorem l1SameVals_ok (xs ys : List Val) (hx : xs.length ≤ 34359738368) : Pure Tryz.prog 114 [.c (.fz (xs.map encV)), .c (.fz (ys.map encV))] (.c (.bool (xs == ys))) := by
  refine Pure.run mixed c_spec_l1SameVals_ok (Nat.le_of_ble_eq_true rfl) fun σ hS hA => ?_
  clear hS hA
  repeat' first|refine yaG ?_|(exfalso;omega)|(refine yaS ?_ ?_<;>intro _)
  · refine .ret rfl (.bool ?_)
    rw [eq_comm, beq_eq_false_iff_ne]
    rintro rfl
    simp at *
  refine Go.keep [0, 1, 5] (Go.loops (I := fun m fr τ => ∃ i : Nat, ∃ n : Int, m = xs.length - i ∧ i ≤ xs.length ∧ n = i ∧ (xs.length = ys.length ∧ (xs == ys) = (xs.drop i == ys.drop i)) ∧
    fr = [(0, .c (.fz (xs.map encV))), (1, .c (.fz (ys.map encV))), (5, .c (.int .i64 n))] ∧ τ = E σ []) ?_ _ _ _ ⟨0, _, rfl, Nat.zero_le _, rfl, ⟨by omega, rfl⟩, rfl, rfl⟩)
  rintro m fr τ ⟨i, n, rfl, hi, hn, ⟨hl, hsl⟩, rfl, rfl⟩ hrec
  by_cases hlt : i < xs.length
  · have hlt2 : i < ys.length := by omega
    have hst := sameVals_step hlt hlt2
    repeat' first|refine yaG ?_|((first|apply yG|apply yH|apply yI);exact rfl;(first|exact yX (enc := encV) rfl rfl hn hlt rfl|exact yX (enc := encV) rfl rfl hn hlt2 rfl))|(exfalso;omega)|(refine yaS ?_ ?_<;>intro _)
    · refine .ret rfl (.bool ?_)
      rw [hsl, hst]
      clear hrec
      simp_all
      intros
      simp_all
    · refine Go.keep [0, 1, 5] (hrec _ _ _ (by omega) ⟨i + 1, _, rfl, hlt, wrap_succ hn (by omega), ⟨hl, ?_⟩, rfl, rfl⟩)
      rw [hsl, hst]
      clear hrec
      simp_all
  · repeat' first|refine yaG ?_|(exfalso;omega)|(refine yaS ?_ ?_<;>intro _)
    refine .ret rfl (.bool ?_)
    rw [hsl, List.drop_eq_nil_of_le (by omega), List.drop_eq_nil_of_le (by omega)]
    rfl
theorem equalVals_ok (xs ys : List Val) (hx : xs.length ≤ 34359738368) : Pure Tryz.prog 113 [.c (.fz (xs.map encV)), .c (.fz (ys.map encV))] (.c (.bool (xs == ys))) := by
  refine Pure.run mixed c_slices_Equal_Val_ok (Nat.le_of_ble_eq_true rfl) fun σ hS hA => ?_
  clear hS hA
  repeat' first|refine yaG ?_|(exfalso;omega)|(refine yaS ?_ ?_<;>intro _)
  · refine .ret rfl (.bool ?_)
    rw [eq_comm, beq_eq_false_iff_ne]
    rintro rfl
    simp at *
  refine Go.keep [0, 1, 12, 13] (Go.loops (I := fun m fr τ => ∃ i : Nat, ∃ n : Int, m = xs.length - i ∧ i ≤ xs.length ∧ n = i ∧ (xs.length = ys.length ∧ (xs == ys) = (xs.drop i == ys.drop i)) ∧
    fr = [(0, .c (.fz (xs.map encV))), (1, .c (.fz (ys.map encV))), (12, .c (.int .i64 (xs.length : Int))), (13, .c (.int .i64 n))] ∧ τ = E σ []) ?_ _ _ _ ⟨0, _, rfl, Nat.zero_le _, rfl, ⟨by omega, rfl⟩, rfl, rfl⟩)
  rintro m fr τ ⟨i, n, rfl, hi, hn, ⟨hl, hsl⟩, rfl, rfl⟩ hrec
  by_cases hlt : i < xs.length
  · have hlt2 : i < ys.length := by omega
    have hst := sameVals_step hlt hlt2
    repeat' first|refine yaG ?_|((first|apply yG|apply yH|apply yI);exact rfl;(first|exact yX (enc := encV) rfl rfl hn hlt rfl|exact yX (enc := encV) rfl rfl hn hlt2 rfl))|(exfalso;omega)|(refine yaS ?_ ?_<;>intro _)
    · refine .ret rfl (.bool ?_)
      rw [hsl, hst]
      clear hrec
      simp_all
      intros
      simp_all
    · refine Go.keep [0, 1, 12, 13] (hrec _ _ _ (by omega) ⟨i + 1, _, rfl, hlt, wrap_succ hn (by omega), ⟨hl, ?_⟩, rfl, rfl⟩)
      rw [hsl, hst]
      clear hrec
      simp_all
  · repeat' first|refine yaG ?_|(exfalso;omega)|(refine yaS ?_ ?_<;>intro _)
    refine .ret rfl (.bool ?_)
    rw [hsl, List.drop_eq_nil_of_le (by omega), List.drop_eq_nil_of_le (by omega)]
    rfl
theorem entry_beq (e f : Entry) : (e == f) = (e.id == f.id && e.key == f.key) := by
  obtain ⟨a, b⟩ := e
  obtain ⟨c, d⟩ := f
  rw [Bool.eq_iff_iff]
  simp
  exact And.comm
theorem l11Same_ok (e f : Entry) (hx : e.key.length ≤ 34359738368) : Pure Tryz.prog 65 [.agg (encE e), .agg (encE f)] (.c (.bool (e == f))) := by
  refine Pure.run mixed c_spec_l11Same_ok (Nat.le_of_ble_eq_true rfl) fun σ hS hA => ?_
  clear hS hA
  repeat' first|refine yaG ?_|((first|apply Go.pcallB|apply Go.spcallB|apply Qg.pcallB);(iterate 3 exact rfl);exact l1SameVals_ok e.key f.key hx;intro _ _)|(exfalso;omega)|(refine yaS ?_ ?_<;>intro _)
  all_goals refine .ret rfl (.bool ?_)
  all_goals rw [entry_beq]
  all_goals simp_all
theorem sameEntry_ok (e f : Entry) (hx : e.key.length ≤ 34359738368) : Pure Tryz.prog 63 [.agg (encE e), .agg (encE f)] (.c (.bool (e == f))) := by
  refine Pure.run mixed c_impl_sameEntry_ok (Nat.le_of_ble_eq_true rfl) fun σ hS hA => ?_
  clear hS hA
  repeat' first|refine yaG ?_|((first|apply Go.pcallB|apply Go.spcallB|apply Qg.pcallB);(iterate 3 exact rfl);exact equalVals_ok e.key f.key hx;intro _ _)|(exfalso;omega)|(refine yaS ?_ ?_<;>intro _)
  all_goals refine .ret rfl (.bool ?_)
  all_goals rw [entry_beq]
  all_goals simp_all
/-! ### Copies -/
theorem clean_append {xs : List Val} : ∀ e ∈ xs.map encV, e.length = 3 ∧ ∀ x ∈ e, Flat x := by
  intro e he
  obtain ⟨a, _, rfl⟩ := List.mem_map.1 he
  exact ⟨rfl, flatV a⟩
end Go.Proofs.YtdgnfdljkghpjaaGreat.Am

/- Truths and what is made of values: the program. -/
set_option linter.unusedVariables false
set_option linter.unusedSimpArgs false
namespace Go.Proofs.YtdgnfdljkghpjaaGreat.Am

theorem val_eq (v w : Val) : ((v.k == w.k && (v.n == w.n && (v.s == w.s && true))) != false) = (v == w) := by
  obtain ⟨a, b, c⟩ := v
  obtain ⟨d, e, f⟩ := w
  rw [Bool.eq_iff_iff]
  simp
theorem encV_flat (v : Val) : ∀ x ∈ encV v, Flat x := flatV v
theorem fin_v {σ : Store} {l : List (Nat × List (List Ce))} (v : Val) : Fin σ (.agg (encV v)) (.agg (encV v)) (E σ l) :=
  ⟨l, rfl, .refl fun y hy => (encV_flat v y hy).old _⟩
theorem fin_vb {σ : Store} {l : List (Nat × List (List Ce))} (v : Val) (b : Bool) : Fin σ (.tup [.agg (encV v), .c (.bool b)]) (.tup [.agg (encV v), .c (.bool b)]) (E σ l) :=
  ⟨l, rfl, .refl fun y hy => by
    simp [AV.all, AV.all.allL, encV] at hy
    rcases hy with rfl | rfl | rfl | rfl
    · exact .int _ _
    · exact .int _ _
    · exact .str _
    · exact .bool _⟩
theorem retv_mt {fr : Fr} {σ : Store} {l : List (Nat × List (List Ce))} {k v i t u j s : Nat} {g : Bool} {es : List (List Ce)} {e : List Ce} {x y : AV} (hp : look fr t = some (.c (.ptr (σ.next + k) v i j))) (hl : l[k]? = some (v, es)) (he : es[i]? = some e) (hj : j ≤ e.length) (hx : takeA g s (e.drop j) = some x) (hu : look fr u = some y) :
    retv fr (E σ l) [.m t g s, .t u] = some (.tup [x, y]) := by
  have h1 := retv_m hp hl he hj hx
  simp only [retv, revs] at h1 ⊢
  cases hq : RV.ev fr (E σ l) (.m t g s) with
  | none => rw [hq] at h1; simp at h1
  | some q =>
    rw [hq] at h1
    simp only [Option.some.injEq] at h1
    subst h1
    have h2 : RV.ev fr (E σ l) (.t u) = some y := hu
    rw [h2]
end Go.Proofs.YtdgnfdljkghpjaaGreat.Am

/- Expressions: the program's Eval and Truth. -/
set_option linter.unusedVariables false
set_option linter.unusedSimpArgs false
namespace Go.Proofs.YtdgnfdljkghpjaaGreat.Am

theorem isTok_kinds {t : Tok} {n : Int} (h : isTokF t n = true) : t.kind = 1 ∨ t.kind = 2 ∨ (t.kind = 3 ∨ t.kind = 4 ∨ t.kind = 5 ∨ t.kind = 6 ∨ t.kind = 7 ∨ t.kind = 8 ∨ t.kind = 9 ∨ t.kind = 10) := by
  simp only [isTokF] at h
  split at h
  · exact .inl ‹_›
  · split at h
    · exact .inr (.inl ‹_›)
    · simp only [Bool.and_eq_true] at h
      exact .inr (.inr (isIn_310.1 h.1.1))
theorem isTok_col {t : Tok} {n : Int} (h : isTokF t n = true) (h1 : t.kind = 1) : 0 ≤ t.col ∧ t.col < n := by
  simp only [isTokF, if_pos h1, Bool.and_eq_true, isIn, decide_eq_true_eq] at h
  omega
theorem areVals_oks {l : List Val} {n : Int} (h : areVals l n = true) : Oks l ∧ (l.length : Int) ≤ n := by
  simp only [areVals, Bool.and_eq_true, decide_eq_true_eq, List.all_eq_true] at h
  exact ⟨h.2, h.1⟩
theorem exprF_aux {e : List Tok} {n : Int} (h : exprF e n = true) : (e.length : Int) ≤ 24 ∧ exprAux n 0 e = true := by
  simpa only [exprF, Bool.and_eq_true, decide_eq_true_eq] using h
theorem exprAux_cons {n a : Int} {t : Tok} {r : List Tok} (h : exprAux n a (t :: r) = true) : isTokF t n = true ∧ tokTakes t ≤ a ∧ exprAux n (a + 1 - tokTakes t) r = true := by
  simp only [exprAux, Bool.and_eq_true, decide_eq_true_eq] at h
  exact ⟨h.1.1, h.1.2, h.2⟩
theorem Oks.take {l : List Val} (h : Oks l) (n : Nat) : Oks (l.take n) := fun v hv => h v (List.mem_of_mem_take hv)
theorem Oks.drop {l : List Val} (h : Oks l) (n : Nat) : Oks (l.drop n) := fun v hv => h v (List.mem_of_mem_drop hv)
theorem Oks.snoc {l : List Val} (h : Oks l) {v : Val} (hv : okVal v = true) : Oks (l ++ [v]) := fun w hw => by
  rcases List.mem_append.1 hw with hw | hw
  · exact h w hw
  · rw [List.mem_singleton.1 hw]; exact hv
theorem flats {l : List Val} : ∀ e ∈ l.map encV, ∀ x ∈ e, Flat x := fun e he x hx => (clean_append e he).2 x hx
theorem lens {l : List Val} : ∀ e ∈ l.map encV, e.length = 3 := fun e he => (clean_append e he).1
theorem old_ptr {n id v i j : Nat} (h : id < n) : ∀ y ∈ (AV.c (.ptr id v i j)).all, Old n y := fun y hy => by
  simp only [AV.all, List.mem_singleton] at hy
  subst hy
  exact .ptr _ _ _ _ h
theorem old_sl {n id v i j c : Nat} (h : id < n) : ∀ y ∈ (AV.c (.sl id v i j c)).all, Old n y := fun y hy => by
  simp only [AV.all, List.mem_singleton] at hy
  subst hy
  exact .sl _ _ _ _ _ h
theorem old_int {n : Nat} {k : IntKind} {z : Int} : ∀ y ∈ (AV.c (.int k z)).all, Old n y := fun y hy => by
  simp only [AV.all, List.mem_singleton] at hy
  subst hy
  exact .int _ _
theorem old_fzF {n : Nat} {es : List (List Ce)} (h : ∀ e ∈ es, ∀ x ∈ e, Flat x) : ∀ y ∈ (AV.c (.fz es)).all, Old n y := fun y hy => by
  simp only [AV.all, List.mem_singleton] at hy
  subst hy
  exact .fz _ fun i j hi hj => (h _ (List.getElem_mem hi) _ (List.getElem_mem hj)).old _
theorem old_encV {n : Nat} {l : List Val} : ∀ y ∈ (AV.c (.fz (l.map encV))).all, Old n y := old_fzF flats
theorem old_encTok {n : Nat} {l : List Tok} : ∀ y ∈ (AV.c (.fz (l.map encTok))).all, Old n y := old_fzF fun e he x hx => by
  obtain ⟨a, _, rfl⟩ := List.mem_map.1 he
  exact flatTok a x hx
end Go.Proofs.YtdgnfdljkghpjaaGreat.Am

/- Truths and what is made of values: the reference. -/
set_option linter.unusedVariables false
set_option linter.unusedSimpArgs false
namespace Go.Proofs.YtdgnfdljkghpjaaGreat.Am

theorem fin_ib {σ : Store} {l : List (Nat × List (List Ce))} (n : Int) (b : Bool) : Fin σ (.tup [.c (.int .i64 n), .c (.bool b)]) (.tup [.c (.int .i64 n), .c (.bool b)]) (E σ l) :=
  ⟨l, rfl, .refl fun y hy => by
    simp [AV.all, AV.all.allL] at hy
    rcases hy with rfl | rfl
    · exact .int _ _
    · exact .bool _⟩
theorem l1Yes_ok (b : Bool) : Pure Tryz.prog 265 [.c (.bool b)] (.c (.int .i64 (yes b))) := by
  refine Pure.run mixed c_spec_l1Yes_ok (Nat.le_of_ble_eq_true rfl) fun σ hS hA => ?_
  clear hS hA
  repeat' first|refine yaG ?_|(exfalso;omega)|(refine yaS ?_ ?_<;>intro _)
  all_goals refine .ret rfl (.int ?_)
  all_goals simp_all [yes]
theorem l1Int_ok (n : Int) : Pure Tryz.prog 102 [.c (.int .i64 n)] (.agg (encV (vInt n))) := by
  refine Pure.run mixed c_spec_l1Int_ok (Nat.le_of_ble_eq_true rfl) fun σ hS hA => ?_
  clear hS hA
  repeat' first|refine yaG ?_|(exfalso;omega)|(refine yaS ?_ ?_<;>intro _)
  exact .ret (retv_m rfl rfl rfl (Nat.zero_le _) rfl) (fin_v (vInt n))
def asR (t : Int) : Val := if t = 2 then vNull else vInt t
theorem l2As_ok (t : Int) : Pure Tryz.prog 266 [.c (.int .i64 t)] (.agg (encV (asR t))) := by
  refine Pure.run mixed c_spec_l2As_ok (Nat.le_of_ble_eq_true rfl) fun σ hS hA => ?_
  clear hS hA
  repeat' first|refine yaG ?_|refine yaC (l1Int_ok t) ?_|(exfalso;omega)|(refine yaS ?_ ?_<;>intro _)
  · rename_i h
    rw [asR, if_pos h]
    exact .ret (retv_m rfl rfl rfl (Nat.zero_le _) rfl) (fin_v vNull)
  · rename_i h
    rw [asR, if_neg h]
    exact .ret (retv_m rfl rfl rfl (Nat.zero_le _) rfl) (fin_v (vInt t))
def ofT (v : Val) : Int := if v.k = 0 then 2 else if v.k = 1 then yes (v.n != 0) else 0
def ofB (v : Val) : Bool := decide (v.k = 0) || decide (v.k = 1)
theorem l2Of_ok (v : Val) : Pure Tryz.prog 262 [.agg (encV v)] (.tup [.c (.int .i64 (ofT v)), .c (.bool (ofB v))]) := by
  refine Pure.run mixed c_spec_l2Of_ok (Nat.le_of_ble_eq_true rfl) fun σ hS hA => ?_
  clear hS hA
  repeat' first|refine yaG ?_|((first|apply yQ|apply yR|apply yS);(iterate 3 exact rfl);exact l1Yes_ok _)|(exfalso;omega)|(refine yaS ?_ ?_<;>intro _)
  · rename_i h
    rw [ofT, if_pos h, ofB, decide_eq_true h]
    exact .ret rfl (fin_ib _ _)
  · rename_i h h1
    rw [ofT, if_neg h, if_pos h1, ofB, decide_eq_true h1, Bool.or_true]
    exact .ret rfl (fin_ib _ _)
  · rename_i h h1
    rw [ofT, if_neg h, if_neg h1, ofB, decide_eq_false h, decide_eq_false h1]
    exact .ret rfl (fin_ib _ _)
theorem sEqual3_ok (v w : Val) : Pure Tryz.prog 270 [.agg (encV v), .agg (encV w)] (.c (.int .i64 (eq3 v w))) := by
  refine Pure.run mixed c_spec_Equal3_ok (Nat.le_of_ble_eq_true rfl) fun σ hS hA => ?_
  clear hS hA
  cases hk : knownV v w
  · rw [eq3, hk]
    have hk2 := hk
    simp only [knownV] at hk2
    repeat' first|refine yaG ?_|((first|apply yQ|apply yR|apply yS);(iterate 3 exact rfl);exact l1Yes_ok _)|((first|apply Go.pcallB|apply Go.spcallB|apply Qg.pcallB);(iterate 3 exact rfl);(first|exact sValOk_ok v|exact sValOk_ok w);intro _ _)|(exfalso;omega)|(refine yaS ?_ ?_<;>intro _)
    all_goals first
      | exact .ret rfl (.int rfl)
      | (exfalso; simp_all; done)
  · rw [eq3, hk]
    have hk2 := hk
    simp only [knownV, Bool.and_eq_true, Bool.not_eq_true', beq_eq_false_iff_ne] at hk2
    obtain ⟨k1, k2, k3, k4⟩ := hk2
    have c1 := sValOk_ok v
    have c2 := sValOk_ok w
    rw [k1] at c1
    rw [k2] at c2
    repeat' first|refine yaG ?_|refine yaC (c1) ?_|refine yaC (c2) ?_|((first|apply yQ|apply yR|apply yS);(iterate 3 exact rfl);exact l1Yes_ok _)|(exfalso;omega)|(refine yaS ?_ ?_<;>intro _)
    all_goals first
      | (refine .ret rfl (.int ?_); rw [val_eq]; rfl)
      | (exfalso; simp_all; done)
theorem sLess3_ok (v w : Val) : Pure Tryz.prog 271 [.agg (encV v), .agg (encV w)] (.c (.int .i64 (less3 v w))) := by
  refine Pure.run mixed c_spec_Less3_ok (Nat.le_of_ble_eq_true rfl) fun σ hS hA => ?_
  clear hS hA
  cases hk : knownV v w
  · rw [less3, hk]
    have hk2 := hk
    simp only [knownV] at hk2
    repeat' first|refine yaG ?_|refine yaC (l1Order_ok v w) ?_|((first|apply yQ|apply yR|apply yS);(iterate 3 exact rfl);exact l1Yes_ok _)|((first|apply Go.pcallB|apply Go.spcallB|apply Qg.pcallB);(iterate 3 exact rfl);(first|exact sValOk_ok v|exact sValOk_ok w);intro _ _)|(exfalso;omega)|(refine yaS ?_ ?_<;>intro _)
    all_goals first
      | exact .ret rfl (.int rfl)
      | (exfalso; simp_all; done)
  · rw [less3, hk]
    have hk2 := hk
    simp only [knownV, Bool.and_eq_true, Bool.not_eq_true', beq_eq_false_iff_ne] at hk2
    obtain ⟨k1, k2, k3, k4⟩ := hk2
    have c1 := sValOk_ok v
    have c2 := sValOk_ok w
    have c3 := l1Order_ok v w
    rw [l1Ord_order k1 k2] at c3
    rw [k1] at c1
    rw [k2] at c2
    repeat' first|refine yaG ?_|refine yaC (c1) ?_|refine yaC (c2) ?_|refine yaC (c3) ?_|((first|apply yQ|apply yR|apply yS);(iterate 3 exact rfl);exact l1Yes_ok _)|(exfalso;omega)|(refine yaS ?_ ?_<;>intro _)
    all_goals first
      | exact .ret rfl (.int rfl)
      | (exfalso; simp_all; done)
theorem l2Tru_ok (t : Int) : Pure Tryz.prog 275 [.c (.int .i64 t)] (.c (.bool (tru t))) := by
  refine Pure.run mixed c_spec_l2Tru_ok (Nat.le_of_ble_eq_true rfl) fun σ hS hA => ?_
  clear hS hA
  repeat' first|refine yaG ?_|((first|apply yQ|apply yR|apply yS);(iterate 3 exact rfl);exact l1In_ok _ _ _)|(exfalso;omega)|(refine yaS ?_ ?_<;>intro _)
  exact .ret rfl (.bool rfl)
theorem sAnd3_ok (a b : Int) : Pure Tryz.prog 273 [.c (.int .i64 a), .c (.int .i64 b)] (.c (.int .i64 (and3 a b))) := by
  refine Pure.run mixed c_spec_And3_ok (Nat.le_of_ble_eq_true rfl) fun σ hS hA => ?_
  clear hS hA
  repeat' first|refine yaG ?_|((first|apply Go.pcallB|apply Go.spcallB|apply Qg.pcallB);(iterate 3 exact rfl);(first|exact l2Tru_ok a|exact l2Tru_ok b);intro _ _)|(exfalso;omega)|(refine yaS ?_ ?_<;>intro _)
  all_goals refine .ret rfl (.int ?_)
  all_goals simp_all [and3]
theorem sOr3_ok (a b : Int) : Pure Tryz.prog 274 [.c (.int .i64 a), .c (.int .i64 b)] (.c (.int .i64 (or3 a b))) := by
  refine Pure.run mixed c_spec_Or3_ok (Nat.le_of_ble_eq_true rfl) fun σ hS hA => ?_
  clear hS hA
  repeat' first|refine yaG ?_|((first|apply Go.pcallB|apply Go.spcallB|apply Qg.pcallB);(iterate 3 exact rfl);(first|exact l2Tru_ok a|exact l2Tru_ok b);intro _ _)|(exfalso;omega)|(refine yaS ?_ ?_<;>intro _)
  all_goals refine .ret rfl (.int ?_)
  all_goals simp_all [or3]
theorem sNot3_ok (a : Int) : Pure Tryz.prog 267 [.c (.int .i64 a)] (.c (.int .i64 (not3 a))) := by
  refine Pure.run mixed c_spec_Not3_ok (Nat.le_of_ble_eq_true rfl) fun σ hS hA => ?_
  clear hS hA
  repeat' first|refine yaG ?_|(exfalso;omega)|(refine yaS ?_ ?_<;>intro _)
  all_goals refine .ret rfl (.int ?_)
  · rename_i h; subst h; rfl
  · rename_i h1 h; subst h; rfl
  · rename_i h1 h2 h; subst h; rfl
  · rename_i h1 h2 h3
    have : tru a = false := by
      cases ht : tru a
      · rfl
      · have := tru_range.1 ht; omega
    rw [not3, this]
    rfl
theorem l2Sum_ok (a b : Val) (s : Int) (hs : s = 1 ∨ s = -1) (ha : okVal a = true) (hb : okVal b = true) : Pure Tryz.prog 272 [.agg (encV a), .agg (encV b), .c (.int .i64 s)] (.tup [.agg (encV (sumV a b s).1), .c (.bool (sumV a b s).2)]) := by
  refine Pure.run mixed c_spec_l2Sum_ok (Nat.le_of_ble_eq_true rfl) fun σ hS hA => ?_
  clear hS hA
  by_cases h1 : a.k = 2 ∨ b.k = 2
  · have e : sumV a b s = (vNull, false) := by simp only [sumV, if_pos h1]
    rw [e]
    rcases h1 with h1 | h1
    · repeat' first|refine yaG ?_|(exfalso;omega)|(refine yaS ?_ ?_<;>intro _)
      all_goals first
        | exact .ret (retv_mt rfl rfl rfl (Nat.zero_le _) rfl rfl) (fin_vb vNull _)
        | (exfalso; omega)
    · repeat' first|refine yaG ?_|(exfalso;omega)|(refine yaS ?_ ?_<;>intro _)
      all_goals first
        | exact .ret (retv_mt rfl rfl rfl (Nat.zero_le _) rfl rfl) (fin_vb vNull _)
        | (exfalso; omega)
  by_cases h2 : a.k = 0 ∨ b.k = 0
  · have e : sumV a b s = (vNull, true) := by simp only [sumV, if_neg h1, if_pos h2]
    rw [e]
    rcases h2 with h2 | h2
    · repeat' first|refine yaG ?_|(exfalso;omega)|(refine yaS ?_ ?_<;>intro _)
      all_goals first
        | exact .ret (retv_mt rfl rfl rfl (Nat.zero_le _) rfl rfl) (fin_vb vNull _)
        | (exfalso; omega)
    · repeat' first|refine yaG ?_|(exfalso;omega)|(refine yaS ?_ ?_<;>intro _)
      all_goals first
        | exact .ret (retv_mt rfl rfl rfl (Nat.zero_le _) rfl rfl) (fin_vb vNull _)
        | (exfalso; omega)
  have e : sumV a b s = (vInt (a.n + s * b.n), okVal (vInt (a.n + s * b.n))) := by simp only [sumV, if_neg h1, if_neg h2]
  have ka : a.k = 1 := by have := okVal_kind ha; omega
  have kb : b.k = 1 := by have := okVal_kind hb; omega
  have ra := okVal_range ha ka
  have rb := okVal_range hb kb
  have hw : IntKind.i64.wrap (a.n + IntKind.i64.wrap (s * b.n)) = a.n + s * b.n := by
    rcases hs with rfl | rfl
    · rw [wrap64 (n := 1 * b.n) (by omega) (by omega), wrap64 (by omega) (by omega)]
    · rw [wrap64 (n := -1 * b.n) (by omega) (by omega), wrap64 (by omega) (by omega)]
  rw [e]
  repeat' first|refine yaG ?_|((first|apply yG|apply yH|apply yI);exact rfl;(first|exact aop_store rfl rfl rfl rfl rfl rfl (Nat.le_of_ble_eq_true rfl)))|((first|apply yQ|apply yR|apply yS);(iterate 3 exact rfl);exact l1Int_ok _)|refine yaC (sValOk_ok (vInt (IntKind.i64.wrap (a.n + IntKind.i64.wrap (s * b.n))))) ?_|(exfalso;omega)|(refine yaS ?_ ?_<;>intro _)
  all_goals first
    | (exfalso; omega)
    | skip
  rw [hw]
  exact .ret (retv_mt rfl rfl rfl (Nat.zero_le _) rfl rfl) (fin_vb (vInt _) _)
def twoR (k : Int) (a b : Val) : Val × Bool := if k = 3 then (asR (eq3 a b), true) else if k = 4 then (asR (less3 a b), true) else if k = 9 then sumV a b 1 else if k = 10 then sumV a b (-1)
  else if ofB a && ofB b then (asR (if k = 5 then and3 (ofT a) (ofT b) else or3 (ofT a) (ofT b)), true) else (vNull, false)
theorem l2Two_ok (k : Int) (a b : Val) (ha : okVal a = true) (hb : okVal b = true) : Pure Tryz.prog 268 [.c (.int .i64 k), .agg (encV a), .agg (encV b)] (.tup [.agg (encV (twoR k a b).1), .c (.bool (twoR k a b).2)]) := by
  refine Pure.run mixed c_spec_l2Two_ok (Nat.le_of_ble_eq_true rfl) fun σ hS hA => ?_
  clear hS hA
  repeat' first|refine yaG ?_|refine yaC (sEqual3_ok a b) ?_|refine yaC (sLess3_ok a b) ?_|((first|apply yQ|apply yR|apply yS);(iterate 3 exact rfl);exact l2As_ok _)|refine yaC (l2Sum_ok a b 1 (.inl rfl) ha hb) ?_|refine yaC (l2Sum_ok a b (-1) (.inr rfl) ha hb) ?_|refine yaC (l2Of_ok a) ?_|refine yaC (l2Of_ok b) ?_|((first|apply yQ|apply yR|apply yS);(iterate 3 exact rfl);exact sAnd3_ok _ _)|((first|apply yQ|apply yR|apply yS);(iterate 3 exact rfl);exact sOr3_ok _ _)|(exfalso;omega)|(refine yaS ?_ ?_<;>intro _)
  · rename_i h
    rw [twoR, if_pos h]
    exact .ret (retv_mt rfl rfl rfl (Nat.zero_le _) rfl rfl) (fin_vb _ _)
  · rename_i h0 h
    rw [twoR, if_neg h0, if_pos h]
    exact .ret (retv_mt rfl rfl rfl (Nat.zero_le _) rfl rfl) (fin_vb _ _)
  · rename_i h0 h1 h
    rw [twoR, if_neg h0, if_neg h1, if_pos h]
    exact .ret (retv_mt rfl rfl rfl (Nat.zero_le _) rfl rfl) (fin_vb _ _)
  · rename_i h0 h1 h2 h
    rw [twoR, if_neg h0, if_neg h1, if_neg h2, if_pos h]
    exact .ret (retv_mt rfl rfl rfl (Nat.zero_le _) rfl rfl) (fin_vb _ _)
  · rename_i h0 h1 h2 h3 h
    have h : ofB a = false := by simpa using h
    rw [twoR, if_neg h0, if_neg h1, if_neg h2, if_neg h3, h]
    exact .ret (retv_mt rfl rfl rfl (Nat.zero_le _) rfl rfl) (fin_vb vNull _)
  · rename_i h0 h1 h2 h3 h4 h
    have h : ofB b = false := by simpa using h
    rw [twoR, if_neg h0, if_neg h1, if_neg h2, if_neg h3, h, Bool.and_false]
    exact .ret (retv_mt rfl rfl rfl (Nat.zero_le _) rfl rfl) (fin_vb vNull _)
  · rename_i h0 h1 h2 h3 h4 h h5
    have h4 : ofB a = true := by simpa using h4
    have h : ofB b = true := by simpa using h
    rw [twoR, if_neg h0, if_neg h1, if_neg h2, if_neg h3, h4, h, if_pos h5]
    exact .ret (retv_mt rfl rfl rfl (Nat.zero_le _) rfl rfl) (fin_vb _ _)
  · rename_i h0 h1 h2 h3 h4 h h5
    have h4 : ofB a = true := by simpa using h4
    have h : ofB b = true := by simpa using h
    rw [twoR, if_neg h0, if_neg h1, if_neg h2, if_neg h3, h4, h, if_neg h5]
    exact .ret (retv_mt rfl rfl rfl (Nat.zero_le _) rfl rfl) (fin_vb _ _)
theorem asV_asR {t : Int} (h0 : 0 ≤ t) : asV t = (asR t, true) := by
  simp only [asV, asR]
  split
  · rfl
  · rw [decide_eq_true h0]
theorem ofB_truth {a : Val} (h : ofB a = true) : truthV a = ofT a ∧ 0 ≤ ofT a ∧ ofT a ≤ 2 := by
  simp only [ofB, Bool.or_eq_true, decide_eq_true_eq] at h
  simp only [truthV, ofT]
  have := yes_range (a.n != 0)
  rcases h with h | h
  · simp [h]
  · have hn : ¬ a.k = 0 := by omega
    simp only [if_neg hn, if_pos h]
    refine ⟨?_, this.1, by omega⟩
    by_cases h0 : a.n = 0 <;> simp [h0, yes]
theorem ofB_not {a : Val} (h : ofB a = false) : truthV a = -1 := by
  simp only [ofB, Bool.or_eq_false_iff, decide_eq_false_iff_not] at h
  rw [truthV, if_neg h.1, if_neg h.2]
theorem and3_tru {a b : Int} (ha : 0 ≤ a ∧ a ≤ 2) (hb : 0 ≤ b ∧ b ≤ 2) : 0 ≤ and3 a b := by
  rw [and3, tru_range.2 ha, tru_range.2 hb]
  simp only [Bool.and_self, if_true]
  split
  · omega
  · split <;> omega
theorem or3_tru {a b : Int} (ha : 0 ≤ a ∧ a ≤ 2) (hb : 0 ≤ b ∧ b ≤ 2) : 0 ≤ or3 a b := by
  rw [or3, tru_range.2 ha, tru_range.2 hb]
  simp only [Bool.and_self, if_true]
  split
  · omega
  · split <;> omega
/-- The reference's op of two is the program's. -/
theorem twoR_eq (t : Tok) (a b : Val) (row : List Val) (hk : t.kind = 3 ∨ t.kind = 4 ∨ t.kind = 5 ∨ t.kind = 6 ∨ t.kind = 9 ∨ t.kind = 10) : (twoR t.kind a b).2 = (applyF t [a, b] row).2 ∧ ((applyF t [a, b] row).2 = true → twoR t.kind a b = applyF t [a, b] row) := by
  have h5 : ∀ f : Int → Int → Int, (f = and3 ∨ f = or3) → (if ofB a && ofB b then (asR (f (ofT a) (ofT b)), true) else (vNull, false)).2 = (asV (f (truthV a) (truthV b))).2 ∧ ((asV (f (truthV a) (truthV b))).2 = true → (if ofB a && ofB b then (asR (f (ofT a) (ofT b)), true) else (vNull, false)) = asV (f (truthV a) (truthV b))) := by
    intro f hf
    cases h1 : ofB a
    · have h3 : asV (f (truthV a) (truthV b)) = (vInt (-1), false) := by
        rw [ofB_not h1]
        rcases hf with rfl | rfl
        · rw [and3, show tru (-1) = false from rfl]; rfl
        · rw [or3, show tru (-1) = false from rfl]; rfl
      rw [h3]
      simp
    cases h2 : ofB b
    · have h3 : asV (f (truthV a) (truthV b)) = (vInt (-1), false) := by
        rw [ofB_not h2]
        rcases hf with rfl | rfl
        · rw [and3, show tru (-1) = false from rfl, Bool.and_false]; rfl
        · rw [or3, show tru (-1) = false from rfl, Bool.and_false]; rfl
      rw [h3]
      simp
    obtain ⟨e1, r1⟩ := ofB_truth h1
    obtain ⟨e2, r2⟩ := ofB_truth h2
    rw [e1, e2, asV_asR (by
      rcases hf with rfl | rfl
      · exact and3_tru r1 r2
      · exact or3_tru r1 r2)]
    simp
  rcases hk with h | h | h | h | h | h
  · simp only [twoR, applyF, vAt, h, List.getElem?_cons_zero, List.getElem?_cons_succ, Option.getD_some, Int.reduceEq, if_true, if_false, reduceIte]
    rw [asV_asR (eq3_range a b).1]
    simp
  · simp only [twoR, applyF, vAt, h, List.getElem?_cons_zero, List.getElem?_cons_succ, Option.getD_some, Int.reduceEq, if_true, if_false, reduceIte]
    rw [asV_asR (less3_range a b).1]
    simp
  · simp only [twoR, applyF, vAt, h, List.getElem?_cons_zero, List.getElem?_cons_succ, Option.getD_some, Int.reduceEq, if_true, if_false, reduceIte]
    exact h5 and3 (.inl rfl)
  · simp only [twoR, applyF, vAt, h, List.getElem?_cons_zero, List.getElem?_cons_succ, Option.getD_some, Int.reduceEq, if_true, if_false, reduceIte]
    exact h5 or3 (.inr rfl)
  · simp only [twoR, applyF, vAt, h, List.getElem?_cons_zero, List.getElem?_cons_succ, Option.getD_some, Int.reduceEq, if_true, if_false, reduceIte]
    simp
  · simp only [twoR, applyF, vAt, h, List.getElem?_cons_zero, List.getElem?_cons_succ, Option.getD_some, Int.reduceEq, if_true, if_false, reduceIte]
    simp
end Go.Proofs.YtdgnfdljkghpjaaGreat.Am

/- The reader that draws: numbers. -/
set_option linter.unusedVariables false
set_option linter.unusedSimpArgs false
namespace Go.Proofs.YtdgnfdljkghpjaaGreat.Am

/-- A number from lo up, below hi. -/
def NumIn (k : IntKind) (lo hi : Int) (r : AV) : Prop := ∃ n : Int, lo ≤ n ∧ n < hi ∧ r = .c (.int k n)
theorem old_c {n : Nat} {k : IntKind} {z : Int} : ∀ y ∈ (AV.c (.int k z)).all, Old n y := fun y hy => by
  simp only [AV.all, List.mem_singleton] at hy
  subst hy
  exact .int _ _
theorem old_b {n : Nat} {b : Bool} : ∀ y ∈ (AV.c (.bool b)).all, Old n y := fun y hy => by
  simp only [AV.all, List.mem_singleton] at hy
  subst hy
  exact .bool _
theorem aop_byte {fr : Fr} {σ : Store} {x : Opd} {b : UInt8} (hx : x.ev fr = some (.c (.fp (encB b)))) : aop (.load false 1 x) fr σ = some (.c (.int .u8 (b.toNat : Int)), σ) := by
  simp [aop, hx, Store.at_, encB, takeA]
theorem wrap_byte (b : UInt8) : IntKind.i64.wrap (b.toNat : Int) = b.toNat := by
  have := b.toNat_lt
  exact wrap64 (by omega) (by omega)
theorem next_ok : Draws Tryz.prog 103 [] (NumIn .i64 0 256) := by
  refine Draws.run mixed c_spec_l1Rd_next_ok (Nat.le_of_ble_eq_true rfl) fun σ id v code p hr hp hc hS => ?_
  clear hS
  by_cases hlt : p < code.length
  · have h1 : IntKind.i64.wrap ((p : Int) + 1) = ((p + 1 : Nat) : Int) := by rw [wrap64 (by omega) (by omega)]; omega
    have h2 : IntKind.i64.wrap (((p + 1 : Nat) : Int) - 1) = (p : Int) := by rw [wrap64 (by omega) (by omega)]; omega
    have hb := (code[p]'hlt).toNat_lt
    repeat' first|refine yaG ?_|((first|apply yG|apply yH|apply yI);exact rfl;(first|exact aop_rdb hr rfl|exact aop_rdp hr rfl|exact aop_rdput hr rfl rfl h1|exact yX (enc := encB) rfl rfl h2 hlt rfl|exact aop_byte rfl))|(exfalso;omega)|(refine yaS ?_ ?_<;>intro _)
    rw [wrap_byte]
    exact .ret rfl (.c hlt ⟨_, by omega, by omega, rfl⟩ old_c)
  · repeat' first|refine yaG ?_|((first|apply yG|apply yH|apply yI);exact rfl;(first|exact aop_rdb hr rfl|exact aop_rdp hr rfl))|(exfalso;omega)|(refine yaS ?_ ?_<;>intro _)
    exact .ret rfl (.c hp ⟨0, by omega, by omega, rfl⟩ old_c)
theorem tmod_in {a n : Int} (ha : 0 ≤ a) (hn : 1 < n) : 0 ≤ a.tmod n ∧ a.tmod n < n :=
  ⟨Int.tmod_nonneg n ha, Int.tmod_lt_of_pos a (by omega)⟩
/-- What below answers. -/
def BelowR (n : Int) (r : AV) : Prop := ∃ k : Int, 0 ≤ k ∧ (k < n ∨ (n ≤ 1 ∧ k = 0)) ∧ r = .c (.int .i64 k)
theorem below_ok (n : Int) (hn : n ≤ 34359738368) (h0 : -34359738368 ≤ n) : Draws Tryz.prog 49 [.c (.int .i64 n)] (BelowR n) := by
  refine Draws.run mixed c_spec_l1Rd_below_ok (Nat.le_of_ble_eq_true rfl) fun σ id v code p hr hp hc hS => ?_
  clear hS
  repeat' first|refine yaG ?_|(exfalso;omega)|(refine yaS ?_ ?_<;>intro _)
  · rename_i h
    exact .ret rfl (.c hp ⟨0, by omega, .inr ⟨h, rfl⟩, rfl⟩ old_c)
  · rename_i h h2
    refine Go.drawn hr hp rfl rfl rfl next_ok ?_
    rintro _ q hq ⟨a, ha0, ha1, rfl⟩
    have ht := tmod_in ha0 (show 1 < n by omega)
    have hne : n ≠ 0 := by omega
    repeat' first|refine yaG ?_|((first|apply yG|apply yH|apply yI);exact rfl;(first|exact aop_remR rfl rfl hne))|(exfalso;omega)|(refine yaS ?_ ?_<;>intro _)
    exact .ret rfl (.c hq ⟨_, ht.1, .inl ht.2, rfl⟩ old_c)
  · rename_i h h2
    refine Go.drawn hr hp rfl rfl rfl next_ok ?_
    rintro _ q hq ⟨a, ha0, ha1, rfl⟩
    repeat' first|refine yaG ?_|(exfalso;omega)|(refine yaS ?_ ?_<;>intro _)
    refine Go.drawn hr hq rfl rfl rfl next_ok ?_
    rintro _ q2 hq2 ⟨b, hb0, hb1, rfl⟩
    have h3 : IntKind.i64.wrap (a * 256) = a * 256 := wrap64 (by omega) (by omega)
    have h4 : IntKind.i64.wrap (IntKind.i64.wrap (a * 256) + b) = a * 256 + b := by rw [h3, wrap64 (by omega) (by omega)]
    have ht := tmod_in (a := IntKind.i64.wrap (IntKind.i64.wrap (a * 256) + b)) (by omega) (show 1 < n by omega)
    have hne : n ≠ 0 := by omega
    repeat' first|refine yaG ?_|((first|apply yG|apply yH|apply yI);exact rfl;(first|exact aop_remR rfl rfl hne))|(exfalso;omega)|(refine yaS ?_ ?_<;>intro _)
    exact .ret rfl (.c hq2 ⟨_, ht.1, .inl ht.2, rfl⟩ old_c)
/-- A drawn truth. -/
def Bit (r : AV) : Prop := ∃ b : Bool, r = .c (.bool b)
theorem once_ok (n : Int) (hn : n ≤ 34359738368) (h0 : -34359738368 ≤ n) : Draws Tryz.prog 50 [.c (.int .i64 n)] Bit := by
  refine Draws.run mixed c_spec_l1Rd_once_ok (Nat.le_of_ble_eq_true rfl) fun σ id v code p hr hp hc hS => ?_
  clear hS
  repeat' first|refine yaG ?_|(exfalso;omega)|(refine yaS ?_ ?_<;>intro _)
  refine Go.drawn hr hp rfl rfl rfl (below_ok n hn h0) ?_
  rintro _ q hq ⟨a, ha0, ha1, rfl⟩
  repeat' first|refine yaG ?_|(exfalso;omega)|(refine yaS ?_ ?_<;>intro _)
  exact .ret rfl (.c hq ⟨_, rfl⟩ old_b)
theorem action_ok : Draws Tryz.prog 136 [] (NumIn .i64 0 3) := by
  refine Draws.run mixed c_spec_l1Rd_action_ok (Nat.le_of_ble_eq_true rfl) fun σ id v code p hr hp hc hS => ?_
  clear hS
  repeat' first|refine yaG ?_|(exfalso;omega)|(refine yaS ?_ ?_<;>intro _)
  refine Go.drawn hr hp rfl rfl rfl (below_ok 3 (by decide) (by decide)) ?_
  rintro _ q hq ⟨a, ha0, ha1, rfl⟩
  repeat' first|refine yaG ?_|(exfalso;omega)|(refine yaS ?_ ?_<;>intro _)
  exact .ret rfl (.c hq ⟨a, ha0, by omega, rfl⟩ old_c)
theorem word_ok : Draws Tryz.prog 153 [] (fun r => ∃ n : Int, r = .c (.int .u64 n)) := by
  refine Draws.run mixed c_spec_l1Rd_word_ok (Nat.le_of_ble_eq_true rfl) fun σ id v code p hr hp hc hS => ?_
  clear hS
  repeat' first|refine yaG ?_|(exfalso;omega)|(refine yaS ?_ ?_<;>intro _)
  refine Go.keep [0, 3, 4] (Go.loops (I := fun m fr τ => ∃ (i : Nat) (k x : Int) (q : Nat), m = 8 - i ∧ i ≤ 8 ∧ k = i ∧ q ≤ code.length ∧
    fr = [(0, .c (.ptr id v 0 0)), (3, .c (.int .u64 x)), (4, .c (.int .i64 k))] ∧ τ = E (Rd.go σ id v code q) []) ?_ _ _ _ ⟨0, _, _, p, rfl, Nat.zero_le _, rfl, hp, rfl, rfl⟩)
  rintro m fr τ ⟨i, k, x, q, rfl, hi, hk, hq, rfl, rfl⟩ hrec
  by_cases hlt : i < 8
  · repeat' first|refine yaG ?_|(exfalso;omega)|(refine yaS ?_ ?_<;>intro _)
    refine Go.drawn hr hq rfl rfl rfl next_ok ?_
    rintro _ q2 hq2 ⟨a, ha0, ha1, rfl⟩
    repeat' first|refine yaG ?_|(exfalso;omega)|(refine yaS ?_ ?_<;>intro _)
    exact Go.keep [0, 3, 4] (hrec _ _ _ (by omega) ⟨i + 1, _, _, q2, rfl, hlt, wrap_succ hk (by omega), hq2, rfl, rfl⟩)
  · repeat' first|refine yaG ?_|(exfalso;omega)|(refine yaS ?_ ?_<;>intro _)
    exact .ret rfl (.c hq ⟨x, rfl⟩ old_c)
/-- Some number. -/
def AnyI (r : AV) : Prop := ∃ n : Int, r = .c (.int .i64 n)
theorem u64_pos {z : Int} (h0 : 1 ≤ z) (h1 : z ≤ 34359738368) : IntKind.u64.wrap z ≠ 0 := by
  have : IntKind.u64.wrap z = z % 18446744073709551616 := by simp [IntKind.wrap, IntKind.bits, IntKind.signed]
  omega
theorem near_ok (lo hi : Int) (h0 : -1073741824 ≤ lo) (h1 : lo ≤ 1073741824) (h2 : -1073741824 ≤ hi) (h3 : hi ≤ 1073741824) : Draws Tryz.prog 104 [.c (.int .i64 lo), .c (.int .i64 hi)] AnyI := by
  refine Draws.run mixed c_spec_l1Rd_near_ok (Nat.le_of_ble_eq_true rfl) fun σ id v code p hr hp hc hS => ?_
  clear hS
  repeat' first|refine yaG ?_|(exfalso;omega)|(refine yaS ?_ ?_<;>intro _)
  refine Go.drawn hr hp rfl rfl rfl (below_ok 8 (by decide) (by decide)) ?_
  rintro _ q hq ⟨a, ha0, ha1, rfl⟩
  repeat' first|refine yaG ?_|(exfalso;omega)|(refine yaS ?_ ?_<;>intro _)
  · exact .ret rfl (.c hq ⟨_, rfl⟩ old_c)
  · exact .ret rfl (.c hq ⟨_, rfl⟩ old_c)
  · exact .ret rfl (.c hq ⟨_, rfl⟩ old_c)
  · rename_i h5 h6 h7
    refine Go.drawn hr hq rfl rfl rfl word_ok ?_
    rintro _ q2 hq2 ⟨w, rfl⟩
    have e1 : IntKind.i64.wrap (hi - lo) = hi - lo := wrap64 (by omega) (by omega)
    have e2 : IntKind.i64.wrap (IntKind.i64.wrap (hi - lo) + 1) = hi - lo + 1 := by rw [e1, wrap64 (by omega) (by omega)]
    have hne : IntKind.u64.wrap (IntKind.i64.wrap (IntKind.i64.wrap (hi - lo) + 1)) ≠ 0 := by rw [e2]; exact u64_pos (by omega) (by omega)
    repeat' first|refine yaG ?_|((first|apply yG|apply yH|apply yI);exact rfl;(first|exact aop_remR rfl rfl hne))|(exfalso;omega)|(refine yaS ?_ ?_<;>intro _)
    exact .ret rfl (.c hq2 ⟨_, rfl⟩ old_c)
theorem off_ok (lo hi : Int) (h0 : -1073741824 ≤ lo) (h1 : lo ≤ 1073741824) (h2 : -1073741824 ≤ hi) (h3 : hi ≤ 1073741824) : Draws Tryz.prog 51 [.c (.int .i64 lo), .c (.int .i64 hi)] AnyI := by
  refine Draws.run mixed c_spec_l1Rd_off_ok (Nat.le_of_ble_eq_true rfl) fun σ id v code p hr hp hc hS => ?_
  clear hS
  repeat' first|refine yaG ?_|(exfalso;omega)|(refine yaS ?_ ?_<;>intro _)
  refine Go.drawn hr hp rfl rfl rfl (once_ok 24 (by decide) (by decide)) ?_
  rintro _ q hq ⟨b, rfl⟩
  cases b
  · repeat' first|refine yaG ?_|(exfalso;omega)|(refine yaS ?_ ?_<;>intro _)
    refine Go.drawn hr hq rfl rfl rfl (near_ok lo hi h0 h1 h2 h3) ?_
    rintro _ q2 hq2 ⟨w, rfl⟩
    repeat' first|refine yaG ?_|(exfalso;omega)|(refine yaS ?_ ?_<;>intro _)
    exact .ret rfl (.c hq2 ⟨_, rfl⟩ old_c)
  · repeat' first|refine yaG ?_|(exfalso;omega)|(refine yaS ?_ ?_<;>intro _)
    refine Go.drawn hr hq rfl rfl rfl (below_ok 4 (by decide) (by decide)) ?_
    rintro _ q2 hq2 ⟨k, hk0, hk1, rfl⟩
    obtain ⟨m, hm⟩ : ∃ m : Nat, k = m := ⟨k.toNat, by omega⟩
    have hm4 : m < 4 := by omega
    subst hm
    have hz : m = 0 ∨ m = 1 ∨ m = 2 ∨ m = 3 := by omega
    rcases hz with rfl | rfl | rfl | rfl
    all_goals repeat' first|refine yaG ?_|(exfalso;omega)|(refine yaS ?_ ?_<;>intro _)
    all_goals exact .ret rfl (.c hq2 ⟨_, rfl⟩ old_c)
/-! ### values and tokens -/
theorem l1Str_ok (x : List UInt8) : Pure Tryz.prog 101 [.c (.str x)] (.agg (encV ⟨2, 0, x⟩)) := by
  refine Pure.run mixed c_spec_l1Str_ok (Nat.le_of_ble_eq_true rfl) fun σ hS hA => ?_
  clear hS hA
  repeat' first|refine yaG ?_|(exfalso;omega)|(refine yaS ?_ ?_<;>intro _)
  exact .ret (retv_m rfl rfl rfl (Nat.zero_le _) rfl) (fin_v ⟨2, 0, x⟩)
def tCol (c : Int) : Tok := ⟨1, c, vNull⟩
def tConst (v : Val) : Tok := ⟨2, 0, v⟩
theorem fin_tok {σ : Store} {l : List (Nat × List (List Ce))} (t : Tok) : Fin σ (.agg (encTok t)) (.agg (encTok t)) (E σ l) :=
  ⟨l, rfl, .refl fun y hy => (flatTok t y hy).old _⟩
theorem l2Col_ok (c : Int) : Pure Tryz.prog 134 [.c (.int .i64 c)] (.agg (encTok (tCol c))) := by
  refine Pure.run mixed c_spec_l2Col_ok (Nat.le_of_ble_eq_true rfl) fun σ hS hA => ?_
  clear hS hA
  repeat' first|refine yaG ?_|(exfalso;omega)|(refine yaS ?_ ?_<;>intro _)
  exact .ret (retv_m rfl rfl rfl (Nat.zero_le _) rfl) (fin_tok (tCol c))
theorem l2Const_ok (w : Val) : Pure Tryz.prog 135 [.agg (encV w)] (.agg (encTok (tConst w))) := by
  refine Pure.run mixed c_spec_l2Const_ok (Nat.le_of_ble_eq_true rfl) fun σ hS hA => ?_
  clear hS hA
  repeat' first|refine yaG ?_|(exfalso;omega)|(refine yaS ?_ ?_<;>intro _)
  exact .ret (retv_m rfl rfl rfl (Nat.zero_le _) rfl) (fin_tok (tConst w))
/-- A drawn value. -/
def AnyV (r : AV) : Prop := ∃ w : Val, w.s.length ≤ 12 ∧ r = .agg (encV w)
theorem old_v {n : Nat} (w : Val) : ∀ y ∈ (AV.agg (encV w)).all, Old n y := fun y hy => (encV_flat w y hy).old _
end Go.Proofs.YtdgnfdljkghpjaaGreat.Am

/- Expressions: the reference's evaluation. -/
set_option linter.unusedVariables false
set_option linter.unusedSimpArgs false
namespace Go.Proofs.YtdgnfdljkghpjaaGreat.Am

theorem drop1 {st : List Val} (h : 1 ≤ st.length) : st.drop (st.length - 1) = [st[st.length - 1]] := by
  rw [List.drop_eq_getElem_cons (by omega), List.drop_eq_nil_of_le (by omega)]
theorem drop2 {st : List Val} (h : 2 ≤ st.length) : st.drop (st.length - 2) = [st[st.length - 2], st[st.length - 1]] := by
  rw [List.drop_eq_getElem_cons (by omega), show st.length - 2 + 1 = st.length - 1 by omega, drop1 (by omega)]
theorem frz_all {σ : Store} {l : List (Nat × List (List Ce))} {k v N : Nat} {ys : List Val} {junk : List (List Ce)} (hl : l[k]? = some (v, ys.map encV ++ junk)) (hN : N ≤ σ.next + k) : FrzV (E σ l) N (.c (vec (σ.next + k) v (ys.map encV) junk)) (.c (.fz (ys.map encV))) :=
  frz_drop (n := 0) hl flats (Nat.zero_le _) hN
theorem l2Eval_ok (e : List Tok) (row : List Val) (hx : e.length ≤ 24) (hrl : row.length ≤ 16) (hok : Oks row) (hea : exprAux row.length 0 e = true) : Pure Tryz.prog 261 [.c (.fz (e.map encTok)), .c (.fz (row.map encV))] (.tup [.agg (encV (evalR e row).1), .c (.bool (evalR e row).2)]) := by
  refine Pure.run mixed c_spec_l2Eval_ok (Nat.le_of_ble_eq_true rfl) fun σ hS hA => ?_
  clear hA
  repeat' first|refine yaG ?_|(exfalso;omega)|(refine yaS ?_ ?_<;>intro _)
  refine Go.freezeN (l := [(0, [[.int .i64 0, .int .i64 0, .str []]])]) (m := [(0, [])]) (fr' := [(0, .c (.fz (e.map encTok))), (1, .c (.fz (row.map encV))), (4, .c (.ptr (σ.next + 0) 0 0 0)), (6, .c (.fz (([] : List Val).map encV))), (7, .c (.int .i64 0))])
    hS (fun b hb e he x hx => ?_) (Nat.le_refl _) (.frz rfl (.refl old_encTok) (.frz rfl (.refl old_encV) (.frz rfl (.refl (old_ptr (by simp))) (.frz rfl (frz_all (σ := σ) (l := [(0, [[.int .i64 0, .int .i64 0, .str []]]), (0, [])]) (k := 1) (v := 0) (ys := []) (junk := []) rfl (Nat.le_refl _)) (.frz rfl (.refl old_int) .nil))))) ?_
  · rw [List.mem_singleton.1 hb] at he
    exact (flats (l := [vNull]) e he x hx).old _
  refine Go.loops (I := fun m fr τ => ∃ (i : Nat) (k : Int) (st : List Val), m = e.length - i ∧ i ≤ e.length ∧ k = i ∧ (st.length ≤ i ∧ Oks st ∧ exprAux row.length st.length (e.drop i) = true ∧ evalL row e [] = evalL row (e.drop i) st) ∧
    fr = [(0, .c (.fz (e.map encTok))), (1, .c (.fz (row.map encV))), (4, .c (.ptr (σ.next + 0) 0 0 0)), (6, .c (.fz (st.map encV))), (7, .c (.int .i64 k))] ∧
      τ = E σ [(0, [[.int .i64 0, .int .i64 0, .str []]])]) ?_ _ _ _ ⟨0, _, [], rfl, Nat.zero_le _, rfl, ⟨Nat.zero_le _, fun v hv => (by simp at hv), hea, rfl⟩, rfl, rfl⟩
  rintro m fr τ ⟨i, k, st, rfl, hi, hk, ⟨hsl, hst, haux, hev⟩, rfl, rfl⟩ hrec
  clear hea
  by_cases hlt : i < e.length
  · rw [List.drop_eq_getElem_cons hlt] at haux hev
    obtain ⟨htk, hle, haux⟩ := exprAux_cons haux
    have htr := tokTakes_range e[i]
    have hkd := isTok_kinds htk
    have hcol := isTok_col htk
    have hft : fromOf e[i] st = st.length - (tokTakes e[i]).toNat := rfl
    have hres := applyF_ok (tokOk_const htk) (hst.drop (fromOf e[i] st)) hok
    rw [evalL] at hev
    have hsl1 : st.length ≤ 24 := by omega
    obtain ⟨ap, hap⟩ : ∃ ap, applyF e[i] (st.drop (fromOf e[i] st)) row = ap := ⟨_, rfl⟩
    rw [hap] at hres hev
    repeat' first|apply Go.seq|apply Go.skip|apply Go.region|apply Go.nil|apply Go.blk|apply Go.draw|apply Go.segs|(apply Go.exit;exact rfl)|(apply Go.cond true;exact rfl)|(apply Go.cond false;exact rfl)|apply yB|apply yC|((first|apply yG|apply yH|apply yI);exact rfl;(first|exact yJ|exact yK rfl rfl|exact yL rfl|exact yM rfl|exact rfl|exact aL rfl rfl rfl rfl rfl|exact aS rfl rfl rfl rfl rfl rfl rfl))|((first|apply yN|apply yO|apply yP);exact rfl)|(exfalso;omega)|(((first|apply yT|apply yU|apply yV|apply yW);exact rfl;(first|exact .d|exact .e|exact .n|((fail_if_success exact bqt);(fail_if_success exact bqf);exact .b)))<;>intro _)
    apply Go.block
    repeat' first|apply Go.seq|apply Go.skip|apply Go.region|apply Go.nil|apply Go.blk|apply Go.draw|apply Go.segs|(apply Go.exit;exact rfl)|(apply Go.cond true;exact rfl)|(apply Go.cond false;exact rfl)|apply yB|apply yC|((first|apply yG|apply yH|apply yI);exact rfl;(first|exact yJ|exact yK rfl rfl|exact yL rfl|exact yM rfl|exact rfl|exact aL rfl rfl rfl rfl rfl|exact aS rfl rfl rfl rfl rfl rfl rfl|exact yX (enc := encTok) rfl rfl hk hlt rfl))|((first|apply yN|apply yO|apply yP);exact rfl)|(exfalso;omega)|(((first|apply yT|apply yU|apply yV|apply yW);exact rfl;(first|exact .d|exact .e|exact .n|((fail_if_success exact bqt);(fail_if_success exact bqf);exact .b)))<;>intro _)
    apply Go.block
    refine Go.join (K' := [_]) (fun fr τ => ∃ (av : Val) (ab : Bool), ab = ap.2 ∧ (ab = true → av = ap.1) ∧
      fr = [(0, .c (.fz (e.map encTok))), (1, .c (.fz (row.map encV))), (4, .c (.ptr (σ.next + 0) 0 0 0)), (6, .c (.fz (st.map encV))), (7, .c (.int .i64 k)), (8, .c (.int .i64 (st.length : Int))), (9, .c (.ptr (σ.next + 1) 0 0 0)), (10, .c (.bool ab)), (11, .c (.int .i64 (tokTakes e[i])))] ∧
      τ = E σ [(0, [[.int .i64 0, .int .i64 0, .str []]]), (0, [encV av])]) ?_ ?_
    · rintro fr τ ⟨av, ab, hab, hav, rfl, rfl⟩
      cases ab
      · rw [← hab, if_neg Bool.false_ne_true] at hev
        have hR : evalR e row = (vNull, false) := by rw [evalR, hev]
        rw [hR]
        repeat' first|refine yaG ?_|(exfalso;omega)|(refine yaS ?_ ?_<;>intro _)
        exact .ret (retv_mt rfl rfl rfl (Nat.zero_le _) rfl rfl) (fin_vb vNull _)
      obtain rfl := hav rfl
      rw [← hab, if_pos rfl] at hev
      have hn : fromOf e[i] st ≤ (st.map encV).length := by rw [List.length_map, hft]; omega
      have hz : IntKind.i64.wrap ((st.length : Int) - tokTakes e[i]) = (fromOf e[i] st : Int) := by rw [wrap64 (by omega) (by omega), hft]; omega
      have hres := hres hab.symm
      have hl1 : ((st.take (fromOf e[i] st)).length : Int) = st.length - tokTakes e[i] := by rw [List.length_take, hft]; omega
      generalize fromOf e[i] st = n at hn hz hl1 hev
      repeat' first|apply Go.seq|apply Go.skip|apply Go.region|apply Go.nil|apply Go.block|apply Go.blk|apply Go.segs|(apply Go.exit;exact rfl)|(apply Go.cond true;exact rfl)|(apply Go.cond false;exact rfl)|apply yB|apply yC|((first|apply yD|apply yE);(first|exact yF|assumption);iterate 6 exact rfl)|((first|apply yG|apply yH|apply yI);exact rfl;(first|exact yJ|exact yK rfl rfl|exact yL rfl|exact yM rfl|exact rfl|exact aL rfl rfl rfl rfl rfl|exact aS rfl rfl rfl rfl rfl rfl rfl))|((first|apply yN|apply yO|apply yP);exact rfl)|(exfalso;omega)|(((first|apply yT|apply yU|apply yV|apply yW);exact rfl;(first|exact .d|exact .e|exact .n|((fail_if_success exact bqt);(fail_if_success exact bqf);exact .b)))<;>intro _)
      apply Go.draw
      refine Go.qkm [(0, [[.int .i64 0, .int .i64 0, .str []]]), (0, [encV ap.1])] [] ?_
      repeat' first|(apply Qk.nil;show Go _ _ _ _ _ _ _ _)|(apply Qk.op;exact rfl;(first|(rintro _ ⟨_, rfl⟩;exact rfl)|(rintro _ ⟨_, rfl⟩;exact aop_load rfl rfl rfl (Nat.le_of_ble_eq_true rfl) rfl)|(rintro _ ⟨_, rfl⟩;exact aop_sliceF (s := 3) rfl rfl hz hn lens)))|(apply Qk.no;exact rfl)|(apply Qk.wop;exact rfl;exact rfl;(first|exact yJ|exact yL rfl|exact aop_store rfl rfl rfl rfl rfl rfl (Nat.le_of_ble_eq_true rfl));exact ⟨_, rfl⟩)
      have hb1 : (([] : List (List Ce)).length + ((st.map encV).take n).length) * 32 ≤ 140737488355328 := by rw [List.length_take, List.length_map, List.length_nil]; omega
      refine Qk.app (k := 2) (v := 0) (ys := []) (junk := []) (zs := (st.map encV).take n) rfl rfl rfl rfl rfl (fun e he => (by simp at he)) Jk.nil (fun e he => lens e (List.mem_of_mem_take he)) hb1 (fun z => ⟨[z], rfl⟩) fun v1 j1 hj1 => ?_
      repeat' first|(apply Qk.nil;show Go _ _ _ _ _ _ _ _)|(apply Qk.op;exact rfl;(first|(rintro _ ⟨_, rfl⟩;exact rfl)|(rintro _ ⟨_, rfl⟩;exact aop_load rfl rfl rfl (Nat.le_of_ble_eq_true rfl) rfl)))|(apply Qk.no;exact rfl)|(apply Qk.wop;exact rfl;exact rfl;(first|exact yJ|exact yL rfl|exact aop_store rfl rfl rfl rfl rfl rfl (Nat.le_of_ble_eq_true rfl));exact ⟨_, rfl⟩)
      have hb2 : ((([] : List (List Ce)) ++ (st.map encV).take n).length + 1) * 32 ≤ 140737488355328 := by rw [List.nil_append, List.length_take, List.length_map]; omega
      refine Go.sapp1 (k := 2) (z := encV ap.1) rfl rfl rfl rfl rfl (fun e he => lens e (List.mem_of_mem_take he)) hj1 rfl hb2 fun v' junk' hj' => ?_
      repeat' first|refine yaG ?_|(exfalso;omega)|(refine yaS ?_ ?_<;>intro _)
      have e1 : [] ++ (st.map encV).take n ++ [encV ap.1] = (st.take n ++ [ap.1]).map encV := by simp
      rw [e1]
      refine Go.freezeN (l := [(0, [[.int .i64 0, .int .i64 0, .str []]])]) (m := [(0, [encV ap.1]), (v', (st.take n ++ [ap.1]).map encV ++ junk')])
        (fr' := [(0, .c (.fz (e.map encTok))), (1, .c (.fz (row.map encV))), (4, .c (.ptr (σ.next + 0) 0 0 0)), (6, .c (.fz ((st.take n ++ [ap.1]).map encV))), (7, .c (.int .i64 (IntKind.i64.wrap (k + 1))))])
        hS (fun b hb e he x hx => ?_) (Nat.le_refl _) (.frz rfl (.refl old_encTok) (.frz rfl (.refl old_encV) (.frz rfl (.refl (old_ptr (by simp))) (.frz rfl (frz_all (σ := σ) (l := [(0, [[.int .i64 0, .int .i64 0, .str []]]), (0, [encV ap.1]), (v', (st.take n ++ [ap.1]).map encV ++ junk')]) (k := 2) (v := v') (ys := st.take n ++ [ap.1]) (junk := junk') rfl (Nat.le_succ _)) (.frz rfl (.refl old_int) .nil))))) ?_
      · rw [List.mem_singleton.1 hb] at he
        exact (flats (l := [vNull]) e he x hx).old _
      refine hrec _ _ _ (by omega) ⟨i + 1, _, st.take n ++ [ap.1], rfl, hlt, wrap_succ hk (by omega), ⟨?_, (hst.take n).snoc hres, ?_, hev⟩, rfl, rfl⟩
      · simp only [List.length_append, List.length_take, List.length_singleton]; omega
      · have e2 : ((st.take n ++ [ap.1]).length : Int) = st.length + 1 - tokTakes e[i] := by
          simp only [List.length_append, List.length_singleton]
          omega
        rw [e2]
        exact haux
    intro hj
    rw [List.singleton_append]
    by_cases h1 : e[i].kind = 1
    · have htk0 : tokTakes e[i] = 0 := by rw [tokTakes, if_pos (.inl h1)]
      have hc2 := hcol h1
      have hcz : e[i].col = (e[i].col.toNat : Int) := by omega
      have hcl : e[i].col.toNat < row.length := by omega
      have hape : ap = (row[e[i].col.toNat], true) := by rw [← hap, applyF, if_pos h1, vAt, List.getElem?_eq_getElem hcl]; rfl
      rw [htk0] at hj
      repeat' first|apply Go.seq|apply Go.skip|apply Go.region|apply Go.nil|apply Go.block|apply Go.draw|apply Go.segs|(apply Go.exit;exact rfl)|(apply Go.cond true;exact rfl)|(apply Go.cond false;exact rfl)|apply yB|apply yC|((first|apply yG|apply yH|apply yI);exact rfl;(first|exact yJ|exact yK rfl rfl|exact yL rfl|exact yM rfl|exact rfl|exact aL rfl rfl rfl rfl rfl|exact aS rfl rfl rfl rfl rfl rfl rfl|exact yX (enc := encTok) rfl rfl hk hlt rfl|exact yX (enc := encV) rfl rfl hcz hcl rfl))|((first|apply yN|apply yO|apply yP);exact rfl)|(exfalso;omega)|(((first|apply yT|apply yU|apply yV|apply yW);exact rfl;(first|exact .d|exact .e|exact .n|((fail_if_success exact bqt);(fail_if_success exact bqf);exact .b)))<;>intro _)
      exact Go.keep [0, 1, 4, 6, 7, 8, 9, 10, 11] (hj _ _ ⟨row[e[i].col.toNat], true, by rw [hape], fun _ => by rw [hape], rfl, rfl⟩)
    by_cases h2 : e[i].kind = 2
    · have htk0 : tokTakes e[i] = 0 := by rw [tokTakes, if_pos (.inr h2)]
      have hape : ap = (e[i].v, true) := by rw [← hap, applyF, if_neg h1, if_pos h2]
      rw [htk0] at hj
      repeat' first|apply Go.seq|apply Go.skip|apply Go.region|apply Go.nil|apply Go.block|apply Go.draw|apply Go.segs|(apply Go.exit;exact rfl)|(apply Go.cond true;exact rfl)|(apply Go.cond false;exact rfl)|apply yB|apply yC|((first|apply yG|apply yH|apply yI);exact rfl;(first|exact yJ|exact yK rfl rfl|exact yL rfl|exact yM rfl|exact rfl|exact aL rfl rfl rfl rfl rfl|exact aS rfl rfl rfl rfl rfl rfl rfl|exact yX (enc := encTok) rfl rfl hk hlt rfl))|((first|apply yN|apply yO|apply yP);exact rfl)|(exfalso;omega)|(((first|apply yT|apply yU|apply yV|apply yW);exact rfl;(first|exact .d|exact .e|exact .n|((fail_if_success exact bqt);(fail_if_success exact bqf);exact .b)))<;>intro _)
      exact Go.keep [0, 1, 4, 6, 7, 8, 9, 10, 11] (hj _ _ ⟨e[i].v, true, by rw [hape], fun _ => by rw [hape], rfl, rfl⟩)
    have hn12 : ¬ (e[i].kind = 1 ∨ e[i].kind = 2) := by omega
    by_cases h8 : e[i].kind = 8
    · have htk0 : tokTakes e[i] = 1 := by rw [tokTakes, if_neg hn12, if_pos (.inr h8)]
      have hz1 : IntKind.i64.wrap ((st.length : Int) - 1) = ((st.length - 1 : Nat) : Int) := by rw [wrap64 (by omega) (by omega)]; omega
      have hl1 : st.length - 1 < st.length := by omega
      have hf : fromOf e[i] st = st.length - 1 := by rw [hft, htk0]; rfl
      have hyr := yes_range (st[st.length - 1].k == 0)
      have hape : ap = (asR (yes (st[st.length - 1].k == 0)), true) := by
        rw [← hap, hf, drop1 (by omega), ← asV_asR hyr.1]
        simp [applyF, h8, vAt]
      have hv : asR (yes (st[st.length - 1].k == 0)) = vInt (yes (st[st.length - 1].k == 0)) := by rw [asR, if_neg (by omega)]
      rw [htk0] at hj
      repeat' first|apply Go.seq|apply Go.skip|apply Go.region|apply Go.nil|apply Go.block|apply Go.draw|apply Go.segs|(apply Go.exit;exact rfl)|(apply Go.cond true;exact rfl)|(apply Go.cond false;exact rfl)|apply yB|apply yC|((first|apply yG|apply yH|apply yI);exact rfl;(first|exact yJ|exact yK rfl rfl|exact yL rfl|exact yM rfl|exact rfl|exact aL rfl rfl rfl rfl rfl|exact aS rfl rfl rfl rfl rfl rfl rfl|exact yX (enc := encTok) rfl rfl hk hlt rfl|exact yX (enc := encV) rfl rfl hz1 hl1 rfl))|((first|apply yN|apply yO|apply yP);exact rfl)|((first|apply yQ|apply yR|apply yS);(iterate 3 exact rfl);(first|exact l1Yes_ok _|exact l1Int_ok _))|(exfalso;omega)|(((first|apply yT|apply yU|apply yV|apply yW);exact rfl;(first|exact .d|exact .e|exact .n|((fail_if_success exact bqt);(fail_if_success exact bqf);exact .b)))<;>intro _)
      exact Go.keep [0, 1, 4, 6, 7, 8, 9, 10, 11] (hj _ _ ⟨vInt (yes (st[st.length - 1].k == 0)), true, by rw [hape], fun _ => by rw [hape, hv], rfl, rfl⟩)
    by_cases h7 : e[i].kind = 7
    · have htk0 : tokTakes e[i] = 1 := by rw [tokTakes, if_neg hn12, if_pos (.inl h7)]
      have hz1 : IntKind.i64.wrap ((st.length : Int) - 1) = ((st.length - 1 : Nat) : Int) := by rw [wrap64 (by omega) (by omega)]; omega
      have hl1 : st.length - 1 < st.length := by omega
      have hf : fromOf e[i] st = st.length - 1 := by rw [hft, htk0]; rfl
      have hape : ap = asV (not3 (truthV st[st.length - 1])) := by
        rw [← hap, hf, drop1 (by omega)]
        simp [applyF, h7, vAt]
      rw [htk0] at hj
      repeat' first|apply Go.seq|apply Go.skip|apply Go.region|apply Go.nil|apply Go.block|apply Go.draw|apply Go.segs|(apply Go.exit;exact rfl)|(apply Go.cond true;exact rfl)|(apply Go.cond false;exact rfl)|apply yB|apply yC|((first|apply yG|apply yH|apply yI);exact rfl;(first|exact yJ|exact yK rfl rfl|exact yL rfl|exact yM rfl|exact rfl|exact aL rfl rfl rfl rfl rfl|exact aS rfl rfl rfl rfl rfl rfl rfl|exact yX (enc := encTok) rfl rfl hk hlt rfl|exact yX (enc := encV) rfl rfl hz1 hl1 rfl))|((first|apply yN|apply yO|apply yP);exact rfl)|((first|apply yQ|apply yR|apply yS);(iterate 3 exact rfl);(first|exact l2Of_ok st[st.length - 1]|exact sNot3_ok _|exact l2As_ok _))|(exfalso;omega)|(((first|apply yT|apply yU|apply yV|apply yW);exact rfl;(first|exact .d|exact .e|exact .n|((fail_if_success exact bqt);(fail_if_success exact bqf);exact .b)))<;>intro _)
      refine Go.keep [0, 1, 4, 6, 7, 8, 9, 10, 11] (hj _ _ ⟨asR (not3 (ofT st[st.length - 1])), ofB st[st.length - 1], ?_, ?_, rfl, rfl⟩)
      · rw [hape]
        cases hb : ofB st[st.length - 1]
        · rw [ofB_not hb]; rfl
        · obtain ⟨q1, q2⟩ := ofB_truth hb
          rw [q1, asV_asR]
          rw [not3, tru_range.2 q2, if_pos rfl]
          split <;> omega
      · intro hb
        obtain ⟨q1, q2⟩ := ofB_truth hb
        rw [hape, q1, asV_asR]
        rw [not3, tru_range.2 q2, if_pos rfl]
        split <;> omega
    have htk0 : tokTakes e[i] = 2 := by rw [tokTakes, if_neg hn12, if_neg (by omega)]
    have hz1 : IntKind.i64.wrap ((st.length : Int) - 1) = ((st.length - 1 : Nat) : Int) := by rw [wrap64 (by omega) (by omega)]; omega
    have hz2 : IntKind.i64.wrap ((st.length : Int) - 2) = ((st.length - 2 : Nat) : Int) := by rw [wrap64 (by omega) (by omega)]; omega
    have hl1 : st.length - 1 < st.length := by omega
    have hl2 : st.length - 2 < st.length := by omega
    have hf : fromOf e[i] st = st.length - 2 := by rw [hft, htk0]; rfl
    obtain ⟨hw1, hw2⟩ := twoR_eq e[i] st[st.length - 2] st[st.length - 1] row (by omega)
    have hap2 : applyF e[i] [st[st.length - 2], st[st.length - 1]] row = ap := by rw [← hap, hf, drop2 (by omega)]
    rw [hap2] at hw1 hw2
    have ctwo := l2Two_ok e[i].kind st[st.length - 2] st[st.length - 1] (hst _ (List.getElem_mem _)) (hst _ (List.getElem_mem _))
    generalize twoR e[i].kind st[st.length - 2] st[st.length - 1] = tw at ctwo hw1 hw2
    rw [htk0] at hj
    repeat' first|apply Go.seq|apply Go.skip|apply Go.region|apply Go.nil|apply Go.block|apply Go.segs|(apply Go.exit;exact rfl)|(apply Go.cond true;exact rfl)|(apply Go.cond false;exact rfl)|apply yB|apply yC|((first|apply yG|apply yH|apply yI);exact rfl;(first|exact yJ|exact yK rfl rfl|exact yL rfl|exact yM rfl|exact rfl|exact aL rfl rfl rfl rfl rfl|exact aS rfl rfl rfl rfl rfl rfl rfl|exact yX (enc := encTok) rfl rfl hk hlt rfl))|((first|apply yN|apply yO|apply yP);exact rfl)|(exfalso;omega)|(((first|apply yT|apply yU|apply yV|apply yW);exact rfl;(first|exact .d|exact .e|exact .n|((fail_if_success exact bqt);(fail_if_success exact bqf);exact .b)))<;>intro _)
    apply Go.draw
    apply Go.qs
    repeat' first|(apply yA;exact rfl)|apply yC|((first|apply yD|apply yE);(first|exact yF|assumption);iterate 6 exact rfl)|((first|apply yG|apply yH|apply yI);exact rfl;(first|exact yJ|exact yK rfl rfl|exact yL rfl|exact yM rfl|exact rfl|exact aL rfl rfl rfl rfl rfl|exact aS rfl rfl rfl rfl rfl rfl rfl|exact yX (enc := encTok) rfl rfl hk hlt rfl|exact yX (enc := encV) rfl rfl hz2 hl2 rfl|exact yX (enc := encV) rfl rfl hz1 hl1 rfl|exact aop_load rfl rfl rfl (Nat.le_of_ble_eq_true rfl) rfl))|((first|apply yN|apply yO|apply yP);exact rfl)|((first|apply yQ|apply yR|apply yS);(iterate 3 exact rfl);exact ctwo)|(exfalso;omega)|(((first|apply yT|apply yU|apply yV|apply yW);exact rfl;(first|exact .d|exact .e|exact .n|((fail_if_success exact bqt);(fail_if_success exact bqf);exact .b)))<;>intro _)
    refine Go.qkm [(0, [[.int .i64 0, .int .i64 0, .str []]])] [(0, [encV vNull])] ?_
    repeat' first|(apply Qk.nil;show Go _ _ _ _ _ _ _ _)|(apply Qk.op;exact rfl;(first|(rintro _ ⟨_, rfl⟩;exact rfl)|(rintro _ ⟨_, rfl⟩;exact aop_load rfl rfl rfl (Nat.le_of_ble_eq_true rfl) rfl)))|(apply Qk.no;exact rfl)|(apply Qk.wop;exact rfl;exact rfl;(first|exact yJ|exact yL rfl|exact aop_store rfl rfl rfl rfl rfl rfl (Nat.le_of_ble_eq_true rfl));exact ⟨_, rfl⟩)
    repeat' first|apply Go.seq|apply Go.skip|apply Go.region|apply Go.nil|apply Go.block|apply Go.draw|apply Go.segs|(apply Go.exit;exact rfl)|(apply Go.cond true;exact rfl)|(apply Go.cond false;exact rfl)|apply yB|apply yC|((first|apply yG|apply yH|apply yI);exact rfl;(first|exact yJ|exact yK rfl rfl|exact yL rfl|exact yM rfl|exact rfl|exact aL rfl rfl rfl rfl rfl|exact aS rfl rfl rfl rfl rfl rfl rfl))|((first|apply yN|apply yO|apply yP);exact rfl)|(exfalso;omega)|(((first|apply yT|apply yU|apply yV|apply yW);exact rfl;(first|exact .d|exact .e|exact .n|((fail_if_success exact bqt);(fail_if_success exact bqf);exact .b)))<;>intro _)
    exact Go.keep [0, 1, 4, 6, 7, 8, 9, 10, 11] (hj _ _ ⟨tw.1, tw.2, hw1, fun h => by rw [hw2 (by rw [← hw1]; exact h)], rfl, rfl⟩)
  · have hd : e.drop i = [] := List.drop_eq_nil_of_le (by omega)
    rw [hd] at haux hev
    simp only [exprAux, beq_iff_eq] at haux
    obtain ⟨w, rfl⟩ : ∃ w, st = [w] := List.length_eq_one_iff.1 (by omega)
    have hR : evalR e row = (w, true) := by rw [evalR, hev]; rfl
    rw [hR]
    repeat' first|refine yaG ?_|(exfalso;omega)|(refine yaS ?_ ?_<;>intro _)
    exact .ret (retv_mt rfl rfl rfl (Nat.zero_le _) rfl rfl) (fin_vb w _)
theorem l2Truth_ok (e : List Tok) (row : List Val) (hv : areVals row 16 = true) (he : exprF e row.length = true) : Pure Tryz.prog 255 [.c (.fz (e.map encTok)), .c (.fz (row.map encV))] (.c (.int .i64 (truthR e row))) := by
  refine Pure.run mixed c_spec_l2Truth_ok (Nat.le_of_ble_eq_true rfl) fun σ hS hA => ?_
  clear hS hA
  obtain ⟨hok, hrl⟩ := areVals_oks hv
  obtain ⟨hel, hea⟩ := exprF_aux he
  have c1 := l2Eval_ok e row (by omega) (by omega) hok hea
  have c2 := l2Of_ok (evalR e row).1
  rw [truthR]
  generalize evalR e row = q at c1 c2 ⊢
  obtain ⟨v, b⟩ := q
  simp only at c1 c2 ⊢
  cases hb : ofB v
  · rw [hb] at c2
    have h1 := ofB_not hb
    cases b
    · repeat' first|refine yaG ?_|refine yaC (c1) ?_|refine yaC (c2) ?_|(exfalso;omega)|(refine yaS ?_ ?_<;>intro _)
      exact .ret rfl (.int rfl)
    · repeat' first|refine yaG ?_|refine yaC (c1) ?_|refine yaC (c2) ?_|(exfalso;omega)|(refine yaS ?_ ?_<;>intro _)
      exact .ret rfl (.int (by rw [if_pos rfl, h1]))
  · rw [hb] at c2
    have h1 := (ofB_truth hb).1
    cases b
    · repeat' first|refine yaG ?_|refine yaC (c1) ?_|refine yaC (c2) ?_|(exfalso;omega)|(refine yaS ?_ ?_<;>intro _)
      exact .ret rfl (.int rfl)
    · repeat' first|refine yaG ?_|refine yaC (c1) ?_|refine yaC (c2) ?_|(exfalso;omega)|(refine yaS ?_ ?_<;>intro _)
      exact .ret rfl (.int (by rw [if_pos rfl, h1]))
end Go.Proofs.YtdgnfdljkghpjaaGreat.Am

/- The reader that draws: values, expressions, conditions, rows. -/
set_option linter.unusedVariables false
set_option linter.unusedSimpArgs false
namespace Go.Proofs.YtdgnfdljkghpjaaGreat.Am

theorem finR_v {σ : Store} {id v : Nat} {code : List UInt8} {q : Nat} {l : List (Nat × List (List Ce))} (hq : q ≤ code.length) (w : Val) (hw : w.s.length ≤ 12) : FinR σ id v code AnyV (.agg (encV w)) (E (Rd.go σ id v code q) l) := .c hq ⟨w, hw, rfl⟩ (old_v w)
theorem below_lt {n : Int} (h : 1 < n) {r : AV} (hr : BelowR n r) : ∃ k : Nat, (k : Int) < n ∧ r = .c (.int .i64 (k : Int)) := by
  obtain ⟨k, h0, h1, rfl⟩ := hr
  exact ⟨k.toNat, by omega, by rw [Int.toNat_of_nonneg h0]⟩
theorem val_ok : Draws Tryz.prog 48 [] AnyV := by
  refine Draws.run mixed c_spec_l1Rd_val_ok (Nat.le_of_ble_eq_true rfl) fun σ id v code p hr hp hc hS => ?_
  clear hS
  repeat' first|refine yaG ?_|(exfalso;omega)|(refine yaS ?_ ?_<;>intro _)
  refine Go.drawn hr hp rfl rfl rfl (below_ok 12 (by decide) (by decide)) ?_
  intro r q hq hz
  obtain ⟨k, hk, rfl⟩ := below_lt (by decide) hz
  have hcase : k = 0 ∨ k = 1 ∨ k = 2 ∨ k = 3 ∨ k = 4 ∨ 5 ≤ k := by omega
  rcases hcase with rfl | rfl | rfl | rfl | rfl | h5
  · repeat' first|refine yaG ?_|(exfalso;omega)|(refine yaS ?_ ?_<;>intro _)
    exact .ret (retv_m rfl rfl rfl (Nat.zero_le _) rfl) (finR_v hq vNull (by decide))
  · repeat' first|refine yaG ?_|(exfalso;omega)|(refine yaS ?_ ?_<;>intro _)
    exact .ret (retv_m rfl rfl rfl (Nat.zero_le _) rfl) (finR_v hq vNull (by decide))
  all_goals repeat' first|refine yaG ?_|(exfalso;omega)|(refine yaS ?_ ?_<;>intro _)
  · refine Go.drawn hr hq rfl rfl rfl (below_ok 6 (by decide) (by decide)) ?_
    intro r q2 hq2 hz
    obtain ⟨m, hm, rfl⟩ := below_lt (by decide) hz
    have hm6 : m = 0 ∨ m = 1 ∨ m = 2 ∨ m = 3 ∨ m = 4 ∨ m = 5 := by omega
    rcases hm6 with rfl | rfl | rfl | rfl | rfl | rfl
    all_goals repeat' first|refine yaG ?_|((first|apply yQ|apply yR|apply yS);(iterate 3 exact rfl);exact l1Str_ok _)|(exfalso;omega)|(refine yaS ?_ ?_<;>intro _)
    all_goals exact .ret (retv_m rfl rfl rfl (Nat.zero_le _) rfl) (finR_v hq2 ⟨2, 0, _⟩ (by decide))
  · refine Go.drawn hr hq rfl rfl rfl (below_ok 6 (by decide) (by decide)) ?_
    intro r q2 hq2 hz
    obtain ⟨m, hm, rfl⟩ := below_lt (by decide) hz
    have hm6 : m = 0 ∨ m = 1 ∨ m = 2 ∨ m = 3 ∨ m = 4 ∨ m = 5 := by omega
    rcases hm6 with rfl | rfl | rfl | rfl | rfl | rfl
    all_goals repeat' first|refine yaG ?_|((first|apply yQ|apply yR|apply yS);(iterate 3 exact rfl);exact l1Str_ok _)|(exfalso;omega)|(refine yaS ?_ ?_<;>intro _)
    all_goals exact .ret (retv_m rfl rfl rfl (Nat.zero_le _) rfl) (finR_v hq2 ⟨2, 0, _⟩ (by decide))
  · refine Go.drawn hr hq rfl rfl rfl (below_ok 4 (by decide) (by decide)) ?_
    intro r q2 hq2 hz
    obtain ⟨m, hm, rfl⟩ := below_lt (by decide) hz
    have hm4 : m = 0 ∨ m = 1 ∨ m = 2 ∨ m = 3 := by omega
    rcases hm4 with rfl | rfl | rfl | rfl
    all_goals repeat' first|refine yaG ?_|((first|apply yQ|apply yR|apply yS);(iterate 3 exact rfl);exact l1Int_ok _)|(exfalso;omega)|(refine yaS ?_ ?_<;>intro _)
    all_goals exact .ret (retv_m rfl rfl rfl (Nat.zero_le _) rfl) (finR_v hq2 (vInt _) (by decide))
  · refine Go.drawn hr hq rfl rfl rfl (below_ok 5 (by decide) (by decide)) ?_
    intro r q2 hq2 hz
    obtain ⟨m, hm, rfl⟩ := below_lt (by decide) hz
    repeat' first|refine yaG ?_|((first|apply yQ|apply yR|apply yS);(iterate 3 exact rfl);exact l1Int_ok _)|(exfalso;omega)|(refine yaS ?_ ?_<;>intro _)
    exact .ret (retv_m rfl rfl rfl (Nat.zero_le _) rfl) (finR_v hq2 (vInt _) (by simp [vInt]))
/-! ### expressions -/
end Go.Proofs.YtdgnfdljkghpjaaGreat.Am

/- The laws' helpers on types, printed by a program: Set, Row, Stmt. -/
set_option linter.unusedVariables false
set_option linter.unusedSimpArgs false
namespace Go.Proofs.YtdgnfdljkghpjaaGreat.Am
structure RowD where
  id : Int
  vals : List Val
  deriving DecidableEq
def encRowD (a : RowD) : List Ce := [.int .i64 a.id, .fz (a.vals.map encV)]
def bRowD (N : Nat) (a : RowD) : Prop := (a.vals.length ≤ N ∧ ∀ x ∈ a.vals, bV N x)
end Go.Proofs.YtdgnfdljkghpjaaGreat.Am

/- The reader that draws: expressions frozen, conditions, rows. -/
set_option linter.unusedVariables false
set_option linter.unusedSimpArgs false
namespace Go.Proofs.YtdgnfdljkghpjaaGreat.Am

theorem Rd.old {σ : Store} {id v : Nat} {code : List UInt8} {p q : Nat} (hr : Rd σ id v code p) (hS : OldS σ) : OldS (Rd.go σ id v code q) := by
  intro a y hy
  by_cases e : a = id
  · subst e
    rw [show (Rd.go σ a v code q).get a = some (v, rdB code q) from if_pos rfl] at hy
    injection hy with hy
    subst hy
    refine ⟨hr.2.1, fun i j hi hj => ?_⟩
    have hold := (hS a _ hr.1).2
    have hi0 : i = 0 := by simp [rdB] at hi; omega
    subst hi0
    have hj2 : j = 0 ∨ j = 1 := by simp [rdB] at hj; omega
    rcases hj2 with rfl | rfl
    · exact hold 0 0 (by simp [rdB]) (by simp [rdB])
    · exact .int _ _
  · rw [show (Rd.go σ id v code q).get a = σ.get a from if_neg e] at hy
    exact hS a y hy
theorem flatTs {l : List Tok} : ∀ e ∈ l.map encTok, ∀ x ∈ e, Flat x := fun e he x hx => by
  obtain ⟨a, _, rfl⟩ := List.mem_map.1 he
  exact flatTok a x hx
/-! ### a table's row -/
/-- An owned slice of values, alone. -/
def OwnVs (σ : Store) (id v : Nat) (code : List UInt8) (N : Nat) (r : AV) (τ : Store) : Prop := ∃ (q : Nat) (vs : List Val) (u : Nat) (junk : List (List Ce)), q ≤ code.length ∧ vs.length = N ∧ (∀ w ∈ vs, bV 12 w) ∧ Jk 3 junk ∧ r = .c (vec (σ.next + 0) u (vs.map encV) junk) ∧ τ = E (Rd.go σ id v code q) [(u, vs.map encV ++ junk)]
theorem fit_own (t : Table) (hN : t.cols.length ≤ 60) (σ : Store) (id v : Nat) (code : List UInt8) (p : Nat) (hr : Rd σ id v code p) : Ok Tryz.prog 138 [.c (.ptr id v 0 0), .agg (encTable t)] σ (OwnVs σ id v code t.cols.length) := by
  refine Ok.run mixed c_spec_l1Rd_fit_ok (Nat.le_of_ble_eq_true rfl) fun hS hA => ?_
  have hp := hr.2.2.1
  have hT : ∀ n, σ.next ≤ n → ∀ y ∈ (AV.c (.fp (encTable t))).all, Old n y := fun n hn y hy => by
    simp only [AV.all, List.mem_singleton] at hy
    subst hy
    exact .fp _ fun j hj => (hA _ (by simp) _ (List.getElem_mem (l := (AV.agg (encTable t)).all) (n := j) hj)).mono hn
  clear hA
  rw [show E σ [] = E (Rd.go σ id v code p) [] by rw [hr.same]]
  repeat' first|refine yaG ?_|(exfalso;omega)|(refine yaS ?_ ?_<;>intro _)
  refine Go.keep [0, 3, 5, 6] (Go.loops (I := fun m fr τ => ∃ (i : Nat) (k : Int) (q u : Nat) (vs : List Val) (junk : List (List Ce)), m = t.cols.length - i ∧ i ≤ t.cols.length ∧ k = i ∧ q ≤ code.length ∧ Jk 3 junk ∧ (vs.length = i ∧ ∀ w ∈ vs, bV 12 w) ∧
    fr = [(0, .c (.ptr id v 0 0)), (3, .c (.fp (encTable t))), (5, .c (vec (σ.next + 0) u (vs.map encV) junk)), (6, .c (.int .i64 k))] ∧ τ = E (Rd.go σ id v code q) [(u, vs.map encV ++ junk)]) ?_ _ _ _ ⟨0, _, p, 0, [], [], rfl, Nat.zero_le _, rfl, hp, Jk.nil, ⟨rfl, fun w hw => by simp at hw⟩, rfl, rfl⟩)
  rintro m fr τ ⟨i, k, q, u, vs, junk, rfl, hi, hk, hq, hj, ⟨hl, hb⟩, rfl, rfl⟩ hrec
  by_cases hlt : i < t.cols.length
  · have fin := fun (w : Val) (q u' : Nat) (junk' : List (List Ce)) (hw : bV 12 w) (hq : q ≤ code.length) (hj' : Jk 3 junk') fr' σ' hfr hσ => hrec _ fr' σ' (by omega) ⟨i + 1, IntKind.i64.wrap (k + 1), q, u', vs ++ [w], junk', rfl, hlt, wrap_succ hk (by omega), hq, hj', ⟨by rw [List.length_append, List.length_singleton, hl], fun x hx => by
      rcases List.mem_append.1 hx with hx | hx
      · exact hb x hx
      · rw [List.mem_singleton.1 hx]; exact hw⟩, hfr, hσ⟩
    clear hrec
    have hbd : ((vs.map encV).length + 1) * 32 ≤ 140737488355328 := by rw [List.length_map]; omega
    have keepF : ∀ (n u' : Nat) (junk' : List (List Ce)) {w : Val}, Jk 3 junk' → ∀ b ∈ [(u', vs.map encV ++ [encV w] ++ junk')], ∀ e ∈ b.2, ∀ x ∈ e, Old n x := fun n u' junk' w hj' b hb2 e he x hx => by
      rw [List.mem_singleton.1 hb2] at he
      rcases List.mem_append.1 he with he | he
      · rcases List.mem_append.1 he with he | he
        · exact (flats e he x hx).old _
        · rw [List.mem_singleton.1 he] at hx; exact (encV_flat w x hx).old _
      · exact ((hj' e he).2 x hx).old _
    repeat' first|refine yaG ?_|(exfalso;omega)|(refine yaS ?_ ?_<;>intro _)
    refine Go.drawn hr hq rfl rfl rfl (below_ok 5 (by decide) (by decide)) ?_
    rintro _ q1 hq1 ⟨a, ha0, ha1, rfl⟩
    repeat' first|refine yaN ?_|((first|apply yG|apply yH|apply yI);exact rfl;(first|exact yX (enc := encCol) rfl rfl hk hlt rfl))|((first|apply yQ|apply yR|apply yS);(iterate 3 exact rfl);exact l1Int_ok _)|(exfalso;omega)|(refine yaS ?_ ?_<;>intro _)
    -- paths
    · refine Go.drawn hr hq1 rfl rfl rfl (below_ok 3 (by decide) (by decide)) ?_
      intro r q2 hq2 hz
      obtain ⟨m, hm, rfl⟩ := below_lt (by decide) hz
      have hm3 : m = 0 ∨ m = 1 ∨ m = 2 := by omega
      rcases hm3 with rfl | rfl | rfl
      · repeat' first|refine yaG ?_|((first|apply yQ|apply yR|apply yS);(iterate 3 exact rfl);exact l1Str_ok _)|(exfalso;omega)|(refine yaS ?_ ?_<;>intro _)
        refine Go.drawn hr hq2 rfl rfl rfl (once_ok 8 (by decide) (by decide)) ?_
        rintro _ q4 hq4 ⟨b5, rfl⟩
        cases b5
        · repeat' first|refine yaG ?_|(exfalso;omega)|(refine yaS ?_ ?_<;>intro _)
          refine Go.drawn hr hq4 rfl rfl rfl (once_ok 60 (by decide) (by decide)) ?_
          rintro _ q5 hq5 ⟨b6, rfl⟩
          cases b6
          · repeat' first|refine yaG ?_|(exfalso;omega)|(refine yaS ?_ ?_<;>intro _)
            refine Go.app1 (k := 0) (ys := vs.map encV) (junk := junk) (z := encV (⟨2, 0, []⟩ : Val)) rfl rfl rfl rfl rfl lens hj rfl hbd fun u' junk' hj' => ?_
            repeat' first|refine yaG ?_|(exfalso;omega)|(refine yaS ?_ ?_<;>intro _)
            refine Go.freezeN (l := [(u', vs.map encV ++ [encV (⟨2, 0, []⟩ : Val)] ++ junk')]) (m := [(0, [encV (⟨2, 0, []⟩ : Val)])]) (fr' := [(0, .c (.ptr id v 0 0)), (3, .c (.fp (encTable t))), (5, .c (vec (σ.next + 0) u' ((vs ++ [(⟨2, 0, []⟩ : Val)]).map encV) junk')), (6, .c (.int .i64 (IntKind.i64.wrap (k + 1))))]) (hr.old hS) (keepF _ _ _ hj') (Nat.le_refl _) (.frz rfl (.refl (old_ptr (Nat.lt_succ_of_lt hr.2.1))) (.frz rfl (.refl (hT _ (Nat.le_succ _))) (.frz (by rw [List.map_append]; rfl) (.refl (old_sl (Nat.lt_succ_self _))) (.frz rfl (.refl old_c) .nil)))) ?_
            exact fin (⟨2, 0, []⟩ : Val) q5 u' junk' (by simp [bV, vNull, vInt] <;> omega) hq5 hj' _ _ rfl (by rw [List.map_append]; rfl)
          · repeat' first|refine yaG ?_|(exfalso;omega)|(refine yaS ?_ ?_<;>intro _)
            refine Go.drawn hr hq5 rfl rfl rfl val_ok ?_
            rintro _ q6 hq6 ⟨w, hw, rfl⟩
            repeat' first|refine yaG ?_|(exfalso;omega)|(refine yaS ?_ ?_<;>intro _)
            refine Go.app1 (k := 0) (ys := vs.map encV) (junk := junk) (z := encV w) rfl rfl rfl rfl rfl lens hj rfl hbd fun u' junk' hj' => ?_
            repeat' first|refine yaG ?_|(exfalso;omega)|(refine yaS ?_ ?_<;>intro _)
            refine Go.freezeN (l := [(u', vs.map encV ++ [encV w] ++ junk')]) (m := [(0, [encV w])]) (fr' := [(0, .c (.ptr id v 0 0)), (3, .c (.fp (encTable t))), (5, .c (vec (σ.next + 0) u' ((vs ++ [w]).map encV) junk')), (6, .c (.int .i64 (IntKind.i64.wrap (k + 1))))]) (hr.old hS) (keepF _ _ _ hj') (Nat.le_refl _) (.frz rfl (.refl (old_ptr (Nat.lt_succ_of_lt hr.2.1))) (.frz rfl (.refl (hT _ (Nat.le_succ _))) (.frz (by rw [List.map_append]; rfl) (.refl (old_sl (Nat.lt_succ_self _))) (.frz rfl (.refl old_c) .nil)))) ?_
            exact fin w q6 u' junk' (by simp [bV, vNull, vInt] <;> omega) hq6 hj' _ _ rfl (by rw [List.map_append]; rfl)
        · repeat' first|refine yaG ?_|(exfalso;omega)|(refine yaS ?_ ?_<;>intro _)
          refine Go.drawn hr hq4 rfl rfl rfl (once_ok 60 (by decide) (by decide)) ?_
          rintro _ q5 hq5 ⟨b6, rfl⟩
          cases b6
          · repeat' first|refine yaG ?_|(exfalso;omega)|(refine yaS ?_ ?_<;>intro _)
            refine Go.app1 (k := 0) (ys := vs.map encV) (junk := junk) (z := encV vNull) rfl rfl rfl rfl rfl lens hj rfl hbd fun u' junk' hj' => ?_
            repeat' first|refine yaG ?_|(exfalso;omega)|(refine yaS ?_ ?_<;>intro _)
            refine Go.freezeN (l := [(u', vs.map encV ++ [encV vNull] ++ junk')]) (m := [(0, [encV vNull])]) (fr' := [(0, .c (.ptr id v 0 0)), (3, .c (.fp (encTable t))), (5, .c (vec (σ.next + 0) u' ((vs ++ [vNull]).map encV) junk')), (6, .c (.int .i64 (IntKind.i64.wrap (k + 1))))]) (hr.old hS) (keepF _ _ _ hj') (Nat.le_refl _) (.frz rfl (.refl (old_ptr (Nat.lt_succ_of_lt hr.2.1))) (.frz rfl (.refl (hT _ (Nat.le_succ _))) (.frz (by rw [List.map_append]; rfl) (.refl (old_sl (Nat.lt_succ_self _))) (.frz rfl (.refl old_c) .nil)))) ?_
            exact fin vNull q5 u' junk' (by simp [bV, vNull, vInt] <;> omega) hq5 hj' _ _ rfl (by rw [List.map_append]; rfl)
          · repeat' first|refine yaG ?_|(exfalso;omega)|(refine yaS ?_ ?_<;>intro _)
            refine Go.drawn hr hq5 rfl rfl rfl val_ok ?_
            rintro _ q6 hq6 ⟨w, hw, rfl⟩
            repeat' first|refine yaG ?_|(exfalso;omega)|(refine yaS ?_ ?_<;>intro _)
            refine Go.app1 (k := 0) (ys := vs.map encV) (junk := junk) (z := encV w) rfl rfl rfl rfl rfl lens hj rfl hbd fun u' junk' hj' => ?_
            repeat' first|refine yaG ?_|(exfalso;omega)|(refine yaS ?_ ?_<;>intro _)
            refine Go.freezeN (l := [(u', vs.map encV ++ [encV w] ++ junk')]) (m := [(0, [encV w])]) (fr' := [(0, .c (.ptr id v 0 0)), (3, .c (.fp (encTable t))), (5, .c (vec (σ.next + 0) u' ((vs ++ [w]).map encV) junk')), (6, .c (.int .i64 (IntKind.i64.wrap (k + 1))))]) (hr.old hS) (keepF _ _ _ hj') (Nat.le_refl _) (.frz rfl (.refl (old_ptr (Nat.lt_succ_of_lt hr.2.1))) (.frz rfl (.refl (hT _ (Nat.le_succ _))) (.frz (by rw [List.map_append]; rfl) (.refl (old_sl (Nat.lt_succ_self _))) (.frz rfl (.refl old_c) .nil)))) ?_
            exact fin w q6 u' junk' (by simp [bV, vNull, vInt] <;> omega) hq6 hj' _ _ rfl (by rw [List.map_append]; rfl)
      · repeat' first|refine yaG ?_|((first|apply yQ|apply yR|apply yS);(iterate 3 exact rfl);exact l1Str_ok _)|(exfalso;omega)|(refine yaS ?_ ?_<;>intro _)
        refine Go.drawn hr hq2 rfl rfl rfl (once_ok 8 (by decide) (by decide)) ?_
        rintro _ q4 hq4 ⟨b5, rfl⟩
        cases b5
        · repeat' first|refine yaG ?_|(exfalso;omega)|(refine yaS ?_ ?_<;>intro _)
          refine Go.drawn hr hq4 rfl rfl rfl (once_ok 60 (by decide) (by decide)) ?_
          rintro _ q5 hq5 ⟨b6, rfl⟩
          cases b6
          · repeat' first|refine yaG ?_|(exfalso;omega)|(refine yaS ?_ ?_<;>intro _)
            refine Go.app1 (k := 0) (ys := vs.map encV) (junk := junk) (z := encV (⟨2, 0, [97]⟩ : Val)) rfl rfl rfl rfl rfl lens hj rfl hbd fun u' junk' hj' => ?_
            repeat' first|refine yaG ?_|(exfalso;omega)|(refine yaS ?_ ?_<;>intro _)
            refine Go.freezeN (l := [(u', vs.map encV ++ [encV (⟨2, 0, [97]⟩ : Val)] ++ junk')]) (m := [(0, [encV (⟨2, 0, [97]⟩ : Val)])]) (fr' := [(0, .c (.ptr id v 0 0)), (3, .c (.fp (encTable t))), (5, .c (vec (σ.next + 0) u' ((vs ++ [(⟨2, 0, [97]⟩ : Val)]).map encV) junk')), (6, .c (.int .i64 (IntKind.i64.wrap (k + 1))))]) (hr.old hS) (keepF _ _ _ hj') (Nat.le_refl _) (.frz rfl (.refl (old_ptr (Nat.lt_succ_of_lt hr.2.1))) (.frz rfl (.refl (hT _ (Nat.le_succ _))) (.frz (by rw [List.map_append]; rfl) (.refl (old_sl (Nat.lt_succ_self _))) (.frz rfl (.refl old_c) .nil)))) ?_
            exact fin (⟨2, 0, [97]⟩ : Val) q5 u' junk' (by simp [bV, vNull, vInt] <;> omega) hq5 hj' _ _ rfl (by rw [List.map_append]; rfl)
          · repeat' first|refine yaG ?_|(exfalso;omega)|(refine yaS ?_ ?_<;>intro _)
            refine Go.drawn hr hq5 rfl rfl rfl val_ok ?_
            rintro _ q6 hq6 ⟨w, hw, rfl⟩
            repeat' first|refine yaG ?_|(exfalso;omega)|(refine yaS ?_ ?_<;>intro _)
            refine Go.app1 (k := 0) (ys := vs.map encV) (junk := junk) (z := encV w) rfl rfl rfl rfl rfl lens hj rfl hbd fun u' junk' hj' => ?_
            repeat' first|refine yaG ?_|(exfalso;omega)|(refine yaS ?_ ?_<;>intro _)
            refine Go.freezeN (l := [(u', vs.map encV ++ [encV w] ++ junk')]) (m := [(0, [encV w])]) (fr' := [(0, .c (.ptr id v 0 0)), (3, .c (.fp (encTable t))), (5, .c (vec (σ.next + 0) u' ((vs ++ [w]).map encV) junk')), (6, .c (.int .i64 (IntKind.i64.wrap (k + 1))))]) (hr.old hS) (keepF _ _ _ hj') (Nat.le_refl _) (.frz rfl (.refl (old_ptr (Nat.lt_succ_of_lt hr.2.1))) (.frz rfl (.refl (hT _ (Nat.le_succ _))) (.frz (by rw [List.map_append]; rfl) (.refl (old_sl (Nat.lt_succ_self _))) (.frz rfl (.refl old_c) .nil)))) ?_
            exact fin w q6 u' junk' (by simp [bV, vNull, vInt] <;> omega) hq6 hj' _ _ rfl (by rw [List.map_append]; rfl)
        · repeat' first|refine yaG ?_|(exfalso;omega)|(refine yaS ?_ ?_<;>intro _)
          refine Go.drawn hr hq4 rfl rfl rfl (once_ok 60 (by decide) (by decide)) ?_
          rintro _ q5 hq5 ⟨b6, rfl⟩
          cases b6
          · repeat' first|refine yaG ?_|(exfalso;omega)|(refine yaS ?_ ?_<;>intro _)
            refine Go.app1 (k := 0) (ys := vs.map encV) (junk := junk) (z := encV vNull) rfl rfl rfl rfl rfl lens hj rfl hbd fun u' junk' hj' => ?_
            repeat' first|refine yaG ?_|(exfalso;omega)|(refine yaS ?_ ?_<;>intro _)
            refine Go.freezeN (l := [(u', vs.map encV ++ [encV vNull] ++ junk')]) (m := [(0, [encV vNull])]) (fr' := [(0, .c (.ptr id v 0 0)), (3, .c (.fp (encTable t))), (5, .c (vec (σ.next + 0) u' ((vs ++ [vNull]).map encV) junk')), (6, .c (.int .i64 (IntKind.i64.wrap (k + 1))))]) (hr.old hS) (keepF _ _ _ hj') (Nat.le_refl _) (.frz rfl (.refl (old_ptr (Nat.lt_succ_of_lt hr.2.1))) (.frz rfl (.refl (hT _ (Nat.le_succ _))) (.frz (by rw [List.map_append]; rfl) (.refl (old_sl (Nat.lt_succ_self _))) (.frz rfl (.refl old_c) .nil)))) ?_
            exact fin vNull q5 u' junk' (by simp [bV, vNull, vInt] <;> omega) hq5 hj' _ _ rfl (by rw [List.map_append]; rfl)
          · repeat' first|refine yaG ?_|(exfalso;omega)|(refine yaS ?_ ?_<;>intro _)
            refine Go.drawn hr hq5 rfl rfl rfl val_ok ?_
            rintro _ q6 hq6 ⟨w, hw, rfl⟩
            repeat' first|refine yaG ?_|(exfalso;omega)|(refine yaS ?_ ?_<;>intro _)
            refine Go.app1 (k := 0) (ys := vs.map encV) (junk := junk) (z := encV w) rfl rfl rfl rfl rfl lens hj rfl hbd fun u' junk' hj' => ?_
            repeat' first|refine yaG ?_|(exfalso;omega)|(refine yaS ?_ ?_<;>intro _)
            refine Go.freezeN (l := [(u', vs.map encV ++ [encV w] ++ junk')]) (m := [(0, [encV w])]) (fr' := [(0, .c (.ptr id v 0 0)), (3, .c (.fp (encTable t))), (5, .c (vec (σ.next + 0) u' ((vs ++ [w]).map encV) junk')), (6, .c (.int .i64 (IntKind.i64.wrap (k + 1))))]) (hr.old hS) (keepF _ _ _ hj') (Nat.le_refl _) (.frz rfl (.refl (old_ptr (Nat.lt_succ_of_lt hr.2.1))) (.frz rfl (.refl (hT _ (Nat.le_succ _))) (.frz (by rw [List.map_append]; rfl) (.refl (old_sl (Nat.lt_succ_self _))) (.frz rfl (.refl old_c) .nil)))) ?_
            exact fin w q6 u' junk' (by simp [bV, vNull, vInt] <;> omega) hq6 hj' _ _ rfl (by rw [List.map_append]; rfl)
      · repeat' first|refine yaG ?_|((first|apply yQ|apply yR|apply yS);(iterate 3 exact rfl);exact l1Str_ok _)|(exfalso;omega)|(refine yaS ?_ ?_<;>intro _)
        refine Go.drawn hr hq2 rfl rfl rfl (once_ok 8 (by decide) (by decide)) ?_
        rintro _ q4 hq4 ⟨b5, rfl⟩
        cases b5
        · repeat' first|refine yaG ?_|(exfalso;omega)|(refine yaS ?_ ?_<;>intro _)
          refine Go.drawn hr hq4 rfl rfl rfl (once_ok 60 (by decide) (by decide)) ?_
          rintro _ q5 hq5 ⟨b6, rfl⟩
          cases b6
          · repeat' first|refine yaG ?_|(exfalso;omega)|(refine yaS ?_ ?_<;>intro _)
            refine Go.app1 (k := 0) (ys := vs.map encV) (junk := junk) (z := encV (⟨2, 0, [98]⟩ : Val)) rfl rfl rfl rfl rfl lens hj rfl hbd fun u' junk' hj' => ?_
            repeat' first|refine yaG ?_|(exfalso;omega)|(refine yaS ?_ ?_<;>intro _)
            refine Go.freezeN (l := [(u', vs.map encV ++ [encV (⟨2, 0, [98]⟩ : Val)] ++ junk')]) (m := [(0, [encV (⟨2, 0, [98]⟩ : Val)])]) (fr' := [(0, .c (.ptr id v 0 0)), (3, .c (.fp (encTable t))), (5, .c (vec (σ.next + 0) u' ((vs ++ [(⟨2, 0, [98]⟩ : Val)]).map encV) junk')), (6, .c (.int .i64 (IntKind.i64.wrap (k + 1))))]) (hr.old hS) (keepF _ _ _ hj') (Nat.le_refl _) (.frz rfl (.refl (old_ptr (Nat.lt_succ_of_lt hr.2.1))) (.frz rfl (.refl (hT _ (Nat.le_succ _))) (.frz (by rw [List.map_append]; rfl) (.refl (old_sl (Nat.lt_succ_self _))) (.frz rfl (.refl old_c) .nil)))) ?_
            exact fin (⟨2, 0, [98]⟩ : Val) q5 u' junk' (by simp [bV, vNull, vInt] <;> omega) hq5 hj' _ _ rfl (by rw [List.map_append]; rfl)
          · repeat' first|refine yaG ?_|(exfalso;omega)|(refine yaS ?_ ?_<;>intro _)
            refine Go.drawn hr hq5 rfl rfl rfl val_ok ?_
            rintro _ q6 hq6 ⟨w, hw, rfl⟩
            repeat' first|refine yaG ?_|(exfalso;omega)|(refine yaS ?_ ?_<;>intro _)
            refine Go.app1 (k := 0) (ys := vs.map encV) (junk := junk) (z := encV w) rfl rfl rfl rfl rfl lens hj rfl hbd fun u' junk' hj' => ?_
            repeat' first|refine yaG ?_|(exfalso;omega)|(refine yaS ?_ ?_<;>intro _)
            refine Go.freezeN (l := [(u', vs.map encV ++ [encV w] ++ junk')]) (m := [(0, [encV w])]) (fr' := [(0, .c (.ptr id v 0 0)), (3, .c (.fp (encTable t))), (5, .c (vec (σ.next + 0) u' ((vs ++ [w]).map encV) junk')), (6, .c (.int .i64 (IntKind.i64.wrap (k + 1))))]) (hr.old hS) (keepF _ _ _ hj') (Nat.le_refl _) (.frz rfl (.refl (old_ptr (Nat.lt_succ_of_lt hr.2.1))) (.frz rfl (.refl (hT _ (Nat.le_succ _))) (.frz (by rw [List.map_append]; rfl) (.refl (old_sl (Nat.lt_succ_self _))) (.frz rfl (.refl old_c) .nil)))) ?_
            exact fin w q6 u' junk' (by simp [bV, vNull, vInt] <;> omega) hq6 hj' _ _ rfl (by rw [List.map_append]; rfl)
        · repeat' first|refine yaG ?_|(exfalso;omega)|(refine yaS ?_ ?_<;>intro _)
          refine Go.drawn hr hq4 rfl rfl rfl (once_ok 60 (by decide) (by decide)) ?_
          rintro _ q5 hq5 ⟨b6, rfl⟩
          cases b6
          · repeat' first|refine yaG ?_|(exfalso;omega)|(refine yaS ?_ ?_<;>intro _)
            refine Go.app1 (k := 0) (ys := vs.map encV) (junk := junk) (z := encV vNull) rfl rfl rfl rfl rfl lens hj rfl hbd fun u' junk' hj' => ?_
            repeat' first|refine yaG ?_|(exfalso;omega)|(refine yaS ?_ ?_<;>intro _)
            refine Go.freezeN (l := [(u', vs.map encV ++ [encV vNull] ++ junk')]) (m := [(0, [encV vNull])]) (fr' := [(0, .c (.ptr id v 0 0)), (3, .c (.fp (encTable t))), (5, .c (vec (σ.next + 0) u' ((vs ++ [vNull]).map encV) junk')), (6, .c (.int .i64 (IntKind.i64.wrap (k + 1))))]) (hr.old hS) (keepF _ _ _ hj') (Nat.le_refl _) (.frz rfl (.refl (old_ptr (Nat.lt_succ_of_lt hr.2.1))) (.frz rfl (.refl (hT _ (Nat.le_succ _))) (.frz (by rw [List.map_append]; rfl) (.refl (old_sl (Nat.lt_succ_self _))) (.frz rfl (.refl old_c) .nil)))) ?_
            exact fin vNull q5 u' junk' (by simp [bV, vNull, vInt] <;> omega) hq5 hj' _ _ rfl (by rw [List.map_append]; rfl)
          · repeat' first|refine yaG ?_|(exfalso;omega)|(refine yaS ?_ ?_<;>intro _)
            refine Go.drawn hr hq5 rfl rfl rfl val_ok ?_
            rintro _ q6 hq6 ⟨w, hw, rfl⟩
            repeat' first|refine yaG ?_|(exfalso;omega)|(refine yaS ?_ ?_<;>intro _)
            refine Go.app1 (k := 0) (ys := vs.map encV) (junk := junk) (z := encV w) rfl rfl rfl rfl rfl lens hj rfl hbd fun u' junk' hj' => ?_
            repeat' first|refine yaG ?_|(exfalso;omega)|(refine yaS ?_ ?_<;>intro _)
            refine Go.freezeN (l := [(u', vs.map encV ++ [encV w] ++ junk')]) (m := [(0, [encV w])]) (fr' := [(0, .c (.ptr id v 0 0)), (3, .c (.fp (encTable t))), (5, .c (vec (σ.next + 0) u' ((vs ++ [w]).map encV) junk')), (6, .c (.int .i64 (IntKind.i64.wrap (k + 1))))]) (hr.old hS) (keepF _ _ _ hj') (Nat.le_refl _) (.frz rfl (.refl (old_ptr (Nat.lt_succ_of_lt hr.2.1))) (.frz rfl (.refl (hT _ (Nat.le_succ _))) (.frz (by rw [List.map_append]; rfl) (.refl (old_sl (Nat.lt_succ_self _))) (.frz rfl (.refl old_c) .nil)))) ?_
            exact fin w q6 u' junk' (by simp [bV, vNull, vInt] <;> omega) hq6 hj' _ _ rfl (by rw [List.map_append]; rfl)
    · have ht : True := trivial
      refine Go.drawn hr hq1 rfl rfl rfl (once_ok 8 (by decide) (by decide)) ?_
      rintro _ q4 hq4 ⟨b5, rfl⟩
      cases b5
      · repeat' first|refine yaG ?_|(exfalso;omega)|(refine yaS ?_ ?_<;>intro _)
        refine Go.drawn hr hq4 rfl rfl rfl (once_ok 60 (by decide) (by decide)) ?_
        rintro _ q5 hq5 ⟨b6, rfl⟩
        cases b6
        · repeat' first|refine yaG ?_|(exfalso;omega)|(refine yaS ?_ ?_<;>intro _)
          refine Go.app1 (k := 0) (ys := vs.map encV) (junk := junk) (z := encV (vInt a)) rfl rfl rfl rfl rfl lens hj rfl hbd fun u' junk' hj' => ?_
          repeat' first|refine yaG ?_|(exfalso;omega)|(refine yaS ?_ ?_<;>intro _)
          refine Go.freezeN (l := [(u', vs.map encV ++ [encV (vInt a)] ++ junk')]) (m := [(0, [encV (vInt a)])]) (fr' := [(0, .c (.ptr id v 0 0)), (3, .c (.fp (encTable t))), (5, .c (vec (σ.next + 0) u' ((vs ++ [(vInt a)]).map encV) junk')), (6, .c (.int .i64 (IntKind.i64.wrap (k + 1))))]) (hr.old hS) (keepF _ _ _ hj') (Nat.le_refl _) (.frz rfl (.refl (old_ptr (Nat.lt_succ_of_lt hr.2.1))) (.frz rfl (.refl (hT _ (Nat.le_succ _))) (.frz (by rw [List.map_append]; rfl) (.refl (old_sl (Nat.lt_succ_self _))) (.frz rfl (.refl old_c) .nil)))) ?_
          exact fin (vInt a) q5 u' junk' (by simp [bV, vNull, vInt] <;> omega) hq5 hj' _ _ rfl (by rw [List.map_append]; rfl)
        · repeat' first|refine yaG ?_|(exfalso;omega)|(refine yaS ?_ ?_<;>intro _)
          refine Go.drawn hr hq5 rfl rfl rfl val_ok ?_
          rintro _ q6 hq6 ⟨w, hw, rfl⟩
          repeat' first|refine yaG ?_|(exfalso;omega)|(refine yaS ?_ ?_<;>intro _)
          refine Go.app1 (k := 0) (ys := vs.map encV) (junk := junk) (z := encV w) rfl rfl rfl rfl rfl lens hj rfl hbd fun u' junk' hj' => ?_
          repeat' first|refine yaG ?_|(exfalso;omega)|(refine yaS ?_ ?_<;>intro _)
          refine Go.freezeN (l := [(u', vs.map encV ++ [encV w] ++ junk')]) (m := [(0, [encV w])]) (fr' := [(0, .c (.ptr id v 0 0)), (3, .c (.fp (encTable t))), (5, .c (vec (σ.next + 0) u' ((vs ++ [w]).map encV) junk')), (6, .c (.int .i64 (IntKind.i64.wrap (k + 1))))]) (hr.old hS) (keepF _ _ _ hj') (Nat.le_refl _) (.frz rfl (.refl (old_ptr (Nat.lt_succ_of_lt hr.2.1))) (.frz rfl (.refl (hT _ (Nat.le_succ _))) (.frz (by rw [List.map_append]; rfl) (.refl (old_sl (Nat.lt_succ_self _))) (.frz rfl (.refl old_c) .nil)))) ?_
          exact fin w q6 u' junk' (by simp [bV, vNull, vInt] <;> omega) hq6 hj' _ _ rfl (by rw [List.map_append]; rfl)
      · repeat' first|refine yaG ?_|(exfalso;omega)|(refine yaS ?_ ?_<;>intro _)
        refine Go.drawn hr hq4 rfl rfl rfl (once_ok 60 (by decide) (by decide)) ?_
        rintro _ q5 hq5 ⟨b6, rfl⟩
        cases b6
        · repeat' first|refine yaG ?_|(exfalso;omega)|(refine yaS ?_ ?_<;>intro _)
          refine Go.app1 (k := 0) (ys := vs.map encV) (junk := junk) (z := encV vNull) rfl rfl rfl rfl rfl lens hj rfl hbd fun u' junk' hj' => ?_
          repeat' first|refine yaG ?_|(exfalso;omega)|(refine yaS ?_ ?_<;>intro _)
          refine Go.freezeN (l := [(u', vs.map encV ++ [encV vNull] ++ junk')]) (m := [(0, [encV vNull])]) (fr' := [(0, .c (.ptr id v 0 0)), (3, .c (.fp (encTable t))), (5, .c (vec (σ.next + 0) u' ((vs ++ [vNull]).map encV) junk')), (6, .c (.int .i64 (IntKind.i64.wrap (k + 1))))]) (hr.old hS) (keepF _ _ _ hj') (Nat.le_refl _) (.frz rfl (.refl (old_ptr (Nat.lt_succ_of_lt hr.2.1))) (.frz rfl (.refl (hT _ (Nat.le_succ _))) (.frz (by rw [List.map_append]; rfl) (.refl (old_sl (Nat.lt_succ_self _))) (.frz rfl (.refl old_c) .nil)))) ?_
          exact fin vNull q5 u' junk' (by simp [bV, vNull, vInt] <;> omega) hq5 hj' _ _ rfl (by rw [List.map_append]; rfl)
        · repeat' first|refine yaG ?_|(exfalso;omega)|(refine yaS ?_ ?_<;>intro _)
          refine Go.drawn hr hq5 rfl rfl rfl val_ok ?_
          rintro _ q6 hq6 ⟨w, hw, rfl⟩
          repeat' first|refine yaG ?_|(exfalso;omega)|(refine yaS ?_ ?_<;>intro _)
          refine Go.app1 (k := 0) (ys := vs.map encV) (junk := junk) (z := encV w) rfl rfl rfl rfl rfl lens hj rfl hbd fun u' junk' hj' => ?_
          repeat' first|refine yaG ?_|(exfalso;omega)|(refine yaS ?_ ?_<;>intro _)
          refine Go.freezeN (l := [(u', vs.map encV ++ [encV w] ++ junk')]) (m := [(0, [encV w])]) (fr' := [(0, .c (.ptr id v 0 0)), (3, .c (.fp (encTable t))), (5, .c (vec (σ.next + 0) u' ((vs ++ [w]).map encV) junk')), (6, .c (.int .i64 (IntKind.i64.wrap (k + 1))))]) (hr.old hS) (keepF _ _ _ hj') (Nat.le_refl _) (.frz rfl (.refl (old_ptr (Nat.lt_succ_of_lt hr.2.1))) (.frz rfl (.refl (hT _ (Nat.le_succ _))) (.frz (by rw [List.map_append]; rfl) (.refl (old_sl (Nat.lt_succ_self _))) (.frz rfl (.refl old_c) .nil)))) ?_
          exact fin w q6 u' junk' (by simp [bV, vNull, vInt] <;> omega) hq6 hj' _ _ rfl (by rw [List.map_append]; rfl)
  · repeat' first|refine yaG ?_|(exfalso;omega)|(refine yaS ?_ ?_<;>intro _)
    exact .ret rfl ⟨q, vs, u, junk, hq, by omega, hb, hj, rfl, rfl⟩
end Go.Proofs.YtdgnfdljkghpjaaGreat.Am

/- The reader that draws: schemas. -/
set_option linter.unusedVariables false
set_option linter.unusedSimpArgs false
namespace Go.Proofs.YtdgnfdljkghpjaaGreat.Am

/-- Where ways meet, what follows kept from sight. -/
theorem Go.meet {P : Program} {n0 nt : Nat} {rets : List RV} {R : AV → Store → Prop} {K K' : List AK} {fr : Fr} {σ : Store} (I : Fr → Store → Prop) (h2 : ∀ K, (∀ fr σ, I fr σ → Go P n0 nt rets R K fr σ) → Go P n0 nt rets R (K' ++ K) fr σ) (h1 : ∀ fr σ, I fr σ → Go P n0 nt rets R K fr σ) : Go P n0 nt rets R (K' ++ K) fr σ := h2 K h1
/-- A cell that is a frozen slice's, or a nil one's. -/
def NF (x : Ce) (ys : List (List Ce)) : Prop := x = .fz ys ∨ (x = .nils ∧ ys = [])
def OldL (n : Nat) (ys : List (List Ce)) : Prop := ∀ e ∈ ys, ∀ c ∈ e, Old n c
theorem NF.frz {τ : Store} {n : Nat} {x : Ce} {ys : List (List Ce)} (h : NF x ys) (ho : OldL n ys) : Frz τ n x (.fz ys) := by
  rcases h with rfl | ⟨rfl, rfl⟩
  · exact .same _ (.fz _ fun i j hi hj => ho _ (List.getElem_mem hi) _ (List.getElem_mem hj))
  · exact .nil
theorem NF.old {n : Nat} {x : Ce} {ys : List (List Ce)} (h : NF x ys) (ho : OldL n ys) : Old n x := by
  rcases h with rfl | ⟨rfl, rfl⟩
  · exact .fz _ fun i j hi hj => ho _ (List.getElem_mem hi) _ (List.getElem_mem hj)
  · exact .nils
theorem oldL_flat {n : Nat} {ys : List (List Ce)} (h : ∀ e ∈ ys, ∀ x ∈ e, Flat x) : OldL n ys := fun e he c hc => (h e he c hc).old _
theorem old_fz1 {n : Nat} {ys : List (List Ce)} (h : OldL n ys) : Old n (.fz ys) := .fz _ fun i j hi hj => h _ (List.getElem_mem hi) _ (List.getElem_mem hj)
theorem oldCols {n : Nat} (l : List Col) : OldL n (l.map encCol) := oldL_flat fun e he x hx => by
  obtain ⟨a, _, rfl⟩ := List.mem_map.1 he
  exact flatCol a x hx
theorem oldInts {n : Nat} (l : List Int) : OldL n (l.map encI) := oldL_flat fun e he x hx => (flatI l e he).2 x hx
theorem oldUniqs {n : Nat} (l : List Uniq) : OldL n (l.map encUniq) := fun e he c hc => by
  obtain ⟨a, _, rfl⟩ := List.mem_map.1 he
  simp only [encUniq, List.mem_cons, List.not_mem_nil, or_false] at hc
  subst hc
  exact old_fz1 (oldInts _)
theorem oldChks {n : Nat} (l : List Chk) : OldL n (l.map encChk) := fun e he c hc => by
  obtain ⟨a, _, rfl⟩ := List.mem_map.1 he
  simp only [encChk, List.mem_cons, List.not_mem_nil, or_false] at hc
  subst hc
  exact old_fz1 (oldL_flat flatTs)
theorem oldFks {n : Nat} (l : List Fk) : OldL n (l.map encFk) := fun e he c hc => by
  obtain ⟨a, _, rfl⟩ := List.mem_map.1 he
  simp only [encFk, List.mem_cons, List.not_mem_nil, or_false] at hc
  rcases hc with rfl | rfl | rfl | rfl | rfl
  · exact old_fz1 (oldInts _)
  all_goals constructor
/-- The cells of a table that is frozen but for nil slices. -/
structure TabC (e : List Ce) (t : Table) : Prop where
  has : ∃ x2 x3 x4 x5, e = [.str t.name, .fz (t.cols.map encCol), x2, x3, x4, x5] ∧ NF x2 (t.key.map encI) ∧ NF x3 (t.uniques.map encUniq) ∧ NF x4 (t.checks.map encChk) ∧ NF x5 (t.fks.map encFk)
/-- What a drawn table is like. -/
structure SmallT (t : Table) : Prop where
  b : bTable 12 t
  lo : 2 ≤ t.cols.length
  hi : t.cols.length ≤ 3
def SchD (s : List Table) : Prop := 1 ≤ s.length ∧ s.length ≤ 3 ∧ ∀ t ∈ s, SmallT t
def Schemas (r : AV) : Prop := ∃ s : List Table, SchD s ∧ r = .c (.fz (s.map encTable))
/-- The rest of a drawn schema, with its cells. -/
def Rest (ps : List (List Ce × Table)) : Prop := ∀ p ∈ ps, TabC p.1 p.2 ∧ SmallT p.2
def colK : Col := ⟨[107], 1, true, vNull⟩
def colT : Col := ⟨[116], 2, false, vNull⟩
def colN : Col := ⟨[110], 1, false, vInt 1⟩
/-- The first table's cells, its columns owned. -/
def headC (nm : List UInt8) (id : Nat) (x2 x3 x4 : Ce) : List Ce := [.str nm, .sl id 0 0 3 3, x2, x3, x4, .nils]
structure Head (x3 x4 : Ce) (us : List Uniq) (ks : List Chk) : Prop where
  u : NF x3 (us.map encUniq)
  k : NF x4 (ks.map encChk)
  bu : us.length ≤ 12 ∧ ∀ x ∈ us, bUniq 12 x
  bk : ks.length ≤ 12 ∧ ∀ x ∈ ks, bChk 12 x
/-- What is made is a schema. -/
theorem schema_frz {σ : Store} {u : Nat} {nm : List UInt8} {x2 x3 x4 : Ce} {c0 c1 c2 : Col} {key : List Int} {us : List Uniq} {ks : List Chk} {ps : List (List Ce × Table)} {junk pb : List (List Ce)} {vb : Nat}
    (hnm : nm.length ≤ 12) (hk : key.length ≤ 12) (h2 : NF x2 (key.map encI)) (hH : Head x3 x4 us ks) (hb : bCol 12 c0 ∧ bCol 12 c1 ∧ bCol 12 c2) (hR : Rest ps) (hp : ps.length ≤ 2) :
    ∃ s : List Table, SchD s ∧ FrzV (E σ [(0, [encCol c0, encCol c1, encCol c2]), (vb, pb), (u, headC nm (σ.next + 0) x2 x3 x4 :: ps.map Prod.fst ++ junk)]) σ.next (.c (vec (σ.next + 2) u (headC nm (σ.next + 0) x2 x3 x4 :: ps.map Prod.fst) junk)) (.c (.fz (s.map encTable))) := by
  obtain ⟨p, hpdef⟩ : ∃ p : Table, p = ⟨nm, [c0, c1, c2], key, us, ks, []⟩ := ⟨_, rfl⟩
  have hsp : SmallT p := by
    subst hpdef
    refine ⟨⟨hnm, ⟨by simp, fun x hx => ?_⟩, hk, hH.bu, hH.bk, by simp, fun x hx => by simp at hx⟩, by simp, by simp⟩
    simp only [List.mem_cons, List.not_mem_nil, or_false] at hx
    rcases hx with rfl | rfl | rfl
    · exact hb.1
    · exact hb.2.1
    · exact hb.2.2
  refine ⟨p :: ps.map Prod.snd, ⟨by simp, by simp; omega, fun t ht => ?_⟩, ?_⟩
  · rcases List.mem_cons.1 ht with rfl | ht
    · exact hsp
    · obtain ⟨q, hq, rfl⟩ := List.mem_map.1 ht
      exact (hR q hq).2
  · have hlen : (headC nm (σ.next + 0) x2 x3 x4 :: ps.map Prod.fst).length = ps.length + 1 := by simp
    have hcell : ∀ (q : List Ce × Table), q ∈ ps → q.1.length = 6 ∧ ∀ j (h1 : j < q.1.length) (h2 : j < (encTable q.2).length), Frz (E σ [(0, [encCol c0, encCol c1, encCol c2]), (vb, pb), (u, headC nm (σ.next + 0) x2 x3 x4 :: ps.map Prod.fst ++ junk)]) σ.next q.1[j] (encTable q.2)[j] := fun q hq => by
      obtain ⟨y2, y3, y4, y5, he, k2, k3, k4, k5⟩ := (hR q hq).1.has
      refine ⟨by rw [he]; rfl, ?_⟩
      generalize q.1 = e at he
      subst he
      intro j h1 h2
      have hj : j = 0 ∨ j = 1 ∨ j = 2 ∨ j = 3 ∨ j = 4 ∨ j = 5 := by simp at h1; omega
      rcases hj with rfl | rfl | rfl | rfl | rfl | rfl
      · exact .same _ (.str _)
      · exact .same _ (old_fz1 (oldCols _))
      · exact k2.frz (oldInts _)
      · exact k3.frz (oldUniqs _)
      · exact k4.frz (oldChks _)
      · exact k5.frz (oldFks _)
    have hcols : Frz (E σ [(0, [encCol c0, encCol c1, encCol c2]), (vb, pb), (u, headC nm (σ.next + 0) x2 x3 x4 :: ps.map Prod.fst ++ junk)]) σ.next (.sl (σ.next + 0) 0 0 3 3) (.fz ([c0, c1, c2].map encCol)) := by
      have := frz_drop (σ := σ) (l := [(0, [encCol c0, encCol c1, encCol c2]), (vb, pb), (u, headC nm (σ.next + 0) x2 x3 x4 :: ps.map Prod.fst ++ junk)]) (k := 0) (v := 0) (n := 0) (c := 3) (N := σ.next) (ys := [c0, c1, c2].map encCol) (junk := []) rfl (fun e he x hx => by
        obtain ⟨a, _, rfl⟩ := List.mem_map.1 he
        exact flatCol a x hx) (Nat.zero_le _) (Nat.le_refl _)
      cases this with
      | c h => exact h
    have hhead : ∀ j (h1 : j < (headC nm (σ.next + 0) x2 x3 x4).length) (h2 : j < (encTable p).length), Frz (E σ [(0, [encCol c0, encCol c1, encCol c2]), (vb, pb), (u, headC nm (σ.next + 0) x2 x3 x4 :: ps.map Prod.fst ++ junk)]) σ.next (headC nm (σ.next + 0) x2 x3 x4)[j] (encTable p)[j] := by
      subst hpdef
      intro j h1 h2'
      have hj : j = 0 ∨ j = 1 ∨ j = 2 ∨ j = 3 ∨ j = 4 ∨ j = 5 := by simp [headC] at h1; omega
      rcases hj with rfl | rfl | rfl | rfl | rfl | rfl
      · exact .same _ (.str _)
      · exact hcols
      · exact h2.frz (oldInts _)
      · exact hH.u.frz (oldUniqs _)
      · exact hH.k.frz (oldChks _)
      · exact .nil
    refine .c (.sl _ _ _ _ _ (headC nm (σ.next + 0) x2 x3 x4 :: ps.map Prod.fst ++ junk) _ (Nat.le_add_right _ _) (E_get (k := 2) rfl) (by rw [List.length_append]; omega) (by simp) (fun i hi => ?_) (fun i j hi hj => ?_))
    · cases i with
      | zero => rfl
      | succ i =>
        have hi2 : i < ps.length := by rw [hlen] at hi; omega
        simp only [Nat.zero_add, List.cons_append, List.map_cons, List.getElem_cons_succ, List.map_map, List.getElem_map]
        rw [List.getElem_append_left (by simpa using hi2), List.getElem_map, (hcell _ (List.getElem_mem hi2)).1]
        rfl
    · cases i with
      | zero => exact hhead j hj hj
      | succ i =>
        have hi2 : i < ps.length := by rw [hlen] at hi; omega
        have hz := hcell _ (List.getElem_mem hi2)
        simp only [Nat.zero_add, List.cons_append, List.map_cons, List.getElem_cons_succ, List.map_map, List.getElem_map]
        have e1 : (ps.map Prod.fst ++ junk)[i]'(by simp; omega) = ps[i].1 := by rw [List.getElem_append_left (by simpa using hi2), List.getElem_map]
        simp only [e1]
        exact hz.2 j (by rw [hz.1]; have h6 : j < (encTable ps[i].2).length := (by simpa using hj); exact h6) _
theorem schema_ok : Draws Tryz.prog 76 [] Schemas := by
  refine Draws.run mixed c_spec_l1Rd_schema_ok (Nat.le_of_ble_eq_true rfl) fun σ id v code p hr hp hc hS => ?_
  clear hS
  repeat' first|refine yaN ?_|((first|apply yQ|apply yR|apply yS);(iterate 3 exact rfl);exact l1Int_ok _)|(exfalso;omega)|(refine yaS ?_ ?_<;>intro _)
  refine Go.meet (K' := [_, _]) (fun fr τ => ∃ (q : Nat) (x3 : Ce) (us : List Uniq), q ≤ code.length ∧ (NF x3 (us.map encUniq) ∧ us.length ≤ 12 ∧ ∀ x ∈ us, bUniq 12 x) ∧ fr = [(0, .c (.ptr id v 0 0)), (3, .c (.ptr (σ.next + 1) 0 0 0))] ∧
    τ = E (Rd.go σ id v code q) [(0, [encCol colK, encCol colT, encCol colN]), (0, [headC [112] (σ.next + 0) (.fz ([0].map encI)) x3 .nils])]) (fun K h => ?_) ?_
  · refine Go.drawn hr hp rfl rfl rfl (once_ok 2 (by decide) (by decide)) ?_
    rintro _ q hq ⟨b, rfl⟩
    cases b
    · repeat' first|refine yaN ?_|(exfalso;omega)|(refine yaS ?_ ?_<;>intro _)
      exact Go.keep [0, 3] (h _ _ ⟨q, .nils, [], hq, ⟨.inr ⟨rfl, rfl⟩, by decide, fun x hx => by simp at hx⟩, rfl, rfl⟩)
    · repeat' first|refine yaN ?_|(exfalso;omega)|(refine yaS ?_ ?_<;>intro _)
      exact Go.keep [0, 3] (h _ _ ⟨q, _, [⟨[2]⟩], hq, ⟨.inl rfl, by decide, fun x hx => by rw [List.mem_singleton.1 hx]; simp [bUniq]⟩, rfl, rfl⟩)
  rintro fr τ ⟨q, x3, us, hq, h3, rfl, rfl⟩
  clear hp
  repeat' first|refine yaN ?_|(exfalso;omega)|(refine yaS ?_ ?_<;>intro _)
  refine Go.meet (K' := [_, _]) (fun fr τ => ∃ (q : Nat) (x4 : Ce) (ks : List Chk), q ≤ code.length ∧ (NF x4 (ks.map encChk) ∧ ks.length ≤ 12 ∧ ∀ x ∈ ks, bChk 12 x) ∧ fr = [(0, .c (.ptr id v 0 0)), (3, .c (.ptr (σ.next + 1) 0 0 0))] ∧
    τ = E (Rd.go σ id v code q) [(0, [encCol colK, encCol colT, encCol colN]), (0, [headC [112] (σ.next + 0) (.fz ([0].map encI)) x3 x4])]) (fun K h => ?_) ?_
  · refine Go.drawn hr hq rfl rfl rfl (once_ok 2 (by decide) (by decide)) ?_
    rintro _ q2 hq2 ⟨b, rfl⟩
    cases b
    · repeat' first|refine yaN ?_|(exfalso;omega)|(refine yaS ?_ ?_<;>intro _)
      exact Go.keep [0, 3] (h _ _ ⟨q2, .nils, [], hq2, ⟨.inr ⟨rfl, rfl⟩, by decide, fun x hx => by simp at hx⟩, rfl, rfl⟩)
    · repeat' first|refine yaN ?_|((first|apply yQ|apply yR|apply yS);(iterate 3 exact rfl);exact l1Int_ok _)|((first|apply yQ|apply yR|apply yS);(iterate 3 exact rfl);exact l2Col_ok _)|((first|apply yQ|apply yR|apply yS);(iterate 3 exact rfl);exact l2Const_ok _)|(exfalso;omega)|(refine yaS ?_ ?_<;>intro _)
      exact Go.keep [0, 3] (h _ _ ⟨q2, _, [⟨[tCol 0, tConst (vInt 4), ⟨4, 0, vNull⟩]⟩], hq2, ⟨.inl rfl, by decide, fun x hx => by
        rw [List.mem_singleton.1 hx]
        refine ⟨by decide, fun t ht => ?_⟩
        simp only [List.mem_cons, List.not_mem_nil, or_false] at ht
        rcases ht with rfl | rfl | rfl <;> exact Nat.zero_le _⟩, rfl, rfl⟩)
  rintro fr τ ⟨q2, x4, ks, hq2, h4, rfl, rfl⟩
  have hH : Head x3 x4 us ks := ⟨h3.1, h4.1, h3.2, h4.2⟩
  clear hq h3 h4
  repeat' first|refine yaN ?_|(exfalso;omega)|(refine yaS ?_ ?_<;>intro _)
  refine Go.meet (K' := [_, _]) (fun fr τ => ∃ (q u : Nat) (ps : List (List Ce × Table)) (junk : List (List Ce)), q ≤ code.length ∧ Rest ps ∧ ps.length ≤ 1 ∧ Jk 6 junk ∧ fr = [(0, .c (.ptr id v 0 0)), (4, .c (vec (σ.next + 2) u (headC [112] (σ.next + 0) (.fz ([0].map encI)) x3 x4 :: ps.map Prod.fst) junk))] ∧
    τ = E (Rd.go σ id v code q) [(0, [encCol colK, encCol colT, encCol colN]), (0, [headC [112] (σ.next + 0) (.fz ([0].map encI)) x3 x4]), (u, headC [112] (σ.next + 0) (.fz ([0].map encI)) x3 x4 :: ps.map Prod.fst ++ junk)]) (fun K h => ?_) ?_
  · refine Go.drawn hr hq2 rfl rfl rfl (once_ok 4 (by decide) (by decide)) ?_
    rintro _ q3 hq3 ⟨b, rfl⟩
    cases b
    · repeat' first|refine yaG ?_|(exfalso;omega)|(refine yaS ?_ ?_<;>intro _)
      refine Go.drawn hr hq3 rfl rfl rfl (once_ok 4 (by decide) (by decide)) ?_
      rintro _ q4 hq4 ⟨b1, rfl⟩
      repeat' first|refine yaG ?_|(exfalso;omega)|(refine yaS ?_ ?_<;>intro _)
      refine Go.drawn hr hq4 rfl rfl rfl action_ok ?_
      rintro _ q5 hq5 ⟨a1, ha0, ha1, rfl⟩
      repeat' first|refine yaG ?_|(exfalso;omega)|(refine yaS ?_ ?_<;>intro _)
      refine Go.drawn hr hq5 rfl rfl rfl action_ok ?_
      rintro _ q6 hq6 ⟨a2, ha2, ha3, rfl⟩
      repeat' first|refine yaG ?_|(exfalso;omega)|(refine yaS ?_ ?_<;>intro _)
      refine Go.drawn hr hq6 rfl rfl rfl (once_ok 4 (by decide) (by decide)) ?_
      rintro _ q7 hq7 ⟨b2, rfl⟩
      repeat' first|refine yaG ?_|(exfalso;omega)|(refine yaS ?_ ?_<;>intro _)
      refine Go.app1 (k := 2) (ys := [headC [112] (σ.next + 0) (.fz ([0].map encI)) x3 x4]) (junk := []) (z := [.str [99], .fz ([colK, ⟨[112], 1, b1, vNull⟩].map encCol), .fz ([0].map encI), .nils, .nils, .fz ([⟨[1], [112], a1, a2, b2⟩].map encFk)]) rfl rfl rfl rfl rfl (fun e he => by rw [List.mem_singleton.1 he]; rfl) Jk.nil rfl (by simp) fun u' junk' hj' => ?_
      repeat' first|refine yaG ?_|(exfalso;omega)|(refine yaS ?_ ?_<;>intro _)
      refine Go.keep [0, 4] (h _ _ ⟨q7, u', [([.str [99], .fz ([colK, ⟨[112], 1, b1, vNull⟩].map encCol), .fz ([0].map encI), .nils, .nils, .fz ([⟨[1], [112], a1, a2, b2⟩].map encFk)], ⟨[99], [colK, ⟨[112], 1, b1, vNull⟩], [0], [], [], [⟨[1], [112], a1, a2, b2⟩]⟩)], junk', hq7, fun p hp => ?_, by simp, hj', rfl, rfl⟩)
      rw [List.mem_singleton.1 hp]
      exact ⟨⟨⟨_, _, _, _, rfl, .inl rfl, .inr ⟨rfl, rfl⟩, .inr ⟨rfl, rfl⟩, .inl rfl⟩⟩, ⟨⟨by simp, ⟨by simp, fun x hx => by
        simp only [List.mem_cons, List.not_mem_nil, or_false] at hx
        rcases hx with rfl | rfl <;> simp [bCol, bV, colK, vNull]⟩, by simp, ⟨by simp, fun x hx => by simp at hx⟩, ⟨by simp, fun x hx => by simp at hx⟩, by simp, fun x hx => by rw [List.mem_singleton.1 hx]; simp [bFk]⟩, by simp, by simp⟩⟩
    · repeat' first|refine yaG ?_|(exfalso;omega)|(refine yaS ?_ ?_<;>intro _)
      exact Go.keep [0, 4] (h _ _ ⟨q3, 0, [], [], hq3, fun p hp => by simp at hp, by simp, Jk.nil, rfl, rfl⟩)
  rintro fr τ ⟨q3, u, ps, junk, hq3, hps, hpl, hj, rfl, rfl⟩
  clear hq2
  have hlen : ∀ e ∈ headC [112] (σ.next + 0) (.fz ([0].map encI)) x3 x4 :: ps.map Prod.fst, e.length = 6 := fun e he => by
    rcases List.mem_cons.1 he with rfl | he
    · rfl
    · obtain ⟨p, hp, rfl⟩ := List.mem_map.1 he
      obtain ⟨_, _, _, _, h1, _⟩ := (hps p hp).1.has
      rw [h1]
      rfl
  repeat' first|refine yaG ?_|(exfalso;omega)|(refine yaS ?_ ?_<;>intro _)
  refine Go.meet (K' := [_, _]) (fun fr τ => ∃ (q u : Nat) (ps : List (List Ce × Table)) (junk : List (List Ce)), q ≤ code.length ∧ Rest ps ∧ ps.length ≤ 2 ∧ Jk 6 junk ∧ fr = [(0, .c (.ptr id v 0 0)), (4, .c (vec (σ.next + 2) u (headC [112] (σ.next + 0) (.fz ([0].map encI)) x3 x4 :: ps.map Prod.fst) junk))] ∧
    τ = E (Rd.go σ id v code q) [(0, [encCol colK, encCol colT, encCol colN]), (0, [headC [112] (σ.next + 0) (.fz ([0].map encI)) x3 x4]), (u, headC [112] (σ.next + 0) (.fz ([0].map encI)) x3 x4 :: ps.map Prod.fst ++ junk)]) (fun K h => ?_) ?_
  · refine Go.drawn hr hq3 rfl rfl rfl (once_ok 3 (by decide) (by decide)) ?_
    rintro _ q4 hq4 ⟨b, rfl⟩
    cases b
    · repeat' first|refine yaG ?_|(exfalso;omega)|(refine yaS ?_ ?_<;>intro _)
      exact Go.keep [0, 4] (h _ _ ⟨q4, u, ps, junk, hq4, hps, by omega, hj, rfl, rfl⟩)
    · repeat' first|refine yaG ?_|(exfalso;omega)|(refine yaS ?_ ?_<;>intro _)
      refine Go.drawn hr hq4 rfl rfl rfl action_ok ?_
      rintro _ q5 hq5 ⟨a1, ha0, ha1, rfl⟩
      repeat' first|refine yaG ?_|(exfalso;omega)|(refine yaS ?_ ?_<;>intro _)
      refine Go.drawn hr hq5 rfl rfl rfl action_ok ?_
      rintro _ q6 hq6 ⟨a2, ha2, ha3, rfl⟩
      repeat' first|refine yaG ?_|(exfalso;omega)|(refine yaS ?_ ?_<;>intro _)
      refine Go.app1 (k := 2) (ys := headC [112] (σ.next + 0) (.fz ([0].map encI)) x3 x4 :: ps.map Prod.fst) (junk := junk) (z := [.str [116, 114, 101, 101], .fz ([colK, ⟨[117, 112], 1, false, vNull⟩].map encCol), .fz ([0].map encI), .nils, .nils, .fz ([⟨[1], [116, 114, 101, 101], a1, a2, false⟩].map encFk)]) rfl rfl rfl rfl rfl hlen hj rfl (by simp; omega) fun u' junk' hj' => ?_
      repeat' first|refine yaG ?_|(exfalso;omega)|(refine yaS ?_ ?_<;>intro _)
      refine Go.keep [0, 4] (h _ _ ⟨q6, u', ps ++ [([.str [116, 114, 101, 101], .fz ([colK, ⟨[117, 112], 1, false, vNull⟩].map encCol), .fz ([0].map encI), .nils, .nils, .fz ([⟨[1], [116, 114, 101, 101], a1, a2, false⟩].map encFk)], ⟨[116, 114, 101, 101], [colK, ⟨[117, 112], 1, false, vNull⟩], [0], [], [], [⟨[1], [116, 114, 101, 101], a1, a2, false⟩]⟩)], junk', hq6, fun p hp => ?_, by simp; omega, hj', by rw [List.map_append]; rfl, by rw [List.map_append]; rfl⟩)
      rcases List.mem_append.1 hp with hp | hp
      · exact hps p hp
      rw [List.mem_singleton.1 hp]
      exact ⟨⟨⟨_, _, _, _, rfl, .inl rfl, .inr ⟨rfl, rfl⟩, .inr ⟨rfl, rfl⟩, .inl rfl⟩⟩, ⟨⟨by simp, ⟨by simp, fun x hx => by
        simp only [List.mem_cons, List.not_mem_nil, or_false] at hx
        rcases hx with rfl | rfl <;> simp [bCol, bV, colK, vNull]⟩, by simp, ⟨by simp, fun x hx => by simp at hx⟩, ⟨by simp, fun x hx => by simp at hx⟩, by simp, fun x hx => by rw [List.mem_singleton.1 hx]; simp [bFk]⟩, by simp, by simp⟩⟩
  clear hps hpl hj hlen hq3
  clear u ps junk
  rintro fr τ ⟨q4, u, ps, junk, hq4, hps, hpl, hj, rfl, rfl⟩
  repeat' first|refine yaG ?_|(exfalso;omega)|(refine yaS ?_ ?_<;>intro _)
  refine Go.drawn hr hq4 rfl rfl rfl (below_ok 40 (by decide) (by decide)) ?_
  intro r q5 hq5 hz
  obtain ⟨k, hk, rfl⟩ := below_lt (by decide) hz
  have hcb : bCol 12 colK ∧ bCol 12 colT ∧ bCol 12 colN := ⟨by simp [bCol, bV, colK, vNull], by simp [bCol, bV, colT, vNull], by simp [bCol, bV, colN, vInt]⟩
  have hget : ∀ q : Nat, (E (Rd.go σ id v code q) [(0, [encCol colK, encCol colT, encCol colN]), (0, [headC [112] (σ.next + 0) (.fz ([0].map encI)) x3 x4]), (u, headC [112] (σ.next + 0) (.fz ([0].map encI)) x3 x4 :: ps.map Prod.fst ++ junk)]).get (σ.next + 2) = some (u, headC [112] (σ.next + 0) (.fz ([0].map encI)) x3 x4 :: ps.map Prod.fst ++ junk) := fun q => E_get (σ := Rd.go σ id v code q) (k := 2) rfl
  have hpos : 0 < (headC [112] (σ.next + 0) (.fz ([0].map encI)) x3 x4 :: ps.map Prod.fst).length := by simp
  by_cases h37 : (k : Int) = 37
  · repeat' first|refine yaG ?_|((first|apply yG|apply yH|apply yI);exact rfl;(first|exact aop_iaddrO rfl rfl (show (0 : Int) = ((0 : Nat) : Int) from rfl) hpos (hget _) rfl rfl))|(exfalso;omega)|(refine yaS ?_ ?_<;>intro _)
    obtain ⟨s, hs1, hs2⟩ := schema_frz (σ := Rd.go σ id v code q5) (u := u) (nm := [112]) (key := []) (x2 := .nils) (ps := ps) (junk := junk) (vb := 0) (pb := [headC [112] (σ.next + 0) (.fz ([0].map encI)) x3 x4]) (by decide) (by decide) (.inr ⟨rfl, rfl⟩) hH hcb hps hpl
    exact .ret rfl (.f hq5 ⟨s, hs1, rfl⟩ hs2)
  by_cases h38 : (k : Int) = 38
  · repeat' first|refine yaG ?_|((first|apply yG|apply yH|apply yI);exact rfl;(first|exact aop_iaddrO rfl rfl (show (0 : Int) = ((0 : Nat) : Int) from rfl) hpos (hget _) rfl rfl))|(exfalso;omega)|(refine yaS ?_ ?_<;>intro _)
    obtain ⟨s, hs1, hs2⟩ := schema_frz (σ := Rd.go σ id v code q5) (u := u) (nm := [99]) (key := [0]) (x2 := .fz ([0].map encI)) (ps := ps) (junk := junk) (vb := 0) (pb := [headC [112] (σ.next + 0) (.fz ([0].map encI)) x3 x4]) (by decide) (by decide) (.inl rfl) hH hcb hps hpl
    exact .ret rfl (.f hq5 ⟨s, hs1, rfl⟩ hs2)
  by_cases h39 : (k : Int) = 39
  · repeat' first|apply Go.seq|apply Go.skip|apply Go.region|apply Go.nil|apply Go.block|apply Go.blk|apply Go.segs|(apply Go.exit;exact rfl)|(apply Go.cond true;exact rfl)|(apply Go.cond false;exact rfl)|apply yB|apply yC|((first|apply yD|apply yE);(first|exact yF|assumption);iterate 6 exact rfl)|((first|apply yG|apply yH|apply yI);exact rfl;(first|exact yJ|exact yK rfl rfl|exact yL rfl|exact yM rfl|exact rfl|exact aL rfl rfl rfl rfl rfl|exact aS rfl rfl rfl rfl rfl rfl rfl))|((first|apply yN|apply yO|apply yP);exact rfl)|(exfalso;omega)|(((first|apply yT|apply yU|apply yV|apply yW);exact rfl;(first|exact .d|exact .e|exact .n|((fail_if_success exact bqt);(fail_if_success exact bqf);exact .b)))<;>intro _)
    apply Go.draw
    refine Go.qr [(0, [encCol colK, encCol colT, encCol colN]), (0, [headC [112] (σ.next + 0) (.fz ([0].map encI)) x3 x4]), (u, headC [112] (σ.next + 0) (.fz ([0].map encI)) x3 x4 :: ps.map Prod.fst ++ junk)] rfl ?_
    repeat' first|(apply Qx.op;exact rfl;(first|exact fun _ _ _ => rfl|exact aop_iaddrI (k := 2) rfl rfl (show (0 : Int) = ((0 : Nat) : Int) from rfl) hpos rfl rfl rfl|exact aop_loadI rfl rfl rfl rfl rfl))
    refine Qx.drawn hr hq5 rfl rfl rfl (off_ok 1 2 (by decide) (by decide) (by decide) (by decide)) ?_
    rintro _ q6 hq6 ⟨n, rfl⟩
    refine .nil ?_
    repeat' first|refine yaG ?_|((first|apply yG|apply yH|apply yI);exact rfl;(first|exact aop_iaddrO rfl rfl (show (0 : Int) = ((0 : Nat) : Int) from rfl) (show 0 < 3 by decide) (E_get (k := 0) rfl) rfl rfl))|(exfalso;omega)|(refine yaS ?_ ?_<;>intro _)
    obtain ⟨s, hs1, hs2⟩ := schema_frz (σ := Rd.go σ id v code q6) (u := u) (nm := [112]) (key := [0]) (x2 := .fz ([0].map encI)) (c0 := ⟨[107], n, true, vNull⟩) (ps := ps) (junk := junk) (vb := 0) (pb := [headC [112] (σ.next + 0) (.fz ([0].map encI)) x3 x4]) (by decide) (by decide) (.inl rfl) hH ⟨by simp [bCol, bV, vNull], hcb.2⟩ hps hpl
    exact .ret rfl (.f hq6 ⟨s, hs1, rfl⟩ hs2)
  · repeat' first|refine yaG ?_|(exfalso;omega)|(refine yaS ?_ ?_<;>intro _)
    obtain ⟨s, hs1, hs2⟩ := schema_frz (σ := Rd.go σ id v code q5) (u := u) (nm := [112]) (key := [0]) (x2 := .fz ([0].map encI)) (ps := ps) (junk := junk) (vb := 0) (pb := [headC [112] (σ.next + 0) (.fz ([0].map encI)) x3 x4]) (by decide) (by decide) (.inl rfl) hH hcb hps hpl
    exact .ret rfl (.f hq5 ⟨s, hs1, rfl⟩ hs2)
end Go.Proofs.YtdgnfdljkghpjaaGreat.Am

/- pdqsort's functions walked: sifting, the heap. -/
set_option linter.unusedVariables false
set_option linter.unusedSimpArgs false
namespace Go.Proofs.YtdgnfdljkghpjaaGreat.Am
open Go.Sort (swp)

theorem siftDown_len {α : Type} [Inhabited α] {lt : α → α → Bool} {hi first : Nat} : ∀ (n root : Nat) (d : Array α), hi - root ≤ n → (Go.Sort.siftDown lt hi first root d).size = d.size
  | 0, root, d, h => by rw [Go.Sort.siftDown.eq_1, dif_pos (by omega)]
  | n + 1, root, d, h => by
    rw [Go.Sort.siftDown.eq_1]
    split
    · rfl
    · split
      · split
        · rfl
        · split
          · rw [siftDown_len n _ _ (by omega), swp_len]
          · rfl
      · split
        · rfl
        · rw [siftDown_len n _ _ (by omega), swp_len]
/-- The greater child. -/
def childA {α : Type} [Inhabited α] (lt : α → α → Bool) (hi first root : Nat) (d : Array α) : Nat := if 2 * root + 1 + 1 < hi && lt d[first + (2 * root + 1)]! d[first + (2 * root + 1) + 1]! then 2 * root + 2 else 2 * root + 1
theorem siftDown_child {α : Type} [Inhabited α] {lt : α → α → Bool} {hi first root : Nat} {d : Array α} (h : 2 * root + 1 < hi) :
    root < childA lt hi first root d ∧ childA lt hi first root d < hi ∧ Go.Sort.siftDown lt hi first root d = if lt d[first + root]! d[first + childA lt hi first root d]! then Go.Sort.siftDown lt hi first (childA lt hi first root d) (swp d (first + root) (first + childA lt hi first root d)) else d := by
  rw [Go.Sort.siftDown.eq_1, dif_neg (by omega), childA]
  split
  · rename_i hc
    rw [Bool.and_eq_true, decide_eq_true_eq] at hc
    refine ⟨by omega, by omega, ?_⟩
    cases hl : lt d[first + root]! d[first + (2 * root + 2)]!
    · simp
    · rw [dif_pos (by omega)]
      simp
  · refine ⟨by omega, h, ?_⟩
    cases hl : lt d[first + root]! d[first + (2 * root + 1)]! <;> simp
theorem siftDown_ok {P : Program} (hm : P.follows .mixedOrders = true) {fz : List Nat} {n : Nat} (hc : compFn P fz n = some c_slices_siftDownCmpFunc_Entry) {α : Type} [Inhabited α] (F : Fam α) (co : α → α → Int) (g : Nat) (pre cap : List Ce) (hcmp : CmpsA P F co g pre cap) (d : Array α) (N lo hi first c : Nat) (zl zh zf : Int) (hl : zl = lo) (hh : zh = hi) (hf : zf = first) (hN : d.size = N) (h3 : first + hi ≤ N) (hlo : lo ≤ N) (hx : N ≤ 34359738368) :
    Ok P n [.c (.sl F.id F.v 0 N c), .c (.int .i64 zl), .c (.int .i64 zh), .c (.int .i64 zf), .c (.fn g pre cap)] (F.A d) (fun r τ => r = .tup [] ∧ τ = F.A (Go.Sort.siftDown (lessA co) hi first lo d)) := by
  refine .of_go hm hc (Nat.le_of_ble_eq_true rfl) ?_
  repeat' first|refine yaG ?_|(exfalso;omega)|(refine yaS ?_ ?_<;>intro _)
  refine Go.keep [0, 2, 3, 4, 10] (Go.loops (I := fun mm fr τ => ∃ (i : Nat) (z : Int) (q : Array α), mm = N + 1 + hi - i ∧ i ≤ N ∧ z = i ∧ q.size = N ∧ Go.Sort.siftDown (lessA co) hi first lo d = Go.Sort.siftDown (lessA co) hi first i q ∧
    fr = [(0, .c (.sl F.id F.v 0 N c)), (2, .c (.int .i64 zh)), (3, .c (.int .i64 zf)), (4, .c (.fn g pre cap)), (10, .c (.int .i64 z))] ∧ τ = F.A q) ?_ _ _ _ ⟨lo, _, d, rfl, hlo, hl, hN, rfl, rfl, rfl⟩)
  rintro mm fr τ ⟨i, z, q, rfl, hiN, hz, hq, hr, rfl, rfl⟩ hrec
  have em : IntKind.i64.wrap (2 * z) = ((2 * i : Nat) : Int) := by rw [wrap64 (by omega) (by omega)]; omega
  have ec : IntKind.i64.wrap (IntKind.i64.wrap (2 * z) + 1) = ((2 * i + 1 : Nat) : Int) := by rw [em, wrap64 (by omega) (by omega)]; omega
  by_cases hlt : 2 * i + 1 < hi
  · obtain ⟨k1, k2, k3⟩ := siftDown_child (lt := lessA co) (first := first) (d := q) hlt
    rw [k3] at hr
    clear k3
    generalize hch : childA (lessA co) hi first i q = ch at *
    rw [childA, lessA] at hch
    have er : IntKind.i64.wrap (zf + z) = ((first + i : Nat) : Int) := by rw [wrap64 (by omega) (by omega)]; omega
    have hri : first + i < q.size := by omega
    have hci : first + ch < q.size := by omega
    have h1i : first + (2 * i + 1) < q.size := by omega
    have ec1 : IntKind.i64.wrap (IntKind.i64.wrap (IntKind.i64.wrap (2 * z) + 1) + 1) = ((2 * i + 2 : Nat) : Int) := by rw [ec, wrap64 (by omega) (by omega)]; omega
    have ef1 : IntKind.i64.wrap (zf + IntKind.i64.wrap (IntKind.i64.wrap (2 * z) + 1)) = ((first + (2 * i + 1) : Nat) : Int) := by rw [ec, wrap64 (by omega) (by omega)]; omega
    have ef2 : IntKind.i64.wrap (IntKind.i64.wrap (zf + IntKind.i64.wrap (IntKind.i64.wrap (2 * z) + 1)) + 1) = ((first + (2 * i + 1) + 1 : Nat) : Int) := by rw [ef1, wrap64 (by omega) (by omega)]; omega
    obtain ⟨zc, hzc⟩ : ∃ zc, zc = IntKind.i64.wrap (IntKind.i64.wrap (2 * z) + 1) := ⟨_, rfl⟩
    repeat' first|(apply yA;exact rfl)|apply yC|((first|apply yD|apply yE);(first|exact yF|assumption);iterate 6 exact rfl)|((first|apply yG|apply yH|apply yI);exact rfl;(first|exact yJ|exact yK rfl rfl|exact yL rfl|exact yM rfl|exact rfl|exact aL rfl rfl rfl rfl rfl|exact aS rfl rfl rfl rfl rfl rfl rfl))|((first|apply yN|apply yO|apply yP);exact rfl)|(exfalso;omega)|(((first|apply yT|apply yU|apply yV|apply yW);exact rfl;(first|exact .d|exact .e|exact .n|((fail_if_success exact bqt);(fail_if_success exact bqf);exact .b)))<;>intro _)
    all_goals first
      | (exfalso; omega)
      | skip
    rw [← hzc] at ec ec1 ef1 ef2
    rw [← hzc]
    refine Go.meet (K' := [_, _]) (fun fr τ => ∃ zk : Int, zk = (ch : Int) ∧ fr = [(0, .c (.sl F.id F.v 0 N c)), (2, .c (.int .i64 zh)), (3, .c (.int .i64 zf)), (4, .c (.fn g pre cap)), (10, .c (.int .i64 z)), (11, .c (.int .i64 zk))] ∧ τ = F.A q) (fun K hmt => ?_) ?_
    · by_cases h2 : 2 * i + 1 + 1 < hi
      · have h2i : first + (2 * i + 1) + 1 < q.size := by omega
        have cc := hcmp.at q q[first + (2 * i + 1)]! q[first + (2 * i + 1) + 1]!
        repeat' first|refine yaG ?_|((first|apply yG|apply yH|apply yI);exact rfl;(first|exact aop_ai (F := F) rfl rfl ef1 hq h1i|exact aop_ai (F := F) rfl rfl ef2 hq h2i|exact aop_al (F := F) rfl h1i|exact aop_al (F := F) rfl h2i))|(exfalso;omega)|(refine yaS ?_ ?_<;>intro _)
        all_goals first
          | (exfalso; omega)
          | skip
        refine Go.scall _ rfl rfl rfl cc ?_
        rintro r τ ⟨rfl, rfl⟩
        generalize co q[first + (2 * i + 1)]! q[first + (2 * i + 1) + 1]! = o at hch
        by_cases ho : o < 0
        · rw [if_pos (by simp [ho, h2])] at hch
          repeat' first|refine yaG ?_|(exfalso;omega)|(refine yaS ?_ ?_<;>intro _)
          all_goals first
            | (exfalso; omega)
            | skip
          exact Go.keep [0, 2, 3, 4, 10, 11] (hmt _ _ ⟨_, by omega, rfl, rfl⟩)
        · rw [if_neg (by simp [ho])] at hch
          repeat' first|refine yaG ?_|(exfalso;omega)|(refine yaS ?_ ?_<;>intro _)
          all_goals first
            | (exfalso; omega)
            | skip
          exact Go.keep [0, 2, 3, 4, 10, 11] (hmt _ _ ⟨_, by omega, rfl, rfl⟩)
      · rw [if_neg (by simp; omega)] at hch
        repeat' first|refine yaG ?_|(exfalso;omega)|(refine yaS ?_ ?_<;>intro _)
        all_goals first
          | (exfalso; omega)
          | skip
        exact Go.keep [0, 2, 3, 4, 10, 11] (hmt _ _ ⟨_, by omega, rfl, rfl⟩)
    · rintro fr τ ⟨zk, hzk, rfl, rfl⟩
      have ek : IntKind.i64.wrap (zf + zk) = ((first + ch : Nat) : Int) := by rw [wrap64 (by omega) (by omega)]; omega
      have cc := hcmp.at q q[first + i]! q[first + ch]!
      repeat' first|refine yaG ?_|((first|apply yG|apply yH|apply yI);exact rfl;(first|exact aop_ai (F := F) rfl rfl er hq hri|exact aop_ai (F := F) rfl rfl ek hq hci|exact aop_al (F := F) rfl hri|exact aop_al (F := F) rfl hci))|(exfalso;omega)|(refine yaS ?_ ?_<;>intro _)
      refine Go.scall _ rfl rfl rfl cc ?_
      rintro r τ ⟨rfl, rfl⟩
      rw [lessA] at hr
      generalize co q[first + i]! q[first + ch]! = o at hr
      by_cases ho : o < 0
      · rw [if_pos (by simp [ho])] at hr
        repeat' first|(apply yA;exact rfl)|apply yC|((first|apply yD|apply yE);(first|exact yF|assumption);iterate 6 exact rfl)|((first|apply yG|apply yH|apply yI);exact rfl;(first|exact yJ|exact yK rfl rfl|exact yL rfl|exact yM rfl|exact rfl|exact aL rfl rfl rfl rfl rfl|exact aS rfl rfl rfl rfl rfl rfl rfl))|((first|apply yN|apply yO|apply yP);exact rfl)|(exfalso;omega)|(((first|apply yT|apply yU|apply yV|apply yW);exact rfl;(first|exact .d|exact .e|exact .n|((fail_if_success exact bqt);(fail_if_success exact bqf);exact .b)))<;>intro _)
        all_goals first
          | (exfalso; omega)
          | (exfalso; rename_i hbad; rw [decide_eq_true ho] at hbad; cases hbad; done)
          | (exfalso; rename_i hbad; rw [decide_eq_false ho] at hbad; cases hbad; done)
          | skip
        refine Go.qw (fun F' τ => Go P (F.A d).next _ _ _ (.segs _ :: _) F' τ) ?_ fun _ _ h => h
        repeat' first|(apply Qw.op;exact rfl;exact fun _ => rfl)|(apply Qw.rd;exact rfl;exact rfl;first|exact aop_ai (F := F) rfl rfl er hq hri|exact aop_ai (F := F) rfl rfl ek hq hci|exact aop_al (F := F) rfl hri|exact aop_al (F := F) rfl hci)|(apply Qw.wr;exact rfl;exact rfl;exact aop_as (F := F) rfl rfl hri)|apply Qw.nil
        repeat' first|refine yaG ?_|((first|apply yG|apply yH|apply yI);exact rfl;(first|exact aop_ai (F := F) rfl rfl ek (Array.size_setIfInBounds.trans hq) (by rw [Array.size_setIfInBounds];exact hci)|exact aop_as (F := F) rfl rfl (by rw [Array.size_setIfInBounds];exact hci)))|(exfalso;omega)|(refine yaS ?_ ?_<;>intro _)
        refine Go.keep [0, 2, 3, 4, 10] (hrec _ _ _ (by omega) ⟨ch, _, swp q (first + i) (first + ch), rfl, by omega, hzk, swp_len.trans hq, hr, rfl, rfl⟩)
      · rw [if_neg (by simp [ho])] at hr
        repeat' first|refine yaG ?_|(exfalso;omega)|(refine yaS ?_ ?_<;>intro _)
        all_goals first
          | (exfalso; omega)
          | (exfalso; rename_i hbad; rw [decide_eq_false ho] at hbad; cases hbad; done)
          | skip
        first
          | exact .ret rfl ⟨rfl, by rw [hr]⟩
          | exact .fin rfl ⟨rfl, by rw [hr]⟩
  · repeat' first|refine yaG ?_|(exfalso;omega)|(refine yaS ?_ ?_<;>intro _)
    all_goals first
      | (exfalso; omega)
      | skip
    rw [Go.Sort.siftDown.eq_1 (lessA co) hi first i q, dif_pos (by omega)] at hr
    exact .fin rfl ⟨rfl, by rw [hr]⟩
theorem heapBuild_len {α : Type} [Inhabited α] {lt : α → α → Bool} {hi first : Nat} : ∀ (k : Nat) (d : Array α), (Go.Sort.heapBuild lt hi first k d).size = d.size
  | 0, d => rfl
  | k + 1, d => by rw [Go.Sort.heapBuild, heapBuild_len k, siftDown_len _ _ _ (Nat.le_refl _)]
theorem heapSort_ok {P : Program} (hm : P.follows .mixedOrders = true) {fz : List Nat} {n : Nat} (hc : compFn P fz n = some c_slices_heapSortCmpFunc_Entry) {α : Type} [Inhabited α] (F : Fam α) {fz' : List Nat} (hc' : compFn P fz' 229 = some c_slices_siftDownCmpFunc_Entry) (co : α → α → Int) (g : Nat) (pre cap : List Ce) (hcmp : CmpsA P F co g pre cap) (d : Array α) (N a b c : Nat) (za zb : Int) (ha : za = a) (hb : zb = b) (hN : d.size = N) (hab : a < b) (h3 : b ≤ N) (hx : N ≤ 34359738368) :
    Ok P n [.c (.sl F.id F.v 0 N c), .c (.int .i64 za), .c (.int .i64 zb), .c (.fn g pre cap)] (F.A d) (fun r τ => r = .tup [] ∧ τ = F.A (Go.Sort.heapSort (lessA co) d a b)) := by
  refine .of_go hm hc (Nat.le_of_ble_eq_true rfl) ?_
  rw [Go.Sort.heapSort]
  have e1 : IntKind.i64.wrap (zb - za) = ((b - a : Nat) : Int) := by rw [wrap64 (by omega) (by omega)]; omega
  have e2 : IntKind.i64.wrap (IntKind.i64.wrap (zb - za) - 1) = ((b - a - 1 : Nat) : Int) := by rw [e1, wrap64 (by omega) (by omega)]; omega
  have e3 : IntKind.i64.wrap ((IntKind.i64.wrap (IntKind.i64.wrap (zb - za) - 1)).tdiv 2) = (((b - a - 1) / 2 : Nat) : Int) := by rw [e2, Int.tdiv_eq_ediv_of_nonneg (by omega), wrap64 (by omega) (by omega)]; omega
  repeat' first|refine yaG ?_|(exfalso;omega)|(refine yaS ?_ ?_<;>intro _)
  refine Go.keep [0, 3, 8, 9, 10, 11] ?_
  refine Go.meet (K' := [_, _]) (fun fr τ => fr = [(0, .c (.sl F.id F.v 0 N c)), (3, .c (.fn g pre cap)), (8, .c (.int .i64 za)), (9, .c (.int .i64 0)), (10, .c (.int .i64 (IntKind.i64.wrap (zb - za))))] ∧ τ = F.A (Go.Sort.heapBuild (lessA co) (b - a) a ((b - a - 1) / 2 + 1) d)) (fun K hmt => ?_) ?_
  · refine Go.loops (I := fun mm fr τ => ∃ (k : Nat) (z : Int) (q : Array α), mm = k ∧ k ≤ (b - a - 1) / 2 + 1 ∧ z + 1 = k ∧ q.size = N ∧ Go.Sort.heapBuild (lessA co) (b - a) a ((b - a - 1) / 2 + 1) d = Go.Sort.heapBuild (lessA co) (b - a) a k q ∧
      fr = [(0, .c (.sl F.id F.v 0 N c)), (3, .c (.fn g pre cap)), (8, .c (.int .i64 za)), (9, .c (.int .i64 0)), (10, .c (.int .i64 (IntKind.i64.wrap (zb - za)))), (11, .c (.int .i64 z))] ∧ τ = F.A q) ?_ _ _ _ ⟨(b - a - 1) / 2 + 1, _, d, rfl, Nat.le_refl _, by rw [e3]; rfl, hN, rfl, rfl, rfl⟩
    rintro mm fr τ ⟨k, z, q, hmk, hk, hz, hq, hr, rfl, rfl⟩ hrec
    cases k with
    | zero =>
      repeat' first|refine yaG ?_|(exfalso;omega)|(refine yaS ?_ ?_<;>intro _)
      all_goals first
        | (exfalso; omega)
        | skip
      exact Go.keep [0, 3, 8, 9, 10] (hmt _ _ ⟨rfl, by rw [hr]; rfl⟩)
    | succ k =>
      rw [Go.Sort.heapBuild] at hr
      have cs := siftDown_ok hm hc' F co g pre cap hcmp q N k (b - a) a c z (IntKind.i64.wrap (zb - za)) za (by omega) e1 ha hq (by omega) (by omega) hx
      repeat' first|refine yaG ?_|(exfalso;omega)|(refine yaS ?_ ?_<;>intro _)
      all_goals first
        | (exfalso; omega)
        | skip
      refine .call _ rfl rfl rfl cs ?_
      rintro r τ ⟨rfl, rfl⟩
      repeat' first|refine yaG ?_|(exfalso;omega)|(refine yaS ?_ ?_<;>intro _)
      exact Go.keep [0, 3, 8, 9, 10, 11] (hrec k _ _ (by omega) ⟨k, _, _, rfl, by omega, by rw [wrap64 (by omega) (by omega)]; omega, (siftDown_len _ _ _ (Nat.le_refl _)).trans hq, hr, rfl, rfl⟩)
  · rintro fr τ ⟨rfl, rfl⟩
    have hB : (Go.Sort.heapBuild (lessA co) (b - a) a ((b - a - 1) / 2 + 1) d).size = N := (heapBuild_len _ _).trans hN
    generalize Go.Sort.heapBuild (lessA co) (b - a) a ((b - a - 1) / 2 + 1) d = B at hB ⊢
    repeat' first|refine yaG ?_|(exfalso;omega)|(refine yaS ?_ ?_<;>intro _)
    refine Go.keep [0, 3, 8, 9, 12] (Go.loops (I := fun mm fr τ => ∃ (k : Nat) (z : Int) (q : Array α), mm = k ∧ k ≤ b - a ∧ z + 1 = k ∧ q.size = N ∧ Go.Sort.heapPop (lessA co) a (b - a) B = Go.Sort.heapPop (lessA co) a k q ∧
      fr = [(0, .c (.sl F.id F.v 0 N c)), (3, .c (.fn g pre cap)), (8, .c (.int .i64 za)), (9, .c (.int .i64 0)), (12, .c (.int .i64 z))] ∧ τ = F.A q) ?_ _ _ _ ⟨b - a, _, B, rfl, Nat.le_refl _, by rw [e2]; omega, hB, rfl, rfl, rfl⟩)
    rintro mm fr τ ⟨k, z, q, hmk, hk, hz, hq, hr, rfl, rfl⟩ hrec
    cases k with
    | zero =>
      repeat' first|refine yaG ?_|(exfalso;omega)|(refine yaS ?_ ?_<;>intro _)
      all_goals first
        | (exfalso; omega)
        | skip
      exact .fin rfl ⟨rfl, by rw [hr]; rfl⟩
    | succ k =>
      rw [Go.Sort.heapPop] at hr
      have e4 : IntKind.i64.wrap (za + z) = ((a + k : Nat) : Int) := by rw [wrap64 (by omega) (by omega)]; omega
      have ha0 : a < q.size := by omega
      have hk0 : a + k < q.size := by omega
      have cs := siftDown_ok hm hc' F co g pre cap hcmp (swp q a (a + k)) N 0 k a c 0 z za rfl (by omega) ha (swp_len.trans hq) (by omega) (by omega) hx
      repeat' first|(apply yA;exact rfl)|apply yC|((first|apply yD|apply yE);(first|exact yF|assumption);iterate 6 exact rfl)|((first|apply yG|apply yH|apply yI);exact rfl;(first|exact yJ|exact yK rfl rfl|exact yL rfl|exact yM rfl|exact rfl|exact aL rfl rfl rfl rfl rfl|exact aS rfl rfl rfl rfl rfl rfl rfl))|((first|apply yN|apply yO|apply yP);exact rfl)|(exfalso;omega)|(((first|apply yT|apply yU|apply yV|apply yW);exact rfl;(first|exact .d|exact .e|exact .n|((fail_if_success exact bqt);(fail_if_success exact bqf);exact .b)))<;>intro _)
      all_goals first
        | (exfalso; omega)
        | skip
      refine Go.qw (fun F' τ => Go P (F.A d).next _ _ _ (.segs _ :: _) F' τ) ?_ fun _ _ h => h
      repeat' first|(apply Qw.op;exact rfl;exact fun _ => rfl)|(apply Qw.rd;exact rfl;exact rfl;first|exact aop_ai (F := F) rfl rfl ha hq ha0|exact aop_ai (F := F) rfl rfl e4 hq hk0|exact aop_al (F := F) rfl ha0|exact aop_al (F := F) rfl hk0)|(apply Qw.wr;exact rfl;exact rfl;exact aop_as (F := F) rfl rfl ha0)|apply Qw.nil
      repeat' first|refine yaG ?_|((first|apply yG|apply yH|apply yI);exact rfl;(first|exact aop_ai (F := F) rfl rfl e4 (Array.size_setIfInBounds.trans hq) (by rw [Array.size_setIfInBounds];exact hk0)|exact aop_as (F := F) rfl rfl (by rw [Array.size_setIfInBounds];exact hk0)))|(exfalso;omega)|(refine yaS ?_ ?_<;>intro _)
      refine .call _ rfl rfl rfl cs ?_
      rintro r τ ⟨rfl, rfl⟩
      repeat' first|refine yaG ?_|(exfalso;omega)|(refine yaS ?_ ?_<;>intro _)
      exact Go.keep [0, 3, 8, 9, 12] (hrec k _ _ (by omega) ⟨k, _, _, rfl, by omega, by rw [wrap64 (by omega) (by omega)]; omega, (siftDown_len _ _ _ (Nat.le_refl _)).trans (swp_len.trans hq), hr, rfl, rfl⟩)
end Go.Proofs.YtdgnfdljkghpjaaGreat.Am

/- pdqsort's functions walked: the partial insertion sort. -/
set_option linter.unusedVariables false
set_option linter.unusedSimpArgs false
namespace Go.Proofs.YtdgnfdljkghpjaaGreat.Am
open Go.Sort (swp)

theorem shiftDown_size {α : Type} [Inhabited α] {lt : α → α → Bool} : ∀ (j : Nat) (d : Array α), (Go.Sort.shiftDown lt j d).size = d.size
  | 0, d => rfl
  | j + 1, d => by
    rw [Go.Sort.shiftDown]
    split
    · rfl
    · rw [shiftDown_size j, swp_len]
theorem shiftUp_size {α : Type} [Inhabited α] {lt : α → α → Bool} {b : Nat} : ∀ (n j : Nat) (d : Array α), b - j ≤ n → (Go.Sort.shiftUp lt b j d).size = d.size
  | 0, j, d, h => by rw [Go.Sort.shiftUp.eq_1, if_neg (by omega)]
  | n + 1, j, d, h => by
    rw [Go.Sort.shiftUp.eq_1]
    split
    · split
      · rfl
      · rw [shiftUp_size n _ _ (by omega), swp_len]
    · rfl
theorem fixDown_size {α : Type} [Inhabited α] {lt : α → α → Bool} {a i : Nat} {d : Array α} : (Go.Sort.fixDown lt a i d).size = d.size := by
  rw [Go.Sort.fixDown]
  split
  · exact shiftDown_size _ _
  · rfl
theorem fixUp_size {α : Type} [Inhabited α] {lt : α → α → Bool} {b i : Nat} {d : Array α} : (Go.Sort.fixUp lt b i d).size = d.size := by
  rw [Go.Sort.fixUp]
  split
  · exact shiftUp_size _ _ _ (Nat.le_refl _)
  · rfl
theorem partial_ok {P : Program} (hm : P.follows .mixedOrders = true) {fz : List Nat} {n : Nat} (hc : compFn P fz n = some c_slices_partialInsertionSortCmpFunc_Entry) {α : Type} [Inhabited α] (F : Fam α) (co : α → α → Int) (g : Nat) (pre cap : List Ce) (hcmp : CmpsA P F co g pre cap) (d : Array α) (N a b c : Nat) (za zb : Int) (ha : za = a) (hb : zb = b) (hN : d.size = N) (hab : a < b) (h3 : b ≤ N) (hx : N ≤ 34359738368) :
    Ok P n [.c (.sl F.id F.v 0 N c), .c (.int .i64 za), .c (.int .i64 zb), .c (.fn g pre cap)] (F.A d) (fun r τ => r = .c (.bool (Go.Sort.partialInsertionSort (lessA co) d a b).2) ∧ τ = F.A (Go.Sort.partialInsertionSort (lessA co) d a b).1) := by
  refine .of_go hm hc (Nat.le_of_ble_eq_true rfl) ?_
  rw [Go.Sort.partialInsertionSort]
  have e1 : IntKind.i64.wrap (za + 1) = ((a + 1 : Nat) : Int) := by rw [wrap64 (by omega) (by omega)]; omega
  have eba : IntKind.i64.wrap (zb - za) = ((b - a : Nat) : Int) := by rw [wrap64 (by omega) (by omega)]; omega
  repeat' first|refine yaG ?_|(exfalso;omega)|(refine yaS ?_ ?_<;>intro _)
  refine Go.keep [0, 1, 2, 3, 9, 10] (Go.loops (I := fun mm fr τ => ∃ (s i : Nat) (z zj : Int) (q : Array α), mm = s ∧ s ≤ 5 ∧ zj + s = 5 ∧ z = i ∧ a < i ∧ i ≤ b ∧ q.size = N ∧ Go.Sort.partialIns (lessA co) a b 5 (a + 1) d = Go.Sort.partialIns (lessA co) a b s i q ∧
    fr = [(0, .c (.sl F.id F.v 0 N c)), (1, .c (.int .i64 za)), (2, .c (.int .i64 zb)), (3, .c (.fn g pre cap)), (9, .c (.int .i64 z)), (10, .c (.int .i64 zj))] ∧ τ = F.A q) ?_ _ _ _ ⟨5, a + 1, _, _, d, rfl, Nat.le_refl _, rfl, e1, by omega, by omega, hN, rfl, rfl, rfl⟩)
  rintro mm fr τ ⟨s, i, z, zj, q, hmm, hs, hzj, hz, hai, hib, hq, hr, rfl, rfl⟩ hrec
  cases s with
  | zero =>
    repeat' first|refine yaG ?_|(exfalso;omega)|(refine yaS ?_ ?_<;>intro _)
    all_goals first
      | (exfalso; omega)
      | skip
    exact .ret rfl ⟨by rw [hr]; rfl, by rw [hr]; rfl⟩
  | succ s =>
    rw [Go.Sort.partialIns_succ a b s i q] at hr
    repeat' first|refine yaG ?_|(exfalso;omega)|(refine yaS ?_ ?_<;>intro _)
    all_goals first
      | (exfalso; omega)
      | skip
    refine Go.meet (K' := [_, _]) (fun fr τ => ∃ (k : Nat) (zk : Int), i ≤ k ∧ k ≤ b ∧ zk = k ∧ Go.Sort.scanSorted (lessA co) q b i = k ∧ fr = [(0, .c (.sl F.id F.v 0 N c)), (1, .c (.int .i64 za)), (2, .c (.int .i64 zb)), (3, .c (.fn g pre cap)), (9, .c (.int .i64 zk)), (10, .c (.int .i64 zj))] ∧ τ = F.A q) (fun K hmt => ?_) ?_
    · refine Go.keep [0, 1, 2, 3, 9, 10] (Go.loops (I := fun mm fr τ => ∃ (k : Nat) (zk : Int), mm = b - k ∧ i ≤ k ∧ k ≤ b ∧ zk = k ∧ Go.Sort.scanSorted (lessA co) q b i = Go.Sort.scanSorted (lessA co) q b k ∧
        fr = [(0, .c (.sl F.id F.v 0 N c)), (1, .c (.int .i64 za)), (2, .c (.int .i64 zb)), (3, .c (.fn g pre cap)), (9, .c (.int .i64 zk)), (10, .c (.int .i64 zj))] ∧ τ = F.A q) ?_ _ _ _ ⟨i, _, rfl, Nat.le_refl _, hib, hz, rfl, rfl, rfl⟩)
      clear hrec
      rintro mm fr τ ⟨k, zk, rfl, hik, hkb, hzk, hsc, rfl, rfl⟩ hrec
      rw [Go.Sort.scanSorted.eq_1 (lessA co) q b k] at hsc
      by_cases hlt : k < b
      · have hk1 : k < q.size := by omega
        have hk0 : k - 1 < q.size := by omega
        have ek : IntKind.i64.wrap (zk - 1) = ((k - 1 : Nat) : Int) := by rw [wrap64 (by omega) (by omega)]; omega
        have cc := hcmp.at q q[k]! q[k - 1]!
        rw [lessA] at hsc
        repeat' first|refine yaG ?_|((first|apply yG|apply yH|apply yI);exact rfl;(first|exact aop_ai (F := F) rfl rfl hzk hq hk1|exact aop_ai (F := F) rfl rfl ek hq hk0|exact aop_al (F := F) rfl hk1|exact aop_al (F := F) rfl hk0))|(exfalso;omega)|(refine yaS ?_ ?_<;>intro _)
        all_goals first
          | (exfalso; omega)
          | skip
        refine Go.scall _ rfl rfl rfl cc ?_
        rintro r τ ⟨rfl, rfl⟩
        generalize co q[k]! q[k - 1]! = o at hsc
        by_cases ho : o < 0
        · rw [if_neg (by simp [ho])] at hsc
          repeat' first|refine yaG ?_|(exfalso;omega)|(refine yaS ?_ ?_<;>intro _)
          all_goals first
            | (exfalso; omega)
            | (exfalso; rename_i hbad; rw [decide_eq_true ho] at hbad; cases hbad; done)
            | (exfalso; rename_i hbad; rw [decide_eq_false ho] at hbad; cases hbad; done)
            | skip
          exact Go.keep [0, 1, 2, 3, 9, 10] (hmt _ _ ⟨k, _, hik, hkb, hzk, hsc, rfl, rfl⟩)
        · rw [if_pos (by simp [ho, hlt])] at hsc
          repeat' first|refine yaG ?_|(exfalso;omega)|(refine yaS ?_ ?_<;>intro _)
          all_goals first
            | (exfalso; omega)
            | (exfalso; rename_i hbad; rw [decide_eq_true ho] at hbad; cases hbad; done)
            | (exfalso; rename_i hbad; rw [decide_eq_false ho] at hbad; cases hbad; done)
            | skip
          exact Go.keep [0, 1, 2, 3, 9, 10] (hrec _ _ _ (by omega) ⟨k + 1, _, rfl, by omega, by omega, wrap_succ hzk (by omega), hsc, rfl, rfl⟩)
      · rw [if_neg (by simp; omega)] at hsc
        repeat' first|refine yaG ?_|(exfalso;omega)|(refine yaS ?_ ?_<;>intro _)
        all_goals first
          | (exfalso; omega)
          | skip
        exact Go.keep [0, 1, 2, 3, 9, 10] (hmt _ _ ⟨k, _, hik, hkb, hzk, hsc, rfl, rfl⟩)
    · rintro fr τ ⟨k, zk, hik, hkb, hzk, hsc, rfl, rfl⟩
      rw [hsc] at hr
      by_cases hkb2 : k = b
      · rw [if_pos hkb2] at hr
        repeat' first|refine yaG ?_|(exfalso;omega)|(refine yaS ?_ ?_<;>intro _)
        all_goals first
          | (exfalso; omega)
          | skip
        exact .ret rfl ⟨by rw [hr], by rw [hr]⟩
      rw [if_neg hkb2] at hr
      by_cases h50 : b - a < 50
      · rw [if_pos h50] at hr
        repeat' first|refine yaG ?_|(exfalso;omega)|(refine yaS ?_ ?_<;>intro _)
        all_goals first
          | (exfalso; omega)
          | skip
        exact .ret rfl ⟨by rw [hr], by rw [hr]⟩
      rw [if_neg h50] at hr
      have hk1 : k < q.size := by omega
      have hk0 : k - 1 < q.size := by omega
      have ek : IntKind.i64.wrap (zk - 1) = ((k - 1 : Nat) : Int) := by rw [wrap64 (by omega) (by omega)]; omega
      have eka : IntKind.i64.wrap (zk - za) = ((k - a : Nat) : Int) := by rw [wrap64 (by omega) (by omega)]; omega
      have ebk : IntKind.i64.wrap (zb - zk) = ((b - k : Nat) : Int) := by rw [wrap64 (by omega) (by omega)]; omega
      repeat' first|(apply yA;exact rfl)|apply yC|((first|apply yD|apply yE);(first|exact yF|assumption);iterate 6 exact rfl)|((first|apply yG|apply yH|apply yI);exact rfl;(first|exact yJ|exact yK rfl rfl|exact yL rfl|exact yM rfl|exact rfl|exact aL rfl rfl rfl rfl rfl|exact aS rfl rfl rfl rfl rfl rfl rfl))|((first|apply yN|apply yO|apply yP);exact rfl)|(exfalso;omega)|(((first|apply yT|apply yU|apply yV|apply yW);exact rfl;(first|exact .d|exact .e|exact .n|((fail_if_success exact bqt);(fail_if_success exact bqf);exact .b)))<;>intro _)
      all_goals first
        | (exfalso; omega)
        | skip
      refine Go.qw (fun F' τ => Go P (F.A d).next _ _ _ (.segs _ :: _) F' τ) ?_ fun _ _ h => h
      repeat' first|(apply Qw.op;exact rfl;exact fun _ => rfl)|(apply Qw.rd;exact rfl;exact rfl;first|exact aop_ai (F := F) rfl rfl hzk hq hk1|exact aop_ai (F := F) rfl rfl ek hq hk0|exact aop_al (F := F) rfl hk1|exact aop_al (F := F) rfl hk0)|(apply Qw.wr;exact rfl;exact rfl;exact aop_as (F := F) rfl rfl hk1)|apply Qw.nil
      repeat' first|refine yaG ?_|((first|apply yG|apply yH|apply yI);exact rfl;(first|exact aop_ai (F := F) rfl rfl ek (Array.size_setIfInBounds.trans hq) (by rw [Array.size_setIfInBounds];exact hk0)|exact aop_as (F := F) rfl rfl (by rw [Array.size_setIfInBounds];exact hk0)))
      have hq1 : (swp q k (k - 1)).size = N := swp_len.trans hq
      clear hk1 hk0 hsc
      rw [swp_is]
      generalize swp q k (k - 1) = q1 at hq1 hr ⊢
      clear hq
      refine Go.meet (K' := [_]) (fun fr τ => fr = [(0, .c (.sl F.id F.v 0 N c)), (1, .c (.int .i64 za)), (2, .c (.int .i64 zb)), (3, .c (.fn g pre cap)), (9, .c (.int .i64 zk)), (10, .c (.int .i64 zj))] ∧ τ = F.A (Go.Sort.fixDown (lessA co) a k q1)) (fun K hmt => ?_) ?_
      · clear hrec hr
        rw [Go.Sort.fixDown] at hmt
        by_cases h2 : k - a ≥ 2
        · rw [if_pos h2] at hmt
          repeat' first|refine yaG ?_|(exfalso;omega)|(refine yaS ?_ ?_<;>intro _)
          all_goals first
            | (exfalso; omega)
            | skip
          refine Go.keep [0, 1, 2, 3, 9, 10, 11] (Go.loops (I := fun mm fr τ => ∃ (j : Nat) (zi : Int) (u : Array α), mm = j ∧ j ≤ k ∧ zi = j ∧ u.size = N ∧ Go.Sort.shiftDown (lessA co) (k - 1) q1 = Go.Sort.shiftDown (lessA co) j u ∧
            fr = [(0, .c (.sl F.id F.v 0 N c)), (1, .c (.int .i64 za)), (2, .c (.int .i64 zb)), (3, .c (.fn g pre cap)), (9, .c (.int .i64 zk)), (10, .c (.int .i64 zj)), (11, .c (.int .i64 zi))] ∧ τ = F.A u) ?_ _ _ _ ⟨k - 1, _, q1, rfl, by omega, ek, hq1, rfl, rfl, rfl⟩)
          rintro mm fr τ ⟨j, zi, u, hmm, hjk, hzi, hu, hsd, rfl, rfl⟩ hrec
          cases j with
          | zero =>
            repeat' first|refine yaG ?_|(exfalso;omega)|(refine yaS ?_ ?_<;>intro _)
            all_goals first
              | (exfalso; omega)
              | skip
            exact Go.keep [0, 1, 2, 3, 9, 10] (hmt _ _ ⟨rfl, by rw [hsd]; rfl⟩)
          | succ j =>
            rw [Go.Sort.shiftDown] at hsd
            have hj1 : j + 1 < u.size := by omega
            have hj0 : j < u.size := by omega
            have ej : IntKind.i64.wrap (zi - 1) = (j : Int) := by rw [wrap64 (by omega) (by omega)]; omega
            have cc := hcmp.at u u[j + 1]! u[j]!
            rw [lessA] at hsd
            repeat' first|refine yaG ?_|((first|apply yG|apply yH|apply yI);exact rfl;(first|exact aop_ai (F := F) rfl rfl hzi hu hj1|exact aop_ai (F := F) rfl rfl ej hu hj0|exact aop_al (F := F) rfl hj1|exact aop_al (F := F) rfl hj0))|(exfalso;omega)|(refine yaS ?_ ?_<;>intro _)
            all_goals first
              | (exfalso; omega)
              | skip
            refine Go.scall _ rfl rfl rfl cc ?_
            rintro r τ ⟨rfl, rfl⟩
            generalize co u[j + 1]! u[j]! = o at hsd
            by_cases ho : o < 0
            · rw [if_neg (by simp [ho])] at hsd
              repeat' first|(apply yA;exact rfl)|apply yC|((first|apply yD|apply yE);(first|exact yF|assumption);iterate 6 exact rfl)|((first|apply yG|apply yH|apply yI);exact rfl;(first|exact yJ|exact yK rfl rfl|exact yL rfl|exact yM rfl|exact rfl|exact aL rfl rfl rfl rfl rfl|exact aS rfl rfl rfl rfl rfl rfl rfl))|((first|apply yN|apply yO|apply yP);exact rfl)|(exfalso;omega)|(((first|apply yT|apply yU|apply yV|apply yW);exact rfl;(first|exact .d|exact .e|exact .n|((fail_if_success exact bqt);(fail_if_success exact bqf);exact .b)))<;>intro _)
              all_goals first
                | (exfalso; omega)
                | (exfalso; rename_i hbad; rw [decide_eq_true ho] at hbad; cases hbad; done)
                | (exfalso; rename_i hbad; rw [decide_eq_false ho] at hbad; cases hbad; done)
                | skip
              refine Go.qw (fun F' τ => Go P (F.A d).next _ _ _ (.segs _ :: _) F' τ) ?_ fun _ _ h => h
              repeat' first|(apply Qw.op;exact rfl;exact fun _ => rfl)|(apply Qw.rd;exact rfl;exact rfl;first|exact aop_ai (F := F) rfl rfl hzi hu hj1|exact aop_ai (F := F) rfl rfl ej hu hj0|exact aop_al (F := F) rfl hj1|exact aop_al (F := F) rfl hj0)|(apply Qw.wr;exact rfl;exact rfl;exact aop_as (F := F) rfl rfl hj1)|apply Qw.nil
              repeat' first|refine yaG ?_|((first|apply yG|apply yH|apply yI);exact rfl;(first|exact aop_ai (F := F) rfl rfl ej (Array.size_setIfInBounds.trans hu) (by rw [Array.size_setIfInBounds];exact hj0)|exact aop_as (F := F) rfl rfl (by rw [Array.size_setIfInBounds];exact hj0)))|(exfalso;omega)|(refine yaS ?_ ?_<;>intro _)
              exact Go.keep [0, 1, 2, 3, 9, 10, 11] (hrec j _ _ (by omega) ⟨j, _, swp u (j + 1) j, rfl, by omega, ej, swp_len.trans hu, hsd, rfl, rfl⟩)
            · rw [if_pos (by simp [ho])] at hsd
              repeat' first|refine yaG ?_|(exfalso;omega)|(refine yaS ?_ ?_<;>intro _)
              all_goals first
                | (exfalso; omega)
                | (exfalso; rename_i hbad; rw [decide_eq_true ho] at hbad; cases hbad; done)
                | (exfalso; rename_i hbad; rw [decide_eq_false ho] at hbad; cases hbad; done)
                | skip
              exact Go.keep [0, 1, 2, 3, 9, 10] (hmt _ _ ⟨rfl, by rw [hsd]⟩)
        · rw [if_neg h2] at hmt
          repeat' first|refine yaG ?_|(exfalso;omega)|(refine yaS ?_ ?_<;>intro _)
          all_goals first
            | (exfalso; omega)
            | skip
          exact Go.keep [0, 1, 2, 3, 9, 10] (hmt _ _ ⟨rfl, rfl⟩)
      · rintro fr τ ⟨rfl, rfl⟩
        have hq2 : (Go.Sort.fixDown (lessA co) a k q1).size = N := fixDown_size.trans hq1
        generalize Go.Sort.fixDown (lessA co) a k q1 = q2 at hq2 hr ⊢
        have hq3 : (Go.Sort.fixUp (lessA co) b k q2).size = N := fixUp_size.trans hq2
        have fin : ∀ fr τ, fr = [(0, AV.c (.sl F.id F.v 0 N c)), (1, .c (.int .i64 za)), (2, .c (.int .i64 zb)), (3, .c (.fn g pre cap)), (9, .c (.int .i64 zk)), (10, .c (.int .i64 (IntKind.i64.wrap (zj + 1))))] → τ = F.A (Go.Sort.fixUp (lessA co) b k q2) → _ := fun fr τ p1 p2 => hrec s fr τ (by omega) ⟨s, k, _, _, _, rfl, by omega, by rw [wrap64 (by omega) (by omega)]; omega, hzk, by omega, hkb, hq3, hr, p1, p2⟩
        clear hrec hr
        rw [Go.Sort.fixUp] at fin
        by_cases h2 : b - k ≥ 2
        · rw [if_pos h2] at fin
          have ek1 : IntKind.i64.wrap (zk + 1) = ((k + 1 : Nat) : Int) := by rw [wrap64 (by omega) (by omega)]; omega
          repeat' first|refine yaG ?_|(exfalso;omega)|(refine yaS ?_ ?_<;>intro _)
          all_goals first
            | (exfalso; omega)
            | skip
          refine Go.keep [0, 1, 2, 3, 9, 10, 12] (Go.loops (I := fun mm fr τ => ∃ (j : Nat) (zi : Int) (u : Array α), mm = b - j ∧ k < j ∧ j ≤ b ∧ zi = j ∧ u.size = N ∧ Go.Sort.shiftUp (lessA co) b (k + 1) q2 = Go.Sort.shiftUp (lessA co) b j u ∧
            fr = [(0, .c (.sl F.id F.v 0 N c)), (1, .c (.int .i64 za)), (2, .c (.int .i64 zb)), (3, .c (.fn g pre cap)), (9, .c (.int .i64 zk)), (10, .c (.int .i64 zj)), (12, .c (.int .i64 zi))] ∧ τ = F.A u) ?_ _ _ _ ⟨k + 1, _, q2, rfl, by omega, by omega, ek1, hq2, rfl, rfl, rfl⟩)
          rintro mm fr τ ⟨j, zi, u, rfl, hkj, hjb, hzi, hu, hsu, rfl, rfl⟩ hrec
          rw [Go.Sort.shiftUp.eq_1 (lessA co) b j u] at hsu
          by_cases hlt : j < b
          · rw [if_pos hlt] at hsu
            have hj1 : j < u.size := by omega
            have hj0 : j - 1 < u.size := by omega
            have ej : IntKind.i64.wrap (zi - 1) = ((j - 1 : Nat) : Int) := by rw [wrap64 (by omega) (by omega)]; omega
            have cc := hcmp.at u u[j]! u[j - 1]!
            rw [lessA] at hsu
            repeat' first|refine yaG ?_|((first|apply yG|apply yH|apply yI);exact rfl;(first|exact aop_ai (F := F) rfl rfl hzi hu hj1|exact aop_ai (F := F) rfl rfl ej hu hj0|exact aop_al (F := F) rfl hj1|exact aop_al (F := F) rfl hj0))|(exfalso;omega)|(refine yaS ?_ ?_<;>intro _)
            all_goals first
              | (exfalso; omega)
              | skip
            refine Go.scall _ rfl rfl rfl cc ?_
            rintro r τ ⟨rfl, rfl⟩
            generalize co u[j]! u[j - 1]! = o at hsu
            by_cases ho : o < 0
            · rw [if_neg (by simp [ho])] at hsu
              repeat' first|(apply yA;exact rfl)|apply yC|((first|apply yD|apply yE);(first|exact yF|assumption);iterate 6 exact rfl)|((first|apply yG|apply yH|apply yI);exact rfl;(first|exact yJ|exact yK rfl rfl|exact yL rfl|exact yM rfl|exact rfl|exact aL rfl rfl rfl rfl rfl|exact aS rfl rfl rfl rfl rfl rfl rfl))|((first|apply yN|apply yO|apply yP);exact rfl)|(exfalso;omega)|(((first|apply yT|apply yU|apply yV|apply yW);exact rfl;(first|exact .d|exact .e|exact .n|((fail_if_success exact bqt);(fail_if_success exact bqf);exact .b)))<;>intro _)
              all_goals first
                | (exfalso; omega)
                | (exfalso; rename_i hbad; rw [decide_eq_true ho] at hbad; cases hbad; done)
                | (exfalso; rename_i hbad; rw [decide_eq_false ho] at hbad; cases hbad; done)
                | skip
              refine Go.qw (fun F' τ => Go P (F.A d).next _ _ _ (.segs _ :: _) F' τ) ?_ fun _ _ h => h
              repeat' first|(apply Qw.op;exact rfl;exact fun _ => rfl)|(apply Qw.rd;exact rfl;exact rfl;first|exact aop_ai (F := F) rfl rfl hzi hu hj1|exact aop_ai (F := F) rfl rfl ej hu hj0|exact aop_al (F := F) rfl hj1|exact aop_al (F := F) rfl hj0)|(apply Qw.wr;exact rfl;exact rfl;exact aop_as (F := F) rfl rfl hj1)|apply Qw.nil
              repeat' first|refine yaG ?_|((first|apply yG|apply yH|apply yI);exact rfl;(first|exact aop_ai (F := F) rfl rfl ej (Array.size_setIfInBounds.trans hu) (by rw [Array.size_setIfInBounds];exact hj0)|exact aop_as (F := F) rfl rfl (by rw [Array.size_setIfInBounds];exact hj0)))|(exfalso;omega)|(refine yaS ?_ ?_<;>intro _)
              exact Go.keep [0, 1, 2, 3, 9, 10, 12] (hrec _ _ _ (by omega) ⟨j + 1, _, swp u j (j - 1), rfl, by omega, by omega, wrap_succ hzi (by omega), swp_len.trans hu, hsu, rfl, rfl⟩)
            · rw [if_pos (by simp [ho])] at hsu
              repeat' first|refine yaG ?_|(exfalso;omega)|(refine yaS ?_ ?_<;>intro _)
              all_goals first
                | (exfalso; omega)
                | (exfalso; rename_i hbad; rw [decide_eq_true ho] at hbad; cases hbad; done)
                | (exfalso; rename_i hbad; rw [decide_eq_false ho] at hbad; cases hbad; done)
                | skip
              exact Go.keep [0, 1, 2, 3, 9, 10] (fin _ _ rfl (by rw [hsu]))
          · rw [if_neg hlt] at hsu
            repeat' first|refine yaG ?_|(exfalso;omega)|(refine yaS ?_ ?_<;>intro _)
            all_goals first
              | (exfalso; omega)
              | skip
            exact Go.keep [0, 1, 2, 3, 9, 10] (fin _ _ rfl (by rw [hsu]))
        · rw [if_neg h2] at fin
          repeat' first|refine yaG ?_|(exfalso;omega)|(refine yaS ?_ ?_<;>intro _)
          all_goals first
            | (exfalso; omega)
            | skip
          exact Go.keep [0, 1, 2, 3, 9, 10] (fin _ _ rfl rfl)
end Go.Proofs.YtdgnfdljkghpjaaGreat.Am

/- pdqsort's functions walked: the partitions. -/
set_option linter.unusedVariables false
set_option linter.unusedSimpArgs false
namespace Go.Proofs.YtdgnfdljkghpjaaGreat.Am
open Go.Sort (swp)

theorem partEqual_ok {P : Program} (hm : P.follows .mixedOrders = true) {fz : List Nat} {n : Nat} (hc : compFn P fz n = some c_slices_partitionEqualCmpFunc_Entry) {α : Type} [Inhabited α] (F : Fam α) (co : α → α → Int) (g : Nat) (pre cap : List Ce) (hcmp : CmpsA P F co g pre cap) (d : Array α) (N a b pv c : Nat) (za zb zp : Int) (ha : za = a) (hb : zb = b) (hpv : zp = pv) (hN : d.size = N) (hab : a < b) (hp1 : pv < b) (h3 : b ≤ N) (hx : N ≤ 34359738368) :
    Ok P n [.c (.sl F.id F.v 0 N c), .c (.int .i64 za), .c (.int .i64 zb), .c (.int .i64 zp), .c (.fn g pre cap)] (F.A d) (fun r τ => r = .c (.int .i64 ((Go.Sort.partitionEqual (lessA co) d a b pv).1 : Nat)) ∧ τ = F.A (Go.Sort.partitionEqual (lessA co) d a b pv).2) := by
  refine .of_go hm hc (Nat.le_of_ble_eq_true rfl) ?_
  rw [Go.Sort.partitionEqual]
  have haq : a < d.size := by omega
  have hpq : pv < d.size := by omega
  have e1 : IntKind.i64.wrap (za + 1) = ((a + 1 : Nat) : Int) := by rw [wrap64 (by omega) (by omega)]; omega
  have e2 : IntKind.i64.wrap (zb - 1) = ((b - 1 : Nat) : Int) := by rw [wrap64 (by omega) (by omega)]; omega
  repeat' first|(apply yA;exact rfl)|apply yC|((first|apply yD|apply yE);(first|exact yF|assumption);iterate 6 exact rfl)|((first|apply yG|apply yH|apply yI);exact rfl;(first|exact yJ|exact yK rfl rfl|exact yL rfl|exact yM rfl|exact rfl|exact aL rfl rfl rfl rfl rfl|exact aS rfl rfl rfl rfl rfl rfl rfl))|((first|apply yN|apply yO|apply yP);exact rfl)|(exfalso;omega)|(((first|apply yT|apply yU|apply yV|apply yW);exact rfl;(first|exact .d|exact .e|exact .n|((fail_if_success exact bqt);(fail_if_success exact bqf);exact .b)))<;>intro _)
  refine Go.qw (fun F' τ => Go P (F.A d).next _ _ _ (.segs _ :: _) F' τ) ?_ fun _ _ h => h
  repeat' first|(apply Qw.op;exact rfl;exact fun _ => rfl)|(apply Qw.rd;exact rfl;exact rfl;first|exact aop_ai (F := F) rfl rfl ha hN haq|exact aop_ai (F := F) rfl rfl hpv hN hpq|exact aop_al (F := F) rfl haq|exact aop_al (F := F) rfl hpq)|(apply Qw.wr;exact rfl;exact rfl;exact aop_as (F := F) rfl rfl haq)|apply Qw.nil
  repeat' first|refine yaG ?_|((first|apply yG|apply yH|apply yI);exact rfl;(first|exact aop_ai (F := F) rfl rfl hpv (Array.size_setIfInBounds.trans hN) (by rw [Array.size_setIfInBounds];exact hpq)|exact aop_as (F := F) rfl rfl (by rw [Array.size_setIfInBounds];exact hpq)))|(exfalso;omega)|(refine yaS ?_ ?_<;>intro _)
  rw [swp_is]
  have hB : (swp d a pv).size = N := swp_len.trans hN
  obtain ⟨R0, hR0⟩ : ∃ R, R = Go.Sort.partEqLoop (lessA co) a (a + 1) (b - 1) (swp d a pv) := ⟨_, rfl⟩
  rw [← hR0]
  generalize swp d a pv = B at hB hR0 ⊢
  refine Go.keep [0, 1, 4, 11, 12] (Go.loops (I := fun mm fr τ => ∃ (i j : Nat) (zi zj : Int) (q : Array α), mm = j + 1 - i ∧ a < i ∧ i ≤ j + 1 ∧ j < b ∧ zi = i ∧ zj = j ∧ q.size = N ∧ R0 = Go.Sort.partEqLoop (lessA co) a i j q ∧
    fr = [(0, .c (.sl F.id F.v 0 N c)), (1, .c (.int .i64 za)), (4, .c (.fn g pre cap)), (11, .c (.int .i64 zi)), (12, .c (.int .i64 zj))] ∧ τ = F.A q) ?_ _ _ _ ⟨a + 1, b - 1, _, _, B, rfl, by omega, by omega, by omega, e1, e2, hB, hR0, rfl, rfl⟩)
  clear hR0 hB e1 e2 haq hpq
  rintro mm fr τ ⟨i, j, zi, zj, q, rfl, hai, hij, hjb, hzi, hzj, hq, hr, rfl, rfl⟩ hrec
  rw [Go.Sort.partEqLoop_eq] at hr
  obtain ⟨p, hp0⟩ : ∃ p : α → Bool, p = fun x => !lessA co q[a]! x := ⟨_, rfl⟩
  obtain ⟨p2, hp20⟩ : ∃ p : α → Bool, p = fun x => lessA co q[a]! x := ⟨_, rfl⟩
  rw [← hp0, ← hp20] at hr
  have hp : ∀ x, p x = !decide (co q[a]! x < 0) := fun x => by rw [hp0]; rfl
  have hp2 : ∀ x, p2 x = decide (co q[a]! x < 0) := fun x => by rw [hp20]; rfl
  clear hp0 hp20
  repeat' first|refine yaG ?_|(exfalso;omega)|(refine yaS ?_ ?_<;>intro _)
  refine Go.meet (K' := [_, _]) (fun fr τ => ∃ (k : Nat) (zk : Int), i ≤ k ∧ k ≤ j + 1 ∧ zk = k ∧ Go.Sort.scanUp p q j i = k ∧ fr = [(0, .c (.sl F.id F.v 0 N c)), (1, .c (.int .i64 za)), (4, .c (.fn g pre cap)), (11, .c (.int .i64 zk)), (12, .c (.int .i64 zj))] ∧ τ = F.A q) (fun K hmt => ?_) ?_
  · refine Go.keep [0, 1, 4, 11, 12] (Go.loops (I := fun mm fr τ => ∃ (k : Nat) (zk : Int), mm = j + 1 - k ∧ i ≤ k ∧ k ≤ j + 1 ∧ zk = k ∧ Go.Sort.scanUp p q j i = Go.Sort.scanUp p q j k ∧
        fr = [(0, .c (.sl F.id F.v 0 N c)), (1, .c (.int .i64 za)), (4, .c (.fn g pre cap)), (11, .c (.int .i64 zk)), (12, .c (.int .i64 zj))] ∧ τ = F.A q) ?_ _ _ _ ⟨i, _, rfl, by omega, by omega, hzi, rfl, rfl, rfl⟩)
    clear hrec
    rintro mm fr τ ⟨k, zk, rfl, hk1, hk2, hzk, hsc, rfl, rfl⟩ hrec
    rw [Go.Sort.scanUp.eq_1 p q j k] at hsc
    by_cases hlt : k ≤ j
    · have hkq : k < q.size := by omega
      have haq : a < q.size := by omega
      have hpk := hp q[k]!
      have cc := hcmp.at q q[a]! q[k]!
      generalize co q[a]! q[k]! = o at cc hpk
      rw [hpk] at hsc
      repeat' first|refine yaG ?_|((first|apply yG|apply yH|apply yI);exact rfl;(first|exact aop_ai (F := F) rfl rfl hzk hq hkq|exact aop_ai (F := F) rfl rfl ha hq haq|exact aop_al (F := F) rfl hkq|exact aop_al (F := F) rfl haq))|(exfalso;omega)|(refine yaS ?_ ?_<;>intro _)
      all_goals first
        | (exfalso; omega)
        | skip
      refine Go.scall _ rfl rfl rfl cc ?_
      rintro r τ ⟨rfl, rfl⟩
      by_cases ho : o < 0
      · rw [if_neg (by simp [ho])] at hsc
        repeat' first|refine yaG ?_|(exfalso;omega)|(refine yaS ?_ ?_<;>intro _)
        all_goals first
          | (exfalso; omega)
          | (exfalso; rename_i hbad; rw [decide_eq_true ho] at hbad; cases hbad; done)
          | (exfalso; rename_i hbad; rw [decide_eq_false ho] at hbad; cases hbad; done)
          | skip
        exact Go.keep [0, 1, 4, 11, 12] (hmt _ _ ⟨k, _, by omega, by omega, hzk, hsc, rfl, rfl⟩)
      · rw [if_pos (by simp [ho]; omega)] at hsc
        repeat' first|refine yaG ?_|(exfalso;omega)|(refine yaS ?_ ?_<;>intro _)
        all_goals first
          | (exfalso; omega)
          | (exfalso; rename_i hbad; rw [decide_eq_true ho] at hbad; cases hbad; done)
          | (exfalso; rename_i hbad; rw [decide_eq_false ho] at hbad; cases hbad; done)
          | skip
        exact Go.keep [0, 1, 4, 11, 12] (hrec _ _ _ (by omega) ⟨k + 1, _, rfl, by omega, by omega, wrap_succ hzk (by omega), hsc, rfl, rfl⟩)
    · rw [if_neg (by simp; omega)] at hsc
      repeat' first|refine yaG ?_|(exfalso;omega)|(refine yaS ?_ ?_<;>intro _)
      all_goals first
        | (exfalso; omega)
        | skip
      exact Go.keep [0, 1, 4, 11, 12] (hmt _ _ ⟨k, _, by omega, by omega, hzk, hsc, rfl, rfl⟩)
  · rintro fr τ ⟨i2, zi2, hk1, hk2, hzi2, hsc, rfl, rfl⟩
    rw [hsc] at hr
    have hsu := (Go.Sort.scanUp_spec p q j _ i rfl).2.2.2
    rw [hsc] at hsu
    clear hsc
    repeat' first|refine yaG ?_|(exfalso;omega)|(refine yaS ?_ ?_<;>intro _)
    refine Go.meet (K' := [_, _]) (fun fr τ => ∃ (k : Nat) (zk : Int), k ≤ j ∧ i2 ≤ k + 1 ∧ zk = k ∧ Go.Sort.scanDown p2 q i2 j = k ∧ fr = [(0, .c (.sl F.id F.v 0 N c)), (1, .c (.int .i64 za)), (4, .c (.fn g pre cap)), (11, .c (.int .i64 zi2)), (12, .c (.int .i64 zk))] ∧ τ = F.A q) (fun K hmt => ?_) ?_
    · refine Go.keep [0, 1, 4, 11, 12] (Go.loops (I := fun mm fr τ => ∃ (k : Nat) (zk : Int), mm = k ∧ k ≤ j ∧ i2 ≤ k + 1 ∧ zk = k ∧ Go.Sort.scanDown p2 q i2 j = Go.Sort.scanDown p2 q i2 k ∧
          fr = [(0, .c (.sl F.id F.v 0 N c)), (1, .c (.int .i64 za)), (4, .c (.fn g pre cap)), (11, .c (.int .i64 zi2)), (12, .c (.int .i64 zk))] ∧ τ = F.A q) ?_ _ _ _ ⟨j, _, rfl, by omega, by omega, hzj, rfl, rfl, rfl⟩)
      clear hrec
      rintro mm fr τ ⟨k, zk, hmm, hk1, hk2, hzk, hsc, rfl, rfl⟩ hrec
      cases k with
      | zero =>
        rw [Go.Sort.scanDown] at hsc
        repeat' first|refine yaG ?_|(exfalso;omega)|(refine yaS ?_ ?_<;>intro _)
        all_goals first
          | (exfalso; omega)
          | skip
        exact Go.keep [0, 1, 4, 11, 12] (hmt _ _ ⟨0, _, by omega, by omega, hzk, hsc, rfl, rfl⟩)
      | succ k =>
        rw [Go.Sort.scanDown] at hsc
        by_cases hlt : i2 ≤ k + 1
        · have hkq : (k + 1) < q.size := by omega
          have haq : a < q.size := by omega
          have hpk := hp2 q[(k + 1)]!
          have cc := hcmp.at q q[a]! q[(k + 1)]!
          generalize co q[a]! q[(k + 1)]! = o at cc hpk
          rw [hpk] at hsc
          repeat' first|refine yaG ?_|((first|apply yG|apply yH|apply yI);exact rfl;(first|exact aop_ai (F := F) rfl rfl hzk hq hkq|exact aop_ai (F := F) rfl rfl ha hq haq|exact aop_al (F := F) rfl hkq|exact aop_al (F := F) rfl haq))|(exfalso;omega)|(refine yaS ?_ ?_<;>intro _)
          all_goals first
            | (exfalso; omega)
            | skip
          refine Go.scall _ rfl rfl rfl cc ?_
          rintro r τ ⟨rfl, rfl⟩
          by_cases ho : o < 0
          · rw [if_pos (by simp [ho]; omega)] at hsc
            repeat' first|refine yaG ?_|(exfalso;omega)|(refine yaS ?_ ?_<;>intro _)
            all_goals first
              | (exfalso; omega)
              | (exfalso; rename_i hbad; rw [decide_eq_true ho] at hbad; cases hbad; done)
              | (exfalso; rename_i hbad; rw [decide_eq_false ho] at hbad; cases hbad; done)
              | skip
            exact Go.keep [0, 1, 4, 11, 12] (hrec k _ _ (by omega) ⟨k, _, rfl, by omega, by omega, by rw [wrap64 (by omega) (by omega)]; omega, hsc, rfl, rfl⟩)
          · rw [if_neg (by simp [ho])] at hsc
            repeat' first|refine yaG ?_|(exfalso;omega)|(refine yaS ?_ ?_<;>intro _)
            all_goals first
              | (exfalso; omega)
              | (exfalso; rename_i hbad; rw [decide_eq_true ho] at hbad; cases hbad; done)
              | (exfalso; rename_i hbad; rw [decide_eq_false ho] at hbad; cases hbad; done)
              | skip
            exact Go.keep [0, 1, 4, 11, 12] (hmt _ _ ⟨k + 1, _, by omega, by omega, hzk, hsc, rfl, rfl⟩)
        · rw [if_neg (by simp; omega)] at hsc
          repeat' first|refine yaG ?_|(exfalso;omega)|(refine yaS ?_ ?_<;>intro _)
          all_goals first
            | (exfalso; omega)
            | skip
          exact Go.keep [0, 1, 4, 11, 12] (hmt _ _ ⟨k + 1, _, by omega, by omega, hzk, hsc, rfl, rfl⟩)
    · rintro fr τ ⟨j2, zj2, hk3, hk4, hzj2, hsc, rfl, rfl⟩
      rw [hsc] at hr
      have hne : i2 ≠ j2 := by
        rintro rfl
        have hsd := (Go.Sort.scanDown_spec p2 q i2 j).2.2.2
        rw [hsc] at hsd
        have h1 := hsu (by omega)
        have h2 := hsd (Nat.le_refl _) (by omega)
        rw [hp] at h1
        rw [hp2] at h2
        rw [h2] at h1
        cases h1
      by_cases hgt : i2 > j2
      · rw [if_pos hgt] at hr
        repeat' first|refine yaG ?_|(exfalso;omega)|(refine yaS ?_ ?_<;>intro _)
        all_goals first
          | (exfalso; omega)
          | skip
        exact .ret rfl ⟨by rw [hr, hzi2], by rw [hr]⟩
      · rw [if_neg hgt] at hr
        have hiq : i2 < q.size := by omega
        have hjq : j2 < q.size := by omega
        repeat' first|(apply yA;exact rfl)|apply yC|((first|apply yD|apply yE);(first|exact yF|assumption);iterate 6 exact rfl)|((first|apply yG|apply yH|apply yI);exact rfl;(first|exact yJ|exact yK rfl rfl|exact yL rfl|exact yM rfl|exact rfl|exact aL rfl rfl rfl rfl rfl|exact aS rfl rfl rfl rfl rfl rfl rfl))|((first|apply yN|apply yO|apply yP);exact rfl)|(exfalso;omega)|(((first|apply yT|apply yU|apply yV|apply yW);exact rfl;(first|exact .d|exact .e|exact .n|((fail_if_success exact bqt);(fail_if_success exact bqf);exact .b)))<;>intro _)
        all_goals first
          | (exfalso; omega)
          | skip
        refine Go.qw (fun F' τ => Go P (F.A d).next _ _ _ (.segs _ :: _) F' τ) ?_ fun _ _ h => h
        repeat' first|(apply Qw.op;exact rfl;exact fun _ => rfl)|(apply Qw.rd;exact rfl;exact rfl;first|exact aop_ai (F := F) rfl rfl hzi2 hq hiq|exact aop_ai (F := F) rfl rfl hzj2 hq hjq|exact aop_al (F := F) rfl hiq|exact aop_al (F := F) rfl hjq)|(apply Qw.wr;exact rfl;exact rfl;exact aop_as (F := F) rfl rfl hiq)|apply Qw.nil
        repeat' first|refine yaG ?_|((first|apply yG|apply yH|apply yI);exact rfl;(first|exact aop_ai (F := F) rfl rfl hzj2 (Array.size_setIfInBounds.trans hq) (by rw [Array.size_setIfInBounds];exact hjq)|exact aop_as (F := F) rfl rfl (by rw [Array.size_setIfInBounds];exact hjq)))|(exfalso;omega)|(refine yaS ?_ ?_<;>intro _)
        refine Go.keep [0, 1, 4, 11, 12] (hrec _ _ _ ?_ ⟨i2 + 1, j2 - 1, _, _, swp q i2 j2, rfl, by omega, by omega, by omega, wrap_succ hzi2 (by omega), by rw [wrap64 (by omega) (by omega)]; omega, swp_len.trans hq, hr, rfl, rfl⟩)
        omega
theorem partition_eqA {α : Type} [Inhabited α] (lt : α → α → Bool) (d : Array α) (a b pv : Nat) : Go.Sort.partition lt d a b pv =
    if Go.Sort.scanUp (fun x => lt x (swp d a pv)[a]!) (swp d a pv) (b - 1) (a + 1) > Go.Sort.scanDown (fun x => !lt x (swp d a pv)[a]!) (swp d a pv) (Go.Sort.scanUp (fun x => lt x (swp d a pv)[a]!) (swp d a pv) (b - 1) (a + 1)) (b - 1) then
      (Go.Sort.scanDown (fun x => !lt x (swp d a pv)[a]!) (swp d a pv) (Go.Sort.scanUp (fun x => lt x (swp d a pv)[a]!) (swp d a pv) (b - 1) (a + 1)) (b - 1), true, swp (swp d a pv) (Go.Sort.scanDown (fun x => !lt x (swp d a pv)[a]!) (swp d a pv) (Go.Sort.scanUp (fun x => lt x (swp d a pv)[a]!) (swp d a pv) (b - 1) (a + 1)) (b - 1)) a)
    else
      ((Go.Sort.partLoop lt a (Go.Sort.scanUp (fun x => lt x (swp d a pv)[a]!) (swp d a pv) (b - 1) (a + 1) + 1) (Go.Sort.scanDown (fun x => !lt x (swp d a pv)[a]!) (swp d a pv) (Go.Sort.scanUp (fun x => lt x (swp d a pv)[a]!) (swp d a pv) (b - 1) (a + 1)) (b - 1) - 1) (swp (swp d a pv) (Go.Sort.scanUp (fun x => lt x (swp d a pv)[a]!) (swp d a pv) (b - 1) (a + 1)) (Go.Sort.scanDown (fun x => !lt x (swp d a pv)[a]!) (swp d a pv) (Go.Sort.scanUp (fun x => lt x (swp d a pv)[a]!) (swp d a pv) (b - 1) (a + 1)) (b - 1)))).1, false,
        swp (Go.Sort.partLoop lt a (Go.Sort.scanUp (fun x => lt x (swp d a pv)[a]!) (swp d a pv) (b - 1) (a + 1) + 1) (Go.Sort.scanDown (fun x => !lt x (swp d a pv)[a]!) (swp d a pv) (Go.Sort.scanUp (fun x => lt x (swp d a pv)[a]!) (swp d a pv) (b - 1) (a + 1)) (b - 1) - 1) (swp (swp d a pv) (Go.Sort.scanUp (fun x => lt x (swp d a pv)[a]!) (swp d a pv) (b - 1) (a + 1)) (Go.Sort.scanDown (fun x => !lt x (swp d a pv)[a]!) (swp d a pv) (Go.Sort.scanUp (fun x => lt x (swp d a pv)[a]!) (swp d a pv) (b - 1) (a + 1)) (b - 1)))).2 (Go.Sort.partLoop lt a (Go.Sort.scanUp (fun x => lt x (swp d a pv)[a]!) (swp d a pv) (b - 1) (a + 1) + 1) (Go.Sort.scanDown (fun x => !lt x (swp d a pv)[a]!) (swp d a pv) (Go.Sort.scanUp (fun x => lt x (swp d a pv)[a]!) (swp d a pv) (b - 1) (a + 1)) (b - 1) - 1) (swp (swp d a pv) (Go.Sort.scanUp (fun x => lt x (swp d a pv)[a]!) (swp d a pv) (b - 1) (a + 1)) (Go.Sort.scanDown (fun x => !lt x (swp d a pv)[a]!) (swp d a pv) (Go.Sort.scanUp (fun x => lt x (swp d a pv)[a]!) (swp d a pv) (b - 1) (a + 1)) (b - 1)))).1 a) := rfl
theorem partition_ok {P : Program} (hm : P.follows .mixedOrders = true) {fz : List Nat} {n : Nat} (hc : compFn P fz n = some c_slices_partitionCmpFunc_Entry) {α : Type} [Inhabited α] (F : Fam α) (co : α → α → Int) (g : Nat) (pre cap : List Ce) (hcmp : CmpsA P F co g pre cap) (d : Array α) (N a b pv c : Nat) (za zb zp : Int) (ha : za = a) (hb : zb = b) (hpv : zp = pv) (hN : d.size = N) (hab : a < b) (hp1 : pv < b) (h3 : b ≤ N) (hx : N ≤ 34359738368) :
    Ok P n [.c (.sl F.id F.v 0 N c), .c (.int .i64 za), .c (.int .i64 zb), .c (.int .i64 zp), .c (.fn g pre cap)] (F.A d) (fun r τ => r = .tup [.c (.int .i64 ((Go.Sort.partition (lessA co) d a b pv).1 : Nat)), .c (.bool (Go.Sort.partition (lessA co) d a b pv).2.1)] ∧ τ = F.A (Go.Sort.partition (lessA co) d a b pv).2.2) := by
  refine .of_go hm hc (Nat.le_of_ble_eq_true rfl) ?_
  have haq : a < d.size := by omega
  have hpq : pv < d.size := by omega
  have e1 : IntKind.i64.wrap (za + 1) = ((a + 1 : Nat) : Int) := by rw [wrap64 (by omega) (by omega)]; omega
  have e2 : IntKind.i64.wrap (zb - 1) = ((b - 1 : Nat) : Int) := by rw [wrap64 (by omega) (by omega)]; omega
  repeat' first|(apply yA;exact rfl)|apply yC|((first|apply yD|apply yE);(first|exact yF|assumption);iterate 6 exact rfl)|((first|apply yG|apply yH|apply yI);exact rfl;(first|exact yJ|exact yK rfl rfl|exact yL rfl|exact yM rfl|exact rfl|exact aL rfl rfl rfl rfl rfl|exact aS rfl rfl rfl rfl rfl rfl rfl))|((first|apply yN|apply yO|apply yP);exact rfl)|(exfalso;omega)|(((first|apply yT|apply yU|apply yV|apply yW);exact rfl;(first|exact .d|exact .e|exact .n|((fail_if_success exact bqt);(fail_if_success exact bqf);exact .b)))<;>intro _)
  refine Go.qw (fun F' τ => Go P (F.A d).next _ _ _ (.segs _ :: _) F' τ) ?_ fun _ _ h => h
  repeat' first|(apply Qw.op;exact rfl;exact fun _ => rfl)|(apply Qw.rd;exact rfl;exact rfl;first|exact aop_ai (F := F) rfl rfl ha hN haq|exact aop_ai (F := F) rfl rfl hpv hN hpq|exact aop_al (F := F) rfl haq|exact aop_al (F := F) rfl hpq)|(apply Qw.wr;exact rfl;exact rfl;exact aop_as (F := F) rfl rfl haq)|apply Qw.nil
  repeat' first|refine yaG ?_|((first|apply yG|apply yH|apply yI);exact rfl;(first|exact aop_ai (F := F) rfl rfl hpv (Array.size_setIfInBounds.trans hN) (by rw [Array.size_setIfInBounds];exact hpq)|exact aop_as (F := F) rfl rfl (by rw [Array.size_setIfInBounds];exact hpq)))|(exfalso;omega)|(refine yaS ?_ ?_<;>intro _)
  rw [swp_is]
  obtain ⟨R0, hr⟩ : ∃ R, R = Go.Sort.partition (lessA co) d a b pv := ⟨_, rfl⟩
  rw [← hr]
  rw [partition_eqA] at hr
  have hq : (swp d a pv).size = N := swp_len.trans hN
  generalize swp d a pv = q at hq hr ⊢
  obtain ⟨p, hp0⟩ : ∃ p : α → Bool, p = fun x => lessA co x q[a]! := ⟨_, rfl⟩
  obtain ⟨p2, hp20⟩ : ∃ p : α → Bool, p = fun x => !lessA co x q[a]! := ⟨_, rfl⟩
  rw [← hp0, ← hp20] at hr
  have hp : ∀ x, p x = decide (co x q[a]! < 0) := fun x => by rw [hp0]; rfl
  have hp2 : ∀ x, p2 x = !decide (co x q[a]! < 0) := fun x => by rw [hp20]; rfl
  clear hp0 hp20 haq hpq
  obtain ⟨i, hi⟩ : ∃ i, i = a + 1 := ⟨_, rfl⟩
  obtain ⟨j, hj⟩ : ∃ j, j = b - 1 := ⟨_, rfl⟩
  obtain ⟨zi, hzi0⟩ : ∃ z, z = IntKind.i64.wrap (za + 1) := ⟨_, rfl⟩
  obtain ⟨zj, hzj0⟩ : ∃ z, z = IntKind.i64.wrap (zb - 1) := ⟨_, rfl⟩
  have hzi : zi = (i : Int) := by rw [hzi0, e1, hi]
  have hzj : zj = (j : Int) := by rw [hzj0, e2, hj]
  rw [← hzi0, ← hzj0]
  rw [← hi, ← hj] at hr
  clear hzi0 hzj0 e1 e2
  have hrec : True := trivial
  refine Go.meet (K' := [_, _]) (fun fr τ => ∃ (k : Nat) (zk : Int), i ≤ k ∧ k ≤ j + 1 ∧ zk = k ∧ Go.Sort.scanUp p q j i = k ∧ fr = [(0, .c (.sl F.id F.v 0 N c)), (1, .c (.int .i64 za)), (4, .c (.fn g pre cap)), (12, .c (.int .i64 zk)), (13, .c (.int .i64 zj))] ∧ τ = F.A q) (fun K hmt => ?_) ?_
  · refine Go.keep [0, 1, 4, 12, 13] (Go.loops (I := fun mm fr τ => ∃ (k : Nat) (zk : Int), mm = j + 1 - k ∧ i ≤ k ∧ k ≤ j + 1 ∧ zk = k ∧ Go.Sort.scanUp p q j i = Go.Sort.scanUp p q j k ∧
        fr = [(0, .c (.sl F.id F.v 0 N c)), (1, .c (.int .i64 za)), (4, .c (.fn g pre cap)), (12, .c (.int .i64 zk)), (13, .c (.int .i64 zj))] ∧ τ = F.A q) ?_ _ _ _ ⟨i, _, rfl, by omega, by omega, hzi, rfl, rfl, rfl⟩)
    clear hrec
    rintro mm fr τ ⟨k, zk, rfl, hk1, hk2, hzk, hsc, rfl, rfl⟩ hrec
    rw [Go.Sort.scanUp.eq_1 p q j k] at hsc
    by_cases hlt : k ≤ j
    · have hkq : k < q.size := by omega
      have haq : a < q.size := by omega
      have hpk := hp q[k]!
      have cc := hcmp.at q q[k]! q[a]!
      generalize co q[k]! q[a]! = o at cc hpk
      rw [hpk] at hsc
      repeat' first|refine yaG ?_|((first|apply yG|apply yH|apply yI);exact rfl;(first|exact aop_ai (F := F) rfl rfl hzk hq hkq|exact aop_ai (F := F) rfl rfl ha hq haq|exact aop_al (F := F) rfl hkq|exact aop_al (F := F) rfl haq))|(exfalso;omega)|(refine yaS ?_ ?_<;>intro _)
      all_goals first
        | (exfalso; omega)
        | skip
      refine Go.scall _ rfl rfl rfl cc ?_
      rintro r τ ⟨rfl, rfl⟩
      by_cases ho : o < 0
      · rw [if_pos (by simp [ho]; omega)] at hsc
        repeat' first|refine yaG ?_|(exfalso;omega)|(refine yaS ?_ ?_<;>intro _)
        all_goals first
          | (exfalso; omega)
          | (exfalso; rename_i hbad; rw [decide_eq_true ho] at hbad; cases hbad; done)
          | (exfalso; rename_i hbad; rw [decide_eq_false ho] at hbad; cases hbad; done)
          | skip
        exact Go.keep [0, 1, 4, 12, 13] (hrec _ _ _ (by omega) ⟨k + 1, _, rfl, by omega, by omega, wrap_succ hzk (by omega), hsc, rfl, rfl⟩)
      · rw [if_neg (by simp [ho])] at hsc
        repeat' first|refine yaG ?_|(exfalso;omega)|(refine yaS ?_ ?_<;>intro _)
        all_goals first
          | (exfalso; omega)
          | (exfalso; rename_i hbad; rw [decide_eq_true ho] at hbad; cases hbad; done)
          | (exfalso; rename_i hbad; rw [decide_eq_false ho] at hbad; cases hbad; done)
          | skip
        exact Go.keep [0, 1, 4, 12, 13] (hmt _ _ ⟨k, _, by omega, by omega, hzk, hsc, rfl, rfl⟩)
    · rw [if_neg (by simp; omega)] at hsc
      repeat' first|refine yaG ?_|(exfalso;omega)|(refine yaS ?_ ?_<;>intro _)
      all_goals first
        | (exfalso; omega)
        | skip
      exact Go.keep [0, 1, 4, 12, 13] (hmt _ _ ⟨k, _, by omega, by omega, hzk, hsc, rfl, rfl⟩)
  · rintro fr τ ⟨i2, zi2, hk1, hk2, hzi2, hsc, rfl, rfl⟩
    rw [hsc] at hr
    have hsu := (Go.Sort.scanUp_spec p q j _ i rfl).2.2.2
    rw [hsc] at hsu
    clear hsc
    repeat' first|refine yaG ?_|(exfalso;omega)|(refine yaS ?_ ?_<;>intro _)
    refine Go.meet (K' := [_, _]) (fun fr τ => ∃ (k : Nat) (zk : Int), k ≤ j ∧ i2 ≤ k + 1 ∧ zk = k ∧ Go.Sort.scanDown p2 q i2 j = k ∧ fr = [(0, .c (.sl F.id F.v 0 N c)), (1, .c (.int .i64 za)), (4, .c (.fn g pre cap)), (12, .c (.int .i64 zi2)), (13, .c (.int .i64 zk))] ∧ τ = F.A q) (fun K hmt => ?_) ?_
    · refine Go.keep [0, 1, 4, 12, 13] (Go.loops (I := fun mm fr τ => ∃ (k : Nat) (zk : Int), mm = k ∧ k ≤ j ∧ i2 ≤ k + 1 ∧ zk = k ∧ Go.Sort.scanDown p2 q i2 j = Go.Sort.scanDown p2 q i2 k ∧
          fr = [(0, .c (.sl F.id F.v 0 N c)), (1, .c (.int .i64 za)), (4, .c (.fn g pre cap)), (12, .c (.int .i64 zi2)), (13, .c (.int .i64 zk))] ∧ τ = F.A q) ?_ _ _ _ ⟨j, _, rfl, by omega, by omega, hzj, rfl, rfl, rfl⟩)
      clear hrec
      rintro mm fr τ ⟨k, zk, hmm, hk1, hk2, hzk, hsc, rfl, rfl⟩ hrec
      cases k with
      | zero =>
        rw [Go.Sort.scanDown] at hsc
        repeat' first|refine yaG ?_|(exfalso;omega)|(refine yaS ?_ ?_<;>intro _)
        all_goals first
          | (exfalso; omega)
          | skip
        exact Go.keep [0, 1, 4, 12, 13] (hmt _ _ ⟨0, _, by omega, by omega, hzk, hsc, rfl, rfl⟩)
      | succ k =>
        rw [Go.Sort.scanDown] at hsc
        by_cases hlt : i2 ≤ k + 1
        · have hkq : (k + 1) < q.size := by omega
          have haq : a < q.size := by omega
          have hpk := hp2 q[(k + 1)]!
          have cc := hcmp.at q q[(k + 1)]! q[a]!
          generalize co q[(k + 1)]! q[a]! = o at cc hpk
          rw [hpk] at hsc
          repeat' first|refine yaG ?_|((first|apply yG|apply yH|apply yI);exact rfl;(first|exact aop_ai (F := F) rfl rfl hzk hq hkq|exact aop_ai (F := F) rfl rfl ha hq haq|exact aop_al (F := F) rfl hkq|exact aop_al (F := F) rfl haq))|(exfalso;omega)|(refine yaS ?_ ?_<;>intro _)
          all_goals first
            | (exfalso; omega)
            | skip
          refine Go.scall _ rfl rfl rfl cc ?_
          rintro r τ ⟨rfl, rfl⟩
          by_cases ho : o < 0
          · rw [if_neg (by simp [ho])] at hsc
            repeat' first|refine yaG ?_|(exfalso;omega)|(refine yaS ?_ ?_<;>intro _)
            all_goals first
              | (exfalso; omega)
              | (exfalso; rename_i hbad; rw [decide_eq_true ho] at hbad; cases hbad; done)
              | (exfalso; rename_i hbad; rw [decide_eq_false ho] at hbad; cases hbad; done)
              | skip
            exact Go.keep [0, 1, 4, 12, 13] (hmt _ _ ⟨k + 1, _, by omega, by omega, hzk, hsc, rfl, rfl⟩)
          · rw [if_pos (by simp [ho]; omega)] at hsc
            repeat' first|refine yaG ?_|(exfalso;omega)|(refine yaS ?_ ?_<;>intro _)
            all_goals first
              | (exfalso; omega)
              | (exfalso; rename_i hbad; rw [decide_eq_true ho] at hbad; cases hbad; done)
              | (exfalso; rename_i hbad; rw [decide_eq_false ho] at hbad; cases hbad; done)
              | skip
            exact Go.keep [0, 1, 4, 12, 13] (hrec k _ _ (by omega) ⟨k, _, rfl, by omega, by omega, by rw [wrap64 (by omega) (by omega)]; omega, hsc, rfl, rfl⟩)
        · rw [if_neg (by simp; omega)] at hsc
          repeat' first|refine yaG ?_|(exfalso;omega)|(refine yaS ?_ ?_<;>intro _)
          all_goals first
            | (exfalso; omega)
            | skip
          exact Go.keep [0, 1, 4, 12, 13] (hmt _ _ ⟨k + 1, _, by omega, by omega, hzk, hsc, rfl, rfl⟩)
    · rintro fr τ ⟨j2, zj2, hk3, hk4, hzj2, hsc, rfl, rfl⟩
      rw [hsc] at hr
      have hne : i2 ≠ j2 := by
        rintro rfl
        have hsd := (Go.Sort.scanDown_spec p2 q i2 j).2.2.2
        rw [hsc] at hsd
        have h1 := hsu (by omega)
        have h2 := hsd (Nat.le_refl _) (by omega)
        rw [hp] at h1
        rw [hp2, h1] at h2
        cases h2
      have haq : a < q.size := by omega
      have hjq : j2 < q.size := by omega
      by_cases hgt : i2 > j2
      · rw [if_pos hgt] at hr
        repeat' first|(apply yA;exact rfl)|apply yC|((first|apply yD|apply yE);(first|exact yF|assumption);iterate 6 exact rfl)|((first|apply yG|apply yH|apply yI);exact rfl;(first|exact yJ|exact yK rfl rfl|exact yL rfl|exact yM rfl|exact rfl|exact aL rfl rfl rfl rfl rfl|exact aS rfl rfl rfl rfl rfl rfl rfl))|((first|apply yN|apply yO|apply yP);exact rfl)|(exfalso;omega)|(((first|apply yT|apply yU|apply yV|apply yW);exact rfl;(first|exact .d|exact .e|exact .n|((fail_if_success exact bqt);(fail_if_success exact bqf);exact .b)))<;>intro _)
        all_goals first
          | (exfalso; omega)
          | skip
        refine Go.qw (fun F' τ => Go P (F.A d).next _ _ _ (.segs _ :: _) F' τ) ?_ fun _ _ h => h
        repeat' first|(apply Qw.op;exact rfl;exact fun _ => rfl)|(apply Qw.rd;exact rfl;exact rfl;first|exact aop_ai (F := F) rfl rfl hzj2 hq hjq|exact aop_ai (F := F) rfl rfl ha hq haq|exact aop_al (F := F) rfl hjq|exact aop_al (F := F) rfl haq)|(apply Qw.wr;exact rfl;exact rfl;exact aop_as (F := F) rfl rfl hjq)|apply Qw.nil
        repeat' first|refine yaG ?_|((first|apply yG|apply yH|apply yI);exact rfl;(first|exact aop_ai (F := F) rfl rfl ha (Array.size_setIfInBounds.trans hq) (by rw [Array.size_setIfInBounds];exact haq)|exact aop_as (F := F) rfl rfl (by rw [Array.size_setIfInBounds];exact haq)))|(exfalso;omega)|(refine yaS ?_ ?_<;>intro _)
        rw [swp_is]
        exact .ret rfl ⟨by rw [hr, hzj2], by rw [hr]⟩
      · rw [if_neg hgt] at hr
        have hiq : i2 < q.size := by omega
        repeat' first|(apply yA;exact rfl)|apply yC|((first|apply yD|apply yE);(first|exact yF|assumption);iterate 6 exact rfl)|((first|apply yG|apply yH|apply yI);exact rfl;(first|exact yJ|exact yK rfl rfl|exact yL rfl|exact yM rfl|exact rfl|exact aL rfl rfl rfl rfl rfl|exact aS rfl rfl rfl rfl rfl rfl rfl))|((first|apply yN|apply yO|apply yP);exact rfl)|(exfalso;omega)|(((first|apply yT|apply yU|apply yV|apply yW);exact rfl;(first|exact .d|exact .e|exact .n|((fail_if_success exact bqt);(fail_if_success exact bqf);exact .b)))<;>intro _)
        all_goals first
          | (exfalso; omega)
          | skip
        refine Go.qw (fun F' τ => Go P (F.A d).next _ _ _ (.segs _ :: _) F' τ) ?_ fun _ _ h => h
        repeat' first|(apply Qw.op;exact rfl;exact fun _ => rfl)|(apply Qw.rd;exact rfl;exact rfl;first|exact aop_ai (F := F) rfl rfl hzi2 hq hiq|exact aop_ai (F := F) rfl rfl hzj2 hq hjq|exact aop_al (F := F) rfl hiq|exact aop_al (F := F) rfl hjq)|(apply Qw.wr;exact rfl;exact rfl;exact aop_as (F := F) rfl rfl hiq)|apply Qw.nil
        repeat' first|refine yaG ?_|((first|apply yG|apply yH|apply yI);exact rfl;(first|exact aop_ai (F := F) rfl rfl hzj2 (Array.size_setIfInBounds.trans hq) (by rw [Array.size_setIfInBounds];exact hjq)|exact aop_as (F := F) rfl rfl (by rw [Array.size_setIfInBounds];exact hjq)))|(exfalso;omega)|(refine yaS ?_ ?_<;>intro _)
        rw [swp_is]
        have hB : (swp q i2 j2).size = N := swp_len.trans hq
        generalize swp q i2 j2 = B at hB hr ⊢
        clear hsc hsu hp hp2 hrec hq hjq haq hiq hzi hzj
        clear p p2
        obtain ⟨L0, hL0⟩ : ∃ L, L = Go.Sort.partLoop (lessA co) a (i2 + 1) (j2 - 1) B := ⟨_, rfl⟩
        rw [← hL0] at hr
        refine Go.keep [0, 1, 4, 12, 13] (Go.loops (I := fun mm fr τ => ∃ (i j : Nat) (zi zj : Int) (q : Array α), mm = j + 1 - i ∧ a < i ∧ i ≤ j + 1 ∧ j < b ∧ zi = i ∧ zj = j ∧ q.size = N ∧ L0 = Go.Sort.partLoop (lessA co) a i j q ∧
          fr = [(0, .c (.sl F.id F.v 0 N c)), (1, .c (.int .i64 za)), (4, .c (.fn g pre cap)), (12, .c (.int .i64 zi)), (13, .c (.int .i64 zj))] ∧ τ = F.A q) ?_ _ _ _ ⟨i2 + 1, j2 - 1, _, _, B, rfl, by omega, by omega, by omega, wrap_succ hzi2 (by omega), by rw [wrap64 (by omega) (by omega)]; omega, hB, hL0, rfl, rfl⟩)
        rename_i B0
        clear hL0 hB hk1 hk2 hk3 hk4 hzi2 hzj2 hgt hi hj hne
        clear i j zi zj i2 zi2 j2 zj2 B0
        rintro mm fr τ ⟨i, j, zi, zj, q, rfl, hai, hij, hjb, hzi, hzj, hq, hl, rfl, rfl⟩ hrec
        rw [Go.Sort.partLoop_eq] at hl
        obtain ⟨p, hp0⟩ : ∃ p : α → Bool, p = fun x => lessA co x q[a]! := ⟨_, rfl⟩
        obtain ⟨p2, hp20⟩ : ∃ p : α → Bool, p = fun x => !lessA co x q[a]! := ⟨_, rfl⟩
        rw [← hp0, ← hp20] at hl
        have hp : ∀ x, p x = decide (co x q[a]! < 0) := fun x => by rw [hp0]; rfl
        have hp2 : ∀ x, p2 x = !decide (co x q[a]! < 0) := fun x => by rw [hp20]; rfl
        clear hp0 hp20
        repeat' first|refine yaG ?_|(exfalso;omega)|(refine yaS ?_ ?_<;>intro _)
        refine Go.meet (K' := [_, _]) (fun fr τ => ∃ (k : Nat) (zk : Int), i ≤ k ∧ k ≤ j + 1 ∧ zk = k ∧ Go.Sort.scanUp p q j i = k ∧ fr = [(0, .c (.sl F.id F.v 0 N c)), (1, .c (.int .i64 za)), (4, .c (.fn g pre cap)), (12, .c (.int .i64 zk)), (13, .c (.int .i64 zj))] ∧ τ = F.A q) (fun K hmt => ?_) ?_
        · refine Go.keep [0, 1, 4, 12, 13] (Go.loops (I := fun mm fr τ => ∃ (k : Nat) (zk : Int), mm = j + 1 - k ∧ i ≤ k ∧ k ≤ j + 1 ∧ zk = k ∧ Go.Sort.scanUp p q j i = Go.Sort.scanUp p q j k ∧
              fr = [(0, .c (.sl F.id F.v 0 N c)), (1, .c (.int .i64 za)), (4, .c (.fn g pre cap)), (12, .c (.int .i64 zk)), (13, .c (.int .i64 zj))] ∧ τ = F.A q) ?_ _ _ _ ⟨i, _, rfl, by omega, by omega, hzi, rfl, rfl, rfl⟩)
          clear hrec
          rintro mm fr τ ⟨k, zk, rfl, hk1, hk2, hzk, hsc, rfl, rfl⟩ hrec
          rw [Go.Sort.scanUp.eq_1 p q j k] at hsc
          by_cases hlt : k ≤ j
          · have hkq : k < q.size := by omega
            have haq : a < q.size := by omega
            have hpk := hp q[k]!
            have cc := hcmp.at q q[k]! q[a]!
            generalize co q[k]! q[a]! = o at cc hpk
            rw [hpk] at hsc
            repeat' first|refine yaG ?_|((first|apply yG|apply yH|apply yI);exact rfl;(first|exact aop_ai (F := F) rfl rfl hzk hq hkq|exact aop_ai (F := F) rfl rfl ha hq haq|exact aop_al (F := F) rfl hkq|exact aop_al (F := F) rfl haq))|(exfalso;omega)|(refine yaS ?_ ?_<;>intro _)
            all_goals first
              | (exfalso; omega)
              | skip
            refine Go.scall _ rfl rfl rfl cc ?_
            rintro r τ ⟨rfl, rfl⟩
            by_cases ho : o < 0
            · rw [if_pos (by simp [ho]; omega)] at hsc
              repeat' first|refine yaG ?_|(exfalso;omega)|(refine yaS ?_ ?_<;>intro _)
              all_goals first
                | (exfalso; omega)
                | (exfalso; rename_i hbad; rw [decide_eq_true ho] at hbad; cases hbad; done)
                | (exfalso; rename_i hbad; rw [decide_eq_false ho] at hbad; cases hbad; done)
                | skip
              exact Go.keep [0, 1, 4, 12, 13] (hrec _ _ _ (by omega) ⟨k + 1, _, rfl, by omega, by omega, wrap_succ hzk (by omega), hsc, rfl, rfl⟩)
            · rw [if_neg (by simp [ho])] at hsc
              repeat' first|refine yaG ?_|(exfalso;omega)|(refine yaS ?_ ?_<;>intro _)
              all_goals first
                | (exfalso; omega)
                | (exfalso; rename_i hbad; rw [decide_eq_true ho] at hbad; cases hbad; done)
                | (exfalso; rename_i hbad; rw [decide_eq_false ho] at hbad; cases hbad; done)
                | skip
              exact Go.keep [0, 1, 4, 12, 13] (hmt _ _ ⟨k, _, by omega, by omega, hzk, hsc, rfl, rfl⟩)
          · rw [if_neg (by simp; omega)] at hsc
            repeat' first|refine yaG ?_|(exfalso;omega)|(refine yaS ?_ ?_<;>intro _)
            all_goals first
              | (exfalso; omega)
              | skip
            exact Go.keep [0, 1, 4, 12, 13] (hmt _ _ ⟨k, _, by omega, by omega, hzk, hsc, rfl, rfl⟩)
        · rintro fr τ ⟨i2, zi2, hk1, hk2, hzi2, hsc, rfl, rfl⟩
          rw [hsc] at hl
          have hsu := (Go.Sort.scanUp_spec p q j _ i rfl).2.2.2
          rw [hsc] at hsu
          clear hsc
          repeat' first|refine yaG ?_|(exfalso;omega)|(refine yaS ?_ ?_<;>intro _)
          refine Go.meet (K' := [_, _]) (fun fr τ => ∃ (k : Nat) (zk : Int), k ≤ j ∧ i2 ≤ k + 1 ∧ zk = k ∧ Go.Sort.scanDown p2 q i2 j = k ∧ fr = [(0, .c (.sl F.id F.v 0 N c)), (1, .c (.int .i64 za)), (4, .c (.fn g pre cap)), (12, .c (.int .i64 zi2)), (13, .c (.int .i64 zk))] ∧ τ = F.A q) (fun K hmt => ?_) ?_
          · refine Go.keep [0, 1, 4, 12, 13] (Go.loops (I := fun mm fr τ => ∃ (k : Nat) (zk : Int), mm = k ∧ k ≤ j ∧ i2 ≤ k + 1 ∧ zk = k ∧ Go.Sort.scanDown p2 q i2 j = Go.Sort.scanDown p2 q i2 k ∧
                fr = [(0, .c (.sl F.id F.v 0 N c)), (1, .c (.int .i64 za)), (4, .c (.fn g pre cap)), (12, .c (.int .i64 zi2)), (13, .c (.int .i64 zk))] ∧ τ = F.A q) ?_ _ _ _ ⟨j, _, rfl, by omega, by omega, hzj, rfl, rfl, rfl⟩)
            clear hrec
            rintro mm fr τ ⟨k, zk, hmm, hk1, hk2, hzk, hsc, rfl, rfl⟩ hrec
            cases k with
            | zero =>
              rw [Go.Sort.scanDown] at hsc
              repeat' first|refine yaG ?_|(exfalso;omega)|(refine yaS ?_ ?_<;>intro _)
              all_goals first
                | (exfalso; omega)
                | skip
              exact Go.keep [0, 1, 4, 12, 13] (hmt _ _ ⟨0, _, by omega, by omega, hzk, hsc, rfl, rfl⟩)
            | succ k =>
              rw [Go.Sort.scanDown] at hsc
              by_cases hlt : i2 ≤ k + 1
              · have hkq : (k + 1) < q.size := by omega
                have haq : a < q.size := by omega
                have hpk := hp2 q[(k + 1)]!
                have cc := hcmp.at q q[(k + 1)]! q[a]!
                generalize co q[(k + 1)]! q[a]! = o at cc hpk
                rw [hpk] at hsc
                repeat' first|refine yaG ?_|((first|apply yG|apply yH|apply yI);exact rfl;(first|exact aop_ai (F := F) rfl rfl hzk hq hkq|exact aop_ai (F := F) rfl rfl ha hq haq|exact aop_al (F := F) rfl hkq|exact aop_al (F := F) rfl haq))|(exfalso;omega)|(refine yaS ?_ ?_<;>intro _)
                all_goals first
                  | (exfalso; omega)
                  | skip
                refine Go.scall _ rfl rfl rfl cc ?_
                rintro r τ ⟨rfl, rfl⟩
                by_cases ho : o < 0
                · rw [if_neg (by simp [ho])] at hsc
                  repeat' first|refine yaG ?_|(exfalso;omega)|(refine yaS ?_ ?_<;>intro _)
                  all_goals first
                    | (exfalso; omega)
                    | (exfalso; rename_i hbad; rw [decide_eq_true ho] at hbad; cases hbad; done)
                    | (exfalso; rename_i hbad; rw [decide_eq_false ho] at hbad; cases hbad; done)
                    | skip
                  exact Go.keep [0, 1, 4, 12, 13] (hmt _ _ ⟨k + 1, _, by omega, by omega, hzk, hsc, rfl, rfl⟩)
                · rw [if_pos (by simp [ho]; omega)] at hsc
                  repeat' first|refine yaG ?_|(exfalso;omega)|(refine yaS ?_ ?_<;>intro _)
                  all_goals first
                    | (exfalso; omega)
                    | (exfalso; rename_i hbad; rw [decide_eq_true ho] at hbad; cases hbad; done)
                    | (exfalso; rename_i hbad; rw [decide_eq_false ho] at hbad; cases hbad; done)
                    | skip
                  exact Go.keep [0, 1, 4, 12, 13] (hrec k _ _ (by omega) ⟨k, _, rfl, by omega, by omega, by rw [wrap64 (by omega) (by omega)]; omega, hsc, rfl, rfl⟩)
              · rw [if_neg (by simp; omega)] at hsc
                repeat' first|refine yaG ?_|(exfalso;omega)|(refine yaS ?_ ?_<;>intro _)
                all_goals first
                  | (exfalso; omega)
                  | skip
                exact Go.keep [0, 1, 4, 12, 13] (hmt _ _ ⟨k + 1, _, by omega, by omega, hzk, hsc, rfl, rfl⟩)
          · rintro fr τ ⟨j2, zj2, hk3, hk4, hzj2, hsc, rfl, rfl⟩
            rw [hsc] at hl
            have hne : i2 ≠ j2 := by
              rintro rfl
              have hsd := (Go.Sort.scanDown_spec p2 q i2 j).2.2.2
              rw [hsc] at hsd
              have h1 := hsu (by omega)
              have h2 := hsd (Nat.le_refl _) (by omega)
              rw [hp] at h1
              rw [hp2, h1] at h2
              cases h2
            have haq : a < q.size := by omega
            have hjq : j2 < q.size := by omega
            by_cases hgt : i2 > j2
            · rw [if_pos hgt] at hl
              repeat' first|(apply yA;exact rfl)|apply yC|((first|apply yD|apply yE);(first|exact yF|assumption);iterate 6 exact rfl)|((first|apply yG|apply yH|apply yI);exact rfl;(first|exact yJ|exact yK rfl rfl|exact yL rfl|exact yM rfl|exact rfl|exact aL rfl rfl rfl rfl rfl|exact aS rfl rfl rfl rfl rfl rfl rfl))|((first|apply yN|apply yO|apply yP);exact rfl)|(exfalso;omega)|(((first|apply yT|apply yU|apply yV|apply yW);exact rfl;(first|exact .d|exact .e|exact .n|((fail_if_success exact bqt);(fail_if_success exact bqf);exact .b)))<;>intro _)
              all_goals first
                | (exfalso; omega)
                | skip
              refine Go.qw (fun F' τ => Go P (F.A d).next _ _ _ (.segs _ :: _) F' τ) ?_ fun _ _ h => h
              repeat' first|(apply Qw.op;exact rfl;exact fun _ => rfl)|(apply Qw.rd;exact rfl;exact rfl;first|exact aop_ai (F := F) rfl rfl hzj2 hq hjq|exact aop_ai (F := F) rfl rfl ha hq haq|exact aop_al (F := F) rfl hjq|exact aop_al (F := F) rfl haq)|(apply Qw.wr;exact rfl;exact rfl;exact aop_as (F := F) rfl rfl hjq)|apply Qw.nil
              repeat' first|refine yaG ?_|((first|apply yG|apply yH|apply yI);exact rfl;(first|exact aop_ai (F := F) rfl rfl ha (Array.size_setIfInBounds.trans hq) (by rw [Array.size_setIfInBounds];exact haq)|exact aop_as (F := F) rfl rfl (by rw [Array.size_setIfInBounds];exact haq)))|(exfalso;omega)|(refine yaS ?_ ?_<;>intro _)
              rw [swp_is]
              exact .ret rfl ⟨by rw [hr, hl, hzj2], by rw [hr, hl]⟩
            · rw [if_neg hgt] at hl
              have hiq : i2 < q.size := by omega
              repeat' first|(apply yA;exact rfl)|apply yC|((first|apply yD|apply yE);(first|exact yF|assumption);iterate 6 exact rfl)|((first|apply yG|apply yH|apply yI);exact rfl;(first|exact yJ|exact yK rfl rfl|exact yL rfl|exact yM rfl|exact rfl|exact aL rfl rfl rfl rfl rfl|exact aS rfl rfl rfl rfl rfl rfl rfl))|((first|apply yN|apply yO|apply yP);exact rfl)|(exfalso;omega)|(((first|apply yT|apply yU|apply yV|apply yW);exact rfl;(first|exact .d|exact .e|exact .n|((fail_if_success exact bqt);(fail_if_success exact bqf);exact .b)))<;>intro _)
              all_goals first
                | (exfalso; omega)
                | skip
              refine Go.qw (fun F' τ => Go P (F.A d).next _ _ _ (.segs _ :: _) F' τ) ?_ fun _ _ h => h
              repeat' first|(apply Qw.op;exact rfl;exact fun _ => rfl)|(apply Qw.rd;exact rfl;exact rfl;first|exact aop_ai (F := F) rfl rfl hzi2 hq hiq|exact aop_ai (F := F) rfl rfl hzj2 hq hjq|exact aop_al (F := F) rfl hiq|exact aop_al (F := F) rfl hjq)|(apply Qw.wr;exact rfl;exact rfl;exact aop_as (F := F) rfl rfl hiq)|apply Qw.nil
              repeat' first|refine yaG ?_|((first|apply yG|apply yH|apply yI);exact rfl;(first|exact aop_ai (F := F) rfl rfl hzj2 (Array.size_setIfInBounds.trans hq) (by rw [Array.size_setIfInBounds];exact hjq)|exact aop_as (F := F) rfl rfl (by rw [Array.size_setIfInBounds];exact hjq)))|(exfalso;omega)|(refine yaS ?_ ?_<;>intro _)
              refine Go.keep [0, 1, 4, 12, 13] (hrec _ _ _ ?_ ⟨i2 + 1, j2 - 1, _, _, swp q i2 j2, rfl, by omega, by omega, by omega, wrap_succ hzi2 (by omega), by rw [wrap64 (by omega) (by omega)]; omega, swp_len.trans hq, hl, rfl, rfl⟩)
              omega
end Go.Proofs.YtdgnfdljkghpjaaGreat.Am

/- pdqsort's functions walked: the pivot. -/
set_option linter.unusedVariables false
set_option linter.unusedSimpArgs false
namespace Go.Proofs.YtdgnfdljkghpjaaGreat.Am
open Go.Sort (swp)

section
variable {α : Type} {F : Fam α}
theorem aop_aiE (hF : F.id < F.σ.next) {l : List (Nat × List (List Ce))} {fr : Fr} {d : Array α} {x y : Opd} {kd : IntKind} {z : Int} {m c i : Nat} (hx : x.ev fr = some (.c (.sl F.id F.v 0 m c))) (hy : y.ev fr = some (.c (.int kd z))) (hz : z = (i : Int)) (hm : d.size = m) (hi : i < d.size) :
    aop (.iaddr 2 x y) fr (E (F.A d) l) = some (.c (.ptr F.id F.v i 0), E (F.A d) l) := by
  rw [← Fam.up_A hF]
  exact aop_ai (F := F.up l) hx hy hz hm hi
theorem aop_alE [Inhabited α] (hF : F.id < F.σ.next) {l : List (Nat × List (List Ce))} {fr : Fr} {d : Array α} {a : Opd} {i : Nat} (ha : a.ev fr = some (.c (.ptr F.id F.v i 0))) (hi : i < d.size) : aop (.load true 2 a) fr (E (F.A d) l) = some (.agg (F.ce d[i]!), E (F.A d) l) := by
  rw [← Fam.up_A hF]
  exact aop_al (F := F.up l) ha hi
theorem aop_asE (hF : F.id < F.σ.next) {l : List (Nat × List (List Ce))} {fr : Fr} {d : Array α} {a y : Opd} {i : Nat} {x : α} (ha : a.ev fr = some (.c (.ptr F.id F.v i 0))) (hy : y.ev fr = some (.agg (F.ce x))) (hi : i < d.size) : aop (.store 2 a y) fr (E (F.A d) l) = some (.un, E (F.A (d.setIfInBounds i x)) l) := by
  rw [← Fam.up_A hF, ← Fam.up_A hF]
  exact aop_as (F := F.up l) ha hy hi
theorem CmpsA.e {P : Program} {c : α → α → Int} {g : Nat} {pre cap : List Ce} (h : CmpsA P F c g pre cap) (d : Array α) (l : List (Nat × List (List Ce))) (x y : α) : Ok P g (pre.map .c ++ [.agg (F.ce x), .agg (F.ce y)] ++ cap.map .c) (E (F.A d) l) (fun r τ => r = .c (.int .i64 (c x y)) ∧ τ = E (F.A d) l) :=
  h _ x y (fun a h1 h2 => (E_lt (σ := F.A d) h2).trans (show (F.A d).get a = F.σ.get a from if_neg h1)) (Nat.le_add_right _ _)
end
theorem order2_ok {P : Program} (hm : P.follows .mixedOrders = true) {fz : List Nat} {n : Nat} (hc : compFn P fz n = some c_slices_order2CmpFunc_Entry) {α : Type} [Inhabited α] (F : Fam α) (co : α → α → Int) (g : Nat) (pre cap : List Ce) (hcmp : CmpsA P F co g pre cap) (hF : F.id < F.σ.next) (d : Array α) (N lo hi x y c : Nat) (zx zy s : Int) (hzx : zx = x) (hzy : zy = y) (hN : d.size = N) (hhi : hi ≤ N) (hx1 : lo ≤ x) (hx2 : x < hi) (hy1 : lo ≤ y) (hy2 : y < hi) :
    Ok P n [.c (.sl F.id F.v 0 N c), .c (.int .i64 zx), .c (.int .i64 zy), .c (.ptr ((F.A d).next + 0) 0 0 0), .c (.fn g pre cap)] (E (F.A d) [(0, [[.int .i64 s]])]) (fun r τ => ∃ (s' zu zv : Int) (u v : Nat), τ = E (F.A d) [(0, [[.int .i64 s']])] ∧ zu = u ∧ zv = v ∧ lo ≤ u ∧ u < hi ∧ lo ≤ v ∧ v < hi ∧ r = .tup [.c (.int .i64 zu), .c (.int .i64 zv)]) := by
  refine .of_go hm hc (Nat.le_of_ble_eq_true rfl) ?_
  have hxq : x < d.size := by omega
  have hyq : y < d.size := by omega
  have cc := hcmp.e d [(0, [[.int .i64 s]])] d[y]! d[x]!
  repeat' first|refine yaN ?_|((first|apply yG|apply yH|apply yI);exact rfl;(first|exact aop_aiE (F := F) hF rfl rfl hzx hN hxq|exact aop_aiE (F := F) hF rfl rfl hzy hN hyq|exact aop_alE (F := F) hF rfl hxq|exact aop_alE (F := F) hF rfl hyq))|(exfalso;omega)|(refine yaS ?_ ?_<;>intro _)
  refine Go.scall _ rfl rfl rfl cc ?_
  rintro r τ ⟨rfl, rfl⟩
  generalize co d[y]! d[x]! = o
  by_cases ho : o < 0
  · repeat' first|refine yaN ?_|(exfalso;omega)|(refine yaS ?_ ?_<;>intro _)
    all_goals first
      | (exfalso; omega)
      | skip
    exact .ret rfl ⟨_, _, _, y, x, rfl, hzy, hzx, hy1, hy2, hx1, hx2, rfl⟩
  · repeat' first|refine yaN ?_|(exfalso;omega)|(refine yaS ?_ ?_<;>intro _)
    all_goals first
      | (exfalso; omega)
      | skip
    exact .ret rfl ⟨_, _, _, x, y, rfl, hzx, hzy, hx1, hx2, hy1, hy2, rfl⟩
theorem median_ok {P : Program} (hm : P.follows .mixedOrders = true) {fz : List Nat} {n : Nat} (hc : compFn P fz n = some c_slices_medianCmpFunc_Entry) {α : Type} [Inhabited α] (F : Fam α) {fz' : List Nat} (hc' : compFn P fz' 253 = some c_slices_order2CmpFunc_Entry) (co : α → α → Int) (g : Nat) (pre cap : List Ce) (hcmp : CmpsA P F co g pre cap) (hF : F.id < F.σ.next) (d : Array α) (N lo hi x y z c : Nat) (zx zy zz s : Int) (hzx : zx = x) (hzy : zy = y) (hzz : zz = z) (hN : d.size = N) (hhi : hi ≤ N) (hx1 : lo ≤ x) (hx2 : x < hi) (hy1 : lo ≤ y) (hy2 : y < hi) (hz1 : lo ≤ z) (hz2 : z < hi) :
    Ok P n [.c (.sl F.id F.v 0 N c), .c (.int .i64 zx), .c (.int .i64 zy), .c (.int .i64 zz), .c (.ptr ((F.A d).next + 0) 0 0 0), .c (.fn g pre cap)] (E (F.A d) [(0, [[.int .i64 s]])]) (fun r τ => ∃ (s' zu : Int) (u : Nat), τ = E (F.A d) [(0, [[.int .i64 s']])] ∧ zu = u ∧ lo ≤ u ∧ u < hi ∧ r = .c (.int .i64 zu)) := by
  refine .of_go hm hc (Nat.le_of_ble_eq_true rfl) ?_
  repeat' first|refine yaN ?_|(exfalso;omega)|(refine yaS ?_ ?_<;>intro _)
  refine .call _ rfl rfl rfl (order2_ok hm hc' F co g pre cap hcmp hF d N lo hi x y c zx zy s hzx hzy hN hhi hx1 hx2 hy1 hy2) ?_
  rintro r τ ⟨s1, zu, zv, u, v, rfl, hzu, hzv, hu1, hu2, hv1, hv2, rfl⟩
  repeat' first|refine yaN ?_|(exfalso;omega)|(refine yaS ?_ ?_<;>intro _)
  refine .call _ rfl rfl rfl (order2_ok hm hc' F co g pre cap hcmp hF d N lo hi v z c zv zz s1 hzv hzz hN hhi hv1 hv2 hz1 hz2) ?_
  rintro r τ ⟨s2, zu2, zv2, u2, v2, rfl, hzu2, hzv2, hu3, hu4, hv3, hv4, rfl⟩
  repeat' first|refine yaN ?_|(exfalso;omega)|(refine yaS ?_ ?_<;>intro _)
  refine .call _ rfl rfl rfl (order2_ok hm hc' F co g pre cap hcmp hF d N lo hi u u2 c zu zu2 s2 hzu hzu2 hN hhi hu1 hu2 hu3 hu4) ?_
  rintro r τ ⟨s3, zu3, zv3, u3, v3, rfl, hzu3, hzv3, hu5, hu6, hv5, hv6, rfl⟩
  repeat' first|refine yaN ?_|(exfalso;omega)|(refine yaS ?_ ?_<;>intro _)
  exact .ret rfl ⟨s3, zv3, v3, rfl, hzv3, hv5, hv6, rfl⟩
theorem medianAdj_ok {P : Program} (hm : P.follows .mixedOrders = true) {fz : List Nat} {n : Nat} (hc : compFn P fz n = some c_slices_medianAdjacentCmpFunc_Entry) {α : Type} [Inhabited α] (F : Fam α) {fz' fz'' : List Nat} (hc' : compFn P fz' 233 = some c_slices_medianCmpFunc_Entry) (hc'' : compFn P fz'' 253 = some c_slices_order2CmpFunc_Entry) (co : α → α → Int) (g : Nat) (pre cap : List Ce) (hcmp : CmpsA P F co g pre cap) (hF : F.id < F.σ.next) (d : Array α) (N lo hi x c : Nat) (zx s : Int) (hzx : zx = x) (hN : d.size = N) (hhi : hi ≤ N) (hx1 : lo + 1 ≤ x) (hx2 : x + 1 < hi) (hx : N ≤ 34359738368) :
    Ok P n [.c (.sl F.id F.v 0 N c), .c (.int .i64 zx), .c (.ptr ((F.A d).next + 0) 0 0 0), .c (.fn g pre cap)] (E (F.A d) [(0, [[.int .i64 s]])]) (fun r τ => ∃ (s' zu : Int) (u : Nat), τ = E (F.A d) [(0, [[.int .i64 s']])] ∧ zu = u ∧ lo ≤ u ∧ u < hi ∧ r = .c (.int .i64 zu)) := by
  refine .of_go hm hc (Nat.le_of_ble_eq_true rfl) ?_
  have e1 : IntKind.i64.wrap (zx - 1) = ((x - 1 : Nat) : Int) := by rw [wrap64 (by omega) (by omega)]; omega
  have e2 : IntKind.i64.wrap (zx + 1) = ((x + 1 : Nat) : Int) := by rw [wrap64 (by omega) (by omega)]; omega
  repeat' first|refine yaN ?_|(exfalso;omega)|(refine yaS ?_ ?_<;>intro _)
  refine .call _ rfl rfl rfl (median_ok hm hc' F hc'' co g pre cap hcmp hF d N lo hi (x - 1) x (x + 1) c _ zx _ s e1 hzx e2 hN hhi (by omega) (by omega) (by omega) (by omega) (by omega) (by omega)) ?_
  rintro r τ ⟨s1, zu, u, rfl, hzu, hu1, hu2, rfl⟩
  repeat' first|refine yaN ?_|(exfalso;omega)|(refine yaS ?_ ?_<;>intro _)
  exact .ret rfl ⟨s1, zu, u, rfl, hzu, hu1, hu2, rfl⟩
theorem choosePivot_ok {P : Program} (hm : P.follows .mixedOrders = true) {fz : List Nat} {n : Nat} (hc : compFn P fz n = some c_slices_choosePivotCmpFunc_Entry) {α : Type} [Inhabited α] (F : Fam α) {fz' fz'' fz3 : List Nat} (hc3 : compFn P fz3 232 = some c_slices_medianAdjacentCmpFunc_Entry) (hc' : compFn P fz' 233 = some c_slices_medianCmpFunc_Entry) (hc'' : compFn P fz'' 253 = some c_slices_order2CmpFunc_Entry) (co : α → α → Int) (g : Nat) (pre cap : List Ce) (hcmp : CmpsA P F co g pre cap) (hF : F.id < F.σ.next) (d : Array α) (N a b c : Nat) (za zb : Int) (ha : za = a) (hb : zb = b) (hN : d.size = N) (h3 : b ≤ N) (hab : a + 8 ≤ b) (hx : N ≤ 34359738368) :
    Ok P n [.c (.sl F.id F.v 0 N c), .c (.int .i64 za), .c (.int .i64 zb), .c (.fn g pre cap)] (F.A d) (fun r τ => ∃ (zu h : Int) (u : Nat), τ = F.A d ∧ zu = u ∧ a ≤ u ∧ u < b ∧ r = .tup [.c (.int .i64 zu), .c (.int .i64 h)]) := by
  refine Ok.run hm hc (Nat.le_of_ble_eq_true rfl) fun hS hA => ?_
  clear hA
  have el : IntKind.i64.wrap (zb - za) = ((b - a : Nat) : Int) := by rw [wrap64 (by omega) (by omega)]; omega
  have e4 : IntKind.i64.wrap ((IntKind.i64.wrap (zb - za)).tdiv 4) = (((b - a) / 4 : Nat) : Int) := by rw [el, Int.tdiv_eq_ediv_of_nonneg (by omega), wrap64 (by omega) (by omega)]; omega
  have m1 : IntKind.i64.wrap (IntKind.i64.wrap ((IntKind.i64.wrap (zb - za)).tdiv 4) * 1) = (((b - a) / 4 * 1 : Nat) : Int) := by rw [e4, wrap64 (by omega) (by omega)]; omega
  have m2 : IntKind.i64.wrap (IntKind.i64.wrap ((IntKind.i64.wrap (zb - za)).tdiv 4) * 2) = (((b - a) / 4 * 2 : Nat) : Int) := by rw [e4, wrap64 (by omega) (by omega)]; omega
  have m3 : IntKind.i64.wrap (IntKind.i64.wrap ((IntKind.i64.wrap (zb - za)).tdiv 4) * 3) = (((b - a) / 4 * 3 : Nat) : Int) := by rw [e4, wrap64 (by omega) (by omega)]; omega
  have i1 : IntKind.i64.wrap (za + IntKind.i64.wrap (IntKind.i64.wrap ((IntKind.i64.wrap (zb - za)).tdiv 4) * 1)) = ((a + (b - a) / 4 * 1 : Nat) : Int) := by rw [m1, wrap64 (by omega) (by omega)]; omega
  have i2 : IntKind.i64.wrap (za + IntKind.i64.wrap (IntKind.i64.wrap ((IntKind.i64.wrap (zb - za)).tdiv 4) * 2)) = ((a + (b - a) / 4 * 2 : Nat) : Int) := by rw [m2, wrap64 (by omega) (by omega)]; omega
  have i3 : IntKind.i64.wrap (za + IntKind.i64.wrap (IntKind.i64.wrap ((IntKind.i64.wrap (zb - za)).tdiv 4) * 3)) = ((a + (b - a) / 4 * 3 : Nat) : Int) := by rw [m3, wrap64 (by omega) (by omega)]; omega
  have tail : ∀ (K : List AK) (s1 zu z9 : Int) (u : Nat), zu = u → a ≤ u → u < b → Go P (F.A d).next c_slices_choosePivotCmpFunc_Entry.nt c_slices_choosePivotCmpFunc_Entry.rets (fun r τ => ∃ (zu h : Int) (u : Nat), τ = F.A d ∧ zu = u ∧ a ≤ u ∧ u < b ∧ r = .tup [.c (.int .i64 zu), .c (.int .i64 h)]) (.code .ret :: K) [(8, .c (.int .i64 zu)), (9, .c (.int .i64 z9))] (E (F.A d) [(0, [[.int .i64 s1]])]) := fun K s1 zu z9 u h1 h2 h4 => by
    refine Go.freezeN (l := []) (m := [(0, [[.int .i64 s1]])]) (fr' := [(8, .c (.int .i64 zu)), (9, .c (.int .i64 z9))]) hS (fun b hb => by cases hb) (Nat.le_refl _) (.frz rfl (.refl old_c) (.frz rfl (.refl old_c) .nil)) ?_
    exact .ret rfl ⟨zu, z9, u, E_nil hS, h1, h2, h4, rfl⟩
  by_cases h50 : 50 ≤ b - a
  · repeat' first|refine yaN ?_|(exfalso;omega)|(refine yaS ?_ ?_<;>intro _)
    all_goals first
      | (exfalso; omega)
      | skip
    refine .call _ rfl rfl rfl (medianAdj_ok hm hc3 F hc' hc'' co g pre cap hcmp hF d N a b _ c _ _ i1 hN h3 (by omega) (by omega) hx) ?_
    rintro r τ ⟨s1, zu1, u1, rfl, hzu1, hu1, hu2, rfl⟩
    repeat' first|refine yaN ?_|(exfalso;omega)|(refine yaS ?_ ?_<;>intro _)
    refine .call _ rfl rfl rfl (medianAdj_ok hm hc3 F hc' hc'' co g pre cap hcmp hF d N a b _ c _ _ i2 hN h3 (by omega) (by omega) hx) ?_
    rintro r τ ⟨s2, zu2, u2, rfl, hzu2, hu3, hu4, rfl⟩
    repeat' first|refine yaN ?_|(exfalso;omega)|(refine yaS ?_ ?_<;>intro _)
    refine .call _ rfl rfl rfl (medianAdj_ok hm hc3 F hc' hc'' co g pre cap hcmp hF d N a b _ c _ _ i3 hN h3 (by omega) (by omega) hx) ?_
    rintro r τ ⟨s3, zu3, u3, rfl, hzu3, hu5, hu6, rfl⟩
    repeat' first|refine yaN ?_|(exfalso;omega)|(refine yaS ?_ ?_<;>intro _)
    refine .call _ rfl rfl rfl (median_ok hm hc' F hc'' co g pre cap hcmp hF d N a b _ _ _ c _ _ _ _ hzu1 hzu2 hzu3 hN h3 hu1 hu2 hu3 hu4 hu5 hu6) ?_
    rintro r τ ⟨s4, zu, u, rfl, hzu, hu7, hu8, rfl⟩
    repeat' first|refine yaN ?_|(exfalso;omega)|(refine yaS ?_ ?_<;>intro _)
    all_goals exact Go.keep [8, 9] (tail _ _ _ _ _ hzu hu7 hu8)
  · repeat' first|refine yaN ?_|(exfalso;omega)|(refine yaS ?_ ?_<;>intro _)
    all_goals first
      | (exfalso; omega)
      | skip
    refine .call _ rfl rfl rfl (median_ok hm hc' F hc'' co g pre cap hcmp hF d N a b _ _ _ c _ _ _ _ i1 i2 i3 hN h3 (by omega) (by omega) (by omega) (by omega) (by omega) (by omega)) ?_
    rintro r τ ⟨s4, zu, u, rfl, hzu, hu7, hu8, rfl⟩
    repeat' first|refine yaN ?_|(exfalso;omega)|(refine yaS ?_ ?_<;>intro _)
    all_goals exact Go.keep [8, 9] (tail _ _ _ _ _ hzu hu7 hu8)
end Go.Proofs.YtdgnfdljkghpjaaGreat.Am

/- pdqsort's functions walked: numbers' lengths, the patterns broken. -/
set_option linter.unusedVariables false
set_option linter.unusedSimpArgs false
namespace Go.Proofs.YtdgnfdljkghpjaaGreat.Am
open Go.Sort (swp)

def lenTab : List UInt8 := [0, 1, 2, 2, 3, 3, 3, 3, 4, 4, 4, 4, 4, 4, 4, 4, 5, 5, 5, 5, 5, 5, 5, 5, 5, 5, 5, 5, 5, 5, 5, 5, 6, 6, 6, 6, 6, 6, 6, 6, 6, 6, 6, 6, 6, 6, 6, 6, 6, 6, 6, 6, 6, 6, 6, 6, 6, 6, 6, 6, 6, 6, 6, 6, 7, 7, 7, 7, 7, 7, 7, 7, 7, 7, 7, 7, 7, 7, 7, 7, 7, 7, 7, 7, 7, 7, 7, 7, 7, 7, 7, 7, 7, 7, 7, 7, 7, 7, 7, 7, 7, 7, 7, 7, 7, 7, 7, 7, 7, 7, 7, 7, 7, 7, 7, 7, 7, 7, 7, 7, 7, 7, 7, 7, 7, 7, 7, 7, 8, 8, 8, 8, 8, 8, 8, 8, 8, 8, 8, 8, 8, 8, 8, 8, 8, 8, 8, 8, 8, 8, 8, 8, 8, 8, 8, 8, 8, 8, 8, 8, 8, 8, 8, 8, 8, 8, 8, 8, 8, 8, 8, 8, 8, 8, 8, 8, 8, 8, 8, 8, 8, 8, 8, 8, 8, 8, 8, 8, 8, 8, 8, 8, 8, 8, 8, 8, 8, 8, 8, 8, 8, 8, 8, 8, 8, 8, 8, 8, 8, 8, 8, 8, 8, 8, 8, 8, 8, 8, 8, 8, 8, 8, 8, 8, 8, 8, 8, 8, 8, 8, 8, 8, 8, 8, 8, 8, 8, 8, 8, 8, 8, 8, 8, 8, 8, 8, 8, 8, 8, 8, 8, 8, 8, 8, 8, 8]
theorem lenTab_len : lenTab.length = 256 := by kernel_rfl
theorem lenTab_all : (List.range 256).all (fun n => (lenTab[n]?.getD 0).toNat == Go.Sort.bitsLen n) = true := by kernel_rfl
theorem lenTab_at {n : Nat} (h : n < 256) : (lenTab[n]?.getD 0).toNat = Go.Sort.bitsLen n := by
  have := List.all_eq_true.1 lenTab_all n (List.mem_range.2 h)
  simpa using this
theorem Len64_ok (n : Nat) (hn : n < 256) : Pure Tryz.prog 198 [.c (.int .u64 n)] (.c (.int .i64 (Go.Sort.bitsLen n : Nat))) := by
  refine Pure.run mixed c_bits_Len64_ok (Nat.le_of_ble_eq_true rfl) fun σ hS hA => ?_
  clear hS hA
  have hw : IntKind.u8.wrap (n : Int) = (n : Int) := by
    simp only [IntKind.wrap]
    simp [IntKind.bits, IntKind.signed]
    omega
  have hl : n < lenTab.length := by rw [lenTab_len]; exact hn
  have ht : (lenTab[n].toNat : Int) = (Go.Sort.bitsLen n : Nat) := by
    have := lenTab_at hn
    rw [List.getElem?_eq_getElem hl, Option.getD_some] at this
    rw [this]
  have hb : Go.Sort.bitsLen n ≤ 8 := (Go.Sort.bitsLen_le_iff n 8).2 hn
  repeat' first|refine yaG ?_|((first|apply yG|apply yH|apply yI);exact rfl;(first|exact aop_idxS (s := lenTab) rfl rfl hw hl))|(exfalso;omega)|(refine yaS ?_ ?_<;>intro _)
  all_goals first
    | (exfalso; omega)
    | skip
  rw [ht]
  refine .ret rfl (.int ?_)
  rw [wrap64 (n := ((Go.Sort.bitsLen n : Nat) : Int)) (by omega) (by omega), wrap64 (by omega) (by omega)]
  omega
theorem Len_ok (n : Nat) (hn : n < 256) : Pure Tryz.prog 145 [.c (.int .u64 n)] (.c (.int .i64 (Go.Sort.bitsLen n : Nat))) := by
  refine Pure.run mixed c_bits_Len_ok (Nat.le_of_ble_eq_true rfl) fun σ hS hA => ?_
  clear hS hA
  repeat' first|refine yaG ?_|refine yaC (Len64_ok n hn) ?_|(exfalso;omega)|(refine yaS ?_ ?_<;>intro _)
  exact .ret rfl (.int rfl)
theorem nextPow_ok (z : Int) (n : Nat) (hz : z = n) (hn : n < 256) : Pure Tryz.prog 230 [.c (.int .i64 z)] (.c (.int .u64 (2 ^ Go.Sort.bitsLen n : Nat))) := by
  refine Pure.run mixed c_slices_nextPowerOfTwo_ok (Nat.le_of_ble_eq_true rfl) fun σ hS hA => ?_
  clear hS hA
  have hw : IntKind.u64.wrap z = (n : Int) := by
    rw [hz]
    simp only [IntKind.wrap]
    simp [IntKind.bits, IntKind.signed]
    omega
  have hb : Go.Sort.bitsLen n ≤ 8 := (Go.Sort.bitsLen_le_iff n 8).2 hn
  have c1 := Len_ok n hn
  rw [← hw] at c1
  have h0 : (0 : Int) ≤ ((Go.Sort.bitsLen n : Nat) : Int) := by omega
  repeat' first|refine yaG ?_|refine yaC (c1) ?_|(exfalso;omega)|(refine yaS ?_ ?_<;>intro _)
  refine .ret rfl (.int ?_)
  rw [Int.toNat_natCast, Nat.min_eq_left (Nat.le_trans hb (by decide)), Int.one_mul]
  have h2 : 2 ^ Go.Sort.bitsLen n ≤ 2 ^ 8 := Nat.pow_le_pow_right (by decide) hb
  rw [show ((2 : Int) ^ Go.Sort.bitsLen n) = ((2 ^ Go.Sort.bitsLen n : Nat) : Int) by simp]
  generalize 2 ^ Go.Sort.bitsLen n = k at h2 ⊢
  simp only [IntKind.wrap]
  simp [IntKind.bits, IntKind.signed]
  omega
theorem Next_ok (v : Int) (σ : Store) : Ok Tryz.prog 231 [.c (.ptr (σ.next + 0) 0 0 0)] (E σ [(0, [[.int .u64 v]])]) (fun r τ => ∃ w : Int, r = .c (.int .u64 w) ∧ τ = E σ [(0, [[.int .u64 w]])]) := by
  refine .of_go mixed c_slices_xorshift_Next_ok (Nat.le_of_ble_eq_true rfl) ?_
  repeat' first|refine yaN ?_|(exfalso;omega)|(refine yaS ?_ ?_<;>intro _)
  exact .ret rfl ⟨_, rfl, rfl⟩
theorem and_in (w : Int) (M : Nat) (h1 : 1 ≤ M) (h2 : M ≤ 512) : ∃ k : Nat, k < M ∧ IntKind.i64.wrap (IntKind.u64.wrap ((BitVec.ofInt IntKind.u64.bits w &&& BitVec.ofInt IntKind.u64.bits (IntKind.u64.wrap ((M : Nat) - 1 : Int))).toNat : Int)) = (k : Int) := by
  have hw : IntKind.u64.wrap ((M : Nat) - 1 : Int) = ((M - 1 : Nat) : Int) := by
    simp only [IntKind.wrap]
    simp [IntKind.bits, IntKind.signed]
    omega
  rw [hw]
  have hk : (BitVec.ofInt IntKind.u64.bits w &&& BitVec.ofInt IntKind.u64.bits ((M - 1 : Nat) : Int)).toNat ≤ M - 1 := by
    rw [BitVec.toNat_and]
    refine Nat.le_trans Nat.and_le_right ?_
    rw [BitVec.ofInt_natCast, BitVec.toNat_ofNat]
    exact Nat.mod_le _ _
  generalize (BitVec.ofInt IntKind.u64.bits w &&& BitVec.ofInt IntKind.u64.bits ((M - 1 : Nat) : Int)).toNat = k at hk ⊢
  refine ⟨k, by omega, ?_⟩
  have h3 : IntKind.u64.wrap (k : Int) = (k : Int) := by
    simp only [IntKind.wrap]
    simp [IntKind.bits, IntKind.signed]
    omega
  rw [h3, wrap64 (by omega) (by omega)]
theorem oldA {α : Type} [Inhabited α] {F : Fam α} {d q : Array α} (hF : F.id < F.σ.next) (h : OldS (F.A d)) (hm : ∀ x ∈ q.toList, x ∈ d.toList) : OldS (F.A q) := by
  intro id y hy
  by_cases e : id = F.id
  · subst e
    have hy2 : (F.v, q.toList.map F.ce ++ F.junk) = y := by
      have : (F.A q).get F.id = some (F.v, q.toList.map F.ce ++ F.junk) := if_pos rfl
      rw [this] at hy
      exact Option.some.inj hy
    subst hy2
    refine ⟨hF, fun i j hi hj => ?_⟩
    have key : ∀ e ∈ q.toList.map F.ce ++ F.junk, ∀ x ∈ e, Old (F.A q).next x := by
      have hd : (F.A d).get F.id = some (F.v, d.toList.map F.ce ++ F.junk) := if_pos rfl
      have ho := (h _ _ hd).2
      have ho2 : ∀ e ∈ d.toList.map F.ce ++ F.junk, ∀ x ∈ e, Old (F.A d).next x := fun e he x hx => by
        obtain ⟨i, hi, rfl⟩ := List.getElem_of_mem he
        obtain ⟨j, hj, rfl⟩ := List.getElem_of_mem hx
        exact ho i j hi hj
      intro e he x hx
      rcases List.mem_append.1 he with he | he
      · obtain ⟨a, ha, rfl⟩ := List.mem_map.1 he
        exact ho2 _ (List.mem_append_left _ (List.mem_map_of_mem (hm a ha))) x hx
      · exact ho2 e (List.mem_append_right _ he) x hx
    exact key _ (List.getElem_mem hi) _ (List.getElem_mem hj)
  · have h1 : (F.A q).get id = F.σ.get id := if_neg e
    have h2 : (F.A d).get id = F.σ.get id := if_neg e
    rw [h1, ← h2] at hy
    exact h id y hy
theorem permIn_mem {α : Type} [Inhabited α] {a b : Nat} {d q : Array α} (hb : b ≤ d.size) (h : Go.Sort.PermIn a b d q) : ∀ x ∈ q.toList, x ∈ d.toList := by
  intro x hx
  obtain ⟨i, hi, rfl⟩ := List.getElem_of_mem hx
  have hi2 : i < q.size := by simpa using hi
  have e : q.toList[i] = q[i]! := by rw [Array.getElem_toList, getElem!_pos q i hi2]
  rw [e]
  have mem : ∀ k, k < d.size → d[k]! ∈ d.toList := fun k hk => by
    rw [getElem!_pos d k hk, ← Array.getElem_toList]
    exact List.getElem_mem _
  by_cases hin : a ≤ i ∧ i < b
  · exact Go.Sort.permIn_all d q a b (fun x => x ∈ d.toList) hb h (fun k _ hk => mem k (by omega)) i hin.1 hin.2
  · rw [h.2.1 i (by omega)]
    exact mem i (by rw [← h.1]; exact hi2)
theorem break_ok {fz : List Nat} {n : Nat} (hc : compFn Tryz.prog fz n = some c_slices_breakPatternsCmpFunc_Entry) {α : Type} [Inhabited α] (F : Fam α) (hF : F.id < F.σ.next) (d : Array α) (N a b c : Nat) (za zb : Int) (ha : za = a) (hb : zb = b) (f : Ce) (hN : d.size = N) (h3 : b ≤ N) (hab : a + 8 ≤ b) (hx : N ≤ 255) :
    Ok Tryz.prog n [.c (.sl F.id F.v 0 N c), .c (.int .i64 za), .c (.int .i64 zb), .c f] (F.A d) (fun r τ => r = .tup [] ∧ ∃ q, τ = F.A q ∧ Go.Sort.PermIn a b d q) := by
  refine Ok.run mixed hc (Nat.le_of_ble_eq_true rfl) fun hS hA => ?_
  clear hA
  have el : IntKind.i64.wrap (zb - za) = ((b - a : Nat) : Int) := by rw [wrap64 (by omega) (by omega)]; omega
  have hbl := Go.Sort.two_pow_bitsLen_le (n := b - a) (by omega)
  have hbp : 1 ≤ 2 ^ Go.Sort.bitsLen (b - a) := Nat.one_le_two_pow
  have cN := nextPow_ok (IntKind.i64.wrap (zb - za)) (b - a) el (by omega)
  have e4 : IntKind.i64.wrap ((IntKind.i64.wrap (zb - za)).tdiv 4) = (((b - a) / 4 : Nat) : Int) := by rw [el, Int.tdiv_eq_ediv_of_nonneg (by omega), wrap64 (by omega) (by omega)]; omega
  have m2 : IntKind.i64.wrap (IntKind.i64.wrap ((IntKind.i64.wrap (zb - za)).tdiv 4) * 2) = (((b - a) / 4 * 2 : Nat) : Int) := by rw [e4, wrap64 (by omega) (by omega)]; omega
  have i2 : IntKind.i64.wrap (za + IntKind.i64.wrap (IntKind.i64.wrap ((IntKind.i64.wrap (zb - za)).tdiv 4) * 2)) = ((a + (b - a) / 4 * 2 : Nat) : Int) := by rw [m2, wrap64 (by omega) (by omega)]; omega
  have i3 : IntKind.i64.wrap (IntKind.i64.wrap (za + IntKind.i64.wrap (IntKind.i64.wrap ((IntKind.i64.wrap (zb - za)).tdiv 4) * 2)) - 1) = ((a + (b - a) / 4 * 2 - 1 : Nat) : Int) := by rw [i2, wrap64 (by omega) (by omega)]; omega
  have i4 : IntKind.i64.wrap (IntKind.i64.wrap (za + IntKind.i64.wrap (IntKind.i64.wrap ((IntKind.i64.wrap (zb - za)).tdiv 4) * 2)) + 1) = ((a + (b - a) / 4 * 2 + 1 : Nat) : Int) := by rw [i2, wrap64 (by omega) (by omega)]; omega
  generalize 2 ^ Go.Sort.bitsLen (b - a) = M at cN hbl hbp
  repeat' first|refine yaN ?_|refine yaC (cN) ?_|(exfalso;omega)|(refine yaS ?_ ?_<;>intro _)
  all_goals first
    | (exfalso; omega)
    | skip
  clear cN m2 e4
  refine Go.keep [0, 1, 8, 9, 10, 11] (Go.loops (I := fun mm fr τ => ∃ (i : Nat) (zi v : Int) (q : Array α), mm = b - i ∧ a ≤ i ∧ i ≤ a + (b - a) / 4 * 2 + 2 ∧ zi = i ∧ Go.Sort.PermIn a b d q ∧
    fr = [(0, .c (.sl F.id F.v 0 N c)), (1, .c (.int .i64 za)), (8, .c (.int .i64 (IntKind.i64.wrap (zb - za)))), (9, .c (.ptr ((F.A d).next + 0) 0 0 0)), (10, .c (.int .u64 (M : Nat))), (11, .c (.int .i64 zi))] ∧ τ = E (F.A q) [(0, [[.int .u64 v]])]) ?_ _ _ _ ⟨_, _, _, d, rfl, by omega, by omega, i3, Go.Sort.permIn_refl d a b, rfl, rfl⟩)
  rintro mm fr τ ⟨i, zi, v, q, rfl, hai, hib, hzi, hp, rfl, rfl⟩ hrec
  have hq : q.size = N := hp.1.trans hN
  by_cases hlt : i ≤ a + (b - a) / 4 * 2 + 1
  · repeat' first|refine yaN ?_|(exfalso;omega)|(refine yaS ?_ ?_<;>intro _)
    all_goals first
      | (exfalso; omega)
      | skip
    refine .call _ rfl rfl rfl (Next_ok v (F.A q)) ?_
    rintro r τ ⟨w, rfl, rfl⟩
    obtain ⟨k, hk1, hk2⟩ := and_in w M hbp (by omega)
    have hiq : i < q.size := by omega
    have fin : ∀ (o : Nat) (u : Int), o < b - a → Go.Sort.PermIn a b d (swp q i (a + o)) := fun o u ho =>
      Go.Sort.permIn_trans _ _ _ a b hp (Go.Sort.swp_permIn q a b i (a + o) hai (by omega) (by omega) (by omega) (by omega))
    by_cases hkl : b - a ≤ k
    · have eo : IntKind.i64.wrap (IntKind.i64.wrap (IntKind.u64.wrap ((BitVec.ofInt IntKind.u64.bits w &&& BitVec.ofInt IntKind.u64.bits (IntKind.u64.wrap ((M : Nat) - 1 : Int))).toNat : Int)) - IntKind.i64.wrap (zb - za)) = ((k - (b - a) : Nat) : Int) := by rw [hk2, el, wrap64 (by omega) (by omega)]; omega
      have ea : IntKind.i64.wrap (za + IntKind.i64.wrap (IntKind.i64.wrap (IntKind.u64.wrap ((BitVec.ofInt IntKind.u64.bits w &&& BitVec.ofInt IntKind.u64.bits (IntKind.u64.wrap ((M : Nat) - 1 : Int))).toNat : Int)) - IntKind.i64.wrap (zb - za))) = ((a + (k - (b - a)) : Nat) : Int) := by rw [eo, wrap64 (by omega) (by omega)]; omega
      have hoq : a + (k - (b - a)) < q.size := by omega
      repeat' first|(apply yA;exact rfl)|apply yC|((first|apply yG|apply yH|apply yI);exact rfl;(first|exact yJ|exact yK rfl rfl|exact yL rfl|exact yM rfl|exact rfl|exact aL rfl rfl rfl rfl rfl|exact aS rfl rfl rfl rfl rfl rfl rfl))|((first|apply yN|apply yO|apply yP);exact rfl)|(exfalso;omega)|(((first|apply yT|apply yU|apply yV|apply yW);exact rfl;(first|exact .d|exact .e|exact .n|((fail_if_success exact bqt);(fail_if_success exact bqf);exact .b)))<;>intro _)
      all_goals first
        | (exfalso; omega)
        | skip
      refine Go.qw (fun F' τ => Go Tryz.prog (F.A d).next _ _ _ (.segs _ :: _) F' τ) ?_ fun _ _ h => h
      repeat' first|(apply Qw.op;exact rfl;exact fun _ => rfl)|(apply Qw.rd;exact rfl;exact rfl;first|exact aop_aiE (F := F) hF rfl rfl hzi hq hiq|exact aop_aiE (F := F) hF rfl rfl ea hq hoq|exact aop_alE (F := F) hF rfl hiq|exact aop_alE (F := F) hF rfl hoq)|(apply Qw.wr;exact rfl;exact rfl;exact aop_asE (F := F) hF rfl rfl hiq)|apply Qw.nil
      repeat' first|refine yaN ?_|((first|apply yG|apply yH|apply yI);exact rfl;(first|exact aop_aiE (F := F) hF rfl rfl ea (Array.size_setIfInBounds.trans hq) (by rw [Array.size_setIfInBounds];exact hoq)|exact aop_asE (F := F) hF rfl rfl (by rw [Array.size_setIfInBounds];exact hoq)))|(exfalso;omega)|(refine yaS ?_ ?_<;>intro _)
      exact Go.keep [0, 1, 8, 9, 10, 11] (hrec _ _ _ (by omega) ⟨i + 1, _, w, swp q i (a + (k - (b - a))), rfl, by omega, by omega, wrap_succ hzi (by omega), fin _ w (by omega), rfl, rfl⟩)
    · have ea : IntKind.i64.wrap (za + IntKind.i64.wrap (IntKind.u64.wrap ((BitVec.ofInt IntKind.u64.bits w &&& BitVec.ofInt IntKind.u64.bits (IntKind.u64.wrap ((M : Nat) - 1 : Int))).toNat : Int))) = ((a + k : Nat) : Int) := by rw [hk2, wrap64 (by omega) (by omega)]; omega
      have hoq : a + k < q.size := by omega
      repeat' first|(apply yA;exact rfl)|apply yC|((first|apply yG|apply yH|apply yI);exact rfl;(first|exact yJ|exact yK rfl rfl|exact yL rfl|exact yM rfl|exact rfl|exact aL rfl rfl rfl rfl rfl|exact aS rfl rfl rfl rfl rfl rfl rfl))|((first|apply yN|apply yO|apply yP);exact rfl)|(exfalso;omega)|(((first|apply yT|apply yU|apply yV|apply yW);exact rfl;(first|exact .d|exact .e|exact .n|((fail_if_success exact bqt);(fail_if_success exact bqf);exact .b)))<;>intro _)
      all_goals first
        | (exfalso; omega)
        | skip
      refine Go.qw (fun F' τ => Go Tryz.prog (F.A d).next _ _ _ (.segs _ :: _) F' τ) ?_ fun _ _ h => h
      repeat' first|(apply Qw.op;exact rfl;exact fun _ => rfl)|(apply Qw.rd;exact rfl;exact rfl;first|exact aop_aiE (F := F) hF rfl rfl hzi hq hiq|exact aop_aiE (F := F) hF rfl rfl ea hq hoq|exact aop_alE (F := F) hF rfl hiq|exact aop_alE (F := F) hF rfl hoq)|(apply Qw.wr;exact rfl;exact rfl;exact aop_asE (F := F) hF rfl rfl hiq)|apply Qw.nil
      repeat' first|refine yaN ?_|((first|apply yG|apply yH|apply yI);exact rfl;(first|exact aop_aiE (F := F) hF rfl rfl ea (Array.size_setIfInBounds.trans hq) (by rw [Array.size_setIfInBounds];exact hoq)|exact aop_asE (F := F) hF rfl rfl (by rw [Array.size_setIfInBounds];exact hoq)))|(exfalso;omega)|(refine yaS ?_ ?_<;>intro _)
      exact Go.keep [0, 1, 8, 9, 10, 11] (hrec _ _ _ (by omega) ⟨i + 1, _, w, swp q i (a + k), rfl, by omega, by omega, wrap_succ hzi (by omega), fin _ w (by omega), rfl, rfl⟩)
  · repeat' first|refine yaN ?_|(exfalso;omega)|(refine yaS ?_ ?_<;>intro _)
    all_goals first
      | (exfalso; omega)
      | skip
    refine Go.keep [0] ?_
    refine Go.freezeN (l := []) (m := [(0, [[.int .u64 v]])]) (fr' := []) (oldA hF hS (permIn_mem (by omega) hp)) (fun b hb => by cases hb) (Nat.le_refl _) .nil ?_
    exact .fin rfl ⟨rfl, q, E_nil (oldA hF hS (permIn_mem (by omega) hp)), hp⟩
end Go.Proofs.YtdgnfdljkghpjaaGreat.Am

/- pdqsort walked. -/
set_option linter.unusedVariables false
set_option linter.unusedSimpArgs false
namespace Go.Proofs.YtdgnfdljkghpjaaGreat.Am
open Go.Sort (swp)

set_option maxHeartbeats 4000000 in
theorem pdq_ok {α : Type} [Inhabited α] (F : Fam α) (co : α → α → Int) (g : Nat) (pre cap : List Ce) (hcmp : CmpsA Tryz.prog F co g pre cap) (hF : F.id < F.σ.next) (hSW : Go.Sort.SWO (lessA co)) (N c : Nat) (hx : N ≤ 255) :
    ∀ (m : Nat) (d : Array α) (a b : Nat) (za zb zl : Int), b - a = m → za = a → zb = b → d.size = N → a ≤ b → b ≤ N → Go.Sort.Below (lessA co) a b d →
    Ok Tryz.prog 144 [.c (.sl F.id F.v 0 N c), .c (.int .i64 za), .c (.int .i64 zb), .c (.int .i64 zl), .c (.fn g pre cap)] (F.A d) (fun r τ => r = .tup [] ∧ ∃ R, τ = F.A R ∧ Go.Sort.PermIn a b d R ∧ Go.Sort.SortedIn (lessA co) a b R) := by
  intro m
  induction m using Nat.strongRecOn with
  | _ m ih =>
  intro d a b za zb zl hm ha hb hN hab h3 hB
  refine .of_go mixed c_slices_pdqsortCmpFunc_Entry_ok (Nat.le_of_ble_eq_true rfl) ?_
  repeat' first|refine yaG ?_|(exfalso;omega)|(refine yaS ?_ ?_<;>intro _)
  refine Go.keep [0, 1, 2, 3, 4, 10, 11] (Go.loops (I := fun mm fr τ => ∃ (a' b' : Nat) (za' zb' zl : Int) (wb wp : Bool) (q : Array α), mm = b' - a' ∧ b' - a' ≤ m ∧ a' ≤ b' ∧ b' ≤ N ∧ za' = a' ∧ zb' = b' ∧ q.size = N ∧ Go.Sort.Below (lessA co) a' b' q ∧
    (∀ R, Go.Sort.PermIn a' b' q R → Go.Sort.SortedIn (lessA co) a' b' R → Go.Sort.PermIn a b d R ∧ Go.Sort.SortedIn (lessA co) a b R) ∧
    fr = [(0, .c (.sl F.id F.v 0 N c)), (1, .c (.int .i64 za')), (2, .c (.int .i64 zb')), (3, .c (.int .i64 zl)), (4, .c (.fn g pre cap)), (10, .c (.bool wb)), (11, .c (.bool wp))] ∧ τ = F.A q) ?_ _ _ _ ⟨a, b, _, _, _, _, _, d, rfl, by omega, hab, h3, ha, hb, hN, hB, fun R h1 h2 => ⟨h1, h2⟩, rfl, rfl⟩)
  clear ha hb hN hB hab h3 hm
  rintro mm fr τ ⟨a', b', za', zb', zl, wb, wp, q, rfl, hm, hab, hbN, hza, hzb, hq, hB, hres, rfl, rfl⟩ hrec
  have el : IntKind.i64.wrap (zb' - za') = ((b' - a' : Nat) : Int) := by rw [wrap64 (by omega) (by omega)]; omega
  by_cases h12 : b' - a' ≤ 12
  · have ci := insertionA_ok mixed c_slices_insertionSortCmpFunc_Entry_ok F co g pre cap hcmp q N a' b' c za' zb' hza hzb hq hab hbN (by omega)
    obtain ⟨p1, p2⟩ := Go.Sort.insertionSort_holds hSW q a' b' hab (by omega)
    repeat' first|refine yaG ?_|(exfalso;omega)|(refine yaS ?_ ?_<;>intro _)
    all_goals first
      | (exfalso; omega)
      | skip
    refine .call _ rfl rfl rfl ci ?_
    rintro r τ ⟨rfl, rfl⟩
    repeat' first|refine yaG ?_|(exfalso;omega)|(refine yaS ?_ ?_<;>intro _)
    exact .ret rfl ⟨rfl, _, rfl, hres _ p1 p2⟩
  have h25 : decide (IntKind.i64.wrap (zb' - za') ≤ 12) = false := decide_eq_false (by omega)
  by_cases hl0 : zl = 0
  · subst hl0
    have ci := heapSort_ok mixed c_slices_heapSortCmpFunc_Entry_ok F c_slices_siftDownCmpFunc_Entry_ok co g pre cap hcmp q N a' b' c za' zb' hza hzb hq (by omega) hbN (by omega)
    obtain ⟨p1, p2⟩ := Go.Sort.heapSort_holds hSW q a' b' hab (by omega)
    repeat' first|refine yaG ?_|(exfalso;omega)|(refine yaS ?_ ?_<;>intro _)
    all_goals first
      | (exfalso; omega)
      | skip
    refine .call _ rfl rfl rfl ci ?_
    rintro r τ ⟨rfl, rfl⟩
    repeat' first|refine yaG ?_|(exfalso;omega)|(refine yaS ?_ ?_<;>intro _)
    exact .ret rfl ⟨rfl, _, rfl, hres _ p1 p2⟩
  have h32 : (zl == 0) = false := by simp [hl0]
  repeat' first|refine yaG ?_|fail
  rw [h25]
  repeat' first|refine yaG ?_|fail
  rw [h32]
  repeat' first|refine yaG ?_|fail
  refine Go.meet (K' := [_]) (fun fr τ => ∃ (q1 : Array α) (zl1 : Int), Go.Sort.PermIn a' b' q q1 ∧ fr = [(0, .c (.sl F.id F.v 0 N c)), (1, .c (.int .i64 za')), (2, .c (.int .i64 zb')), (3, .c (.int .i64 zl1)), (4, .c (.fn g pre cap)), (10, .c (.bool wb)), (11, .c (.bool wp)), (12, .c (.int .i64 (IntKind.i64.wrap (zb' - za'))))] ∧ τ = F.A q1) (fun K hmt => ?_) ?_
  · cases wb
    · repeat' first|refine yaG ?_|(exfalso;omega)|(refine yaS ?_ ?_<;>intro _)
      refine .call _ rfl rfl rfl (break_ok c_slices_breakPatternsCmpFunc_Entry_ok F hF q N a' b' c za' zb' hza hzb (.fn g pre cap) hq hbN (by omega) (by omega)) ?_
      rintro r τ ⟨rfl, q1, rfl, hp1⟩
      repeat' first|refine yaG ?_|(exfalso;omega)|(refine yaS ?_ ?_<;>intro _)
      exact Go.keep [0, 1, 2, 3, 4, 10, 11, 12] (hmt _ _ ⟨q1, _, hp1, rfl, rfl⟩)
    · repeat' first|refine yaG ?_|(exfalso;omega)|(refine yaS ?_ ?_<;>intro _)
      exact Go.keep [0, 1, 2, 3, 4, 10, 11, 12] (hmt _ _ ⟨q, _, Go.Sort.permIn_refl q a' b', rfl, rfl⟩)
  rintro fr τ ⟨q1, zl1, hp1, rfl, rfl⟩
  have hq1 : q1.size = N := hp1.1.trans hq
  have hB1 := hB.perm (by omega) hp1
  repeat' first|refine yaG ?_|(exfalso;omega)|(refine yaS ?_ ?_<;>intro _)
  refine .call _ rfl rfl rfl (choosePivot_ok mixed c_slices_choosePivotCmpFunc_Entry_ok F c_slices_medianAdjacentCmpFunc_Entry_ok c_slices_medianCmpFunc_Entry_ok c_slices_order2CmpFunc_Entry_ok co g pre cap hcmp hF q1 N a' b' c za' zb' hza hzb hq1 hbN (by omega) (by omega)) ?_
  rintro r τ ⟨zp, h, u, rfl, hzp, hu1, hu2, rfl⟩
  repeat' first|refine yaG ?_|fail
  refine Go.meet (K' := [_]) (fun fr τ => ∃ (q2 : Array α) (zp2 h2 : Int) (u2 : Nat), Go.Sort.PermIn a' b' q1 q2 ∧ zp2 = u2 ∧ a' ≤ u2 ∧ u2 < b' ∧ fr = [(0, .c (.sl F.id F.v 0 N c)), (1, .c (.int .i64 za')), (2, .c (.int .i64 zb')), (3, .c (.int .i64 zl1)), (4, .c (.fn g pre cap)), (10, .c (.bool wb)), (11, .c (.bool wp)), (12, .c (.int .i64 (IntKind.i64.wrap (zb' - za')))), (13, .c (.int .i64 zp2)), (14, .c (.int .i64 h2))] ∧ τ = F.A q2) (fun K hmt => ?_) ?_
  · by_cases hh : h = 2
    · subst hh
      have cr := reverse_ok mixed c_slices_reverseRangeCmpFunc_Entry_ok F q1 N a' b' c za' zb' hza hzb (.fn g pre cap) hq1 (by omega) hbN (by omega)
      repeat' first|refine yaG ?_|(exfalso;omega)|(refine yaS ?_ ?_<;>intro _)
      refine .call _ rfl rfl rfl cr ?_
      rintro r τ ⟨rfl, rfl⟩
      repeat' first|refine yaG ?_|(exfalso;omega)|(refine yaS ?_ ?_<;>intro _)
      refine Go.keep [0, 1, 2, 3, 4, 10, 11, 12, 13, 14] (hmt _ _ ⟨_, _, _, (b' - 1) - (u - a'), Go.Sort.reverseRange_holds q1 a' b' hab (by omega), ?_, by omega, by omega, rfl, rfl⟩)
      have x1 : IntKind.i64.wrap (zb' - 1) = ((b' - 1 : Nat) : Int) := by rw [wrap64 (by omega) (by omega)]; omega
      have x2 : IntKind.i64.wrap (zp - za') = ((u - a' : Nat) : Int) := by rw [wrap64 (by omega) (by omega)]; omega
      rw [x1, x2, wrap64 (by omega) (by omega)]
      omega
    · repeat' first|refine yaG ?_|(exfalso;omega)|(refine yaS ?_ ?_<;>intro _)
      all_goals first
        | contradiction
        | (exfalso; omega)
        | skip
      exact Go.keep [0, 1, 2, 3, 4, 10, 11, 12, 13, 14] (hmt _ _ ⟨_, _, _, u, Go.Sort.permIn_refl q1 a' b', hzp, hu1, hu2, rfl, rfl⟩)
  rintro fr τ ⟨q2, zp2, h2, u2, hp2, hzp2, hu3, hu4, rfl, rfl⟩
  have hq2 : q2.size = N := hp2.1.trans hq1
  have hB2 := hB1.perm (by omega) hp2
  clear hzp hu1 hu2
  apply Go.seq
  refine Go.meet (K' := [_]) (fun fr τ => ∃ (q3 : Array α), Go.Sort.PermIn a' b' q2 q3 ∧ fr = [(0, .c (.sl F.id F.v 0 N c)), (1, .c (.int .i64 za')), (2, .c (.int .i64 zb')), (3, .c (.int .i64 zl1)), (4, .c (.fn g pre cap)), (10, .c (.bool wb)), (11, .c (.bool wp)), (12, .c (.int .i64 (IntKind.i64.wrap (zb' - za')))), (13, .c (.int .i64 zp2))] ∧ τ = F.A q3) (fun K hmt => ?_) ?_
  · cases wb
    · repeat' first|refine yaG ?_|(exfalso;omega)|(refine yaS ?_ ?_<;>intro _)
      exact Go.keep [0, 1, 2, 3, 4, 10, 11, 12, 13] (hmt _ _ ⟨q2, Go.Sort.permIn_refl q2 a' b', rfl, rfl⟩)
    cases wp
    · repeat' first|refine yaG ?_|(exfalso;omega)|(refine yaS ?_ ?_<;>intro _)
      exact Go.keep [0, 1, 2, 3, 4, 10, 11, 12, 13] (hmt _ _ ⟨q2, Go.Sort.permIn_refl q2 a' b', rfl, rfl⟩)
    by_cases hh : h2 = 1
    · subst hh
      obtain ⟨p1, p2⟩ := Go.Sort.partialInsertionSort_holds hSW q2 a' b' (by omega) (by omega) hB2
      have cp := partial_ok mixed c_slices_partialInsertionSortCmpFunc_Entry_ok F co g pre cap hcmp q2 N a' b' c za' zb' hza hzb hq2 (by omega) hbN (by omega)
      generalize Go.Sort.partialInsertionSort (lessA co) q2 a' b' = X at p1 p2 cp
      obtain ⟨q3, is⟩ := X
      repeat' first|refine yaG ?_|(exfalso;omega)|(refine yaS ?_ ?_<;>intro _)
      refine .call _ rfl rfl rfl cp ?_
      rintro r τ ⟨rfl, rfl⟩
      cases is
      · repeat' first|refine yaG ?_|(exfalso;omega)|(refine yaS ?_ ?_<;>intro _)
        exact Go.keep [0, 1, 2, 3, 4, 10, 11, 12, 13] (hmt _ _ ⟨q3, p1, rfl, rfl⟩)
      · repeat' first|refine yaG ?_|(exfalso;omega)|(refine yaS ?_ ?_<;>intro _)
        exact .ret rfl ⟨rfl, q3, rfl, hres _ (Go.Sort.permIn_trans _ _ _ a' b' (Go.Sort.permIn_trans _ _ _ a' b' hp1 hp2) p1) (p2 rfl)⟩
    · repeat' first|refine yaG ?_|(exfalso;omega)|(refine yaS ?_ ?_<;>intro _)
      all_goals first
        | contradiction
        | (exfalso; omega)
        | skip
      exact Go.keep [0, 1, 2, 3, 4, 10, 11, 12, 13] (hmt _ _ ⟨q2, Go.Sort.permIn_refl q2 a' b', rfl, rfl⟩)
  rintro fr τ ⟨q3, hp3, rfl, rfl⟩
  have hq3 : q3.size = N := hp3.1.trans hq2
  have hB3 := hB2.perm (by omega) hp3
  have hp := Go.Sort.permIn_trans _ _ _ a' b' (Go.Sort.permIn_trans _ _ _ a' b' hp1 hp2) hp3
  clear hp1 hp2 hp3 hq1 hq2 hB1 hB2 hB
  have huq : u2 < q3.size := by omega
  apply Go.seq
  apply Go.seq
  refine Go.meet (K' := [_]) (fun fr τ => ∃ t : Bool, (t = true → 0 < a' ∧ lessA co q3[a' - 1]! q3[u2]! = false) ∧ fr = [(0, .c (.sl F.id F.v 0 N c)), (1, .c (.int .i64 za')), (2, .c (.int .i64 zb')), (3, .c (.int .i64 zl1)), (4, .c (.fn g pre cap)), (10, .c (.bool wb)), (11, .c (.bool wp)), (12, .c (.int .i64 (IntKind.i64.wrap (zb' - za')))), (13, .c (.int .i64 zp2)), (97, .c (.bool t))] ∧ τ = F.A q3) (fun K hmt => ?_) ?_
  · by_cases ha0 : 0 < a'
    · have e1 : IntKind.i64.wrap (za' - 1) = ((a' - 1 : Nat) : Int) := by rw [wrap64 (by omega) (by omega)]; omega
      have haq : a' - 1 < q3.size := by omega
      have cc := hcmp.at q3 q3[a' - 1]! q3[u2]!
      repeat' first|refine yaG ?_|((first|apply yG|apply yH|apply yI);exact rfl;(first|exact aop_ai (F := F) rfl rfl e1 hq3 haq|exact aop_ai (F := F) rfl rfl hzp2 hq3 huq|exact aop_al (F := F) rfl haq|exact aop_al (F := F) rfl huq))|(exfalso;omega)|(refine yaS ?_ ?_<;>intro _)
      all_goals first
        | (exfalso; omega)
        | skip
      refine Go.scall _ rfl rfl rfl cc ?_
      rintro r τ ⟨rfl, rfl⟩
      have hls : lessA co q3[a' - 1]! q3[u2]! = decide (co q3[a' - 1]! q3[u2]! < 0) := rfl
      generalize co q3[a' - 1]! q3[u2]! = o at hls
      repeat' first|refine yaG ?_|(exfalso;omega)|(refine yaS ?_ ?_<;>intro _)
      exact Go.keep [0, 1, 2, 3, 4, 10, 11, 12, 13, 97] (hmt _ _ ⟨!decide (o < 0), (fun h => ⟨ha0, by rw [hls]; simpa using h⟩), rfl, rfl⟩)
    · repeat' first|refine yaG ?_|(exfalso;omega)|(refine yaS ?_ ?_<;>intro _)
      all_goals first
        | (exfalso; omega)
        | skip
      exact Go.keep [0, 1, 2, 3, 4, 10, 11, 12, 13, 97] (hmt _ _ ⟨false, (fun h => by cases h), rfl, rfl⟩)
  rintro fr τ ⟨t, ht, rfl, rfl⟩
  cases t
  · clear ht
    have cp := partition_ok mixed c_slices_partitionCmpFunc_Entry_ok F co g pre cap hcmp q3 N a' b' u2 c za' zb' zp2 hza hzb hzp2 hq3 (by omega) hu4 hbN (by omega)
    have rp := fun mid ap d4 => Go.Sort.round_part (mid := mid) (ap := ap) (d4 := d4) hSW (Go.Sort.partition_holds (lessA co)) hu3 hu4 (by omega) hB3
    generalize Go.Sort.partition (lessA co) q3 a' b' u2 = X at cp rp
    obtain ⟨mid, ap, d4⟩ := X
    simp only at cp
    obtain ⟨r1, r2, r3, r4, r5, r6, r7⟩ := rp mid ap d4 rfl
    clear rp
    have hd4 : d4.size = N := r3.trans hq3
    repeat' first|refine yaG ?_|(exfalso;omega)|(refine yaS ?_ ?_<;>intro _)
    refine .call _ rfl rfl rfl cp ?_
    rintro r τ ⟨rfl, rfl⟩
    have x1 : IntKind.i64.wrap (((mid : Nat) : Int) - za') = ((mid - a' : Nat) : Int) := by rw [wrap64 (by omega) (by omega)]; omega
    have x2 : IntKind.i64.wrap (zb' - ((mid : Nat) : Int)) = ((b' - mid : Nat) : Int) := by rw [wrap64 (by omega) (by omega)]; omega
    have x3 : IntKind.i64.wrap (((mid : Nat) : Int) + 1) = ((mid + 1 : Nat) : Int) := by rw [wrap64 (by omega) (by omega)]; omega
    by_cases hlr : mid - a' < b' - mid
    · repeat' first|refine yaG ?_|(exfalso;omega)|(refine yaS ?_ ?_<;>intro _)
      all_goals first
        | (exfalso; omega)
        | skip
      refine .call _ rfl rfl rfl (ih (mid - a') (by omega) d4 a' mid za' _ zl1 rfl hza rfl hd4 r1 (by omega) r4) ?_
      rintro r τ ⟨rfl, L, rfl, l1, l2⟩
      obtain ⟨k1, k2⟩ := r6 L l1 l2
      repeat' first|refine yaG ?_|(exfalso;omega)|(refine yaS ?_ ?_<;>intro _)
      exact Go.keep [0, 1, 2, 3, 4, 10, 11] (hrec _ _ _ (by omega) ⟨mid + 1, b', _, _, _, _, _, L, rfl, by omega, by omega, hbN, x3, hzb, l1.1.trans hd4, k1, fun R h1 h2 => by
        obtain ⟨y1, y2⟩ := k2 R h1 h2
        exact hres R (Go.Sort.permIn_trans _ _ _ a' b' hp y1) y2, rfl, rfl⟩)
    · repeat' first|refine yaG ?_|(exfalso;omega)|(refine yaS ?_ ?_<;>intro _)
      all_goals first
        | (exfalso; omega)
        | skip
      refine .call _ rfl rfl rfl (ih (b' - (mid + 1)) (by omega) d4 (mid + 1) b' _ zb' zl1 rfl x3 hzb hd4 (by omega) hbN r5) ?_
      rintro r τ ⟨rfl, L, rfl, l1, l2⟩
      obtain ⟨k1, k2⟩ := r7 L l1 l2
      repeat' first|refine yaG ?_|(exfalso;omega)|(refine yaS ?_ ?_<;>intro _)
      exact Go.keep [0, 1, 2, 3, 4, 10, 11] (hrec _ _ _ (by omega) ⟨a', mid, _, _, _, _, _, L, rfl, by omega, r1, by omega, hza, rfl, l1.1.trans hd4, k1, fun R h1 h2 => by
        obtain ⟨y1, y2⟩ := k2 R h1 h2
        exact hres R (Go.Sort.permIn_trans _ _ _ a' b' hp y1) y2, rfl, rfl⟩)
  · obtain ⟨ha0, hls⟩ := ht rfl
    have cp := partEqual_ok mixed c_slices_partitionEqualCmpFunc_Entry_ok F co g pre cap hcmp q3 N a' b' u2 c za' zb' zp2 hza hzb hzp2 hq3 (by omega) hu4 hbN (by omega)
    have rp := fun mid d4 => Go.Sort.round_eq (mid := mid) (d4 := d4) hSW (Go.Sort.partitionEqual_holds (lessA co)) ha0 hu3 hu4 (by omega) hB3 hls
    generalize Go.Sort.partitionEqual (lessA co) q3 a' b' u2 = X at cp rp
    obtain ⟨mid, d4⟩ := X
    simp only at cp
    obtain ⟨r1, r2, r3, r4, r5⟩ := rp mid d4 rfl
    clear rp
    repeat' first|refine yaG ?_|(exfalso;omega)|(refine yaS ?_ ?_<;>intro _)
    refine .call _ rfl rfl rfl cp ?_
    rintro r τ ⟨rfl, rfl⟩
    repeat' first|refine yaG ?_|(exfalso;omega)|(refine yaS ?_ ?_<;>intro _)
    exact Go.keep [0, 1, 2, 3, 4, 10, 11] (hrec _ _ _ (by omega) ⟨mid, b', _, _, _, _, _, d4, rfl, by omega, r2, hbN, rfl, hzb, r3.trans hq3, r4, fun R h1 h2 => by
      obtain ⟨y1, y2⟩ := r5 R h1 h2
      exact hres R (Go.Sort.permIn_trans _ _ _ a' b' hp y1) y2, rfl, rfl⟩)
end Go.Proofs.YtdgnfdljkghpjaaGreat.Am

/- Sorting in place: merging. Plain part, and the three searches. -/
set_option linter.unusedVariables false
set_option linter.unusedSimpArgs false
namespace Go.Proofs.YtdgnfdljkghpjaaGreat.Am

def bs (p : Nat → Bool) : Nat → Nat → Nat → Nat
  | 0, i, _ => i
  | n + 1, i, j => if i < j then (if p ((i + j) / 2) then bs p n ((i + j) / 2 + 1) j else bs p n i ((i + j) / 2)) else i
end Go.Proofs.YtdgnfdljkghpjaaGreat.Am

/- Sorting in place: merging, one element against many. -/
set_option linter.unusedVariables false
set_option linter.unusedSimpArgs false
namespace Go.Proofs.YtdgnfdljkghpjaaGreat.Am

end Go.Proofs.YtdgnfdljkghpjaaGreat.Am

/- Sorting in place: merging, many against many; the whole sort. -/
set_option linter.unusedVariables false
set_option linter.unusedSimpArgs false
namespace Go.Proofs.YtdgnfdljkghpjaaGreat.Am

end Go.Proofs.YtdgnfdljkghpjaaGreat.Am

/- Sorting in place: the whole stable sort. -/
set_option linter.unusedVariables false
set_option linter.unusedSimpArgs false
namespace Go.Proofs.YtdgnfdljkghpjaaGreat.Am

def blk {α : Type} (c : α → α → Int) (n : Nat) : Nat → Nat → List α → List α
  | 0, _, l => l
  | k + 1, a, l => if a + 20 ≤ n then blk c n k (a + 20) (insF c a (a + 20) l) else insF c a n l
end Go.Proofs.YtdgnfdljkghpjaaGreat.Am

/- The stable sort's plain law: swaps, rotations, shifts. -/
set_option linter.unusedVariables false
set_option linter.unusedSimpArgs false
namespace Go.Proofs.YtdgnfdljkghpjaaGreat.Am

end Go.Proofs.YtdgnfdljkghpjaaGreat.Am

/- The stable sort's plain law: merging. -/
set_option linter.unusedVariables false
set_option linter.unusedSimpArgs false
namespace Go.Proofs.YtdgnfdljkghpjaaGreat.Am

section
variable {α : Type} {c : α → α → Int} {R : α → α → Prop}
end
end Go.Proofs.YtdgnfdljkghpjaaGreat.Am

/- The stable sort's plain law: merging, whole. -/
set_option linter.unusedVariables false
set_option linter.unusedSimpArgs false
namespace Go.Proofs.YtdgnfdljkghpjaaGreat.Am

section
variable {α : Type} {c : α → α → Int} {R : α → α → Prop}
end
end Go.Proofs.YtdgnfdljkghpjaaGreat.Am

/- The stable sort's plain law, whole. -/
set_option linter.unusedVariables false
set_option linter.unusedSimpArgs false
namespace Go.Proofs.YtdgnfdljkghpjaaGreat.Am

section
variable {α : Type} {c : α → α → Int} {R : α → α → Prop}
end
end Go.Proofs.YtdgnfdljkghpjaaGreat.Am

/- Entries: copies of many, marks that are held. -/
set_option linter.unusedVariables false
set_option linter.unusedSimpArgs false
namespace Go.Proofs.YtdgnfdljkghpjaaGreat.Am

theorem entry_owned {τ : Store} {S : Nat → Prop} {k : Ce} {xk : Ce} {n : Int} (h : Has τ S k xk) : HasL τ S [k, .int .i64 n] [xk, .int .i64 n] :=
  (HasL.two h (HasL.flat (S := fun _ => False) (xs := [.int .i64 n]) (fun x hx => by simp at hx; subst hx; exact .int _ _)) (fun _ _ h => h)).mono fun a ha => ha.elim id (fun h => h.elim)
end Go.Proofs.YtdgnfdljkghpjaaGreat.Am
