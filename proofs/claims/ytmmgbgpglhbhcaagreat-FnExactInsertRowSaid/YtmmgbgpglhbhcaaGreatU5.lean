/- Joined texts: S4, P1, F9, E1, E3, E2, Y1, E4, Y2, K3, Y3, Y4, S5, S6, S7, S9, K4, D1, M0, M1, M3, M2, N0, D2, G1, G2, G3, G4, G5, G6, J1, F10, J2, J3, H0, Y5, Y6, A1. -/
import Derived.Test.YtmmgbgpglhbhcaaGreatU1
import Derived.Test.YtmmgbgpglhbhcaaGreatU2
import Derived.Test.YtmmgbgpglhbhcaaGreatU3
import Derived.Test.YtmmgbgpglhbhcaaGreatU4
set_option linter.unusedVariables false
set_option linter.unusedSimpArgs false
namespace Go.Proofs.YtmmgbgpglhbhcaaGreat.Am
theorem ColAt_ok (x0 x2 x3 x4 x5 : Ce) (l : List Col) (s : List UInt8) (hx : l.length ≤ 34359738368) : Pure Tryz.prog 259 [.agg [x0, .fz (l.map encCol), x2, x3, x4, x5], .c (.str s)] (.c (.int .i64 (idxA (fun c => c.name == s) l 0))) := by
  refine Pure.run mixed c_spec_ColAt_ok (Nat.le_of_ble_eq_true rfl) fun σ hS hA => ?_
  clear hS hA
  repeat' first|refine yaG ?_|(exfalso;omega)|(refine yaS ?_ ?_<;>intro _)
  refine Go.keep [1, 2, 5] (Go.loops (I := fun m fr τ => ∃ i : Nat, ∃ k : Int, m = l.length - i ∧ i ≤ l.length ∧ k = i ∧ idxA (fun c => c.name == s) l 0 = idxA (fun c => c.name == s) (l.drop i) k ∧
    fr = [(1, .c (.str s)), (2, .c (.fp [x0, .fz (l.map encCol), x2, x3, x4, x5])), (5, .c (.int .i64 k))] ∧ τ = E σ []) ?_ _ _ _ ⟨0, _, rfl, Nat.zero_le _, rfl, rfl, rfl, rfl⟩)
  rintro m fr τ ⟨i, k, rfl, hi, hn, hsl, rfl, rfl⟩ hrec
  by_cases hlt : i < l.length
  · repeat' first|refine yaG ?_|((first|apply yG|apply yH|apply yI);exact rfl;(first|exact yX (enc := encCol) rfl rfl hn hlt rfl))|(exfalso;omega)|(refine yaS ?_ ?_<;>intro _)
    · refine .ret rfl (.int ?_)
      rw [hsl, List.drop_eq_getElem_cons hlt, idxA, if_pos (by assumption)]
    · rename_i h
      refine Go.keep [1, 2, 5] (hrec _ _ _ (by omega) ⟨i + 1, _, rfl, hlt, wrap_succ hn (by omega), ?_, rfl, rfl⟩)
      rw [hsl, List.drop_eq_getElem_cons hlt, idxA, if_neg (by rw [h]; simp), wrap64 (by omega) (by omega)]
  · repeat' first|refine yaG ?_|(exfalso;omega)|(refine yaS ?_ ?_<;>intro _)
    refine .ret rfl (.int ?_)
    rw [hsl, List.drop_eq_nil_of_le (by omega)]
    rfl
theorem l3At_ok (l : List Table) (s : List UInt8) (hx : l.length ≤ 34359738368) : Pure Tryz.prog 94 [.c (.fz (l.map encTable)), .c (.str s)] (.c (.int .i64 (idxA (fun t => t.name == s) l 0))) := by
  refine Pure.run mixed c_spec_l3At_ok (Nat.le_of_ble_eq_true rfl) fun σ hS hA => ?_
  clear hS hA
  repeat' first|refine yaG ?_|(exfalso;omega)|(refine yaS ?_ ?_<;>intro _)
  refine Go.keep [0, 1, 5] (Go.loops (I := fun m fr τ => ∃ i : Nat, ∃ k : Int, m = l.length - i ∧ i ≤ l.length ∧ k = i ∧ idxA (fun c => c.name == s) l 0 = idxA (fun c => c.name == s) (l.drop i) k ∧
    fr = [(0, .c (.fz (l.map encTable))), (1, .c (.str s)), (5, .c (.int .i64 k))] ∧ τ = E σ []) ?_ _ _ _ ⟨0, _, rfl, Nat.zero_le _, rfl, rfl, rfl, rfl⟩)
  rintro m fr τ ⟨i, k, rfl, hi, hn, hsl, rfl, rfl⟩ hrec
  by_cases hlt : i < l.length
  · repeat' first|refine yaG ?_|((first|apply yG|apply yH|apply yI);exact rfl;(first|exact yX (enc := encTable) rfl rfl hn hlt rfl))|(exfalso;omega)|(refine yaS ?_ ?_<;>intro _)
    · refine .ret rfl (.int ?_)
      rw [hsl, List.drop_eq_getElem_cons hlt, idxA, if_pos (by assumption)]
    · rename_i h
      refine Go.keep [0, 1, 5] (hrec _ _ _ (by omega) ⟨i + 1, _, rfl, hlt, wrap_succ hn (by omega), ?_, rfl, rfl⟩)
      rw [hsl, List.drop_eq_getElem_cons hlt, idxA, if_neg (by rw [h]; simp), wrap64 (by omega) (by omega)]
  · repeat' first|refine yaG ?_|(exfalso;omega)|(refine yaS ?_ ?_<;>intro _)
    refine .ret rfl (.int ?_)
    rw [hsl, List.drop_eq_nil_of_le (by omega)]
    rfl
theorem any_at {α : Type} {p : α → Bool} {l : List α} {i : Nat} (hi : i < l.length) (h : p l[i] = false) : (l.any fun a => !p a) = true := List.any_eq_true.2 ⟨l[i], List.getElem_mem hi, by rw [h]; rfl⟩
theorem any_none {α : Type} {p : α → Bool} {l : List α} (h : ∀ j (hj : j < l.length), p l[j] = true) : (l.any fun a => !p a) = false := by
  rw [List.any_eq_false]
  intro a ha
  obtain ⟨j, hj, rfl⟩ := List.mem_iff_getElem.1 ha
  rw [h j hj]
  simp
theorem upto {α : Type} {p : α → Bool} {l : List α} {i : Nat} (h : ∀ j (hj : j < l.length), j < i → p l[j] = true) (hi : i < l.length) (hp : p l[i] = true) : ∀ j (hj : j < l.length), j < i + 1 → p l[j] = true := fun j hj hji => by
  by_cases e : j = i
  · subst e; exact hp
  · exact h j hj (by omega)
theorem isIn12 {k : Int} : isIn k 1 2 = (k == 1 || k == 2) := by
  rw [Bool.eq_iff_iff]
  simp [isIn]
  omega
theorem tableF_iff {t : Table} : tableF t = true ↔ isNameF t.name = true ∧ isIn t.cols.length 1 8 = true ∧ colsF t.key t.cols.length = true ∧ (t.uniques.length : Int) ≤ 3 ∧ (t.checks.length : Int) ≤ 3 ∧ (t.fks.length : Int) ≤ 3 ∧ colsDef [] t.cols = true ∧
    (t.key.any fun c => !notNullAt t c) = false ∧ (t.uniques.any fun u => !colsF u.cols t.cols.length) = false ∧ (t.checks.any fun c => !exprF c.expr t.cols.length) = false ∧ (t.fks.any fun f => !isFkF f t.cols.length) = false := by
  simp only [tableF, areColsF, isIn, Bool.and_eq_true, decide_eq_true_eq, Bool.not_eq_true']
  constructor
  · rintro ⟨h1, ⟨h2, h3, h4⟩, h5, h6, h7, h8, h9, h10, h11, h12⟩
    exact ⟨h1, ⟨by omega, h2⟩, h5, h6, h7, h8, h3, h9, h10, h11, h12⟩
  · rintro ⟨h1, ⟨h2, h2'⟩, h3, h4, h5, h6, h7, h8, h9, h10, h11⟩
    exact ⟨h1, ⟨h2', h7, by omega⟩, h3, h4, h5, h6, h8, h9, h10, h11⟩
theorem tableF_not {t : Table} (h : tableF t = true → False) : tableF t = false := by
  cases c : tableF t
  · rfl
  · exact (h c).elim
theorem sTableOk_ok (t : Table) (hb : bTable 34359738368 t) : Pure Tryz.prog 215 [.agg (encTable t)] (.c (.bool (tableF t))) := by
  refine Pure.run mixed c_spec_TableOk_ok (Nat.le_of_ble_eq_true rfl) fun σ hS hA => ?_
  clear hS hA
  obtain ⟨b1, b2, b3, b4, b5, b6⟩ := hb
  repeat' first|refine yaG ?_|((first|apply Go.pcallB|apply Go.spcallB|apply Qg.pcallB);(iterate 3 exact rfl);(first|exact l3Name_ok t.name b1|exact l1In_ok _ _ _|exact l3Cols_ok t.key t.cols.length b3 (by omega) (by omega));intro _ _)|(exfalso;omega)|(refine yaS ?_ ?_<;>intro _)
  · exact .ret rfl (.bool (tableF_not fun h => by rename_i c p q; have h2 := (tableF_iff.1 h).1; rw [nbT p q] at h2; cases h2).symm)
  · exact .ret rfl (.bool (tableF_not fun h => by rename_i c1 p1 q1 c p q; have h2 := (tableF_iff.1 h).2.1; rw [nbT p q] at h2; cases h2).symm)
  · exact .ret rfl (.bool (tableF_not fun h => by rename_i c p q; have h2 := (tableF_iff.1 h).2.2.1; rw [nbT p q] at h2; cases h2).symm)
  · exact .ret rfl (.bool (tableF_not fun h => by have h2 := tableF_iff.1 h; omega).symm)
  · exact .ret rfl (.bool (tableF_not fun h => by have h2 := tableF_iff.1 h; omega).symm)
  · exact .ret rfl (.bool (tableF_not fun h => by have h2 := tableF_iff.1 h; omega).symm)
  rename_i c1 p1 q1 c2 p2 q2 c3 p3 q3 g1 g2 g3
  have k1 := nbF p1 q1
  have k2 := nbF p2 q2
  have k3 := nbF p3 q3
  have hin := colsF_in k3
  have hln : 1 ≤ (t.cols.length : Int) ∧ (t.cols.length : Int) ≤ 8 := by simpa [isIn] using k2
  clear p1 q1 p2 q2 p3 q3
  -- the columns
  refine Go.keep [1, 3, 4] (Go.loops (I := fun m fr τ => ∃ i : Nat, ∃ k : Int, m = t.cols.length - i ∧ i ≤ t.cols.length ∧ k = i ∧ colsDef [] t.cols = colsDef (t.cols.take i) (t.cols.drop i) ∧
    fr = [(1, .c (.fp (encTable t))), (3, .c (.int .i64 (t.cols.length : Int))), (4, .c (.int .i64 k))] ∧ τ = E σ []) ?_ _ _ _ ⟨0, _, rfl, Nat.zero_le _, rfl, rfl, rfl, rfl⟩)
  rintro m fr τ ⟨i, k, rfl, hi, hk, hsl, rfl, rfl⟩ hrec
  by_cases hlt : i < t.cols.length
  · have hd := List.drop_eq_getElem_cons hlt
    have hbc := b2.2 _ (List.getElem_mem hlt)
    have htk : (t.cols.map encCol).take i = (t.cols.take i).map encCol := List.map_take.symm
    have hstep : colsDef [] t.cols = (colOk t.cols[i] && !((t.cols.take i).any fun d => d.name == t.cols[i].name) && colsDef (t.cols.take (i + 1)) (t.cols.drop (i + 1))) := by
      rw [hsl, hd, colsDef, List.take_succ_eq_append_getElem hlt]
    have neg : (colOk t.cols[i] = false ∨ ((t.cols.take i).any fun d => d.name == t.cols[i].name) = true) → tableF t = false := fun h => tableF_not fun hh => by
      have h2 := (tableF_iff.1 hh).2.2.2.2.2.2.1
      rw [hstep] at h2
      rcases h with h | h <;> simp [h] at h2
    have hany := any_idx (p := fun d : Col => d.name == t.cols[i].name) (l := t.cols.take i)
    repeat' first|refine yaG ?_|((first|apply yG|apply yH|apply yI);exact rfl;(first|exact yX (enc := encCol) rfl rfl hk hlt rfl|exact aop_sliceF (n := i) rfl rfl hk (by simp;omega) (fun e he => by obtain ⟨c, _, rfl⟩ := List.mem_map.1 he;rfl)))|((first|apply Go.pcallB|apply Go.spcallB|apply Qg.pcallB);(iterate 3 exact rfl);exact l3Name_ok t.cols[i].name hbc.1;intro _ _)|(exfalso;omega)|(refine yaS ?_ ?_<;>intro _)
    · rename_i c p q
      exact .ret rfl (.bool (neg (.inl (by rw [colOk, nbT p q]; rfl))).symm)
    rename_i c p q
    have hnm := nbF p q
    rw [htk]
    repeat' first|refine yaG ?_|((first|apply Go.pcallB|apply Go.spcallB|apply Qg.pcallB);(iterate 3 exact rfl);(first|exact l1In_ok _ _ _|exact sValOk_ok _);intro _ _)|((first|apply Go.pcallI|apply Go.spcallI|apply Qg.pcallI);(iterate 3 exact rfl);exact ColAt_ok (.str []) .nils .nils .nils .nils (t.cols.take i) t.cols[i].name (by simp;omega);intro _ _)|(exfalso;omega)|(refine yaS ?_ ?_<;>intro _)
    all_goals clear p q
    all_goals try (refine .ret rfl (.bool (neg ?_).symm); clear hrec hsl hstep neg hin; simp_all [colOk, isOfF, isIn12]; done)
    all_goals have hok : (colOk t.cols[i] && !((t.cols.take i).any fun d => d.name == t.cols[i].name)) = true := (by clear hrec hsl hstep neg hin; simp_all [colOk, isOfF, isIn12])
    all_goals refine Go.keep [1, 3, 4] (hrec _ _ _ (by omega) ⟨i + 1, _, rfl, hlt, wrap_succ hk (by omega), ?_, rfl, rfl⟩)
    all_goals rw [hstep, hok, Bool.true_and]
  have hfin : colsDef [] t.cols = true := by
    rw [hsl, List.drop_eq_nil_of_le (by omega)]
    rfl
  clear hrec hsl
  repeat' first|refine yaG ?_|(exfalso;omega)|(refine yaS ?_ ?_<;>intro _)
  clear hlt hk hi
  -- the key
  refine Go.keep [1, 3, 6] (Go.loops (I := fun m fr τ => ∃ i : Nat, ∃ k : Int, m = t.key.length - i ∧ i ≤ t.key.length ∧ k = i ∧ (∀ j (hj : j < t.key.length), j < i → notNullAt t t.key[j] = true) ∧
    fr = [(1, .c (.fp (encTable t))), (3, .c (.int .i64 (t.cols.length : Int))), (6, .c (.int .i64 k))] ∧ τ = E σ []) ?_ _ _ _ ⟨0, _, rfl, Nat.zero_le _, rfl, fun j _ h => absurd h (by omega), rfl, rfl⟩)
  rintro m fr τ ⟨i, k, rfl, hi, hk, hall, rfl, rfl⟩ hrec
  by_cases hlt : i < t.key.length
  · have hc := hin _ (List.getElem_mem hlt)
    obtain ⟨n, hn⟩ : ∃ n : Nat, t.key[i] = n := ⟨t.key[i].toNat, by omega⟩
    have hn2 : n < t.cols.length := by omega
    have hnn : notNullAt t t.key[i] = t.cols[n].notNull := by simp [notNullAt, hn, hn2]
    repeat' first|refine yaG ?_|((first|apply yG|apply yH|apply yI);exact rfl;(first|exact yX (enc := encI) rfl rfl hk hlt rfl|exact yX (enc := encCol) rfl rfl hn hn2 rfl))|(exfalso;omega)|(refine yaS ?_ ?_<;>intro _)
    · rename_i h
      exact .ret rfl (.bool (tableF_not fun hh => by
        have h2 := (tableF_iff.1 hh).2.2.2.2.2.2.2.1
        rw [any_at hlt (by rw [hnn]; simpa using h)] at h2
        cases h2).symm)
    · rename_i h
      exact Go.keep [1, 3, 6] (hrec _ _ _ (by omega) ⟨i + 1, _, rfl, hlt, wrap_succ hk (by omega), upto hall hlt (by rw [hnn]; simpa using h), rfl, rfl⟩)
  have hkey := any_none (p := notNullAt t) (l := t.key) fun j hj => hall j hj (by omega)
  clear hrec hall
  repeat' first|refine yaG ?_|(exfalso;omega)|(refine yaS ?_ ?_<;>intro _)
  clear hlt hk hi
  -- the uniques
  refine Go.keep [1, 3, 7] (Go.loops (I := fun m fr τ => ∃ i : Nat, ∃ k : Int, m = t.uniques.length - i ∧ i ≤ t.uniques.length ∧ k = i ∧ (∀ j (hj : j < t.uniques.length), j < i → colsF t.uniques[j].cols t.cols.length = true) ∧
    fr = [(1, .c (.fp (encTable t))), (3, .c (.int .i64 (t.cols.length : Int))), (7, .c (.int .i64 k))] ∧ τ = E σ []) ?_ _ _ _ ⟨0, _, rfl, Nat.zero_le _, rfl, fun j _ h => absurd h (by omega), rfl, rfl⟩)
  rintro m fr τ ⟨i, k, rfl, hi, hk, hall, rfl, rfl⟩ hrec
  by_cases hlt : i < t.uniques.length
  · repeat' first|refine yaG ?_|((first|apply yG|apply yH|apply yI);exact rfl;(first|exact yX (enc := encUniq) rfl rfl hk hlt rfl))|((first|apply Go.pcallB|apply Go.spcallB|apply Qg.pcallB);(iterate 3 exact rfl);exact l3Cols_ok t.uniques[i].cols t.cols.length (b4.2 _ (List.getElem_mem hlt)) (by omega) (by omega);intro _ _)|(exfalso;omega)|(refine yaS ?_ ?_<;>intro _)
    · rename_i c p q
      exact .ret rfl (.bool (tableF_not fun hh => by
        have h2 := (tableF_iff.1 hh).2.2.2.2.2.2.2.2.1
        rw [any_at (p := fun u : Uniq => colsF u.cols t.cols.length) hlt (nbT p q)] at h2
        cases h2).symm)
    · rename_i c p q
      exact Go.keep [1, 3, 7] (hrec _ _ _ (by omega) ⟨i + 1, _, rfl, hlt, wrap_succ hk (by omega), upto (p := fun u : Uniq => colsF u.cols t.cols.length) hall hlt (nbF p q), rfl, rfl⟩)
  have huni := any_none (p := fun u : Uniq => colsF u.cols t.cols.length) (l := t.uniques) fun j hj => hall j hj (by omega)
  clear hrec hall
  repeat' first|refine yaG ?_|(exfalso;omega)|(refine yaS ?_ ?_<;>intro _)
  clear hlt hk hi
  -- the checks
  refine Go.keep [1, 3, 8] (Go.loops (I := fun m fr τ => ∃ i : Nat, ∃ k : Int, m = t.checks.length - i ∧ i ≤ t.checks.length ∧ k = i ∧ (∀ j (hj : j < t.checks.length), j < i → exprF t.checks[j].expr t.cols.length = true) ∧
    fr = [(1, .c (.fp (encTable t))), (3, .c (.int .i64 (t.cols.length : Int))), (8, .c (.int .i64 k))] ∧ τ = E σ []) ?_ _ _ _ ⟨0, _, rfl, Nat.zero_le _, rfl, fun j _ h => absurd h (by omega), rfl, rfl⟩)
  rintro m fr τ ⟨i, k, rfl, hi, hk, hall, rfl, rfl⟩ hrec
  by_cases hlt : i < t.checks.length
  · have hx := l2Expr_ok t.checks[i].expr t.cols.length (b5.2 _ (List.getElem_mem hlt)).1 (by omega) (by omega)
    rw [show (decide ((t.checks[i].expr.length : Int) ≤ 24) && exprAux t.cols.length 0 t.checks[i].expr) = exprF t.checks[i].expr t.cols.length from rfl] at hx
    repeat' first|refine yaG ?_|((first|apply yG|apply yH|apply yI);exact rfl;(first|exact yX (enc := encChk) rfl rfl hk hlt rfl))|((first|apply Go.pcallB|apply Go.spcallB|apply Qg.pcallB);(iterate 3 exact rfl);exact hx;intro _ _)|(exfalso;omega)|(refine yaS ?_ ?_<;>intro _)
    · rename_i c p q
      exact .ret rfl (.bool (tableF_not fun hh => by
        have h2 := (tableF_iff.1 hh).2.2.2.2.2.2.2.2.2.1
        rw [any_at (p := fun u : Chk => exprF u.expr t.cols.length) hlt (nbT p q)] at h2
        cases h2).symm)
    · rename_i c p q
      exact Go.keep [1, 3, 8] (hrec _ _ _ (by omega) ⟨i + 1, _, rfl, hlt, wrap_succ hk (by omega), upto (p := fun u : Chk => exprF u.expr t.cols.length) hall hlt (nbF p q), rfl, rfl⟩)
  have hchk := any_none (p := fun u : Chk => exprF u.expr t.cols.length) (l := t.checks) fun j hj => hall j hj (by omega)
  clear hrec hall
  repeat' first|refine yaG ?_|(exfalso;omega)|(refine yaS ?_ ?_<;>intro _)
  clear hlt hk hi
  -- the references
  refine Go.keep [1, 3, 9] (Go.loops (I := fun m fr τ => ∃ i : Nat, ∃ k : Int, m = t.fks.length - i ∧ i ≤ t.fks.length ∧ k = i ∧ (∀ j (hj : j < t.fks.length), j < i → isFkF t.fks[j] t.cols.length = true) ∧
    fr = [(1, .c (.fp (encTable t))), (3, .c (.int .i64 (t.cols.length : Int))), (9, .c (.int .i64 k))] ∧ τ = E σ []) ?_ _ _ _ ⟨0, _, rfl, Nat.zero_le _, rfl, fun j _ h => absurd h (by omega), rfl, rfl⟩)
  rintro m fr τ ⟨i, k, rfl, hi, hk, hall, rfl, rfl⟩ hrec
  by_cases hlt : i < t.fks.length
  · have hbf := b6.2 _ (List.getElem_mem hlt)
    have neg : isFkF t.fks[i] t.cols.length = false → tableF t = false := fun h => tableF_not fun hh => by
      have h2 := (tableF_iff.1 hh).2.2.2.2.2.2.2.2.2.2
      rw [any_at (p := fun u : Fk => isFkF u t.cols.length) hlt h] at h2
      cases h2
    repeat' first|refine yaG ?_|((first|apply yG|apply yH|apply yI);exact rfl;(first|exact yX (enc := encFk) rfl rfl hk hlt rfl))|((first|apply Go.pcallB|apply Go.spcallB|apply Qg.pcallB);(iterate 3 exact rfl);(first|exact l3Cols_ok t.fks[i].cols t.cols.length hbf.1 (by omega) (by omega)|exact l3Name_ok t.fks[i].table hbf.2|exact l1In_ok _ _ _);intro _ _)|(exfalso;omega)|(refine yaS ?_ ?_<;>intro _)
    all_goals try (refine .ret rfl (.bool (neg ?_).symm); clear hrec neg hin hall hkey huni hchk; simp_all [isFkF]; done)
    have hok : isFkF t.fks[i] t.cols.length = true := by
      clear hrec neg hin hall hkey huni hchk
      simp_all [isFkF]
    exact Go.keep [1, 3, 9] (hrec _ _ _ (by omega) ⟨i + 1, _, rfl, hlt, wrap_succ hk (by omega), upto (p := fun u : Fk => isFkF u t.cols.length) hall hlt hok, rfl, rfl⟩)
  have hfk := any_none (p := fun u : Fk => isFkF u t.cols.length) (l := t.fks) fun j hj => hall j hj (by omega)
  clear hrec hall
  repeat' first|refine yaG ?_|(exfalso;omega)|(refine yaS ?_ ?_<;>intro _)
  refine .ret rfl (.bool ?_)
  rw [eq_comm, tableF_iff]
  exact ⟨k1, k2, k3, by omega, by omega, by omega, hfin, hkey, huni, hchk, hfk⟩
def vNull : Val := ⟨0, 0, []⟩
def vInt (n : Int) : Val := ⟨1, n, []⟩
def yes (b : Bool) : Int := if b then 1 else 0
def truthV (v : Val) : Int := if v.k = 0 then 2 else if v.k = 1 then (if v.n = 0 then 0 else 1) else -1
def knownV (a b : Val) : Bool := okVal a && (okVal b && (!(a.k == 0) && !(b.k == 0)))
def eq3 (a b : Val) : Int := if knownV a b then yes (a == b) else 2
def less3 (a b : Val) : Int := if knownV a b then yes (decide (order a b < 0)) else 2
def tru (a : Int) : Bool := isIn a 0 2
def and3 (a b : Int) : Int := if tru a && tru b then (if a = 0 ∨ b = 0 then 0 else if a = 1 ∧ b = 1 then 1 else 2) else -1
def or3 (a b : Int) : Int := if tru a && tru b then (if a = 1 ∨ b = 1 then 1 else if a = 0 ∧ b = 0 then 0 else 2) else -1
def not3 (a : Int) : Int := if tru a then (if a = 2 then 2 else 1 - a) else -1
def asV (t : Int) : Val × Bool := if t = 2 then (vNull, true) else (vInt t, decide (0 ≤ t))
def sumV (a b : Val) (s : Int) : Val × Bool := if a.k = 2 ∨ b.k = 2 then (vNull, false) else if a.k = 0 ∨ b.k = 0 then (vNull, true) else (vInt (a.n + s * b.n), okVal (vInt (a.n + s * b.n)))
def vAt (l : List Val) (i : Nat) : Val := l[i]?.getD vNull
def applyF (t : Tok) (l row : List Val) : Val × Bool :=
  if t.kind = 1 then (vAt row t.col.toNat, true) else if t.kind = 2 then (t.v, true) else if t.kind = 3 then asV (eq3 (vAt l 0) (vAt l 1)) else if t.kind = 4 then asV (less3 (vAt l 0) (vAt l 1))
  else if t.kind = 5 then asV (and3 (truthV (vAt l 0)) (truthV (vAt l 1))) else if t.kind = 6 then asV (or3 (truthV (vAt l 0)) (truthV (vAt l 1))) else if t.kind = 7 then asV (not3 (truthV (vAt l 0)))
  else if t.kind = 8 then asV (yes ((vAt l 0).k == 0)) else if t.kind = 9 then sumV (vAt l 0) (vAt l 1) 1 else sumV (vAt l 0) (vAt l 1) (-1)
def fromOf (t : Tok) (st : List Val) : Nat := st.length - (tokTakes t).toNat
def evalL (row : List Val) : List Tok → List Val → Option (List Val)
  | [], st => some st
  | t :: r, st => if (applyF t (st.drop (fromOf t st)) row).2 then evalL row r (st.take (fromOf t st) ++ [(applyF t (st.drop (fromOf t st)) row).1]) else none
def evalR (e : List Tok) (row : List Val) : Val × Bool := match evalL row e [] with
  | some (v :: _) => (v, true)
  | _ => (vNull, false)
def evalOk (e : List Tok) (row : List Val) : Bool := areVals row 16 && exprF e row.length
def evalI (e : List Tok) (row : List Val) : Val × Bool := if evalOk e row then evalR e row else (vNull, false)
def truthR (e : List Tok) (row : List Val) : Int := if (evalR e row).2 then truthV (evalR e row).1 else -1
def truthI (e : List Tok) (row : List Val) : Int := if evalOk e row then truthR e row else -1
theorem truthI_eq (e : List Tok) (row : List Val) : (if (evalI e row).2 then truthV (evalI e row).1 else -1) = truthI e row := by
  simp only [evalI, truthI, truthR]
  split <;> simp
def Oks (l : List Val) : Prop := ∀ v ∈ l, okVal v = true
theorem Oks.at_ {l : List Val} (h : Oks l) (i : Nat) : okVal (vAt l i) = true := by
  simp only [vAt]
  cases hi : l[i]? with
  | none => rfl
  | some v => exact h v (List.mem_of_getElem? hi)
theorem okVal_int {n : Int} (h0 : -1000000000 ≤ n) (h1 : n ≤ 1000000000) : okVal (vInt n) = true := by
  simp [okVal, vInt, isIn, h0, h1]
theorem yes_range (b : Bool) : 0 ≤ yes b ∧ yes b ≤ 1 := by cases b <;> simp [yes]
theorem okVal_asV {t : Int} (h : t ≤ 2) (hk : (asV t).2 = true) : okVal (asV t).1 = true := by
  simp only [asV] at hk ⊢
  split
  · rfl
  · rename_i h2
    rw [if_neg h2] at hk
    have h0 : 0 ≤ t := of_decide_eq_true hk
    exact okVal_int (by omega) (by omega)
theorem okVal_sumV {a b : Val} {s : Int} (hk : (sumV a b s).2 = true) : okVal (sumV a b s).1 = true := by
  simp only [sumV] at hk ⊢
  split
  · rfl
  · rename_i h
    rw [if_neg h] at hk
    split
    · rfl
    · rename_i h2
      rw [if_neg h2] at hk
      exact hk
theorem eq3_range (a b : Val) : 0 ≤ eq3 a b ∧ eq3 a b ≤ 2 := by
  simp only [eq3]
  have := yes_range (a == b)
  split <;> omega
theorem less3_range (a b : Val) : 0 ≤ less3 a b ∧ less3 a b ≤ 2 := by
  simp only [less3]
  have := yes_range (decide (order a b < 0))
  split <;> omega
theorem and3_range (a b : Int) : -1 ≤ and3 a b ∧ and3 a b ≤ 2 := by
  simp only [and3]
  split
  · split
    · omega
    · split <;> omega
  · omega
theorem or3_range (a b : Int) : -1 ≤ or3 a b ∧ or3 a b ≤ 2 := by
  simp only [or3]
  split
  · split
    · omega
    · split <;> omega
  · omega
theorem tru_range {a : Int} : tru a = true ↔ 0 ≤ a ∧ a ≤ 2 := by simp [tru, isIn]
theorem not3_range (a : Int) : -1 ≤ not3 a ∧ not3 a ≤ 2 := by
  simp only [not3]
  split
  · rename_i h
    have := tru_range.1 h
    split <;> omega
  · omega
theorem applyF_ok {t : Tok} {l row : List Val} (ht : t.kind = 2 → okVal t.v = true) (hl : Oks l) (hr : Oks row) (h : (applyF t l row).2 = true) : okVal (applyF t l row).1 = true := by
  simp only [applyF] at h ⊢
  split
  · exact hr.at_ _
  · rename_i n1
    rw [if_neg n1] at h
    split
    · rename_i n2; exact ht n2
    · rename_i n2
      rw [if_neg n2] at h
      split
      · rename_i n3
        rw [if_pos n3] at h
        exact okVal_asV (eq3_range _ _).2 h
      · rename_i n3
        rw [if_neg n3] at h
        split
        · rename_i n4
          rw [if_pos n4] at h
          exact okVal_asV (less3_range _ _).2 h
        · rename_i n4
          rw [if_neg n4] at h
          split
          · rename_i n5
            rw [if_pos n5] at h
            exact okVal_asV (and3_range _ _).2 h
          · rename_i n5
            rw [if_neg n5] at h
            split
            · rename_i n6
              rw [if_pos n6] at h
              exact okVal_asV (or3_range _ _).2 h
            · rename_i n6
              rw [if_neg n6] at h
              split
              · rename_i n7
                rw [if_pos n7] at h
                exact okVal_asV (not3_range _).2 h
              · rename_i n7
                rw [if_neg n7] at h
                split
                · rename_i n8
                  rw [if_pos n8] at h
                  exact okVal_asV (by have := yes_range ((vAt l 0).k == 0); omega) h
                · rename_i n8
                  rw [if_neg n8] at h
                  split
                  · rename_i n9
                    rw [if_pos n9] at h
                    exact okVal_sumV h
                  · rename_i n9
                    rw [if_neg n9] at h
                    exact okVal_sumV h
theorem tokOk_const {t : Tok} {n : Int} (h : isTokF t n = true) (h2 : t.kind = 2) : okVal t.v = true := by
  simp only [isTokF] at h
  rw [if_neg (by omega), if_pos h2] at h
  simp at h
  exact h.2
theorem okVal_range {v : Val} (h : okVal v = true) (h1 : v.k = 1) : -1000000000 ≤ v.n ∧ v.n ≤ 1000000000 := by
  simp [okVal, isIn, h1] at h
  exact h.1
theorem okVal_kind {v : Val} (h : okVal v = true) : v.k = 0 ∨ v.k = 1 ∨ v.k = 2 := by
  simp [okVal] at h
  rcases h with (h | h) | h <;> simp [h]
theorem sameVals_step {xs ys : List Val} {i : Nat} (h1 : i < xs.length) (h2 : i < ys.length) : (xs.drop i == ys.drop i) = ((xs[i].k == ys[i].k && (xs[i].n == ys[i].n && xs[i].s == ys[i].s)) && (xs.drop (i + 1) == ys.drop (i + 1))) := by
  rw [List.drop_eq_getElem_cons h1, List.drop_eq_getElem_cons h2, List.cons_beq_cons]
  congr 1
  generalize xs[i] = a
  generalize ys[i] = b
  obtain ⟨a1, a2, a3⟩ := a
  obtain ⟨b1, b2, b3⟩ := b
  rw [Bool.eq_iff_iff]
  simp
theorem l1SameVals_ok (xs ys : List Val) (hx : xs.length ≤ 34359738368) : Pure Tryz.prog 138 [.c (.fz (xs.map encV)), .c (.fz (ys.map encV))] (.c (.bool (xs == ys))) := by
  refine Pure.run mixed c_spec_l1SameVals_ok (Nat.le_of_ble_eq_true rfl) fun σ hS hA => ?_
  clear hS hA
  repeat' first|refine yaG ?_|(exfalso;omega)|(refine yaS ?_ ?_<;>intro _)
  · refine .ret rfl (.bool ?_)
    rw [eq_comm, beq_eq_false_iff_ne]
    rintro rfl
    simp at *
  refine Go.keep [0, 1, 5] (Go.loops (I := fun m fr τ => ∃ i : Nat, ∃ n : Int, m = xs.length - i ∧ i ≤ xs.length ∧ n = i ∧ (xs.length = ys.length ∧ (xs == ys) = (xs.drop i == ys.drop i)) ∧
    fr = [(0, .c (.fz (xs.map encV))), (1, .c (.fz (ys.map encV))), (5, .c (.int .i64 n))] ∧ τ = E σ []) ?_ _ _ _ ⟨0, _, rfl, Nat.zero_le _, rfl, ⟨by omega, rfl⟩, rfl, rfl⟩)
  rintro m fr τ ⟨i, n, rfl, hi, hn, ⟨hl, hsl⟩, rfl, rfl⟩ hrec
  by_cases hlt : i < xs.length
  · have hlt2 : i < ys.length := by omega
    have hst := sameVals_step hlt hlt2
    repeat' first|refine yaG ?_|((first|apply yG|apply yH|apply yI);exact rfl;(first|exact yX (enc := encV) rfl rfl hn hlt rfl|exact yX (enc := encV) rfl rfl hn hlt2 rfl))|(exfalso;omega)|(refine yaS ?_ ?_<;>intro _)
    · refine .ret rfl (.bool ?_)
      rw [hsl, hst]
      clear hrec
      simp_all
      intros
      simp_all
    · refine Go.keep [0, 1, 5] (hrec _ _ _ (by omega) ⟨i + 1, _, rfl, hlt, wrap_succ hn (by omega), ⟨hl, ?_⟩, rfl, rfl⟩)
      rw [hsl, hst]
      clear hrec
      simp_all
  · repeat' first|refine yaG ?_|(exfalso;omega)|(refine yaS ?_ ?_<;>intro _)
    refine .ret rfl (.bool ?_)
    rw [hsl, List.drop_eq_nil_of_le (by omega), List.drop_eq_nil_of_le (by omega)]
    rfl
theorem equalVals_ok (xs ys : List Val) (hx : xs.length ≤ 34359738368) : Pure Tryz.prog 146 [.c (.fz (xs.map encV)), .c (.fz (ys.map encV))] (.c (.bool (xs == ys))) := by
  refine Pure.run mixed c_slices_Equal_Val_ok (Nat.le_of_ble_eq_true rfl) fun σ hS hA => ?_
  clear hS hA
  repeat' first|refine yaG ?_|(exfalso;omega)|(refine yaS ?_ ?_<;>intro _)
  · refine .ret rfl (.bool ?_)
    rw [eq_comm, beq_eq_false_iff_ne]
    rintro rfl
    simp at *
  refine Go.keep [0, 1, 12, 13] (Go.loops (I := fun m fr τ => ∃ i : Nat, ∃ n : Int, m = xs.length - i ∧ i ≤ xs.length ∧ n = i ∧ (xs.length = ys.length ∧ (xs == ys) = (xs.drop i == ys.drop i)) ∧
    fr = [(0, .c (.fz (xs.map encV))), (1, .c (.fz (ys.map encV))), (12, .c (.int .i64 (xs.length : Int))), (13, .c (.int .i64 n))] ∧ τ = E σ []) ?_ _ _ _ ⟨0, _, rfl, Nat.zero_le _, rfl, ⟨by omega, rfl⟩, rfl, rfl⟩)
  rintro m fr τ ⟨i, n, rfl, hi, hn, ⟨hl, hsl⟩, rfl, rfl⟩ hrec
  by_cases hlt : i < xs.length
  · have hlt2 : i < ys.length := by omega
    have hst := sameVals_step hlt hlt2
    repeat' first|refine yaG ?_|((first|apply yG|apply yH|apply yI);exact rfl;(first|exact yX (enc := encV) rfl rfl hn hlt rfl|exact yX (enc := encV) rfl rfl hn hlt2 rfl))|(exfalso;omega)|(refine yaS ?_ ?_<;>intro _)
    · refine .ret rfl (.bool ?_)
      rw [hsl, hst]
      clear hrec
      simp_all
      intros
      simp_all
    · refine Go.keep [0, 1, 12, 13] (hrec _ _ _ (by omega) ⟨i + 1, _, rfl, hlt, wrap_succ hn (by omega), ⟨hl, ?_⟩, rfl, rfl⟩)
      rw [hsl, hst]
      clear hrec
      simp_all
  · repeat' first|refine yaG ?_|(exfalso;omega)|(refine yaS ?_ ?_<;>intro _)
    refine .ret rfl (.bool ?_)
    rw [hsl, List.drop_eq_nil_of_le (by omega), List.drop_eq_nil_of_le (by omega)]
    rfl
theorem clean_append {xs : List Val} : ∀ e ∈ xs.map encV, e.length = 3 ∧ ∀ x ∈ e, Flat x := by
  intro e he
  obtain ⟨a, _, rfl⟩ := List.mem_map.1 he
  exact ⟨rfl, flatV a⟩
theorem val_eq (v w : Val) : ((v.k == w.k && (v.n == w.n && (v.s == w.s && true))) != false) = (v == w) := by
  obtain ⟨a, b, c⟩ := v
  obtain ⟨d, e, f⟩ := w
  rw [Bool.eq_iff_iff]
  simp
theorem encV_flat (v : Val) : ∀ x ∈ encV v, Flat x := flatV v
theorem fin_v {σ : Store} {l : List (Nat × List (List Ce))} (v : Val) : Fin σ (.agg (encV v)) (.agg (encV v)) (E σ l) :=
  ⟨l, rfl, .refl fun y hy => (encV_flat v y hy).old _⟩
theorem fin_vb {σ : Store} {l : List (Nat × List (List Ce))} (v : Val) (b : Bool) : Fin σ (.tup [.agg (encV v), .c (.bool b)]) (.tup [.agg (encV v), .c (.bool b)]) (E σ l) :=
  ⟨l, rfl, .refl fun y hy => by
    simp [AV.all, AV.all.allL, encV] at hy
    rcases hy with rfl | rfl | rfl | rfl
    · exact .int _ _
    · exact .int _ _
    · exact .str _
    · exact .bool _⟩
theorem retv_mt {fr : Fr} {σ : Store} {l : List (Nat × List (List Ce))} {k v i t u j s : Nat} {g : Bool} {es : List (List Ce)} {e : List Ce} {x y : AV} (hp : look fr t = some (.c (.ptr (σ.next + k) v i j))) (hl : l[k]? = some (v, es)) (he : es[i]? = some e) (hj : j ≤ e.length) (hx : takeA g s (e.drop j) = some x) (hu : look fr u = some y) :
    retv fr (E σ l) [.m t g s, .t u] = some (.tup [x, y]) := by
  have h1 := retv_m hp hl he hj hx
  simp only [retv, revs] at h1 ⊢
  cases hq : RV.ev fr (E σ l) (.m t g s) with
  | none => rw [hq] at h1; simp at h1
  | some q =>
    rw [hq] at h1
    simp only [Option.some.injEq] at h1
    subst h1
    have h2 : RV.ev fr (E σ l) (.t u) = some y := hu
    rw [h2]
theorem truthOf_ok (b : Bool) : Pure Tryz.prog 276 [.c (.bool b)] (.c (.int .i64 (yes b))) := by
  refine Pure.run mixed c_impl_truthOf_ok (Nat.le_of_ble_eq_true rfl) fun σ hS hA => ?_
  clear hS hA
  repeat' first|refine yaG ?_|(exfalso;omega)|(refine yaS ?_ ?_<;>intro _)
  all_goals refine .ret rfl (.int ?_)
  all_goals simp_all [yes]
theorem truth_ok (v : Val) : Pure Tryz.prog 269 [.agg (encV v)] (.c (.int .i64 (truthV v))) := by
  refine Pure.run mixed c_impl_truth_ok (Nat.le_of_ble_eq_true rfl) fun σ hS hA => ?_
  clear hS hA
  repeat' first|refine yaG ?_|((first|apply yQ|apply yR|apply yS);(iterate 3 exact rfl);exact truthOf_ok _)|(exfalso;omega)|(refine yaS ?_ ?_<;>intro _)
  all_goals refine .ret rfl (.int ?_)
  all_goals simp_all [truthV, yes]
  all_goals (cases h : decide (v.n = 0) <;> simp_all)
theorem valOf_ok (t : Int) : Pure Tryz.prog 270 [.c (.int .i64 t)] (.tup [.agg (encV (asV t).1), .c (.bool (asV t).2)]) := by
  refine Pure.run mixed c_impl_valOf_ok (Nat.le_of_ble_eq_true rfl) fun σ hS hA => ?_
  clear hS hA
  repeat' first|refine yaG ?_|(exfalso;omega)|(refine yaS ?_ ?_<;>intro _)
  · rename_i h
    rw [asV, if_pos h]
    exact .ret (retv_mt rfl rfl rfl (Nat.zero_le _) rfl rfl) (fin_vb _ _)
  · rename_i h
    rw [asV, if_neg h]
    exact .ret (retv_mt rfl rfl rfl (Nat.zero_le _) rfl rfl) (fin_vb (vInt t) _)
theorem areKnown_ok (v w : Val) : Pure Tryz.prog 293 [.agg (encV v), .agg (encV w)] (.c (.bool (knownV v w))) := by
  refine Pure.run mixed c_impl_areKnown_ok (Nat.le_of_ble_eq_true rfl) fun σ hS hA => ?_
  clear hS hA
  repeat' first|refine yaG ?_|((first|apply Go.pcallB|apply Go.spcallB|apply Qg.pcallB);(iterate 3 exact rfl);(first|exact ValOk_ok v|exact ValOk_ok w);intro _ _)|(exfalso;omega)|(refine yaS ?_ ?_<;>intro _)
  all_goals refine .ret rfl (.bool ?_)
  all_goals simp_all [knownV]
  all_goals first
    | rfl
    | (rename_i h; rw [beq_eq_false_iff_ne.2 h]; rfl)
theorem Equal3_ok (v w : Val) : Pure Tryz.prog 271 [.agg (encV v), .agg (encV w)] (.c (.int .i64 (eq3 v w))) := by
  refine Pure.run mixed c_impl_Equal3_ok (Nat.le_of_ble_eq_true rfl) fun σ hS hA => ?_
  clear hS hA
  repeat' first|refine yaG ?_|((first|apply yQ|apply yR|apply yS);(iterate 3 exact rfl);exact truthOf_ok _)|((first|apply Go.pcallB|apply Go.spcallB|apply Qg.pcallB);(iterate 3 exact rfl);exact areKnown_ok v w;intro _ _)|(exfalso;omega)|(refine yaS ?_ ?_<;>intro _)
  all_goals refine .ret rfl (.int ?_)
  all_goals rename_i b p k
  · rw [eq3, nbT p k]
    rfl
  · rw [eq3, nbF p k, val_eq]
    rfl
theorem Less3_ok (v w : Val) : Pure Tryz.prog 272 [.agg (encV v), .agg (encV w)] (.c (.int .i64 (less3 v w))) := by
  refine Pure.run mixed c_impl_Less3_ok (Nat.le_of_ble_eq_true rfl) fun σ hS hA => ?_
  clear hS hA
  repeat' first|refine yaG ?_|refine yaC (order_ok v w) ?_|((first|apply yQ|apply yR|apply yS);(iterate 3 exact rfl);exact truthOf_ok _)|((first|apply Go.pcallB|apply Go.spcallB|apply Qg.pcallB);(iterate 3 exact rfl);exact areKnown_ok v w;intro _ _)|(exfalso;omega)|(refine yaS ?_ ?_<;>intro _)
  all_goals refine .ret rfl (.int ?_)
  all_goals rename_i b p k
  · rw [less3, nbT p k]
    rfl
  · rw [less3, nbF p k]
    rfl
theorem areTruths1_ok (t : Int) : Pure Tryz.prog 303 [.c (.int .i64 t)] (.c (.bool (!tru t))) := by
  refine Pure.run mixed c_impl_areTruths_1_ok (Nat.le_of_ble_eq_true rfl) fun σ hS hA => ?_
  clear hS hA
  repeat' first|refine yaG ?_|((first|apply yQ|apply yR|apply yS);(iterate 3 exact rfl);exact in_ok _ _ _)|(exfalso;omega)|(refine yaS ?_ ?_<;>intro _)
  exact .ret rfl (.bool rfl)
theorem areTruths_ok (l : List Int) (hx : l.length ≤ 34359738368) : Pure Tryz.prog 295 [.c (.fz (l.map encI))] (.c (.bool (!(l.any fun t => !tru t)))) := by
  refine Pure.run mixed c_impl_areTruths_ok (Nat.le_of_ble_eq_true rfl) fun σ hS hA => ?_
  clear hS hA
  repeat' first|refine yaG ?_|((first|apply yQ|apply yR|apply yS);(iterate 3 exact rfl);exact containsFuncA_ok mixed c_slices_ContainsFunc_int64_int64_ok c_slices_IndexFunc_int64_int64_ok encI (fun n => .c (.int .i64 n)) (fun _ => rfl) (fun _ => rfl) l (fun t => !tru t) _ [] [] hx (fun j hj _ => areTruths1_ok _))|(exfalso;omega)|(refine yaS ?_ ?_<;>intro _)
  exact .ret rfl (.bool rfl)
theorem two_truths (a b : Int) : (!([a, b].any fun t => !tru t)) = (tru a && tru b) := by
  simp only [List.any_cons, List.any_nil]
  cases tru a <;> cases tru b <;> rfl
theorem And3_ok (a b : Int) : Pure Tryz.prog 273 [.c (.int .i64 a), .c (.int .i64 b)] (.c (.int .i64 (and3 a b))) := by
  refine Pure.run mixed c_impl_And3_ok (Nat.le_of_ble_eq_true rfl) fun σ hS hA => ?_
  clear hS hA
  have c1 := areTruths_ok [a, b] (by simp)
  rw [two_truths] at c1
  repeat' first|refine yaG ?_|((first|apply Go.pcallB|apply Go.spcallB|apply Qg.pcallB);(iterate 3 exact rfl);exact c1;intro _ _)|(exfalso;omega)|(refine yaS ?_ ?_<;>intro _)
  all_goals refine .ret rfl (.int ?_)
  all_goals clear c1
  all_goals simp_all [and3]
theorem Or3_ok (a b : Int) : Pure Tryz.prog 274 [.c (.int .i64 a), .c (.int .i64 b)] (.c (.int .i64 (or3 a b))) := by
  refine Pure.run mixed c_impl_Or3_ok (Nat.le_of_ble_eq_true rfl) fun σ hS hA => ?_
  clear hS hA
  have c1 := areTruths_ok [a, b] (by simp)
  rw [two_truths] at c1
  repeat' first|refine yaG ?_|((first|apply Go.pcallB|apply Go.spcallB|apply Qg.pcallB);(iterate 3 exact rfl);exact c1;intro _ _)|(exfalso;omega)|(refine yaS ?_ ?_<;>intro _)
  all_goals refine .ret rfl (.int ?_)
  all_goals clear c1
  all_goals simp_all [or3]
theorem Not3_ok (a : Int) : Pure Tryz.prog 275 [.c (.int .i64 a)] (.c (.int .i64 (not3 a))) := by
  refine Pure.run mixed c_impl_Not3_ok (Nat.le_of_ble_eq_true rfl) fun σ hS hA => ?_
  clear hS hA
  have c1 := areTruths_ok [a] (by simp)
  have h1 : (!([a].any fun t => !tru t)) = tru a := by simp only [List.any_cons, List.any_nil]; cases tru a <;> rfl
  rw [h1] at c1
  repeat' first|refine yaG ?_|((first|apply Go.pcallB|apply Go.spcallB|apply Qg.pcallB);(iterate 3 exact rfl);exact c1;intro _ _)|(exfalso;omega)|(refine yaS ?_ ?_<;>intro _)
  all_goals refine .ret rfl (.int ?_)
  all_goals clear c1
  · rename_i b p k
    rw [not3, nbT p k]
    rfl
  · rename_i b p k h
    rw [not3, nbF p k, if_pos rfl, if_pos h]
  · rename_i b p k h
    have hr := tru_range.1 (nbF p k)
    rw [not3, nbF p k, if_pos rfl, if_neg h]
    exact wrap64 (by omega) (by omega)
theorem sumOf_ok (a b : Val) (s : Int) (hs : s = 1 ∨ s = -1) (ha : okVal a = true) (hb : okVal b = true) : Pure Tryz.prog 277 [.agg (encV a), .agg (encV b), .c (.int .i64 s)] (.tup [.agg (encV (sumV a b s).1), .c (.bool (sumV a b s).2)]) := by
  refine Pure.run mixed c_impl_sumOf_ok (Nat.le_of_ble_eq_true rfl) fun σ hS hA => ?_
  clear hS hA
  by_cases h1 : a.k = 2 ∨ b.k = 2
  · have e : sumV a b s = (vNull, false) := by simp only [sumV, if_pos h1]
    rw [e]
    rcases h1 with h1 | h1
    · repeat' first|refine yaG ?_|(exfalso;omega)|(refine yaS ?_ ?_<;>intro _)
      all_goals first
        | exact .ret (retv_mt rfl rfl rfl (Nat.zero_le _) rfl rfl) (fin_vb vNull _)
        | (exfalso; omega)
    · repeat' first|refine yaG ?_|(exfalso;omega)|(refine yaS ?_ ?_<;>intro _)
      all_goals first
        | exact .ret (retv_mt rfl rfl rfl (Nat.zero_le _) rfl rfl) (fin_vb vNull _)
        | (exfalso; omega)
  by_cases h2 : a.k = 0 ∨ b.k = 0
  · have e : sumV a b s = (vNull, true) := by simp only [sumV, if_neg h1, if_pos h2]
    rw [e]
    rcases h2 with h2 | h2
    · repeat' first|refine yaG ?_|(exfalso;omega)|(refine yaS ?_ ?_<;>intro _)
      all_goals first
        | exact .ret (retv_mt rfl rfl rfl (Nat.zero_le _) rfl rfl) (fin_vb vNull _)
        | (exfalso; omega)
    · repeat' first|refine yaG ?_|(exfalso;omega)|(refine yaS ?_ ?_<;>intro _)
      all_goals first
        | exact .ret (retv_mt rfl rfl rfl (Nat.zero_le _) rfl rfl) (fin_vb vNull _)
        | (exfalso; omega)
  have e : sumV a b s = (vInt (a.n + s * b.n), okVal (vInt (a.n + s * b.n))) := by simp only [sumV, if_neg h1, if_neg h2]
  have ka : a.k = 1 := by have := okVal_kind ha; omega
  have kb : b.k = 1 := by have := okVal_kind hb; omega
  have ra := okVal_range ha ka
  have rb := okVal_range hb kb
  have hw : IntKind.i64.wrap (a.n + IntKind.i64.wrap (s * b.n)) = a.n + s * b.n := by
    rcases hs with rfl | rfl
    · rw [wrap64 (n := 1 * b.n) (by omega) (by omega), wrap64 (by omega) (by omega)]
    · rw [wrap64 (n := -1 * b.n) (by omega) (by omega), wrap64 (by omega) (by omega)]
  rw [e]
  repeat' first|refine yaG ?_|((first|apply yG|apply yH|apply yI);exact rfl;(first|exact aop_store rfl rfl rfl rfl rfl rfl (Nat.le_of_ble_eq_true rfl)))|refine yaC (ValOk_ok (vInt (IntKind.i64.wrap (a.n + IntKind.i64.wrap (s * b.n))))) ?_|(exfalso;omega)|(refine yaS ?_ ?_<;>intro _)
  all_goals first
    | (exfalso; omega)
    | skip
  rw [hw]
  exact .ret (retv_mt rfl rfl rfl (Nat.zero_le _) rfl rfl) (fin_vb (vInt _) _)
theorem apply0_ok (t : Tok) (row : List Val) (hk : t.kind = 1 ∨ t.kind = 2) (hc : t.kind = 1 → 0 ≤ t.col ∧ t.col < row.length) : Pure Tryz.prog 238 [.agg (encTok t), .c (.fz []), .c (.fz (row.map encV))] (.tup [.agg (encV (applyF t [] row).1), .c (.bool (applyF t [] row).2)]) := by
  refine Pure.run mixed c_impl_Tok_apply_ok (Nat.le_of_ble_eq_true rfl) fun σ hS hA => ?_
  clear hS hA
  rcases hk with h1 | h1
  · have h2 := hc h1
    have hn : t.col.toNat < row.length := by omega
    have hz : t.col = (t.col.toNat : Int) := by omega
    have e : applyF t [] row = (row[t.col.toNat], true) := by simp [applyF, h1, vAt, hn]
    rw [e]
    repeat' first|refine yaG ?_|((first|apply yG|apply yH|apply yI);exact rfl;(first|exact yX (enc := encV) rfl rfl hz hn rfl))|(exfalso;omega)|(refine yaS ?_ ?_<;>intro _)
    exact .ret (retv_mt rfl rfl rfl (Nat.zero_le _) rfl rfl) (fin_vb row[t.col.toNat] _)
  · have e : applyF t [] row = (t.v, true) := by simp [applyF, h1]
    rw [e]
    repeat' first|refine yaG ?_|(exfalso;omega)|(refine yaS ?_ ?_<;>intro _)
    exact .ret (retv_mt rfl rfl rfl (Nat.zero_le _) rfl rfl) (fin_vb t.v _)
theorem apply1_ok (t : Tok) (x : Val) (row : List Val) (hk : t.kind = 7 ∨ t.kind = 8) : Pure Tryz.prog 238 [.agg (encTok t), .c (.fz [encV x]), .c (.fz (row.map encV))] (.tup [.agg (encV (applyF t [x] row).1), .c (.bool (applyF t [x] row).2)]) := by
  refine Pure.run mixed c_impl_Tok_apply_ok (Nat.le_of_ble_eq_true rfl) fun σ hS hA => ?_
  clear hS hA
  rcases hk with h1 | h1
  · have e : applyF t [x] row = asV (not3 (truthV x)) := by simp [applyF, h1, vAt]
    rw [e]
    repeat' first|refine yaG ?_|refine yaC (truth_ok x) ?_|((first|apply yQ|apply yR|apply yS);(iterate 3 exact rfl);exact Not3_ok _)|((first|apply yQ|apply yR|apply yS);(iterate 3 exact rfl);exact valOf_ok _)|(exfalso;omega)|(refine yaS ?_ ?_<;>intro _)
    exact .ret (retv_mt rfl rfl rfl (Nat.zero_le _) rfl rfl) (fin_vb _ _)
  · have e : applyF t [x] row = asV (yes (x.k == 0)) := by simp [applyF, h1, vAt]
    rw [e]
    repeat' first|refine yaG ?_|((first|apply yQ|apply yR|apply yS);(iterate 3 exact rfl);exact truthOf_ok _)|((first|apply yQ|apply yR|apply yS);(iterate 3 exact rfl);exact valOf_ok _)|(exfalso;omega)|(refine yaS ?_ ?_<;>intro _)
    exact .ret (retv_mt rfl rfl rfl (Nat.zero_le _) rfl rfl) (fin_vb _ _)
theorem apply2_ok (t : Tok) (x y : Val) (row : List Val) (hk : t.kind = 3 ∨ t.kind = 4 ∨ t.kind = 5 ∨ t.kind = 6 ∨ t.kind = 9 ∨ t.kind = 10) (hx : okVal x = true) (hy : okVal y = true) : Pure Tryz.prog 238 [.agg (encTok t), .c (.fz [encV x, encV y]), .c (.fz (row.map encV))] (.tup [.agg (encV (applyF t [x, y] row).1), .c (.bool (applyF t [x, y] row).2)]) := by
  refine Pure.run mixed c_impl_Tok_apply_ok (Nat.le_of_ble_eq_true rfl) fun σ hS hA => ?_
  clear hS hA
  obtain ⟨r, hr⟩ : ∃ r, applyF t [x, y] row = r := ⟨_, rfl⟩
  rcases hk with h1 | h1 | h1 | h1 | h1 | h1
  all_goals simp only [applyF, h1, vAt, List.getElem?_cons_zero, List.getElem?_cons_succ, Option.getD_some, Int.reduceEq, if_true, if_false, reduceIte] at hr
  all_goals rw [show applyF t [x, y] row = r by simp [applyF, h1, vAt, hr]]
  all_goals repeat' first|refine yaG ?_|((first|apply yG|apply yH|apply yI);exact rfl;(first|exact aop_store rfl rfl rfl rfl rfl rfl (Nat.le_of_ble_eq_true rfl)))|refine yaC (Equal3_ok x y) ?_|refine yaC (Less3_ok x y) ?_|refine yaC (truth_ok x) ?_|refine yaC (truth_ok y) ?_|((first|apply yQ|apply yR|apply yS);(iterate 3 exact rfl);exact And3_ok _ _)|((first|apply yQ|apply yR|apply yS);(iterate 3 exact rfl);exact Or3_ok _ _)|refine yaC (sumOf_ok x y 1 (.inl rfl) hx hy) ?_|refine yaC (sumOf_ok x y (-1) (.inr rfl) hx hy) ?_|((first|apply yQ|apply yR|apply yS);(iterate 3 exact rfl);exact valOf_ok _)|(exfalso;omega)|(refine yaS ?_ ?_<;>intro _)
  all_goals subst hr
  all_goals exact .ret (retv_mt rfl rfl rfl (Nat.zero_le _) rfl rfl) (fin_vb _ _)
theorem solid_val (v : Val) : Solid (.agg (encV v)) := .agg _ fun i hi => by
  have : i = 0 ∨ i = 1 ∨ i = 2 := by simp only [encV, List.length_cons, List.length_nil] at hi; omega
  rcases this with rfl | rfl | rfl
  · exact .int _ _
  · exact .int _ _
  · exact .str _
theorem solid_vb (v : Val) (b : Bool) : Solid (.tup [.agg (encV v), .c (.bool b)]) := .tup _ fun i hi => by
  have : i = 0 ∨ i = 1 := by simp only [List.length_cons, List.length_nil] at hi; omega
  rcases this with rfl | rfl
  · exact solid_val v
  · exact .bool b
theorem isTok_kinds {t : Tok} {n : Int} (h : isTokF t n = true) : t.kind = 1 ∨ t.kind = 2 ∨ (t.kind = 3 ∨ t.kind = 4 ∨ t.kind = 5 ∨ t.kind = 6 ∨ t.kind = 7 ∨ t.kind = 8 ∨ t.kind = 9 ∨ t.kind = 10) := by
  simp only [isTokF] at h
  split at h
  · exact .inl ‹_›
  · split at h
    · exact .inr (.inl ‹_›)
    · simp only [Bool.and_eq_true] at h
      exact .inr (.inr (isIn_310.1 h.1.1))
theorem isTok_col {t : Tok} {n : Int} (h : isTokF t n = true) (h1 : t.kind = 1) : 0 ≤ t.col ∧ t.col < n := by
  simp only [isTokF, if_pos h1, Bool.and_eq_true, isIn, decide_eq_true_eq] at h
  omega
theorem apply_ok (t : Tok) (l row : List Val) (ht : isTokF t row.length = true) (hl : (l.length : Int) = tokTakes t) (ho : Oks l) : Pure Tryz.prog 238 [.agg (encTok t), .c (.fz (l.map encV)), .c (.fz (row.map encV))] (.tup [.agg (encV (applyF t l row).1), .c (.bool (applyF t l row).2)]) := by
  have hk := isTok_kinds ht
  have hc := isTok_col ht
  by_cases h0 : t.kind = 1 ∨ t.kind = 2
  · have : tokTakes t = 0 := by rw [tokTakes, if_pos h0]
    have hl0 : l = [] := List.eq_nil_of_length_eq_zero (by omega)
    subst hl0
    exact apply0_ok t row h0 hc
  by_cases h1 : t.kind = 7 ∨ t.kind = 8
  · have : tokTakes t = 1 := by rw [tokTakes, if_neg h0, if_pos h1]
    match l, hl with
    | [x], _ => exact apply1_ok t x row h1
    | [], hl => simp at hl; omega
    | _ :: _ :: _, hl => simp only [List.length_cons] at hl; omega
  · have : tokTakes t = 2 := by rw [tokTakes, if_neg h0, if_neg h1]
    match l, hl with
    | [x, y], _ => exact apply2_ok t x y row (by omega) (ho x (by simp)) (ho y (by simp))
    | [], hl => simp at hl; omega
    | [_], hl => simp at hl; omega
    | _ :: _ :: _ :: _, hl => simp only [List.length_cons] at hl; omega
theorem areVals_oks {l : List Val} {n : Int} (h : areVals l n = true) : Oks l ∧ (l.length : Int) ≤ n := by
  simp only [areVals, Bool.and_eq_true, decide_eq_true_eq, List.all_eq_true] at h
  exact ⟨h.2, h.1⟩
theorem exprF_aux {e : List Tok} {n : Int} (h : exprF e n = true) : (e.length : Int) ≤ 24 ∧ exprAux n 0 e = true := by
  simpa only [exprF, Bool.and_eq_true, decide_eq_true_eq] using h
theorem exprAux_cons {n a : Int} {t : Tok} {r : List Tok} (h : exprAux n a (t :: r) = true) : isTokF t n = true ∧ tokTakes t ≤ a ∧ exprAux n (a + 1 - tokTakes t) r = true := by
  simp only [exprAux, Bool.and_eq_true, decide_eq_true_eq] at h
  exact ⟨h.1.1, h.1.2, h.2⟩
theorem Oks.take {l : List Val} (h : Oks l) (n : Nat) : Oks (l.take n) := fun v hv => h v (List.mem_of_mem_take hv)
theorem Oks.drop {l : List Val} (h : Oks l) (n : Nat) : Oks (l.drop n) := fun v hv => h v (List.mem_of_mem_drop hv)
theorem Oks.snoc {l : List Val} (h : Oks l) {v : Val} (hv : okVal v = true) : Oks (l ++ [v]) := fun w hw => by
  rcases List.mem_append.1 hw with hw | hw
  · exact h w hw
  · rw [List.mem_singleton.1 hw]; exact hv
theorem flats {l : List Val} : ∀ e ∈ l.map encV, ∀ x ∈ e, Flat x := fun e he x hx => (clean_append e he).2 x hx
theorem lens {l : List Val} : ∀ e ∈ l.map encV, e.length = 3 := fun e he => (clean_append e he).1
theorem old_ptr {n id v i j : Nat} (h : id < n) : ∀ y ∈ (AV.c (.ptr id v i j)).all, Old n y := fun y hy => by
  simp only [AV.all, List.mem_singleton] at hy
  subst hy
  exact .ptr _ _ _ _ h
theorem old_sl {n id v i j c : Nat} (h : id < n) : ∀ y ∈ (AV.c (.sl id v i j c)).all, Old n y := fun y hy => by
  simp only [AV.all, List.mem_singleton] at hy
  subst hy
  exact .sl _ _ _ _ _ h
theorem old_int {n : Nat} {k : IntKind} {z : Int} : ∀ y ∈ (AV.c (.int k z)).all, Old n y := fun y hy => by
  simp only [AV.all, List.mem_singleton] at hy
  subst hy
  exact .int _ _
theorem old_fzF {n : Nat} {es : List (List Ce)} (h : ∀ e ∈ es, ∀ x ∈ e, Flat x) : ∀ y ∈ (AV.c (.fz es)).all, Old n y := fun y hy => by
  simp only [AV.all, List.mem_singleton] at hy
  subst hy
  exact .fz _ fun i j hi hj => (h _ (List.getElem_mem hi) _ (List.getElem_mem hj)).old _
theorem old_encV {n : Nat} {l : List Val} : ∀ y ∈ (AV.c (.fz (l.map encV))).all, Old n y := old_fzF flats
theorem old_encTok {n : Nat} {l : List Tok} : ∀ y ∈ (AV.c (.fz (l.map encTok))).all, Old n y := old_fzF fun e he x hx => by
  obtain ⟨a, _, rfl⟩ := List.mem_map.1 he
  exact flatTok a x hx
theorem Eval_ok (e : List Tok) (row : List Val) (hx : e.length ≤ 34359738368) (hr : row.length ≤ 34359738368) : Pure Tryz.prog 181 [.c (.fz (e.map encTok)), .c (.fz (row.map encV))] (.tup [.agg (encV (evalI e row).1), .c (.bool (evalI e row).2)]) := by
  refine Pure.run mixed c_impl_Eval_ok (Nat.le_of_ble_eq_true rfl) fun σ hS hA => ?_
  clear hA
  have c1 := areVals_ok row 16 (by decide) hr
  cases hv : areVals row 16
  · rw [hv] at c1
    rw [evalI, evalOk, hv]
    repeat' first|refine yaG ?_|refine yaC (c1) ?_|(exfalso;omega)|(refine yaS ?_ ?_<;>intro _)
    exact .ret (retv_mt rfl rfl rfl (Nat.zero_le _) rfl rfl) (fin_vb vNull _)
  obtain ⟨hok, hrl⟩ := areVals_oks hv
  have c2 := ExprOk_ok e row.length hx
  rw [exprF_eq (by omega) hrl] at c2
  rw [hv] at c1
  cases he : exprF e row.length
  · rw [he] at c2
    rw [evalI, evalOk, hv, he]
    repeat' first|refine yaG ?_|refine yaC (c1) ?_|refine yaC (c2) ?_|(exfalso;omega)|(refine yaS ?_ ?_<;>intro _)
    exact .ret (retv_mt rfl rfl rfl (Nat.zero_le _) rfl rfl) (fin_vb vNull _)
  rw [he] at c2
  obtain ⟨hel, hea⟩ := exprF_aux he
  have hI : evalI e row = evalR e row := by rw [evalI, evalOk, hv, he]; rfl
  rw [hI]
  repeat' first|refine yaG ?_|refine yaC (c1) ?_|refine yaC (c2) ?_|(exfalso;omega)|(refine yaS ?_ ?_<;>intro _)
  refine Go.keep [1, 4, 6, 24, 25, 26] (Go.loops (I := fun m fr τ => ∃ (i : Nat) (k : Int) (st : List Val) (v : Nat) (junk : List (List Ce)), m = e.length - i ∧ i ≤ e.length ∧ k = i ∧ Jk 3 junk ∧ (st.length ≤ i ∧ Oks st ∧ exprAux row.length st.length (e.drop i) = true ∧ evalL row e [] = evalL row (e.drop i) st) ∧
    fr = [(1, .c (.fz (row.map encV))), (4, .c (.ptr (σ.next + 0) 0 0 0)), (6, .c (vec (σ.next + 1) v (st.map encV) junk)), (24, .c (.fz (e.map encTok))), (25, .c (.int .i64 (e.length : Int))), (26, .c (.int .i64 k))] ∧
      τ = E σ [(0, [[.int .i64 0, .int .i64 0, .str []]]), (v, st.map encV ++ junk)]) ?_ _ _ _ ⟨0, _, [], 0, [], rfl, Nat.zero_le _, rfl, Jk.nil, ⟨Nat.zero_le _, fun v hv => (by simp at hv), hea, rfl⟩, rfl, rfl⟩)
  rintro m fr τ ⟨i, k, st, v, junk, rfl, hi, hk, hj, ⟨hsl, hst, haux, hev⟩, rfl, rfl⟩ hrec
  clear hea he hv c1 c2 hI
  by_cases hlt : i < e.length
  · rw [List.drop_eq_getElem_cons hlt] at haux hev
    obtain ⟨htk, hle, haux⟩ := exprAux_cons haux
    have htr := tokTakes_range e[i]
    have hz : IntKind.i64.wrap (((st.map encV).length : Int) - tokTakes e[i]) = (fromOf e[i] st : Int) := by
      rw [List.length_map, wrap64 (by omega) (by omega), fromOf]
      omega
    have hfn : fromOf e[i] st ≤ st.length := by rw [fromOf]; omega
    have hfn' : fromOf e[i] st ≤ (st.map encV).length := by rw [List.length_map]; exact hfn
    have hdl : ((st.drop (fromOf e[i] st)).length : Int) = tokTakes e[i] := by rw [List.length_drop, fromOf]; omega
    have hap := apply_ok e[i] (st.drop (fromOf e[i] st)) row htk hdl (hst.drop _)
    have hres := applyF_ok (tokOk_const htk) (hst.drop (fromOf e[i] st)) hok
    rw [List.map_drop] at hap
    rw [evalL] at hev
    generalize applyF e[i] (st.drop (fromOf e[i] st)) row = ap at hap hres hev
    obtain ⟨av, ab⟩ := ap
    simp only at hap hres hev
    repeat' first|apply Go.seq|apply Go.skip|apply Go.region|apply Go.nil|apply Go.block|apply Go.blk|apply Go.segs|(apply Go.exit;exact rfl)|(apply Go.cond true;exact rfl)|(apply Go.cond false;exact rfl)|apply yB|apply yC|((first|apply yD|apply yE);(first|exact yF|assumption);iterate 6 exact rfl)|((first|apply yG|apply yH|apply yI);exact rfl;(first|exact yJ|exact yK rfl rfl|exact yL rfl|exact yM rfl|exact rfl|exact aL rfl rfl rfl rfl rfl|exact aS rfl rfl rfl rfl rfl rfl rfl|exact yX (enc := encTok) rfl rfl hk hlt rfl))|((first|apply yN|apply yO|apply yP);exact rfl)|((first|apply yQ|apply yR|apply yS);(iterate 3 exact rfl);exact takes_ok e[i])|(exfalso;omega)|(((first|apply yT|apply yU|apply yV|apply yW);exact rfl;(first|exact .d|exact .e|exact .n|((fail_if_success exact bqt);(fail_if_success exact bqf);exact .b)))<;>intro _)
    rw [hz]
    generalize fromOf e[i] st = n at hz hfn hfn' hap hev hdl
    apply Go.draw
    refine Go.qkd [(0, [[.int .i64 0, .int .i64 0, .str []]]), (v, st.map encV ++ junk)] ?_
    repeat' first|(apply Qk.nil;show Go _ _ _ _ _ _ _ _)|(apply Qk.op;exact rfl;(first|(rintro _ ⟨_, rfl⟩;exact rfl)|(rintro _ ⟨_, rfl⟩;exact aop_load rfl rfl rfl (Nat.le_of_ble_eq_true rfl) rfl)|(rintro _ ⟨_, rfl⟩;exact aop_drop (k := 1) (s := 3) rfl rfl rfl hfn' rfl (fun e he => (List.mem_append.1 he).elim (lens e) fun h => (hj e h).1))))|(apply Qk.no;exact rfl)|(apply Qk.wop;exact rfl;exact rfl;(first|exact yJ|exact yL rfl|exact aop_store rfl rfl rfl rfl rfl rfl (Nat.le_of_ble_eq_true rfl));exact ⟨_, rfl⟩)
    refine Qk.lcall rfl rfl rfl hap (solid_vb _ _) (fun m => .same (.own (frz_drop (k := 1) rfl flats hfn' (Nat.zero_le _)) (.same .nil))) ?_
    repeat' first|(apply Qk.nil;show Go _ _ _ _ _ _ _ _)|(apply Qk.op;exact rfl;(first|(rintro _ ⟨_, rfl⟩;exact rfl)|(rintro _ ⟨_, rfl⟩;exact aop_load rfl rfl rfl (Nat.le_of_ble_eq_true rfl) rfl)))|(apply Qk.no;exact rfl)|(apply Qk.wop;exact rfl;exact rfl;(first|exact yJ|exact yL rfl|exact aop_store rfl rfl rfl rfl rfl rfl (Nat.le_of_ble_eq_true rfl));exact ⟨_, rfl⟩)
    cases ab
    · rw [if_neg Bool.false_ne_true] at hev
      have hR : evalR e row = (vNull, false) := by rw [evalR, hev]
      rw [hR]
      repeat' first|refine yaG ?_|(exfalso;omega)|(refine yaS ?_ ?_<;>intro _)
      exact .ret (retv_mt rfl rfl rfl (Nat.zero_le _) rfl rfl) (fin_vb vNull _)
    · rw [if_pos rfl] at hev
      repeat' first|refine yaG ?_|((first|apply yG|apply yH|apply yI);exact rfl;(first|exact aop_load rfl rfl rfl (Nat.le_of_ble_eq_true rfl) rfl|exact aop_take (k := 1) rfl rfl rfl hfn' rfl (fun e he => (List.mem_append.1 he).elim (lens e) fun h => (hj e h).1)))|(exfalso;omega)|(refine yaS ?_ ?_<;>intro _)
      have hsplit : st.map encV ++ junk = (st.map encV).take n ++ ((st.map encV).drop n ++ junk) := by rw [← List.append_assoc, List.take_append_drop]
      have hbd : (((st.map encV).take n).length + 1) * 32 ≤ 140737488355328 := by rw [List.length_take, List.length_map]; omega
      refine Go.sapp1 (k := 1) (z := encV av) rfl rfl rfl rfl (congrArg (fun q => some (v, q)) hsplit) (fun e he => lens e (List.mem_of_mem_take he)) (Jk.drop clean_append hj n) rfl hbd fun v' junk' hj' => ?_
      repeat' first|refine yaG ?_|(exfalso;omega)|(refine yaS ?_ ?_<;>intro _)
      refine Go.freezeN (l := [(0, [[.int .i64 0, .int .i64 0, .str []]]), (v', (st.map encV).take n ++ [encV av] ++ junk')]) (m := [(0, [encV av])])
        (fr' := [(1, .c (.fz (row.map encV))), (4, .c (.ptr (σ.next + 0) 0 0 0)), (6, .c (vec (σ.next + 1) v' ((st.map encV).take n ++ [encV av]) junk')), (24, .c (.fz (e.map encTok))), (25, .c (.int .i64 (e.length : Int))), (26, .c (.int .i64 (IntKind.i64.wrap (k + 1))))])
        hS ?_ (Nat.le_refl _) (.frz rfl (.refl old_encV) (.frz rfl (.refl (old_ptr (by simp))) (.frz rfl (.refl (old_sl (by simp))) (.frz rfl (.refl old_encTok) (.frz rfl (.refl old_int) (.frz rfl (.refl old_int) .nil)))))) ?_
      · intro b hb e he x hx
        refine Flat.old ?_ _
        rcases List.mem_cons.1 hb with rfl | hb
        · exact flats (l := [vNull]) e he x hx
        · rw [List.mem_singleton.1 hb] at he
          rcases List.mem_append.1 he with he | he
          · rcases List.mem_append.1 he with he | he
            · exact flats e (List.mem_of_mem_take he) x hx
            · exact flats (l := [av]) e he x hx
          · exact (hj' e he).2 x hx
      have e1 : (st.map encV).take n ++ [encV av] = (st.take n ++ [av]).map encV := by simp
      rw [e1]
      refine hrec _ _ _ (by omega) ⟨i + 1, _, st.take n ++ [av], v', junk', rfl, hlt, wrap_succ hk (by omega), hj', ⟨?_, (hst.take n).snoc (hres rfl), ?_, hev⟩, rfl, rfl⟩
      · simp only [List.length_append, List.length_take, List.length_singleton]; omega
      · have e2 : ((st.take n ++ [av]).length : Int) = st.length + 1 - tokTakes e[i] := by
          rw [List.length_drop] at hdl
          simp only [List.length_append, List.length_take, List.length_singleton]
          omega
        rw [e2]
        exact haux
  · have hd : e.drop i = [] := List.drop_eq_nil_of_le (by omega)
    rw [hd] at haux hev
    simp only [exprAux, beq_iff_eq] at haux
    obtain ⟨w, rfl⟩ : ∃ w, st = [w] := List.length_eq_one_iff.1 (by omega)
    have hR : evalR e row = (w, true) := by rw [evalR, hev]; rfl
    rw [hR]
    repeat' first|refine yaG ?_|((first|apply yG|apply yH|apply yI);exact rfl;(first|exact aop_iaddr (k := 1) (n := 0) rfl rfl rfl (Nat.zero_lt_one) rfl rfl rfl))|(exfalso;omega)|(refine yaS ?_ ?_<;>intro _)
    exact .ret (retv_mt rfl rfl rfl (Nat.zero_le _) rfl rfl) (fin_vb w _)
theorem Truth_ok (e : List Tok) (row : List Val) (hx : e.length ≤ 34359738368) (hr : row.length ≤ 34359738368) : Pure Tryz.prog 235 [.c (.fz (e.map encTok)), .c (.fz (row.map encV))] (.c (.int .i64 (truthI e row))) := by
  refine Pure.run mixed c_impl_Truth_ok (Nat.le_of_ble_eq_true rfl) fun σ hS hA => ?_
  clear hS hA
  have c1 := Eval_ok e row hx hr
  have h1 := truthI_eq e row
  generalize evalI e row = q at c1 h1
  obtain ⟨v, b⟩ := q
  simp only at c1 h1
  cases b
  · repeat' first|refine yaG ?_|refine yaC (c1) ?_|(exfalso;omega)|(refine yaS ?_ ?_<;>intro _)
    refine .ret rfl (.int ?_)
    rw [← h1]
    rfl
  · repeat' first|refine yaG ?_|refine yaC (c1) ?_|refine yaC (truth_ok v) ?_|(exfalso;omega)|(refine yaS ?_ ?_<;>intro _)
    refine .ret rfl (.int ?_)
    rw [← h1]
    rfl
theorem fin_ib {σ : Store} {l : List (Nat × List (List Ce))} (n : Int) (b : Bool) : Fin σ (.tup [.c (.int .i64 n), .c (.bool b)]) (.tup [.c (.int .i64 n), .c (.bool b)]) (E σ l) :=
  ⟨l, rfl, .refl fun y hy => by
    simp [AV.all, AV.all.allL] at hy
    rcases hy with rfl | rfl
    · exact .int _ _
    · exact .bool _⟩
theorem l1Yes_ok (b : Bool) : Pure Tryz.prog 263 [.c (.bool b)] (.c (.int .i64 (yes b))) := by
  refine Pure.run mixed c_spec_l1Yes_ok (Nat.le_of_ble_eq_true rfl) fun σ hS hA => ?_
  clear hS hA
  repeat' first|refine yaG ?_|(exfalso;omega)|(refine yaS ?_ ?_<;>intro _)
  all_goals refine .ret rfl (.int ?_)
  all_goals simp_all [yes]
theorem l1Int_ok (n : Int) : Pure Tryz.prog 262 [.c (.int .i64 n)] (.agg (encV (vInt n))) := by
  refine Pure.run mixed c_spec_l1Int_ok (Nat.le_of_ble_eq_true rfl) fun σ hS hA => ?_
  clear hS hA
  repeat' first|refine yaG ?_|(exfalso;omega)|(refine yaS ?_ ?_<;>intro _)
  exact .ret (retv_m rfl rfl rfl (Nat.zero_le _) rfl) (fin_v (vInt n))
def asR (t : Int) : Val := if t = 2 then vNull else vInt t
theorem l2As_ok (t : Int) : Pure Tryz.prog 264 [.c (.int .i64 t)] (.agg (encV (asR t))) := by
  refine Pure.run mixed c_spec_l2As_ok (Nat.le_of_ble_eq_true rfl) fun σ hS hA => ?_
  clear hS hA
  repeat' first|refine yaG ?_|refine yaC (l1Int_ok t) ?_|(exfalso;omega)|(refine yaS ?_ ?_<;>intro _)
  · rename_i h
    rw [asR, if_pos h]
    exact .ret (retv_m rfl rfl rfl (Nat.zero_le _) rfl) (fin_v vNull)
  · rename_i h
    rw [asR, if_neg h]
    exact .ret (retv_m rfl rfl rfl (Nat.zero_le _) rfl) (fin_v (vInt t))
def ofT (v : Val) : Int := if v.k = 0 then 2 else if v.k = 1 then yes (v.n != 0) else 0
def ofB (v : Val) : Bool := decide (v.k = 0) || decide (v.k = 1)
theorem l2Of_ok (v : Val) : Pure Tryz.prog 229 [.agg (encV v)] (.tup [.c (.int .i64 (ofT v)), .c (.bool (ofB v))]) := by
  refine Pure.run mixed c_spec_l2Of_ok (Nat.le_of_ble_eq_true rfl) fun σ hS hA => ?_
  clear hS hA
  repeat' first|refine yaG ?_|((first|apply yQ|apply yR|apply yS);(iterate 3 exact rfl);exact l1Yes_ok _)|(exfalso;omega)|(refine yaS ?_ ?_<;>intro _)
  · rename_i h
    rw [ofT, if_pos h, ofB, decide_eq_true h]
    exact .ret rfl (fin_ib _ _)
  · rename_i h h1
    rw [ofT, if_neg h, if_pos h1, ofB, decide_eq_true h1, Bool.or_true]
    exact .ret rfl (fin_ib _ _)
  · rename_i h h1
    rw [ofT, if_neg h, if_neg h1, ofB, decide_eq_false h, decide_eq_false h1]
    exact .ret rfl (fin_ib _ _)
theorem sEqual3_ok (v w : Val) : Pure Tryz.prog 287 [.agg (encV v), .agg (encV w)] (.c (.int .i64 (eq3 v w))) := by
  refine Pure.run mixed c_spec_Equal3_ok (Nat.le_of_ble_eq_true rfl) fun σ hS hA => ?_
  clear hS hA
  cases hk : knownV v w
  · rw [eq3, hk]
    have hk2 := hk
    simp only [knownV] at hk2
    repeat' first|refine yaG ?_|((first|apply yQ|apply yR|apply yS);(iterate 3 exact rfl);exact l1Yes_ok _)|((first|apply Go.pcallB|apply Go.spcallB|apply Qg.pcallB);(iterate 3 exact rfl);(first|exact sValOk_ok v|exact sValOk_ok w);intro _ _)|(exfalso;omega)|(refine yaS ?_ ?_<;>intro _)
    all_goals first
      | exact .ret rfl (.int rfl)
      | (exfalso; simp_all; done)
  · rw [eq3, hk]
    have hk2 := hk
    simp only [knownV, Bool.and_eq_true, Bool.not_eq_true', beq_eq_false_iff_ne] at hk2
    obtain ⟨k1, k2, k3, k4⟩ := hk2
    have c1 := sValOk_ok v
    have c2 := sValOk_ok w
    rw [k1] at c1
    rw [k2] at c2
    repeat' first|refine yaG ?_|refine yaC (c1) ?_|refine yaC (c2) ?_|((first|apply yQ|apply yR|apply yS);(iterate 3 exact rfl);exact l1Yes_ok _)|(exfalso;omega)|(refine yaS ?_ ?_<;>intro _)
    all_goals first
      | (refine .ret rfl (.int ?_); rw [val_eq]; rfl)
      | (exfalso; simp_all; done)
theorem sLess3_ok (v w : Val) : Pure Tryz.prog 288 [.agg (encV v), .agg (encV w)] (.c (.int .i64 (less3 v w))) := by
  refine Pure.run mixed c_spec_Less3_ok (Nat.le_of_ble_eq_true rfl) fun σ hS hA => ?_
  clear hS hA
  cases hk : knownV v w
  · rw [less3, hk]
    have hk2 := hk
    simp only [knownV] at hk2
    repeat' first|refine yaG ?_|refine yaC (l1Order_ok v w) ?_|((first|apply yQ|apply yR|apply yS);(iterate 3 exact rfl);exact l1Yes_ok _)|((first|apply Go.pcallB|apply Go.spcallB|apply Qg.pcallB);(iterate 3 exact rfl);(first|exact sValOk_ok v|exact sValOk_ok w);intro _ _)|(exfalso;omega)|(refine yaS ?_ ?_<;>intro _)
    all_goals first
      | exact .ret rfl (.int rfl)
      | (exfalso; simp_all; done)
  · rw [less3, hk]
    have hk2 := hk
    simp only [knownV, Bool.and_eq_true, Bool.not_eq_true', beq_eq_false_iff_ne] at hk2
    obtain ⟨k1, k2, k3, k4⟩ := hk2
    have c1 := sValOk_ok v
    have c2 := sValOk_ok w
    have c3 := l1Order_ok v w
    rw [l1Ord_order k1 k2] at c3
    rw [k1] at c1
    rw [k2] at c2
    repeat' first|refine yaG ?_|refine yaC (c1) ?_|refine yaC (c2) ?_|refine yaC (c3) ?_|((first|apply yQ|apply yR|apply yS);(iterate 3 exact rfl);exact l1Yes_ok _)|(exfalso;omega)|(refine yaS ?_ ?_<;>intro _)
    all_goals first
      | exact .ret rfl (.int rfl)
      | (exfalso; simp_all; done)
theorem l2Tru_ok (t : Int) : Pure Tryz.prog 299 [.c (.int .i64 t)] (.c (.bool (tru t))) := by
  refine Pure.run mixed c_spec_l2Tru_ok (Nat.le_of_ble_eq_true rfl) fun σ hS hA => ?_
  clear hS hA
  repeat' first|refine yaG ?_|((first|apply yQ|apply yR|apply yS);(iterate 3 exact rfl);exact l1In_ok _ _ _)|(exfalso;omega)|(refine yaS ?_ ?_<;>intro _)
  exact .ret rfl (.bool rfl)
theorem sAnd3_ok (a b : Int) : Pure Tryz.prog 290 [.c (.int .i64 a), .c (.int .i64 b)] (.c (.int .i64 (and3 a b))) := by
  refine Pure.run mixed c_spec_And3_ok (Nat.le_of_ble_eq_true rfl) fun σ hS hA => ?_
  clear hS hA
  repeat' first|refine yaG ?_|((first|apply Go.pcallB|apply Go.spcallB|apply Qg.pcallB);(iterate 3 exact rfl);(first|exact l2Tru_ok a|exact l2Tru_ok b);intro _ _)|(exfalso;omega)|(refine yaS ?_ ?_<;>intro _)
  all_goals refine .ret rfl (.int ?_)
  all_goals simp_all [and3]
theorem sOr3_ok (a b : Int) : Pure Tryz.prog 291 [.c (.int .i64 a), .c (.int .i64 b)] (.c (.int .i64 (or3 a b))) := by
  refine Pure.run mixed c_spec_Or3_ok (Nat.le_of_ble_eq_true rfl) fun σ hS hA => ?_
  clear hS hA
  repeat' first|refine yaG ?_|((first|apply Go.pcallB|apply Go.spcallB|apply Qg.pcallB);(iterate 3 exact rfl);(first|exact l2Tru_ok a|exact l2Tru_ok b);intro _ _)|(exfalso;omega)|(refine yaS ?_ ?_<;>intro _)
  all_goals refine .ret rfl (.int ?_)
  all_goals simp_all [or3]
theorem sNot3_ok (a : Int) : Pure Tryz.prog 265 [.c (.int .i64 a)] (.c (.int .i64 (not3 a))) := by
  refine Pure.run mixed c_spec_Not3_ok (Nat.le_of_ble_eq_true rfl) fun σ hS hA => ?_
  clear hS hA
  repeat' first|refine yaG ?_|(exfalso;omega)|(refine yaS ?_ ?_<;>intro _)
  all_goals refine .ret rfl (.int ?_)
  · rename_i h; subst h; rfl
  · rename_i h1 h; subst h; rfl
  · rename_i h1 h2 h; subst h; rfl
  · rename_i h1 h2 h3
    have : tru a = false := by
      cases ht : tru a
      · rfl
      · have := tru_range.1 ht; omega
    rw [not3, this]
    rfl
theorem l2Sum_ok (a b : Val) (s : Int) (hs : s = 1 ∨ s = -1) (ha : okVal a = true) (hb : okVal b = true) : Pure Tryz.prog 289 [.agg (encV a), .agg (encV b), .c (.int .i64 s)] (.tup [.agg (encV (sumV a b s).1), .c (.bool (sumV a b s).2)]) := by
  refine Pure.run mixed c_spec_l2Sum_ok (Nat.le_of_ble_eq_true rfl) fun σ hS hA => ?_
  clear hS hA
  by_cases h1 : a.k = 2 ∨ b.k = 2
  · have e : sumV a b s = (vNull, false) := by simp only [sumV, if_pos h1]
    rw [e]
    rcases h1 with h1 | h1
    · repeat' first|refine yaG ?_|(exfalso;omega)|(refine yaS ?_ ?_<;>intro _)
      all_goals first
        | exact .ret (retv_mt rfl rfl rfl (Nat.zero_le _) rfl rfl) (fin_vb vNull _)
        | (exfalso; omega)
    · repeat' first|refine yaG ?_|(exfalso;omega)|(refine yaS ?_ ?_<;>intro _)
      all_goals first
        | exact .ret (retv_mt rfl rfl rfl (Nat.zero_le _) rfl rfl) (fin_vb vNull _)
        | (exfalso; omega)
  by_cases h2 : a.k = 0 ∨ b.k = 0
  · have e : sumV a b s = (vNull, true) := by simp only [sumV, if_neg h1, if_pos h2]
    rw [e]
    rcases h2 with h2 | h2
    · repeat' first|refine yaG ?_|(exfalso;omega)|(refine yaS ?_ ?_<;>intro _)
      all_goals first
        | exact .ret (retv_mt rfl rfl rfl (Nat.zero_le _) rfl rfl) (fin_vb vNull _)
        | (exfalso; omega)
    · repeat' first|refine yaG ?_|(exfalso;omega)|(refine yaS ?_ ?_<;>intro _)
      all_goals first
        | exact .ret (retv_mt rfl rfl rfl (Nat.zero_le _) rfl rfl) (fin_vb vNull _)
        | (exfalso; omega)
  have e : sumV a b s = (vInt (a.n + s * b.n), okVal (vInt (a.n + s * b.n))) := by simp only [sumV, if_neg h1, if_neg h2]
  have ka : a.k = 1 := by have := okVal_kind ha; omega
  have kb : b.k = 1 := by have := okVal_kind hb; omega
  have ra := okVal_range ha ka
  have rb := okVal_range hb kb
  have hw : IntKind.i64.wrap (a.n + IntKind.i64.wrap (s * b.n)) = a.n + s * b.n := by
    rcases hs with rfl | rfl
    · rw [wrap64 (n := 1 * b.n) (by omega) (by omega), wrap64 (by omega) (by omega)]
    · rw [wrap64 (n := -1 * b.n) (by omega) (by omega), wrap64 (by omega) (by omega)]
  rw [e]
  repeat' first|refine yaG ?_|((first|apply yG|apply yH|apply yI);exact rfl;(first|exact aop_store rfl rfl rfl rfl rfl rfl (Nat.le_of_ble_eq_true rfl)))|((first|apply yQ|apply yR|apply yS);(iterate 3 exact rfl);exact l1Int_ok _)|refine yaC (sValOk_ok (vInt (IntKind.i64.wrap (a.n + IntKind.i64.wrap (s * b.n))))) ?_|(exfalso;omega)|(refine yaS ?_ ?_<;>intro _)
  all_goals first
    | (exfalso; omega)
    | skip
  rw [hw]
  exact .ret (retv_mt rfl rfl rfl (Nat.zero_le _) rfl rfl) (fin_vb (vInt _) _)
def twoR (k : Int) (a b : Val) : Val × Bool := if k = 3 then (asR (eq3 a b), true) else if k = 4 then (asR (less3 a b), true) else if k = 9 then sumV a b 1 else if k = 10 then sumV a b (-1)
  else if ofB a && ofB b then (asR (if k = 5 then and3 (ofT a) (ofT b) else or3 (ofT a) (ofT b)), true) else (vNull, false)
theorem l2Two_ok (k : Int) (a b : Val) (ha : okVal a = true) (hb : okVal b = true) : Pure Tryz.prog 266 [.c (.int .i64 k), .agg (encV a), .agg (encV b)] (.tup [.agg (encV (twoR k a b).1), .c (.bool (twoR k a b).2)]) := by
  refine Pure.run mixed c_spec_l2Two_ok (Nat.le_of_ble_eq_true rfl) fun σ hS hA => ?_
  clear hS hA
  repeat' first|refine yaG ?_|refine yaC (sEqual3_ok a b) ?_|refine yaC (sLess3_ok a b) ?_|((first|apply yQ|apply yR|apply yS);(iterate 3 exact rfl);exact l2As_ok _)|refine yaC (l2Sum_ok a b 1 (.inl rfl) ha hb) ?_|refine yaC (l2Sum_ok a b (-1) (.inr rfl) ha hb) ?_|refine yaC (l2Of_ok a) ?_|refine yaC (l2Of_ok b) ?_|((first|apply yQ|apply yR|apply yS);(iterate 3 exact rfl);exact sAnd3_ok _ _)|((first|apply yQ|apply yR|apply yS);(iterate 3 exact rfl);exact sOr3_ok _ _)|(exfalso;omega)|(refine yaS ?_ ?_<;>intro _)
  · rename_i h
    rw [twoR, if_pos h]
    exact .ret (retv_mt rfl rfl rfl (Nat.zero_le _) rfl rfl) (fin_vb _ _)
  · rename_i h0 h
    rw [twoR, if_neg h0, if_pos h]
    exact .ret (retv_mt rfl rfl rfl (Nat.zero_le _) rfl rfl) (fin_vb _ _)
  · rename_i h0 h1 h
    rw [twoR, if_neg h0, if_neg h1, if_pos h]
    exact .ret (retv_mt rfl rfl rfl (Nat.zero_le _) rfl rfl) (fin_vb _ _)
  · rename_i h0 h1 h2 h
    rw [twoR, if_neg h0, if_neg h1, if_neg h2, if_pos h]
    exact .ret (retv_mt rfl rfl rfl (Nat.zero_le _) rfl rfl) (fin_vb _ _)
  · rename_i h0 h1 h2 h3 h
    have h : ofB a = false := by simpa using h
    rw [twoR, if_neg h0, if_neg h1, if_neg h2, if_neg h3, h]
    exact .ret (retv_mt rfl rfl rfl (Nat.zero_le _) rfl rfl) (fin_vb vNull _)
  · rename_i h0 h1 h2 h3 h4 h
    have h : ofB b = false := by simpa using h
    rw [twoR, if_neg h0, if_neg h1, if_neg h2, if_neg h3, h, Bool.and_false]
    exact .ret (retv_mt rfl rfl rfl (Nat.zero_le _) rfl rfl) (fin_vb vNull _)
  · rename_i h0 h1 h2 h3 h4 h h5
    have h4 : ofB a = true := by simpa using h4
    have h : ofB b = true := by simpa using h
    rw [twoR, if_neg h0, if_neg h1, if_neg h2, if_neg h3, h4, h, if_pos h5]
    exact .ret (retv_mt rfl rfl rfl (Nat.zero_le _) rfl rfl) (fin_vb _ _)
  · rename_i h0 h1 h2 h3 h4 h h5
    have h4 : ofB a = true := by simpa using h4
    have h : ofB b = true := by simpa using h
    rw [twoR, if_neg h0, if_neg h1, if_neg h2, if_neg h3, h4, h, if_neg h5]
    exact .ret (retv_mt rfl rfl rfl (Nat.zero_le _) rfl rfl) (fin_vb _ _)
theorem asV_asR {t : Int} (h0 : 0 ≤ t) : asV t = (asR t, true) := by
  simp only [asV, asR]
  split
  · rfl
  · rw [decide_eq_true h0]
theorem ofB_truth {a : Val} (h : ofB a = true) : truthV a = ofT a ∧ 0 ≤ ofT a ∧ ofT a ≤ 2 := by
  simp only [ofB, Bool.or_eq_true, decide_eq_true_eq] at h
  simp only [truthV, ofT]
  have := yes_range (a.n != 0)
  rcases h with h | h
  · simp [h]
  · have hn : ¬ a.k = 0 := by omega
    simp only [if_neg hn, if_pos h]
    refine ⟨?_, this.1, by omega⟩
    by_cases h0 : a.n = 0 <;> simp [h0, yes]
theorem ofB_not {a : Val} (h : ofB a = false) : truthV a = -1 := by
  simp only [ofB, Bool.or_eq_false_iff, decide_eq_false_iff_not] at h
  rw [truthV, if_neg h.1, if_neg h.2]
theorem and3_tru {a b : Int} (ha : 0 ≤ a ∧ a ≤ 2) (hb : 0 ≤ b ∧ b ≤ 2) : 0 ≤ and3 a b := by
  rw [and3, tru_range.2 ha, tru_range.2 hb]
  simp only [Bool.and_self, if_true]
  split
  · omega
  · split <;> omega
theorem or3_tru {a b : Int} (ha : 0 ≤ a ∧ a ≤ 2) (hb : 0 ≤ b ∧ b ≤ 2) : 0 ≤ or3 a b := by
  rw [or3, tru_range.2 ha, tru_range.2 hb]
  simp only [Bool.and_self, if_true]
  split
  · omega
  · split <;> omega
theorem twoR_eq (t : Tok) (a b : Val) (row : List Val) (hk : t.kind = 3 ∨ t.kind = 4 ∨ t.kind = 5 ∨ t.kind = 6 ∨ t.kind = 9 ∨ t.kind = 10) : (twoR t.kind a b).2 = (applyF t [a, b] row).2 ∧ ((applyF t [a, b] row).2 = true → twoR t.kind a b = applyF t [a, b] row) := by
  have h5 : ∀ f : Int → Int → Int, (f = and3 ∨ f = or3) → (if ofB a && ofB b then (asR (f (ofT a) (ofT b)), true) else (vNull, false)).2 = (asV (f (truthV a) (truthV b))).2 ∧ ((asV (f (truthV a) (truthV b))).2 = true → (if ofB a && ofB b then (asR (f (ofT a) (ofT b)), true) else (vNull, false)) = asV (f (truthV a) (truthV b))) := by
    intro f hf
    cases h1 : ofB a
    · have h3 : asV (f (truthV a) (truthV b)) = (vInt (-1), false) := by
        rw [ofB_not h1]
        rcases hf with rfl | rfl
        · rw [and3, show tru (-1) = false from rfl]; rfl
        · rw [or3, show tru (-1) = false from rfl]; rfl
      rw [h3]
      simp
    cases h2 : ofB b
    · have h3 : asV (f (truthV a) (truthV b)) = (vInt (-1), false) := by
        rw [ofB_not h2]
        rcases hf with rfl | rfl
        · rw [and3, show tru (-1) = false from rfl, Bool.and_false]; rfl
        · rw [or3, show tru (-1) = false from rfl, Bool.and_false]; rfl
      rw [h3]
      simp
    obtain ⟨e1, r1⟩ := ofB_truth h1
    obtain ⟨e2, r2⟩ := ofB_truth h2
    rw [e1, e2, asV_asR (by
      rcases hf with rfl | rfl
      · exact and3_tru r1 r2
      · exact or3_tru r1 r2)]
    simp
  rcases hk with h | h | h | h | h | h
  · simp only [twoR, applyF, vAt, h, List.getElem?_cons_zero, List.getElem?_cons_succ, Option.getD_some, Int.reduceEq, if_true, if_false, reduceIte]
    rw [asV_asR (eq3_range a b).1]
    simp
  · simp only [twoR, applyF, vAt, h, List.getElem?_cons_zero, List.getElem?_cons_succ, Option.getD_some, Int.reduceEq, if_true, if_false, reduceIte]
    rw [asV_asR (less3_range a b).1]
    simp
  · simp only [twoR, applyF, vAt, h, List.getElem?_cons_zero, List.getElem?_cons_succ, Option.getD_some, Int.reduceEq, if_true, if_false, reduceIte]
    exact h5 and3 (.inl rfl)
  · simp only [twoR, applyF, vAt, h, List.getElem?_cons_zero, List.getElem?_cons_succ, Option.getD_some, Int.reduceEq, if_true, if_false, reduceIte]
    exact h5 or3 (.inr rfl)
  · simp only [twoR, applyF, vAt, h, List.getElem?_cons_zero, List.getElem?_cons_succ, Option.getD_some, Int.reduceEq, if_true, if_false, reduceIte]
    simp
  · simp only [twoR, applyF, vAt, h, List.getElem?_cons_zero, List.getElem?_cons_succ, Option.getD_some, Int.reduceEq, if_true, if_false, reduceIte]
    simp
theorem old_c {n : Nat} {k : IntKind} {z : Int} : ∀ y ∈ (AV.c (.int k z)).all, Old n y := fun y hy => by
  simp only [AV.all, List.mem_singleton] at hy
  subst hy
  exact .int _ _
theorem old_b {n : Nat} {b : Bool} : ∀ y ∈ (AV.c (.bool b)).all, Old n y := fun y hy => by
  simp only [AV.all, List.mem_singleton] at hy
  subst hy
  exact .bool _
theorem drop1 {st : List Val} (h : 1 ≤ st.length) : st.drop (st.length - 1) = [st[st.length - 1]] := by
  rw [List.drop_eq_getElem_cons (by omega), List.drop_eq_nil_of_le (by omega)]
theorem drop2 {st : List Val} (h : 2 ≤ st.length) : st.drop (st.length - 2) = [st[st.length - 2], st[st.length - 1]] := by
  rw [List.drop_eq_getElem_cons (by omega), show st.length - 2 + 1 = st.length - 1 by omega, drop1 (by omega)]
theorem frz_all {σ : Store} {l : List (Nat × List (List Ce))} {k v N : Nat} {ys : List Val} {junk : List (List Ce)} (hl : l[k]? = some (v, ys.map encV ++ junk)) (hN : N ≤ σ.next + k) : FrzV (E σ l) N (.c (vec (σ.next + k) v (ys.map encV) junk)) (.c (.fz (ys.map encV))) :=
  frz_drop (n := 0) hl flats (Nat.zero_le _) hN
theorem l2Eval_ok (e : List Tok) (row : List Val) (hx : e.length ≤ 24) (hrl : row.length ≤ 16) (hok : Oks row) (hea : exprAux row.length 0 e = true) : Pure Tryz.prog 228 [.c (.fz (e.map encTok)), .c (.fz (row.map encV))] (.tup [.agg (encV (evalR e row).1), .c (.bool (evalR e row).2)]) := by
  refine Pure.run mixed c_spec_l2Eval_ok (Nat.le_of_ble_eq_true rfl) fun σ hS hA => ?_
  clear hA
  repeat' first|refine yaG ?_|(exfalso;omega)|(refine yaS ?_ ?_<;>intro _)
  refine Go.freezeN (l := [(0, [[.int .i64 0, .int .i64 0, .str []]])]) (m := [(0, [])]) (fr' := [(0, .c (.fz (e.map encTok))), (1, .c (.fz (row.map encV))), (4, .c (.ptr (σ.next + 0) 0 0 0)), (6, .c (.fz (([] : List Val).map encV))), (7, .c (.int .i64 0))])
    hS (fun b hb e he x hx => ?_) (Nat.le_refl _) (.frz rfl (.refl old_encTok) (.frz rfl (.refl old_encV) (.frz rfl (.refl (old_ptr (by simp))) (.frz rfl (frz_all (σ := σ) (l := [(0, [[.int .i64 0, .int .i64 0, .str []]]), (0, [])]) (k := 1) (v := 0) (ys := []) (junk := []) rfl (Nat.le_refl _)) (.frz rfl (.refl old_int) .nil))))) ?_
  · rw [List.mem_singleton.1 hb] at he
    exact (flats (l := [vNull]) e he x hx).old _
  refine Go.loops (I := fun m fr τ => ∃ (i : Nat) (k : Int) (st : List Val), m = e.length - i ∧ i ≤ e.length ∧ k = i ∧ (st.length ≤ i ∧ Oks st ∧ exprAux row.length st.length (e.drop i) = true ∧ evalL row e [] = evalL row (e.drop i) st) ∧
    fr = [(0, .c (.fz (e.map encTok))), (1, .c (.fz (row.map encV))), (4, .c (.ptr (σ.next + 0) 0 0 0)), (6, .c (.fz (st.map encV))), (7, .c (.int .i64 k))] ∧
      τ = E σ [(0, [[.int .i64 0, .int .i64 0, .str []]])]) ?_ _ _ _ ⟨0, _, [], rfl, Nat.zero_le _, rfl, ⟨Nat.zero_le _, fun v hv => (by simp at hv), hea, rfl⟩, rfl, rfl⟩
  rintro m fr τ ⟨i, k, st, rfl, hi, hk, ⟨hsl, hst, haux, hev⟩, rfl, rfl⟩ hrec
  clear hea
  by_cases hlt : i < e.length
  · rw [List.drop_eq_getElem_cons hlt] at haux hev
    obtain ⟨htk, hle, haux⟩ := exprAux_cons haux
    have htr := tokTakes_range e[i]
    have hkd := isTok_kinds htk
    have hcol := isTok_col htk
    have hft : fromOf e[i] st = st.length - (tokTakes e[i]).toNat := rfl
    have hres := applyF_ok (tokOk_const htk) (hst.drop (fromOf e[i] st)) hok
    rw [evalL] at hev
    have hsl1 : st.length ≤ 24 := by omega
    obtain ⟨ap, hap⟩ : ∃ ap, applyF e[i] (st.drop (fromOf e[i] st)) row = ap := ⟨_, rfl⟩
    rw [hap] at hres hev
    repeat' first|apply Go.seq|apply Go.skip|apply Go.region|apply Go.nil|apply Go.blk|apply Go.draw|apply Go.segs|(apply Go.exit;exact rfl)|(apply Go.cond true;exact rfl)|(apply Go.cond false;exact rfl)|apply yB|apply yC|((first|apply yG|apply yH|apply yI);exact rfl;(first|exact yJ|exact yK rfl rfl|exact yL rfl|exact yM rfl|exact rfl|exact aL rfl rfl rfl rfl rfl|exact aS rfl rfl rfl rfl rfl rfl rfl))|((first|apply yN|apply yO|apply yP);exact rfl)|(exfalso;omega)|(((first|apply yT|apply yU|apply yV|apply yW);exact rfl;(first|exact .d|exact .e|exact .n|((fail_if_success exact bqt);(fail_if_success exact bqf);exact .b)))<;>intro _)
    apply Go.block
    repeat' first|apply Go.seq|apply Go.skip|apply Go.region|apply Go.nil|apply Go.blk|apply Go.draw|apply Go.segs|(apply Go.exit;exact rfl)|(apply Go.cond true;exact rfl)|(apply Go.cond false;exact rfl)|apply yB|apply yC|((first|apply yG|apply yH|apply yI);exact rfl;(first|exact yJ|exact yK rfl rfl|exact yL rfl|exact yM rfl|exact rfl|exact aL rfl rfl rfl rfl rfl|exact aS rfl rfl rfl rfl rfl rfl rfl|exact yX (enc := encTok) rfl rfl hk hlt rfl))|((first|apply yN|apply yO|apply yP);exact rfl)|(exfalso;omega)|(((first|apply yT|apply yU|apply yV|apply yW);exact rfl;(first|exact .d|exact .e|exact .n|((fail_if_success exact bqt);(fail_if_success exact bqf);exact .b)))<;>intro _)
    apply Go.block
    refine Go.join (K' := [_]) (fun fr τ => ∃ (av : Val) (ab : Bool), ab = ap.2 ∧ (ab = true → av = ap.1) ∧
      fr = [(0, .c (.fz (e.map encTok))), (1, .c (.fz (row.map encV))), (4, .c (.ptr (σ.next + 0) 0 0 0)), (6, .c (.fz (st.map encV))), (7, .c (.int .i64 k)), (8, .c (.int .i64 (st.length : Int))), (9, .c (.ptr (σ.next + 1) 0 0 0)), (10, .c (.bool ab)), (11, .c (.int .i64 (tokTakes e[i])))] ∧
      τ = E σ [(0, [[.int .i64 0, .int .i64 0, .str []]]), (0, [encV av])]) ?_ ?_
    · rintro fr τ ⟨av, ab, hab, hav, rfl, rfl⟩
      cases ab
      · rw [← hab, if_neg Bool.false_ne_true] at hev
        have hR : evalR e row = (vNull, false) := by rw [evalR, hev]
        rw [hR]
        repeat' first|refine yaG ?_|(exfalso;omega)|(refine yaS ?_ ?_<;>intro _)
        exact .ret (retv_mt rfl rfl rfl (Nat.zero_le _) rfl rfl) (fin_vb vNull _)
      obtain rfl := hav rfl
      rw [← hab, if_pos rfl] at hev
      have hn : fromOf e[i] st ≤ (st.map encV).length := by rw [List.length_map, hft]; omega
      have hz : IntKind.i64.wrap ((st.length : Int) - tokTakes e[i]) = (fromOf e[i] st : Int) := by rw [wrap64 (by omega) (by omega), hft]; omega
      have hres := hres hab.symm
      have hl1 : ((st.take (fromOf e[i] st)).length : Int) = st.length - tokTakes e[i] := by rw [List.length_take, hft]; omega
      generalize fromOf e[i] st = n at hn hz hl1 hev
      repeat' first|apply Go.seq|apply Go.skip|apply Go.region|apply Go.nil|apply Go.block|apply Go.blk|apply Go.segs|(apply Go.exit;exact rfl)|(apply Go.cond true;exact rfl)|(apply Go.cond false;exact rfl)|apply yB|apply yC|((first|apply yD|apply yE);(first|exact yF|assumption);iterate 6 exact rfl)|((first|apply yG|apply yH|apply yI);exact rfl;(first|exact yJ|exact yK rfl rfl|exact yL rfl|exact yM rfl|exact rfl|exact aL rfl rfl rfl rfl rfl|exact aS rfl rfl rfl rfl rfl rfl rfl))|((first|apply yN|apply yO|apply yP);exact rfl)|(exfalso;omega)|(((first|apply yT|apply yU|apply yV|apply yW);exact rfl;(first|exact .d|exact .e|exact .n|((fail_if_success exact bqt);(fail_if_success exact bqf);exact .b)))<;>intro _)
      apply Go.draw
      refine Go.qkm [(0, [[.int .i64 0, .int .i64 0, .str []]]), (0, [encV ap.1])] [] ?_
      repeat' first|(apply Qk.nil;show Go _ _ _ _ _ _ _ _)|(apply Qk.op;exact rfl;(first|(rintro _ ⟨_, rfl⟩;exact rfl)|(rintro _ ⟨_, rfl⟩;exact aop_load rfl rfl rfl (Nat.le_of_ble_eq_true rfl) rfl)|(rintro _ ⟨_, rfl⟩;exact aop_sliceF (s := 3) rfl rfl hz hn lens)))|(apply Qk.no;exact rfl)|(apply Qk.wop;exact rfl;exact rfl;(first|exact yJ|exact yL rfl|exact aop_store rfl rfl rfl rfl rfl rfl (Nat.le_of_ble_eq_true rfl));exact ⟨_, rfl⟩)
      have hb1 : (([] : List (List Ce)).length + ((st.map encV).take n).length) * 32 ≤ 140737488355328 := by rw [List.length_take, List.length_map, List.length_nil]; omega
      refine Qk.app (k := 2) (v := 0) (ys := []) (junk := []) (zs := (st.map encV).take n) rfl rfl rfl rfl rfl (fun e he => (by simp at he)) Jk.nil (fun e he => lens e (List.mem_of_mem_take he)) hb1 (fun z => ⟨[z], rfl⟩) fun v1 j1 hj1 => ?_
      repeat' first|(apply Qk.nil;show Go _ _ _ _ _ _ _ _)|(apply Qk.op;exact rfl;(first|(rintro _ ⟨_, rfl⟩;exact rfl)|(rintro _ ⟨_, rfl⟩;exact aop_load rfl rfl rfl (Nat.le_of_ble_eq_true rfl) rfl)))|(apply Qk.no;exact rfl)|(apply Qk.wop;exact rfl;exact rfl;(first|exact yJ|exact yL rfl|exact aop_store rfl rfl rfl rfl rfl rfl (Nat.le_of_ble_eq_true rfl));exact ⟨_, rfl⟩)
      have hb2 : ((([] : List (List Ce)) ++ (st.map encV).take n).length + 1) * 32 ≤ 140737488355328 := by rw [List.nil_append, List.length_take, List.length_map]; omega
      refine Go.sapp1 (k := 2) (z := encV ap.1) rfl rfl rfl rfl rfl (fun e he => lens e (List.mem_of_mem_take he)) hj1 rfl hb2 fun v' junk' hj' => ?_
      repeat' first|refine yaG ?_|(exfalso;omega)|(refine yaS ?_ ?_<;>intro _)
      have e1 : [] ++ (st.map encV).take n ++ [encV ap.1] = (st.take n ++ [ap.1]).map encV := by simp
      rw [e1]
      refine Go.freezeN (l := [(0, [[.int .i64 0, .int .i64 0, .str []]])]) (m := [(0, [encV ap.1]), (v', (st.take n ++ [ap.1]).map encV ++ junk')])
        (fr' := [(0, .c (.fz (e.map encTok))), (1, .c (.fz (row.map encV))), (4, .c (.ptr (σ.next + 0) 0 0 0)), (6, .c (.fz ((st.take n ++ [ap.1]).map encV))), (7, .c (.int .i64 (IntKind.i64.wrap (k + 1))))])
        hS (fun b hb e he x hx => ?_) (Nat.le_refl _) (.frz rfl (.refl old_encTok) (.frz rfl (.refl old_encV) (.frz rfl (.refl (old_ptr (by simp))) (.frz rfl (frz_all (σ := σ) (l := [(0, [[.int .i64 0, .int .i64 0, .str []]]), (0, [encV ap.1]), (v', (st.take n ++ [ap.1]).map encV ++ junk')]) (k := 2) (v := v') (ys := st.take n ++ [ap.1]) (junk := junk') rfl (Nat.le_succ _)) (.frz rfl (.refl old_int) .nil))))) ?_
      · rw [List.mem_singleton.1 hb] at he
        exact (flats (l := [vNull]) e he x hx).old _
      refine hrec _ _ _ (by omega) ⟨i + 1, _, st.take n ++ [ap.1], rfl, hlt, wrap_succ hk (by omega), ⟨?_, (hst.take n).snoc hres, ?_, hev⟩, rfl, rfl⟩
      · simp only [List.length_append, List.length_take, List.length_singleton]; omega
      · have e2 : ((st.take n ++ [ap.1]).length : Int) = st.length + 1 - tokTakes e[i] := by
          simp only [List.length_append, List.length_singleton]
          omega
        rw [e2]
        exact haux
    intro hj
    rw [List.singleton_append]
    by_cases h1 : e[i].kind = 1
    · have htk0 : tokTakes e[i] = 0 := by rw [tokTakes, if_pos (.inl h1)]
      have hc2 := hcol h1
      have hcz : e[i].col = (e[i].col.toNat : Int) := by omega
      have hcl : e[i].col.toNat < row.length := by omega
      have hape : ap = (row[e[i].col.toNat], true) := by rw [← hap, applyF, if_pos h1, vAt, List.getElem?_eq_getElem hcl]; rfl
      rw [htk0] at hj
      repeat' first|apply Go.seq|apply Go.skip|apply Go.region|apply Go.nil|apply Go.block|apply Go.draw|apply Go.segs|(apply Go.exit;exact rfl)|(apply Go.cond true;exact rfl)|(apply Go.cond false;exact rfl)|apply yB|apply yC|((first|apply yG|apply yH|apply yI);exact rfl;(first|exact yJ|exact yK rfl rfl|exact yL rfl|exact yM rfl|exact rfl|exact aL rfl rfl rfl rfl rfl|exact aS rfl rfl rfl rfl rfl rfl rfl|exact yX (enc := encTok) rfl rfl hk hlt rfl|exact yX (enc := encV) rfl rfl hcz hcl rfl))|((first|apply yN|apply yO|apply yP);exact rfl)|(exfalso;omega)|(((first|apply yT|apply yU|apply yV|apply yW);exact rfl;(first|exact .d|exact .e|exact .n|((fail_if_success exact bqt);(fail_if_success exact bqf);exact .b)))<;>intro _)
      exact Go.keep [0, 1, 4, 6, 7, 8, 9, 10, 11] (hj _ _ ⟨row[e[i].col.toNat], true, by rw [hape], fun _ => by rw [hape], rfl, rfl⟩)
    by_cases h2 : e[i].kind = 2
    · have htk0 : tokTakes e[i] = 0 := by rw [tokTakes, if_pos (.inr h2)]
      have hape : ap = (e[i].v, true) := by rw [← hap, applyF, if_neg h1, if_pos h2]
      rw [htk0] at hj
      repeat' first|apply Go.seq|apply Go.skip|apply Go.region|apply Go.nil|apply Go.block|apply Go.draw|apply Go.segs|(apply Go.exit;exact rfl)|(apply Go.cond true;exact rfl)|(apply Go.cond false;exact rfl)|apply yB|apply yC|((first|apply yG|apply yH|apply yI);exact rfl;(first|exact yJ|exact yK rfl rfl|exact yL rfl|exact yM rfl|exact rfl|exact aL rfl rfl rfl rfl rfl|exact aS rfl rfl rfl rfl rfl rfl rfl|exact yX (enc := encTok) rfl rfl hk hlt rfl))|((first|apply yN|apply yO|apply yP);exact rfl)|(exfalso;omega)|(((first|apply yT|apply yU|apply yV|apply yW);exact rfl;(first|exact .d|exact .e|exact .n|((fail_if_success exact bqt);(fail_if_success exact bqf);exact .b)))<;>intro _)
      exact Go.keep [0, 1, 4, 6, 7, 8, 9, 10, 11] (hj _ _ ⟨e[i].v, true, by rw [hape], fun _ => by rw [hape], rfl, rfl⟩)
    have hn12 : ¬ (e[i].kind = 1 ∨ e[i].kind = 2) := by omega
    by_cases h8 : e[i].kind = 8
    · have htk0 : tokTakes e[i] = 1 := by rw [tokTakes, if_neg hn12, if_pos (.inr h8)]
      have hz1 : IntKind.i64.wrap ((st.length : Int) - 1) = ((st.length - 1 : Nat) : Int) := by rw [wrap64 (by omega) (by omega)]; omega
      have hl1 : st.length - 1 < st.length := by omega
      have hf : fromOf e[i] st = st.length - 1 := by rw [hft, htk0]; rfl
      have hyr := yes_range (st[st.length - 1].k == 0)
      have hape : ap = (asR (yes (st[st.length - 1].k == 0)), true) := by
        rw [← hap, hf, drop1 (by omega), ← asV_asR hyr.1]
        simp [applyF, h8, vAt]
      have hv : asR (yes (st[st.length - 1].k == 0)) = vInt (yes (st[st.length - 1].k == 0)) := by rw [asR, if_neg (by omega)]
      rw [htk0] at hj
      repeat' first|apply Go.seq|apply Go.skip|apply Go.region|apply Go.nil|apply Go.block|apply Go.draw|apply Go.segs|(apply Go.exit;exact rfl)|(apply Go.cond true;exact rfl)|(apply Go.cond false;exact rfl)|apply yB|apply yC|((first|apply yG|apply yH|apply yI);exact rfl;(first|exact yJ|exact yK rfl rfl|exact yL rfl|exact yM rfl|exact rfl|exact aL rfl rfl rfl rfl rfl|exact aS rfl rfl rfl rfl rfl rfl rfl|exact yX (enc := encTok) rfl rfl hk hlt rfl|exact yX (enc := encV) rfl rfl hz1 hl1 rfl))|((first|apply yN|apply yO|apply yP);exact rfl)|((first|apply yQ|apply yR|apply yS);(iterate 3 exact rfl);(first|exact l1Yes_ok _|exact l1Int_ok _))|(exfalso;omega)|(((first|apply yT|apply yU|apply yV|apply yW);exact rfl;(first|exact .d|exact .e|exact .n|((fail_if_success exact bqt);(fail_if_success exact bqf);exact .b)))<;>intro _)
      exact Go.keep [0, 1, 4, 6, 7, 8, 9, 10, 11] (hj _ _ ⟨vInt (yes (st[st.length - 1].k == 0)), true, by rw [hape], fun _ => by rw [hape, hv], rfl, rfl⟩)
    by_cases h7 : e[i].kind = 7
    · have htk0 : tokTakes e[i] = 1 := by rw [tokTakes, if_neg hn12, if_pos (.inl h7)]
      have hz1 : IntKind.i64.wrap ((st.length : Int) - 1) = ((st.length - 1 : Nat) : Int) := by rw [wrap64 (by omega) (by omega)]; omega
      have hl1 : st.length - 1 < st.length := by omega
      have hf : fromOf e[i] st = st.length - 1 := by rw [hft, htk0]; rfl
      have hape : ap = asV (not3 (truthV st[st.length - 1])) := by
        rw [← hap, hf, drop1 (by omega)]
        simp [applyF, h7, vAt]
      rw [htk0] at hj
      repeat' first|apply Go.seq|apply Go.skip|apply Go.region|apply Go.nil|apply Go.block|apply Go.draw|apply Go.segs|(apply Go.exit;exact rfl)|(apply Go.cond true;exact rfl)|(apply Go.cond false;exact rfl)|apply yB|apply yC|((first|apply yG|apply yH|apply yI);exact rfl;(first|exact yJ|exact yK rfl rfl|exact yL rfl|exact yM rfl|exact rfl|exact aL rfl rfl rfl rfl rfl|exact aS rfl rfl rfl rfl rfl rfl rfl|exact yX (enc := encTok) rfl rfl hk hlt rfl|exact yX (enc := encV) rfl rfl hz1 hl1 rfl))|((first|apply yN|apply yO|apply yP);exact rfl)|((first|apply yQ|apply yR|apply yS);(iterate 3 exact rfl);(first|exact l2Of_ok st[st.length - 1]|exact sNot3_ok _|exact l2As_ok _))|(exfalso;omega)|(((first|apply yT|apply yU|apply yV|apply yW);exact rfl;(first|exact .d|exact .e|exact .n|((fail_if_success exact bqt);(fail_if_success exact bqf);exact .b)))<;>intro _)
      refine Go.keep [0, 1, 4, 6, 7, 8, 9, 10, 11] (hj _ _ ⟨asR (not3 (ofT st[st.length - 1])), ofB st[st.length - 1], ?_, ?_, rfl, rfl⟩)
      · rw [hape]
        cases hb : ofB st[st.length - 1]
        · rw [ofB_not hb]; rfl
        · obtain ⟨q1, q2⟩ := ofB_truth hb
          rw [q1, asV_asR]
          rw [not3, tru_range.2 q2, if_pos rfl]
          split <;> omega
      · intro hb
        obtain ⟨q1, q2⟩ := ofB_truth hb
        rw [hape, q1, asV_asR]
        rw [not3, tru_range.2 q2, if_pos rfl]
        split <;> omega
    have htk0 : tokTakes e[i] = 2 := by rw [tokTakes, if_neg hn12, if_neg (by omega)]
    have hz1 : IntKind.i64.wrap ((st.length : Int) - 1) = ((st.length - 1 : Nat) : Int) := by rw [wrap64 (by omega) (by omega)]; omega
    have hz2 : IntKind.i64.wrap ((st.length : Int) - 2) = ((st.length - 2 : Nat) : Int) := by rw [wrap64 (by omega) (by omega)]; omega
    have hl1 : st.length - 1 < st.length := by omega
    have hl2 : st.length - 2 < st.length := by omega
    have hf : fromOf e[i] st = st.length - 2 := by rw [hft, htk0]; rfl
    obtain ⟨hw1, hw2⟩ := twoR_eq e[i] st[st.length - 2] st[st.length - 1] row (by omega)
    have hap2 : applyF e[i] [st[st.length - 2], st[st.length - 1]] row = ap := by rw [← hap, hf, drop2 (by omega)]
    rw [hap2] at hw1 hw2
    have ctwo := l2Two_ok e[i].kind st[st.length - 2] st[st.length - 1] (hst _ (List.getElem_mem _)) (hst _ (List.getElem_mem _))
    generalize twoR e[i].kind st[st.length - 2] st[st.length - 1] = tw at ctwo hw1 hw2
    rw [htk0] at hj
    repeat' first|apply Go.seq|apply Go.skip|apply Go.region|apply Go.nil|apply Go.block|apply Go.segs|(apply Go.exit;exact rfl)|(apply Go.cond true;exact rfl)|(apply Go.cond false;exact rfl)|apply yB|apply yC|((first|apply yG|apply yH|apply yI);exact rfl;(first|exact yJ|exact yK rfl rfl|exact yL rfl|exact yM rfl|exact rfl|exact aL rfl rfl rfl rfl rfl|exact aS rfl rfl rfl rfl rfl rfl rfl|exact yX (enc := encTok) rfl rfl hk hlt rfl))|((first|apply yN|apply yO|apply yP);exact rfl)|(exfalso;omega)|(((first|apply yT|apply yU|apply yV|apply yW);exact rfl;(first|exact .d|exact .e|exact .n|((fail_if_success exact bqt);(fail_if_success exact bqf);exact .b)))<;>intro _)
    apply Go.draw
    apply Go.qs
    repeat' first|(apply yA;exact rfl)|apply yC|((first|apply yD|apply yE);(first|exact yF|assumption);iterate 6 exact rfl)|((first|apply yG|apply yH|apply yI);exact rfl;(first|exact yJ|exact yK rfl rfl|exact yL rfl|exact yM rfl|exact rfl|exact aL rfl rfl rfl rfl rfl|exact aS rfl rfl rfl rfl rfl rfl rfl|exact yX (enc := encTok) rfl rfl hk hlt rfl|exact yX (enc := encV) rfl rfl hz2 hl2 rfl|exact yX (enc := encV) rfl rfl hz1 hl1 rfl|exact aop_load rfl rfl rfl (Nat.le_of_ble_eq_true rfl) rfl))|((first|apply yN|apply yO|apply yP);exact rfl)|((first|apply yQ|apply yR|apply yS);(iterate 3 exact rfl);exact ctwo)|(exfalso;omega)|(((first|apply yT|apply yU|apply yV|apply yW);exact rfl;(first|exact .d|exact .e|exact .n|((fail_if_success exact bqt);(fail_if_success exact bqf);exact .b)))<;>intro _)
    refine Go.qkm [(0, [[.int .i64 0, .int .i64 0, .str []]])] [(0, [encV vNull])] ?_
    repeat' first|(apply Qk.nil;show Go _ _ _ _ _ _ _ _)|(apply Qk.op;exact rfl;(first|(rintro _ ⟨_, rfl⟩;exact rfl)|(rintro _ ⟨_, rfl⟩;exact aop_load rfl rfl rfl (Nat.le_of_ble_eq_true rfl) rfl)))|(apply Qk.no;exact rfl)|(apply Qk.wop;exact rfl;exact rfl;(first|exact yJ|exact yL rfl|exact aop_store rfl rfl rfl rfl rfl rfl (Nat.le_of_ble_eq_true rfl));exact ⟨_, rfl⟩)
    repeat' first|apply Go.seq|apply Go.skip|apply Go.region|apply Go.nil|apply Go.block|apply Go.draw|apply Go.segs|(apply Go.exit;exact rfl)|(apply Go.cond true;exact rfl)|(apply Go.cond false;exact rfl)|apply yB|apply yC|((first|apply yG|apply yH|apply yI);exact rfl;(first|exact yJ|exact yK rfl rfl|exact yL rfl|exact yM rfl|exact rfl|exact aL rfl rfl rfl rfl rfl|exact aS rfl rfl rfl rfl rfl rfl rfl))|((first|apply yN|apply yO|apply yP);exact rfl)|(exfalso;omega)|(((first|apply yT|apply yU|apply yV|apply yW);exact rfl;(first|exact .d|exact .e|exact .n|((fail_if_success exact bqt);(fail_if_success exact bqf);exact .b)))<;>intro _)
    exact Go.keep [0, 1, 4, 6, 7, 8, 9, 10, 11] (hj _ _ ⟨tw.1, tw.2, hw1, fun h => by rw [hw2 (by rw [← hw1]; exact h)], rfl, rfl⟩)
  · have hd : e.drop i = [] := List.drop_eq_nil_of_le (by omega)
    rw [hd] at haux hev
    simp only [exprAux, beq_iff_eq] at haux
    obtain ⟨w, rfl⟩ : ∃ w, st = [w] := List.length_eq_one_iff.1 (by omega)
    have hR : evalR e row = (w, true) := by rw [evalR, hev]; rfl
    rw [hR]
    repeat' first|refine yaG ?_|(exfalso;omega)|(refine yaS ?_ ?_<;>intro _)
    exact .ret (retv_mt rfl rfl rfl (Nat.zero_le _) rfl rfl) (fin_vb w _)
theorem l2Truth_ok (e : List Tok) (row : List Val) (hv : areVals row 16 = true) (he : exprF e row.length = true) : Pure Tryz.prog 173 [.c (.fz (e.map encTok)), .c (.fz (row.map encV))] (.c (.int .i64 (truthR e row))) := by
  refine Pure.run mixed c_spec_l2Truth_ok (Nat.le_of_ble_eq_true rfl) fun σ hS hA => ?_
  clear hS hA
  obtain ⟨hok, hrl⟩ := areVals_oks hv
  obtain ⟨hel, hea⟩ := exprF_aux he
  have c1 := l2Eval_ok e row (by omega) (by omega) hok hea
  have c2 := l2Of_ok (evalR e row).1
  rw [truthR]
  generalize evalR e row = q at c1 c2 ⊢
  obtain ⟨v, b⟩ := q
  simp only at c1 c2 ⊢
  cases hb : ofB v
  · rw [hb] at c2
    have h1 := ofB_not hb
    cases b
    · repeat' first|refine yaG ?_|refine yaC (c1) ?_|refine yaC (c2) ?_|(exfalso;omega)|(refine yaS ?_ ?_<;>intro _)
      exact .ret rfl (.int rfl)
    · repeat' first|refine yaG ?_|refine yaC (c1) ?_|refine yaC (c2) ?_|(exfalso;omega)|(refine yaS ?_ ?_<;>intro _)
      exact .ret rfl (.int (by rw [if_pos rfl, h1]))
  · rw [hb] at c2
    have h1 := (ofB_truth hb).1
    cases b
    · repeat' first|refine yaG ?_|refine yaC (c1) ?_|refine yaC (c2) ?_|(exfalso;omega)|(refine yaS ?_ ?_<;>intro _)
      exact .ret rfl (.int rfl)
    · repeat' first|refine yaG ?_|refine yaC (c1) ?_|refine yaC (c2) ?_|(exfalso;omega)|(refine yaS ?_ ?_<;>intro _)
      exact .ret rfl (.int (by rw [if_pos rfl, h1]))
structure RowD where
  id : Int
  vals : List Val
  deriving DecidableEq
def encRowD (a : RowD) : List Ce := [.int .i64 a.id, .fz (a.vals.map encV)]
def bRowD (N : Nat) (a : RowD) : Prop := (a.vals.length ≤ N ∧ ∀ x ∈ a.vals, bV N x)
def zRowD (a : RowD) : Int → Int := chain [(szL szV a.vals)]
theorem zRowD_steps (a : RowD) : Steps [(szL szV a.vals)] := (.cons (fun l h => szL_le szV_le _ l h) .nil)
theorem zRowD_le (a : RowD) (l : Int) (h : 0 ≤ l) : zRowD a l ≤ l := chain_le (zRowD_steps a) l h
theorem bRowD_of (a : RowD) (l : Int) (N : Nat) (h0 : 0 ≤ l) (h : 0 ≤ zRowD a l) (hl : l ≤ N) : bRowD N a := by
  have hh := chain_all (zRowD_steps a) l h0 h
  obtain ⟨q0, u0, v0, w0⟩ := hh (szL szV a.vals) (by simp)
  exact (list_of szV_le (fun _ _ _ _ h hl => bV_of h hl) u0 w0 (by omega))
theorem szRowD_ok (a : RowD) (left : Int) (hb : bRowD 1125899906842624 a) (h0 : 0 ≤ left) (h1 : left ≤ 34359738368) : Pure Tryz.prog 150 [.agg (encRowD a), .c (.int .i64 left)] (.c (.int .i64 (zRowD a left))) := by
  refine Pure.run mixed c_laws_szRow_ok (Nat.le_of_ble_eq_true rfl) fun σ hS hA => ?_
  clear hS hA
  repeat' first|refine yaG ?_|fail
  refine .pcall rfl rfl rfl (szValS_ok a.vals left hb.1 hb.2 (by omega) (by omega)) ?_
  have y1 := szL_le szV_le a.vals left (by omega)
  generalize e1 : szL szV a.vals left = l1 at y1 ⊢
  repeat' first|refine yaG ?_|(exfalso;omega)|(refine yaS ?_ ?_<;>intro _)
  · refine .ret rfl (.int ?_)
    rename_i h
    simp only [zRowD, chain, e1, if_pos h]
  rename_i g1
  refine .ret rfl (.int ?_)
  simp only [zRowD, chain, e1, if_neg g1]
theorem szRowDS_ok (xs : List RowD) (left : Int) (hx : xs.length ≤ 1125899906842624) (hv : ∀ e ∈ xs, bRowD 1125899906842624 e) (h0 : 0 ≤ left) (h1 : left ≤ 34359738368) : Pure Tryz.prog 75 [.c (.fz (xs.map encRowD)), .c (.int .i64 left)] (.c (.int .i64 (szL zRowD xs left))) :=
  szS_ok mixed c_laws_szRowS_ok encRowD zRowD xs left hx h0 h1 (fun _ => rfl) zRowD_le fun a ha l h2 h3 => szRowD_ok a l (hv a ha) h2 (by omega)
theorem toRowD_ok (a : RowD) (hb : bRowD 34359738368 a) (σ : Store) : Ok Tryz.prog 157 [.agg (encRowD a)] σ (NewL σ (encRowD a)) := by
  refine Ok.run mixed c_laws_toRow_ok (Nat.le_of_ble_eq_true rfl) fun hS hA => ?_
  clear hS hA
  repeat' first|refine yaG ?_|(exfalso;omega)|(refine yaS ?_ ?_<;>intro _)
  refine Go.call _ rfl rfl rfl (toValS_ok a.vals hb.1  _) ?_
  rintro r σ0 ⟨x0, m0, rfl, rfl, t0, h0⟩
  rw [E_E] at h0 ⊢
  have t0 := tidy_up t0
  have h0 := h0.new2
  repeat' first|refine yaG ?_|(exfalso;omega)|(refine yaS ?_ ?_<;>intro _)
  have hL : HasL (E σ ((0, [[.int .i64 a.id, x0]]) :: (0, [[.int .i64 a.id, x0]]) :: ([] ++ m0))) (fun a => σ.next + 2 ≤ a ∧ a < σ.next + 2 + ([] ++ m0).length) (encRowD a) [.int .i64 a.id, x0] := by
    refine HasL.mono ?_ (HasL.skip (.int _ _) (HasL.two (h0 _ _) (HasL.nil (S := fun a => a < 0)) (fun a ha hb => by (try dsimp only at ha hb); (try simp only [List.append_eq, List.length_append, List.length_nil, List.nil_append] at ha hb); omega)))
    intro a ha
    (try dsimp only at ha)
    (try simp only [List.append_eq, List.length_append, List.length_nil, List.nil_append] at ha ⊢)
    omega
  have hT := hL.tidy (n := σ.next) fun a ha => by have := ha.1; omega
  have hM : TidyL σ.next ([] ++ m0) := (tidy_pre (fun b hb => by simp at hb) t0)
  have hN : NewL σ (encRowD a) (.agg [.int .i64 a.id, x0]) (E σ ((0, [[.int .i64 a.id, x0]]) :: (0, [[.int .i64 a.id, x0]]) :: ([] ++ m0))) := by
    refine ⟨_, _, rfl, rfl, .one hT (.one hT hM), hL.mono ?_⟩
    intro a ha
    have h9 := ha.1
    have h8 := ha.2
    (try simp only [E_next, List.length_cons, List.append_eq, List.length_append, List.length_nil, List.nil_append] at h8 ⊢)
    constructor <;> omega
  exact .ret (retv_m rfl rfl rfl (Nat.le_of_ble_eq_true rfl) rfl) hN
theorem toRowDS_ok (xs : List RowD) (hx : xs.length ≤ 34359738368) (hv : ∀ e ∈ xs, bRowD 34359738368 e) (σ : Store) : Ok Tryz.prog 81 [.c (.fz (xs.map encRowD))] σ (New σ (.fz (xs.map encRowD))) :=
  toS_ok mixed c_laws_toRowS_ok encRowD xs hx (by decide) rfl (fun _ => rfl) (by intro x hx; simp only [List.mem_cons, List.not_mem_nil, or_false] at hx; rcases hx with rfl | rfl <;> constructor) (fun a ha σ => toRowD_ok a (hv a ha) σ) σ
theorem RowD_beq (a b : RowD) : (a == b) = (a.id == b.id && a.vals == b.vals) := by
  obtain ⟨a0, a1⟩ := a
  obtain ⟨b0, b1⟩ := b
  rw [Bool.eq_iff_iff]
  simp [and_assoc]
theorem eqRowD_ok (a b : RowD) (hb : bRowD 34359738368 a) : Pure Tryz.prog 168 [.agg (encRowD a), .agg (encRowD b)] (.c (.bool (a == b))) := by
  refine Pure.run mixed c_laws_eqRow_ok (Nat.le_of_ble_eq_true rfl) fun σ hS hA => ?_
  clear hS hA
  have hq := RowD_beq a b
  repeat' first|refine yaG ?_|((first|apply Go.pcallB|apply Go.spcallB|apply Qg.pcallB);(iterate 3 exact rfl);exact eqValS_ok a.vals b.vals hb.1;intro _ _)|(exfalso;omega)|(refine yaS ?_ ?_<;>intro _)
  all_goals refine .ret rfl (.bool ?_)
  all_goals rw [hq]
  all_goals clear hq hb
  all_goals simp_all
theorem eqRowDS_ok (xs ys : List RowD) (hx : xs.length ≤ 34359738368) (hv : ∀ e ∈ xs, bRowD 34359738368 e) : Pure Tryz.prog 87 [.c (.fz (xs.map encRowD)), .c (.fz (ys.map encRowD))] (.c (.bool (xs == ys))) :=
  eqS_ok mixed c_laws_eqRowS_ok encRowD xs ys hx (fun _ => rfl) fun a ha b => eqRowD_ok a b (hv a ha)
theorem flatTs {l : List Tok} : ∀ e ∈ l.map encTok, ∀ x ∈ e, Flat x := fun e he x hx => by
  obtain ⟨a, _, rfl⟩ := List.mem_map.1 he
  exact flatTok a x hx
theorem Go.meet {P : Program} {n0 nt : Nat} {rets : List RV} {R : AV → Store → Prop} {K K' : List AK} {fr : Fr} {σ : Store} (I : Fr → Store → Prop) (h2 : ∀ K, (∀ fr σ, I fr σ → Go P n0 nt rets R K fr σ) → Go P n0 nt rets R (K' ++ K) fr σ) (h1 : ∀ fr σ, I fr σ → Go P n0 nt rets R K fr σ) : Go P n0 nt rets R (K' ++ K) fr σ := h2 K h1
def OldL (n : Nat) (ys : List (List Ce)) : Prop := ∀ e ∈ ys, ∀ c ∈ e, Old n c
theorem oldL_flat {n : Nat} {ys : List (List Ce)} (h : ∀ e ∈ ys, ∀ x ∈ e, Flat x) : OldL n ys := fun e he c hc => (h e he c hc).old _
theorem old_fz1 {n : Nat} {ys : List (List Ce)} (h : OldL n ys) : Old n (.fz ys) := .fz _ fun i j hi hj => h _ (List.getElem_mem hi) _ (List.getElem_mem hj)
theorem oldCols {n : Nat} (l : List Col) : OldL n (l.map encCol) := oldL_flat fun e he x hx => by
  obtain ⟨a, _, rfl⟩ := List.mem_map.1 he
  exact flatCol a x hx
theorem oldInts {n : Nat} (l : List Int) : OldL n (l.map encI) := oldL_flat fun e he x hx => (flatI l e he).2 x hx
theorem oldUniqs {n : Nat} (l : List Uniq) : OldL n (l.map encUniq) := fun e he c hc => by
  obtain ⟨a, _, rfl⟩ := List.mem_map.1 he
  simp only [encUniq, List.mem_cons, List.not_mem_nil, or_false] at hc
  subst hc
  exact old_fz1 (oldInts _)
theorem oldChks {n : Nat} (l : List Chk) : OldL n (l.map encChk) := fun e he c hc => by
  obtain ⟨a, _, rfl⟩ := List.mem_map.1 he
  simp only [encChk, List.mem_cons, List.not_mem_nil, or_false] at hc
  subst hc
  exact old_fz1 (oldL_flat flatTs)
theorem oldFks {n : Nat} (l : List Fk) : OldL n (l.map encFk) := fun e he c hc => by
  obtain ⟨a, _, rfl⟩ := List.mem_map.1 he
  simp only [encFk, List.mem_cons, List.not_mem_nil, or_false] at hc
  rcases hc with rfl | rfl | rfl | rfl | rfl
  · exact old_fz1 (oldInts _)
  all_goals constructor
theorem idxA_at {α : Type} {p : α → Bool} : ∀ {l : List α} {i : Int}, 0 ≤ i → idxA p l i = -1 ∨ ∃ n : Nat, ∃ h : n < l.length, idxA p l i = i + n ∧ p l[n] = true
  | [], i, h => .inl rfl
  | a :: r, i, h => by
    simp only [idxA]
    split
    · exact .inr ⟨0, by simp, by simp, by assumption⟩
    · rcases idxA_at (p := p) (l := r) (i := i + 1) (by omega) with h1 | ⟨n, hn, h1, h2⟩
      · exact .inl h1
      · exact .inr ⟨n + 1, by simpa using hn, by omega, by simpa using h2⟩
theorem TableAt1_ok (t : Table) (s : List UInt8) : Pure Tryz.prog 219 [.agg (encTable t), .c (.fp [.str s])] (.c (.bool (t.name == s))) := by
  refine Pure.run mixed c_impl_TableAt_1_ok (Nat.le_of_ble_eq_true rfl) fun σ hS hA => ?_
  clear hS hA
  repeat' first|refine yaG ?_|(exfalso;omega)|(refine yaS ?_ ?_<;>intro _)
  all_goals refine .ret rfl (.bool ?_)
  all_goals simp_all
theorem TableAt_ok (l : List Table) (s : List UInt8) (hx : l.length ≤ 34359738368) : Pure Tryz.prog 160 [.c (.fz (l.map encTable)), .c (.str s)] (.c (.int .i64 (idxA (fun t => t.name == s) l 0))) := by
  refine Pure.run mixed c_impl_TableAt_ok (Nat.le_of_ble_eq_true rfl) fun σ hS hA => ?_
  clear hS hA
  repeat' first|refine yaG ?_|((first|apply yQ|apply yR|apply yS);(iterate 3 exact rfl);exact indexFuncA_ok mixed c_slices_IndexFunc_Table_ok encTable (fun t => .agg (encTable t)) (fun _ => rfl) (fun _ => rfl) l (fun t => t.name == s) _ [] [.fp [.str s]] hx (fun j hj _ => TableAt1_ok _ _))|(exfalso;omega)|(refine yaS ?_ ?_<;>intro _)
  exact .ret rfl (.int rfl)
def kindAt (t : Table) (c : Int) : Int := match t.cols[c.toNat]? with | some x => x.kind | none => 0
def kindsEq (u t : Table) : List Int → List Int → Bool
  | a :: r, c :: q => kindAt u a == kindAt t c && kindsEq u t r q
  | _, _ => true
def metAt (u t : Table) (f : Fk) : Bool := decide (u.key.length = f.cols.length) && kindsEq u t u.key f.cols
def metF (s : List Table) (t : Table) (f : Fk) : Bool := s.any (fun u => u.name == f.table) && (match s[(idxA (fun u => u.name == f.table) s 0).toNat]? with | some u => metAt u t f | none => false)
theorem kindAt_at {t : Table} {c : Int} {n : Nat} (h : c = n) (hn : n < t.cols.length) : kindAt t c = t.cols[n].kind := by
  simp [kindAt, h, hn]
theorem metF_no {s : List Table} {t : Table} {f : Fk} (h : idxA (fun u => u.name == f.table) s 0 = -1) : metF s t f = false := by
  have := any_idx (p := fun u : Table => u.name == f.table) (l := s)
  rw [h] at this
  rw [metF, ← this]
  rfl
theorem metF_yes {s : List Table} {t : Table} {f : Fk} {n : Nat} (h : idxA (fun u => u.name == f.table) s 0 = n) (hn : n < s.length) : metF s t f = metAt s[n] t f := by
  have := any_idx (p := fun u : Table => u.name == f.table) (l := s)
  rw [h] at this
  rw [metF, ← this, h, decide_eq_true (by omega)]
  simp [hn]
theorem isMet_ok (s : List Table) (t : Table) (f : Fk) (hx : s.length ≤ 34359738368) (hs : ∀ u ∈ s, u.key.length ≤ 34359738368 ∧ ∀ c ∈ u.key, 0 ≤ c ∧ c < u.cols.length) (hf0 : f.cols.length ≤ 34359738368) (hf : ∀ c ∈ f.cols, 0 ≤ c ∧ c < t.cols.length) : Pure Tryz.prog 197 [.c (.fz (s.map encTable)), .agg (encTable t), .agg (encFk f)] (.c (.bool (metF s t f))) := by
  refine Pure.run mixed c_impl_isMet_ok (Nat.le_of_ble_eq_true rfl) fun σ hS hA => ?_
  clear hS hA
  repeat' first|refine yaG ?_|fail
  refine .pcall rfl rfl rfl (TableAt_ok s f.table hx) ?_
  rcases idxA_at (p := fun u : Table => u.name == f.table) (l := s) (i := 0) (Int.le_refl _) with hq | ⟨n, hn, hq, hp⟩
  · have hm := metF_no (t := t) hq
    rw [hq]
    repeat' first|refine yaG ?_|(exfalso;omega)|(refine yaS ?_ ?_<;>intro _)
    exact .ret rfl (.bool hm.symm)
  rw [Int.zero_add] at hq
  have hm := metF_yes (t := t) hq hn
  have hsn := hs _ (List.getElem_mem hn)
  rw [hq]
  have hnz : ¬ ((n : Int) < 0) := by omega
  repeat' first|refine yaG ?_|((first|apply yG|apply yH|apply yI);exact rfl;(first|exact yX (enc := encTable) rfl rfl rfl hn rfl))|(exfalso;omega)|(refine yaS ?_ ?_<;>intro _)
  · refine .ret rfl (.bool ?_)
    rename_i h
    rw [hm, metAt, decide_eq_false (by omega)]
    rfl
  rename_i hlen
  refine Go.keep [0, 4, 7, 29, 30, 31] (Go.loops (I := fun m fr τ => ∃ i : Nat, ∃ k : Int, m = f.cols.length - i ∧ i ≤ f.cols.length ∧ k = i ∧ kindsEq s[n] t s[n].key f.cols = kindsEq s[n] t (s[n].key.drop i) (f.cols.drop i) ∧
    fr = [(0, .c (.fz (s.map encTable))), (4, .c (.fp (encTable t))), (7, .c (.int .i64 (n : Int))), (29, .c (.fz (f.cols.map encI))), (30, .c (.int .i64 (f.cols.length : Int))), (31, .c (.int .i64 k))] ∧ τ = E σ []) ?_ _ _ _ ⟨0, _, rfl, Nat.zero_le _, rfl, rfl, rfl, rfl⟩)
  rintro m fr τ ⟨i, k, rfl, hi, hk, hsl, rfl, rfl⟩ hrec
  by_cases hlt : i < f.cols.length
  · have hlt2 : i < s[n].key.length := by omega
    have h1 := hsn.2 _ (List.getElem_mem hlt2)
    have h2 := hf _ (List.getElem_mem hlt)
    obtain ⟨a, ha⟩ : ∃ a : Nat, s[n].key[i] = a := ⟨s[n].key[i].toNat, by omega⟩
    obtain ⟨c, hc⟩ : ∃ c : Nat, f.cols[i] = c := ⟨f.cols[i].toNat, by omega⟩
    have ha2 : a < s[n].cols.length := by omega
    have hc2 : c < t.cols.length := by omega
    have e1 := kindAt_at ha ha2
    have e2 := kindAt_at hc hc2
    have hstep : kindsEq s[n] t s[n].key f.cols = (s[n].cols[a].kind == t.cols[c].kind && kindsEq s[n] t (s[n].key.drop (i + 1)) (f.cols.drop (i + 1))) := by
      rw [hsl, List.drop_eq_getElem_cons hlt, List.drop_eq_getElem_cons hlt2, kindsEq, e1, e2]
    repeat' first|refine yaG ?_|((first|apply yG|apply yH|apply yI);exact rfl;(first|exact yX (enc := encI) rfl rfl hk hlt rfl|exact yX (enc := encTable) rfl rfl rfl hn rfl|exact yX (enc := encI) rfl rfl hk hlt2 rfl|exact yX (enc := encCol) rfl rfl ha ha2 rfl|exact yX (enc := encCol) rfl rfl hc hc2 rfl))|(exfalso;omega)|(refine yaS ?_ ?_<;>intro _)
    · refine .ret rfl (.bool ?_)
      rename_i h
      rw [hm, metAt, hstep, beq_eq_false_iff_ne.2 h]
      simp
    · rename_i h
      refine Go.keep [0, 4, 7, 29, 30, 31] (hrec _ _ _ (by omega) ⟨i + 1, _, rfl, hlt, wrap_succ hk (by omega), ?_, rfl, rfl⟩)
      rw [hstep, h]
      simp
  · repeat' first|refine yaG ?_|(exfalso;omega)|(refine yaS ?_ ?_<;>intro _)
    refine .ret rfl (.bool ?_)
    rw [hm, metAt, hsl, List.drop_eq_nil_of_le (by omega), decide_eq_true (by omega)]
    cases s[n].key.drop i <;> rfl
def namesAux : List Table → List Table → Bool
  | _, [] => true
  | pre, t :: r => tableF t && !(pre.any fun u => u.name == t.name) && namesAux (pre ++ [t]) r
def schemaF (s : List Table) : Bool := decide ((s.length : Int) ≤ 5) && (namesAux [] s && !(s.any fun t => t.fks.any fun f => !metF s t f))
theorem namesAux_ok : ∀ {l pre : List Table}, namesAux pre l = true → ∀ t ∈ l, tableF t = true
  | [], _, _, t, h => by simp at h
  | a :: r, pre, h, t, ht => by
    simp only [namesAux, Bool.and_eq_true] at h
    rcases List.mem_cons.1 ht with rfl | ht
    · exact h.1.1
    · exact namesAux_ok h.2 t ht
theorem tableF_key {t : Table} (h : tableF t = true) : ∀ c ∈ t.key, 0 ≤ c ∧ c < t.cols.length := colsF_in (tableF_iff.1 h).2.2.1
theorem tableF_fk {t : Table} (h : tableF t = true) {f : Fk} (hf : f ∈ t.fks) : ∀ c ∈ f.cols, 0 ≤ c ∧ c < t.cols.length := by
  have h1 := (tableF_iff.1 h).2.2.2.2.2.2.2.2.2.2
  rw [List.any_eq_false] at h1
  have := h1 f hf
  simp only [Bool.not_eq_true', Bool.not_eq_false, isFkF, Bool.and_eq_true] at this
  exact colsF_in this.1
theorem SchemaOk11_ok (s : List Table) (t : Table) (f : Fk) (hx : s.length ≤ 34359738368) (hs : ∀ u ∈ s, u.key.length ≤ 34359738368 ∧ ∀ c ∈ u.key, 0 ≤ c ∧ c < u.cols.length) (hf0 : f.cols.length ≤ 34359738368) (hf : ∀ c ∈ f.cols, 0 ≤ c ∧ c < t.cols.length) : Pure Tryz.prog 196 [.agg (encFk f), .c (.fp [.fz (s.map encTable)]), .c (.fp (encTable t))] (.c (.bool (!metF s t f))) := by
  refine Pure.run mixed c_impl_SchemaOk_1_1_ok (Nat.le_of_ble_eq_true rfl) fun σ hS hA => ?_
  clear hS hA
  repeat' first|refine yaG ?_|refine yaC (isMet_ok s t f hx hs hf0 hf) ?_|(exfalso;omega)|(refine yaS ?_ ?_<;>intro _)
  exact .ret rfl (.bool rfl)
theorem SchemaOk1_ok (s : List Table) (t : Table) (hx : s.length ≤ 34359738368) (hs : ∀ u ∈ s, u.key.length ≤ 34359738368 ∧ ∀ c ∈ u.key, 0 ≤ c ∧ c < u.cols.length) (hb : bTable 34359738368 t) (hf : ∀ f ∈ t.fks, ∀ c ∈ f.cols, 0 ≤ c ∧ c < t.cols.length) : Pure Tryz.prog 194 [.agg (encTable t), .c (.fp [.fz (s.map encTable)])] (.c (.bool (t.fks.any fun f => !metF s t f))) := by
  refine Pure.run mixed c_impl_SchemaOk_1_ok (Nat.le_of_ble_eq_true rfl) fun σ hS hA => ?_
  clear hS hA
  have b6 := hb.2.2.2.2.2
  repeat' first|refine yaG ?_|((first|apply yQ|apply yR|apply yS);(iterate 3 exact rfl);exact containsFuncA_ok mixed c_slices_ContainsFunc_Fk_ok c_slices_IndexFunc_Fk_ok encFk (fun u => .agg (encFk u)) (fun _ => rfl) (fun _ => rfl) t.fks (fun f => !metF s t f) _ [] [.fp [.fz (s.map encTable)], .fp (encTable t)] b6.1 (fun j hj _ => SchemaOk11_ok s t _ hx hs (b6.2 _ (List.getElem_mem hj)).1 (hf _ (List.getElem_mem hj))))|(exfalso;omega)|(refine yaS ?_ ?_<;>intro _)
  exact .ret rfl (.bool rfl)
theorem encTable_len {l : List Table} : ∀ e ∈ l.map encTable, e.length = 6 := fun e he => by
  obtain ⟨t, _, rfl⟩ := List.mem_map.1 he
  rfl
theorem SchemaOk_ok (s : List Table) (hx : s.length ≤ 34359738368) (hb : ∀ t ∈ s, bTable 34359738368 t) : Pure Tryz.prog 119 [.c (.fz (s.map encTable))] (.c (.bool (schemaF s))) := by
  refine Pure.run mixed c_impl_SchemaOk_ok (Nat.le_of_ble_eq_true rfl) fun σ hS hA => ?_
  clear hS hA
  repeat' first|refine yaG ?_|(exfalso;omega)|(refine yaS ?_ ?_<;>intro _)
  · refine .ret rfl (.bool ?_)
    rw [schemaF, decide_eq_false (by omega)]
    rfl
  rename_i h5
  refine Go.keep [1, 8, 9, 10] (Go.loops (I := fun m fr τ => ∃ i : Nat, ∃ k : Int, m = s.length - i ∧ i ≤ s.length ∧ k = i ∧ namesAux [] s = namesAux (s.take i) (s.drop i) ∧
    fr = [(1, .c (.fp [.fz (s.map encTable)])), (8, .c (.fz (s.map encTable))), (9, .c (.int .i64 (s.length : Int))), (10, .c (.int .i64 k))] ∧ τ = E σ []) ?_ _ _ _ ⟨0, _, rfl, Nat.zero_le _, rfl, rfl, rfl, rfl⟩)
  rintro m fr τ ⟨i, k, rfl, hi, hk, hsl, rfl, rfl⟩ hrec
  by_cases hlt : i < s.length
  · have hd := List.drop_eq_getElem_cons hlt
    have htk : (s.map encTable).take i = (s.take i).map encTable := List.map_take.symm
    have hstep : namesAux [] s = (tableF s[i] && !((s.take i).any fun d => d.name == s[i].name) && namesAux (s.take (i + 1)) (s.drop (i + 1))) := by
      rw [hsl, hd, namesAux, List.take_succ_eq_append_getElem hlt]
    have neg : (tableF s[i] = false ∨ ((s.take i).any fun d => d.name == s[i].name) = true) → schemaF s = false := by
      rintro (h | h)
      · rw [schemaF, hstep, h]; simp
      · rw [schemaF, hstep, h]; simp
    have hany := any_idx (p := fun d : Table => d.name == s[i].name) (l := s.take i)
    repeat' first|refine yaG ?_|((first|apply yG|apply yH|apply yI);exact rfl;(first|exact yX (enc := encTable) rfl rfl hk hlt rfl|exact aop_sliceF (n := i) rfl rfl hk (by simp;omega) encTable_len))|((first|apply Go.pcallB|apply Go.spcallB|apply Qg.pcallB);(iterate 3 exact rfl);exact TableOk_ok s[i] (hb _ (List.getElem_mem hlt));intro _ _)|(exfalso;omega)|(refine yaS ?_ ?_<;>intro _)
    · rename_i c p q
      exact .ret rfl (.bool (neg (.inl (nbT p q))).symm)
    rename_i c p q
    rw [htk]
    repeat' first|refine yaG ?_|((first|apply Go.pcallI|apply Go.spcallI|apply Qg.pcallI);(iterate 3 exact rfl);exact TableAt_ok (s.take i) s[i].name (by simp;omega);intro _ _)|(exfalso;omega)|(refine yaS ?_ ?_<;>intro _)
    · rename_i z hz hz2
      refine .ret rfl (.bool (neg (.inr ?_)).symm)
      rw [← hany, hz]
      simpa using hz2
    · rename_i z hz hz2
      refine Go.keep [1, 8, 9, 10] (hrec _ _ _ (by omega) ⟨i + 1, _, rfl, hlt, wrap_succ hk (by omega), ?_, rfl, rfl⟩)
      rw [hstep, nbF p q, ← hany, hz, decide_eq_false (by omega)]
      rfl
  have hfin : namesAux [] s = true := by
    rw [hsl, List.drop_eq_nil_of_le (by omega)]
    rfl
  have hok := namesAux_ok hfin
  clear hrec hsl
  repeat' first|refine yaG ?_|((first|apply yQ|apply yR|apply yS);(iterate 3 exact rfl);exact containsFuncA_ok mixed c_slices_ContainsFunc_Table_ok c_slices_IndexFunc_Table_ok encTable (fun u => .agg (encTable u)) (fun _ => rfl) (fun _ => rfl) s (fun t => t.fks.any fun f => !metF s t f) _ [] [.fp [.fz (s.map encTable)]] hx (fun j hj _ => SchemaOk1_ok s _ hx (fun u hu => ⟨(hb u hu).2.2.1, tableF_key (hok u hu)⟩) (hb _ (List.getElem_mem hj)) (fun f hf => tableF_fk (hok _ (List.getElem_mem hj)) hf)))|(exfalso;omega)|(refine yaS ?_ ?_<;>intro _)
  refine .ret rfl (.bool ?_)
  rw [schemaF, hfin, decide_eq_true (by omega)]
  rfl
theorem schemaF_not {s : List Table} (h : schemaF s = true → False) : schemaF s = false := by
  cases c : schemaF s
  · rfl
  · exact (h c).elim
theorem schemaF_iff {s : List Table} : schemaF s = true ↔ (s.length : Int) ≤ 5 ∧ namesAux [] s = true ∧ (s.any fun t => t.fks.any fun f => !metF s t f) = false := by
  simp only [schemaF, Bool.and_eq_true, decide_eq_true_eq, Bool.not_eq_true']
theorem sSchemaOk_ok (s : List Table) (hx : s.length ≤ 34359738368) (hb : ∀ t ∈ s, bTable 34359738368 t) : Pure Tryz.prog 153 [.c (.fz (s.map encTable))] (.c (.bool (schemaF s))) := by
  refine Pure.run mixed c_spec_SchemaOk_ok (Nat.le_of_ble_eq_true rfl) fun σ hS hA => ?_
  clear hS hA
  repeat' first|refine yaG ?_|(exfalso;omega)|(refine yaS ?_ ?_<;>intro _)
  refine Go.keep [0, 3] (Go.loops (I := fun m fr τ => ∃ i : Nat, ∃ k : Int, m = s.length - i ∧ i ≤ s.length ∧ k = i ∧ namesAux [] s = namesAux (s.take i) (s.drop i) ∧
    fr = [(0, .c (.fz (s.map encTable))), (3, .c (.int .i64 k))] ∧ τ = E σ []) ?_ _ _ _ ⟨0, _, rfl, Nat.zero_le _, rfl, rfl, rfl, rfl⟩)
  rintro m fr τ ⟨i, k, rfl, hi, hk, hsl, rfl, rfl⟩ hrec
  by_cases hlt : i < s.length
  · have hd := List.drop_eq_getElem_cons hlt
    have htk : (s.map encTable).take i = (s.take i).map encTable := List.map_take.symm
    have hstep : namesAux [] s = (tableF s[i] && !((s.take i).any fun d => d.name == s[i].name) && namesAux (s.take (i + 1)) (s.drop (i + 1))) := by
      rw [hsl, hd, namesAux, List.take_succ_eq_append_getElem hlt]
    have neg : (tableF s[i] = false ∨ ((s.take i).any fun d => d.name == s[i].name) = true) → schemaF s = false := by
      rintro (h | h)
      · rw [schemaF, hstep, h]; simp
      · rw [schemaF, hstep, h]; simp
    have hany := any_idx (p := fun d : Table => d.name == s[i].name) (l := s.take i)
    repeat' first|refine yaG ?_|((first|apply yG|apply yH|apply yI);exact rfl;(first|exact yX (enc := encTable) rfl rfl hk hlt rfl|exact aop_sliceF (n := i) rfl rfl hk (by simp;omega) encTable_len))|((first|apply Go.pcallB|apply Go.spcallB|apply Qg.pcallB);(iterate 3 exact rfl);exact sTableOk_ok s[i] (hb _ (List.getElem_mem hlt));intro _ _)|(exfalso;omega)|(refine yaS ?_ ?_<;>intro _)
    · rename_i c p q
      exact .ret rfl (.bool (neg (.inl (nbT p q))).symm)
    rename_i c p q
    rw [htk]
    repeat' first|refine yaG ?_|((first|apply Go.pcallI|apply Go.spcallI|apply Qg.pcallI);(iterate 3 exact rfl);exact l3At_ok (s.take i) s[i].name (by simp;omega);intro _ _)|(exfalso;omega)|(refine yaS ?_ ?_<;>intro _)
    · rename_i z hz hz2
      refine .ret rfl (.bool (neg (.inr ?_)).symm)
      rw [← hany, hz]
      simpa using hz2
    · rename_i z hz hz2
      refine Go.keep [0, 3] (hrec _ _ _ (by omega) ⟨i + 1, _, rfl, hlt, wrap_succ hk (by omega), ?_, rfl, rfl⟩)
      rw [hstep, nbF p q, ← hany, hz, decide_eq_false (by omega)]
      rfl
  have hfin : namesAux [] s = true := by
    rw [hsl, List.drop_eq_nil_of_le (by omega)]
    rfl
  have hok := namesAux_ok hfin
  clear hrec hsl
  repeat' first|refine yaG ?_|(exfalso;omega)|(refine yaS ?_ ?_<;>intro _)
  clear hlt hk hi
  -- the references
  refine Go.keep [0, 4] (Go.loops (I := fun m fr τ => ∃ i : Nat, ∃ k : Int, m = s.length - i ∧ i ≤ s.length ∧ k = i ∧ (∀ j (hj : j < s.length), j < i → (!(s[j].fks.any fun f => !metF s s[j] f)) = true) ∧
    fr = [(0, .c (.fz (s.map encTable))), (4, .c (.int .i64 k))] ∧ τ = E σ []) ?_ _ _ _ ⟨0, _, rfl, Nat.zero_le _, rfl, fun j _ h => absurd h (by omega), rfl, rfl⟩)
  rintro m fr τ ⟨i, k, rfl, hi, hk, hall, rfl, rfl⟩ hrec
  by_cases hlt : i < s.length
  · have hmem := List.getElem_mem hlt
    have hti := hok _ hmem
    have b6 := (hb _ hmem).2.2.2.2.2
    repeat' first|refine yaG ?_|(exfalso;omega)|(refine yaS ?_ ?_<;>intro _)
    refine Go.keep [0, 4, 5] (Go.loops (I := fun m fr τ => ∃ i2 : Nat, ∃ k2 : Int, m = s[i].fks.length - i2 ∧ i2 ≤ s[i].fks.length ∧ k2 = i2 ∧ (∀ j (hj : j < s[i].fks.length), j < i2 → metF s s[i] s[i].fks[j] = true) ∧
      fr = [(0, .c (.fz (s.map encTable))), (4, .c (.int .i64 k)), (5, .c (.int .i64 k2))] ∧ τ = E σ []) ?_ _ _ _ ⟨0, _, rfl, Nat.zero_le _, rfl, fun j _ h => absurd h (by omega), rfl, rfl⟩)
    rintro m fr τ ⟨i2, k2, rfl, hi2, hk2, hall2, rfl, rfl⟩ hrec2
    by_cases hlt2 : i2 < s[i].fks.length
    · have hfm := List.getElem_mem hlt2
      have hf := tableF_fk hti hfm
      have hf0 := (b6.2 _ hfm).1
      have neg : metF s s[i] s[i].fks[i2] = false → schemaF s = false := fun h => schemaF_not fun hh => by
        have h2 := (schemaF_iff.1 hh).2.2
        rw [List.any_eq_false] at h2
        exact h2 _ hmem (List.any_eq_true.2 ⟨_, hfm, by rw [h]; rfl⟩)
      repeat' first|refine yaG ?_|((first|apply yG|apply yH|apply yI);exact rfl;(first|exact yX (enc := encTable) rfl rfl hk hlt rfl|exact yX (enc := encFk) rfl rfl hk2 hlt2 rfl))|(exfalso;omega)|(refine yaS ?_ ?_<;>intro _)
      refine .pcall rfl rfl rfl (l3At_ok s s[i].fks[i2].table hx) ?_
      rcases idxA_at (p := fun u : Table => u.name == s[i].fks[i2].table) (l := s) (i := 0) (Int.le_refl _) with hq | ⟨n, hn, hq, hp⟩
      · have hm := metF_no (t := s[i]) hq
        rw [hq]
        repeat' first|refine yaG ?_|(exfalso;omega)|(refine yaS ?_ ?_<;>intro _)
        exact .ret rfl (.bool (neg hm).symm)
      rw [Int.zero_add] at hq
      have hm := metF_yes (t := s[i]) hq hn
      have hsk := tableF_key (hok _ (List.getElem_mem hn))
      rw [hq]
      have hnz : ¬ ((n : Int) < 0) := by omega
      repeat' first|refine yaG ?_|((first|apply yG|apply yH|apply yI);exact rfl;(first|exact yX (enc := encTable) rfl rfl rfl hn rfl))|(exfalso;omega)|(refine yaS ?_ ?_<;>intro _)
      · rename_i h
        refine .ret rfl (.bool (neg ?_).symm)
        rw [hm, metAt, decide_eq_false (by omega)]
        rfl
      rename_i hlen
      refine Go.keep [0, 4, 5, 6, 7, 8] (Go.loops (I := fun m fr τ => ∃ i3 : Nat, ∃ k3 : Int, m = s[i].fks[i2].cols.length - i3 ∧ i3 ≤ s[i].fks[i2].cols.length ∧ k3 = i3 ∧ kindsEq s[n] s[i] s[n].key s[i].fks[i2].cols = kindsEq s[n] s[i] (s[n].key.drop i3) (s[i].fks[i2].cols.drop i3) ∧
        fr = [(0, .c (.fz (s.map encTable))), (4, .c (.int .i64 k)), (5, .c (.int .i64 k2)), (6, .c (.fp (encFk s[i].fks[i2]))), (7, .c (.int .i64 (n : Int))), (8, .c (.int .i64 k3))] ∧ τ = E σ []) ?_ _ _ _ ⟨0, _, rfl, Nat.zero_le _, rfl, rfl, rfl, rfl⟩)
      rintro m fr τ ⟨i3, k3, rfl, hi3, hk3, hsl, rfl, rfl⟩ hrec3
      by_cases hlt3 : i3 < s[i].fks[i2].cols.length
      · have hlt4 : i3 < s[n].key.length := by omega
        have h1 := hsk _ (List.getElem_mem hlt4)
        have h2 := hf _ (List.getElem_mem hlt3)
        obtain ⟨a, ha⟩ : ∃ a : Nat, s[n].key[i3] = a := ⟨s[n].key[i3].toNat, by omega⟩
        obtain ⟨c, hc⟩ : ∃ c : Nat, s[i].fks[i2].cols[i3] = c := ⟨s[i].fks[i2].cols[i3].toNat, by omega⟩
        have ha2 : a < s[n].cols.length := by omega
        have hc2 : c < s[i].cols.length := by omega
        have e1 := kindAt_at ha ha2
        have e2 := kindAt_at hc hc2
        have hstep : kindsEq s[n] s[i] s[n].key s[i].fks[i2].cols = (s[n].cols[a].kind == s[i].cols[c].kind && kindsEq s[n] s[i] (s[n].key.drop (i3 + 1)) (s[i].fks[i2].cols.drop (i3 + 1))) := by
          rw [hsl, List.drop_eq_getElem_cons hlt3, List.drop_eq_getElem_cons hlt4, kindsEq, e1, e2]
        repeat' first|refine yaG ?_|((first|apply yG|apply yH|apply yI);exact rfl;(first|exact yX (enc := encTable) rfl rfl hk hlt rfl|exact yX (enc := encI) rfl rfl hk3 hlt3 rfl|exact yX (enc := encTable) rfl rfl rfl hn rfl|exact yX (enc := encI) rfl rfl hk3 hlt4 rfl|exact yX (enc := encCol) rfl rfl ha ha2 rfl|exact yX (enc := encCol) rfl rfl hc hc2 rfl))|(exfalso;omega)|(refine yaS ?_ ?_<;>intro _)
        · rename_i h
          refine .ret rfl (.bool (neg ?_).symm)
          rw [hm, metAt, hstep, beq_eq_false_iff_ne.2 fun e => h e.symm]
          simp
        · rename_i h
          refine Go.keep [0, 4, 5, 6, 7, 8] (hrec3 _ _ _ (by omega) ⟨i3 + 1, _, rfl, hlt3, wrap_succ hk3 (by omega), ?_, rfl, rfl⟩)
          rw [hstep, h]
          simp
      · have hmt : metF s s[i] s[i].fks[i2] = true := by
          rw [hm, metAt, hsl, List.drop_eq_nil_of_le (by omega), decide_eq_true (by omega)]
          cases s[n].key.drop i3 <;> rfl
        clear hrec3
        repeat' first|refine yaG ?_|(exfalso;omega)|(refine yaS ?_ ?_<;>intro _)
        exact Go.keep [0, 4, 5] (hrec2 _ _ _ (by omega) ⟨i2 + 1, _, rfl, hlt2, wrap_succ hk2 (by omega), upto (p := fun f => metF s s[i] f) hall2 hlt2 hmt, rfl, rfl⟩)
    · have hany := any_none (p := fun f => metF s s[i] f) (l := s[i].fks) fun j hj => hall2 j hj (by omega)
      clear hrec2
      repeat' first|refine yaG ?_|((first|apply yG|apply yH|apply yI);exact rfl;(first|exact yX (enc := encTable) rfl rfl hk hlt rfl))|(exfalso;omega)|(refine yaS ?_ ?_<;>intro _)
      exact Go.keep [0, 4] (hrec _ _ _ (by omega) ⟨i + 1, _, rfl, hlt, wrap_succ hk (by omega), upto (p := fun t : Table => !(t.fks.any fun f => !metF s t f)) hall hlt (by rw [hany]; rfl), rfl, rfl⟩)
  · have hany := any_none (p := fun t : Table => !(t.fks.any fun f => !metF s t f)) (l := s) fun j hj => hall j hj (by omega)
    clear hrec
    repeat' first|refine yaG ?_|(exfalso;omega)|(refine yaS ?_ ?_<;>intro _)
    refine .ret rfl (.bool ?_)
    simp only [Bool.not_not] at hany
    rw [schemaF, hfin, hany]
    simp
def fitAux (t : Table) : Nat → List Val → Bool
  | _, [] => true
  | i, v :: r => isOfF v (kindAt t i) && fitAux t (i + 1) r
def fitF (t : Table) (vals : List Val) : Bool := decide ((vals.length : Int) = t.cols.length) && fitAux t 0 vals
theorem fit_ok (t : Table) (vals : List Val) (hx : vals.length ≤ 34359738368) : Pure Tryz.prog 67 [.agg (encTable t), .c (.fz (vals.map encV))] (.c (.bool (fitF t vals))) := by
  refine Pure.run mixed c_impl_fit_ok (Nat.le_of_ble_eq_true rfl) fun σ hS hA => ?_
  clear hS hA
  repeat' first|refine yaG ?_|(exfalso;omega)|(refine yaS ?_ ?_<;>intro _)
  · rename_i h
    refine .ret rfl (.bool ?_)
    rw [fitF, decide_eq_false h]
    rfl
  rename_i hlen
  have hlen : (vals.length : Int) = t.cols.length := by omega
  refine Go.keep [2, 13, 14, 15] (Go.loops (I := fun m fr τ => ∃ i : Nat, ∃ k : Int, m = vals.length - i ∧ i ≤ vals.length ∧ k = i ∧ fitAux t 0 vals = fitAux t i (vals.drop i) ∧
    fr = [(2, .c (.fp (encTable t))), (13, .c (.fz (vals.map encV))), (14, .c (.int .i64 (vals.length : Int))), (15, .c (.int .i64 k))] ∧ τ = E σ []) ?_ _ _ _ ⟨0, _, rfl, Nat.zero_le _, rfl, rfl, rfl, rfl⟩)
  rintro m fr τ ⟨i, k, rfl, hi, hk, hsl, rfl, rfl⟩ hrec
  by_cases hlt : i < vals.length
  · have hd := List.drop_eq_getElem_cons hlt
    have hlc : i < t.cols.length := by omega
    have hka : kindAt t i = t.cols[i].kind := kindAt_at rfl hlc
    rw [hd, fitAux, hka] at hsl
    repeat' first|refine yaG ?_|((first|apply yG|apply yH|apply yI);exact rfl;(first|exact yX (enc := encV) rfl rfl hk hlt rfl|exact yX (enc := encCol) rfl rfl hk hlc rfl))|((first|apply Go.pcallB|apply Go.spcallB|apply Qg.pcallB);(iterate 3 exact rfl);exact isOf_ok vals[i] t.cols[i].kind;intro _ _)|(exfalso;omega)|(refine yaS ?_ ?_<;>intro _)
    · rename_i b p k4
      refine .ret rfl (.bool ?_)
      rw [fitF, hsl, nbT p k4]
      simp
    · rename_i b p k4
      refine Go.keep [2, 13, 14, 15] (hrec _ _ _ (by omega) ⟨i + 1, _, rfl, hlt, wrap_succ hk (by omega), ?_, rfl, rfl⟩)
      rw [hsl, nbF p k4]
      rfl
  · repeat' first|refine yaG ?_|(exfalso;omega)|(refine yaS ?_ ?_<;>intro _)
    refine .ret rfl (.bool ?_)
    rw [fitF, hsl, List.drop_eq_nil_of_le (by omega), decide_eq_true hlen]
    rfl
theorem l4Kinds_ok (t : Table) (vals : List Val) (hx : vals.length ≤ 34359738368) : Pure Tryz.prog 63 [.agg (encTable t), .c (.fz (vals.map encV))] (.c (.bool (fitF t vals))) := by
  refine Pure.run mixed c_spec_l4Kinds_ok (Nat.le_of_ble_eq_true rfl) fun σ hS hA => ?_
  clear hS hA
  repeat' first|refine yaG ?_|(exfalso;omega)|(refine yaS ?_ ?_<;>intro _)
  · rename_i h
    refine .ret rfl (.bool ?_)
    rw [fitF, decide_eq_false h]
    rfl
  rename_i hlen
  have hlen : (vals.length : Int) = t.cols.length := by omega
  refine Go.keep [1, 2, 5] (Go.loops (I := fun m fr τ => ∃ i : Nat, ∃ k : Int, m = vals.length - i ∧ i ≤ vals.length ∧ k = i ∧ fitAux t 0 vals = fitAux t i (vals.drop i) ∧
    fr = [(1, .c (.fz (vals.map encV))), (2, .c (.fp (encTable t))), (5, .c (.int .i64 k))] ∧ τ = E σ []) ?_ _ _ _ ⟨0, _, rfl, Nat.zero_le _, rfl, rfl, rfl, rfl⟩)
  rintro m fr τ ⟨i, k, rfl, hi, hk, hsl, rfl, rfl⟩ hrec
  by_cases hlt : i < vals.length
  · have hd := List.drop_eq_getElem_cons hlt
    have hlc : i < t.cols.length := by omega
    have hka : kindAt t i = t.cols[i].kind := kindAt_at rfl hlc
    rw [hd, fitAux, hka] at hsl
    repeat' first|refine yaG ?_|((first|apply yG|apply yH|apply yI);exact rfl;(first|exact yX (enc := encV) rfl rfl hk hlt rfl|exact yX (enc := encCol) rfl rfl hk hlc rfl))|((first|apply Go.pcallB|apply Go.spcallB|apply Qg.pcallB);(iterate 3 exact rfl);exact sValOk_ok vals[i];intro _ _)|(exfalso;omega)|(refine yaS ?_ ?_<;>intro _)
    all_goals first
      | (refine .ret rfl (.bool ?_); rw [fitF, hsl, isOfF]; clear hrec hsl; simp_all; done)
      | (refine Go.keep [1, 2, 5] (hrec _ _ _ (by omega) ⟨i + 1, _, rfl, hlt, wrap_succ hk (by omega), ?_, rfl, rfl⟩); rw [hsl, isOfF]; clear hrec hsl; simp_all; done)
  · repeat' first|refine yaG ?_|(exfalso;omega)|(refine yaS ?_ ?_<;>intro _)
    refine .ret rfl (.bool ?_)
    rw [fitF, hsl, List.drop_eq_nil_of_le (by omega), decide_eq_true hlen]
    rfl
structure Data where
  rows : List RowD
  deriving DecidableEq
def encData (a : Data) : List Ce := [.fz (a.rows.map encRowD)]
def bData (N : Nat) (a : Data) : Prop := (a.rows.length ≤ N ∧ ∀ x ∈ a.rows, bRowD N x)
def zData (a : Data) : Int → Int := chain [(szL zRowD a.rows)]
theorem zData_steps (a : Data) : Steps [(szL zRowD a.rows)] := (.cons (fun l h => szL_le zRowD_le _ l h) .nil)
theorem zData_le (a : Data) (l : Int) (h : 0 ≤ l) : zData a l ≤ l := chain_le (zData_steps a) l h
theorem bData_of (a : Data) (l : Int) (N : Nat) (h0 : 0 ≤ l) (h : 0 ≤ zData a l) (hl : l ≤ N) : bData N a := by
  have hh := chain_all (zData_steps a) l h0 h
  obtain ⟨q0, u0, v0, w0⟩ := hh (szL zRowD a.rows) (by simp)
  exact (list_of zRowD_le bRowD_of u0 w0 (by omega))
theorem szData_ok (a : Data) (left : Int) (hb : bData 1125899906842624 a) (h0 : 0 ≤ left) (h1 : left ≤ 34359738368) : Pure Tryz.prog 40 [.agg (encData a), .c (.int .i64 left)] (.c (.int .i64 (zData a left))) := by
  refine Pure.run mixed c_laws_szData_ok (Nat.le_of_ble_eq_true rfl) fun σ hS hA => ?_
  clear hS hA
  repeat' first|refine yaG ?_|fail
  refine .pcall rfl rfl rfl (szRowDS_ok a.rows left hb.1 hb.2 (by omega) (by omega)) ?_
  have y1 := szL_le zRowD_le a.rows left (by omega)
  generalize e1 : szL zRowD a.rows left = l1 at y1 ⊢
  repeat' first|refine yaG ?_|(exfalso;omega)|(refine yaS ?_ ?_<;>intro _)
  · refine .ret rfl (.int ?_)
    rename_i h
    simp only [zData, chain, e1, if_pos h]
  rename_i g1
  refine .ret rfl (.int ?_)
  simp only [zData, chain, e1, if_neg g1]
theorem szDataS_ok (xs : List Data) (left : Int) (hx : xs.length ≤ 1125899906842624) (hv : ∀ e ∈ xs, bData 1125899906842624 e) (h0 : 0 ≤ left) (h1 : left ≤ 34359738368) : Pure Tryz.prog 9 [.c (.fz (xs.map encData)), .c (.int .i64 left)] (.c (.int .i64 (szL zData xs left))) :=
  szS_ok mixed c_laws_szDataS_ok encData zData xs left hx h0 h1 (fun _ => rfl) zData_le fun a ha l h2 h3 => szData_ok a l (hv a ha) h2 (by omega)
theorem toData_ok (a : Data) (hb : bData 34359738368 a) (σ : Store) : Ok Tryz.prog 46 [.agg (encData a)] σ (NewL σ (encData a)) := by
  refine Ok.run mixed c_laws_toData_ok (Nat.le_of_ble_eq_true rfl) fun hS hA => ?_
  clear hS hA
  repeat' first|refine yaG ?_|(exfalso;omega)|(refine yaS ?_ ?_<;>intro _)
  refine Go.call _ rfl rfl rfl (toRowDS_ok a.rows hb.1 hb.2 _) ?_
  rintro r σ0 ⟨x0, m0, rfl, rfl, t0, h0⟩
  rw [E_E] at h0 ⊢
  have t0 := tidy_up t0
  have h0 := h0.new2
  repeat' first|refine yaG ?_|(exfalso;omega)|(refine yaS ?_ ?_<;>intro _)
  have hL : HasL (E σ ((0, [[x0]]) :: (0, [[x0]]) :: ([] ++ m0))) (fun a => σ.next + 2 ≤ a ∧ a < σ.next + 2 + ([] ++ m0).length) (encData a) [x0] := by
    refine HasL.mono ?_ (HasL.two (h0 _ _) (HasL.nil (S := fun a => a < 0)) (fun a ha hb => by (try dsimp only at ha hb); (try simp only [List.append_eq, List.length_append, List.length_nil, List.nil_append] at ha hb); omega))
    intro a ha
    (try dsimp only at ha)
    (try simp only [List.append_eq, List.length_append, List.length_nil, List.nil_append] at ha ⊢)
    omega
  have hT := hL.tidy (n := σ.next) fun a ha => by have := ha.1; omega
  have hM : TidyL σ.next ([] ++ m0) := (tidy_pre (fun b hb => by simp at hb) t0)
  have hN : NewL σ (encData a) (.agg [x0]) (E σ ((0, [[x0]]) :: (0, [[x0]]) :: ([] ++ m0))) := by
    refine ⟨_, _, rfl, rfl, .one hT (.one hT hM), hL.mono ?_⟩
    intro a ha
    have h9 := ha.1
    have h8 := ha.2
    (try simp only [E_next, List.length_cons, List.append_eq, List.length_append, List.length_nil, List.nil_append] at h8 ⊢)
    constructor <;> omega
  exact .ret (retv_m rfl rfl rfl (Nat.le_of_ble_eq_true rfl) rfl) hN
theorem toDataS_ok (xs : List Data) (hx : xs.length ≤ 34359738368) (hv : ∀ e ∈ xs, bData 34359738368 e) (σ : Store) : Ok Tryz.prog 12 [.c (.fz (xs.map encData))] σ (New σ (.fz (xs.map encData))) :=
  toS_ok mixed c_laws_toDataS_ok encData xs hx (by decide) rfl (fun _ => rfl) (by intro x hx; simp only [List.mem_cons, List.not_mem_nil, or_false] at hx; rcases hx with rfl <;> constructor) (fun a ha σ => toData_ok a (hv a ha) σ) σ
theorem Data_beq (a b : Data) : (a == b) = (a.rows == b.rows) := by
  obtain ⟨a0⟩ := a
  obtain ⟨b0⟩ := b
  rw [Bool.eq_iff_iff]
  simp [and_assoc]
theorem eqData_ok (a b : Data) (hb : bData 34359738368 a) : Pure Tryz.prog 52 [.agg (encData a), .agg (encData b)] (.c (.bool (a == b))) := by
  refine Pure.run mixed c_laws_eqData_ok (Nat.le_of_ble_eq_true rfl) fun σ hS hA => ?_
  clear hS hA
  have hq := Data_beq a b
  repeat' first|refine yaG ?_|((first|apply Go.pcallB|apply Go.spcallB|apply Qg.pcallB);(iterate 3 exact rfl);exact eqRowDS_ok a.rows b.rows hb.1 hb.2;intro _ _)|(exfalso;omega)|(refine yaS ?_ ?_<;>intro _)
  all_goals refine .ret rfl (.bool ?_)
  all_goals rw [hq]
  all_goals clear hq hb
  all_goals simp_all
theorem eqDataS_ok (xs ys : List Data) (hx : xs.length ≤ 34359738368) (hv : ∀ e ∈ xs, bData 34359738368 e) : Pure Tryz.prog 14 [.c (.fz (xs.map encData)), .c (.fz (ys.map encData))] (.c (.bool (xs == ys))) :=
  eqS_ok mixed c_laws_eqDataS_ok encData xs ys hx (fun _ => rfl) fun a ha b => eqData_ok a b (hv a ha)
def risesId (p : Option Int) (n : Int) : Bool := match p with | none => true | some q => decide (q < n)
def rowOne (t : Table) (p : Option Int) (r : RowD) : Bool := isIn r.id 1 1000000000 && (risesId p r.id && fitF t r.vals)
def rowsAux (t : Table) : Option Int → List RowD → Bool
  | _, [] => true
  | p, r :: l => rowOne t p r && rowsAux t (some r.id) l
def rowsF (t : Table) (l : List RowD) : Bool := rowsAux t none l && decide ((l.length : Int) ≤ 60)
def dbAux : List Table → List Data → Bool
  | t :: s, d :: db => rowsF t d.rows && dbAux s db
  | _, _ => true
def dbF (s : List Table) (db : List Data) : Bool := schemaF s && (decide ((db.length : Int) = s.length) && dbAux s db)
theorem areRows_ok (t : Table) (l : List RowD) (hx : l.length ≤ 34359738368) (hb : ∀ r ∈ l, r.vals.length ≤ 34359738368) : Pure Tryz.prog 120 [.agg (encTable t), .c (.fz (l.map encRowD))] (.c (.bool (rowsF t l))) := by
  refine Pure.run mixed c_impl_areRows_ok (Nat.le_of_ble_eq_true rfl) fun σ hS hA => ?_
  clear hS hA
  repeat' first|refine yaG ?_|(exfalso;omega)|(refine yaS ?_ ?_<;>intro _)
  refine Go.keep [1, 2, 7, 8, 9] (Go.loops (I := fun m fr τ => ∃ (i : Nat) (k : Int) (p : Option Int), m = l.length - i ∧ i ≤ l.length ∧ k = i ∧ (rowsAux t none l = rowsAux t p (l.drop i) ∧ ((i = 0 ∧ p = none) ∨ ∃ j, ∃ hj : j < l.length, i = j + 1 ∧ p = some l[j].id)) ∧
    fr = [(1, .c (.fz (l.map encRowD))), (2, .c (.fp (encTable t))), (7, .c (.fz (l.map encRowD))), (8, .c (.int .i64 (l.length : Int))), (9, .c (.int .i64 k))] ∧ τ = E σ []) ?_ _ _ _ ⟨0, _, none, rfl, Nat.zero_le _, rfl, ⟨rfl, .inl ⟨rfl, rfl⟩⟩, rfl, rfl⟩)
  rintro m fr τ ⟨i, k, p, rfl, hi, hk, ⟨hs, hp⟩, rfl, rfl⟩ hrec
  by_cases hlt : i < l.length
  · have hv := hb _ (List.getElem_mem hlt)
    rw [List.drop_eq_getElem_cons hlt, rowsAux] at hs
    rcases hp with ⟨rfl, rfl⟩ | ⟨j, hj, rfl, rfl⟩
    · repeat' first|refine yaG ?_|((first|apply yG|apply yH|apply yI);exact rfl;(first|exact yX (enc := encRowD) rfl rfl hk hlt rfl))|((first|apply Go.pcallB|apply Go.spcallB|apply Qg.pcallB);(iterate 3 exact rfl);(first|exact in_ok _ _ _|exact fit_ok t l[0].vals hv);intro _ _)|(exfalso;omega)|(refine yaS ?_ ?_<;>intro _)
      all_goals first
        | (refine .ret rfl (.bool ?_); clear hrec; rw [rowsF, hs, rowOne, risesId]; clear hs; simp_all; done)
        | (refine Go.keep [1, 2, 7, 8, 9] (hrec _ _ _ (by omega) ⟨0 + 1, _, some l[0].id, rfl, hlt, wrap_succ hk (by omega), ⟨?_, .inr ⟨0, hlt, rfl, rfl⟩⟩, rfl, rfl⟩); clear hrec; rw [hs, rowOne, risesId]; clear hs; simp_all; done)
    · repeat' first|refine yaG ?_|((first|apply yG|apply yH|apply yI);exact rfl;(first|exact yX (enc := encRowD) rfl rfl hk hlt rfl|exact yX (enc := encRowD) rfl rfl (wrap_pred hk (by omega)) hj rfl))|((first|apply Go.pcallB|apply Go.spcallB|apply Qg.pcallB);(iterate 3 exact rfl);(first|exact in_ok _ _ _|exact fit_ok t l[j + 1].vals hv);intro _ _)|(exfalso;omega)|(refine yaS ?_ ?_<;>intro _)
      all_goals first
        | (refine .ret rfl (.bool ?_); clear hrec; rw [rowsF, hs, rowOne, risesId]; clear hs; (simp_all <;> intros <;> omega); done)
        | (refine Go.keep [1, 2, 7, 8, 9] (hrec _ _ _ (by omega) ⟨j + 1 + 1, _, some l[j + 1].id, rfl, hlt, wrap_succ hk (by omega), ⟨?_, .inr ⟨j + 1, hlt, rfl, rfl⟩⟩, rfl, rfl⟩); clear hrec; rw [hs, rowOne, risesId]; clear hs; (simp_all <;> intros <;> omega); done)
  · repeat' first|refine yaG ?_|(exfalso;omega)|(refine yaS ?_ ?_<;>intro _)
    refine .ret rfl (.bool ?_)
    rw [rowsF, hs, List.drop_eq_nil_of_le (by omega)]
    simp [rowsAux]
theorem DbOk_ok (s : List Table) (db : List Data) (hx : s.length ≤ 34359738368) (hb : ∀ t ∈ s, bTable 34359738368 t) (hd : db.length ≤ 34359738368) (hdb : ∀ d ∈ db, bData 34359738368 d) : Pure Tryz.prog 47 [.c (.fz (s.map encTable)), .c (.fz (db.map encData))] (.c (.bool (dbF s db))) := by
  refine Pure.run mixed c_impl_DbOk_ok (Nat.le_of_ble_eq_true rfl) fun σ hS hA => ?_
  clear hS hA
  have c1 := SchemaOk_ok s hx hb
  cases hs : schemaF s
  · rw [hs] at c1
    repeat' first|refine yaG ?_|refine yaC (c1) ?_|(exfalso;omega)|(refine yaS ?_ ?_<;>intro _)
    refine .ret rfl (.bool ?_)
    rw [dbF, hs]
    rfl
  rw [hs] at c1
  repeat' first|refine yaG ?_|refine yaC (c1) ?_|(exfalso;omega)|(refine yaS ?_ ?_<;>intro _)
  · rename_i h
    refine .ret rfl (.bool ?_)
    rw [dbF, hs, decide_eq_false h]
    rfl
  rename_i hl
  have hl : (db.length : Int) = s.length := by omega
  refine Go.keep [0, 17, 18, 19] (Go.loops (I := fun m fr τ => ∃ (i : Nat) (k : Int), m = db.length - i ∧ i ≤ db.length ∧ k = i ∧ dbAux s db = dbAux (s.drop i) (db.drop i) ∧
    fr = [(0, .c (.fz (s.map encTable))), (17, .c (.fz (db.map encData))), (18, .c (.int .i64 (db.length : Int))), (19, .c (.int .i64 k))] ∧ τ = E σ []) ?_ _ _ _ ⟨0, _, rfl, Nat.zero_le _, rfl, rfl, rfl, rfl⟩)
  rintro m fr τ ⟨i, k, rfl, hi, hk, hsl, rfl, rfl⟩ hrec
  clear c1
  by_cases hlt : i < db.length
  · have hlt2 : i < s.length := by omega
    have hbd := hdb _ (List.getElem_mem hlt)
    rw [List.drop_eq_getElem_cons hlt, List.drop_eq_getElem_cons hlt2, dbAux] at hsl
    repeat' first|refine yaG ?_|((first|apply yG|apply yH|apply yI);exact rfl;(first|exact yX (enc := encData) rfl rfl hk hlt rfl|exact yX (enc := encTable) rfl rfl hk hlt2 rfl))|((first|apply Go.pcallB|apply Go.spcallB|apply Qg.pcallB);(iterate 3 exact rfl);exact areRows_ok s[i] db[i].rows hbd.1 (fun r hr => (hbd.2 r hr).1);intro _ _)|(exfalso;omega)|(refine yaS ?_ ?_<;>intro _)
    · rename_i b p h
      refine .ret rfl (.bool ?_)
      rw [dbF, hsl, nbT p h]
      simp
    · rename_i b p h
      refine Go.keep [0, 17, 18, 19] (hrec _ _ _ (by omega) ⟨i + 1, _, rfl, hlt, wrap_succ hk (by omega), ?_, rfl, rfl⟩)
      rw [hsl, nbF p h, Bool.true_and]
  · repeat' first|refine yaG ?_|(exfalso;omega)|(refine yaS ?_ ?_<;>intro _)
    refine .ret rfl (.bool ?_)
    rw [dbF, hs, hsl, decide_eq_true hl, show db.drop i = [] from List.drop_eq_nil_of_le (by omega)]
    cases List.drop i s <;> rfl
theorem l4Db_ok (s : List Table) (db : List Data) (hx : s.length ≤ 34359738368) (hd : db.length ≤ 34359738368) (hdb : ∀ d ∈ db, bData 34359738368 d) : Pure Tryz.prog 154 [.c (.fz (s.map encTable)), .c (.fz (db.map encData))] (.c (.bool (decide ((db.length : Int) = s.length) && dbAux s db))) := by
  refine Pure.run mixed c_spec_l4Db_ok (Nat.le_of_ble_eq_true rfl) fun σ hS hA => ?_
  clear hS hA
  repeat' first|refine yaG ?_|(exfalso;omega)|(refine yaS ?_ ?_<;>intro _)
  · rename_i h
    refine .ret rfl (.bool ?_)
    rw [decide_eq_false h]
    rfl
  rename_i hl
  have hl : (db.length : Int) = s.length := by omega
  refine Go.keep [0, 1, 5] (Go.loops (I := fun m fr τ => ∃ (i : Nat) (k : Int), m = db.length - i ∧ i ≤ db.length ∧ k = i ∧ dbAux s db = dbAux (s.drop i) (db.drop i) ∧
    fr = [(0, .c (.fz (s.map encTable))), (1, .c (.fz (db.map encData))), (5, .c (.int .i64 k))] ∧ τ = E σ []) ?_ _ _ _ ⟨0, _, rfl, Nat.zero_le _, rfl, rfl, rfl, rfl⟩)
  rintro m fr τ ⟨i, k, rfl, hi, hk, hsl, rfl, rfl⟩ hrec
  by_cases hlt : i < db.length
  · have hlt2 : i < s.length := by omega
    have hbd := hdb _ (List.getElem_mem hlt)
    rw [List.drop_eq_getElem_cons hlt, List.drop_eq_getElem_cons hlt2, dbAux, rowsF] at hsl
    obtain ⟨l, hle⟩ : ∃ l, db[i].rows = l := ⟨_, rfl⟩
    have hrl : l.length ≤ 34359738368 := by rw [← hle]; exact hbd.1
    have hrv : ∀ r ∈ l, r.vals.length ≤ 34359738368 := by rw [← hle]; exact fun r hr => (hbd.2 r hr).1
    repeat' first|refine yaG ?_|((first|apply yG|apply yH|apply yI);exact rfl;(first|exact yX (enc := encData) rfl rfl hk hlt rfl))|(exfalso;omega)|(refine yaS ?_ ?_<;>intro _)
    rw [hle] at hsl ⊢
    refine Go.keep [0, 1, 5, 6, 7] (Go.loops (I := fun m fr τ => ∃ (j : Nat) (q : Int) (p : Option Int), m = l.length - j ∧ j ≤ l.length ∧ q = j ∧ (rowsAux s[i] none l = rowsAux s[i] p (l.drop j) ∧ ((j = 0 ∧ p = none) ∨ ∃ a, ∃ ha : a < l.length, j = a + 1 ∧ p = some l[a].id)) ∧
      fr = [(0, .c (.fz (s.map encTable))), (1, .c (.fz (db.map encData))), (5, .c (.int .i64 k)), (6, .c (.fz (l.map encRowD))), (7, .c (.int .i64 q))] ∧ τ = E σ []) ?_ _ _ _ ⟨0, _, none, rfl, Nat.zero_le _, rfl, ⟨rfl, .inl ⟨rfl, rfl⟩⟩, rfl, rfl⟩)
    rintro m fr τ ⟨j, q, p, rfl, hj, hq, ⟨hs2, hp⟩, rfl, rfl⟩ hrec2
    by_cases hlj : j < l.length
    · have hv := hrv _ (List.getElem_mem hlj)
      rw [List.drop_eq_getElem_cons hlj, rowsAux] at hs2
      clear hrec
      rcases hp with ⟨rfl, rfl⟩ | ⟨a, ha, rfl, rfl⟩
      · repeat' first|refine yaG ?_|((first|apply yG|apply yH|apply yI);exact rfl;(first|exact yX (enc := encRowD) rfl rfl hq hlj rfl|exact yX (enc := encTable) rfl rfl hk hlt2 rfl))|((first|apply Go.pcallB|apply Go.spcallB|apply Qg.pcallB);(iterate 3 exact rfl);(first|exact l1In_ok _ _ _|exact l4Kinds_ok s[i] l[0].vals hv);intro _ _)|(exfalso;omega)|(refine yaS ?_ ?_<;>intro _)
        all_goals first
          | (refine .ret rfl (.bool ?_); clear hrec2; rw [hsl, hs2, rowOne, risesId]; clear hs2 hsl; simp_all; done)
          | (refine Go.keep [0, 1, 5, 6, 7] (hrec2 _ _ _ (by omega) ⟨0 + 1, _, some l[0].id, rfl, hlj, wrap_succ hq (by omega), ⟨?_, .inr ⟨0, hlj, rfl, rfl⟩⟩, rfl, rfl⟩); clear hrec2; rw [hs2, rowOne, risesId]; clear hs2 hsl; simp_all; done)
      · repeat' first|refine yaG ?_|((first|apply yG|apply yH|apply yI);exact rfl;(first|exact yX (enc := encRowD) rfl rfl hq hlj rfl|exact yX (enc := encRowD) rfl rfl (wrap_pred hq (by omega)) ha rfl|exact yX (enc := encTable) rfl rfl hk hlt2 rfl))|((first|apply Go.pcallB|apply Go.spcallB|apply Qg.pcallB);(iterate 3 exact rfl);(first|exact l1In_ok _ _ _|exact l4Kinds_ok s[i] l[a + 1].vals hv);intro _ _)|(exfalso;omega)|(refine yaS ?_ ?_<;>intro _)
        all_goals first
          | (refine .ret rfl (.bool ?_); clear hrec2; rw [hsl, hs2, rowOne, risesId]; clear hs2 hsl; (simp_all <;> intros <;> omega); done)
          | (refine Go.keep [0, 1, 5, 6, 7] (hrec2 _ _ _ (by omega) ⟨a + 1 + 1, _, some l[a + 1].id, rfl, hlj, wrap_succ hq (by omega), ⟨?_, .inr ⟨a + 1, hlj, rfl, rfl⟩⟩, rfl, rfl⟩); clear hrec2; rw [hs2, rowOne, risesId]; clear hs2 hsl; (simp_all <;> intros <;> omega); done)
    · clear hrec2
      rw [List.drop_eq_nil_of_le (by omega), rowsAux] at hs2
      repeat' first|refine yaG ?_|(exfalso;omega)|(refine yaS ?_ ?_<;>intro _)
      · rename_i h
        refine .ret rfl (.bool ?_)
        rw [hsl, hs2, decide_eq_false (p := (l.length : Int) ≤ 60) (by omega)]
        simp
      · rename_i h
        refine Go.keep [0, 1, 5] (hrec _ _ _ (by omega) ⟨i + 1, _, rfl, hlt, wrap_succ hk (by omega), ?_, rfl, rfl⟩)
        rw [hsl, hs2, decide_eq_true (p := (l.length : Int) ≤ 60) (by omega)]
        rfl
  · repeat' first|refine yaG ?_|(exfalso;omega)|(refine yaS ?_ ?_<;>intro _)
    refine .ret rfl (.bool ?_)
    rw [hsl, decide_eq_true hl, show db.drop i = [] from List.drop_eq_nil_of_le (by omega)]
    cases List.drop i s <;> rfl
theorem sDbOk_ok (s : List Table) (db : List Data) (hx : s.length ≤ 34359738368) (hb : ∀ t ∈ s, bTable 34359738368 t) (hd : db.length ≤ 34359738368) (hdb : ∀ d ∈ db, bData 34359738368 d) : Pure Tryz.prog 78 [.c (.fz (s.map encTable)), .c (.fz (db.map encData))] (.c (.bool (dbF s db))) := by
  refine Pure.run mixed c_spec_DbOk_ok (Nat.le_of_ble_eq_true rfl) fun σ hS hA => ?_
  clear hS hA
  have c1 := sSchemaOk_ok s hx hb
  have c2 := l4Db_ok s db hx hd hdb
  rw [dbF]
  generalize (decide ((db.length : Int) = s.length) && dbAux s db) = B at c2 ⊢
  cases hs : schemaF s
  · rw [hs] at c1
    repeat' first|refine yaG ?_|refine yaC (c1) ?_|(exfalso;omega)|(refine yaS ?_ ?_<;>intro _)
    exact .ret rfl (.bool rfl)
  · rw [hs] at c1
    repeat' first|refine yaG ?_|refine yaC (c1) ?_|refine yaC (c2) ?_|(exfalso;omega)|(refine yaS ?_ ?_<;>intro _)
    exact .ret rfl (.bool rfl)
theorem isTable_ok (s : List Table) (n : Int) (hx : s.length ≤ 34359738368) : Pure Tryz.prog 48 [.c (.fz (s.map encTable)), .c (.int .i64 n)] (.c (.bool (isIn n 0 (s.length - 1)))) := by
  refine Pure.run mixed c_impl_isTable_ok (Nat.le_of_ble_eq_true rfl) fun σ hS hA => ?_
  clear hS hA
  repeat' first|refine yaG ?_|((first|apply yQ|apply yR|apply yS);(iterate 3 exact rfl);exact in_ok _ _ _)|(exfalso;omega)|(refine yaS ?_ ?_<;>intro _)
  refine .ret rfl (.bool ?_)
  rw [wrap64 (by omega) (by omega)]
theorem l6Ok_ok (s : List Table) (db : List Data) (n : Int) (hx : s.length ≤ 34359738368) (hb : ∀ t ∈ s, bTable 34359738368 t) (hd : db.length ≤ 34359738368) (hdb : ∀ d ∈ db, bData 34359738368 d) : Pure Tryz.prog 41 [.c (.fz (s.map encTable)), .c (.fz (db.map encData)), .c (.int .i64 n)] (.c (.bool (dbF s db && isIn n 0 (s.length - 1)))) := by
  refine Pure.run mixed c_spec_l6Ok_ok (Nat.le_of_ble_eq_true rfl) fun σ hS hA => ?_
  clear hS hA
  have c1 := sDbOk_ok s db hx hb hd hdb
  have hw : IntKind.i64.wrap ((s.length : Int) - 1) = s.length - 1 := wrap64 (by omega) (by omega)
  cases hs : dbF s db
  · rw [hs] at c1
    repeat' first|refine yaG ?_|refine yaC (c1) ?_|(exfalso;omega)|(refine yaS ?_ ?_<;>intro _)
    exact .ret rfl (.bool rfl)
  · rw [hs] at c1
    repeat' first|refine yaG ?_|refine yaC (c1) ?_|((first|apply yQ|apply yR|apply yS);(iterate 3 exact rfl);exact l1In_ok _ _ _)|(exfalso;omega)|(refine yaS ?_ ?_<;>intro _)
    refine .ret rfl (.bool ?_)
    rw [hw]
    rfl
theorem dbF_at {s : List Table} {db : List Data} (h : dbF s db = true) : schemaF s = true ∧ db.length = s.length ∧ ∀ i (hi : i < s.length) (hi2 : i < db.length), rowsF s[i] db[i].rows = true := by
  simp only [dbF, Bool.and_eq_true, decide_eq_true_eq] at h
  obtain ⟨h1, h2, h3⟩ := h
  refine ⟨h1, by omega, ?_⟩
  clear h1 h2
  induction s generalizing db with
  | nil => intro i hi; simp at hi
  | cons t s ih =>
    cases db with
    | nil => intro i _ hi; simp at hi
    | cons d db =>
      rw [dbAux, Bool.and_eq_true] at h3
      intro i hi hi2
      cases i with
      | zero => exact h3.1
      | succ i => exact ih h3.2 i (by simpa using hi) (by simpa using hi2)
theorem rowsAux_mem {t : Table} : ∀ {l : List RowD} {p : Option Int}, rowsAux t p l = true → ∀ r ∈ l, fitF t r.vals = true ∧ isIn r.id 1 1000000000 = true
  | [], _, _, r, hr => by simp at hr
  | a :: l, p, h, r, hr => by
    simp only [rowsAux, rowOne, Bool.and_eq_true] at h
    rcases List.mem_cons.1 hr with rfl | hr
    · exact ⟨h.1.2.2, h.1.1⟩
    · exact rowsAux_mem h.2 r hr
theorem rowsF_mem {t : Table} {l : List RowD} (h : rowsF t l = true) : l.length ≤ 60 ∧ ∀ r ∈ l, fitF t r.vals = true ∧ isIn r.id 1 1000000000 = true := by
  simp only [rowsF, Bool.and_eq_true, decide_eq_true_eq] at h
  exact ⟨by omega, rowsAux_mem h.1⟩
theorem fitAux_ok {t : Table} : ∀ {l : List Val} {i : Nat}, fitAux t i l = true → ∀ v ∈ l, okVal v = true
  | [], _, _, v, hv => by simp at hv
  | a :: l, i, h, v, hv => by
    simp only [fitAux, isOfF, Bool.and_eq_true] at h
    rcases List.mem_cons.1 hv with rfl | hv
    · exact h.1.1
    · exact fitAux_ok h.2 v hv
theorem fitF_vals {t : Table} {l : List Val} (h : fitF t l = true) : l.length = t.cols.length ∧ ∀ v ∈ l, okVal v = true := by
  simp only [fitF, Bool.and_eq_true, decide_eq_true_eq] at h
  exact ⟨by omega, fitAux_ok h.2⟩
theorem fitF_are {t : Table} {l : List Val} (h : fitF t l = true) (hc : t.cols.length ≤ 8) : areVals l 16 = true := by
  obtain ⟨h1, h2⟩ := fitF_vals h
  simp only [areVals, Bool.and_eq_true, decide_eq_true_eq, List.all_eq_true]
  exact ⟨by omega, h2⟩
theorem Has.shape {σ : Store} {S : Nat → Prop} {ys : List (List Ce)} {x : Ce} (h : Has σ S (.fz ys) x) {i : Nat} (hi : i < ys.length) : ∃ id v c, x = .sl id v 0 ys.length c := by
  obtain ⟨id, v, s, cs, junk, T, rfl, _⟩ := h.open (by omega)
  exact ⟨_, _, _, rfl⟩
theorem Has.wr {σ : Store} {S : Nat → Prop} {zs : List (List Ce)} {e : List Ce} {id v n c i j : Nat} (h : Has σ S (.fz (zs.set i e)) (.sl id v 0 n c)) (hi : i < zs.length) (hj : j < e.length) :
    ∃ (es : List (List Ce)) (e' : List Ce), σ.get id = some (v, es) ∧ es[0 + i]? = some e' ∧ e'.length = e.length ∧ S id ∧
      ∀ z, Flat z → Has (σ.put id (v, es.set (0 + i) (splice e' (0 + j) [z]))) S (.fz (zs.set i (e.set j z))) (.sl id v 0 n c) ∧
        (∀ a, ¬ S a → (σ.put id (v, es.set (0 + i) (splice e' (0 + j) [z]))).get a = σ.get a) ∧ (σ.put id (v, es.set (0 + i) (splice e' (0 + j) [z]))).next = σ.next := by
  have hi' : i < (zs.set i e).length := by simpa using hi
  have hii : (zs.set i e)[i] = e := by simp
  obtain ⟨id1, v1, c1, es, e', hx, hg, he, hel, hS, hw⟩ := h.write (i := i) (j := j) hi' (by rw [hii]; exact hj)
  obtain ⟨rfl, rfl, -⟩ := sl_inj hx
  refine ⟨es, e', hg, he, by rw [hel, hii], hS, fun z hz => ⟨?_, fun a ha => put_off hS a ha, rfl⟩⟩
  have := hw z hz
  rw [List.set_set, hii] at this
  exact this
theorem Has.ch {σ : Store} {S : Nat → Prop} {zs : List (List Ce)} {e : List Ce} {y : Ce} {id v n c i j : Nat} (h : Has σ S (.fz (zs.set i e)) (.sl id v 0 n c)) (hi : i < zs.length) (hj : j < e.length) (hy : e[j] = y) :
    ∃ (es : List (List Ce)) (e' : List Ce) (T : Nat → Prop), σ.get id = some (v, es) ∧ es[0 + i]? = some e' ∧ e'.length = e.length ∧ (∀ a, T a → S a) ∧
      ∃ hj' : j < e'.length, Has σ T y e'[j] ∧ ∀ σ' y', (∀ a, ¬ T a → σ'.get a = σ.get a) → Has σ' T y' e'[j] → Has σ' S (.fz (zs.set i (e.set j y'))) (.sl id v 0 n c) := by
  have hi' : i < (zs.set i e).length := by simpa using hi
  have hii : (zs.set i e)[i] = e := by simp
  obtain ⟨id1, v1, c1, es, e', T, hx, hg, he, hel, hTS, hj', hch, hback⟩ := h.child (i := i) (j := j) hi' (by rw [hii]; exact hj)
  obtain ⟨rfl, rfl, -⟩ := sl_inj hx
  subst hy
  refine ⟨es, e', T, hg, he, by rw [hel, hii], hTS, hj', ?_, fun σ' y' hf hh => ?_⟩
  · have e0 : (zs.set i e)[i][j]'(by rw [hii]; exact hj) = e[j] := by simp
    rw [← e0]
    exact hch
  · have := hback σ' y' hf hh
    rw [List.set_set, hii] at this
    exact this
inductive Cnts : List (Int → Int) → Int → Prop where
  | nil : Cnts [] 0
  | cons {f : Int → Int} {r : List (Int → Int)} {c d : Int} (h : ∀ q, 0 ≤ q → 0 ≤ f q → c ≤ 8 * (q - f q)) (k : Cnts r d) : Cnts (f :: r) (c + d)
theorem chain_cnt {fs : List (Int → Int)} {c : Int} (h : Cnts fs c) : ∀ l, 0 ≤ l → 0 ≤ chain fs l → c ≤ 8 * (l - chain fs l) := by
  induction h with
  | nil => intro l _ _; simp only [chain]; omega
  | @cons f r c d h _ ih =>
    intro l hl hc
    simp only [chain] at hc ⊢
    split at hc
    · omega
    · rename_i h0
      rw [if_neg h0]
      have := h l hl (by omega)
      have := ih (f l) (by omega) hc
      omega
theorem szList_cnt8 {α : Type} {g : α → Int → Int} {c : α → Int} (hg : ∀ a l, 0 ≤ l → g a l ≤ l) (hc : ∀ a l, 0 ≤ l → 0 ≤ g a l → c a ≤ 8 * (l - g a l) + 8) : ∀ (xs : List α) (left : Int), 0 ≤ left → 0 ≤ szList g xs left → cntL c xs ≤ 8 * (left - szList g xs left) + 8 * xs.length
  | [], left, h, hs => by simp [szList, cntL]
  | a :: r, left, h, hs => by
    simp only [szList] at hs ⊢
    split at hs
    · omega
    · rename_i h0
      rw [if_neg h0]
      have h1 := szList_cnt8 hg hc r (g a left) (by omega) hs
      have h2 := hc a left h (by omega)
      simp only [cntL, List.length_cons]
      omega
theorem szL_cnt8 {α : Type} {g : α → Int → Int} {c : α → Int} (hg : ∀ a l, 0 ≤ l → g a l ≤ l) (hc : ∀ a l, 0 ≤ l → 0 ≤ g a l → c a ≤ 8 * (l - g a l) + 8) (xs : List α) (left : Int) (h : 0 ≤ left) (hs : 0 ≤ szL g xs left) : cntL c xs ≤ 8 * (left - szL g xs left) := by
  simp only [szL] at hs ⊢
  split at hs
  · omega
  · rename_i h0
    rw [if_neg h0]
    have := szList_cnt8 hg hc xs (left - xs.length) (by omega) hs
    omega
theorem cnt_str (s : List UInt8) : ∀ q : Int, 0 ≤ q → 0 ≤ q - s.length → (0 : Int) ≤ 8 * (q - (q - s.length)) := fun q _ _ => by omega
theorem cnt_ints (xs : List Int) : ∀ q : Int, 0 ≤ q → 0 ≤ zI xs q → cntL (fun _ => 1) xs ≤ 8 * (q - zI xs q) := fun q _ h => by
  simp only [zI] at h ⊢
  rw [cnt1]
  split at h
  · omega
  · rename_i h0; rw [if_neg h0]; omega
theorem szV_cnt (v : Val) (l : Int) (h : 0 ≤ l) (hs : 0 ≤ szV v l) : (3 : Int) ≤ 8 * (l - szV v l) + 8 := by
  have := szV_le v l h
  omega
def markTok (a : Tok) (k : Int) : Tok := ⟨k, k + 1, ⟨k + 1 + 1, k + 1 + 1 + 1, mText (k + 1 + 1 + 1 + 1)⟩⟩
def cntTok (a : Tok) : Int := 5
theorem cntTok_nonneg (a : Tok) : 0 ≤ cntTok a := by
  simp only [cntTok]
  omega
theorem cntTok_sz (a : Tok) (l : Int) (h : 0 ≤ l) (hs : 0 ≤ zTok a l) : cntTok a ≤ 8 * (l - zTok a l) + 8 := by
  have := chain_cnt (fs := [(szV a.v)]) (.cons (c := 0) (fun q h hs => by have := szV_le a.v q h; omega) .nil) l h hs
  simp only [cntTok]
  simp only [zTok] at hs ⊢
  omega
theorem markTokS_ok (xs : List Tok) (k : Int) (hx : xs.length ≤ 34359738368) (hb : ∀ a ∈ xs, bTok 34359738368 a) (hk0 : 0 ≤ k) (hk : k + cntL cntTok xs ≤ 34359738368) : Marks Tryz.prog 90 (.fz (xs.map encTok)) (.fz ((markL markTok cntTok xs k).map encTok)) k (k + cntL cntTok xs) := by
  refine markS_ok mixed c_laws_markTokS_ok (Nat.le_of_ble_eq_true rfl) (Nat.le_of_ble_eq_true rfl) encTok markTok cntTok cntTok_nonneg xs k hx hk0 hk ?_
  intro n0 rets R K σ τ S x i ni ki ys hi fr hn0 hyl hni hki0 hki1 h0 h1 h5 hmem hh hnext
  have hi' : i < (ys.map encTok).length := by simpa using hi
  have hyi : (ys.map encTok)[i] = encTok ys[i] := by simp
  have hb := hb _ hmem
  obtain ⟨id, v, c, rfl⟩ := hh.shape hi'
  have hh : Has τ S (.fz ((ys.map encTok).set i (encTok ys[i]))) (.sl id v 0 (ys.map encTok).length c) := by rw [← hyi, List.set_getElem_self]; exact hh
  have hfr : ∀ a, ¬ S a → τ.get a = τ.get a := fun _ _ => rfl
  have hnx : τ.next = τ.next := rfl
  refine .same (look_three h0 h1 h5) ?_
  have hset : ∀ q, (ys.set i q).map encTok = (ys.map encTok).set i (encTok q) := fun q => List.map_set
  simp only [cntTok] at hki1
  obtain ⟨es0, e0, hg0, he0, hel0, hS0, hw0⟩ := hh.wr (j := 0) hi' (Nat.le_of_ble_eq_true rfl)
  have hel0 : e0.length = 5 := hel0
  obtain ⟨hh, hf0, hn0⟩ := hw0 (.int .i64 ki) (.int _ _)
  have hfr := fun a (ha : ¬ S a) => (hf0 a ha).trans (hfr a ha)
  have hnx := hn0.trans hnx
  repeat' first|(apply yA;exact rfl)|apply yB|apply yC|((first|apply yG|apply yH|apply yI);exact rfl;(first|exact rfl|exact aop_iaddrO rfl rfl hni hi' hg0 he0 hel0|exact aop_storeO rfl rfl hg0 he0 (by omega)))|(apply yN;exact rfl)
  obtain ⟨k0, hk0⟩ : ∃ z, ki + 1 = z := ⟨_, rfl⟩
  rw [show IntKind.i64.wrap (ki + 1) = k0 by rw [wrap64 (by omega) (by omega)]; exact hk0]
  obtain ⟨es1, e1, hg1, he1, hel1, hS1, hw1⟩ := hh.wr (j := 1) hi' (Nat.le_of_ble_eq_true rfl)
  have hel1 : e1.length = 5 := hel1
  obtain ⟨hh, hf1, hn1⟩ := hw1 (.int .i64 k0) (.int _ _)
  have hfr := fun a (ha : ¬ S a) => (hf1 a ha).trans (hfr a ha)
  have hnx := hn1.trans hnx
  repeat' first|(apply yA;exact rfl)|apply yB|apply yC|((first|apply yG|apply yH|apply yI);exact rfl;(first|exact rfl|exact aop_iaddrO rfl rfl hni hi' hg1 he1 hel1|exact aop_storeO rfl rfl hg1 he1 (by omega)))|(apply yN;exact rfl)
  obtain ⟨k1, hk1⟩ : ∃ z, k0 + 1 = z := ⟨_, rfl⟩
  rw [show IntKind.i64.wrap (k0 + 1) = k1 by rw [wrap64 (by omega) (by omega)]; exact hk1]
  obtain ⟨es2, e2, hg2, he2, hel2, hS2, hw2⟩ := hh.wr (j := 2) hi' (Nat.le_of_ble_eq_true rfl)
  have hel2 : e2.length = 5 := hel2
  obtain ⟨hh, hf2, hn2⟩ := hw2 (.int .i64 k1) (.int _ _)
  have hfr := fun a (ha : ¬ S a) => (hf2 a ha).trans (hfr a ha)
  have hnx := hn2.trans hnx
  repeat' first|(apply yA;exact rfl)|apply yB|apply yC|((first|apply yG|apply yH|apply yI);exact rfl;(first|exact rfl|exact aop_iaddrO rfl rfl hni hi' hg2 he2 hel2|exact aop_storeO rfl rfl hg2 he2 (by omega)))|(apply yN;exact rfl)
  obtain ⟨k2, hk2⟩ : ∃ z, k1 + 1 = z := ⟨_, rfl⟩
  rw [show IntKind.i64.wrap (k1 + 1) = k2 by rw [wrap64 (by omega) (by omega)]; exact hk2]
  obtain ⟨es3, e3, hg3, he3, hel3, hS3, hw3⟩ := hh.wr (j := 3) hi' (Nat.le_of_ble_eq_true rfl)
  have hel3 : e3.length = 5 := hel3
  obtain ⟨hh, hf3, hn3⟩ := hw3 (.int .i64 k2) (.int _ _)
  have hfr := fun a (ha : ¬ S a) => (hf3 a ha).trans (hfr a ha)
  have hnx := hn3.trans hnx
  repeat' first|(apply yA;exact rfl)|apply yB|apply yC|((first|apply yG|apply yH|apply yI);exact rfl;(first|exact rfl|exact aop_iaddrO rfl rfl hni hi' hg3 he3 hel3|exact aop_storeO rfl rfl hg3 he3 (by omega)))|(apply yN;exact rfl)
  obtain ⟨k3, hk3⟩ : ∃ z, k2 + 1 = z := ⟨_, rfl⟩
  rw [show IntKind.i64.wrap (k2 + 1) = k3 by rw [wrap64 (by omega) (by omega)]; exact hk3]
  obtain ⟨es4, e4, hg4, he4, hel4, hS4, hw4⟩ := hh.wr (j := 4) hi' (Nat.le_of_ble_eq_true rfl)
  have hel4 : e4.length = 5 := hel4
  obtain ⟨hh, hf4, hn4⟩ := hw4 (.str (mText k3)) (.str _)
  have hfr := fun a (ha : ¬ S a) => (hf4 a ha).trans (hfr a ha)
  have hnx := hn4.trans hnx
  repeat' first|(apply yA;exact rfl)|apply yB|apply yC|((first|apply yG|apply yH|apply yI);exact rfl;(first|exact rfl|exact aop_iaddrO rfl rfl hni hi' hg4 he4 hel4|exact aop_storeO rfl rfl hg4 he4 (by omega)))|(apply yN;exact rfl)|((first|apply yQ|apply yR|apply yS);(iterate 3 exact rfl);exact markText_ok _ (by omega))
  obtain ⟨k4, hk4⟩ : ∃ z, k3 + 1 = z := ⟨_, rfl⟩
  rw [show IntKind.i64.wrap (k3 + 1) = k4 by rw [wrap64 (by omega) (by omega)]; exact hk4]
  have hkend : k4 = ki + cntTok ys[i] := by simp only [cntTok]; omega
  refine hnext _ _ rfl (congrArg (fun z => some (AV.c (Ce.int .i64 z))) hkend) rfl hnx hfr ?_
  rw [hset]
  subst hk0 hk1 hk2 hk3 hk4
  exact hh
def markChk (a : Chk) (k : Int) : Chk := ⟨markL markTok cntTok a.expr (k)⟩
def cntChk (a : Chk) : Int := 0 + cntL cntTok a.expr
theorem cntChk_nonneg (a : Chk) : 0 ≤ cntChk a := by
  have := cntL_nonneg (c := cntTok) cntTok_nonneg a.expr
  simp only [cntChk]
  omega
theorem cntChk_sz (a : Chk) (l : Int) (h : 0 ≤ l) (hs : 0 ≤ zChk a l) : cntChk a ≤ 8 * (l - zChk a l) + 8 := by
  have := chain_cnt (fs := [(szL zTok a.expr)]) (.cons (c := cntL cntTok a.expr) (fun q h hs => szL_cnt8 zTok_le cntTok_sz a.expr q h hs) .nil) l h hs
  simp only [cntChk]
  simp only [zChk] at hs ⊢
  omega
theorem markChkS_ok (xs : List Chk) (k : Int) (hx : xs.length ≤ 34359738368) (hb : ∀ a ∈ xs, bChk 34359738368 a) (hk0 : 0 ≤ k) (hk : k + cntL cntChk xs ≤ 34359738368) : Marks Tryz.prog 58 (.fz (xs.map encChk)) (.fz ((markL markChk cntChk xs k).map encChk)) k (k + cntL cntChk xs) := by
  refine markS_ok mixed c_laws_markCheckS_ok (Nat.le_of_ble_eq_true rfl) (Nat.le_of_ble_eq_true rfl) encChk markChk cntChk cntChk_nonneg xs k hx hk0 hk ?_
  intro n0 rets R K σ τ S x i ni ki ys hi fr hn0 hyl hni hki0 hki1 h0 h1 h5 hmem hh hnext
  have hi' : i < (ys.map encChk).length := by simpa using hi
  have hyi : (ys.map encChk)[i] = encChk ys[i] := by simp
  have hb := hb _ hmem
  obtain ⟨id, v, c, rfl⟩ := hh.shape hi'
  have hh : Has τ S (.fz ((ys.map encChk).set i (encChk ys[i]))) (.sl id v 0 (ys.map encChk).length c) := by rw [← hyi, List.set_getElem_self]; exact hh
  have hfr : ∀ a, ¬ S a → τ.get a = τ.get a := fun _ _ => rfl
  have hnx : τ.next = τ.next := rfl
  refine .same (look_three h0 h1 h5) ?_
  have hset : ∀ q, (ys.set i q).map encChk = (ys.map encChk).set i (encChk q) := fun q => List.map_set
  have hc0 := cntL_nonneg (c := cntTok) cntTok_nonneg ys[i].expr
  simp only [cntChk] at hki1
  obtain ⟨es0, e0, T0, hg0, he0, hel0, hTS0, hj0, hch0, hback0⟩ := hh.ch (j := 0) (y := .fz (ys[i].expr.map encTok)) hi' (Nat.le_of_ble_eq_true rfl) rfl
  repeat' first|(apply yA;exact rfl)|apply yB|apply yC|((first|apply yG|apply yH|apply yI);exact rfl;(first|exact rfl|exact aop_iaddrO rfl rfl hni hi' hg0 he0 hel0|exact aop_loadO rfl hg0 he0 (show 0 + 0 < e0.length by omega)))|(apply yN;exact rfl)
  refine Go.call _ rfl rfl rfl ((markTokS_ok ys[i].expr ki hb.1 hb.2 (by omega) (by omega)).at_ _ T0 _ hch0) ?_
  rintro r τ0 ⟨rfl, hn0, hf0, hhc0⟩
  have hh := hback0 τ0 _ hf0 hhc0
  have hfr := fun a (ha : ¬ S a) => (hf0 a (fun h => ha (hTS0 a h))).trans (hfr a ha)
  have hnx := hn0.trans hnx
  obtain ⟨k0, hk0⟩ : ∃ z, ki + cntL cntTok ys[i].expr = z := ⟨_, rfl⟩
  rw [hk0]
  clear hg0 he0 hel0 hch0 hback0 hf0 hn0 hhc0
  repeat' first|(apply yA;exact rfl)|apply yB|apply yC|((first|apply yG|apply yH|apply yI);exact rfl;(first|exact rfl))|(apply yN;exact rfl)
  have hkend : k0 = ki + cntChk ys[i] := by simp only [cntChk]; omega
  refine hnext _ _ rfl (congrArg (fun z => some (AV.c (Ce.int .i64 z))) hkend) rfl hnx hfr ?_
  rw [hset]
  subst hk0
  exact hh
def markUniq (a : Uniq) (k : Int) : Uniq := ⟨markL markI (fun _ => 1) a.cols (k)⟩
def cntUniq (a : Uniq) : Int := 0 + cntL (fun _ => 1) a.cols
theorem cntUniq_nonneg (a : Uniq) : 0 ≤ cntUniq a := by
  have := cntL_nonneg (c := (fun _ => 1)) (fun _ => by decide) a.cols
  simp only [cntUniq]
  omega
theorem cntUniq_sz (a : Uniq) (l : Int) (h : 0 ≤ l) (hs : 0 ≤ zUniq a l) : cntUniq a ≤ 8 * (l - zUniq a l) + 8 := by
  have := chain_cnt (fs := [(zI a.cols)]) (.cons (c := cntL (fun _ => 1) a.cols) (cnt_ints a.cols) .nil) l h hs
  simp only [cntUniq]
  simp only [zUniq] at hs ⊢
  omega
theorem markUniqS_ok (xs : List Uniq) (k : Int) (hx : xs.length ≤ 34359738368) (hb : ∀ a ∈ xs, bUniq 34359738368 a) (hk0 : 0 ≤ k) (hk : k + cntL cntUniq xs ≤ 34359738368) : Marks Tryz.prog 57 (.fz (xs.map encUniq)) (.fz ((markL markUniq cntUniq xs k).map encUniq)) k (k + cntL cntUniq xs) := by
  refine markS_ok mixed c_laws_markUniqueS_ok (Nat.le_of_ble_eq_true rfl) (Nat.le_of_ble_eq_true rfl) encUniq markUniq cntUniq cntUniq_nonneg xs k hx hk0 hk ?_
  intro n0 rets R K σ τ S x i ni ki ys hi fr hn0 hyl hni hki0 hki1 h0 h1 h5 hmem hh hnext
  have hi' : i < (ys.map encUniq).length := by simpa using hi
  have hyi : (ys.map encUniq)[i] = encUniq ys[i] := by simp
  have hb := hb _ hmem
  obtain ⟨id, v, c, rfl⟩ := hh.shape hi'
  have hh : Has τ S (.fz ((ys.map encUniq).set i (encUniq ys[i]))) (.sl id v 0 (ys.map encUniq).length c) := by rw [← hyi, List.set_getElem_self]; exact hh
  have hfr : ∀ a, ¬ S a → τ.get a = τ.get a := fun _ _ => rfl
  have hnx : τ.next = τ.next := rfl
  refine .same (look_three h0 h1 h5) ?_
  have hset : ∀ q, (ys.set i q).map encUniq = (ys.map encUniq).set i (encUniq q) := fun q => List.map_set
  have hc0 := cntL_nonneg (c := (fun _ => 1)) (fun _ => by decide) ys[i].cols
  simp only [cntUniq] at hki1
  obtain ⟨es0, e0, T0, hg0, he0, hel0, hTS0, hj0, hch0, hback0⟩ := hh.ch (j := 0) (y := .fz (ys[i].cols.map encI)) hi' (Nat.le_of_ble_eq_true rfl) rfl
  repeat' first|(apply yA;exact rfl)|apply yB|apply yC|((first|apply yG|apply yH|apply yI);exact rfl;(first|exact rfl|exact aop_iaddrO rfl rfl hni hi' hg0 he0 hel0|exact aop_loadO rfl hg0 he0 (show 0 + 0 < e0.length by omega)))|(apply yN;exact rfl)
  refine Go.call _ rfl rfl rfl ((markInt64S_ok ys[i].cols ki hb  (by omega) (by omega)).at_ _ T0 _ hch0) ?_
  rintro r τ0 ⟨rfl, hn0, hf0, hhc0⟩
  have hh := hback0 τ0 _ hf0 hhc0
  have hfr := fun a (ha : ¬ S a) => (hf0 a (fun h => ha (hTS0 a h))).trans (hfr a ha)
  have hnx := hn0.trans hnx
  obtain ⟨k0, hk0⟩ : ∃ z, ki + cntL (fun _ => 1) ys[i].cols = z := ⟨_, rfl⟩
  rw [hk0]
  clear hg0 he0 hel0 hch0 hback0 hf0 hn0 hhc0
  repeat' first|(apply yA;exact rfl)|apply yB|apply yC|((first|apply yG|apply yH|apply yI);exact rfl;(first|exact rfl))|(apply yN;exact rfl)
  have hkend : k0 = ki + cntUniq ys[i] := by simp only [cntUniq]; omega
  refine hnext _ _ rfl (congrArg (fun z => some (AV.c (Ce.int .i64 z))) hkend) rfl hnx hfr ?_
  rw [hset]
  subst hk0
  exact hh
def markFk (a : Fk) (k : Int) : Fk := ⟨markL markI (fun _ => 1) a.cols (k), mText (k + cntL (fun _ => 1) a.cols), k + cntL (fun _ => 1) a.cols + 1, k + cntL (fun _ => 1) a.cols + 1 + 1, (k + cntL (fun _ => 1) a.cols + 1 + 1 + 1).tmod 3 == 0⟩
def cntFk (a : Fk) : Int := 4 + cntL (fun _ => 1) a.cols
theorem cntFk_nonneg (a : Fk) : 0 ≤ cntFk a := by
  have := cntL_nonneg (c := (fun _ => 1)) (fun _ => by decide) a.cols
  simp only [cntFk]
  omega
theorem cntFk_sz (a : Fk) (l : Int) (h : 0 ≤ l) (hs : 0 ≤ zFk a l) : cntFk a ≤ 8 * (l - zFk a l) + 8 := by
  have := chain_cnt (fs := [(zI a.cols), (fun l => l - a.table.length)]) (.cons (c := cntL (fun _ => 1) a.cols) (cnt_ints a.cols) (.cons (c := 0) (cnt_str a.table) .nil)) l h hs
  simp only [cntFk]
  simp only [zFk] at hs ⊢
  omega
theorem markFkS_ok (xs : List Fk) (k : Int) (hx : xs.length ≤ 34359738368) (hb : ∀ a ∈ xs, bFk 34359738368 a) (hk0 : 0 ≤ k) (hk : k + cntL cntFk xs ≤ 34359738368) : Marks Tryz.prog 59 (.fz (xs.map encFk)) (.fz ((markL markFk cntFk xs k).map encFk)) k (k + cntL cntFk xs) := by
  refine markS_ok mixed c_laws_markFkS_ok (Nat.le_of_ble_eq_true rfl) (Nat.le_of_ble_eq_true rfl) encFk markFk cntFk cntFk_nonneg xs k hx hk0 hk ?_
  intro n0 rets R K σ τ S x i ni ki ys hi fr hn0 hyl hni hki0 hki1 h0 h1 h5 hmem hh hnext
  have hi' : i < (ys.map encFk).length := by simpa using hi
  have hyi : (ys.map encFk)[i] = encFk ys[i] := by simp
  have hb := hb _ hmem
  obtain ⟨id, v, c, rfl⟩ := hh.shape hi'
  have hh : Has τ S (.fz ((ys.map encFk).set i (encFk ys[i]))) (.sl id v 0 (ys.map encFk).length c) := by rw [← hyi, List.set_getElem_self]; exact hh
  have hfr : ∀ a, ¬ S a → τ.get a = τ.get a := fun _ _ => rfl
  have hnx : τ.next = τ.next := rfl
  refine .same (look_three h0 h1 h5) ?_
  have hset : ∀ q, (ys.set i q).map encFk = (ys.map encFk).set i (encFk q) := fun q => List.map_set
  have hc0 := cntL_nonneg (c := (fun _ => 1)) (fun _ => by decide) ys[i].cols
  simp only [cntFk] at hki1
  obtain ⟨es0, e0, T0, hg0, he0, hel0, hTS0, hj0, hch0, hback0⟩ := hh.ch (j := 0) (y := .fz (ys[i].cols.map encI)) hi' (Nat.le_of_ble_eq_true rfl) rfl
  repeat' first|(apply yA;exact rfl)|apply yB|apply yC|((first|apply yG|apply yH|apply yI);exact rfl;(first|exact rfl|exact aop_iaddrO rfl rfl hni hi' hg0 he0 hel0|exact aop_loadO rfl hg0 he0 (show 0 + 0 < e0.length by omega)))|(apply yN;exact rfl)
  refine Go.call _ rfl rfl rfl ((markInt64S_ok ys[i].cols ki hb.1  (by omega) (by omega)).at_ _ T0 _ hch0) ?_
  rintro r τ0 ⟨rfl, hn0, hf0, hhc0⟩
  have hh := hback0 τ0 _ hf0 hhc0
  have hfr := fun a (ha : ¬ S a) => (hf0 a (fun h => ha (hTS0 a h))).trans (hfr a ha)
  have hnx := hn0.trans hnx
  obtain ⟨k0, hk0⟩ : ∃ z, ki + cntL (fun _ => 1) ys[i].cols = z := ⟨_, rfl⟩
  rw [hk0]
  clear hg0 he0 hel0 hch0 hback0 hf0 hn0 hhc0
  obtain ⟨es1, e1, hg1, he1, hel1, hS1, hw1⟩ := hh.wr (j := 1) hi' (Nat.le_of_ble_eq_true rfl)
  have hel1 : e1.length = 5 := hel1
  obtain ⟨hh, hf1, hn1⟩ := hw1 (.str (mText k0)) (.str _)
  have hfr := fun a (ha : ¬ S a) => (hf1 a ha).trans (hfr a ha)
  have hnx := hn1.trans hnx
  repeat' first|(apply yA;exact rfl)|apply yB|apply yC|((first|apply yG|apply yH|apply yI);exact rfl;(first|exact rfl|exact aop_iaddrO rfl rfl hni hi' hg1 he1 hel1|exact aop_storeO rfl rfl hg1 he1 (by omega)))|(apply yN;exact rfl)|((first|apply yQ|apply yR|apply yS);(iterate 3 exact rfl);exact markText_ok _ (by omega))
  obtain ⟨k1, hk1⟩ : ∃ z, k0 + 1 = z := ⟨_, rfl⟩
  rw [show IntKind.i64.wrap (k0 + 1) = k1 by rw [wrap64 (by omega) (by omega)]; exact hk1]
  obtain ⟨es2, e2, hg2, he2, hel2, hS2, hw2⟩ := hh.wr (j := 2) hi' (Nat.le_of_ble_eq_true rfl)
  have hel2 : e2.length = 5 := hel2
  obtain ⟨hh, hf2, hn2⟩ := hw2 (.int .i64 k1) (.int _ _)
  have hfr := fun a (ha : ¬ S a) => (hf2 a ha).trans (hfr a ha)
  have hnx := hn2.trans hnx
  repeat' first|(apply yA;exact rfl)|apply yB|apply yC|((first|apply yG|apply yH|apply yI);exact rfl;(first|exact rfl|exact aop_iaddrO rfl rfl hni hi' hg2 he2 hel2|exact aop_storeO rfl rfl hg2 he2 (by omega)))|(apply yN;exact rfl)
  obtain ⟨k2, hk2⟩ : ∃ z, k1 + 1 = z := ⟨_, rfl⟩
  rw [show IntKind.i64.wrap (k1 + 1) = k2 by rw [wrap64 (by omega) (by omega)]; exact hk2]
  obtain ⟨es3, e3, hg3, he3, hel3, hS3, hw3⟩ := hh.wr (j := 3) hi' (Nat.le_of_ble_eq_true rfl)
  have hel3 : e3.length = 5 := hel3
  obtain ⟨hh, hf3, hn3⟩ := hw3 (.int .i64 k2) (.int _ _)
  have hfr := fun a (ha : ¬ S a) => (hf3 a ha).trans (hfr a ha)
  have hnx := hn3.trans hnx
  repeat' first|(apply yA;exact rfl)|apply yB|apply yC|((first|apply yG|apply yH|apply yI);exact rfl;(first|exact rfl|exact aop_iaddrO rfl rfl hni hi' hg3 he3 hel3|exact aop_storeO rfl rfl hg3 he3 (by omega)))|(apply yN;exact rfl)
  obtain ⟨k3, hk3⟩ : ∃ z, k2 + 1 = z := ⟨_, rfl⟩
  rw [show IntKind.i64.wrap (k2 + 1) = k3 by rw [wrap64 (by omega) (by omega)]; exact hk3]
  obtain ⟨es4, e4, hg4, he4, hel4, hS4, hw4⟩ := hh.wr (j := 4) hi' (Nat.le_of_ble_eq_true rfl)
  have hel4 : e4.length = 5 := hel4
  obtain ⟨hh, hf4, hn4⟩ := hw4 (.bool ((k3).tmod 3 == 0)) (.bool _)
  have hfr := fun a (ha : ¬ S a) => (hf4 a ha).trans (hfr a ha)
  have hnx := hn4.trans hnx
  repeat' first|(apply yA;exact rfl)|apply yB|apply yC|((first|apply yG|apply yH|apply yI);exact rfl;(first|exact rfl|exact aop_iaddrO rfl rfl hni hi' hg4 he4 hel4|exact aop_storeO rfl rfl hg4 he4 (by omega)|exact aop_rem rfl rfl (by decide)))|(apply yN;exact rfl)
  obtain ⟨k4, hk4⟩ : ∃ z, k3 + 1 = z := ⟨_, rfl⟩
  rw [show IntKind.i64.wrap (k3 + 1) = k4 by rw [wrap64 (by omega) (by omega)]; exact hk4]
  have hkend : k4 = ki + cntFk ys[i] := by simp only [cntFk]; omega
  refine hnext _ _ rfl (congrArg (fun z => some (AV.c (Ce.int .i64 z))) hkend) rfl hnx hfr ?_
  rw [hset]
  subst hk0 hk1 hk2 hk3 hk4
  exact hh
def markCol (a : Col) (k : Int) : Col := ⟨mText (k), k + 1, (k + 1 + 1).tmod 3 == 0, ⟨k + 1 + 1 + 1, k + 1 + 1 + 1 + 1, mText (k + 1 + 1 + 1 + 1 + 1)⟩⟩
def cntCol (a : Col) : Int := 6
theorem cntCol_nonneg (a : Col) : 0 ≤ cntCol a := by
  simp only [cntCol]
  omega
theorem cntCol_sz (a : Col) (l : Int) (h : 0 ≤ l) (hs : 0 ≤ zCol a l) : cntCol a ≤ 8 * (l - zCol a l) + 8 := by
  have := chain_cnt (fs := [(fun l => l - a.name.length), (szV a.dflt)]) (.cons (c := 0) (cnt_str a.name) (.cons (c := 0) (fun q h hs => by have := szV_le a.dflt q h; omega) .nil)) l h hs
  simp only [cntCol]
  simp only [zCol] at hs ⊢
  omega
theorem markColS_ok (xs : List Col) (k : Int) (hx : xs.length ≤ 34359738368) (hb : ∀ a ∈ xs, bCol 34359738368 a) (hk0 : 0 ≤ k) (hk : k + cntL cntCol xs ≤ 34359738368) : Marks Tryz.prog 55 (.fz (xs.map encCol)) (.fz ((markL markCol cntCol xs k).map encCol)) k (k + cntL cntCol xs) := by
  refine markS_ok mixed c_laws_markColS_ok (Nat.le_of_ble_eq_true rfl) (Nat.le_of_ble_eq_true rfl) encCol markCol cntCol cntCol_nonneg xs k hx hk0 hk ?_
  intro n0 rets R K σ τ S x i ni ki ys hi fr hn0 hyl hni hki0 hki1 h0 h1 h5 hmem hh hnext
  have hi' : i < (ys.map encCol).length := by simpa using hi
  have hyi : (ys.map encCol)[i] = encCol ys[i] := by simp
  have hb := hb _ hmem
  obtain ⟨id, v, c, rfl⟩ := hh.shape hi'
  have hh : Has τ S (.fz ((ys.map encCol).set i (encCol ys[i]))) (.sl id v 0 (ys.map encCol).length c) := by rw [← hyi, List.set_getElem_self]; exact hh
  have hfr : ∀ a, ¬ S a → τ.get a = τ.get a := fun _ _ => rfl
  have hnx : τ.next = τ.next := rfl
  refine .same (look_three h0 h1 h5) ?_
  have hset : ∀ q, (ys.set i q).map encCol = (ys.map encCol).set i (encCol q) := fun q => List.map_set
  simp only [cntCol] at hki1
  obtain ⟨es0, e0, hg0, he0, hel0, hS0, hw0⟩ := hh.wr (j := 0) hi' (Nat.le_of_ble_eq_true rfl)
  have hel0 : e0.length = 6 := hel0
  obtain ⟨hh, hf0, hn0⟩ := hw0 (.str (mText ki)) (.str _)
  have hfr := fun a (ha : ¬ S a) => (hf0 a ha).trans (hfr a ha)
  have hnx := hn0.trans hnx
  repeat' first|(apply yA;exact rfl)|apply yB|apply yC|((first|apply yG|apply yH|apply yI);exact rfl;(first|exact rfl|exact aop_iaddrO rfl rfl hni hi' hg0 he0 hel0|exact aop_storeO rfl rfl hg0 he0 (by omega)))|(apply yN;exact rfl)|((first|apply yQ|apply yR|apply yS);(iterate 3 exact rfl);exact markText_ok _ (by omega))
  obtain ⟨k0, hk0⟩ : ∃ z, ki + 1 = z := ⟨_, rfl⟩
  rw [show IntKind.i64.wrap (ki + 1) = k0 by rw [wrap64 (by omega) (by omega)]; exact hk0]
  obtain ⟨es1, e1, hg1, he1, hel1, hS1, hw1⟩ := hh.wr (j := 1) hi' (Nat.le_of_ble_eq_true rfl)
  have hel1 : e1.length = 6 := hel1
  obtain ⟨hh, hf1, hn1⟩ := hw1 (.int .i64 k0) (.int _ _)
  have hfr := fun a (ha : ¬ S a) => (hf1 a ha).trans (hfr a ha)
  have hnx := hn1.trans hnx
  repeat' first|(apply yA;exact rfl)|apply yB|apply yC|((first|apply yG|apply yH|apply yI);exact rfl;(first|exact rfl|exact aop_iaddrO rfl rfl hni hi' hg1 he1 hel1|exact aop_storeO rfl rfl hg1 he1 (by omega)))|(apply yN;exact rfl)
  obtain ⟨k1, hk1⟩ : ∃ z, k0 + 1 = z := ⟨_, rfl⟩
  rw [show IntKind.i64.wrap (k0 + 1) = k1 by rw [wrap64 (by omega) (by omega)]; exact hk1]
  obtain ⟨es2, e2, hg2, he2, hel2, hS2, hw2⟩ := hh.wr (j := 2) hi' (Nat.le_of_ble_eq_true rfl)
  have hel2 : e2.length = 6 := hel2
  obtain ⟨hh, hf2, hn2⟩ := hw2 (.bool ((k1).tmod 3 == 0)) (.bool _)
  have hfr := fun a (ha : ¬ S a) => (hf2 a ha).trans (hfr a ha)
  have hnx := hn2.trans hnx
  repeat' first|(apply yA;exact rfl)|apply yB|apply yC|((first|apply yG|apply yH|apply yI);exact rfl;(first|exact rfl|exact aop_iaddrO rfl rfl hni hi' hg2 he2 hel2|exact aop_storeO rfl rfl hg2 he2 (by omega)|exact aop_rem rfl rfl (by decide)))|(apply yN;exact rfl)
  obtain ⟨k2, hk2⟩ : ∃ z, k1 + 1 = z := ⟨_, rfl⟩
  rw [show IntKind.i64.wrap (k1 + 1) = k2 by rw [wrap64 (by omega) (by omega)]; exact hk2]
  obtain ⟨es3, e3, hg3, he3, hel3, hS3, hw3⟩ := hh.wr (j := 3) hi' (Nat.le_of_ble_eq_true rfl)
  have hel3 : e3.length = 6 := hel3
  obtain ⟨hh, hf3, hn3⟩ := hw3 (.int .i64 k2) (.int _ _)
  have hfr := fun a (ha : ¬ S a) => (hf3 a ha).trans (hfr a ha)
  have hnx := hn3.trans hnx
  repeat' first|(apply yA;exact rfl)|apply yB|apply yC|((first|apply yG|apply yH|apply yI);exact rfl;(first|exact rfl|exact aop_iaddrO rfl rfl hni hi' hg3 he3 hel3|exact aop_storeO rfl rfl hg3 he3 (by omega)))|(apply yN;exact rfl)
  obtain ⟨k3, hk3⟩ : ∃ z, k2 + 1 = z := ⟨_, rfl⟩
  rw [show IntKind.i64.wrap (k2 + 1) = k3 by rw [wrap64 (by omega) (by omega)]; exact hk3]
  obtain ⟨es4, e4, hg4, he4, hel4, hS4, hw4⟩ := hh.wr (j := 4) hi' (Nat.le_of_ble_eq_true rfl)
  have hel4 : e4.length = 6 := hel4
  obtain ⟨hh, hf4, hn4⟩ := hw4 (.int .i64 k3) (.int _ _)
  have hfr := fun a (ha : ¬ S a) => (hf4 a ha).trans (hfr a ha)
  have hnx := hn4.trans hnx
  repeat' first|(apply yA;exact rfl)|apply yB|apply yC|((first|apply yG|apply yH|apply yI);exact rfl;(first|exact rfl|exact aop_iaddrO rfl rfl hni hi' hg4 he4 hel4|exact aop_storeO rfl rfl hg4 he4 (by omega)))|(apply yN;exact rfl)
  obtain ⟨k4, hk4⟩ : ∃ z, k3 + 1 = z := ⟨_, rfl⟩
  rw [show IntKind.i64.wrap (k3 + 1) = k4 by rw [wrap64 (by omega) (by omega)]; exact hk4]
  obtain ⟨es5, e5, hg5, he5, hel5, hS5, hw5⟩ := hh.wr (j := 5) hi' (Nat.le_of_ble_eq_true rfl)
  have hel5 : e5.length = 6 := hel5
  obtain ⟨hh, hf5, hn5⟩ := hw5 (.str (mText k4)) (.str _)
  have hfr := fun a (ha : ¬ S a) => (hf5 a ha).trans (hfr a ha)
  have hnx := hn5.trans hnx
  repeat' first|(apply yA;exact rfl)|apply yB|apply yC|((first|apply yG|apply yH|apply yI);exact rfl;(first|exact rfl|exact aop_iaddrO rfl rfl hni hi' hg5 he5 hel5|exact aop_storeO rfl rfl hg5 he5 (by omega)))|(apply yN;exact rfl)|((first|apply yQ|apply yR|apply yS);(iterate 3 exact rfl);exact markText_ok _ (by omega))
  obtain ⟨k5, hk5⟩ : ∃ z, k4 + 1 = z := ⟨_, rfl⟩
  rw [show IntKind.i64.wrap (k4 + 1) = k5 by rw [wrap64 (by omega) (by omega)]; exact hk5]
  have hkend : k5 = ki + cntCol ys[i] := by simp only [cntCol]; omega
  refine hnext _ _ rfl (congrArg (fun z => some (AV.c (Ce.int .i64 z))) hkend) rfl hnx hfr ?_
  rw [hset]
  subst hk0 hk1 hk2 hk3 hk4 hk5
  exact hh
def markRowD (a : RowD) (k : Int) : RowD := ⟨k, markL markV (fun _ => 3) a.vals (k + 1)⟩
def cntRowD (a : RowD) : Int := 1 + cntL (fun _ => 3) a.vals
theorem cntRowD_nonneg (a : RowD) : 0 ≤ cntRowD a := by
  have := cntL_nonneg (c := (fun _ => 3)) (fun _ => by decide) a.vals
  simp only [cntRowD]
  omega
theorem cntRowD_sz (a : RowD) (l : Int) (h : 0 ≤ l) (hs : 0 ≤ zRowD a l) : cntRowD a ≤ 8 * (l - zRowD a l) + 8 := by
  have := chain_cnt (fs := [(szL szV a.vals)]) (.cons (c := cntL (fun _ => 3) a.vals) (fun q h hs => szL_cnt8 szV_le szV_cnt a.vals q h hs) .nil) l h hs
  simp only [cntRowD]
  simp only [zRowD] at hs ⊢
  omega
theorem markRowDS_ok (xs : List RowD) (k : Int) (hx : xs.length ≤ 34359738368) (hb : ∀ a ∈ xs, bRowD 34359738368 a) (hk0 : 0 ≤ k) (hk : k + cntL cntRowD xs ≤ 34359738368) : Marks Tryz.prog 60 (.fz (xs.map encRowD)) (.fz ((markL markRowD cntRowD xs k).map encRowD)) k (k + cntL cntRowD xs) := by
  refine markS_ok mixed c_laws_markRowS_ok (Nat.le_of_ble_eq_true rfl) (Nat.le_of_ble_eq_true rfl) encRowD markRowD cntRowD cntRowD_nonneg xs k hx hk0 hk ?_
  intro n0 rets R K σ τ S x i ni ki ys hi fr hn0 hyl hni hki0 hki1 h0 h1 h5 hmem hh hnext
  have hi' : i < (ys.map encRowD).length := by simpa using hi
  have hyi : (ys.map encRowD)[i] = encRowD ys[i] := by simp
  have hb := hb _ hmem
  obtain ⟨id, v, c, rfl⟩ := hh.shape hi'
  have hh : Has τ S (.fz ((ys.map encRowD).set i (encRowD ys[i]))) (.sl id v 0 (ys.map encRowD).length c) := by rw [← hyi, List.set_getElem_self]; exact hh
  have hfr : ∀ a, ¬ S a → τ.get a = τ.get a := fun _ _ => rfl
  have hnx : τ.next = τ.next := rfl
  refine .same (look_three h0 h1 h5) ?_
  have hset : ∀ q, (ys.set i q).map encRowD = (ys.map encRowD).set i (encRowD q) := fun q => List.map_set
  have hc0 := cntL_nonneg (c := (fun _ => 3)) (fun _ => by decide) ys[i].vals
  simp only [cntRowD] at hki1
  obtain ⟨es0, e0, hg0, he0, hel0, hS0, hw0⟩ := hh.wr (j := 0) hi' (Nat.le_of_ble_eq_true rfl)
  have hel0 : e0.length = 2 := hel0
  obtain ⟨hh, hf0, hn0⟩ := hw0 (.int .i64 ki) (.int _ _)
  have hfr := fun a (ha : ¬ S a) => (hf0 a ha).trans (hfr a ha)
  have hnx := hn0.trans hnx
  repeat' first|(apply yA;exact rfl)|apply yB|apply yC|((first|apply yG|apply yH|apply yI);exact rfl;(first|exact rfl|exact aop_iaddrO rfl rfl hni hi' hg0 he0 hel0|exact aop_storeO rfl rfl hg0 he0 (by omega)))|(apply yN;exact rfl)
  obtain ⟨k0, hk0⟩ : ∃ z, ki + 1 = z := ⟨_, rfl⟩
  rw [show IntKind.i64.wrap (ki + 1) = k0 by rw [wrap64 (by omega) (by omega)]; exact hk0]
  obtain ⟨es1, e1, T1, hg1, he1, hel1, hTS1, hj1, hch1, hback1⟩ := hh.ch (j := 1) (y := .fz (ys[i].vals.map encV)) hi' (Nat.le_of_ble_eq_true rfl) rfl
  repeat' first|(apply yA;exact rfl)|apply yB|apply yC|((first|apply yG|apply yH|apply yI);exact rfl;(first|exact rfl|exact aop_iaddrO rfl rfl hni hi' hg1 he1 hel1|exact aop_loadO rfl hg1 he1 (show 0 + 1 < e1.length by omega)))|(apply yN;exact rfl)
  refine Go.call _ rfl rfl rfl ((markValS_ok ys[i].vals k0 hb.1 (by omega) (by omega)).at_ _ T1 _ hch1) ?_
  rintro r τ1 ⟨rfl, hn1, hf1, hhc1⟩
  have hh := hback1 τ1 _ hf1 hhc1
  have hfr := fun a (ha : ¬ S a) => (hf1 a (fun h => ha (hTS1 a h))).trans (hfr a ha)
  have hnx := hn1.trans hnx
  obtain ⟨k1, hk1⟩ : ∃ z, k0 + cntL (fun _ => 3) ys[i].vals = z := ⟨_, rfl⟩
  rw [hk1]
  clear hg1 he1 hel1 hch1 hback1 hf1 hn1 hhc1
  repeat' first|(apply yA;exact rfl)|apply yB|apply yC|((first|apply yG|apply yH|apply yI);exact rfl;(first|exact rfl))|(apply yN;exact rfl)
  have hkend : k1 = ki + cntRowD ys[i] := by simp only [cntRowD]; omega
  refine hnext _ _ rfl (congrArg (fun z => some (AV.c (Ce.int .i64 z))) hkend) rfl hnx hfr ?_
  rw [hset]
  subst hk0 hk1
  exact hh
def markData (a : Data) (k : Int) : Data := ⟨markL markRowD cntRowD a.rows (k)⟩
def cntData (a : Data) : Int := 0 + cntL cntRowD a.rows
theorem cntData_nonneg (a : Data) : 0 ≤ cntData a := by
  have := cntL_nonneg (c := cntRowD) cntRowD_nonneg a.rows
  simp only [cntData]
  omega
theorem cntData_sz (a : Data) (l : Int) (h : 0 ≤ l) (hs : 0 ≤ zData a l) : cntData a ≤ 8 * (l - zData a l) + 8 := by
  have := chain_cnt (fs := [(szL zRowD a.rows)]) (.cons (c := cntL cntRowD a.rows) (fun q h hs => szL_cnt8 zRowD_le cntRowD_sz a.rows q h hs) .nil) l h hs
  simp only [cntData]
  simp only [zData] at hs ⊢
  omega
theorem markDataS_ok (xs : List Data) (k : Int) (hx : xs.length ≤ 34359738368) (hb : ∀ a ∈ xs, bData 34359738368 a) (hk0 : 0 ≤ k) (hk : k + cntL cntData xs ≤ 34359738368) : Marks Tryz.prog 17 (.fz (xs.map encData)) (.fz ((markL markData cntData xs k).map encData)) k (k + cntL cntData xs) := by
  refine markS_ok mixed c_laws_markDataS_ok (Nat.le_of_ble_eq_true rfl) (Nat.le_of_ble_eq_true rfl) encData markData cntData cntData_nonneg xs k hx hk0 hk ?_
  intro n0 rets R K σ τ S x i ni ki ys hi fr hn0 hyl hni hki0 hki1 h0 h1 h5 hmem hh hnext
  have hi' : i < (ys.map encData).length := by simpa using hi
  have hyi : (ys.map encData)[i] = encData ys[i] := by simp
  have hb := hb _ hmem
  obtain ⟨id, v, c, rfl⟩ := hh.shape hi'
  have hh : Has τ S (.fz ((ys.map encData).set i (encData ys[i]))) (.sl id v 0 (ys.map encData).length c) := by rw [← hyi, List.set_getElem_self]; exact hh
  have hfr : ∀ a, ¬ S a → τ.get a = τ.get a := fun _ _ => rfl
  have hnx : τ.next = τ.next := rfl
  refine .same (look_three h0 h1 h5) ?_
  have hset : ∀ q, (ys.set i q).map encData = (ys.map encData).set i (encData q) := fun q => List.map_set
  have hc0 := cntL_nonneg (c := cntRowD) cntRowD_nonneg ys[i].rows
  simp only [cntData] at hki1
  obtain ⟨es0, e0, T0, hg0, he0, hel0, hTS0, hj0, hch0, hback0⟩ := hh.ch (j := 0) (y := .fz (ys[i].rows.map encRowD)) hi' (Nat.le_of_ble_eq_true rfl) rfl
  repeat' first|(apply yA;exact rfl)|apply yB|apply yC|((first|apply yG|apply yH|apply yI);exact rfl;(first|exact rfl|exact aop_iaddrO rfl rfl hni hi' hg0 he0 hel0|exact aop_loadO rfl hg0 he0 (show 0 + 0 < e0.length by omega)))|(apply yN;exact rfl)
  refine Go.call _ rfl rfl rfl ((markRowDS_ok ys[i].rows ki hb.1 hb.2 (by omega) (by omega)).at_ _ T0 _ hch0) ?_
  rintro r τ0 ⟨rfl, hn0, hf0, hhc0⟩
  have hh := hback0 τ0 _ hf0 hhc0
  have hfr := fun a (ha : ¬ S a) => (hf0 a (fun h => ha (hTS0 a h))).trans (hfr a ha)
  have hnx := hn0.trans hnx
  obtain ⟨k0, hk0⟩ : ∃ z, ki + cntL cntRowD ys[i].rows = z := ⟨_, rfl⟩
  rw [hk0]
  clear hg0 he0 hel0 hch0 hback0 hf0 hn0 hhc0
  repeat' first|(apply yA;exact rfl)|apply yB|apply yC|((first|apply yG|apply yH|apply yI);exact rfl;(first|exact rfl))|(apply yN;exact rfl)
  have hkend : k0 = ki + cntData ys[i] := by simp only [cntData]; omega
  refine hnext _ _ rfl (congrArg (fun z => some (AV.c (Ce.int .i64 z))) hkend) rfl hnx hfr ?_
  rw [hset]
  subst hk0
  exact hh
def markTable (a : Table) (k : Int) : Table := ⟨mText (k), markL markCol cntCol a.cols (k + 1), markL markI (fun _ => 1) a.key (k + 1 + cntL cntCol a.cols), markL markUniq cntUniq a.uniques (k + 1 + cntL cntCol a.cols + cntL (fun _ => 1) a.key), markL markChk cntChk a.checks (k + 1 + cntL cntCol a.cols + cntL (fun _ => 1) a.key + cntL cntUniq a.uniques), markL markFk cntFk a.fks (k + 1 + cntL cntCol a.cols + cntL (fun _ => 1) a.key + cntL cntUniq a.uniques + cntL cntChk a.checks)⟩
def cntTable (a : Table) : Int := 1 + cntL cntCol a.cols + cntL (fun _ => 1) a.key + cntL cntUniq a.uniques + cntL cntChk a.checks + cntL cntFk a.fks
theorem cntTable_nonneg (a : Table) : 0 ≤ cntTable a := by
  have := cntL_nonneg (c := cntCol) cntCol_nonneg a.cols
  have := cntL_nonneg (c := (fun _ => 1)) (fun _ => by decide) a.key
  have := cntL_nonneg (c := cntUniq) cntUniq_nonneg a.uniques
  have := cntL_nonneg (c := cntChk) cntChk_nonneg a.checks
  have := cntL_nonneg (c := cntFk) cntFk_nonneg a.fks
  simp only [cntTable]
  omega
theorem cntTable_sz (a : Table) (l : Int) (h : 0 ≤ l) (hs : 0 ≤ zTable a l) : cntTable a ≤ 8 * (l - zTable a l) + 8 := by
  have := chain_cnt (fs := [(fun l => l - a.name.length), (szL zCol a.cols), (zI a.key), (szL zUniq a.uniques), (szL zChk a.checks), (szL zFk a.fks)]) (.cons (c := 0) (cnt_str a.name) (.cons (c := cntL cntCol a.cols) (fun q h hs => szL_cnt8 zCol_le cntCol_sz a.cols q h hs) (.cons (c := cntL (fun _ => 1) a.key) (cnt_ints a.key) (.cons (c := cntL cntUniq a.uniques) (fun q h hs => szL_cnt8 zUniq_le cntUniq_sz a.uniques q h hs) (.cons (c := cntL cntChk a.checks) (fun q h hs => szL_cnt8 zChk_le cntChk_sz a.checks q h hs) (.cons (c := cntL cntFk a.fks) (fun q h hs => szL_cnt8 zFk_le cntFk_sz a.fks q h hs) .nil)))))) l h hs
  simp only [cntTable]
  simp only [zTable] at hs ⊢
  omega
theorem markTableS_ok (xs : List Table) (k : Int) (hx : xs.length ≤ 34359738368) (hb : ∀ a ∈ xs, bTable 34359738368 a) (hk0 : 0 ≤ k) (hk : k + cntL cntTable xs ≤ 34359738368) : Marks Tryz.prog 16 (.fz (xs.map encTable)) (.fz ((markL markTable cntTable xs k).map encTable)) k (k + cntL cntTable xs) := by
  refine markS_ok mixed c_laws_markTableS_ok (Nat.le_of_ble_eq_true rfl) (Nat.le_of_ble_eq_true rfl) encTable markTable cntTable cntTable_nonneg xs k hx hk0 hk ?_
  intro n0 rets R K σ τ S x i ni ki ys hi fr hn0 hyl hni hki0 hki1 h0 h1 h5 hmem hh hnext
  have hi' : i < (ys.map encTable).length := by simpa using hi
  have hyi : (ys.map encTable)[i] = encTable ys[i] := by simp
  have hb := hb _ hmem
  obtain ⟨id, v, c, rfl⟩ := hh.shape hi'
  have hh : Has τ S (.fz ((ys.map encTable).set i (encTable ys[i]))) (.sl id v 0 (ys.map encTable).length c) := by rw [← hyi, List.set_getElem_self]; exact hh
  have hfr : ∀ a, ¬ S a → τ.get a = τ.get a := fun _ _ => rfl
  have hnx : τ.next = τ.next := rfl
  refine .same (look_three h0 h1 h5) ?_
  have hset : ∀ q, (ys.set i q).map encTable = (ys.map encTable).set i (encTable q) := fun q => List.map_set
  have hc0 := cntL_nonneg (c := cntCol) cntCol_nonneg ys[i].cols
  have hc1 := cntL_nonneg (c := (fun _ => 1)) (fun _ => by decide) ys[i].key
  have hc2 := cntL_nonneg (c := cntUniq) cntUniq_nonneg ys[i].uniques
  have hc3 := cntL_nonneg (c := cntChk) cntChk_nonneg ys[i].checks
  have hc4 := cntL_nonneg (c := cntFk) cntFk_nonneg ys[i].fks
  simp only [cntTable] at hki1
  obtain ⟨es0, e0, hg0, he0, hel0, hS0, hw0⟩ := hh.wr (j := 0) hi' (Nat.le_of_ble_eq_true rfl)
  have hel0 : e0.length = 6 := hel0
  obtain ⟨hh, hf0, hn0⟩ := hw0 (.str (mText ki)) (.str _)
  have hfr := fun a (ha : ¬ S a) => (hf0 a ha).trans (hfr a ha)
  have hnx := hn0.trans hnx
  repeat' first|(apply yA;exact rfl)|apply yB|apply yC|((first|apply yG|apply yH|apply yI);exact rfl;(first|exact rfl|exact aop_iaddrO rfl rfl hni hi' hg0 he0 hel0|exact aop_storeO rfl rfl hg0 he0 (by omega)))|(apply yN;exact rfl)|((first|apply yQ|apply yR|apply yS);(iterate 3 exact rfl);exact markText_ok _ (by omega))
  obtain ⟨k0, hk0⟩ : ∃ z, ki + 1 = z := ⟨_, rfl⟩
  rw [show IntKind.i64.wrap (ki + 1) = k0 by rw [wrap64 (by omega) (by omega)]; exact hk0]
  obtain ⟨es1, e1, T1, hg1, he1, hel1, hTS1, hj1, hch1, hback1⟩ := hh.ch (j := 1) (y := .fz (ys[i].cols.map encCol)) hi' (Nat.le_of_ble_eq_true rfl) rfl
  repeat' first|(apply yA;exact rfl)|apply yB|apply yC|((first|apply yG|apply yH|apply yI);exact rfl;(first|exact rfl|exact aop_iaddrO rfl rfl hni hi' hg1 he1 hel1|exact aop_loadO rfl hg1 he1 (show 0 + 1 < e1.length by omega)))|(apply yN;exact rfl)
  refine Go.call _ rfl rfl rfl ((markColS_ok ys[i].cols k0 hb.2.1.1 hb.2.1.2 (by omega) (by omega)).at_ _ T1 _ hch1) ?_
  rintro r τ1 ⟨rfl, hn1, hf1, hhc1⟩
  have hh := hback1 τ1 _ hf1 hhc1
  have hfr := fun a (ha : ¬ S a) => (hf1 a (fun h => ha (hTS1 a h))).trans (hfr a ha)
  have hnx := hn1.trans hnx
  obtain ⟨k1, hk1⟩ : ∃ z, k0 + cntL cntCol ys[i].cols = z := ⟨_, rfl⟩
  rw [hk1]
  clear hg1 he1 hel1 hch1 hback1 hf1 hn1 hhc1
  obtain ⟨es2, e2, T2, hg2, he2, hel2, hTS2, hj2, hch2, hback2⟩ := hh.ch (j := 2) (y := .fz (ys[i].key.map encI)) hi' (Nat.le_of_ble_eq_true rfl) rfl
  repeat' first|(apply yA;exact rfl)|apply yB|apply yC|((first|apply yG|apply yH|apply yI);exact rfl;(first|exact rfl|exact aop_iaddrO rfl rfl hni hi' hg2 he2 hel2|exact aop_loadO rfl hg2 he2 (show 0 + 2 < e2.length by omega)))|(apply yN;exact rfl)
  refine Go.call _ rfl rfl rfl ((markInt64S_ok ys[i].key k1 hb.2.2.1  (by omega) (by omega)).at_ _ T2 _ hch2) ?_
  rintro r τ2 ⟨rfl, hn2, hf2, hhc2⟩
  have hh := hback2 τ2 _ hf2 hhc2
  have hfr := fun a (ha : ¬ S a) => (hf2 a (fun h => ha (hTS2 a h))).trans (hfr a ha)
  have hnx := hn2.trans hnx
  obtain ⟨k2, hk2⟩ : ∃ z, k1 + cntL (fun _ => 1) ys[i].key = z := ⟨_, rfl⟩
  rw [hk2]
  clear hg2 he2 hel2 hch2 hback2 hf2 hn2 hhc2
  obtain ⟨es3, e3, T3, hg3, he3, hel3, hTS3, hj3, hch3, hback3⟩ := hh.ch (j := 3) (y := .fz (ys[i].uniques.map encUniq)) hi' (Nat.le_of_ble_eq_true rfl) rfl
  repeat' first|(apply yA;exact rfl)|apply yB|apply yC|((first|apply yG|apply yH|apply yI);exact rfl;(first|exact rfl|exact aop_iaddrO rfl rfl hni hi' hg3 he3 hel3|exact aop_loadO rfl hg3 he3 (show 0 + 3 < e3.length by omega)))|(apply yN;exact rfl)
  refine Go.call _ rfl rfl rfl ((markUniqS_ok ys[i].uniques k2 hb.2.2.2.1.1 hb.2.2.2.1.2 (by omega) (by omega)).at_ _ T3 _ hch3) ?_
  rintro r τ3 ⟨rfl, hn3, hf3, hhc3⟩
  have hh := hback3 τ3 _ hf3 hhc3
  have hfr := fun a (ha : ¬ S a) => (hf3 a (fun h => ha (hTS3 a h))).trans (hfr a ha)
  have hnx := hn3.trans hnx
  obtain ⟨k3, hk3⟩ : ∃ z, k2 + cntL cntUniq ys[i].uniques = z := ⟨_, rfl⟩
  rw [hk3]
  clear hg3 he3 hel3 hch3 hback3 hf3 hn3 hhc3
  obtain ⟨es4, e4, T4, hg4, he4, hel4, hTS4, hj4, hch4, hback4⟩ := hh.ch (j := 4) (y := .fz (ys[i].checks.map encChk)) hi' (Nat.le_of_ble_eq_true rfl) rfl
  repeat' first|(apply yA;exact rfl)|apply yB|apply yC|((first|apply yG|apply yH|apply yI);exact rfl;(first|exact rfl|exact aop_iaddrO rfl rfl hni hi' hg4 he4 hel4|exact aop_loadO rfl hg4 he4 (show 0 + 4 < e4.length by omega)))|(apply yN;exact rfl)
  refine Go.call _ rfl rfl rfl ((markChkS_ok ys[i].checks k3 hb.2.2.2.2.1.1 hb.2.2.2.2.1.2 (by omega) (by omega)).at_ _ T4 _ hch4) ?_
  rintro r τ4 ⟨rfl, hn4, hf4, hhc4⟩
  have hh := hback4 τ4 _ hf4 hhc4
  have hfr := fun a (ha : ¬ S a) => (hf4 a (fun h => ha (hTS4 a h))).trans (hfr a ha)
  have hnx := hn4.trans hnx
  obtain ⟨k4, hk4⟩ : ∃ z, k3 + cntL cntChk ys[i].checks = z := ⟨_, rfl⟩
  rw [hk4]
  clear hg4 he4 hel4 hch4 hback4 hf4 hn4 hhc4
  obtain ⟨es5, e5, T5, hg5, he5, hel5, hTS5, hj5, hch5, hback5⟩ := hh.ch (j := 5) (y := .fz (ys[i].fks.map encFk)) hi' (Nat.le_of_ble_eq_true rfl) rfl
  repeat' first|(apply yA;exact rfl)|apply yB|apply yC|((first|apply yG|apply yH|apply yI);exact rfl;(first|exact rfl|exact aop_iaddrO rfl rfl hni hi' hg5 he5 hel5|exact aop_loadO rfl hg5 he5 (show 0 + 5 < e5.length by omega)))|(apply yN;exact rfl)
  refine Go.call _ rfl rfl rfl ((markFkS_ok ys[i].fks k4 hb.2.2.2.2.2.1 hb.2.2.2.2.2.2 (by omega) (by omega)).at_ _ T5 _ hch5) ?_
  rintro r τ5 ⟨rfl, hn5, hf5, hhc5⟩
  have hh := hback5 τ5 _ hf5 hhc5
  have hfr := fun a (ha : ¬ S a) => (hf5 a (fun h => ha (hTS5 a h))).trans (hfr a ha)
  have hnx := hn5.trans hnx
  obtain ⟨k5, hk5⟩ : ∃ z, k4 + cntL cntFk ys[i].fks = z := ⟨_, rfl⟩
  rw [hk5]
  clear hg5 he5 hel5 hch5 hback5 hf5 hn5 hhc5
  repeat' first|(apply yA;exact rfl)|apply yB|apply yC|((first|apply yG|apply yH|apply yI);exact rfl;(first|exact rfl))|(apply yN;exact rfl)
  have hkend : k5 = ki + cntTable ys[i] := by simp only [cntTable]; omega
  refine hnext _ _ rfl (congrArg (fun z => some (AV.c (Ce.int .i64 z))) hkend) rfl hnx hfr ?_
  rw [hset]
  subst hk0 hk1 hk2 hk3 hk4 hk5
  exact hh
theorem aop_neB {fr : Fr} {σ : Store} {x y : Opd} {b : Bool} (hx : x.ev fr = some (.c (.bool b))) (hy : y.ev fr = some (.c (.bool b))) : aop (.eq true false [.b] x y) fr σ = some (.c (.bool false), σ) := by
  cases b <;> simp [aop, hx, hy, eqKs, eqK]
theorem solid_end {σ : Store} {τ : Store} {b : Bool} : FrzV τ σ.next (.c (.bool b)) (.c (.bool b)) := .refl (by intro y hy; simp [AV.all] at hy; subst hy; exact .bool _)
theorem New.openC {σ τ : Store} {y : Ce} {r : AV} (h : New σ y r τ) : ∃ x, r = .c x ∧ Gr σ τ ∧ Has τ (fun a => σ.next ≤ a ∧ a < τ.next) y x := by
  obtain ⟨x, l, rfl, rfl, ht, hh⟩ := h
  exact ⟨x, rfl, ⟨l, rfl, ht⟩, hh⟩
theorem has_flat {σ : Store} {S : Nat → Prop} {y x : Ce} (hf : Flat y) (h : Has σ S y x) : x = y := by
  cases hf <;> (cases h; rfl)
theorem hasV_flat {σ : Store} {S : Nat → Prop} {y : Ce} {x : AV} (hf : Flat y) (h : HasV σ S (.c y) x) : x = .c y := by
  cases h with
  | c h => rw [has_flat hf h]
theorem newtup_open {σ τ : Store} {ys : List AV} {r : AV} (h : NewV σ (.tup ys) r τ) : ∃ xs, ∃ U : Nat → Nat → Prop, ∃ hl : xs.length = ys.length, r = .tup xs ∧ Gr σ τ ∧ (∀ i a, U i a → σ.next ≤ a ∧ a < τ.next) ∧ ∀ i (hy : i < ys.length) (hx : i < xs.length), HasV τ (U i) ys[i] xs[i] := by
  obtain ⟨hg, hh⟩ := h
  generalize hy0 : AV.tup ys = y0 at hh
  cases hh with
  | c h => cases hy0
  | agg h => cases hy0
  | @tup S ys' xs U hl hU hd h =>
    injection hy0 with hy0
    subst hy0
    exact ⟨xs, U, hl, rfl, hg, fun i a ha => hU i a ha, h⟩
theorem new3_open {σ τ : Store} {y f g : Ce} {r : AV} (hf : Flat f) (hg' : Flat g) (h : NewV σ (.tup [.c y, .c f, .c g]) r τ) : ∃ x, r = .tup [.c x, .c f, .c g] ∧ Gr σ τ ∧ Has τ (fun a => σ.next ≤ a ∧ a < τ.next) y x := by
  obtain ⟨xs, U, hl, rfl, hg, hU, h⟩ := newtup_open h
  match xs, hl with
  | [x1, x2, x3], _ =>
    have h1 := h 0 (by simp) (by simp)
    have h2 := h 1 (by simp) (by simp)
    have h3 := h 2 (by simp) (by simp)
    simp only [List.getElem_cons_zero, List.getElem_cons_succ] at h1 h2 h3
    obtain rfl := hasV_flat hf h2
    obtain rfl := hasV_flat hg' h3
    cases h1 with
    | c h1 => exact ⟨_, rfl, hg, h1.mono fun a ha => hU 0 a ha⟩
theorem hv_flat {τ : Store} {S : Nat → Prop} {f : Ce} (h : Flat f) : HasV τ S (.c f) (.c f) := .c (.c h)
theorem newPair {σ τ : Store} {y x f : Ce} (hf : Flat f) (h : NewV σ (.c y) (.c x) τ) : NewV σ (.tup [.c y, .c f]) (.tup [.c x, .c f]) τ :=
  ⟨h.1, .pair h.2 (hv_flat (S := fun _ => False) hf) (fun _ h => h) (fun _ h => h.elim) (fun _ _ h => h)⟩
theorem newVec {σ : Store} {v : Nat} {s : Nat} {ys junk : List (List Ce)} (hy : ∀ e ∈ ys, e.length = s ∧ ∀ x ∈ e, Flat x) (hj : Jk s junk) : NewV σ (.c (.fz ys)) (.c (vec (σ.next + 0) v ys junk)) (E σ [(v, ys ++ junk)]) :=
  (Made.new hy (r := .c (vec (σ.next + 0) v ys junk)) ⟨v, junk, hj, rfl, rfl⟩).v
theorem flatIs {xs : List Int} : ∀ e ∈ xs.map encI, e.length = 1 ∧ ∀ x ∈ e, Flat x := flatI xs
def rowsAt (db : List Data) (n : Int) : List RowD := match db[n.toNat]? with | some d => d.rows | none => []
theorem isIn_at {n m : Int} (h : isIn n 0 (m - 1) = true) : 0 ≤ n ∧ n < m := by
  simp only [isIn, Bool.and_eq_true, decide_eq_true_eq] at h
  omega
def valAt (vals : List Val) (c : Int) : Val := vals[c.toNat]?.getD vNull
def keyF (cols : List Int) (vals : List Val) : List Val := cols.map (valAt vals)
def wholeF (cols : List Int) (vals : List Val) : Bool := cols.all fun c => !((valAt vals c).k == 0)
def InR (cols : List Int) (n : Nat) : Prop := ∀ c ∈ cols, 0 ≤ c ∧ c < n
theorem valAt_eq {vals : List Val} {c : Int} (h : c.toNat < vals.length) : valAt vals c = vals[c.toNat] := by rw [valAt, List.getElem?_eq_getElem h]; rfl
theorem keyF_len (cols : List Int) (vals : List Val) : (keyF cols vals).length = cols.length := List.length_map _
theorem keyF_take {cols : List Int} {vals : List Val} {i : Nat} (h : i < cols.length) : keyF (cols.take (i + 1)) vals = keyF (cols.take i) vals ++ [valAt vals cols[i]] := by
  rw [List.take_succ_eq_append_getElem h, keyF, List.map_append]; rfl
theorem wholeF_take {cols : List Int} {vals : List Val} {i : Nat} (h : i < cols.length) : wholeF (cols.take (i + 1)) vals = (wholeF (cols.take i) vals && !((valAt vals cols[i]).k == 0)) := by
  rw [List.take_succ_eq_append_getElem h, wholeF, List.all_append, wholeF, List.all_cons, List.all_nil, Bool.and_true]
theorem keyOf_new (cols : List Int) (vals : List Val) (hx : cols.length ≤ 34359738368) (hi : InR cols vals.length) (σ : Store) : Ok Tryz.prog 123 [.c (.fz (cols.map encI)), .c (.fz (vals.map encV))] σ (NewV σ (.tup [.c (.fz ((keyF cols vals).map encV)), .c (.bool (wholeF cols vals))])) := by
  refine Ok.run mixed c_impl_keyOf_ok (Nat.le_of_ble_eq_true rfl) fun hS hA => ?_
  clear hS hA
  repeat' first|refine yaG ?_|(exfalso;omega)|(refine yaS ?_ ?_<;>intro _)
  refine Go.keep [1, 6, 7, 11, 12, 13] (Go.loops (I := fun m fr τ => ∃ (i : Nat) (k : Int) (v : Nat) (junk : List (List Ce)) (ks : List Val) (b : Bool), m = cols.length - i ∧ i ≤ cols.length ∧ k = i ∧ Jk 3 junk ∧ (ks = keyF (cols.take i) vals ∧ b = wholeF (cols.take i) vals) ∧
    fr = [(1, .c (.fz (vals.map encV))), (6, .c (vec (σ.next + 0) v (ks.map encV) junk)), (7, .c (.bool b)), (11, .c (.fz (cols.map encI))), (12, .c (.int .i64 (cols.length : Int))), (13, .c (.int .i64 k))] ∧ τ = E σ [(v, ks.map encV ++ junk)]) ?_ _ _ _ ⟨0, _, 0, [], [], true, rfl, Nat.zero_le _, rfl, Jk.nil, ⟨rfl, rfl⟩, rfl, rfl⟩)
  rintro m fr τ ⟨i, k, v, junk, ks, b, rfl, hile, hk, hj, ⟨hks, hb⟩, rfl, rfl⟩ hrec
  by_cases hlt : i < cols.length
  · obtain ⟨q1, q2⟩ := hi _ (List.getElem_mem hlt)
    have hc : cols[i] = (cols[i].toNat : Int) := by omega
    have hcl : cols[i].toNat < vals.length := by omega
    have hv := valAt_eq hcl
    have hkl : (ks.map encV).length = i := by rw [List.length_map, hks, keyF_len, List.length_take]; omega
    have hbd : ((ks.map encV).length + 1) * 32 ≤ 140737488355328 := by omega
    have e1 : ks.map encV ++ [encV vals[cols[i].toNat]] = (ks ++ [vals[cols[i].toNat]]).map encV := by simp
    have hk2 : ks ++ [vals[cols[i].toNat]] = keyF (cols.take (i + 1)) vals := by rw [keyF_take hlt, ← hks, hv]
    have hw2 := wholeF_take (vals := vals) hlt
    rw [← hb, hv] at hw2
    cases b
    · repeat' first|refine yaG ?_|((first|apply yG|apply yH|apply yI);exact rfl;(first|exact yX (enc := encI) rfl rfl hk hlt rfl|exact yX (enc := encV) rfl rfl hc hcl rfl))|(apply Go.app1;exact rfl;exact rfl;exact rfl;exact rfl;exact rfl;exact lens;exact hj;exact rfl;exact hbd;intro v' junk' hj')|(exfalso;omega)|(refine yaS ?_ ?_<;>intro _)
      refine Go.keep [1, 6, 7, 11, 12, 13] (hrec _ _ _ (by omega) ⟨i + 1, _, v', junk', ks ++ [vals[cols[i].toNat]], _, rfl, hlt, wrap_succ hk (by omega), hj', ⟨hk2, hw2.symm⟩, ?_, ?_⟩)
      · rw [← e1]; rfl
      · rw [← e1]; rfl
    · repeat' first|refine yaG ?_|((first|apply yG|apply yH|apply yI);exact rfl;(first|exact yX (enc := encI) rfl rfl hk hlt rfl|exact yX (enc := encV) rfl rfl hc hcl rfl))|(apply Go.app1;exact rfl;exact rfl;exact rfl;exact rfl;exact rfl;exact lens;exact hj;exact rfl;exact hbd;intro v' junk' hj')|(exfalso;omega)|(refine yaS ?_ ?_<;>intro _)
      refine Go.keep [1, 6, 7, 11, 12, 13] (hrec _ _ _ (by omega) ⟨i + 1, _, v', junk', ks ++ [vals[cols[i].toNat]], vals[cols[i].toNat].k != 0, rfl, hlt, wrap_succ hk (by omega), hj', ⟨hk2, hw2.symm⟩, ?_, ?_⟩)
      · rw [← e1]; rfl
      · rw [← e1]; rfl
  · repeat' first|refine yaG ?_|(exfalso;omega)|(refine yaS ?_ ?_<;>intro _)
    refine .ret rfl ?_
    rw [List.take_of_length_le (by omega)] at hks hb
    rw [← hks, ← hb]
    exact newPair (.bool _) (newVec clean_append hj)
theorem keyOf_ok (cols : List Int) (vals : List Val) (hx : cols.length ≤ 34359738368) (hi : InR cols vals.length) : Pure Tryz.prog 123 [.c (.fz (cols.map encI)), .c (.fz (vals.map encV))] (.tup [.c (.fz ((keyF cols vals).map encV)), .c (.bool (wholeF cols vals))]) := NewV.pure (keyOf_new cols vals hx hi)
theorem l4Key_new (cols : List Int) (vals : List Val) (hx : cols.length ≤ 34359738368) (hi : InR cols vals.length) (σ : Store) : Ok Tryz.prog 110 [.c (.fz (cols.map encI)), .c (.fz (vals.map encV))] σ (NewV σ (.tup [.c (.fz ((keyF cols vals).map encV)), .c (.bool (wholeF cols vals))])) := by
  refine Ok.run mixed c_spec_l4Key_ok (Nat.le_of_ble_eq_true rfl) fun hS hA => ?_
  clear hS hA
  repeat' first|refine yaG ?_|(exfalso;omega)|(refine yaS ?_ ?_<;>intro _)
  refine Go.keep [0, 1, 6, 7, 8] (Go.loops (I := fun m fr τ => ∃ (i : Nat) (k : Int) (v : Nat) (junk : List (List Ce)) (ks : List Val) (b : Bool), m = cols.length - i ∧ i ≤ cols.length ∧ k = i ∧ Jk 3 junk ∧ (ks = keyF (cols.take i) vals ∧ b = wholeF (cols.take i) vals) ∧
    fr = [(0, .c (.fz (cols.map encI))), (1, .c (.fz (vals.map encV))), (6, .c (vec (σ.next + 0) v (ks.map encV) junk)), (7, .c (.bool b)), (8, .c (.int .i64 k))] ∧ τ = E σ [(v, ks.map encV ++ junk)]) ?_ _ _ _ ⟨0, _, 0, [], [], true, rfl, Nat.zero_le _, rfl, Jk.nil, ⟨rfl, rfl⟩, rfl, rfl⟩)
  rintro m fr τ ⟨i, k, v, junk, ks, b, rfl, hile, hk, hj, ⟨hks, hb⟩, rfl, rfl⟩ hrec
  by_cases hlt : i < cols.length
  · obtain ⟨q1, q2⟩ := hi _ (List.getElem_mem hlt)
    have hc : cols[i] = (cols[i].toNat : Int) := by omega
    have hcl : cols[i].toNat < vals.length := by omega
    have hv := valAt_eq hcl
    have hkl : (ks.map encV).length = i := by rw [List.length_map, hks, keyF_len, List.length_take]; omega
    have hbd : ((ks.map encV).length + 1) * 32 ≤ 140737488355328 := by omega
    have e1 : ks.map encV ++ [encV vals[cols[i].toNat]] = (ks ++ [vals[cols[i].toNat]]).map encV := by simp
    have hk2 : ks ++ [vals[cols[i].toNat]] = keyF (cols.take (i + 1)) vals := by rw [keyF_take hlt, ← hks, hv]
    have hw2 := wholeF_take (vals := vals) hlt
    rw [← hb, hv] at hw2
    cases b
    · repeat' first|refine yaG ?_|((first|apply yG|apply yH|apply yI);exact rfl;(first|exact yX (enc := encI) rfl rfl hk hlt rfl|exact yX (enc := encV) rfl rfl hc hcl rfl))|(apply Go.app1;exact rfl;exact rfl;exact rfl;exact rfl;exact rfl;exact lens;exact hj;exact rfl;exact hbd;intro v' junk' hj')|(exfalso;omega)|(refine yaS ?_ ?_<;>intro _)
      refine Go.keep [0, 1, 6, 7, 8] (hrec _ _ _ (by omega) ⟨i + 1, _, v', junk', ks ++ [vals[cols[i].toNat]], _, rfl, hlt, wrap_succ hk (by omega), hj', ⟨hk2, hw2.symm⟩, ?_, ?_⟩)
      · rw [← e1]; rfl
      · rw [← e1]; rfl
    · repeat' first|refine yaG ?_|((first|apply yG|apply yH|apply yI);exact rfl;(first|exact yX (enc := encI) rfl rfl hk hlt rfl|exact yX (enc := encV) rfl rfl hc hcl rfl))|(apply Go.app1;exact rfl;exact rfl;exact rfl;exact rfl;exact rfl;exact lens;exact hj;exact rfl;exact hbd;intro v' junk' hj')|(exfalso;omega)|(refine yaS ?_ ?_<;>intro _)
      refine Go.keep [0, 1, 6, 7, 8] (hrec _ _ _ (by omega) ⟨i + 1, _, v', junk', ks ++ [vals[cols[i].toNat]], vals[cols[i].toNat].k != 0, rfl, hlt, wrap_succ hk (by omega), hj', ⟨hk2, hw2.symm⟩, ?_, ?_⟩)
      · rw [← e1]; rfl
      · rw [← e1]; rfl
  · repeat' first|refine yaG ?_|(exfalso;omega)|(refine yaS ?_ ?_<;>intro _)
    refine .ret rfl ?_
    rw [List.take_of_length_le (by omega)] at hks hb
    rw [← hks, ← hb]
    exact newPair (.bool _) (newVec clean_append hj)
theorem l4Key_ok (cols : List Int) (vals : List Val) (hx : cols.length ≤ 34359738368) (hi : InR cols vals.length) : Pure Tryz.prog 110 [.c (.fz (cols.map encI)), .c (.fz (vals.map encV))] (.tup [.c (.fz ((keyF cols vals).map encV)), .c (.bool (wholeF cols vals))]) := NewV.pure (l4Key_new cols vals hx hi)
def hasB (cols : List Int) (key vals : List Val) : Bool := wholeF cols vals && (keyF cols vals == key)
def foundF (rows : List RowD) (cols : List Int) (key : List Val) : List Int := (rows.filter fun r => hasB cols key r.vals).map (·.id)
theorem foundF_take {rows : List RowD} {cols : List Int} {key : List Val} {i : Nat} (h : i < rows.length) : foundF (rows.take (i + 1)) cols key = foundF (rows.take i) cols key ++ if hasB cols key rows[i].vals then [rows[i].id] else [] := by
  rw [foundF, List.take_succ_eq_append_getElem h, List.filter_append, List.map_append, foundF]
  congr 1
  rw [List.filter_cons, List.filter_nil]
  split <;> rfl
theorem foundF_len {rows : List RowD} {cols : List Int} {key : List Val} : (foundF rows cols key).length ≤ rows.length := by rw [foundF, List.length_map]; exact List.length_filter_le _ _
theorem has_ok (cols : List Int) (vals key : List Val) (hx : cols.length ≤ 34359738368) (hi : InR cols vals.length) : Pure Tryz.prog 199 [.c (.fz (cols.map encI)), .c (.fz (vals.map encV)), .c (.fz (key.map encV))] (.c (.bool (hasB cols key vals))) := by
  refine Pure.run mixed c_impl_has_ok (Nat.le_of_ble_eq_true rfl) fun σ hS hA => ?_
  clear hS hA
  have c1 := keyOf_ok cols vals hx hi
  have c2 := equalVals_ok (keyF cols vals) key (by rw [keyF_len]; exact hx)
  rw [hasB]
  generalize keyF cols vals = ks at c1 c2 ⊢
  generalize (ks == key) = e at c2 ⊢
  cases hw : wholeF cols vals
  · rw [hw] at c1
    repeat' first|refine yaG ?_|refine yaC (c1) ?_|(exfalso;omega)|(refine yaS ?_ ?_<;>intro _)
    exact .ret rfl (.bool rfl)
  · rw [hw] at c1
    repeat' first|refine yaG ?_|refine yaC (c1) ?_|refine yaC (c2) ?_|(exfalso;omega)|(refine yaS ?_ ?_<;>intro _)
    exact .ret rfl (.bool rfl)
theorem found_ok (rows : List RowD) (cols : List Int) (key : List Val) (hr : rows.length ≤ 1048576) (hx : cols.length ≤ 34359738368) (hi : ∀ r ∈ rows, InR cols r.vals.length) : Pure Tryz.prog 198 [.c (.fz (rows.map encRowD)), .c (.fz (cols.map encI)), .c (.fz (key.map encV))] (.c (.fz ((foundF rows cols key).map encI))) := by
  refine NewV.pure fun σ => Ok.run mixed c_impl_found_ok (Nat.le_of_ble_eq_true rfl) fun hS hA => ?_
  clear hS hA
  repeat' first|refine yaG ?_|(exfalso;omega)|(refine yaS ?_ ?_<;>intro _)
  refine Go.keep [1, 2, 7, 11, 12, 13] (Go.loops (I := fun m fr τ => ∃ (i : Nat) (k : Int) (v : Nat) (junk : List (List Ce)) (ids : List Int), m = rows.length - i ∧ i ≤ rows.length ∧ k = i ∧ Jk 1 junk ∧ ids = foundF (rows.take i) cols key ∧
    fr = [(1, .c (.fz (cols.map encI))), (2, .c (.fz (key.map encV))), (7, .c (vec (σ.next + 0) v (ids.map encI) junk)), (11, .c (.fz (rows.map encRowD))), (12, .c (.int .i64 (rows.length : Int))), (13, .c (.int .i64 k))] ∧ τ = E σ [(v, ids.map encI ++ junk)]) ?_ _ _ _ ⟨0, _, 0, [], [], rfl, Nat.zero_le _, rfl, Jk.nil, rfl, rfl, rfl⟩)
  rintro m fr τ ⟨i, k, v, junk, ids, rfl, hile, hk, hj, hids, rfl, rfl⟩ hrec
  by_cases hlt : i < rows.length
  · have c1 := has_ok cols rows[i].vals key hx (hi _ (List.getElem_mem hlt))
    have hn := foundF_take (cols := cols) (key := key) hlt
    rw [← hids] at hn
    have hl : (ids.map encI).length ≤ 1048576 := by rw [List.length_map, hids]; have := foundF_len (rows := rows.take i) (cols := cols) (key := key); rw [List.length_take] at this; omega
    have hbd : ((ids.map encI).length + 1) * 8 ≤ 140737488355328 := by omega
    have hz1 : ∀ e ∈ ids.map encI, e.length = 1 := fun e he => (flatIs e he).1
    have e1 : ids.map encI ++ [encI rows[i].id] = (ids ++ [rows[i].id]).map encI := by simp
    clear hi
    cases hb : hasB cols key rows[i].vals
    · rw [hb] at c1 hn
      rw [if_neg Bool.false_ne_true, List.append_nil] at hn
      repeat' first|refine yaG ?_|((first|apply yG|apply yH|apply yI);exact rfl;(first|exact yX (enc := encRowD) rfl rfl hk hlt rfl))|refine yaC (c1) ?_|(exfalso;omega)|(refine yaS ?_ ?_<;>intro _)
      exact Go.keep [1, 2, 7, 11, 12, 13] (hrec _ _ _ (by omega) ⟨i + 1, _, v, junk, ids, rfl, hlt, wrap_succ hk (by omega), hj, hn.symm, rfl, rfl⟩)
    · rw [hb] at c1 hn
      rw [if_pos rfl] at hn
      repeat' first|refine yaG ?_|((first|apply yG|apply yH|apply yI);exact rfl;(first|exact yX (enc := encRowD) rfl rfl hk hlt rfl))|(apply Go.app1;exact rfl;exact rfl;exact rfl;exact rfl;exact rfl;exact hz1;exact hj;exact rfl;exact hbd;intro v' junk' hj')|refine yaC (c1) ?_|(exfalso;omega)|(refine yaS ?_ ?_<;>intro _)
      refine Go.keep [1, 2, 7, 11, 12, 13] (hrec _ _ _ (by omega) ⟨i + 1, _, v', junk', ids ++ [rows[i].id], rfl, hlt, wrap_succ hk (by omega), hj', hn.symm, ?_, ?_⟩)
      · rw [← e1]; rfl
      · rw [← e1]; rfl
  · repeat' first|refine yaG ?_|(exfalso;omega)|(refine yaS ?_ ?_<;>intro _)
    refine .ret rfl ?_
    rw [List.take_of_length_le (by omega)] at hids
    rw [← hids]
    exact newVec flatIs hj
theorem l4Find_ok (d : Data) (cols : List Int) (key : List Val) (hr : d.rows.length ≤ 1048576) (hx : cols.length ≤ 34359738368) (hi : ∀ r ∈ d.rows, InR cols r.vals.length) : Pure Tryz.prog 240 [.agg (encData d), .c (.fz (cols.map encI)), .c (.fz (key.map encV))] (.c (.fz ((foundF d.rows cols key).map encI))) := by
  refine NewV.pure fun σ => Ok.run mixed c_spec_l4Find_ok (Nat.le_of_ble_eq_true rfl) fun hS hA => ?_
  clear hS hA
  repeat' first|refine yaG ?_|(exfalso;omega)|(refine yaS ?_ ?_<;>intro _)
  refine Go.keep [1, 2, 3, 7, 8] (Go.loops (I := fun m fr τ => ∃ (i : Nat) (k : Int) (v : Nat) (junk : List (List Ce)) (ids : List Int), m = d.rows.length - i ∧ i ≤ d.rows.length ∧ k = i ∧ Jk 1 junk ∧ ids = foundF (d.rows.take i) cols key ∧
    fr = [(1, .c (.fz (cols.map encI))), (2, .c (.fz (key.map encV))), (3, .c (.fp (encData d))), (7, .c (vec (σ.next + 0) v (ids.map encI) junk)), (8, .c (.int .i64 k))] ∧ τ = E σ [(v, ids.map encI ++ junk)]) ?_ _ _ _ ⟨0, _, 0, [], [], rfl, Nat.zero_le _, rfl, Jk.nil, rfl, rfl, rfl⟩)
  rintro m fr τ ⟨i, k, v, junk, ids, rfl, hile, hk, hj, hids, rfl, rfl⟩ hrec
  by_cases hlt : i < d.rows.length
  · have c1 := l4Key_ok cols d.rows[i].vals hx (hi _ (List.getElem_mem hlt))
    have c2 := l1SameVals_ok (keyF cols d.rows[i].vals) key (by rw [keyF_len]; exact hx)
    have hn := foundF_take (cols := cols) (key := key) hlt
    rw [← hids, hasB] at hn
    have hl : (ids.map encI).length ≤ 1048576 := by rw [List.length_map, hids]; have := foundF_len (rows := d.rows.take i) (cols := cols) (key := key); rw [List.length_take] at this; omega
    have hbd : ((ids.map encI).length + 1) * 8 ≤ 140737488355328 := by omega
    have hz1 : ∀ e ∈ ids.map encI, e.length = 1 := fun e he => (flatIs e he).1
    have e1 : ids.map encI ++ [encI d.rows[i].id] = (ids ++ [d.rows[i].id]).map encI := by simp
    clear hi
    generalize keyF cols d.rows[i].vals = ks at c1 c2 hn
    generalize (ks == key) = q at c2 hn
    cases hb : wholeF cols d.rows[i].vals
    · rw [hb] at c1 hn
      rw [Bool.false_and, if_neg Bool.false_ne_true, List.append_nil] at hn
      repeat' first|refine yaG ?_|((first|apply yG|apply yH|apply yI);exact rfl;(first|exact yX (enc := encRowD) rfl rfl hk hlt rfl))|refine yaC (c1) ?_|(exfalso;omega)|(refine yaS ?_ ?_<;>intro _)
      exact Go.keep [1, 2, 3, 7, 8] (hrec _ _ _ (by omega) ⟨i + 1, _, v, junk, ids, rfl, hlt, wrap_succ hk (by omega), hj, hn.symm, rfl, rfl⟩)
    · cases q
      · rw [hb] at c1 hn
        rw [Bool.and_false, if_neg Bool.false_ne_true, List.append_nil] at hn
        repeat' first|refine yaG ?_|((first|apply yG|apply yH|apply yI);exact rfl;(first|exact yX (enc := encRowD) rfl rfl hk hlt rfl))|refine yaC (c1) ?_|refine yaC (c2) ?_|(exfalso;omega)|(refine yaS ?_ ?_<;>intro _)
        exact Go.keep [1, 2, 3, 7, 8] (hrec _ _ _ (by omega) ⟨i + 1, _, v, junk, ids, rfl, hlt, wrap_succ hk (by omega), hj, hn.symm, rfl, rfl⟩)
      · rw [hb] at c1 hn
        rw [Bool.and_true, if_pos rfl] at hn
        repeat' first|refine yaG ?_|((first|apply yG|apply yH|apply yI);exact rfl;(first|exact yX (enc := encRowD) rfl rfl hk hlt rfl))|(apply Go.app1;exact rfl;exact rfl;exact rfl;exact rfl;exact rfl;exact hz1;exact hj;exact rfl;exact hbd;intro v' junk' hj')|refine yaC (c1) ?_|refine yaC (c2) ?_|(exfalso;omega)|(refine yaS ?_ ?_<;>intro _)
        refine Go.keep [1, 2, 3, 7, 8] (hrec _ _ _ (by omega) ⟨i + 1, _, v', junk', ids ++ [d.rows[i].id], rfl, hlt, wrap_succ hk (by omega), hj', hn.symm, ?_, ?_⟩)
        · rw [← e1]; rfl
        · rw [← e1]; rfl
  · repeat' first|refine yaG ?_|(exfalso;omega)|(refine yaS ?_ ?_<;>intro _)
    refine .ret rfl ?_
    rw [List.take_of_length_le (by omega)] at hids
    rw [← hids]
    exact newVec flatIs hj
structure TabOk (t : Table) : Prop where
  cols0 : 1 ≤ t.cols.length
  cols8 : t.cols.length ≤ 8
  key : InR t.key t.cols.length
  uniq : ∀ u ∈ t.uniques, InR u.cols t.cols.length
  chk : ∀ c ∈ t.checks, exprF c.expr t.cols.length = true
  fk : ∀ f ∈ t.fks, InR f.cols t.cols.length
  uniq3 : t.uniques.length ≤ 3
  chk3 : t.checks.length ≤ 3
  fk3 : t.fks.length ≤ 3
theorem tableF_facts {t : Table} (h : tableF t = true) : TabOk t := by
  simp only [tableF, Bool.and_eq_true, decide_eq_true_eq, Bool.not_eq_true', List.any_eq_false, Bool.not_eq_false', Bool.not_eq_true] at h
  obtain ⟨h1, h2, h3, h4, h5, h6, h7, h8, h9, h10⟩ := h
  have hc := areColsF_len h2
  exact ⟨hc.1, hc.2, colsF_in h3, fun u hu => colsF_in (by simpa using h8 u hu), fun c hc => by simpa using h9 c hc, fun f hf => by
    have : isFkF f t.cols.length = true := by simpa using h10 f hf
    simp only [isFkF, Bool.and_eq_true] at this
    exact colsF_in this.1, by omega, by omega, by omega⟩
theorem schemaF_tab {s : List Table} (h : schemaF s = true) : ∀ t ∈ s, TabOk t := fun t ht => by
  simp only [schemaF, Bool.and_eq_true] at h
  exact tableF_facts (namesAux_ok h.2.1 t ht)
def nullAux (t : Table) : Nat → List Val → Bool
  | _, [] => false
  | i, v :: l => (notNullAt t i && v.k == 0) || nullAux t (i + 1) l
theorem hasNull_ok (t : Table) (vals : List Val) (hl : vals.length = t.cols.length) (hc : t.cols.length ≤ 8) : Pure Tryz.prog 210 [.agg (encTable t), .c (.fz (vals.map encV))] (.c (.bool (nullAux t 0 vals))) := by
  refine Pure.run mixed c_impl_hasNull_ok (Nat.le_of_ble_eq_true rfl) fun σ hS hA => ?_
  clear hS hA
  repeat' first|refine yaG ?_|(exfalso;omega)|(refine yaS ?_ ?_<;>intro _)
  refine Go.keep [2, 7, 8, 9] (Go.loops (I := fun m fr τ => ∃ (i : Nat) (k : Int), m = vals.length - i ∧ i ≤ vals.length ∧ k = i ∧ nullAux t 0 vals = nullAux t i (vals.drop i) ∧
    fr = [(2, .c (.fp (encTable t))), (7, .c (.fz (vals.map encV))), (8, .c (.int .i64 (vals.length : Int))), (9, .c (.int .i64 k))] ∧ τ = E σ []) ?_ _ _ _ ⟨0, _, rfl, Nat.zero_le _, rfl, rfl, rfl, rfl⟩)
  rintro m fr τ ⟨i, k, rfl, hi, hk, hs, rfl, rfl⟩ hrec
  by_cases hlt : i < vals.length
  · have hlc : i < t.cols.length := by omega
    have hnn : notNullAt t i = t.cols[i].notNull := by rw [notNullAt, Int.toNat_natCast, List.getElem?_eq_getElem hlc]
    rw [List.drop_eq_getElem_cons hlt, nullAux, hnn] at hs
    cases hb : t.cols[i].notNull
    · rw [hb, Bool.false_and, Bool.false_or] at hs
      repeat' first|refine yaG ?_|((first|apply yG|apply yH|apply yI);exact rfl;(first|exact yX (enc := encV) rfl rfl hk hlt rfl|exact yX (enc := encCol) rfl rfl hk hlc rfl))|(exfalso;omega)|(refine yaS ?_ ?_<;>intro _)
      all_goals first
        | exact Go.keep [2, 7, 8, 9] (hrec _ _ _ (by omega) ⟨i + 1, _, rfl, hlt, wrap_succ hk (by omega), hs, rfl, rfl⟩)
        | (exfalso; simp_all; done)
    · by_cases h0 : vals[i].k = 0
      · rw [hb, h0] at hs
        repeat' first|refine yaG ?_|((first|apply yG|apply yH|apply yI);exact rfl;(first|exact yX (enc := encV) rfl rfl hk hlt rfl|exact yX (enc := encCol) rfl rfl hk hlc rfl))|(exfalso;omega)|(refine yaS ?_ ?_<;>intro _)
        all_goals first
          | exact .ret rfl (.bool hs.symm)
          | (exfalso; simp_all; done)
      · rw [hb, beq_eq_false_iff_ne.2 h0, Bool.and_false, Bool.false_or] at hs
        repeat' first|refine yaG ?_|((first|apply yG|apply yH|apply yI);exact rfl;(first|exact yX (enc := encV) rfl rfl hk hlt rfl|exact yX (enc := encCol) rfl rfl hk hlc rfl))|(exfalso;omega)|(refine yaS ?_ ?_<;>intro _)
        all_goals first
          | exact Go.keep [2, 7, 8, 9] (hrec _ _ _ (by omega) ⟨i + 1, _, rfl, hlt, wrap_succ hk (by omega), hs, rfl, rfl⟩)
          | (exfalso; simp_all; done)
  · repeat' first|refine yaG ?_|(exfalso;omega)|(refine yaS ?_ ?_<;>intro _)
    rw [List.drop_eq_nil_of_le (by omega), nullAux] at hs
    exact .ret rfl (.bool hs.symm)
theorem l4Nulls_ok (t : Table) (vals : List Val) (hl : vals.length = t.cols.length) (hc : t.cols.length ≤ 8) : Pure Tryz.prog 205 [.agg (encTable t), .c (.fz (vals.map encV))] (.c (.bool (!nullAux t 0 vals))) := by
  refine Pure.run mixed c_spec_l4Nulls_ok (Nat.le_of_ble_eq_true rfl) fun σ hS hA => ?_
  clear hS hA
  repeat' first|refine yaG ?_|(exfalso;omega)|(refine yaS ?_ ?_<;>intro _)
  refine Go.keep [1, 2, 5] (Go.loops (I := fun m fr τ => ∃ (i : Nat) (k : Int), m = vals.length - i ∧ i ≤ vals.length ∧ k = i ∧ nullAux t 0 vals = nullAux t i (vals.drop i) ∧
    fr = [(1, .c (.fz (vals.map encV))), (2, .c (.fp (encTable t))), (5, .c (.int .i64 k))] ∧ τ = E σ []) ?_ _ _ _ ⟨0, _, rfl, Nat.zero_le _, rfl, rfl, rfl, rfl⟩)
  rintro m fr τ ⟨i, k, rfl, hi, hk, hs, rfl, rfl⟩ hrec
  by_cases hlt : i < vals.length
  · have hlc : i < t.cols.length := by omega
    have hnn : notNullAt t i = t.cols[i].notNull := by rw [notNullAt, Int.toNat_natCast, List.getElem?_eq_getElem hlc]
    rw [List.drop_eq_getElem_cons hlt, nullAux, hnn] at hs
    cases hb : t.cols[i].notNull
    · rw [hb, Bool.false_and, Bool.false_or] at hs
      repeat' first|refine yaG ?_|((first|apply yG|apply yH|apply yI);exact rfl;(first|exact yX (enc := encV) rfl rfl hk hlt rfl|exact yX (enc := encCol) rfl rfl hk hlc rfl))|(exfalso;omega)|(refine yaS ?_ ?_<;>intro _)
      all_goals first
        | exact Go.keep [1, 2, 5] (hrec _ _ _ (by omega) ⟨i + 1, _, rfl, hlt, wrap_succ hk (by omega), hs, rfl, rfl⟩)
        | (exfalso; simp_all; done)
    · by_cases h0 : vals[i].k = 0
      · rw [hb, h0] at hs
        repeat' first|refine yaG ?_|((first|apply yG|apply yH|apply yI);exact rfl;(first|exact yX (enc := encV) rfl rfl hk hlt rfl|exact yX (enc := encCol) rfl rfl hk hlc rfl))|(exfalso;omega)|(refine yaS ?_ ?_<;>intro _)
        all_goals first
          | exact .ret rfl (.bool (by rw [hs]; rfl))
          | (exfalso; simp_all; done)
      · rw [hb, beq_eq_false_iff_ne.2 h0, Bool.and_false, Bool.false_or] at hs
        repeat' first|refine yaG ?_|((first|apply yG|apply yH|apply yI);exact rfl;(first|exact yX (enc := encV) rfl rfl hk hlt rfl|exact yX (enc := encCol) rfl rfl hk hlc rfl))|(exfalso;omega)|(refine yaS ?_ ?_<;>intro _)
        all_goals first
          | exact Go.keep [1, 2, 5] (hrec _ _ _ (by omega) ⟨i + 1, _, rfl, hlt, wrap_succ hk (by omega), hs, rfl, rfl⟩)
          | (exfalso; simp_all; done)
  · repeat' first|refine yaG ?_|(exfalso;omega)|(refine yaS ?_ ?_<;>intro _)
    rw [List.drop_eq_nil_of_le (by omega), nullAux] at hs
    exact .ret rfl (.bool (by rw [hs]; rfl))
def checkBad (vals : List Val) (x : Chk) : Bool := decide (truthI x.expr vals < 1)
theorem isChecked1_ok (x : Chk) (vals : List Val) (hx : x.expr.length ≤ 34359738368) (hv : vals.length ≤ 34359738368) : Pure Tryz.prog 254 [.agg (encChk x), .c (.fp [.fz (vals.map encV)])] (.c (.bool (checkBad vals x))) := by
  refine Pure.run mixed c_impl_isChecked_1_ok (Nat.le_of_ble_eq_true rfl) fun σ hS hA => ?_
  clear hS hA
  repeat' first|refine yaG ?_|refine yaC (Truth_ok x.expr vals hx hv) ?_|(exfalso;omega)|(refine yaS ?_ ?_<;>intro _)
  exact .ret rfl (.bool rfl)
theorem isChecked_ok (t : Table) (vals : List Val) (hn : t.checks.length ≤ 34359738368) (hx : ∀ c ∈ t.checks, c.expr.length ≤ 34359738368) (hv : vals.length ≤ 34359738368) : Pure Tryz.prog 211 [.agg (encTable t), .c (.fz (vals.map encV))] (.c (.bool (!(t.checks.any (checkBad vals))))) := by
  refine Pure.run mixed c_impl_isChecked_ok (Nat.le_of_ble_eq_true rfl) fun σ hS hA => ?_
  clear hS hA
  repeat' first|refine yaG ?_|((first|apply Go.pcallB|apply Go.spcallB|apply Qg.pcallB);(iterate 3 exact rfl);exact containsFuncA_ok mixed c_slices_ContainsFunc_Check_ok c_slices_IndexFunc_Check_ok encChk (fun u => .agg (encChk u)) (fun _ => rfl) (fun _ => rfl) t.checks (checkBad vals) _ [] [.fp [.fz (vals.map encV)]] hn (fun j hj _ => isChecked1_ok _ vals (hx _ (List.getElem_mem hj)) hv);intro _ _)|(exfalso;omega)|(refine yaS ?_ ?_<;>intro _)
  rename_i b hb
  exact .ret rfl (.bool (by rw [hb]))
theorem l4Checks_ok (t : Table) (vals : List Val) (hn : t.checks.length ≤ 3) (hx : ∀ c ∈ t.checks, exprF c.expr vals.length = true) (hv : areVals vals 16 = true) : Pure Tryz.prog 206 [.agg (encTable t), .c (.fz (vals.map encV))] (.c (.bool (!(t.checks.any (checkBad vals))))) := by
  refine Pure.run mixed c_spec_l4Checks_ok (Nat.le_of_ble_eq_true rfl) fun σ hS hA => ?_
  clear hS hA
  repeat' first|refine yaG ?_|(exfalso;omega)|(refine yaS ?_ ?_<;>intro _)
  refine Go.keep [1, 2, 5] (Go.loops (I := fun m fr τ => ∃ (i : Nat) (k : Int), m = t.checks.length - i ∧ i ≤ t.checks.length ∧ k = i ∧ t.checks.any (checkBad vals) = (t.checks.drop i).any (checkBad vals) ∧
    fr = [(1, .c (.fz (vals.map encV))), (2, .c (.fp (encTable t))), (5, .c (.int .i64 k))] ∧ τ = E σ []) ?_ _ _ _ ⟨0, _, rfl, Nat.zero_le _, rfl, rfl, rfl, rfl⟩)
  rintro m fr τ ⟨i, k, rfl, hi, hk, hs, rfl, rfl⟩ hrec
  by_cases hlt : i < t.checks.length
  · have hex := hx _ (List.getElem_mem hlt)
    have c1 := l2Truth_ok t.checks[i].expr vals hv hex
    have hTT : truthI t.checks[i].expr vals = truthR t.checks[i].expr vals := by rw [truthI, evalOk, hv, hex]; rfl
    rw [List.drop_eq_getElem_cons hlt, List.any_cons, checkBad, hTT] at hs
    generalize truthR t.checks[i].expr vals = T at c1 hs
    by_cases h1 : T < 1
    · rw [decide_eq_true h1, Bool.true_or] at hs
      repeat' first|refine yaG ?_|((first|apply yG|apply yH|apply yI);exact rfl;(first|exact yX (enc := encChk) rfl rfl hk hlt rfl))|refine yaC (c1) ?_|(exfalso;omega)|(refine yaS ?_ ?_<;>intro _)
      all_goals first
        | exact .ret rfl (.bool (by rw [hs]; rfl))
        | (exfalso; omega)
    · rw [decide_eq_false h1, Bool.false_or] at hs
      repeat' first|refine yaG ?_|((first|apply yG|apply yH|apply yI);exact rfl;(first|exact yX (enc := encChk) rfl rfl hk hlt rfl))|refine yaC (c1) ?_|(exfalso;omega)|(refine yaS ?_ ?_<;>intro _)
      all_goals first
        | exact Go.keep [1, 2, 5] (hrec _ _ _ (by omega) ⟨i + 1, _, rfl, hlt, wrap_succ hk (by omega), hs, rfl, rfl⟩)
        | (exfalso; omega)
  · repeat' first|refine yaG ?_|(exfalso;omega)|(refine yaS ?_ ?_<;>intro _)
    rw [List.drop_eq_nil_of_le (by omega), List.any_nil] at hs
    exact .ret rfl (.bool (by rw [hs]; rfl))
def encIs (cols : List Int) : List Ce := [.fz (cols.map encI)]
theorem old_encIs (n : Nat) (cols : List Int) : ∀ x ∈ encIs cols, Old n x := fun x hx => by
  rw [encIs, List.mem_singleton] at hx
  subst hx
  refine .fz _ fun i j hi hj => ?_
  exact ((flatIs _ (List.getElem_mem hi)).2 _ (List.getElem_mem hj)).old n
theorem frz_old {σ : Store} {l : List (Nat × List (List Ce))} {k v N : Nat} {ys junk : List (List Ce)} (hl : l[k]? = some (v, ys ++ junk)) (ho : ∀ e ∈ ys, ∀ x ∈ e, Old N x) (hN : N ≤ σ.next + k) : FrzV (E σ l) N (.c (vec (σ.next + k) v ys junk)) (.c (.fz ys)) := by
  refine .c (.sl _ _ _ _ _ (ys ++ junk) ys hN (by rw [E_at]; exact hl) (by simp) rfl (fun i hi => ?_) (fun i j hi hj => ?_))
  · simp only [Nat.zero_add]
    rw [List.getElem_append_left hi]
  · have e : (ys ++ junk)[0 + i]'(by simp; omega) = ys[i] := by
      simp only [Nat.zero_add]
      rw [List.getElem_append_left hi]
    simp only [e]
    exact .same _ (ho _ (List.getElem_mem _) _ (List.getElem_mem hj))
def rival (vals : List Val) (r : RowD) (cols : List Int) : Bool := wholeF cols vals && hasB cols (keyF cols vals) r.vals
def keysOf (t : Table) : List (List Int) := t.key :: t.uniques.map (·.cols)
def rivalsF (rows : List RowD) (keys : List (List Int)) (id : Int) (vals : List Val) : List Int := (rows.filter fun r => !(r.id == id) && keys.any (rival vals r)).map (·.id)
theorem rivalsF_take {rows : List RowD} {keys : List (List Int)} {id : Int} {vals : List Val} {i : Nat} (h : i < rows.length) : rivalsF (rows.take (i + 1)) keys id vals = rivalsF (rows.take i) keys id vals ++ if !(rows[i].id == id) && keys.any (rival vals rows[i]) then [rows[i].id] else [] := by
  rw [rivalsF, List.take_succ_eq_append_getElem h, List.filter_append, List.map_append, rivalsF]
  congr 1
  rw [List.filter_cons, List.filter_nil]
  split <;> rfl
theorem rivalsF_len {rows : List RowD} {keys : List (List Int)} {id : Int} {vals : List Val} : (rivalsF rows keys id vals).length ≤ rows.length := by rw [rivalsF, List.length_map]; exact List.length_filter_le _ _
theorem rivals1_ok (cols : List Int) (vals : List Val) (r : RowD) (hx : cols.length ≤ 34359738368) (h1 : InR cols vals.length) (h2 : InR cols r.vals.length) : Pure Tryz.prog 256 [.c (.fz (cols.map encI)), .c (.fp [.fz (vals.map encV)]), .c (.fp (encRowD r))] (.c (.bool (rival vals r cols))) := by
  refine Pure.run mixed c_impl_rivals_1_ok (Nat.le_of_ble_eq_true rfl) fun σ hS hA => ?_
  clear hS hA
  have c1 := keyOf_ok cols vals hx h1
  have c2 := has_ok cols r.vals (keyF cols vals) hx h2
  rw [rival]
  generalize keyF cols vals = ks at c1 c2 ⊢
  generalize hasB cols ks r.vals = b at c2 ⊢
  cases hw : wholeF cols vals
  · rw [hw] at c1
    repeat' first|refine yaG ?_|refine yaC (c1) ?_|(exfalso;omega)|(refine yaS ?_ ?_<;>intro _)
    exact .ret rfl (.bool rfl)
  · rw [hw] at c1
    repeat' first|refine yaG ?_|refine yaC (c1) ?_|refine yaC (c2) ?_|(exfalso;omega)|(refine yaS ?_ ?_<;>intro _)
    exact .ret rfl (.bool rfl)
def twiceF (rows : List RowD) (r : RowD) (cols : List Int) : Bool := wholeF cols r.vals && (foundF rows cols (keyF cols r.vals)).any fun id => !(id == r.id)
theorem l5Twice_ok (d : Data) (cols : List Int) (r : RowD) (hr : d.rows.length ≤ 1048576) (hx : cols.length ≤ 34359738368) (hv : InR cols r.vals.length) (hi : ∀ q ∈ d.rows, InR cols q.vals.length) : Pure Tryz.prog 284 [.agg (encData d), .c (.fz (cols.map encI)), .agg (encRowD r)] (.c (.bool (twiceF d.rows r cols))) := by
  refine Pure.run mixed c_spec_l5Twice_ok (Nat.le_of_ble_eq_true rfl) fun σ hS hA => ?_
  clear hS hA
  have c1 := l4Key_ok cols r.vals hx hv
  have c2 := l4Find_ok d cols (keyF cols r.vals) hr hx hi
  have hl := foundF_len (rows := d.rows) (cols := cols) (key := keyF cols r.vals)
  rw [twiceF]
  generalize foundF d.rows cols (keyF cols r.vals) = ids at c2 hl ⊢
  generalize keyF cols r.vals = ks at c1 c2
  cases hw : wholeF cols r.vals
  · rw [hw] at c1
    repeat' first|refine yaG ?_|refine yaC (c1) ?_|(exfalso;omega)|(refine yaS ?_ ?_<;>intro _)
    exact .ret rfl (.bool rfl)
  rw [hw] at c1
  rw [Bool.true_and]
  repeat' first|refine yaG ?_|refine yaC (c1) ?_|refine yaC (c2) ?_|(exfalso;omega)|(refine yaS ?_ ?_<;>intro _)
  refine Go.keep [5, 9, 10] (Go.loops (I := fun m fr τ => ∃ (i : Nat) (k : Int), m = ids.length - i ∧ i ≤ ids.length ∧ k = i ∧ (ids.any fun id => !(id == r.id)) = ((ids.drop i).any fun id => !(id == r.id)) ∧
    fr = [(5, .c (.fp (encRowD r))), (9, .c (.fz (ids.map encI))), (10, .c (.int .i64 k))] ∧ τ = E σ []) ?_ _ _ _ ⟨0, _, rfl, Nat.zero_le _, rfl, rfl, rfl, rfl⟩)
  rintro m fr τ ⟨i, k, rfl, hile, hk, hs, rfl, rfl⟩ hrec
  by_cases hlt : i < ids.length
  · rw [List.drop_eq_getElem_cons hlt, List.any_cons] at hs
    by_cases h0 : ids[i] = r.id
    · rw [beq_iff_eq.2 h0, Bool.not_true, Bool.false_or] at hs
      repeat' first|refine yaG ?_|((first|apply yG|apply yH|apply yI);exact rfl;(first|exact yX (enc := encI) rfl rfl hk hlt rfl))|(exfalso;omega)|(refine yaS ?_ ?_<;>intro _)
      all_goals first
        | exact Go.keep [5, 9, 10] (hrec _ _ _ (by omega) ⟨i + 1, _, rfl, hlt, wrap_succ hk (by omega), hs, rfl, rfl⟩)
        | (exfalso; simp_all; done)
    · rw [beq_eq_false_iff_ne.2 h0, Bool.not_false, Bool.true_or] at hs
      repeat' first|refine yaG ?_|((first|apply yG|apply yH|apply yI);exact rfl;(first|exact yX (enc := encI) rfl rfl hk hlt rfl))|(exfalso;omega)|(refine yaS ?_ ?_<;>intro _)
      all_goals first
        | exact .ret rfl (.bool hs.symm)
        | (exfalso; simp_all; done)
  · repeat' first|refine yaG ?_|(exfalso;omega)|(refine yaS ?_ ?_<;>intro _)
    rw [List.drop_eq_nil_of_le (by omega), List.any_nil] at hs
    exact .ret rfl (.bool hs.symm)
theorem l5Unique_ok (t : Table) (d : Data) (r : RowD) (hr : d.rows.length ≤ 1048576) (hu : t.uniques.length ≤ 3) (hx : ∀ k ∈ keysOf t, k.length ≤ 34359738368) (hv : ∀ k ∈ keysOf t, InR k r.vals.length) (hi : ∀ k ∈ keysOf t, ∀ r ∈ d.rows, InR k r.vals.length) :
    Pure Tryz.prog 253 [.agg (encTable t), .agg (encData d), .agg (encRowD r)] (.c (.bool (!((keysOf t).any (twiceF d.rows r))))) := by
  refine Pure.run mixed c_spec_l5Unique_ok (Nat.le_of_ble_eq_true rfl) fun σ hS hA => ?_
  clear hS hA
  have hk0 : t.key ∈ keysOf t := by simp [keysOf]
  have c1 := l5Twice_ok d t.key r hr (hx _ hk0) (hv _ hk0) (hi _ hk0)
  rw [keysOf, List.any_cons, List.any_map]
  cases hb : twiceF d.rows r t.key
  · rw [hb] at c1
    rw [Bool.false_or]
    repeat' first|refine yaG ?_|refine yaC (c1) ?_|(exfalso;omega)|(refine yaS ?_ ?_<;>intro _)
    refine Go.keep [3, 4, 5, 7] (Go.loops (I := fun m fr τ => ∃ (i : Nat) (k : Int), m = t.uniques.length - i ∧ i ≤ t.uniques.length ∧ k = i ∧ (t.uniques.any (twiceF d.rows r ∘ (·.cols))) = ((t.uniques.drop i).any (twiceF d.rows r ∘ (·.cols))) ∧
      fr = [(3, .c (.fp (encTable t))), (4, .c (.fp (encData d))), (5, .c (.fp (encRowD r))), (7, .c (.int .i64 k))] ∧ τ = E σ []) ?_ _ _ _ ⟨0, _, rfl, Nat.zero_le _, rfl, rfl, rfl, rfl⟩)
    rintro m fr τ ⟨i, k, rfl, hile, hk, hs, rfl, rfl⟩ hrec
    by_cases hlt : i < t.uniques.length
    · have hki : t.uniques[i].cols ∈ keysOf t := by rw [keysOf]; exact List.mem_cons_of_mem _ (List.mem_map.2 ⟨_, List.getElem_mem hlt, rfl⟩)
      have c2 := l5Twice_ok d t.uniques[i].cols r hr (hx _ hki) (hv _ hki) (hi _ hki)
      rw [List.drop_eq_getElem_cons hlt, List.any_cons, Function.comp_apply] at hs
      cases hq : twiceF d.rows r t.uniques[i].cols
      · rw [hq] at c2 hs
        rw [Bool.false_or] at hs
        repeat' first|refine yaG ?_|((first|apply yG|apply yH|apply yI);exact rfl;(first|exact yX (enc := encUniq) rfl rfl hk hlt rfl))|refine yaC (c2) ?_|(exfalso;omega)|(refine yaS ?_ ?_<;>intro _)
        exact Go.keep [3, 4, 5, 7] (hrec _ _ _ (by omega) ⟨i + 1, _, rfl, hlt, wrap_succ hk (by omega), hs, rfl, rfl⟩)
      · rw [hq] at c2 hs
        rw [Bool.true_or] at hs
        repeat' first|refine yaG ?_|((first|apply yG|apply yH|apply yI);exact rfl;(first|exact yX (enc := encUniq) rfl rfl hk hlt rfl))|refine yaC (c2) ?_|(exfalso;omega)|(refine yaS ?_ ?_<;>intro _)
        exact .ret rfl (.bool (by rw [hs]; rfl))
    · repeat' first|refine yaG ?_|(exfalso;omega)|(refine yaS ?_ ?_<;>intro _)
      rw [List.drop_eq_nil_of_le (by omega), List.any_nil] at hs
      exact .ret rfl (.bool (by rw [hs]; rfl))
  · rw [hb] at c1
    repeat' first|refine yaG ?_|refine yaC (c1) ?_|(exfalso;omega)|(refine yaS ?_ ?_<;>intro _)
    exact .ret rfl (.bool rfl)
def refAt (s : List Table) (f : Fk) : Int := idxA (fun u : Table => u.name == f.table) s 0
def keyAt (s : List Table) (n : Int) : List Int := match s[n.toNat]? with | some u => u.key | none => []
def lostF (s : List Table) (db : List Data) (f : Fk) (vals : List Val) : Bool := wholeF f.cols vals && (((foundF (rowsAt db (refAt s f)) (keyAt s (refAt s f)) (keyF f.cols vals)).length : Int) == 0)
structure FkR (s : List Table) (db : List Data) (vals : List Val) (f : Fk) (n : Nat) : Prop where
  lt : n < s.length
  lt2 : n < db.length
  idx : refAt s f = (n : Int)
  rows : db[n].rows.length ≤ 1048576
  key : s[n].key.length ≤ 34359738368
  cols : f.cols.length ≤ 34359738368
  own : InR f.cols vals.length
  far : ∀ r ∈ db[n].rows, InR s[n].key r.vals.length
theorem FkR.val {s : List Table} {db : List Data} {vals : List Val} {f : Fk} {n : Nat} (h : FkR s db vals f n) : lostF s db f vals = (wholeF f.cols vals && (((foundF (db[n]'h.lt2).rows (s[n]'h.lt).key (keyF f.cols vals)).length : Int) == 0)) := by
  rw [lostF, h.idx, rowsAt, keyAt, Int.toNat_natCast, List.getElem?_eq_getElem h.lt, List.getElem?_eq_getElem h.lt2]
theorem isLost_ok (s : List Table) (db : List Data) (f : Fk) (vals : List Val) (n : Nat) (hs : s.length ≤ 34359738368) (h : FkR s db vals f n) : Pure Tryz.prog 214 [.c (.fz (s.map encTable)), .c (.fz (db.map encData)), .agg (encFk f), .c (.fz (vals.map encV))] (.c (.bool (lostF s db f vals))) := by
  refine Pure.run mixed c_impl_isLost_ok (Nat.le_of_ble_eq_true rfl) fun σ hS hA => ?_
  clear hS hA
  have c1 := TableAt_ok s f.table hs
  have hidx : idxA (fun u : Table => u.name == f.table) s 0 = (n : Int) := h.idx
  rw [hidx] at c1
  have c2 := keyOf_ok f.cols vals h.cols h.own
  have hlt := h.lt
  have hlt2 := h.lt2
  have c3 := found_ok db[n].rows s[n].key (keyF f.cols vals) h.rows h.key h.far
  rw [h.val]
  generalize foundF db[n].rows s[n].key (keyF f.cols vals) = ids at c3 ⊢
  generalize keyF f.cols vals = ks at c2 c3
  cases hw : wholeF f.cols vals
  · rw [hw] at c2
    repeat' first|refine yaG ?_|refine yaC (c1) ?_|refine yaC (c2) ?_|(exfalso;omega)|(refine yaS ?_ ?_<;>intro _)
    exact .ret rfl (.bool rfl)
  · rw [hw] at c2
    repeat' first|refine yaG ?_|((first|apply yG|apply yH|apply yI);exact rfl;(first|exact yX (enc := encTable) rfl rfl rfl hlt rfl|exact yX (enc := encData) rfl rfl rfl hlt2 rfl))|refine yaC (c1) ?_|refine yaC (c2) ?_|refine yaC (c3) ?_|(exfalso;omega)|(refine yaS ?_ ?_<;>intro _)
    exact .ret rfl (.bool rfl)
theorem l5Parent_ok (s : List Table) (db : List Data) (f : Fk) (vals : List Val) (n : Nat) (hs : s.length ≤ 34359738368) (h : FkR s db vals f n) : Pure Tryz.prog 208 [.c (.fz (s.map encTable)), .c (.fz (db.map encData)), .agg (encFk f), .c (.fz (vals.map encV))] (.c (.bool (!lostF s db f vals))) := by
  refine Pure.run mixed c_spec_l5Parent_ok (Nat.le_of_ble_eq_true rfl) fun σ hS hA => ?_
  clear hS hA
  have c1 := l3At_ok s f.table hs
  have hidx : idxA (fun u : Table => u.name == f.table) s 0 = (n : Int) := h.idx
  rw [hidx] at c1
  have c2 := l4Key_ok f.cols vals h.cols h.own
  have hlt := h.lt
  have hlt2 := h.lt2
  have c3 := l4Find_ok db[n] s[n].key (keyF f.cols vals) h.rows h.key h.far
  rw [h.val]
  generalize foundF db[n].rows s[n].key (keyF f.cols vals) = ids at c3 ⊢
  generalize keyF f.cols vals = ks at c2 c3
  cases hw : wholeF f.cols vals
  · rw [hw] at c2
    repeat' first|refine yaG ?_|refine yaC (c1) ?_|refine yaC (c2) ?_|(exfalso;omega)|(refine yaS ?_ ?_<;>intro _)
    exact .ret rfl (.bool rfl)
  · rw [hw] at c2
    repeat' first|refine yaG ?_|((first|apply yG|apply yH|apply yI);exact rfl;(first|exact yX (enc := encTable) rfl rfl rfl hlt rfl|exact yX (enc := encData) rfl rfl rfl hlt2 rfl))|refine yaC (c1) ?_|refine yaC (c2) ?_|refine yaC (c3) ?_|(exfalso;omega)|(refine yaS ?_ ?_<;>intro _)
    refine .ret rfl (.bool ?_)
    rw [Bool.true_and]
    by_cases h0 : (ids.length : Int) = 0
    · rw [beq_iff_eq.2 h0]
      exact decide_eq_false (by omega)
    · rw [beq_eq_false_iff_ne.2 h0]
      exact decide_eq_true (by omega)
def lostBad (s : List Table) (db : List Data) (df : Bool) (vals : List Val) (f : Fk) : Bool := (df || !f.deferred) && lostF s db f vals
theorem isLostRow1_ok (s : List Table) (db : List Data) (f : Fk) (vals : List Val) (df : Bool) (n : Nat) (hs : s.length ≤ 34359738368) (h : FkR s db vals f n) : Pure Tryz.prog 213 [.agg (encFk f), .c (.fp [.bool df]), .c (.fp [.fz (s.map encTable)]), .c (.fp [.fz (db.map encData)]), .c (.fp [.fz (vals.map encV)])] (.c (.bool (lostBad s db df vals f))) := by
  refine Pure.run mixed c_impl_isLostRow_1_ok (Nat.le_of_ble_eq_true rfl) fun σ hS hA => ?_
  clear hS hA
  have c1 := isLost_ok s db f vals n hs h
  rw [lostBad]
  generalize lostF s db f vals = b at c1 ⊢
  cases df
  · cases hd : f.deferred
    · repeat' first|refine yaG ?_|refine yaC (c1) ?_|(exfalso;omega)|(refine yaS ?_ ?_<;>intro _)
      all_goals first
        | exact .ret rfl (.bool rfl)
        | (exfalso; simp_all; done)
        | (refine .ret rfl (.bool ?_); simp_all; done)
    · repeat' first|refine yaG ?_|refine yaC (c1) ?_|(exfalso;omega)|(refine yaS ?_ ?_<;>intro _)
      all_goals first
        | exact .ret rfl (.bool rfl)
        | (exfalso; simp_all; done)
        | (refine .ret rfl (.bool ?_); simp_all; done)
  · repeat' first|refine yaG ?_|refine yaC (c1) ?_|(exfalso;omega)|(refine yaS ?_ ?_<;>intro _)
    all_goals first
      | exact .ret rfl (.bool rfl)
      | (exfalso; simp_all; done)
      | (refine .ret rfl (.bool ?_); simp_all; done)
theorem isLostRow_ok (s : List Table) (db : List Data) (t : Table) (vals : List Val) (df : Bool) (hs : s.length ≤ 34359738368) (hn : t.fks.length ≤ 34359738368) (h : ∀ f ∈ t.fks, ∃ n, FkR s db vals f n) : Pure Tryz.prog 147 [.c (.fz (s.map encTable)), .c (.fz (db.map encData)), .agg (encTable t), .c (.fz (vals.map encV)), .c (.bool df)] (.c (.bool (t.fks.any (lostBad s db df vals)))) := by
  refine Pure.run mixed c_impl_isLostRow_ok (Nat.le_of_ble_eq_true rfl) fun σ hS hA => ?_
  clear hS hA
  have cc := containsFuncA_ok mixed c_slices_ContainsFunc_Fk_ok c_slices_IndexFunc_Fk_ok encFk (fun u => .agg (encFk u)) (fun _ => rfl) (fun _ => rfl) t.fks (lostBad s db df vals) 213 [] [.fp [.bool df], .fp [.fz (s.map encTable)], .fp [.fz (db.map encData)], .fp [.fz (vals.map encV)]] hn (fun j hj _ => by
    obtain ⟨n, hq⟩ := h _ (List.getElem_mem hj)
    exact isLostRow1_ok s db _ vals df n hs hq)
  generalize t.fks.any (lostBad s db df vals) = b at cc ⊢
  repeat' first|refine yaG ?_|refine yaC (cc) ?_|(exfalso;omega)|(refine yaS ?_ ?_<;>intro _)
  exact .ret rfl (.bool rfl)
theorem l5Refers_ok (s : List Table) (db : List Data) (q : Int) (m : Nat) (vals : List Val) (now : Bool) (hs : s.length ≤ 34359738368) (hq : q = (m : Int)) (hm : m < s.length) (hn : s[m].fks.length ≤ 3) (h : ∀ f ∈ s[m].fks, ∃ n, FkR s db vals f n) : Pure Tryz.prog 139 [.c (.fz (s.map encTable)), .c (.fz (db.map encData)), .c (.int .i64 q), .c (.fz (vals.map encV)), .c (.bool now)] (.c (.bool (!(s[m].fks.any (lostBad s db (!now) vals))))) := by
  refine Pure.run mixed c_spec_l5Refers_ok (Nat.le_of_ble_eq_true rfl) fun σ hS hA => ?_
  clear hS hA
  repeat' first|refine yaG ?_|(exfalso;omega)|(refine yaS ?_ ?_<;>intro _)
  refine Go.keep [0, 1, 2, 3, 4, 11] (Go.loops (I := fun mm fr τ => ∃ (i : Nat) (k : Int), mm = s[m].fks.length - i ∧ i ≤ s[m].fks.length ∧ k = i ∧ s[m].fks.any (lostBad s db (!now) vals) = (s[m].fks.drop i).any (lostBad s db (!now) vals) ∧
    fr = [(0, .c (.fz (s.map encTable))), (1, .c (.fz (db.map encData))), (2, .c (.int .i64 q)), (3, .c (.fz (vals.map encV))), (4, .c (.bool now)), (11, .c (.int .i64 k))] ∧ τ = E σ []) ?_ _ _ _ ⟨0, _, rfl, Nat.zero_le _, rfl, rfl, rfl, rfl⟩)
  rintro mm fr τ ⟨i, k, rfl, hi, hk, hsq, rfl, rfl⟩ hrec
  by_cases hlt : i < s[m].fks.length
  · obtain ⟨n, hr⟩ := h _ (List.getElem_mem hlt)
    have c1 := l5Parent_ok s db s[m].fks[i] vals n hs hr
    rw [List.drop_eq_getElem_cons hlt, List.any_cons, lostBad] at hsq
    generalize lostF s db s[m].fks[i] vals = b at c1 hsq
    have skip : (s[m].fks.any (lostBad s db (!now) vals) = (s[m].fks.drop (i + 1)).any (lostBad s db (!now) vals)) → ∀ fr τ, fr = [(0, AV.c (.fz (s.map encTable))), (1, .c (.fz (db.map encData))), (2, .c (.int .i64 q)), (3, .c (.fz (vals.map encV))), (4, .c (.bool now)), (11, .c (.int .i64 (IntKind.i64.wrap (k + 1))))] → τ = E σ [] → _ := fun e fr τ h1 h2 => hrec (s[m].fks.length - (i + 1)) fr τ (by omega) ⟨i + 1, _, rfl, hlt, wrap_succ hk (by omega), e, h1, h2⟩
    clear hrec
    cases now <;> cases hd : s[m].fks[i].deferred <;> cases b
    all_goals
      repeat' first|refine yaG ?_|((first|apply yG|apply yH|apply yI);exact rfl;(first|exact yX (enc := encTable) rfl rfl hq hm rfl|exact yX (enc := encFk) rfl rfl hk hlt rfl))|refine yaC (c1) ?_|(exfalso;omega)|(refine yaS ?_ ?_<;>intro _)
      all_goals first
        | (refine Go.keep [0, 1, 2, 3, 4, 11] (skip ?_ _ _ rfl rfl); simp_all; done)
        | (refine .ret rfl (.bool ?_); simp_all; done)
        | (exfalso; simp_all; done)
  · repeat' first|refine yaG ?_|((first|apply yG|apply yH|apply yI);exact rfl;(first|exact yX (enc := encTable) rfl rfl hq hm rfl))|(exfalso;omega)|(refine yaS ?_ ?_<;>intro _)
    rw [List.drop_eq_nil_of_le (by omega), List.any_nil] at hsq
    exact .ret rfl (.bool (by rw [hsq]; rfl))
def heldV (v : Val) (k : Int) : Int := if v.k = k ∧ v.n = k + 1 ∧ v.s = mText (k + 2) then k + 3 else -1
def heldS {α : Type} (h : α → Int → Int) : List α → Int → Int
  | [], k => k
  | a :: r, k => if h a k < 0 then -1 else heldS h r (h a k)
theorem heldS_mark {α : Type} {h : α → Int → Int} {m : α → Int → α} {c : α → Int} (hm : ∀ a k, 0 ≤ k → h (m a k) k = k + c a) (hc : ∀ a, 0 ≤ c a) : ∀ (xs : List α) (k : Int), 0 ≤ k → heldS h (markL m c xs k) k = k + cntL c xs
  | [], k, _ => by simp [markL, heldS, cntL]
  | a :: r, k, hk => by
    have := hc a
    have := hm a k hk
    simp only [markL, heldS, cntL]
    rw [if_neg (by omega), this, heldS_mark hm hc r _ (by omega)]
    omega
theorem heldV_mark (v : Val) (k : Int) (hk : 0 ≤ k) : heldV (markV v k) k = k + 3 := by simp [heldV, markV]
theorem heldValS_ok (xs : List Val) (k : Int) (hx : xs.length ≤ 34359738368) (hk0 : 0 ≤ k) (hk : k + cntL (fun _ => 3) xs ≤ 34359738368) : Pure Tryz.prog 132 [.c (.fz (xs.map encV)), .c (.int .i64 k)] (.c (.int .i64 (heldS heldV xs k))) := by
  refine Pure.run mixed c_laws_heldValS_ok (Nat.le_of_ble_eq_true rfl) fun σ hS hA => ?_
  clear hS hA
  rw [cnt3] at hk
  repeat' first|refine yaG ?_|(exfalso;omega)|(refine yaS ?_ ?_<;>intro _)
  refine Go.keep [0, 1, 5] (Go.loops (I := fun m fr τ => ∃ i : Nat, ∃ n l : Int, m = xs.length - i ∧ i ≤ xs.length ∧ n = i ∧ (l = k + 3 * i ∧ heldS heldV xs k = heldS heldV (xs.drop i) l) ∧
    fr = [(0, .c (.fz (xs.map encV))), (1, .c (.int .i64 l)), (5, .c (.int .i64 n))] ∧ τ = E σ []) ?_ _ _ _ ⟨0, _, _, rfl, Nat.zero_le _, rfl, ⟨by simp, rfl⟩, rfl, rfl⟩)
  rintro m fr τ ⟨i, n, l, rfl, hi, hn, ⟨hl, hsl⟩, rfl, rfl⟩ hrec
  by_cases hlt : i < xs.length
  · have hw1 : IntKind.i64.wrap (l + 1) = l + 1 := wrap64 (by omega) (by omega)
    have hw2 : IntKind.i64.wrap (l + 1 + 1) = l + 2 := by rw [wrap64 (by omega) (by omega)]; omega
    have hw3 : IntKind.i64.wrap (l + 2 + 1) = l + 3 := by rw [wrap64 (by omega) (by omega)]; omega
    have hdr := List.drop_eq_getElem_cons hlt
    have neg : ¬ (xs[i].k = l ∧ xs[i].n = l + 1 ∧ xs[i].s = mText (l + 2)) → heldS heldV xs k = -1 := fun h => by
      have hv : heldV xs[i] l = -1 := if_neg h
      rw [hsl, hdr, heldS, hv]
      rfl
    repeat' first|refine yaG ?_|((first|apply yG|apply yH|apply yI);exact rfl;(first|exact yX (enc := encV) rfl rfl hn hlt rfl))|(exfalso;omega)|(refine yaS ?_ ?_<;>intro _)
    · refine .ret rfl (.int ?_)
      rename_i h9
      exact (neg fun e => h9 e.1).symm
    · refine .ret rfl (.int ?_)
      rename_i h9
      rw [hw1] at h9
      exact (neg fun e => h9 e.2.1).symm
    rename_i h1 h2
    rw [hw1] at h2 ⊢
    rw [hw2]
    repeat' first|refine yaG ?_|((first|apply yG|apply yH|apply yI);exact rfl;(first|exact yX (enc := encV) rfl rfl hn hlt rfl))|((first|apply yQ|apply yR|apply yS);(iterate 3 exact rfl);exact markText_ok (l + 2) (by omega))|(exfalso;omega)|(refine yaS ?_ ?_<;>intro _)
    · refine .ret rfl (.int ?_)
      rename_i h9
      exact (neg fun e => by simp [e.2.2] at h9).symm
    · refine Go.keep [0, 1, 5] (hrec _ _ _ (by omega) ⟨i + 1, _, _, rfl, hlt, wrap_succ hn (by omega), ⟨hw3.trans (by omega), ?_⟩, rfl, rfl⟩)
      rename_i h3
      have hv : heldV xs[i] l = l + 3 := if_pos ⟨by simpa using h1, by simpa using h2, by simpa using h3⟩
      rw [hsl, hdr, heldS, hv, if_neg (by omega), hw3]
  · repeat' first|refine yaG ?_|(exfalso;omega)|(refine yaS ?_ ?_<;>intro _)
    refine .ret rfl (.int ?_)
    rw [hsl, List.drop_eq_nil_of_le (by omega)]
    rfl
theorem l1CopyVals_mk (xs : List Val) (hx : xs.length ≤ 34359738368) : Makes Tryz.prog 65 [.c (.fz (xs.map encV))] 3 (xs.map encV) := by
  refine Makes.run mixed c_spec_l1CopyVals_ok (Nat.le_of_ble_eq_true rfl) fun σ hS hA => ?_
  clear hS hA
  repeat' first|refine yaG ?_|(exfalso;omega)|(refine yaS ?_ ?_<;>intro _)
  refine Go.app (ys := []) (junk := []) (zs := xs.map encV) rfl rfl rfl rfl rfl (by simp) Jk.nil (fun e he => (clean_append e he).1) (by simp; omega) fun v junk hj => ?_
  repeat' first|refine yaG ?_|(exfalso;omega)|(refine yaS ?_ ?_<;>intro _)
  exact .ret rfl ⟨v, junk, hj, rfl, rfl⟩
def Rise (l : List RowD) : Prop := l.Pairwise fun a b => a.id < b.id
theorem rowsAux_rise {t : Table} : ∀ {l : List RowD} {p : Option Int}, rowsAux t p l = true → Rise l ∧ ∀ q, p = some q → ∀ r ∈ l, q < r.id
  | [], p, _ => ⟨.nil, fun q _ r hr => by simp at hr⟩
  | a :: l, p, h => by
    rw [rowsAux, Bool.and_eq_true] at h
    obtain ⟨h1, h2⟩ := rowsAux_rise h.2
    have h3 := h2 a.id rfl
    refine ⟨List.pairwise_cons.2 ⟨h3, h1⟩, fun q hq r hr => ?_⟩
    subst hq
    have h4 : q < a.id := by
      have := h.1
      simp only [rowOne, risesId, Bool.and_eq_true, decide_eq_true_eq] at this
      exact this.2.1
    rcases List.mem_cons.1 hr with rfl | hr
    · exact h4
    · exact Int.lt_trans h4 (h3 r hr)
theorem rowsF_rise {t : Table} {l : List RowD} (h : rowsF t l = true) : Rise l := by
  rw [rowsF, Bool.and_eq_true] at h
  exact (rowsAux_rise h.1).1
theorem oldRows {n : Nat} (l : List RowD) : OldL n (l.map encRowD) := fun e he c hc => by
  obtain ⟨a, _, rfl⟩ := List.mem_map.1 he
  simp only [encRowD, List.mem_cons, List.not_mem_nil, or_false] at hc
  rcases hc with rfl | rfl
  · exact .int _ _
  · exact old_fz1 (oldL_flat flats)
theorem oldDatas {n : Nat} (l : List Data) : OldL n (l.map encData) := fun e he c hc => by
  obtain ⟨a, _, rfl⟩ := List.mem_map.1 he
  simp only [encData, List.mem_cons, List.not_mem_nil, or_false] at hc
  subst hc
  exact old_fz1 (oldRows _)
theorem rowD_len {l : List RowD} : ∀ e ∈ l.map encRowD, e.length = 2 := fun e he => by
  obtain ⟨a, _, rfl⟩ := List.mem_map.1 he
  rfl
theorem data_len {l : List Data} : ∀ e ∈ l.map encData, e.length = 1 := fun e he => by
  obtain ⟨a, _, rfl⟩ := List.mem_map.1 he
  rfl
theorem l1CopyVals_pure (xs : List Val) (hx : xs.length ≤ 34359738368) : Pure Tryz.prog 65 [.c (.fz (xs.map encV))] (.c (.fz (xs.map encV))) :=
  NewV.pure fun σ => ((l1CopyVals_mk xs hx).at_ σ).mono fun r τ ⟨v, junk, hj, h1, h2⟩ => by
    subst h1 h2
    exact newVec clean_append hj
structure KeysR (t : Table) (d : Data) (x : RowD) : Prop where
  uniq : t.uniques.length ≤ 3
  len : ∀ k ∈ keysOf t, k.length ≤ 34359738368
  own : ∀ k ∈ keysOf t, InR k x.vals.length
  far : ∀ k ∈ keysOf t, ∀ r ∈ d.rows, InR k r.vals.length
theorem flatIs2 {xs : List Int} : ∀ e ∈ xs.map encI, ∀ x ∈ e, Flat x := fun e he => (flatIs e he).2
theorem splice1 (e : List Ce) (x : Ce) (h : e.length = 1) : splice e 0 [x] = [x] := by
  rw [splice, List.take_zero, List.nil_append, List.drop_eq_nil_of_le (by simp; omega), List.append_nil]
theorem set_left {α : Type} {l m : List α} {i : Nat} {x : α} (h : i < l.length) : (l ++ m).set i x = l.set i x ++ m := List.set_append_left _ _ h
theorem l4With_ok (db : List Data) (q : Int) (n : Nat) (d : Data) (hq : q = (n : Int)) (hn : n < db.length) (hd : db.length ≤ 60) : Pure Tryz.prog 112 [.c (.fz (db.map encData)), .c (.int .i64 q), .agg (encData d)] (.c (.fz ((db.set n d).map encData))) := by
  refine Pure.run mixed c_spec_l4With_ok (Nat.le_of_ble_eq_true rfl) fun σ hS hA => ?_
  clear hS hA
  repeat' first|refine yaG ?_|(exfalso;omega)|(refine yaS ?_ ?_<;>intro _)
  refine Go.app (k := 0) (ys := []) (junk := []) (zs := db.map encData) rfl rfl rfl rfl rfl (fun e he => by cases he) Jk.nil data_len (by simp; omega) fun v junk hj => ?_
  have hn2 : n < (db.map encData).length := by simpa using hn
  have hg : (E σ [(v, [] ++ db.map encData ++ junk)]).get (σ.next + 0) = some (v, [] ++ db.map encData ++ junk) := E_get (k := 0) rfl
  have he : ([] ++ db.map encData ++ junk)[0 + n]? = some (encData db[n]) := by
    rw [List.nil_append, Nat.zero_add, List.getElem?_append_left hn2]
    simp [hn]
  have he2 : ([] ++ db.map encData ++ junk)[0 + n]? = some (encData db[n]) := he
  repeat' first|refine yaG ?_|((first|apply yG|apply yH|apply yI);exact rfl;(first|exact aop_iaddrO rfl rfl hq (by simpa using hn2) hg he rfl|exact aop_store (k := 0) rfl rfl rfl rfl he2 rfl (Nat.le_of_ble_eq_true rfl)))|(exfalso;omega)|(refine yaS ?_ ?_<;>intro _)
  refine .ret rfl ⟨_, rfl, ?_⟩
  have e1 : ([] ++ db.map encData ++ junk).set (0 + n) (splice (encData db[n]) 0 (encData d)) = (db.set n d).map encData ++ junk := by
    rw [List.nil_append, Nat.zero_add, show splice (encData db[n]) 0 (encData d) = encData d from splice1 _ _ rfl, set_left hn2, List.map_set]
  have hz := frz_old (σ := σ) (l := [(v, (db.set n d).map encData ++ junk)]) (k := 0) (N := σ.next) (v := v) (ys := (db.set n d).map encData) (junk := junk) rfl (oldDatas _) (Nat.le_refl _)
  rw [← e1] at hz
  have e2 : vec (σ.next + 0) v ((db.set n d).map encData) junk = vec (σ.next + 0) v ([] ++ db.map encData) junk := by simp [vec]
  rw [e2] at hz
  exact hz
def outC (db : List Data) (i : Nat) : List (List Ce) := (db.take i).map encData ++ List.replicate (db.length - i) [.nils]
theorem outC_at {db : List Data} {i : Nat} (h : i < db.length) : (outC db i)[0 + i]? = some [.nils] := by
  rw [outC, Nat.zero_add, List.getElem?_append_right (by rw [List.length_map, List.length_take]; omega), List.getElem?_replicate, if_pos (by rw [List.length_map, List.length_take]; omega)]
theorem outC_set {db : List Data} {i : Nat} (h : i < db.length) : (outC db i).set (0 + i) (encData db[i]) = outC db (i + 1) := by
  have e1 : db.length - i = (db.length - (i + 1)) + 1 := by omega
  have e2 : i - (db.take i).length = 0 := by rw [List.length_take]; omega
  rw [outC, outC, Nat.zero_add, List.set_append_right _ _ (by simp; omega), List.length_map, e2, e1, List.replicate_succ, List.set_cons_zero, List.take_succ_eq_append_getElem h, List.map_append, List.append_assoc]
  rfl
theorem l4Copy_ok (db : List Data) (hd : db.length ≤ 60) (hr : ∀ d ∈ db, d.rows.length ≤ 60 ∧ ∀ r ∈ d.rows, r.vals.length ≤ 34359738368) : Pure Tryz.prog 43 [.c (.fz (db.map encData))] (.c (.fz (db.map encData))) := by
  refine Pure.run mixed c_spec_l4Copy_ok (Nat.le_of_ble_eq_true rfl) fun σ hS hA => ?_
  clear hA
  have hmk : 24 * db.length ≤ 140737488355328 := by omega
  repeat' first|refine yaG ?_|((first|apply yG|apply yH|apply yI);exact rfl;(first|exact aop_mkslice rfl rfl hmk))|(exfalso;omega)|(refine yaS ?_ ?_<;>intro _)
  refine Go.keep [0, 3, 4] (Go.loops (I := fun m fr τ => ∃ (i : Nat) (k : Int), m = db.length - i ∧ i ≤ db.length ∧ k = i ∧
    fr = [(0, .c (.fz (db.map encData))), (3, .c (.sl (σ.next + 0) 0 0 db.length db.length)), (4, .c (.int .i64 k))] ∧ τ = E σ [(0, outC db i)]) ?_ _ _ _ ⟨0, _, rfl, Nat.zero_le _, rfl, rfl, by rw [outC]; simp⟩)
  rintro m fr τ ⟨i, k, rfl, hi, hk, rfl, rfl⟩ hrec
  by_cases hlt : i < db.length
  · obtain ⟨hr1, hr2⟩ := hr _ (List.getElem_mem hlt)
    repeat' first|refine yaG ?_|(exfalso;omega)|(refine yaS ?_ ?_<;>intro _)
    refine Go.keep [0, 3, 4, 5, 6] (Go.loops (I := fun m fr τ => ∃ (j : Nat) (kj : Int) (v : Nat) (junk : List (List Ce)), m = db[i].rows.length - j ∧ j ≤ db[i].rows.length ∧ kj = j ∧ Jk 2 junk ∧
      fr = [(0, .c (.fz (db.map encData))), (3, .c (.sl (σ.next + 0) 0 0 db.length db.length)), (4, .c (.int .i64 k)), (5, .c (vec (σ.next + 1) v ((db[i].rows.take j).map encRowD) junk)), (6, .c (.int .i64 kj))] ∧ τ = E σ [(0, outC db i), (v, (db[i].rows.take j).map encRowD ++ junk)]) ?_ _ _ _ ⟨0, _, 0, [], rfl, Nat.zero_le _, rfl, Jk.nil, rfl, rfl⟩)
    rintro m fr τ ⟨j, kj, v, junk, rfl, hj, hkj, hjk, rfl, rfl⟩ hrecj
    by_cases hltj : j < db[i].rows.length
    · have hbd : (((db[i].rows.take j).map encRowD).length + 1) * 32 ≤ 140737488355328 := by rw [List.length_map, List.length_take]; omega
      have e1 : (db[i].rows.take j).map encRowD ++ [encRowD db[i].rows[j]] = (db[i].rows.take (j + 1)).map encRowD := by rw [List.take_succ_eq_append_getElem hltj, List.map_append]; rfl
      have cc := l1CopyVals_pure db[i].rows[j].vals (hr2 _ (List.getElem_mem hltj))
      repeat' first|refine yaG ?_|((first|apply yG|apply yH|apply yI);exact rfl;(first|exact yX (enc := encData) rfl rfl hk hlt rfl|exact yX (enc := encRowD) rfl rfl hkj hltj rfl))|(apply Go.sapp1;exact rfl;exact rfl;exact rfl;exact rfl;exact rfl;exact rowD_len;exact hjk;exact rfl;exact hbd;intro v' junk' hj')|refine yaC (cc) ?_|(exfalso;omega)|(refine yaS ?_ ?_<;>intro _)
      refine Go.keep [0, 3, 4, 5, 6] (hrecj _ _ _ (by omega) ⟨j + 1, _, v', junk', rfl, hltj, wrap_succ hkj (by omega), hj', ?_, ?_⟩)
      · rw [← e1]; rfl
      · rw [← e1]; rfl
    · clear hrecj
      repeat' first|refine yaG ?_|((first|apply yG|apply yH|apply yI);exact rfl;(first|exact yX (enc := encData) rfl rfl hk hlt rfl))|(exfalso;omega)|(refine yaS ?_ ?_<;>intro _)
      have e1 : db[i].rows.take j = db[i].rows := List.take_of_length_le (by omega)
      rw [e1]
      refine Go.freezeN (l := [(0, outC db i)]) (m := [(v, db[i].rows.map encRowD ++ junk)]) (fr' := [(0, .c (.fz (db.map encData))), (3, .c (.sl (σ.next + 0) 0 0 db.length db.length)), (4, .c (.int .i64 k)), (50, .c (.sl (σ.next + 0) 0 0 db.length db.length)), (51, .c (.int .i64 k)), (53, .agg [.fz (db[i].rows.map encRowD)])]) hS (fun b hb e he x hx => ?_) (Nat.le_refl _) (.frz rfl (.refl fun y hy => ?_) (.frz rfl (.refl (old_sl (Nat.lt_succ_self _))) (.frz rfl (.refl old_c) (.frz rfl (.refl (old_sl (Nat.lt_succ_self _))) (.frz rfl (.refl old_c) (.frz rfl (.agg rfl fun j hj0 => ?_) .nil)))))) ?_
      · rw [List.mem_singleton.1 hb] at he
        rcases List.mem_append.1 he with he | he
        · exact oldDatas _ e he x hx
        · rw [List.eq_of_mem_replicate he] at hx
          rw [List.mem_singleton.1 hx]
          exact .nils
      · rw [List.mem_singleton.1 hy]
        exact old_fz1 (oldDatas _)
      · have hz : FrzV (E σ ([(0, outC db i)] ++ [(v, db[i].rows.map encRowD ++ junk)])) (σ.next + [(0, outC db i)].length) (.c (vec (σ.next + 1) v (db[i].rows.map encRowD) junk)) (.c (.fz (db[i].rows.map encRowD))) := frz_old (k := 1) rfl (oldRows _) (Nat.le_refl _)
        have hj1 : j = 0 := by have hj9 : j < 1 := hj0; omega
        subst hj1
        cases hz with
        | c h => exact h
      have he := outC_at hlt
      have hg : (E σ [(0, outC db i)]).get (σ.next + 0) = some (0, outC db i) := E_get (k := 0) rfl
      repeat' first|refine yaG ?_|((first|apply yG|apply yH|apply yI);exact rfl;(first|exact aop_iaddrO rfl rfl hk hlt hg he rfl|exact aop_store (k := 0) rfl rfl rfl rfl he rfl (Nat.le_of_ble_eq_true rfl)))|(exfalso;omega)|(refine yaS ?_ ?_<;>intro _)
      refine Go.keep [0, 3, 4] (hrec _ _ _ (by omega) ⟨i + 1, _, rfl, hlt, wrap_succ hk (by omega), rfl, ?_⟩)
      rw [← outC_set hlt]
      rfl
  · repeat' first|refine yaG ?_|(exfalso;omega)|(refine yaS ?_ ?_<;>intro _)
    refine .ret rfl ⟨_, rfl, ?_⟩
    have e1 : outC db i = db.map encData ++ [] := by rw [outC, List.take_of_length_le (by omega), show db.length - i = 0 by omega]; rfl
    have hz := frz_old (σ := σ) (l := [(0, db.map encData ++ [])]) (k := 0) (N := σ.next) (v := 0) (ys := db.map encData) (junk := []) rfl (oldDatas _) (Nat.le_refl _)
    rw [← e1] at hz
    have e2 : vec (σ.next + 0) 0 (db.map encData) [] = .sl (σ.next + 0) 0 0 db.length db.length := by simp [vec]
    rw [e2] at hz
    exact hz
def rowsN (db : List Data) (n : Nat) : List RowD := match db[n]? with | some d => d.rows | none => []
def rowBy (l : List RowD) (id : Int) : Option RowD := l.find? fun r => r.id == id
def ableF (t : Table) (vals : List Val) : Int := if nullAux t 0 vals then 2 else if t.checks.any (checkBad vals) then 3 else 0
def dfltAt (t : Table) (i : Nat) : Val := match t.cols[i]? with | some c => c.dflt | none => vNull
def fillAux (t : Table) : Nat → List Val → List Val
  | _, [] => []
  | i, v :: l => (if v.k == 0 && notNullAt t i then dfltAt t i else v) :: fillAux t (i + 1) l
def dropRow (l : List RowD) (id : Int) : List RowD := l.filter fun r => !(r.id == id)
def setRow (l : List RowD) (x : RowD) : List RowD := l.map fun r => if r.id == x.id then x else r
def setCols (casc : Bool) : List Int → List Val → List Val → List Val
  | [], _, vals => vals
  | c :: cs, w, vals => setCols casc cs w.tail (vals.set c.toNat (if casc then w.headD vNull else vNull))
inductive Chg where
  | del (n : Nat) (id : Int)
  | upd (n : Nat) (id : Int) (vals : List Val) (rep : Bool)
abbrev Res := List Data × Int
def clearAux (run : Chg → List Data → Res) (n : Nat) : List Int → List Data → Res
  | [], db => (db, 0)
  | id :: l, db => if (rowBy (rowsN db n) id).isNone then clearAux run n l db else if (run (.del n id) db).2 = 0 then clearAux run n l (run (.del n id) db).1 else ([], (run (.del n id) db).2)
def clearF (run : Chg → List Data → Res) (t : Table) (n : Nat) (x : RowD) (rep : Bool) (db : List Data) : Res :=
  if (decide (0 < (rivalsF (rowsN db n) (keysOf t) x.id x.vals).length) && !rep) = true then ([], 4) else clearAux run n (rivalsF (rowsN db n) (keysOf t) x.id x.vals) db
structure Way where
  act : Int
  wait : Bool
  cols : List Int
def oneF (run : Chg → List Data → Res) (n : Nat) (y : Way) (wth : List Val) (gone : Bool) (x : RowD) (db : List Data) : Res :=
  if y.act = 0 then (if y.wait then (db, 0) else ([], 5))
  else if y.act = 1 ∧ gone = true then run (.del n x.id) db
  else run (.upd n x.id (setCols (y.act == 1) y.cols wth x.vals) false) db
def eachAux (run : Chg → List Data → Res) (n : Nat) (y : Way) (key wth : List Val) (gone : Bool) : List Int → List Data → Res
  | [], db => (db, 0)
  | id :: l, db => match rowBy (rowsN db n) id with
    | none => eachAux run n y key wth gone l db
    | some x => if hasB y.cols key x.vals = true then (if (oneF run n y wth gone x db).2 = 0 then eachAux run n y key wth gone l (oneF run n y wth gone x db).1 else ([], (oneF run n y wth gone x db).2)) else eachAux run n y key wth gone l db
def wayOf (f : Fk) (gone : Bool) : Way := ⟨if gone then f.onDelete else f.onUpdate, f.deferred, f.cols⟩
def fksAux (run : Chg → List Data → Res) (name : List UInt8) (i : Nat) (key wth : List Val) (gone : Bool) : List Fk → List Data → Res
  | [], db => (db, 0)
  | f :: l, db => if f.table = name then
      (if (eachAux run i (wayOf f gone) key wth gone (foundF (rowsN db i) f.cols key) db).2 = 0 then fksAux run name i key wth gone l (eachAux run i (wayOf f gone) key wth gone (foundF (rowsN db i) f.cols key) db).1
       else ([], (eachAux run i (wayOf f gone) key wth gone (foundF (rowsN db i) f.cols key) db).2))
    else fksAux run name i key wth gone l db
def childAux (run : Chg → List Data → Res) (name : List UInt8) (key wth : List Val) (gone : Bool) : Nat → List Table → List Data → Res
  | _, [], db => (db, 0)
  | i, t :: l, db => if (fksAux run name i key wth gone t.fks db).2 = 0 then childAux run name key wth gone (i + 1) l (fksAux run name i key wth gone t.fks db).1 else ([], (fksAux run name i key wth gone t.fks db).2)
def tabN (s : List Table) (n : Nat) : Table := match s[n]? with | some t => t | none => ⟨[], [], [], [], [], []⟩
def childrenF (run : Chg → List Data → Res) (s : List Table) (n : Nat) (key wth : List Val) (gone : Bool) (db : List Data) : Res := childAux run (tabN s n).name key wth gone 0 s db
def lastF (s : List Table) (n : Nat) (id : Int) (db : List Data) : Res := match rowBy (rowsN db n) id with
  | none => (db, 0)
  | some y => if ((tabN s n).fks.any fun f => lostBad s db false y.vals f) = true then ([], 5) else (db, 0)
def upd3 (s : List Table) (n : Nat) (id : Int) (d : Res) : Res := if d.2 = 0 then lastF s n id d.1 else ([], d.2)
def upd2 (run : Chg → List Data → Res) (s : List Table) (n : Nat) (id : Int) (vals : List Val) (old : RowD) (db : List Data) : Res :=
  if keyF (tabN s n).key old.vals = keyF (tabN s n).key vals then (db.set n ⟨setRow (rowsN db n) ⟨id, vals⟩⟩, 0) else childrenF run s n (keyF (tabN s n).key old.vals) (keyF (tabN s n).key vals) false (db.set n ⟨setRow (rowsN db n) ⟨id, vals⟩⟩)
def upd1 (run : Chg → List Data → Res) (s : List Table) (n : Nat) (id : Int) (vals : List Val) (c : Res) : Res :=
  if c.2 = 0 then (match rowBy (rowsN c.1 n) id with
    | none => ([], 9)
    | some old => upd3 s n id (upd2 run s n id vals old c.1)) else ([], c.2)
def updF (run : Chg → List Data → Res) (s : List Table) (n : Nat) (id : Int) (vals : List Val) (rep : Bool) (db : List Data) : Res :=
  if ableF (tabN s n) vals = 0 then upd1 run s n id vals (clearF run (tabN s n) n ⟨id, vals⟩ rep db) else ([], ableF (tabN s n) vals)
def chgF (s : List Table) : Nat → Chg → List Data → Res
  | 0, _, _ => ([], 6)
  | k + 1, .del n id, db => match rowBy (rowsN db n) id with
    | none => ([], 9)
    | some x => childrenF (chgF s k) s n (keyF (tabN s n).key x.vals) [] true (db.set n ⟨dropRow (rowsN db n) id⟩)
  | k + 1, .upd n id vals0 rep, db => updF (chgF s k) s n id (if rep then fillAux (tabN s n) 0 vals0 else vals0) rep db
end Go.Proofs.YtmmgbgpglhbhcaaGreat.Am
