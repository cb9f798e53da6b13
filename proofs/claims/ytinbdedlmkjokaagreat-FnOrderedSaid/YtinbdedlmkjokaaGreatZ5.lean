/- Joined texts: E1, E3, E2, Y1, E4, Y2, K3, Y3, Y4, S5, S6, S7, S9, K4, D1, M0, M1, M3, M2, N0, D2, G1, G2, G3, G4, G5, G6, J1, F10, J2, J3, H0, Y5. -/
import Derived.Test.YtinbdedlmkjokaaGreatZ1
import Derived.Test.YtinbdedlmkjokaaGreatZ2
import Derived.Test.YtinbdedlmkjokaaGreatZ3
import Derived.Test.YtinbdedlmkjokaaGreatZ4
/- Truths and what is made of values: the program. -/
set_option linter.unusedVariables false
set_option linter.unusedSimpArgs false
namespace Go.Proofs.YtinbdedlmkjokaaGreat.Am

theorem val_eq (v w : Val) : ((v.k == w.k && (v.n == w.n && (v.s == w.s && true))) != false) = (v == w) := by
  obtain ⟨a, b, c⟩ := v
  obtain ⟨d, e, f⟩ := w
  rw [Bool.eq_iff_iff]
  simp
theorem encV_flat (v : Val) : ∀ x ∈ encV v, Flat x := flatV v
theorem fin_v {σ : Store} {l : List (Nat × List (List Ce))} (v : Val) : Fin σ (.agg (encV v)) (.agg (encV v)) (E σ l) :=
  ⟨l, rfl, .refl fun y hy => (encV_flat v y hy).old _⟩
theorem fin_vb {σ : Store} {l : List (Nat × List (List Ce))} (v : Val) (b : Bool) : Fin σ (.tup [.agg (encV v), .c (.bool b)]) (.tup [.agg (encV v), .c (.bool b)]) (E σ l) :=
  ⟨l, rfl, .refl fun y hy => by
    simp [AV.all, AV.all.allL, encV] at hy
    rcases hy with rfl | rfl | rfl | rfl
    · exact .int _ _
    · exact .int _ _
    · exact .str _
    · exact .bool _⟩
theorem retv_mt {fr : Fr} {σ : Store} {l : List (Nat × List (List Ce))} {k v i t u j s : Nat} {g : Bool} {es : List (List Ce)} {e : List Ce} {x y : AV} (hp : look fr t = some (.c (.ptr (σ.next + k) v i j))) (hl : l[k]? = some (v, es)) (he : es[i]? = some e) (hj : j ≤ e.length) (hx : takeA g s (e.drop j) = some x) (hu : look fr u = some y) :
    retv fr (E σ l) [.m t g s, .t u] = some (.tup [x, y]) := by
  have h1 := retv_m hp hl he hj hx
  simp only [retv, revs] at h1 ⊢
  cases hq : RV.ev fr (E σ l) (.m t g s) with
  | none => rw [hq] at h1; simp at h1
  | some q =>
    rw [hq] at h1
    simp only [Option.some.injEq] at h1
    subst h1
    have h2 : RV.ev fr (E σ l) (.t u) = some y := hu
    rw [h2]
theorem truthOf_ok (b : Bool) : Pure Tryz.prog 242 [.c (.bool b)] (.c (.int .i64 (yes b))) := by
  refine Pure.run mixed c_impl_truthOf_ok (Nat.le_of_ble_eq_true rfl) fun σ hS hA => ?_
  clear hS hA
  repeat' first|refine yaG ?_|(exfalso;omega)|(refine yaS ?_ ?_<;>intro _)
  all_goals refine .ret rfl (.int ?_)
  all_goals simp_all [yes]
theorem truth_ok (v : Val) : Pure Tryz.prog 232 [.agg (encV v)] (.c (.int .i64 (truthV v))) := by
  refine Pure.run mixed c_impl_truth_ok (Nat.le_of_ble_eq_true rfl) fun σ hS hA => ?_
  clear hS hA
  repeat' first|refine yaG ?_|refine yaC (truthOf_ok _) ?_|(exfalso;omega)|(refine yaS ?_ ?_<;>intro _)
  all_goals refine .ret rfl (.int ?_)
  all_goals simp_all [truthV, yes]
  all_goals (cases h : decide (v.n = 0) <;> simp_all)
theorem valOf_ok (t : Int) : Pure Tryz.prog 236 [.c (.int .i64 t)] (.tup [.agg (encV (asV t).1), .c (.bool (asV t).2)]) := by
  refine Pure.run mixed c_impl_valOf_ok (Nat.le_of_ble_eq_true rfl) fun σ hS hA => ?_
  clear hS hA
  repeat' first|refine yaG ?_|(exfalso;omega)|(refine yaS ?_ ?_<;>intro _)
  · rename_i h
    rw [asV, if_pos h]
    exact .ret (retv_mt rfl rfl rfl (Nat.zero_le _) rfl rfl) (fin_vb _ _)
  · rename_i h
    rw [asV, if_neg h]
    exact .ret (retv_mt rfl rfl rfl (Nat.zero_le _) rfl rfl) (fin_vb (vInt t) _)
theorem areKnown_ok (v w : Val) : Pure Tryz.prog 286 [.agg (encV v), .agg (encV w)] (.c (.bool (knownV v w))) := by
  refine Pure.run mixed c_impl_areKnown_ok (Nat.le_of_ble_eq_true rfl) fun σ hS hA => ?_
  clear hS hA
  repeat' first|refine yaG ?_|((first|apply Go.pcallB|apply Go.spcallB|apply Qg.pcallB);(iterate 3 exact rfl);(first|exact ValOk_ok v|exact ValOk_ok w);intro _ _)|(exfalso;omega)|(refine yaS ?_ ?_<;>intro _)
  all_goals refine .ret rfl (.bool ?_)
  all_goals simp_all [knownV]
  all_goals first
    | rfl
    | (rename_i h; rw [beq_eq_false_iff_ne.2 h]; rfl)
theorem Equal3_ok (v w : Val) : Pure Tryz.prog 237 [.agg (encV v), .agg (encV w)] (.c (.int .i64 (eq3 v w))) := by
  refine Pure.run mixed c_impl_Equal3_ok (Nat.le_of_ble_eq_true rfl) fun σ hS hA => ?_
  clear hS hA
  repeat' first|refine yaG ?_|refine yaC (truthOf_ok _) ?_|((first|apply Go.pcallB|apply Go.spcallB|apply Qg.pcallB);(iterate 3 exact rfl);exact areKnown_ok v w;intro _ _)|(exfalso;omega)|(refine yaS ?_ ?_<;>intro _)
  all_goals refine .ret rfl (.int ?_)
  all_goals rename_i b p k
  · rw [eq3, nbT p k]
    rfl
  · rw [eq3, nbF p k, val_eq]
    rfl
theorem Less3_ok (v w : Val) : Pure Tryz.prog 238 [.agg (encV v), .agg (encV w)] (.c (.int .i64 (less3 v w))) := by
  refine Pure.run mixed c_impl_Less3_ok (Nat.le_of_ble_eq_true rfl) fun σ hS hA => ?_
  clear hS hA
  repeat' first|refine yaG ?_|refine yaC (order_ok v w) ?_|refine yaC (truthOf_ok _) ?_|((first|apply Go.pcallB|apply Go.spcallB|apply Qg.pcallB);(iterate 3 exact rfl);exact areKnown_ok v w;intro _ _)|(exfalso;omega)|(refine yaS ?_ ?_<;>intro _)
  all_goals refine .ret rfl (.int ?_)
  all_goals rename_i b p k
  · rw [less3, nbT p k]
    rfl
  · rw [less3, nbF p k]
    rfl
theorem areTruths1_ok (t : Int) : Pure Tryz.prog 301 [.c (.int .i64 t)] (.c (.bool (!tru t))) := by
  refine Pure.run mixed c_impl_areTruths_1_ok (Nat.le_of_ble_eq_true rfl) fun σ hS hA => ?_
  clear hS hA
  repeat' first|refine yaG ?_|refine yaC (in_ok _ _ _) ?_|(exfalso;omega)|(refine yaS ?_ ?_<;>intro _)
  exact .ret rfl (.bool rfl)
theorem areTruths_ok (l : List Int) (hx : l.length ≤ 34359738368) : Pure Tryz.prog 287 [.c (.fz (l.map encI))] (.c (.bool (!(l.any fun t => !tru t)))) := by
  refine Pure.run mixed c_impl_areTruths_ok (Nat.le_of_ble_eq_true rfl) fun σ hS hA => ?_
  clear hS hA
  repeat' first|refine yaG ?_|refine yaC (containsFuncA_ok mixed c_slices_ContainsFunc_int64_int64'_ok c_slices_IndexFunc_int64_int64'_ok encI (fun n => .c (.int .i64 n)) (fun _ => rfl) (fun _ => rfl) l (fun t => !tru t) _ [] [] hx (fun j hj _ => areTruths1_ok _)) ?_|(exfalso;omega)|(refine yaS ?_ ?_<;>intro _)
  exact .ret rfl (.bool rfl)
theorem two_truths (a b : Int) : (!([a, b].any fun t => !tru t)) = (tru a && tru b) := by
  simp only [List.any_cons, List.any_nil]
  cases tru a <;> cases tru b <;> rfl
theorem And3_ok (a b : Int) : Pure Tryz.prog 239 [.c (.int .i64 a), .c (.int .i64 b)] (.c (.int .i64 (and3 a b))) := by
  refine Pure.run mixed c_impl_And3_ok (Nat.le_of_ble_eq_true rfl) fun σ hS hA => ?_
  clear hS hA
  have c1 := areTruths_ok [a, b] (by simp)
  rw [two_truths] at c1
  repeat' first|refine yaG ?_|((first|apply Go.pcallB|apply Go.spcallB|apply Qg.pcallB);(iterate 3 exact rfl);exact c1;intro _ _)|(exfalso;omega)|(refine yaS ?_ ?_<;>intro _)
  all_goals refine .ret rfl (.int ?_)
  all_goals clear c1
  all_goals simp_all [and3]
theorem Or3_ok (a b : Int) : Pure Tryz.prog 240 [.c (.int .i64 a), .c (.int .i64 b)] (.c (.int .i64 (or3 a b))) := by
  refine Pure.run mixed c_impl_Or3_ok (Nat.le_of_ble_eq_true rfl) fun σ hS hA => ?_
  clear hS hA
  have c1 := areTruths_ok [a, b] (by simp)
  rw [two_truths] at c1
  repeat' first|refine yaG ?_|((first|apply Go.pcallB|apply Go.spcallB|apply Qg.pcallB);(iterate 3 exact rfl);exact c1;intro _ _)|(exfalso;omega)|(refine yaS ?_ ?_<;>intro _)
  all_goals refine .ret rfl (.int ?_)
  all_goals clear c1
  all_goals simp_all [or3]
theorem Not3_ok (a : Int) : Pure Tryz.prog 241 [.c (.int .i64 a)] (.c (.int .i64 (not3 a))) := by
  refine Pure.run mixed c_impl_Not3_ok (Nat.le_of_ble_eq_true rfl) fun σ hS hA => ?_
  clear hS hA
  have c1 := areTruths_ok [a] (by simp)
  have h1 : (!([a].any fun t => !tru t)) = tru a := by simp only [List.any_cons, List.any_nil]; cases tru a <;> rfl
  rw [h1] at c1
  repeat' first|refine yaG ?_|((first|apply Go.pcallB|apply Go.spcallB|apply Qg.pcallB);(iterate 3 exact rfl);exact c1;intro _ _)|(exfalso;omega)|(refine yaS ?_ ?_<;>intro _)
  all_goals refine .ret rfl (.int ?_)
  all_goals clear c1
  · rename_i b p k
    rw [not3, nbT p k]
    rfl
  · rename_i b p k h
    rw [not3, nbF p k, if_pos rfl, if_pos h]
  · rename_i b p k h
    have hr := tru_range.1 (nbF p k)
    rw [not3, nbF p k, if_pos rfl, if_neg h]
    exact wrap64 (by omega) (by omega)
theorem sumOf_ok (a b : Val) (s : Int) (hs : s = 1 ∨ s = -1) (ha : okVal a = true) (hb : okVal b = true) : Pure Tryz.prog 243 [.agg (encV a), .agg (encV b), .c (.int .i64 s)] (.tup [.agg (encV (sumV a b s).1), .c (.bool (sumV a b s).2)]) := by
  refine Pure.run mixed c_impl_sumOf_ok (Nat.le_of_ble_eq_true rfl) fun σ hS hA => ?_
  clear hS hA
  by_cases h1 : a.k = 2 ∨ b.k = 2
  · have e : sumV a b s = (vNull, false) := by simp only [sumV, if_pos h1]
    rw [e]
    rcases h1 with h1 | h1
    · repeat' first|refine yaG ?_|(exfalso;omega)|(refine yaS ?_ ?_<;>intro _)
      all_goals first
        | exact .ret (retv_mt rfl rfl rfl (Nat.zero_le _) rfl rfl) (fin_vb vNull _)
        | (exfalso; omega)
    · repeat' first|refine yaG ?_|(exfalso;omega)|(refine yaS ?_ ?_<;>intro _)
      all_goals first
        | exact .ret (retv_mt rfl rfl rfl (Nat.zero_le _) rfl rfl) (fin_vb vNull _)
        | (exfalso; omega)
  by_cases h2 : a.k = 0 ∨ b.k = 0
  · have e : sumV a b s = (vNull, true) := by simp only [sumV, if_neg h1, if_pos h2]
    rw [e]
    rcases h2 with h2 | h2
    · repeat' first|refine yaG ?_|(exfalso;omega)|(refine yaS ?_ ?_<;>intro _)
      all_goals first
        | exact .ret (retv_mt rfl rfl rfl (Nat.zero_le _) rfl rfl) (fin_vb vNull _)
        | (exfalso; omega)
    · repeat' first|refine yaG ?_|(exfalso;omega)|(refine yaS ?_ ?_<;>intro _)
      all_goals first
        | exact .ret (retv_mt rfl rfl rfl (Nat.zero_le _) rfl rfl) (fin_vb vNull _)
        | (exfalso; omega)
  have e : sumV a b s = (vInt (a.n + s * b.n), okVal (vInt (a.n + s * b.n))) := by simp only [sumV, if_neg h1, if_neg h2]
  have ka : a.k = 1 := by have := okVal_kind ha; omega
  have kb : b.k = 1 := by have := okVal_kind hb; omega
  have ra := okVal_range ha ka
  have rb := okVal_range hb kb
  have hw : IntKind.i64.wrap (a.n + IntKind.i64.wrap (s * b.n)) = a.n + s * b.n := by
    rcases hs with rfl | rfl
    · rw [wrap64 (n := 1 * b.n) (by omega) (by omega), wrap64 (by omega) (by omega)]
    · rw [wrap64 (n := -1 * b.n) (by omega) (by omega), wrap64 (by omega) (by omega)]
  rw [e]
  repeat' first|refine yaG ?_|((first|apply yG|apply yH|apply yI);exact rfl;(first|exact aop_store rfl rfl rfl rfl rfl rfl (Nat.le_of_ble_eq_true rfl)))|refine yaC (ValOk_ok (vInt (IntKind.i64.wrap (a.n + IntKind.i64.wrap (s * b.n))))) ?_|(exfalso;omega)|(refine yaS ?_ ?_<;>intro _)
  all_goals first
    | (exfalso; omega)
    | skip
  rw [hw]
  exact .ret (retv_mt rfl rfl rfl (Nat.zero_le _) rfl rfl) (fin_vb (vInt _) _)
theorem apply0_ok (t : Tok) (row : List Val) (hk : t.kind = 1 ∨ t.kind = 2) (hc : t.kind = 1 → 0 ≤ t.col ∧ t.col < row.length) : Pure Tryz.prog 171 [.agg (encTok t), .c (.fz []), .c (.fz (row.map encV))] (.tup [.agg (encV (applyF t [] row).1), .c (.bool (applyF t [] row).2)]) := by
  refine Pure.run mixed c_impl_Tok_apply_ok (Nat.le_of_ble_eq_true rfl) fun σ hS hA => ?_
  clear hS hA
  rcases hk with h1 | h1
  · have h2 := hc h1
    have hn : t.col.toNat < row.length := by omega
    have hz : t.col = (t.col.toNat : Int) := by omega
    have e : applyF t [] row = (row[t.col.toNat], true) := by simp [applyF, h1, vAt, hn]
    rw [e]
    repeat' first|refine yaG ?_|((first|apply yG|apply yH|apply yI);exact rfl;(first|exact yX (enc := encV) rfl rfl hz hn rfl))|(exfalso;omega)|(refine yaS ?_ ?_<;>intro _)
    exact .ret (retv_mt rfl rfl rfl (Nat.zero_le _) rfl rfl) (fin_vb row[t.col.toNat] _)
  · have e : applyF t [] row = (t.v, true) := by simp [applyF, h1]
    rw [e]
    repeat' first|refine yaG ?_|(exfalso;omega)|(refine yaS ?_ ?_<;>intro _)
    exact .ret (retv_mt rfl rfl rfl (Nat.zero_le _) rfl rfl) (fin_vb t.v _)
theorem apply1_ok (t : Tok) (x : Val) (row : List Val) (hk : t.kind = 7 ∨ t.kind = 8) : Pure Tryz.prog 171 [.agg (encTok t), .c (.fz [encV x]), .c (.fz (row.map encV))] (.tup [.agg (encV (applyF t [x] row).1), .c (.bool (applyF t [x] row).2)]) := by
  refine Pure.run mixed c_impl_Tok_apply_ok (Nat.le_of_ble_eq_true rfl) fun σ hS hA => ?_
  clear hS hA
  rcases hk with h1 | h1
  · have e : applyF t [x] row = asV (not3 (truthV x)) := by simp [applyF, h1, vAt]
    rw [e]
    repeat' first|refine yaG ?_|refine yaC (truth_ok x) ?_|refine yaC (Not3_ok _) ?_|refine yaC (valOf_ok _) ?_|(exfalso;omega)|(refine yaS ?_ ?_<;>intro _)
    exact .ret (retv_mt rfl rfl rfl (Nat.zero_le _) rfl rfl) (fin_vb _ _)
  · have e : applyF t [x] row = asV (yes (x.k == 0)) := by simp [applyF, h1, vAt]
    rw [e]
    repeat' first|refine yaG ?_|refine yaC (truthOf_ok _) ?_|refine yaC (valOf_ok _) ?_|(exfalso;omega)|(refine yaS ?_ ?_<;>intro _)
    exact .ret (retv_mt rfl rfl rfl (Nat.zero_le _) rfl rfl) (fin_vb _ _)
theorem apply2_ok (t : Tok) (x y : Val) (row : List Val) (hk : t.kind = 3 ∨ t.kind = 4 ∨ t.kind = 5 ∨ t.kind = 6 ∨ t.kind = 9 ∨ t.kind = 10) (hx : okVal x = true) (hy : okVal y = true) : Pure Tryz.prog 171 [.agg (encTok t), .c (.fz [encV x, encV y]), .c (.fz (row.map encV))] (.tup [.agg (encV (applyF t [x, y] row).1), .c (.bool (applyF t [x, y] row).2)]) := by
  refine Pure.run mixed c_impl_Tok_apply_ok (Nat.le_of_ble_eq_true rfl) fun σ hS hA => ?_
  clear hS hA
  obtain ⟨r, hr⟩ : ∃ r, applyF t [x, y] row = r := ⟨_, rfl⟩
  rcases hk with h1 | h1 | h1 | h1 | h1 | h1
  all_goals simp only [applyF, h1, vAt, List.getElem?_cons_zero, List.getElem?_cons_succ, Option.getD_some, Int.reduceEq, if_true, if_false, reduceIte] at hr
  all_goals rw [show applyF t [x, y] row = r by simp [applyF, h1, vAt, hr]]
  all_goals repeat' first|refine yaG ?_|((first|apply yG|apply yH|apply yI);exact rfl;(first|exact aop_store rfl rfl rfl rfl rfl rfl (Nat.le_of_ble_eq_true rfl)))|refine yaC (Equal3_ok x y) ?_|refine yaC (Less3_ok x y) ?_|refine yaC (truth_ok x) ?_|refine yaC (truth_ok y) ?_|refine yaC (And3_ok _ _) ?_|refine yaC (Or3_ok _ _) ?_|refine yaC (sumOf_ok x y 1 (.inl rfl) hx hy) ?_|refine yaC (sumOf_ok x y (-1) (.inr rfl) hx hy) ?_|refine yaC (valOf_ok _) ?_|(exfalso;omega)|(refine yaS ?_ ?_<;>intro _)
  all_goals subst hr
  all_goals exact .ret (retv_mt rfl rfl rfl (Nat.zero_le _) rfl rfl) (fin_vb _ _)
end Go.Proofs.YtinbdedlmkjokaaGreat.Am

/- Expressions: the program's Eval and Truth. -/
set_option linter.unusedVariables false
set_option linter.unusedSimpArgs false
namespace Go.Proofs.YtinbdedlmkjokaaGreat.Am

theorem solid_val (v : Val) : Solid (.agg (encV v)) := .agg _ fun i hi => by
  have : i = 0 ∨ i = 1 ∨ i = 2 := by simp only [encV, List.length_cons, List.length_nil] at hi; omega
  rcases this with rfl | rfl | rfl
  · exact .int _ _
  · exact .int _ _
  · exact .str _
theorem solid_vb (v : Val) (b : Bool) : Solid (.tup [.agg (encV v), .c (.bool b)]) := .tup _ fun i hi => by
  have : i = 0 ∨ i = 1 := by simp only [List.length_cons, List.length_nil] at hi; omega
  rcases this with rfl | rfl
  · exact solid_val v
  · exact .bool b
theorem isTok_kinds {t : Tok} {n : Int} (h : isTokF t n = true) : t.kind = 1 ∨ t.kind = 2 ∨ (t.kind = 3 ∨ t.kind = 4 ∨ t.kind = 5 ∨ t.kind = 6 ∨ t.kind = 7 ∨ t.kind = 8 ∨ t.kind = 9 ∨ t.kind = 10) := by
  simp only [isTokF] at h
  split at h
  · exact .inl ‹_›
  · split at h
    · exact .inr (.inl ‹_›)
    · simp only [Bool.and_eq_true] at h
      exact .inr (.inr (isIn_310.1 h.1.1))
theorem isTok_col {t : Tok} {n : Int} (h : isTokF t n = true) (h1 : t.kind = 1) : 0 ≤ t.col ∧ t.col < n := by
  simp only [isTokF, if_pos h1, Bool.and_eq_true, isIn, decide_eq_true_eq] at h
  omega
/-- What a token takes from a stack, applied. -/
theorem apply_ok (t : Tok) (l row : List Val) (ht : isTokF t row.length = true) (hl : (l.length : Int) = tokTakes t) (ho : Oks l) : Pure Tryz.prog 171 [.agg (encTok t), .c (.fz (l.map encV)), .c (.fz (row.map encV))] (.tup [.agg (encV (applyF t l row).1), .c (.bool (applyF t l row).2)]) := by
  have hk := isTok_kinds ht
  have hc := isTok_col ht
  by_cases h0 : t.kind = 1 ∨ t.kind = 2
  · have : tokTakes t = 0 := by rw [tokTakes, if_pos h0]
    have hl0 : l = [] := List.eq_nil_of_length_eq_zero (by omega)
    subst hl0
    exact apply0_ok t row h0 hc
  by_cases h1 : t.kind = 7 ∨ t.kind = 8
  · have : tokTakes t = 1 := by rw [tokTakes, if_neg h0, if_pos h1]
    match l, hl with
    | [x], _ => exact apply1_ok t x row h1
    | [], hl => simp at hl; omega
    | _ :: _ :: _, hl => simp only [List.length_cons] at hl; omega
  · have : tokTakes t = 2 := by rw [tokTakes, if_neg h0, if_neg h1]
    match l, hl with
    | [x, y], _ => exact apply2_ok t x y row (by omega) (ho x (by simp)) (ho y (by simp))
    | [], hl => simp at hl; omega
    | [_], hl => simp at hl; omega
    | _ :: _ :: _ :: _, hl => simp only [List.length_cons] at hl; omega
theorem areVals_oks {l : List Val} {n : Int} (h : areVals l n = true) : Oks l ∧ (l.length : Int) ≤ n := by
  simp only [areVals, Bool.and_eq_true, decide_eq_true_eq, List.all_eq_true] at h
  exact ⟨h.2, h.1⟩
theorem exprF_aux {e : List Tok} {n : Int} (h : exprF e n = true) : (e.length : Int) ≤ 24 ∧ exprAux n 0 e = true := by
  simpa only [exprF, Bool.and_eq_true, decide_eq_true_eq] using h
theorem exprAux_cons {n a : Int} {t : Tok} {r : List Tok} (h : exprAux n a (t :: r) = true) : isTokF t n = true ∧ tokTakes t ≤ a ∧ exprAux n (a + 1 - tokTakes t) r = true := by
  simp only [exprAux, Bool.and_eq_true, decide_eq_true_eq] at h
  exact ⟨h.1.1, h.1.2, h.2⟩
theorem Oks.take {l : List Val} (h : Oks l) (n : Nat) : Oks (l.take n) := fun v hv => h v (List.mem_of_mem_take hv)
theorem Oks.drop {l : List Val} (h : Oks l) (n : Nat) : Oks (l.drop n) := fun v hv => h v (List.mem_of_mem_drop hv)
theorem Oks.snoc {l : List Val} (h : Oks l) {v : Val} (hv : okVal v = true) : Oks (l ++ [v]) := fun w hw => by
  rcases List.mem_append.1 hw with hw | hw
  · exact h w hw
  · rw [List.mem_singleton.1 hw]; exact hv
theorem flats {l : List Val} : ∀ e ∈ l.map encV, ∀ x ∈ e, Flat x := fun e he x hx => (clean_append e he).2 x hx
theorem lens {l : List Val} : ∀ e ∈ l.map encV, e.length = 3 := fun e he => (clean_append e he).1
theorem old_ptr {n id v i j : Nat} (h : id < n) : ∀ y ∈ (AV.c (.ptr id v i j)).all, Old n y := fun y hy => by
  simp only [AV.all, List.mem_singleton] at hy
  subst hy
  exact .ptr _ _ _ _ h
theorem old_sl {n id v i j c : Nat} (h : id < n) : ∀ y ∈ (AV.c (.sl id v i j c)).all, Old n y := fun y hy => by
  simp only [AV.all, List.mem_singleton] at hy
  subst hy
  exact .sl _ _ _ _ _ h
theorem old_int {n : Nat} {k : IntKind} {z : Int} : ∀ y ∈ (AV.c (.int k z)).all, Old n y := fun y hy => by
  simp only [AV.all, List.mem_singleton] at hy
  subst hy
  exact .int _ _
theorem old_fzF {n : Nat} {es : List (List Ce)} (h : ∀ e ∈ es, ∀ x ∈ e, Flat x) : ∀ y ∈ (AV.c (.fz es)).all, Old n y := fun y hy => by
  simp only [AV.all, List.mem_singleton] at hy
  subst hy
  exact .fz _ fun i j hi hj => (h _ (List.getElem_mem hi) _ (List.getElem_mem hj)).old _
theorem old_encV {n : Nat} {l : List Val} : ∀ y ∈ (AV.c (.fz (l.map encV))).all, Old n y := old_fzF flats
theorem old_encTok {n : Nat} {l : List Tok} : ∀ y ∈ (AV.c (.fz (l.map encTok))).all, Old n y := old_fzF fun e he x hx => by
  obtain ⟨a, _, rfl⟩ := List.mem_map.1 he
  exact flatTok a x hx
theorem Eval_ok (e : List Tok) (row : List Val) (hx : e.length ≤ 34359738368) (hr : row.length ≤ 34359738368) : Pure Tryz.prog 84 [.c (.fz (e.map encTok)), .c (.fz (row.map encV))] (.tup [.agg (encV (evalI e row).1), .c (.bool (evalI e row).2)]) := by
  refine Pure.run mixed c_impl_Eval_ok (Nat.le_of_ble_eq_true rfl) fun σ hS hA => ?_
  clear hA
  have c1 := areVals_ok row 16 (by decide) hr
  cases hv : areVals row 16
  · rw [hv] at c1
    rw [evalI, evalOk, hv]
    repeat' first|refine yaG ?_|refine yaC (c1) ?_|(exfalso;omega)|(refine yaS ?_ ?_<;>intro _)
    exact .ret (retv_mt rfl rfl rfl (Nat.zero_le _) rfl rfl) (fin_vb vNull _)
  obtain ⟨hok, hrl⟩ := areVals_oks hv
  have c2 := ExprOk_ok e row.length hx
  rw [exprF_eq (by omega) hrl] at c2
  rw [hv] at c1
  cases he : exprF e row.length
  · rw [he] at c2
    rw [evalI, evalOk, hv, he]
    repeat' first|refine yaG ?_|refine yaC (c1) ?_|refine yaC (c2) ?_|(exfalso;omega)|(refine yaS ?_ ?_<;>intro _)
    exact .ret (retv_mt rfl rfl rfl (Nat.zero_le _) rfl rfl) (fin_vb vNull _)
  rw [he] at c2
  obtain ⟨hel, hea⟩ := exprF_aux he
  have hI : evalI e row = evalR e row := by rw [evalI, evalOk, hv, he]; rfl
  rw [hI]
  repeat' first|refine yaG ?_|refine yaC (c1) ?_|refine yaC (c2) ?_|(exfalso;omega)|(refine yaS ?_ ?_<;>intro _)
  refine Go.keep [1, 4, 6, 24, 25, 26] (Go.loops (I := fun m fr τ => ∃ (i : Nat) (k : Int) (st : List Val) (v : Nat) (junk : List (List Ce)), m = e.length - i ∧ i ≤ e.length ∧ k = i ∧ Jk 3 junk ∧ (st.length ≤ i ∧ Oks st ∧ exprAux row.length st.length (e.drop i) = true ∧ evalL row e [] = evalL row (e.drop i) st) ∧
    fr = [(1, .c (.fz (row.map encV))), (4, .c (.ptr (σ.next + 0) 0 0 0)), (6, .c (vec (σ.next + 1) v (st.map encV) junk)), (24, .c (.fz (e.map encTok))), (25, .c (.int .i64 (e.length : Int))), (26, .c (.int .i64 k))] ∧
      τ = E σ [(0, [[.int .i64 0, .int .i64 0, .str []]]), (v, st.map encV ++ junk)]) ?_ _ _ _ ⟨0, _, [], 0, [], rfl, Nat.zero_le _, rfl, Jk.nil, ⟨Nat.zero_le _, fun v hv => (by simp at hv), hea, rfl⟩, rfl, rfl⟩)
  rintro m fr τ ⟨i, k, st, v, junk, rfl, hi, hk, hj, ⟨hsl, hst, haux, hev⟩, rfl, rfl⟩ hrec
  clear hea he hv c1 c2 hI
  by_cases hlt : i < e.length
  · rw [List.drop_eq_getElem_cons hlt] at haux hev
    obtain ⟨htk, hle, haux⟩ := exprAux_cons haux
    have htr := tokTakes_range e[i]
    have hz : IntKind.i64.wrap (((st.map encV).length : Int) - tokTakes e[i]) = (fromOf e[i] st : Int) := by
      rw [List.length_map, wrap64 (by omega) (by omega), fromOf]
      omega
    have hfn : fromOf e[i] st ≤ st.length := by rw [fromOf]; omega
    have hfn' : fromOf e[i] st ≤ (st.map encV).length := by rw [List.length_map]; exact hfn
    have hdl : ((st.drop (fromOf e[i] st)).length : Int) = tokTakes e[i] := by rw [List.length_drop, fromOf]; omega
    have hap := apply_ok e[i] (st.drop (fromOf e[i] st)) row htk hdl (hst.drop _)
    have hres := applyF_ok (tokOk_const htk) (hst.drop (fromOf e[i] st)) hok
    rw [List.map_drop] at hap
    rw [evalL] at hev
    generalize applyF e[i] (st.drop (fromOf e[i] st)) row = ap at hap hres hev
    obtain ⟨av, ab⟩ := ap
    simp only at hap hres hev
    repeat' first|apply Go.seq|apply Go.skip|apply Go.region|apply Go.nil|apply Go.block|apply Go.blk|apply Go.segs|(apply Go.exit;exact rfl)|(apply Go.cond true;exact rfl)|(apply Go.cond false;exact rfl)|apply yB|apply yC|((first|apply yD|apply yE);(first|exact yF|assumption);iterate 6 exact rfl)|((first|apply yG|apply yH|apply yI);exact rfl;(first|exact yJ|exact yK rfl rfl|exact yL rfl|exact yM rfl|exact rfl|exact aL rfl rfl rfl rfl rfl|exact aS rfl rfl rfl rfl rfl rfl rfl|exact yX (enc := encTok) rfl rfl hk hlt rfl))|((first|apply yN|apply yO|apply yP);exact rfl)|((first|apply yQ|apply yR|apply yS);(iterate 3 exact rfl);exact takes_ok e[i])|(exfalso;omega)|(((first|apply yT|apply yU|apply yV|apply yW);exact rfl;(first|exact .d|exact .e|exact .n|((fail_if_success exact bqt);(fail_if_success exact bqf);exact .b)))<;>intro _)
    rw [hz]
    generalize fromOf e[i] st = n at hz hfn hfn' hap hev hdl
    apply Go.draw
    refine Go.qkd [(0, [[.int .i64 0, .int .i64 0, .str []]]), (v, st.map encV ++ junk)] ?_
    repeat' first|(apply Qk.nil;show Go _ _ _ _ _ _ _ _)|(apply Qk.op;exact rfl;(first|(rintro _ ⟨_, rfl⟩;exact rfl)|(rintro _ ⟨_, rfl⟩;exact aop_load rfl rfl rfl (Nat.le_of_ble_eq_true rfl) rfl)|(rintro _ ⟨_, rfl⟩;exact aop_drop (k := 1) (s := 3) rfl rfl rfl hfn' rfl (fun e he => (List.mem_append.1 he).elim (lens e) fun h => (hj e h).1))))|(apply Qk.no;exact rfl)|(apply Qk.wop;exact rfl;exact rfl;(first|exact yJ|exact yL rfl|exact aop_store rfl rfl rfl rfl rfl rfl (Nat.le_of_ble_eq_true rfl));exact ⟨_, rfl⟩)
    refine Qk.lcall rfl rfl rfl hap (solid_vb _ _) (fun m => .same (.own (frz_drop (k := 1) rfl flats hfn' (Nat.zero_le _)) (.same .nil))) ?_
    repeat' first|(apply Qk.nil;show Go _ _ _ _ _ _ _ _)|(apply Qk.op;exact rfl;(first|(rintro _ ⟨_, rfl⟩;exact rfl)|(rintro _ ⟨_, rfl⟩;exact aop_load rfl rfl rfl (Nat.le_of_ble_eq_true rfl) rfl)))|(apply Qk.no;exact rfl)|(apply Qk.wop;exact rfl;exact rfl;(first|exact yJ|exact yL rfl|exact aop_store rfl rfl rfl rfl rfl rfl (Nat.le_of_ble_eq_true rfl));exact ⟨_, rfl⟩)
    cases ab
    · rw [if_neg Bool.false_ne_true] at hev
      have hR : evalR e row = (vNull, false) := by rw [evalR, hev]
      rw [hR]
      repeat' first|refine yaG ?_|(exfalso;omega)|(refine yaS ?_ ?_<;>intro _)
      exact .ret (retv_mt rfl rfl rfl (Nat.zero_le _) rfl rfl) (fin_vb vNull _)
    · rw [if_pos rfl] at hev
      repeat' first|refine yaG ?_|((first|apply yG|apply yH|apply yI);exact rfl;(first|exact aop_load rfl rfl rfl (Nat.le_of_ble_eq_true rfl) rfl|exact aop_take (k := 1) rfl rfl rfl hfn' rfl (fun e he => (List.mem_append.1 he).elim (lens e) fun h => (hj e h).1)))|(exfalso;omega)|(refine yaS ?_ ?_<;>intro _)
      have hsplit : st.map encV ++ junk = (st.map encV).take n ++ ((st.map encV).drop n ++ junk) := by rw [← List.append_assoc, List.take_append_drop]
      have hbd : (((st.map encV).take n).length + 1) * 32 ≤ 140737488355328 := by rw [List.length_take, List.length_map]; omega
      refine Go.sapp1 (k := 1) (z := encV av) rfl rfl rfl rfl (congrArg (fun q => some (v, q)) hsplit) (fun e he => lens e (List.mem_of_mem_take he)) (Jk.drop clean_append hj n) rfl hbd fun v' junk' hj' => ?_
      repeat' first|refine yaG ?_|(exfalso;omega)|(refine yaS ?_ ?_<;>intro _)
      refine Go.freezeN (l := [(0, [[.int .i64 0, .int .i64 0, .str []]]), (v', (st.map encV).take n ++ [encV av] ++ junk')]) (m := [(0, [encV av])])
        (fr' := [(1, .c (.fz (row.map encV))), (4, .c (.ptr (σ.next + 0) 0 0 0)), (6, .c (vec (σ.next + 1) v' ((st.map encV).take n ++ [encV av]) junk')), (24, .c (.fz (e.map encTok))), (25, .c (.int .i64 (e.length : Int))), (26, .c (.int .i64 (IntKind.i64.wrap (k + 1))))])
        hS ?_ (Nat.le_refl _) (.frz rfl (.refl old_encV) (.frz rfl (.refl (old_ptr (by simp))) (.frz rfl (.refl (old_sl (by simp))) (.frz rfl (.refl old_encTok) (.frz rfl (.refl old_int) (.frz rfl (.refl old_int) .nil)))))) ?_
      · intro b hb e he x hx
        refine Flat.old ?_ _
        rcases List.mem_cons.1 hb with rfl | hb
        · exact flats (l := [vNull]) e he x hx
        · rw [List.mem_singleton.1 hb] at he
          rcases List.mem_append.1 he with he | he
          · rcases List.mem_append.1 he with he | he
            · exact flats e (List.mem_of_mem_take he) x hx
            · exact flats (l := [av]) e he x hx
          · exact (hj' e he).2 x hx
      have e1 : (st.map encV).take n ++ [encV av] = (st.take n ++ [av]).map encV := by simp
      rw [e1]
      refine hrec _ _ _ (by omega) ⟨i + 1, _, st.take n ++ [av], v', junk', rfl, hlt, wrap_succ hk (by omega), hj', ⟨?_, (hst.take n).snoc (hres rfl), ?_, hev⟩, rfl, rfl⟩
      · simp only [List.length_append, List.length_take, List.length_singleton]; omega
      · have e2 : ((st.take n ++ [av]).length : Int) = st.length + 1 - tokTakes e[i] := by
          rw [List.length_drop] at hdl
          simp only [List.length_append, List.length_take, List.length_singleton]
          omega
        rw [e2]
        exact haux
  · have hd : e.drop i = [] := List.drop_eq_nil_of_le (by omega)
    rw [hd] at haux hev
    simp only [exprAux, beq_iff_eq] at haux
    obtain ⟨w, rfl⟩ : ∃ w, st = [w] := List.length_eq_one_iff.1 (by omega)
    have hR : evalR e row = (w, true) := by rw [evalR, hev]; rfl
    rw [hR]
    repeat' first|refine yaG ?_|((first|apply yG|apply yH|apply yI);exact rfl;(first|exact aop_iaddr (k := 1) (n := 0) rfl rfl rfl (Nat.zero_lt_one) rfl rfl rfl))|(exfalso;omega)|(refine yaS ?_ ?_<;>intro _)
    exact .ret (retv_mt rfl rfl rfl (Nat.zero_le _) rfl rfl) (fin_vb w _)
theorem Truth_ok (e : List Tok) (row : List Val) (hx : e.length ≤ 34359738368) (hr : row.length ≤ 34359738368) : Pure Tryz.prog 163 [.c (.fz (e.map encTok)), .c (.fz (row.map encV))] (.c (.int .i64 (truthI e row))) := by
  refine Pure.run mixed c_impl_Truth_ok (Nat.le_of_ble_eq_true rfl) fun σ hS hA => ?_
  clear hS hA
  have c1 := Eval_ok e row hx hr
  have h1 := truthI_eq e row
  generalize evalI e row = q at c1 h1
  obtain ⟨v, b⟩ := q
  simp only at c1 h1
  cases b
  · repeat' first|refine yaG ?_|refine yaC (c1) ?_|(exfalso;omega)|(refine yaS ?_ ?_<;>intro _)
    refine .ret rfl (.int ?_)
    rw [← h1]
    rfl
  · repeat' first|refine yaG ?_|refine yaC (c1) ?_|refine yaC (truth_ok v) ?_|(exfalso;omega)|(refine yaS ?_ ?_<;>intro _)
    refine .ret rfl (.int ?_)
    rw [← h1]
    rfl
end Go.Proofs.YtinbdedlmkjokaaGreat.Am

/- Truths and what is made of values: the reference. -/
set_option linter.unusedVariables false
set_option linter.unusedSimpArgs false
namespace Go.Proofs.YtinbdedlmkjokaaGreat.Am

theorem fin_ib {σ : Store} {l : List (Nat × List (List Ce))} (n : Int) (b : Bool) : Fin σ (.tup [.c (.int .i64 n), .c (.bool b)]) (.tup [.c (.int .i64 n), .c (.bool b)]) (E σ l) :=
  ⟨l, rfl, .refl fun y hy => by
    simp [AV.all, AV.all.allL] at hy
    rcases hy with rfl | rfl
    · exact .int _ _
    · exact .bool _⟩
theorem l1Yes_ok (b : Bool) : Pure Tryz.prog 178 [.c (.bool b)] (.c (.int .i64 (yes b))) := by
  refine Pure.run mixed c_spec_l1Yes_ok (Nat.le_of_ble_eq_true rfl) fun σ hS hA => ?_
  clear hS hA
  repeat' first|refine yaG ?_|(exfalso;omega)|(refine yaS ?_ ?_<;>intro _)
  all_goals refine .ret rfl (.int ?_)
  all_goals simp_all [yes]
theorem l1Int_ok (n : Int) : Pure Tryz.prog 150 [.c (.int .i64 n)] (.agg (encV (vInt n))) := by
  refine Pure.run mixed c_spec_l1Int_ok (Nat.le_of_ble_eq_true rfl) fun σ hS hA => ?_
  clear hS hA
  repeat' first|refine yaG ?_|(exfalso;omega)|(refine yaS ?_ ?_<;>intro _)
  exact .ret (retv_m rfl rfl rfl (Nat.zero_le _) rfl) (fin_v (vInt n))
def asR (t : Int) : Val := if t = 2 then vNull else vInt t
theorem l2As_ok (t : Int) : Pure Tryz.prog 180 [.c (.int .i64 t)] (.agg (encV (asR t))) := by
  refine Pure.run mixed c_spec_l2As_ok (Nat.le_of_ble_eq_true rfl) fun σ hS hA => ?_
  clear hS hA
  repeat' first|refine yaG ?_|refine yaC (l1Int_ok t) ?_|(exfalso;omega)|(refine yaS ?_ ?_<;>intro _)
  · rename_i h
    rw [asR, if_pos h]
    exact .ret (retv_m rfl rfl rfl (Nat.zero_le _) rfl) (fin_v vNull)
  · rename_i h
    rw [asR, if_neg h]
    exact .ret (retv_m rfl rfl rfl (Nat.zero_le _) rfl) (fin_v (vInt t))
def ofT (v : Val) : Int := if v.k = 0 then 2 else if v.k = 1 then yes (v.n != 0) else 0
def ofB (v : Val) : Bool := decide (v.k = 0) || decide (v.k = 1)
theorem l2Of_ok (v : Val) : Pure Tryz.prog 179 [.agg (encV v)] (.tup [.c (.int .i64 (ofT v)), .c (.bool (ofB v))]) := by
  refine Pure.run mixed c_spec_l2Of_ok (Nat.le_of_ble_eq_true rfl) fun σ hS hA => ?_
  clear hS hA
  repeat' first|refine yaG ?_|refine yaC (l1Yes_ok _) ?_|(exfalso;omega)|(refine yaS ?_ ?_<;>intro _)
  · rename_i h
    rw [ofT, if_pos h, ofB, decide_eq_true h]
    exact .ret rfl (fin_ib _ _)
  · rename_i h h1
    rw [ofT, if_neg h, if_pos h1, ofB, decide_eq_true h1, Bool.or_true]
    exact .ret rfl (fin_ib _ _)
  · rename_i h h1
    rw [ofT, if_neg h, if_neg h1, ofB, decide_eq_false h, decide_eq_false h1]
    exact .ret rfl (fin_ib _ _)
theorem sEqual3_ok (v w : Val) : Pure Tryz.prog 246 [.agg (encV v), .agg (encV w)] (.c (.int .i64 (eq3 v w))) := by
  refine Pure.run mixed c_spec_Equal3_ok (Nat.le_of_ble_eq_true rfl) fun σ hS hA => ?_
  clear hS hA
  cases hk : knownV v w
  · rw [eq3, hk]
    have hk2 := hk
    simp only [knownV] at hk2
    repeat' first|refine yaG ?_|refine yaC (l1Yes_ok _) ?_|((first|apply Go.pcallB|apply Go.spcallB|apply Qg.pcallB);(iterate 3 exact rfl);(first|exact sValOk_ok v|exact sValOk_ok w);intro _ _)|(exfalso;omega)|(refine yaS ?_ ?_<;>intro _)
    all_goals first
      | exact .ret rfl (.int rfl)
      | (exfalso; simp_all; done)
  · rw [eq3, hk]
    have hk2 := hk
    simp only [knownV, Bool.and_eq_true, Bool.not_eq_true', beq_eq_false_iff_ne] at hk2
    obtain ⟨k1, k2, k3, k4⟩ := hk2
    have c1 := sValOk_ok v
    have c2 := sValOk_ok w
    rw [k1] at c1
    rw [k2] at c2
    repeat' first|refine yaG ?_|refine yaC (c1) ?_|refine yaC (c2) ?_|refine yaC (l1Yes_ok _) ?_|(exfalso;omega)|(refine yaS ?_ ?_<;>intro _)
    all_goals first
      | (refine .ret rfl (.int ?_); rw [val_eq]; rfl)
      | (exfalso; simp_all; done)
theorem sLess3_ok (v w : Val) : Pure Tryz.prog 247 [.agg (encV v), .agg (encV w)] (.c (.int .i64 (less3 v w))) := by
  refine Pure.run mixed c_spec_Less3_ok (Nat.le_of_ble_eq_true rfl) fun σ hS hA => ?_
  clear hS hA
  cases hk : knownV v w
  · rw [less3, hk]
    have hk2 := hk
    simp only [knownV] at hk2
    repeat' first|refine yaG ?_|refine yaC (l1Order_ok v w) ?_|refine yaC (l1Yes_ok _) ?_|((first|apply Go.pcallB|apply Go.spcallB|apply Qg.pcallB);(iterate 3 exact rfl);(first|exact sValOk_ok v|exact sValOk_ok w);intro _ _)|(exfalso;omega)|(refine yaS ?_ ?_<;>intro _)
    all_goals first
      | exact .ret rfl (.int rfl)
      | (exfalso; simp_all; done)
  · rw [less3, hk]
    have hk2 := hk
    simp only [knownV, Bool.and_eq_true, Bool.not_eq_true', beq_eq_false_iff_ne] at hk2
    obtain ⟨k1, k2, k3, k4⟩ := hk2
    have c1 := sValOk_ok v
    have c2 := sValOk_ok w
    have c3 := l1Order_ok v w
    rw [l1Ord_order k1 k2] at c3
    rw [k1] at c1
    rw [k2] at c2
    repeat' first|refine yaG ?_|refine yaC (c1) ?_|refine yaC (c2) ?_|refine yaC (c3) ?_|refine yaC (l1Yes_ok _) ?_|(exfalso;omega)|(refine yaS ?_ ?_<;>intro _)
    all_goals first
      | exact .ret rfl (.int rfl)
      | (exfalso; simp_all; done)
theorem l2Tru_ok (t : Int) : Pure Tryz.prog 288 [.c (.int .i64 t)] (.c (.bool (tru t))) := by
  refine Pure.run mixed c_spec_l2Tru_ok (Nat.le_of_ble_eq_true rfl) fun σ hS hA => ?_
  clear hS hA
  repeat' first|refine yaG ?_|refine yaC (l1In_ok _ _ _) ?_|(exfalso;omega)|(refine yaS ?_ ?_<;>intro _)
  exact .ret rfl (.bool rfl)
theorem sAnd3_ok (a b : Int) : Pure Tryz.prog 249 [.c (.int .i64 a), .c (.int .i64 b)] (.c (.int .i64 (and3 a b))) := by
  refine Pure.run mixed c_spec_And3_ok (Nat.le_of_ble_eq_true rfl) fun σ hS hA => ?_
  clear hS hA
  repeat' first|refine yaG ?_|((first|apply Go.pcallB|apply Go.spcallB|apply Qg.pcallB);(iterate 3 exact rfl);(first|exact l2Tru_ok a|exact l2Tru_ok b);intro _ _)|(exfalso;omega)|(refine yaS ?_ ?_<;>intro _)
  all_goals refine .ret rfl (.int ?_)
  all_goals simp_all [and3]
theorem sOr3_ok (a b : Int) : Pure Tryz.prog 250 [.c (.int .i64 a), .c (.int .i64 b)] (.c (.int .i64 (or3 a b))) := by
  refine Pure.run mixed c_spec_Or3_ok (Nat.le_of_ble_eq_true rfl) fun σ hS hA => ?_
  clear hS hA
  repeat' first|refine yaG ?_|((first|apply Go.pcallB|apply Go.spcallB|apply Qg.pcallB);(iterate 3 exact rfl);(first|exact l2Tru_ok a|exact l2Tru_ok b);intro _ _)|(exfalso;omega)|(refine yaS ?_ ?_<;>intro _)
  all_goals refine .ret rfl (.int ?_)
  all_goals simp_all [or3]
theorem sNot3_ok (a : Int) : Pure Tryz.prog 181 [.c (.int .i64 a)] (.c (.int .i64 (not3 a))) := by
  refine Pure.run mixed c_spec_Not3_ok (Nat.le_of_ble_eq_true rfl) fun σ hS hA => ?_
  clear hS hA
  repeat' first|refine yaG ?_|(exfalso;omega)|(refine yaS ?_ ?_<;>intro _)
  all_goals refine .ret rfl (.int ?_)
  · rename_i h; subst h; rfl
  · rename_i h1 h; subst h; rfl
  · rename_i h1 h2 h; subst h; rfl
  · rename_i h1 h2 h3
    have : tru a = false := by
      cases ht : tru a
      · rfl
      · have := tru_range.1 ht; omega
    rw [not3, this]
    rfl
theorem l2Sum_ok (a b : Val) (s : Int) (hs : s = 1 ∨ s = -1) (ha : okVal a = true) (hb : okVal b = true) : Pure Tryz.prog 248 [.agg (encV a), .agg (encV b), .c (.int .i64 s)] (.tup [.agg (encV (sumV a b s).1), .c (.bool (sumV a b s).2)]) := by
  refine Pure.run mixed c_spec_l2Sum_ok (Nat.le_of_ble_eq_true rfl) fun σ hS hA => ?_
  clear hS hA
  by_cases h1 : a.k = 2 ∨ b.k = 2
  · have e : sumV a b s = (vNull, false) := by simp only [sumV, if_pos h1]
    rw [e]
    rcases h1 with h1 | h1
    · repeat' first|refine yaG ?_|(exfalso;omega)|(refine yaS ?_ ?_<;>intro _)
      all_goals first
        | exact .ret (retv_mt rfl rfl rfl (Nat.zero_le _) rfl rfl) (fin_vb vNull _)
        | (exfalso; omega)
    · repeat' first|refine yaG ?_|(exfalso;omega)|(refine yaS ?_ ?_<;>intro _)
      all_goals first
        | exact .ret (retv_mt rfl rfl rfl (Nat.zero_le _) rfl rfl) (fin_vb vNull _)
        | (exfalso; omega)
  by_cases h2 : a.k = 0 ∨ b.k = 0
  · have e : sumV a b s = (vNull, true) := by simp only [sumV, if_neg h1, if_pos h2]
    rw [e]
    rcases h2 with h2 | h2
    · repeat' first|refine yaG ?_|(exfalso;omega)|(refine yaS ?_ ?_<;>intro _)
      all_goals first
        | exact .ret (retv_mt rfl rfl rfl (Nat.zero_le _) rfl rfl) (fin_vb vNull _)
        | (exfalso; omega)
    · repeat' first|refine yaG ?_|(exfalso;omega)|(refine yaS ?_ ?_<;>intro _)
      all_goals first
        | exact .ret (retv_mt rfl rfl rfl (Nat.zero_le _) rfl rfl) (fin_vb vNull _)
        | (exfalso; omega)
  have e : sumV a b s = (vInt (a.n + s * b.n), okVal (vInt (a.n + s * b.n))) := by simp only [sumV, if_neg h1, if_neg h2]
  have ka : a.k = 1 := by have := okVal_kind ha; omega
  have kb : b.k = 1 := by have := okVal_kind hb; omega
  have ra := okVal_range ha ka
  have rb := okVal_range hb kb
  have hw : IntKind.i64.wrap (a.n + IntKind.i64.wrap (s * b.n)) = a.n + s * b.n := by
    rcases hs with rfl | rfl
    · rw [wrap64 (n := 1 * b.n) (by omega) (by omega), wrap64 (by omega) (by omega)]
    · rw [wrap64 (n := -1 * b.n) (by omega) (by omega), wrap64 (by omega) (by omega)]
  rw [e]
  repeat' first|refine yaG ?_|((first|apply yG|apply yH|apply yI);exact rfl;(first|exact aop_store rfl rfl rfl rfl rfl rfl (Nat.le_of_ble_eq_true rfl)))|refine yaC (l1Int_ok _) ?_|refine yaC (sValOk_ok (vInt (IntKind.i64.wrap (a.n + IntKind.i64.wrap (s * b.n))))) ?_|(exfalso;omega)|(refine yaS ?_ ?_<;>intro _)
  all_goals first
    | (exfalso; omega)
    | skip
  rw [hw]
  exact .ret (retv_mt rfl rfl rfl (Nat.zero_le _) rfl rfl) (fin_vb (vInt _) _)
def twoR (k : Int) (a b : Val) : Val × Bool := if k = 3 then (asR (eq3 a b), true) else if k = 4 then (asR (less3 a b), true) else if k = 9 then sumV a b 1 else if k = 10 then sumV a b (-1)
  else if ofB a && ofB b then (asR (if k = 5 then and3 (ofT a) (ofT b) else or3 (ofT a) (ofT b)), true) else (vNull, false)
theorem l2Two_ok (k : Int) (a b : Val) (ha : okVal a = true) (hb : okVal b = true) : Pure Tryz.prog 182 [.c (.int .i64 k), .agg (encV a), .agg (encV b)] (.tup [.agg (encV (twoR k a b).1), .c (.bool (twoR k a b).2)]) := by
  refine Pure.run mixed c_spec_l2Two_ok (Nat.le_of_ble_eq_true rfl) fun σ hS hA => ?_
  clear hS hA
  repeat' first|refine yaG ?_|refine yaC (sEqual3_ok a b) ?_|refine yaC (sLess3_ok a b) ?_|refine yaC (l2As_ok _) ?_|refine yaC (l2Sum_ok a b 1 (.inl rfl) ha hb) ?_|refine yaC (l2Sum_ok a b (-1) (.inr rfl) ha hb) ?_|refine yaC (l2Of_ok a) ?_|refine yaC (l2Of_ok b) ?_|refine yaC (sAnd3_ok _ _) ?_|refine yaC (sOr3_ok _ _) ?_|(exfalso;omega)|(refine yaS ?_ ?_<;>intro _)
  · rename_i h
    rw [twoR, if_pos h]
    exact .ret (retv_mt rfl rfl rfl (Nat.zero_le _) rfl rfl) (fin_vb _ _)
  · rename_i h0 h
    rw [twoR, if_neg h0, if_pos h]
    exact .ret (retv_mt rfl rfl rfl (Nat.zero_le _) rfl rfl) (fin_vb _ _)
  · rename_i h0 h1 h
    rw [twoR, if_neg h0, if_neg h1, if_pos h]
    exact .ret (retv_mt rfl rfl rfl (Nat.zero_le _) rfl rfl) (fin_vb _ _)
  · rename_i h0 h1 h2 h
    rw [twoR, if_neg h0, if_neg h1, if_neg h2, if_pos h]
    exact .ret (retv_mt rfl rfl rfl (Nat.zero_le _) rfl rfl) (fin_vb _ _)
  · rename_i h0 h1 h2 h3 h
    have h : ofB a = false := by simpa using h
    rw [twoR, if_neg h0, if_neg h1, if_neg h2, if_neg h3, h]
    exact .ret (retv_mt rfl rfl rfl (Nat.zero_le _) rfl rfl) (fin_vb vNull _)
  · rename_i h0 h1 h2 h3 h4 h
    have h : ofB b = false := by simpa using h
    rw [twoR, if_neg h0, if_neg h1, if_neg h2, if_neg h3, h, Bool.and_false]
    exact .ret (retv_mt rfl rfl rfl (Nat.zero_le _) rfl rfl) (fin_vb vNull _)
  · rename_i h0 h1 h2 h3 h4 h h5
    have h4 : ofB a = true := by simpa using h4
    have h : ofB b = true := by simpa using h
    rw [twoR, if_neg h0, if_neg h1, if_neg h2, if_neg h3, h4, h, if_pos h5]
    exact .ret (retv_mt rfl rfl rfl (Nat.zero_le _) rfl rfl) (fin_vb _ _)
  · rename_i h0 h1 h2 h3 h4 h h5
    have h4 : ofB a = true := by simpa using h4
    have h : ofB b = true := by simpa using h
    rw [twoR, if_neg h0, if_neg h1, if_neg h2, if_neg h3, h4, h, if_neg h5]
    exact .ret (retv_mt rfl rfl rfl (Nat.zero_le _) rfl rfl) (fin_vb _ _)
theorem asV_asR {t : Int} (h0 : 0 ≤ t) : asV t = (asR t, true) := by
  simp only [asV, asR]
  split
  · rfl
  · rw [decide_eq_true h0]
theorem ofB_truth {a : Val} (h : ofB a = true) : truthV a = ofT a ∧ 0 ≤ ofT a ∧ ofT a ≤ 2 := by
  simp only [ofB, Bool.or_eq_true, decide_eq_true_eq] at h
  simp only [truthV, ofT]
  have := yes_range (a.n != 0)
  rcases h with h | h
  · simp [h]
  · have hn : ¬ a.k = 0 := by omega
    simp only [if_neg hn, if_pos h]
    refine ⟨?_, this.1, by omega⟩
    by_cases h0 : a.n = 0 <;> simp [h0, yes]
theorem ofB_not {a : Val} (h : ofB a = false) : truthV a = -1 := by
  simp only [ofB, Bool.or_eq_false_iff, decide_eq_false_iff_not] at h
  rw [truthV, if_neg h.1, if_neg h.2]
theorem and3_tru {a b : Int} (ha : 0 ≤ a ∧ a ≤ 2) (hb : 0 ≤ b ∧ b ≤ 2) : 0 ≤ and3 a b := by
  rw [and3, tru_range.2 ha, tru_range.2 hb]
  simp only [Bool.and_self, if_true]
  split
  · omega
  · split <;> omega
theorem or3_tru {a b : Int} (ha : 0 ≤ a ∧ a ≤ 2) (hb : 0 ≤ b ∧ b ≤ 2) : 0 ≤ or3 a b := by
  rw [or3, tru_range.2 ha, tru_range.2 hb]
  simp only [Bool.and_self, if_true]
  split
  · omega
  · split <;> omega
/-- The reference's op of two is the program's. -/
theorem twoR_eq (t : Tok) (a b : Val) (row : List Val) (hk : t.kind = 3 ∨ t.kind = 4 ∨ t.kind = 5 ∨ t.kind = 6 ∨ t.kind = 9 ∨ t.kind = 10) : (twoR t.kind a b).2 = (applyF t [a, b] row).2 ∧ ((applyF t [a, b] row).2 = true → twoR t.kind a b = applyF t [a, b] row) := by
  have h5 : ∀ f : Int → Int → Int, (f = and3 ∨ f = or3) → (if ofB a && ofB b then (asR (f (ofT a) (ofT b)), true) else (vNull, false)).2 = (asV (f (truthV a) (truthV b))).2 ∧ ((asV (f (truthV a) (truthV b))).2 = true → (if ofB a && ofB b then (asR (f (ofT a) (ofT b)), true) else (vNull, false)) = asV (f (truthV a) (truthV b))) := by
    intro f hf
    cases h1 : ofB a
    · have h3 : asV (f (truthV a) (truthV b)) = (vInt (-1), false) := by
        rw [ofB_not h1]
        rcases hf with rfl | rfl
        · rw [and3, show tru (-1) = false from rfl]; rfl
        · rw [or3, show tru (-1) = false from rfl]; rfl
      rw [h3]
      simp
    cases h2 : ofB b
    · have h3 : asV (f (truthV a) (truthV b)) = (vInt (-1), false) := by
        rw [ofB_not h2]
        rcases hf with rfl | rfl
        · rw [and3, show tru (-1) = false from rfl, Bool.and_false]; rfl
        · rw [or3, show tru (-1) = false from rfl, Bool.and_false]; rfl
      rw [h3]
      simp
    obtain ⟨e1, r1⟩ := ofB_truth h1
    obtain ⟨e2, r2⟩ := ofB_truth h2
    rw [e1, e2, asV_asR (by
      rcases hf with rfl | rfl
      · exact and3_tru r1 r2
      · exact or3_tru r1 r2)]
    simp
  rcases hk with h | h | h | h | h | h
  · simp only [twoR, applyF, vAt, h, List.getElem?_cons_zero, List.getElem?_cons_succ, Option.getD_some, Int.reduceEq, if_true, if_false, reduceIte]
    rw [asV_asR (eq3_range a b).1]
    simp
  · simp only [twoR, applyF, vAt, h, List.getElem?_cons_zero, List.getElem?_cons_succ, Option.getD_some, Int.reduceEq, if_true, if_false, reduceIte]
    rw [asV_asR (less3_range a b).1]
    simp
  · simp only [twoR, applyF, vAt, h, List.getElem?_cons_zero, List.getElem?_cons_succ, Option.getD_some, Int.reduceEq, if_true, if_false, reduceIte]
    exact h5 and3 (.inl rfl)
  · simp only [twoR, applyF, vAt, h, List.getElem?_cons_zero, List.getElem?_cons_succ, Option.getD_some, Int.reduceEq, if_true, if_false, reduceIte]
    exact h5 or3 (.inr rfl)
  · simp only [twoR, applyF, vAt, h, List.getElem?_cons_zero, List.getElem?_cons_succ, Option.getD_some, Int.reduceEq, if_true, if_false, reduceIte]
    simp
  · simp only [twoR, applyF, vAt, h, List.getElem?_cons_zero, List.getElem?_cons_succ, Option.getD_some, Int.reduceEq, if_true, if_false, reduceIte]
    simp
end Go.Proofs.YtinbdedlmkjokaaGreat.Am

/- The reader that draws: numbers. -/
set_option linter.unusedVariables false
set_option linter.unusedSimpArgs false
namespace Go.Proofs.YtinbdedlmkjokaaGreat.Am

/-- A number from lo up, below hi. -/
def NumIn (k : IntKind) (lo hi : Int) (r : AV) : Prop := ∃ n : Int, lo ≤ n ∧ n < hi ∧ r = .c (.int k n)
theorem old_c {n : Nat} {k : IntKind} {z : Int} : ∀ y ∈ (AV.c (.int k z)).all, Old n y := fun y hy => by
  simp only [AV.all, List.mem_singleton] at hy
  subst hy
  exact .int _ _
theorem old_b {n : Nat} {b : Bool} : ∀ y ∈ (AV.c (.bool b)).all, Old n y := fun y hy => by
  simp only [AV.all, List.mem_singleton] at hy
  subst hy
  exact .bool _
theorem aop_byte {fr : Fr} {σ : Store} {x : Opd} {b : UInt8} (hx : x.ev fr = some (.c (.fp (encB b)))) : aop (.load false 1 x) fr σ = some (.c (.int .u8 (b.toNat : Int)), σ) := by
  simp [aop, hx, Store.at_, encB, takeA]
theorem wrap_byte (b : UInt8) : IntKind.i64.wrap (b.toNat : Int) = b.toNat := by
  have := b.toNat_lt
  exact wrap64 (by omega) (by omega)
theorem next_ok : Draws Tryz.prog 222 [] (NumIn .i64 0 256) := by
  refine Draws.run mixed c_spec_l1Rd_next_ok (Nat.le_of_ble_eq_true rfl) fun σ id v code p hr hp hc hS => ?_
  clear hS
  by_cases hlt : p < code.length
  · have h1 : IntKind.i64.wrap ((p : Int) + 1) = ((p + 1 : Nat) : Int) := by rw [wrap64 (by omega) (by omega)]; omega
    have h2 : IntKind.i64.wrap (((p + 1 : Nat) : Int) - 1) = (p : Int) := by rw [wrap64 (by omega) (by omega)]; omega
    have hb := (code[p]'hlt).toNat_lt
    repeat' first|refine yaG ?_|((first|apply yG|apply yH|apply yI);exact rfl;(first|exact aop_rdb hr rfl|exact aop_rdp hr rfl|exact aop_rdput hr rfl rfl h1|exact yX (enc := encB) rfl rfl h2 hlt rfl|exact aop_byte rfl))|(exfalso;omega)|(refine yaS ?_ ?_<;>intro _)
    rw [wrap_byte]
    exact .ret rfl (.c hlt ⟨_, by omega, by omega, rfl⟩ old_c)
  · repeat' first|refine yaG ?_|((first|apply yG|apply yH|apply yI);exact rfl;(first|exact aop_rdb hr rfl|exact aop_rdp hr rfl))|(exfalso;omega)|(refine yaS ?_ ?_<;>intro _)
    exact .ret rfl (.c hp ⟨0, by omega, by omega, rfl⟩ old_c)
theorem tmod_in {a n : Int} (ha : 0 ≤ a) (hn : 1 < n) : 0 ≤ a.tmod n ∧ a.tmod n < n :=
  ⟨Int.tmod_nonneg n ha, Int.tmod_lt_of_pos a (by omega)⟩
/-- What below answers. -/
def BelowR (n : Int) (r : AV) : Prop := ∃ k : Int, 0 ≤ k ∧ (k < n ∨ (n ≤ 1 ∧ k = 0)) ∧ r = .c (.int .i64 k)
theorem below_ok (n : Int) (hn : n ≤ 34359738368) (h0 : -34359738368 ≤ n) : Draws Tryz.prog 155 [.c (.int .i64 n)] (BelowR n) := by
  refine Draws.run mixed c_spec_l1Rd_below_ok (Nat.le_of_ble_eq_true rfl) fun σ id v code p hr hp hc hS => ?_
  clear hS
  repeat' first|refine yaG ?_|(exfalso;omega)|(refine yaS ?_ ?_<;>intro _)
  · rename_i h
    exact .ret rfl (.c hp ⟨0, by omega, .inr ⟨h, rfl⟩, rfl⟩ old_c)
  · rename_i h h2
    refine Go.drawn hr hp rfl rfl rfl next_ok ?_
    rintro _ q hq ⟨a, ha0, ha1, rfl⟩
    have ht := tmod_in ha0 (show 1 < n by omega)
    have hne : n ≠ 0 := by omega
    repeat' first|refine yaG ?_|((first|apply yG|apply yH|apply yI);exact rfl;(first|exact aop_remR rfl rfl hne))|(exfalso;omega)|(refine yaS ?_ ?_<;>intro _)
    exact .ret rfl (.c hq ⟨_, ht.1, .inl ht.2, rfl⟩ old_c)
  · rename_i h h2
    refine Go.drawn hr hp rfl rfl rfl next_ok ?_
    rintro _ q hq ⟨a, ha0, ha1, rfl⟩
    repeat' first|refine yaG ?_|(exfalso;omega)|(refine yaS ?_ ?_<;>intro _)
    refine Go.drawn hr hq rfl rfl rfl next_ok ?_
    rintro _ q2 hq2 ⟨b, hb0, hb1, rfl⟩
    have h3 : IntKind.i64.wrap (a * 256) = a * 256 := wrap64 (by omega) (by omega)
    have h4 : IntKind.i64.wrap (IntKind.i64.wrap (a * 256) + b) = a * 256 + b := by rw [h3, wrap64 (by omega) (by omega)]
    have ht := tmod_in (a := IntKind.i64.wrap (IntKind.i64.wrap (a * 256) + b)) (by omega) (show 1 < n by omega)
    have hne : n ≠ 0 := by omega
    repeat' first|refine yaG ?_|((first|apply yG|apply yH|apply yI);exact rfl;(first|exact aop_remR rfl rfl hne))|(exfalso;omega)|(refine yaS ?_ ?_<;>intro _)
    exact .ret rfl (.c hq2 ⟨_, ht.1, .inl ht.2, rfl⟩ old_c)
/-- A drawn truth. -/
def Bit (r : AV) : Prop := ∃ b : Bool, r = .c (.bool b)
theorem once_ok (n : Int) (hn : n ≤ 34359738368) (h0 : -34359738368 ≤ n) : Draws Tryz.prog 151 [.c (.int .i64 n)] Bit := by
  refine Draws.run mixed c_spec_l1Rd_once_ok (Nat.le_of_ble_eq_true rfl) fun σ id v code p hr hp hc hS => ?_
  clear hS
  repeat' first|refine yaG ?_|(exfalso;omega)|(refine yaS ?_ ?_<;>intro _)
  refine Go.drawn hr hp rfl rfl rfl (below_ok n hn h0) ?_
  rintro _ q hq ⟨a, ha0, ha1, rfl⟩
  repeat' first|refine yaG ?_|(exfalso;omega)|(refine yaS ?_ ?_<;>intro _)
  exact .ret rfl (.c hq ⟨_, rfl⟩ old_b)
theorem action_ok : Draws Tryz.prog 154 [] (NumIn .i64 0 3) := by
  refine Draws.run mixed c_spec_l1Rd_action_ok (Nat.le_of_ble_eq_true rfl) fun σ id v code p hr hp hc hS => ?_
  clear hS
  repeat' first|refine yaG ?_|(exfalso;omega)|(refine yaS ?_ ?_<;>intro _)
  refine Go.drawn hr hp rfl rfl rfl (below_ok 3 (by decide) (by decide)) ?_
  rintro _ q hq ⟨a, ha0, ha1, rfl⟩
  repeat' first|refine yaG ?_|(exfalso;omega)|(refine yaS ?_ ?_<;>intro _)
  exact .ret rfl (.c hq ⟨a, ha0, by omega, rfl⟩ old_c)
theorem word_ok : Draws Tryz.prog 275 [] (fun r => ∃ n : Int, r = .c (.int .u64 n)) := by
  refine Draws.run mixed c_spec_l1Rd_word_ok (Nat.le_of_ble_eq_true rfl) fun σ id v code p hr hp hc hS => ?_
  clear hS
  repeat' first|refine yaG ?_|(exfalso;omega)|(refine yaS ?_ ?_<;>intro _)
  refine Go.keep [0, 3, 4] (Go.loops (I := fun m fr τ => ∃ (i : Nat) (k x : Int) (q : Nat), m = 8 - i ∧ i ≤ 8 ∧ k = i ∧ q ≤ code.length ∧
    fr = [(0, .c (.ptr id v 0 0)), (3, .c (.int .u64 x)), (4, .c (.int .i64 k))] ∧ τ = E (Rd.go σ id v code q) []) ?_ _ _ _ ⟨0, _, _, p, rfl, Nat.zero_le _, rfl, hp, rfl, rfl⟩)
  rintro m fr τ ⟨i, k, x, q, rfl, hi, hk, hq, rfl, rfl⟩ hrec
  by_cases hlt : i < 8
  · repeat' first|refine yaG ?_|(exfalso;omega)|(refine yaS ?_ ?_<;>intro _)
    refine Go.drawn hr hq rfl rfl rfl next_ok ?_
    rintro _ q2 hq2 ⟨a, ha0, ha1, rfl⟩
    repeat' first|refine yaG ?_|(exfalso;omega)|(refine yaS ?_ ?_<;>intro _)
    exact Go.keep [0, 3, 4] (hrec _ _ _ (by omega) ⟨i + 1, _, _, q2, rfl, hlt, wrap_succ hk (by omega), hq2, rfl, rfl⟩)
  · repeat' first|refine yaG ?_|(exfalso;omega)|(refine yaS ?_ ?_<;>intro _)
    exact .ret rfl (.c hq ⟨x, rfl⟩ old_c)
/-- Some number. -/
def AnyI (r : AV) : Prop := ∃ n : Int, r = .c (.int .i64 n)
theorem u64_pos {z : Int} (h0 : 1 ≤ z) (h1 : z ≤ 34359738368) : IntKind.u64.wrap z ≠ 0 := by
  have : IntKind.u64.wrap z = z % 18446744073709551616 := by simp [IntKind.wrap, IntKind.bits, IntKind.signed]
  omega
theorem near_ok (lo hi : Int) (h0 : -1073741824 ≤ lo) (h1 : lo ≤ 1073741824) (h2 : -1073741824 ≤ hi) (h3 : hi ≤ 1073741824) : Draws Tryz.prog 223 [.c (.int .i64 lo), .c (.int .i64 hi)] AnyI := by
  refine Draws.run mixed c_spec_l1Rd_near_ok (Nat.le_of_ble_eq_true rfl) fun σ id v code p hr hp hc hS => ?_
  clear hS
  repeat' first|refine yaG ?_|(exfalso;omega)|(refine yaS ?_ ?_<;>intro _)
  refine Go.drawn hr hp rfl rfl rfl (below_ok 8 (by decide) (by decide)) ?_
  rintro _ q hq ⟨a, ha0, ha1, rfl⟩
  repeat' first|refine yaG ?_|(exfalso;omega)|(refine yaS ?_ ?_<;>intro _)
  · exact .ret rfl (.c hq ⟨_, rfl⟩ old_c)
  · exact .ret rfl (.c hq ⟨_, rfl⟩ old_c)
  · exact .ret rfl (.c hq ⟨_, rfl⟩ old_c)
  · rename_i h5 h6 h7
    refine Go.drawn hr hq rfl rfl rfl word_ok ?_
    rintro _ q2 hq2 ⟨w, rfl⟩
    have e1 : IntKind.i64.wrap (hi - lo) = hi - lo := wrap64 (by omega) (by omega)
    have e2 : IntKind.i64.wrap (IntKind.i64.wrap (hi - lo) + 1) = hi - lo + 1 := by rw [e1, wrap64 (by omega) (by omega)]
    have hne : IntKind.u64.wrap (IntKind.i64.wrap (IntKind.i64.wrap (hi - lo) + 1)) ≠ 0 := by rw [e2]; exact u64_pos (by omega) (by omega)
    repeat' first|refine yaG ?_|((first|apply yG|apply yH|apply yI);exact rfl;(first|exact aop_remR rfl rfl hne))|(exfalso;omega)|(refine yaS ?_ ?_<;>intro _)
    exact .ret rfl (.c hq2 ⟨_, rfl⟩ old_c)
theorem off_ok (lo hi : Int) (h0 : -1073741824 ≤ lo) (h1 : lo ≤ 1073741824) (h2 : -1073741824 ≤ hi) (h3 : hi ≤ 1073741824) : Draws Tryz.prog 156 [.c (.int .i64 lo), .c (.int .i64 hi)] AnyI := by
  refine Draws.run mixed c_spec_l1Rd_off_ok (Nat.le_of_ble_eq_true rfl) fun σ id v code p hr hp hc hS => ?_
  clear hS
  repeat' first|refine yaG ?_|(exfalso;omega)|(refine yaS ?_ ?_<;>intro _)
  refine Go.drawn hr hp rfl rfl rfl (once_ok 24 (by decide) (by decide)) ?_
  rintro _ q hq ⟨b, rfl⟩
  cases b
  · repeat' first|refine yaG ?_|(exfalso;omega)|(refine yaS ?_ ?_<;>intro _)
    refine Go.drawn hr hq rfl rfl rfl (near_ok lo hi h0 h1 h2 h3) ?_
    rintro _ q2 hq2 ⟨w, rfl⟩
    repeat' first|refine yaG ?_|(exfalso;omega)|(refine yaS ?_ ?_<;>intro _)
    exact .ret rfl (.c hq2 ⟨_, rfl⟩ old_c)
  · repeat' first|refine yaG ?_|(exfalso;omega)|(refine yaS ?_ ?_<;>intro _)
    refine Go.drawn hr hq rfl rfl rfl (below_ok 4 (by decide) (by decide)) ?_
    rintro _ q2 hq2 ⟨k, hk0, hk1, rfl⟩
    obtain ⟨m, hm⟩ : ∃ m : Nat, k = m := ⟨k.toNat, by omega⟩
    have hm4 : m < 4 := by omega
    subst hm
    have hz : m = 0 ∨ m = 1 ∨ m = 2 ∨ m = 3 := by omega
    rcases hz with rfl | rfl | rfl | rfl
    all_goals repeat' first|refine yaG ?_|(exfalso;omega)|(refine yaS ?_ ?_<;>intro _)
    all_goals exact .ret rfl (.c hq2 ⟨_, rfl⟩ old_c)
/-! ### values and tokens -/
theorem l1Str_ok (x : List UInt8) : Pure Tryz.prog 224 [.c (.str x)] (.agg (encV ⟨2, 0, x⟩)) := by
  refine Pure.run mixed c_spec_l1Str_ok (Nat.le_of_ble_eq_true rfl) fun σ hS hA => ?_
  clear hS hA
  repeat' first|refine yaG ?_|(exfalso;omega)|(refine yaS ?_ ?_<;>intro _)
  exact .ret (retv_m rfl rfl rfl (Nat.zero_le _) rfl) (fin_v ⟨2, 0, x⟩)
def tCol (c : Int) : Tok := ⟨1, c, vNull⟩
def tConst (v : Val) : Tok := ⟨2, 0, v⟩
theorem fin_tok {σ : Store} {l : List (Nat × List (List Ce))} (t : Tok) : Fin σ (.agg (encTok t)) (.agg (encTok t)) (E σ l) :=
  ⟨l, rfl, .refl fun y hy => (flatTok t y hy).old _⟩
theorem l2Col_ok (c : Int) : Pure Tryz.prog 152 [.c (.int .i64 c)] (.agg (encTok (tCol c))) := by
  refine Pure.run mixed c_spec_l2Col_ok (Nat.le_of_ble_eq_true rfl) fun σ hS hA => ?_
  clear hS hA
  repeat' first|refine yaG ?_|(exfalso;omega)|(refine yaS ?_ ?_<;>intro _)
  exact .ret (retv_m rfl rfl rfl (Nat.zero_le _) rfl) (fin_tok (tCol c))
theorem l2Const_ok (w : Val) : Pure Tryz.prog 153 [.agg (encV w)] (.agg (encTok (tConst w))) := by
  refine Pure.run mixed c_spec_l2Const_ok (Nat.le_of_ble_eq_true rfl) fun σ hS hA => ?_
  clear hS hA
  repeat' first|refine yaG ?_|(exfalso;omega)|(refine yaS ?_ ?_<;>intro _)
  exact .ret (retv_m rfl rfl rfl (Nat.zero_le _) rfl) (fin_tok (tConst w))
/-- A drawn value. -/
def AnyV (r : AV) : Prop := ∃ w : Val, w.s.length ≤ 12 ∧ r = .agg (encV w)
theorem old_v {n : Nat} (w : Val) : ∀ y ∈ (AV.agg (encV w)).all, Old n y := fun y hy => (encV_flat w y hy).old _
end Go.Proofs.YtinbdedlmkjokaaGreat.Am

/- Expressions: the reference's evaluation. -/
set_option linter.unusedVariables false
set_option linter.unusedSimpArgs false
namespace Go.Proofs.YtinbdedlmkjokaaGreat.Am

theorem drop1 {st : List Val} (h : 1 ≤ st.length) : st.drop (st.length - 1) = [st[st.length - 1]] := by
  rw [List.drop_eq_getElem_cons (by omega), List.drop_eq_nil_of_le (by omega)]
theorem drop2 {st : List Val} (h : 2 ≤ st.length) : st.drop (st.length - 2) = [st[st.length - 2], st[st.length - 1]] := by
  rw [List.drop_eq_getElem_cons (by omega), show st.length - 2 + 1 = st.length - 1 by omega, drop1 (by omega)]
theorem frz_all {σ : Store} {l : List (Nat × List (List Ce))} {k v N : Nat} {ys : List Val} {junk : List (List Ce)} (hl : l[k]? = some (v, ys.map encV ++ junk)) (hN : N ≤ σ.next + k) : FrzV (E σ l) N (.c (vec (σ.next + k) v (ys.map encV) junk)) (.c (.fz (ys.map encV))) :=
  frz_drop (n := 0) hl flats (Nat.zero_le _) hN
theorem l2Eval_ok (e : List Tok) (row : List Val) (hx : e.length ≤ 24) (hrl : row.length ≤ 16) (hok : Oks row) (hea : exprAux row.length 0 e = true) : Pure Tryz.prog 91 [.c (.fz (e.map encTok)), .c (.fz (row.map encV))] (.tup [.agg (encV (evalR e row).1), .c (.bool (evalR e row).2)]) := by
  refine Pure.run mixed c_spec_l2Eval_ok (Nat.le_of_ble_eq_true rfl) fun σ hS hA => ?_
  clear hA
  repeat' first|refine yaG ?_|(exfalso;omega)|(refine yaS ?_ ?_<;>intro _)
  refine Go.freezeN (l := [(0, [[.int .i64 0, .int .i64 0, .str []]])]) (m := [(0, [])]) (fr' := [(0, .c (.fz (e.map encTok))), (1, .c (.fz (row.map encV))), (4, .c (.ptr (σ.next + 0) 0 0 0)), (6, .c (.fz (([] : List Val).map encV))), (7, .c (.int .i64 0))])
    hS (fun b hb e he x hx => ?_) (Nat.le_refl _) (.frz rfl (.refl old_encTok) (.frz rfl (.refl old_encV) (.frz rfl (.refl (old_ptr (by simp))) (.frz rfl (frz_all (σ := σ) (l := [(0, [[.int .i64 0, .int .i64 0, .str []]]), (0, [])]) (k := 1) (v := 0) (ys := []) (junk := []) rfl (Nat.le_refl _)) (.frz rfl (.refl old_int) .nil))))) ?_
  · rw [List.mem_singleton.1 hb] at he
    exact (flats (l := [vNull]) e he x hx).old _
  refine Go.loops (I := fun m fr τ => ∃ (i : Nat) (k : Int) (st : List Val), m = e.length - i ∧ i ≤ e.length ∧ k = i ∧ (st.length ≤ i ∧ Oks st ∧ exprAux row.length st.length (e.drop i) = true ∧ evalL row e [] = evalL row (e.drop i) st) ∧
    fr = [(0, .c (.fz (e.map encTok))), (1, .c (.fz (row.map encV))), (4, .c (.ptr (σ.next + 0) 0 0 0)), (6, .c (.fz (st.map encV))), (7, .c (.int .i64 k))] ∧
      τ = E σ [(0, [[.int .i64 0, .int .i64 0, .str []]])]) ?_ _ _ _ ⟨0, _, [], rfl, Nat.zero_le _, rfl, ⟨Nat.zero_le _, fun v hv => (by simp at hv), hea, rfl⟩, rfl, rfl⟩
  rintro m fr τ ⟨i, k, st, rfl, hi, hk, ⟨hsl, hst, haux, hev⟩, rfl, rfl⟩ hrec
  clear hea
  by_cases hlt : i < e.length
  · rw [List.drop_eq_getElem_cons hlt] at haux hev
    obtain ⟨htk, hle, haux⟩ := exprAux_cons haux
    have htr := tokTakes_range e[i]
    have hkd := isTok_kinds htk
    have hcol := isTok_col htk
    have hft : fromOf e[i] st = st.length - (tokTakes e[i]).toNat := rfl
    have hres := applyF_ok (tokOk_const htk) (hst.drop (fromOf e[i] st)) hok
    rw [evalL] at hev
    have hsl1 : st.length ≤ 24 := by omega
    obtain ⟨ap, hap⟩ : ∃ ap, applyF e[i] (st.drop (fromOf e[i] st)) row = ap := ⟨_, rfl⟩
    rw [hap] at hres hev
    repeat' first|apply Go.seq|apply Go.skip|apply Go.region|apply Go.nil|apply Go.blk|apply Go.draw|apply Go.segs|(apply Go.exit;exact rfl)|(apply Go.cond true;exact rfl)|(apply Go.cond false;exact rfl)|apply yB|apply yC|((first|apply yG|apply yH|apply yI);exact rfl;(first|exact yJ|exact yK rfl rfl|exact yL rfl|exact yM rfl|exact rfl|exact aL rfl rfl rfl rfl rfl|exact aS rfl rfl rfl rfl rfl rfl rfl))|((first|apply yN|apply yO|apply yP);exact rfl)|(exfalso;omega)|(((first|apply yT|apply yU|apply yV|apply yW);exact rfl;(first|exact .d|exact .e|exact .n|((fail_if_success exact bqt);(fail_if_success exact bqf);exact .b)))<;>intro _)
    apply Go.block
    repeat' first|apply Go.seq|apply Go.skip|apply Go.region|apply Go.nil|apply Go.blk|apply Go.draw|apply Go.segs|(apply Go.exit;exact rfl)|(apply Go.cond true;exact rfl)|(apply Go.cond false;exact rfl)|apply yB|apply yC|((first|apply yG|apply yH|apply yI);exact rfl;(first|exact yJ|exact yK rfl rfl|exact yL rfl|exact yM rfl|exact rfl|exact aL rfl rfl rfl rfl rfl|exact aS rfl rfl rfl rfl rfl rfl rfl|exact yX (enc := encTok) rfl rfl hk hlt rfl))|((first|apply yN|apply yO|apply yP);exact rfl)|(exfalso;omega)|(((first|apply yT|apply yU|apply yV|apply yW);exact rfl;(first|exact .d|exact .e|exact .n|((fail_if_success exact bqt);(fail_if_success exact bqf);exact .b)))<;>intro _)
    apply Go.block
    refine Go.join (K' := [_]) (fun fr τ => ∃ (av : Val) (ab : Bool), ab = ap.2 ∧ (ab = true → av = ap.1) ∧
      fr = [(0, .c (.fz (e.map encTok))), (1, .c (.fz (row.map encV))), (4, .c (.ptr (σ.next + 0) 0 0 0)), (6, .c (.fz (st.map encV))), (7, .c (.int .i64 k)), (8, .c (.int .i64 (st.length : Int))), (9, .c (.ptr (σ.next + 1) 0 0 0)), (10, .c (.bool ab)), (11, .c (.int .i64 (tokTakes e[i])))] ∧
      τ = E σ [(0, [[.int .i64 0, .int .i64 0, .str []]]), (0, [encV av])]) ?_ ?_
    · rintro fr τ ⟨av, ab, hab, hav, rfl, rfl⟩
      cases ab
      · rw [← hab, if_neg Bool.false_ne_true] at hev
        have hR : evalR e row = (vNull, false) := by rw [evalR, hev]
        rw [hR]
        repeat' first|refine yaG ?_|(exfalso;omega)|(refine yaS ?_ ?_<;>intro _)
        exact .ret (retv_mt rfl rfl rfl (Nat.zero_le _) rfl rfl) (fin_vb vNull _)
      obtain rfl := hav rfl
      rw [← hab, if_pos rfl] at hev
      have hn : fromOf e[i] st ≤ (st.map encV).length := by rw [List.length_map, hft]; omega
      have hz : IntKind.i64.wrap ((st.length : Int) - tokTakes e[i]) = (fromOf e[i] st : Int) := by rw [wrap64 (by omega) (by omega), hft]; omega
      have hres := hres hab.symm
      have hl1 : ((st.take (fromOf e[i] st)).length : Int) = st.length - tokTakes e[i] := by rw [List.length_take, hft]; omega
      generalize fromOf e[i] st = n at hn hz hl1 hev
      repeat' first|apply Go.seq|apply Go.skip|apply Go.region|apply Go.nil|apply Go.block|apply Go.blk|apply Go.segs|(apply Go.exit;exact rfl)|(apply Go.cond true;exact rfl)|(apply Go.cond false;exact rfl)|apply yB|apply yC|((first|apply yD|apply yE);(first|exact yF|assumption);iterate 6 exact rfl)|((first|apply yG|apply yH|apply yI);exact rfl;(first|exact yJ|exact yK rfl rfl|exact yL rfl|exact yM rfl|exact rfl|exact aL rfl rfl rfl rfl rfl|exact aS rfl rfl rfl rfl rfl rfl rfl))|((first|apply yN|apply yO|apply yP);exact rfl)|(exfalso;omega)|(((first|apply yT|apply yU|apply yV|apply yW);exact rfl;(first|exact .d|exact .e|exact .n|((fail_if_success exact bqt);(fail_if_success exact bqf);exact .b)))<;>intro _)
      apply Go.draw
      refine Go.qkm [(0, [[.int .i64 0, .int .i64 0, .str []]]), (0, [encV ap.1])] [] ?_
      repeat' first|(apply Qk.nil;show Go _ _ _ _ _ _ _ _)|(apply Qk.op;exact rfl;(first|(rintro _ ⟨_, rfl⟩;exact rfl)|(rintro _ ⟨_, rfl⟩;exact aop_load rfl rfl rfl (Nat.le_of_ble_eq_true rfl) rfl)|(rintro _ ⟨_, rfl⟩;exact aop_sliceF (s := 3) rfl rfl hz hn lens)))|(apply Qk.no;exact rfl)|(apply Qk.wop;exact rfl;exact rfl;(first|exact yJ|exact yL rfl|exact aop_store rfl rfl rfl rfl rfl rfl (Nat.le_of_ble_eq_true rfl));exact ⟨_, rfl⟩)
      have hb1 : (([] : List (List Ce)).length + ((st.map encV).take n).length) * 32 ≤ 140737488355328 := by rw [List.length_take, List.length_map, List.length_nil]; omega
      refine Qk.app (k := 2) (v := 0) (ys := []) (junk := []) (zs := (st.map encV).take n) rfl rfl rfl rfl rfl (fun e he => (by simp at he)) Jk.nil (fun e he => lens e (List.mem_of_mem_take he)) hb1 (fun z => ⟨[z], rfl⟩) fun v1 j1 hj1 => ?_
      repeat' first|(apply Qk.nil;show Go _ _ _ _ _ _ _ _)|(apply Qk.op;exact rfl;(first|(rintro _ ⟨_, rfl⟩;exact rfl)|(rintro _ ⟨_, rfl⟩;exact aop_load rfl rfl rfl (Nat.le_of_ble_eq_true rfl) rfl)))|(apply Qk.no;exact rfl)|(apply Qk.wop;exact rfl;exact rfl;(first|exact yJ|exact yL rfl|exact aop_store rfl rfl rfl rfl rfl rfl (Nat.le_of_ble_eq_true rfl));exact ⟨_, rfl⟩)
      have hb2 : ((([] : List (List Ce)) ++ (st.map encV).take n).length + 1) * 32 ≤ 140737488355328 := by rw [List.nil_append, List.length_take, List.length_map]; omega
      refine Go.sapp1 (k := 2) (z := encV ap.1) rfl rfl rfl rfl rfl (fun e he => lens e (List.mem_of_mem_take he)) hj1 rfl hb2 fun v' junk' hj' => ?_
      repeat' first|refine yaG ?_|(exfalso;omega)|(refine yaS ?_ ?_<;>intro _)
      have e1 : [] ++ (st.map encV).take n ++ [encV ap.1] = (st.take n ++ [ap.1]).map encV := by simp
      rw [e1]
      refine Go.freezeN (l := [(0, [[.int .i64 0, .int .i64 0, .str []]])]) (m := [(0, [encV ap.1]), (v', (st.take n ++ [ap.1]).map encV ++ junk')])
        (fr' := [(0, .c (.fz (e.map encTok))), (1, .c (.fz (row.map encV))), (4, .c (.ptr (σ.next + 0) 0 0 0)), (6, .c (.fz ((st.take n ++ [ap.1]).map encV))), (7, .c (.int .i64 (IntKind.i64.wrap (k + 1))))])
        hS (fun b hb e he x hx => ?_) (Nat.le_refl _) (.frz rfl (.refl old_encTok) (.frz rfl (.refl old_encV) (.frz rfl (.refl (old_ptr (by simp))) (.frz rfl (frz_all (σ := σ) (l := [(0, [[.int .i64 0, .int .i64 0, .str []]]), (0, [encV ap.1]), (v', (st.take n ++ [ap.1]).map encV ++ junk')]) (k := 2) (v := v') (ys := st.take n ++ [ap.1]) (junk := junk') rfl (Nat.le_succ _)) (.frz rfl (.refl old_int) .nil))))) ?_
      · rw [List.mem_singleton.1 hb] at he
        exact (flats (l := [vNull]) e he x hx).old _
      refine hrec _ _ _ (by omega) ⟨i + 1, _, st.take n ++ [ap.1], rfl, hlt, wrap_succ hk (by omega), ⟨?_, (hst.take n).snoc hres, ?_, hev⟩, rfl, rfl⟩
      · simp only [List.length_append, List.length_take, List.length_singleton]; omega
      · have e2 : ((st.take n ++ [ap.1]).length : Int) = st.length + 1 - tokTakes e[i] := by
          simp only [List.length_append, List.length_singleton]
          omega
        rw [e2]
        exact haux
    intro hj
    rw [List.singleton_append]
    by_cases h1 : e[i].kind = 1
    · have htk0 : tokTakes e[i] = 0 := by rw [tokTakes, if_pos (.inl h1)]
      have hc2 := hcol h1
      have hcz : e[i].col = (e[i].col.toNat : Int) := by omega
      have hcl : e[i].col.toNat < row.length := by omega
      have hape : ap = (row[e[i].col.toNat], true) := by rw [← hap, applyF, if_pos h1, vAt, List.getElem?_eq_getElem hcl]; rfl
      rw [htk0] at hj
      repeat' first|apply Go.seq|apply Go.skip|apply Go.region|apply Go.nil|apply Go.block|apply Go.draw|apply Go.segs|(apply Go.exit;exact rfl)|(apply Go.cond true;exact rfl)|(apply Go.cond false;exact rfl)|apply yB|apply yC|((first|apply yG|apply yH|apply yI);exact rfl;(first|exact yJ|exact yK rfl rfl|exact yL rfl|exact yM rfl|exact rfl|exact aL rfl rfl rfl rfl rfl|exact aS rfl rfl rfl rfl rfl rfl rfl|exact yX (enc := encTok) rfl rfl hk hlt rfl|exact yX (enc := encV) rfl rfl hcz hcl rfl))|((first|apply yN|apply yO|apply yP);exact rfl)|(exfalso;omega)|(((first|apply yT|apply yU|apply yV|apply yW);exact rfl;(first|exact .d|exact .e|exact .n|((fail_if_success exact bqt);(fail_if_success exact bqf);exact .b)))<;>intro _)
      exact Go.keep [0, 1, 4, 6, 7, 8, 9, 10, 11] (hj _ _ ⟨row[e[i].col.toNat], true, by rw [hape], fun _ => by rw [hape], rfl, rfl⟩)
    by_cases h2 : e[i].kind = 2
    · have htk0 : tokTakes e[i] = 0 := by rw [tokTakes, if_pos (.inr h2)]
      have hape : ap = (e[i].v, true) := by rw [← hap, applyF, if_neg h1, if_pos h2]
      rw [htk0] at hj
      repeat' first|apply Go.seq|apply Go.skip|apply Go.region|apply Go.nil|apply Go.block|apply Go.draw|apply Go.segs|(apply Go.exit;exact rfl)|(apply Go.cond true;exact rfl)|(apply Go.cond false;exact rfl)|apply yB|apply yC|((first|apply yG|apply yH|apply yI);exact rfl;(first|exact yJ|exact yK rfl rfl|exact yL rfl|exact yM rfl|exact rfl|exact aL rfl rfl rfl rfl rfl|exact aS rfl rfl rfl rfl rfl rfl rfl|exact yX (enc := encTok) rfl rfl hk hlt rfl))|((first|apply yN|apply yO|apply yP);exact rfl)|(exfalso;omega)|(((first|apply yT|apply yU|apply yV|apply yW);exact rfl;(first|exact .d|exact .e|exact .n|((fail_if_success exact bqt);(fail_if_success exact bqf);exact .b)))<;>intro _)
      exact Go.keep [0, 1, 4, 6, 7, 8, 9, 10, 11] (hj _ _ ⟨e[i].v, true, by rw [hape], fun _ => by rw [hape], rfl, rfl⟩)
    have hn12 : ¬ (e[i].kind = 1 ∨ e[i].kind = 2) := by omega
    by_cases h8 : e[i].kind = 8
    · have htk0 : tokTakes e[i] = 1 := by rw [tokTakes, if_neg hn12, if_pos (.inr h8)]
      have hz1 : IntKind.i64.wrap ((st.length : Int) - 1) = ((st.length - 1 : Nat) : Int) := by rw [wrap64 (by omega) (by omega)]; omega
      have hl1 : st.length - 1 < st.length := by omega
      have hf : fromOf e[i] st = st.length - 1 := by rw [hft, htk0]; rfl
      have hyr := yes_range (st[st.length - 1].k == 0)
      have hape : ap = (asR (yes (st[st.length - 1].k == 0)), true) := by
        rw [← hap, hf, drop1 (by omega), ← asV_asR hyr.1]
        simp [applyF, h8, vAt]
      have hv : asR (yes (st[st.length - 1].k == 0)) = vInt (yes (st[st.length - 1].k == 0)) := by rw [asR, if_neg (by omega)]
      rw [htk0] at hj
      repeat' first|apply Go.seq|apply Go.skip|apply Go.region|apply Go.nil|apply Go.block|apply Go.draw|apply Go.segs|(apply Go.exit;exact rfl)|(apply Go.cond true;exact rfl)|(apply Go.cond false;exact rfl)|apply yB|apply yC|((first|apply yG|apply yH|apply yI);exact rfl;(first|exact yJ|exact yK rfl rfl|exact yL rfl|exact yM rfl|exact rfl|exact aL rfl rfl rfl rfl rfl|exact aS rfl rfl rfl rfl rfl rfl rfl|exact yX (enc := encTok) rfl rfl hk hlt rfl|exact yX (enc := encV) rfl rfl hz1 hl1 rfl))|((first|apply yN|apply yO|apply yP);exact rfl)|((first|apply yQ|apply yR|apply yS);(iterate 3 exact rfl);(first|exact l1Yes_ok _|exact l1Int_ok _))|(exfalso;omega)|(((first|apply yT|apply yU|apply yV|apply yW);exact rfl;(first|exact .d|exact .e|exact .n|((fail_if_success exact bqt);(fail_if_success exact bqf);exact .b)))<;>intro _)
      exact Go.keep [0, 1, 4, 6, 7, 8, 9, 10, 11] (hj _ _ ⟨vInt (yes (st[st.length - 1].k == 0)), true, by rw [hape], fun _ => by rw [hape, hv], rfl, rfl⟩)
    by_cases h7 : e[i].kind = 7
    · have htk0 : tokTakes e[i] = 1 := by rw [tokTakes, if_neg hn12, if_pos (.inl h7)]
      have hz1 : IntKind.i64.wrap ((st.length : Int) - 1) = ((st.length - 1 : Nat) : Int) := by rw [wrap64 (by omega) (by omega)]; omega
      have hl1 : st.length - 1 < st.length := by omega
      have hf : fromOf e[i] st = st.length - 1 := by rw [hft, htk0]; rfl
      have hape : ap = asV (not3 (truthV st[st.length - 1])) := by
        rw [← hap, hf, drop1 (by omega)]
        simp [applyF, h7, vAt]
      rw [htk0] at hj
      repeat' first|apply Go.seq|apply Go.skip|apply Go.region|apply Go.nil|apply Go.block|apply Go.draw|apply Go.segs|(apply Go.exit;exact rfl)|(apply Go.cond true;exact rfl)|(apply Go.cond false;exact rfl)|apply yB|apply yC|((first|apply yG|apply yH|apply yI);exact rfl;(first|exact yJ|exact yK rfl rfl|exact yL rfl|exact yM rfl|exact rfl|exact aL rfl rfl rfl rfl rfl|exact aS rfl rfl rfl rfl rfl rfl rfl|exact yX (enc := encTok) rfl rfl hk hlt rfl|exact yX (enc := encV) rfl rfl hz1 hl1 rfl))|((first|apply yN|apply yO|apply yP);exact rfl)|((first|apply yQ|apply yR|apply yS);(iterate 3 exact rfl);(first|exact l2Of_ok st[st.length - 1]|exact sNot3_ok _|exact l2As_ok _))|(exfalso;omega)|(((first|apply yT|apply yU|apply yV|apply yW);exact rfl;(first|exact .d|exact .e|exact .n|((fail_if_success exact bqt);(fail_if_success exact bqf);exact .b)))<;>intro _)
      refine Go.keep [0, 1, 4, 6, 7, 8, 9, 10, 11] (hj _ _ ⟨asR (not3 (ofT st[st.length - 1])), ofB st[st.length - 1], ?_, ?_, rfl, rfl⟩)
      · rw [hape]
        cases hb : ofB st[st.length - 1]
        · rw [ofB_not hb]; rfl
        · obtain ⟨q1, q2⟩ := ofB_truth hb
          rw [q1, asV_asR]
          rw [not3, tru_range.2 q2, if_pos rfl]
          split <;> omega
      · intro hb
        obtain ⟨q1, q2⟩ := ofB_truth hb
        rw [hape, q1, asV_asR]
        rw [not3, tru_range.2 q2, if_pos rfl]
        split <;> omega
    have htk0 : tokTakes e[i] = 2 := by rw [tokTakes, if_neg hn12, if_neg (by omega)]
    have hz1 : IntKind.i64.wrap ((st.length : Int) - 1) = ((st.length - 1 : Nat) : Int) := by rw [wrap64 (by omega) (by omega)]; omega
    have hz2 : IntKind.i64.wrap ((st.length : Int) - 2) = ((st.length - 2 : Nat) : Int) := by rw [wrap64 (by omega) (by omega)]; omega
    have hl1 : st.length - 1 < st.length := by omega
    have hl2 : st.length - 2 < st.length := by omega
    have hf : fromOf e[i] st = st.length - 2 := by rw [hft, htk0]; rfl
    obtain ⟨hw1, hw2⟩ := twoR_eq e[i] st[st.length - 2] st[st.length - 1] row (by omega)
    have hap2 : applyF e[i] [st[st.length - 2], st[st.length - 1]] row = ap := by rw [← hap, hf, drop2 (by omega)]
    rw [hap2] at hw1 hw2
    have ctwo := l2Two_ok e[i].kind st[st.length - 2] st[st.length - 1] (hst _ (List.getElem_mem _)) (hst _ (List.getElem_mem _))
    generalize twoR e[i].kind st[st.length - 2] st[st.length - 1] = tw at ctwo hw1 hw2
    rw [htk0] at hj
    repeat' first|apply Go.seq|apply Go.skip|apply Go.region|apply Go.nil|apply Go.block|apply Go.segs|(apply Go.exit;exact rfl)|(apply Go.cond true;exact rfl)|(apply Go.cond false;exact rfl)|apply yB|apply yC|((first|apply yG|apply yH|apply yI);exact rfl;(first|exact yJ|exact yK rfl rfl|exact yL rfl|exact yM rfl|exact rfl|exact aL rfl rfl rfl rfl rfl|exact aS rfl rfl rfl rfl rfl rfl rfl|exact yX (enc := encTok) rfl rfl hk hlt rfl))|((first|apply yN|apply yO|apply yP);exact rfl)|(exfalso;omega)|(((first|apply yT|apply yU|apply yV|apply yW);exact rfl;(first|exact .d|exact .e|exact .n|((fail_if_success exact bqt);(fail_if_success exact bqf);exact .b)))<;>intro _)
    apply Go.draw
    apply Go.qs
    repeat' first|(apply yA;exact rfl)|apply yC|((first|apply yD|apply yE);(first|exact yF|assumption);iterate 6 exact rfl)|((first|apply yG|apply yH|apply yI);exact rfl;(first|exact yJ|exact yK rfl rfl|exact yL rfl|exact yM rfl|exact rfl|exact aL rfl rfl rfl rfl rfl|exact aS rfl rfl rfl rfl rfl rfl rfl|exact yX (enc := encTok) rfl rfl hk hlt rfl|exact yX (enc := encV) rfl rfl hz2 hl2 rfl|exact yX (enc := encV) rfl rfl hz1 hl1 rfl|exact aop_load rfl rfl rfl (Nat.le_of_ble_eq_true rfl) rfl))|((first|apply yN|apply yO|apply yP);exact rfl)|((first|apply yQ|apply yR|apply yS);(iterate 3 exact rfl);exact ctwo)|(exfalso;omega)|(((first|apply yT|apply yU|apply yV|apply yW);exact rfl;(first|exact .d|exact .e|exact .n|((fail_if_success exact bqt);(fail_if_success exact bqf);exact .b)))<;>intro _)
    refine Go.qkm [(0, [[.int .i64 0, .int .i64 0, .str []]])] [(0, [encV vNull])] ?_
    repeat' first|(apply Qk.nil;show Go _ _ _ _ _ _ _ _)|(apply Qk.op;exact rfl;(first|(rintro _ ⟨_, rfl⟩;exact rfl)|(rintro _ ⟨_, rfl⟩;exact aop_load rfl rfl rfl (Nat.le_of_ble_eq_true rfl) rfl)))|(apply Qk.no;exact rfl)|(apply Qk.wop;exact rfl;exact rfl;(first|exact yJ|exact yL rfl|exact aop_store rfl rfl rfl rfl rfl rfl (Nat.le_of_ble_eq_true rfl));exact ⟨_, rfl⟩)
    repeat' first|apply Go.seq|apply Go.skip|apply Go.region|apply Go.nil|apply Go.block|apply Go.draw|apply Go.segs|(apply Go.exit;exact rfl)|(apply Go.cond true;exact rfl)|(apply Go.cond false;exact rfl)|apply yB|apply yC|((first|apply yG|apply yH|apply yI);exact rfl;(first|exact yJ|exact yK rfl rfl|exact yL rfl|exact yM rfl|exact rfl|exact aL rfl rfl rfl rfl rfl|exact aS rfl rfl rfl rfl rfl rfl rfl))|((first|apply yN|apply yO|apply yP);exact rfl)|(exfalso;omega)|(((first|apply yT|apply yU|apply yV|apply yW);exact rfl;(first|exact .d|exact .e|exact .n|((fail_if_success exact bqt);(fail_if_success exact bqf);exact .b)))<;>intro _)
    exact Go.keep [0, 1, 4, 6, 7, 8, 9, 10, 11] (hj _ _ ⟨tw.1, tw.2, hw1, fun h => by rw [hw2 (by rw [← hw1]; exact h)], rfl, rfl⟩)
  · have hd : e.drop i = [] := List.drop_eq_nil_of_le (by omega)
    rw [hd] at haux hev
    simp only [exprAux, beq_iff_eq] at haux
    obtain ⟨w, rfl⟩ : ∃ w, st = [w] := List.length_eq_one_iff.1 (by omega)
    have hR : evalR e row = (w, true) := by rw [evalR, hev]; rfl
    rw [hR]
    repeat' first|refine yaG ?_|(exfalso;omega)|(refine yaS ?_ ?_<;>intro _)
    exact .ret (retv_mt rfl rfl rfl (Nat.zero_le _) rfl rfl) (fin_vb w _)
theorem l2Truth_ok (e : List Tok) (row : List Val) (hv : areVals row 16 = true) (he : exprF e row.length = true) : Pure Tryz.prog 176 [.c (.fz (e.map encTok)), .c (.fz (row.map encV))] (.c (.int .i64 (truthR e row))) := by
  refine Pure.run mixed c_spec_l2Truth_ok (Nat.le_of_ble_eq_true rfl) fun σ hS hA => ?_
  clear hS hA
  obtain ⟨hok, hrl⟩ := areVals_oks hv
  obtain ⟨hel, hea⟩ := exprF_aux he
  have c1 := l2Eval_ok e row (by omega) (by omega) hok hea
  have c2 := l2Of_ok (evalR e row).1
  rw [truthR]
  generalize evalR e row = q at c1 c2 ⊢
  obtain ⟨v, b⟩ := q
  simp only at c1 c2 ⊢
  cases hb : ofB v
  · rw [hb] at c2
    have h1 := ofB_not hb
    cases b
    · repeat' first|refine yaG ?_|refine yaC (c1) ?_|refine yaC (c2) ?_|(exfalso;omega)|(refine yaS ?_ ?_<;>intro _)
      exact .ret rfl (.int rfl)
    · repeat' first|refine yaG ?_|refine yaC (c1) ?_|refine yaC (c2) ?_|(exfalso;omega)|(refine yaS ?_ ?_<;>intro _)
      exact .ret rfl (.int (by rw [if_pos rfl, h1]))
  · rw [hb] at c2
    have h1 := (ofB_truth hb).1
    cases b
    · repeat' first|refine yaG ?_|refine yaC (c1) ?_|refine yaC (c2) ?_|(exfalso;omega)|(refine yaS ?_ ?_<;>intro _)
      exact .ret rfl (.int rfl)
    · repeat' first|refine yaG ?_|refine yaC (c1) ?_|refine yaC (c2) ?_|(exfalso;omega)|(refine yaS ?_ ?_<;>intro _)
      exact .ret rfl (.int (by rw [if_pos rfl, h1]))
end Go.Proofs.YtinbdedlmkjokaaGreat.Am

/- The reader that draws: values, expressions, conditions, rows. -/
set_option linter.unusedVariables false
set_option linter.unusedSimpArgs false
namespace Go.Proofs.YtinbdedlmkjokaaGreat.Am

theorem finR_v {σ : Store} {id v : Nat} {code : List UInt8} {q : Nat} {l : List (Nat × List (List Ce))} (hq : q ≤ code.length) (w : Val) (hw : w.s.length ≤ 12) : FinR σ id v code AnyV (.agg (encV w)) (E (Rd.go σ id v code q) l) := .c hq ⟨w, hw, rfl⟩ (old_v w)
theorem below_lt {n : Int} (h : 1 < n) {r : AV} (hr : BelowR n r) : ∃ k : Nat, (k : Int) < n ∧ r = .c (.int .i64 (k : Int)) := by
  obtain ⟨k, h0, h1, rfl⟩ := hr
  exact ⟨k.toNat, by omega, by rw [Int.toNat_of_nonneg h0]⟩
theorem val_ok : Draws Tryz.prog 225 [] AnyV := by
  refine Draws.run mixed c_spec_l1Rd_val_ok (Nat.le_of_ble_eq_true rfl) fun σ id v code p hr hp hc hS => ?_
  clear hS
  repeat' first|refine yaG ?_|(exfalso;omega)|(refine yaS ?_ ?_<;>intro _)
  refine Go.drawn hr hp rfl rfl rfl (below_ok 12 (by decide) (by decide)) ?_
  intro r q hq hz
  obtain ⟨k, hk, rfl⟩ := below_lt (by decide) hz
  have hcase : k = 0 ∨ k = 1 ∨ k = 2 ∨ k = 3 ∨ k = 4 ∨ 5 ≤ k := by omega
  rcases hcase with rfl | rfl | rfl | rfl | rfl | h5
  · repeat' first|refine yaG ?_|(exfalso;omega)|(refine yaS ?_ ?_<;>intro _)
    exact .ret (retv_m rfl rfl rfl (Nat.zero_le _) rfl) (finR_v hq vNull (by decide))
  · repeat' first|refine yaG ?_|(exfalso;omega)|(refine yaS ?_ ?_<;>intro _)
    exact .ret (retv_m rfl rfl rfl (Nat.zero_le _) rfl) (finR_v hq vNull (by decide))
  all_goals repeat' first|refine yaG ?_|(exfalso;omega)|(refine yaS ?_ ?_<;>intro _)
  · refine Go.drawn hr hq rfl rfl rfl (below_ok 6 (by decide) (by decide)) ?_
    intro r q2 hq2 hz
    obtain ⟨m, hm, rfl⟩ := below_lt (by decide) hz
    have hm6 : m = 0 ∨ m = 1 ∨ m = 2 ∨ m = 3 ∨ m = 4 ∨ m = 5 := by omega
    rcases hm6 with rfl | rfl | rfl | rfl | rfl | rfl
    all_goals repeat' first|refine yaG ?_|refine yaC (l1Str_ok _) ?_|(exfalso;omega)|(refine yaS ?_ ?_<;>intro _)
    all_goals exact .ret (retv_m rfl rfl rfl (Nat.zero_le _) rfl) (finR_v hq2 ⟨2, 0, _⟩ (by decide))
  · refine Go.drawn hr hq rfl rfl rfl (below_ok 6 (by decide) (by decide)) ?_
    intro r q2 hq2 hz
    obtain ⟨m, hm, rfl⟩ := below_lt (by decide) hz
    have hm6 : m = 0 ∨ m = 1 ∨ m = 2 ∨ m = 3 ∨ m = 4 ∨ m = 5 := by omega
    rcases hm6 with rfl | rfl | rfl | rfl | rfl | rfl
    all_goals repeat' first|refine yaG ?_|refine yaC (l1Str_ok _) ?_|(exfalso;omega)|(refine yaS ?_ ?_<;>intro _)
    all_goals exact .ret (retv_m rfl rfl rfl (Nat.zero_le _) rfl) (finR_v hq2 ⟨2, 0, _⟩ (by decide))
  · refine Go.drawn hr hq rfl rfl rfl (below_ok 4 (by decide) (by decide)) ?_
    intro r q2 hq2 hz
    obtain ⟨m, hm, rfl⟩ := below_lt (by decide) hz
    have hm4 : m = 0 ∨ m = 1 ∨ m = 2 ∨ m = 3 := by omega
    rcases hm4 with rfl | rfl | rfl | rfl
    all_goals repeat' first|refine yaG ?_|refine yaC (l1Int_ok _) ?_|(exfalso;omega)|(refine yaS ?_ ?_<;>intro _)
    all_goals exact .ret (retv_m rfl rfl rfl (Nat.zero_le _) rfl) (finR_v hq2 (vInt _) (by decide))
  · refine Go.drawn hr hq rfl rfl rfl (below_ok 5 (by decide) (by decide)) ?_
    intro r q2 hq2 hz
    obtain ⟨m, hm, rfl⟩ := below_lt (by decide) hz
    repeat' first|refine yaG ?_|refine yaC (l1Int_ok _) ?_|(exfalso;omega)|(refine yaS ?_ ?_<;>intro _)
    exact .ret (retv_m rfl rfl rfl (Nat.zero_le _) rfl) (finR_v hq2 (vInt _) (by simp [vInt]))
/-! ### expressions -/
/-- An owned slice of tokens, first of what was made. -/
def OwnT (σ : Store) (id v : Nat) (code : List UInt8) (N : Nat) (r : AV) (τ : Store) : Prop := ∃ (q : Nat) (ts : List Tok) (u : Nat) (junk : List (List Ce)) (l : List (Nat × List (List Ce))), q ≤ code.length ∧ ts.length ≤ N ∧ (∀ t ∈ ts, bTok 12 t) ∧ Jk 5 junk ∧ r = .c (vec (σ.next + 0) u (ts.map encTok) junk) ∧ τ = E (Rd.go σ id v code q) ((u, ts.map encTok ++ junk) :: l)
theorem encTok_len {l : List Tok} : ∀ e ∈ l.map encTok, e.length = 5 := fun e he => by
  obtain ⟨a, _, rfl⟩ := List.mem_map.1 he
  rfl
theorem els_vec {σ : Store} {l : List (Nat × List (List Ce))} {k u : Nat} {ys junk : List (List Ce)} (hl : l[k]? = some (u, ys ++ junk)) : (E σ l).els (vec (σ.next + k) u ys junk) = some ys := by
  simp only [vec, Store.els, E_get hl, List.length_append, Nat.zero_add, Nat.le_add_right, and_self, if_true, List.drop_zero]
  rw [List.take_left' rfl]
theorem expr_own (n : Int) (hn : 0 < n) (hn2 : n ≤ 16) : ∀ (d : Nat), d ≤ 2 → ∀ (σ : Store) (id v : Nat) (code : List UInt8) (p : Nat), Rd σ id v code p → Ok Tryz.prog 159 [.c (.ptr id v 0 0), .c (.int .i64 n), .c (.int .i64 (d : Int))] σ (OwnT σ id v code (2 ^ (d + 1) - 1))
  | d, hd, σ, id, v, code, p, hr => by
    have ih : ∀ e, d = e + 1 → ∀ (σ : Store) (p : Nat), Rd σ id v code p → Ok Tryz.prog 159 [.c (.ptr id v 0 0), .c (.int .i64 n), .c (.int .i64 (e : Int))] σ (OwnT σ id v code (2 ^ (e + 1) - 1)) := fun e he σ p hr => expr_own n hn hn2 e (by omega) σ id v code p hr
    refine Ok.run mixed c_spec_l1Rd_expr_ok (Nat.le_of_ble_eq_true rfl) fun hS hA => ?_
    clear hS hA
    have hp := hr.2.2.1
    have hpow : 1 ≤ 2 ^ (d + 1) - 1 := by
      have : d = 0 ∨ d = 1 ∨ d = 2 := by omega
      rcases this with rfl | rfl | rfl <;> decide
    rw [show E σ [] = E (Rd.go σ id v code p) [] by rw [hr.same]]
    have hd0 : d = 0 ∨ ∃ e, d = e + 1 := by cases d with | zero => exact .inl rfl | succ e => exact .inr ⟨e, rfl⟩
    rcases hd0 with rfl | ⟨e, rfl⟩
    · repeat' first|refine yaG ?_|(exfalso;omega)|(refine yaS ?_ ?_<;>intro _)
      refine Go.drawn hr hp rfl rfl rfl (once_ok 3 (by decide) (by decide)) ?_
      rintro _ q hq ⟨b, rfl⟩
      cases b
      · repeat' first|refine yaG ?_|(exfalso;omega)|(refine yaS ?_ ?_<;>intro _)
        refine Go.drawn hr hq rfl rfl rfl (below_ok n (by omega) (by omega)) ?_
        rintro _ q2 hq2 ⟨k, hk0, hk1, rfl⟩
        repeat' first|refine yaG ?_|refine yaC (l2Col_ok _) ?_|(exfalso;omega)|(refine yaS ?_ ?_<;>intro _)
        exact .ret rfl ⟨q2, [tCol k], 0, [], [], hq2, hpow, fun t ht => by rw [List.mem_singleton.1 ht]; exact Nat.zero_le _, Jk.nil, rfl, rfl⟩
      · repeat' first|refine yaG ?_|(exfalso;omega)|(refine yaS ?_ ?_<;>intro _)
        refine Go.drawn hr hq rfl rfl rfl val_ok ?_
        rintro _ q2 hq2 ⟨w, hw, rfl⟩
        repeat' first|refine yaG ?_|refine yaC (l2Const_ok _) ?_|(exfalso;omega)|(refine yaS ?_ ?_<;>intro _)
        exact .ret rfl ⟨q2, [tConst w], 0, [], [], hq2, hpow, fun t ht => by rw [List.mem_singleton.1 ht]; exact hw, Jk.nil, rfl, rfl⟩
    · have hde : ¬ ((e + 1 : Nat) : Int) = 0 := by omega
      repeat' first|refine yaG ?_|(exfalso;omega)|(refine yaS ?_ ?_<;>intro _)
      refine Go.drawn hr hp rfl rfl rfl (once_ok 4 (by decide) (by decide)) ?_
      rintro _ q0 hq0 ⟨b0, rfl⟩
      cases b0
      · repeat' first|refine yaG ?_|(exfalso;omega)|(refine yaS ?_ ?_<;>intro _)
        refine Go.drawn hr hq0 rfl rfl rfl (below_ok 8 (by decide) (by decide)) ?_
        intro r q1 hq1 hz
        obtain ⟨k, hk, rfl⟩ := below_lt (by decide) hz
        have e0 : IntKind.i64.wrap (((e + 1 : Nat) : Int) - 1) = (e : Int) := by rw [wrap64 (by omega) (by omega)]; omega
        have e1 : IntKind.i64.wrap (3 + (k : Int)) = 3 + k := wrap64 (by omega) (by omega)
        repeat' first|refine yaG ?_|(exfalso;omega)|(refine yaS ?_ ?_<;>intro _)
        rw [e0, e1]
        have c1 := ih e rfl (E (Rd.go σ id v code q1) []) q1 ((hr.at_ hq1).E [])
        refine .call _ rfl rfl rfl c1 ?_
        rintro r τ ⟨q2, ts, u, junk, l, hq2, hts, hb, hj, rfl, rfl⟩
        rw [Rd.go_E (show id < (Rd.go σ id v code q1).next from hr.2.1), Rd.go_go, E_E, List.nil_append]
        have hpe : 2 ^ (e + 1 + 1) - 1 = 2 * (2 ^ (e + 1) - 1) + 1 := by
          have : e = 0 ∨ e = 1 := by omega
          rcases this with rfl | rfl <;> decide
        have hP : 2 ^ (e + 1) - 1 ≤ 3 := by
          have : e = 0 ∨ e = 1 := by omega
          rcases this with rfl | rfl <;> decide
        by_cases h7 : k = 4 ∨ k = 5
        · have last : ∀ z : Int, bTok 12 ⟨z, 0, vNull⟩ := fun z => Nat.zero_le _
          rcases h7 with rfl | rfl
          · repeat' first|refine yaG ?_|(exfalso;omega)|(refine yaS ?_ ?_<;>intro _)
            refine Go.app1 (k := 0) (ys := ts.map encTok) (junk := junk) (z := encTok ⟨7, 0, vNull⟩) rfl rfl rfl rfl rfl encTok_len hj rfl (by rw [List.length_map]; omega) fun u' junk' hj' => ?_
            repeat' first|refine yaG ?_|(exfalso;omega)|(refine yaS ?_ ?_<;>intro _)
            refine .ret rfl ⟨q2, ts ++ [⟨7, 0, vNull⟩], u', junk', l, hq2, by rw [List.length_append, List.length_singleton]; omega, fun t ht => ?_, hj', by rw [List.map_append]; rfl, by rw [List.map_append]; rfl⟩
            rcases List.mem_append.1 ht with ht | ht
            · exact hb t ht
            · rw [List.mem_singleton.1 ht]; exact last _
          · repeat' first|refine yaG ?_|(exfalso;omega)|(refine yaS ?_ ?_<;>intro _)
            refine Go.app1 (k := 0) (ys := ts.map encTok) (junk := junk) (z := encTok ⟨8, 0, vNull⟩) rfl rfl rfl rfl rfl encTok_len hj rfl (by rw [List.length_map]; omega) fun u' junk' hj' => ?_
            repeat' first|refine yaG ?_|(exfalso;omega)|(refine yaS ?_ ?_<;>intro _)
            refine .ret rfl ⟨q2, ts ++ [⟨8, 0, vNull⟩], u', junk', l, hq2, by rw [List.length_append, List.length_singleton]; omega, fun t ht => ?_, hj', by rw [List.map_append]; rfl, by rw [List.map_append]; rfl⟩
            rcases List.mem_append.1 ht with ht | ht
            · exact hb t ht
            · rw [List.mem_singleton.1 ht]; exact last _
        · have hk7 : ¬ (3 + (k : Int)) = 7 := by omega
          have hk8 : ¬ (3 + (k : Int)) = 8 := by omega
          repeat' first|refine yaG ?_|(exfalso;omega)|(refine yaS ?_ ?_<;>intro _)
          rw [e0]
          have c2 := ih e rfl (E (Rd.go σ id v code q2) ((u, ts.map encTok ++ junk) :: l)) q2 ((hr.at_ hq2).E _)
          refine .call _ rfl rfl rfl c2 ?_
          rintro r τ ⟨q3, ts2, u2, junk2, l2, hq3, hts2, hb2, hj2, rfl, rfl⟩
          rw [Rd.go_E (show id < (Rd.go σ id v code q2).next from hr.2.1), Rd.go_go, E_E]
          have hL : (((u, ts.map encTok ++ junk) :: l ++ (u2, ts2.map encTok ++ junk2) :: l2) : List (Nat × List (List Ce)))[l.length + 1]? = some (u2, ts2.map encTok ++ junk2) := by
            rw [List.getElem?_append_right (by simp)]
            simp
          have hid : (E (Rd.go σ id v code q2) ((u, ts.map encTok ++ junk) :: l)).next + 0 = (Rd.go σ id v code q3).next + (l.length + 1) := rfl
          rw [hid]
          repeat' first|refine yaG ?_|(exfalso;omega)|(refine yaS ?_ ?_<;>intro _)
          refine Go.app (k := 0) (ys := ts.map encTok) (junk := junk) (zs := ts2.map encTok) rfl rfl rfl (els_vec hL) rfl encTok_len hj encTok_len (by rw [List.length_map, List.length_map]; omega) fun u3 junk3 hj3 => ?_
          rw [← List.map_append]
          have hts3 : (ts ++ ts2).length ≤ 2 * (2 ^ (e + 1) - 1) := by rw [List.length_append]; omega
          have hb3 : ∀ t ∈ ts ++ ts2, bTok 12 t := fun t ht => by
            rcases List.mem_append.1 ht with ht | ht
            · exact hb t ht
            · exact hb2 t ht
          generalize ts ++ ts2 = ts3 at hts3 hb3
          repeat' first|refine yaG ?_|(exfalso;omega)|(refine yaS ?_ ?_<;>intro _)
          refine Go.app1 (k := 0) (ys := ts3.map encTok) (junk := junk3) (z := encTok ⟨3 + (k : Int), 0, vNull⟩) rfl rfl rfl rfl rfl encTok_len hj3 rfl (by rw [List.length_map]; omega) fun u' junk' hj' => ?_
          repeat' first|refine yaG ?_|(exfalso;omega)|(refine yaS ?_ ?_<;>intro _)
          refine .ret rfl ⟨q3, ts3 ++ [⟨3 + (k : Int), 0, vNull⟩], u', junk', _, hq3, by rw [List.length_append, List.length_singleton]; omega, fun t ht => ?_, hj', by rw [List.map_append]; rfl, by rw [List.map_append]; rfl⟩
          rcases List.mem_append.1 ht with ht | ht
          · exact hb3 t ht
          · rw [List.mem_singleton.1 ht]; exact Nat.zero_le _
      · repeat' first|refine yaG ?_|(exfalso;omega)|(refine yaS ?_ ?_<;>intro _)
        refine Go.drawn hr hq0 rfl rfl rfl (once_ok 3 (by decide) (by decide)) ?_
        rintro _ q hq ⟨b, rfl⟩
        cases b
        · repeat' first|refine yaG ?_|(exfalso;omega)|(refine yaS ?_ ?_<;>intro _)
          refine Go.drawn hr hq rfl rfl rfl (below_ok n (by omega) (by omega)) ?_
          rintro _ q2 hq2 ⟨k, hk0, hk1, rfl⟩
          repeat' first|refine yaG ?_|refine yaC (l2Col_ok _) ?_|(exfalso;omega)|(refine yaS ?_ ?_<;>intro _)
          exact .ret rfl ⟨q2, [tCol k], 0, [], [], hq2, hpow, fun t ht => by rw [List.mem_singleton.1 ht]; exact Nat.zero_le _, Jk.nil, rfl, rfl⟩
        · repeat' first|refine yaG ?_|(exfalso;omega)|(refine yaS ?_ ?_<;>intro _)
          refine Go.drawn hr hq rfl rfl rfl val_ok ?_
          rintro _ q2 hq2 ⟨w, hw, rfl⟩
          repeat' first|refine yaG ?_|refine yaC (l2Const_ok _) ?_|(exfalso;omega)|(refine yaS ?_ ?_<;>intro _)
          exact .ret rfl ⟨q2, [tConst w], 0, [], [], hq2, hpow, fun t ht => by rw [List.mem_singleton.1 ht]; exact hw, Jk.nil, rfl, rfl⟩
end Go.Proofs.YtinbdedlmkjokaaGreat.Am

/- The laws' helpers on types, printed by a program: Set, Row, Stmt. -/
set_option linter.unusedVariables false
set_option linter.unusedSimpArgs false
namespace Go.Proofs.YtinbdedlmkjokaaGreat.Am
structure RowD where
  id : Int
  vals : List Val
  deriving DecidableEq
def encRowD (a : RowD) : List Ce := [.int .i64 a.id, .fz (a.vals.map encV)]
def bRowD (N : Nat) (a : RowD) : Prop := (a.vals.length ≤ N ∧ ∀ x ∈ a.vals, bV N x)
end Go.Proofs.YtinbdedlmkjokaaGreat.Am

/- The reader that draws: expressions frozen, conditions, rows. -/
set_option linter.unusedVariables false
set_option linter.unusedSimpArgs false
namespace Go.Proofs.YtinbdedlmkjokaaGreat.Am

theorem Rd.old {σ : Store} {id v : Nat} {code : List UInt8} {p q : Nat} (hr : Rd σ id v code p) (hS : OldS σ) : OldS (Rd.go σ id v code q) := by
  intro a y hy
  by_cases e : a = id
  · subst e
    rw [show (Rd.go σ a v code q).get a = some (v, rdB code q) from if_pos rfl] at hy
    injection hy with hy
    subst hy
    refine ⟨hr.2.1, fun i j hi hj => ?_⟩
    have hold := (hS a _ hr.1).2
    have hi0 : i = 0 := by simp [rdB] at hi; omega
    subst hi0
    have hj2 : j = 0 ∨ j = 1 := by simp [rdB] at hj; omega
    rcases hj2 with rfl | rfl
    · exact hold 0 0 (by simp [rdB]) (by simp [rdB])
    · exact .int _ _
  · rw [show (Rd.go σ id v code q).get a = σ.get a from if_neg e] at hy
    exact hS a y hy
/-- A frozen slice of tokens. -/
def Toks (N : Nat) (r : AV) : Prop := ∃ ts : List Tok, ts.length ≤ N ∧ (∀ t ∈ ts, bTok 12 t) ∧ r = .c (.fz (ts.map encTok))
theorem flatTs {l : List Tok} : ∀ e ∈ l.map encTok, ∀ x ∈ e, Flat x := fun e he x hx => by
  obtain ⟨a, _, rfl⟩ := List.mem_map.1 he
  exact flatTok a x hx
theorem old_toks {n : Nat} {l : List Tok} : ∀ y ∈ (AV.c (.fz (l.map encTok))).all, Old n y := old_fzF flatTs
theorem expr_ok (n : Int) (hn : 0 < n) (hn2 : n ≤ 16) (d : Nat) (hd : d ≤ 2) : Draws Tryz.prog 159 [.c (.int .i64 n), .c (.int .i64 (d : Int))] (Toks 7) :=
  ⟨fun σ id v code p hr => Draws.ends hr ((expr_own n hn hn2 d hd σ id v code p hr).mono (by
    rintro r τ ⟨q, ts, u, junk, l, hq, hts, hb, hj, rfl, rfl⟩
    have h7 : 2 ^ (d + 1) - 1 ≤ 7 := by
      have : d = 0 ∨ d = 1 ∨ d = 2 := by omega
      rcases this with rfl | rfl | rfl <;> decide
    exact .f hq ⟨ts, by omega, hb, rfl⟩ (frz_drop (n := 0) (k := 0) rfl flatTs (Nat.zero_le _) (Nat.le_refl _))))⟩
theorem finR_t {σ : Store} {id v : Nat} {code : List UInt8} {q : Nat} {l : List (Nat × List (List Ce))} (hq : q ≤ code.length) (ts : List Tok) (h7 : ts.length ≤ 7) (hb : ∀ t ∈ ts, bTok 12 t) {x : Ce} (hx : x = .fz (ts.map encTok)) : FinR σ id v code (Toks 7) (.c x) (E (Rd.go σ id v code q) l) := by
  subst hx
  exact .c hq ⟨ts, h7, hb, rfl⟩ old_toks
theorem cond_ok (n : Int) (hn : 0 < n) (hn2 : n ≤ 16) : Draws Tryz.prog 160 [.c (.int .i64 n)] (Toks 7) := by
  refine Draws.run mixed c_spec_l1Rd_cond_ok (Nat.le_of_ble_eq_true rfl) fun σ id v code p hr hp hc hS => ?_
  clear hS
  repeat' first|refine yaG ?_|(exfalso;omega)|(refine yaS ?_ ?_<;>intro _)
  refine Go.drawn hr hp rfl rfl rfl (below_ok n (by omega) (by omega)) ?_
  rintro _ q hq ⟨c, hc0, hc1, rfl⟩
  repeat' first|refine yaG ?_|(exfalso;omega)|(refine yaS ?_ ?_<;>intro _)
  refine Go.drawn hr hq rfl rfl rfl (below_ok 4 (by decide) (by decide)) ?_
  rintro _ q1 hq1 ⟨k, hk0, hk1, rfl⟩
  repeat' first|refine yaG ?_|refine yaC (l1Int_ok _) ?_|refine yaC (l2Const_ok _) ?_|(exfalso;omega)|(refine yaS ?_ ?_<;>intro _)
  refine Go.drawn hr hq1 rfl rfl rfl (below_ok 5 (by decide) (by decide)) ?_
  intro r q2 hq2 hz
  obtain ⟨m, hm, rfl⟩ := below_lt (by decide) hz
  have hm5 : m = 0 ∨ m = 1 ∨ m = 2 ∨ m = 3 ∨ m = 4 := by omega
  rcases hm5 with rfl | rfl | rfl | rfl | rfl
  all_goals repeat' first|refine yaG ?_|refine yaC (l1Int_ok _) ?_|refine yaC (l2Const_ok _) ?_|refine yaC (l2Col_ok _) ?_|(exfalso;omega)|(refine yaS ?_ ?_<;>intro _)
  · exact .ret rfl (finR_t hq2 [tConst (vInt 1)] (by decide) (fun t ht => by rw [List.mem_singleton.1 ht]; exact Nat.zero_le _) rfl)
  · exact .ret rfl (finR_t hq2 [tCol c, tConst (vInt k), ⟨3, 0, vNull⟩] (by simp) (fun t ht => by
      simp only [List.mem_cons, List.not_mem_nil, or_false] at ht
      rcases ht with rfl | rfl | rfl <;> exact Nat.zero_le _) rfl)
  · exact .ret rfl (finR_t hq2 [tCol c, ⟨8, 0, vNull⟩, ⟨7, 0, vNull⟩] (by simp) (fun t ht => by
      simp only [List.mem_cons, List.not_mem_nil, or_false] at ht
      rcases ht with rfl | rfl | rfl <;> exact Nat.zero_le _) rfl)
  · refine Go.drawn hr hq2 rfl rfl rfl (expr_ok n hn hn2 2 (by decide)) ?_
    rintro _ q3 hq3 ⟨ts, h7, hb, rfl⟩
    repeat' first|refine yaG ?_|(exfalso;omega)|(refine yaS ?_ ?_<;>intro _)
    exact .ret rfl (finR_t hq3 ts h7 hb rfl)
  · exact .ret rfl (finR_t hq2 [tConst (vInt k), tCol c, ⟨4, 0, vNull⟩] (by simp) (fun t ht => by
      simp only [List.mem_cons, List.not_mem_nil, or_false] at ht
      rcases ht with rfl | rfl | rfl <;> exact Nat.zero_le _) rfl)
/-! ### a table's row -/
/-- An owned slice of values, alone. -/
def OwnVs (σ : Store) (id v : Nat) (code : List UInt8) (N : Nat) (r : AV) (τ : Store) : Prop := ∃ (q : Nat) (vs : List Val) (u : Nat) (junk : List (List Ce)), q ≤ code.length ∧ vs.length = N ∧ (∀ w ∈ vs, bV 12 w) ∧ Jk 3 junk ∧ r = .c (vec (σ.next + 0) u (vs.map encV) junk) ∧ τ = E (Rd.go σ id v code q) [(u, vs.map encV ++ junk)]
theorem fit_own (t : Table) (hN : t.cols.length ≤ 60) (σ : Store) (id v : Nat) (code : List UInt8) (p : Nat) (hr : Rd σ id v code p) : Ok Tryz.prog 157 [.c (.ptr id v 0 0), .agg (encTable t)] σ (OwnVs σ id v code t.cols.length) := by
  refine Ok.run mixed c_spec_l1Rd_fit_ok (Nat.le_of_ble_eq_true rfl) fun hS hA => ?_
  have hp := hr.2.2.1
  have hT : ∀ n, σ.next ≤ n → ∀ y ∈ (AV.c (.fp (encTable t))).all, Old n y := fun n hn y hy => by
    simp only [AV.all, List.mem_singleton] at hy
    subst hy
    exact .fp _ fun j hj => (hA _ (by simp) _ (List.getElem_mem (l := (AV.agg (encTable t)).all) (n := j) hj)).mono hn
  clear hA
  rw [show E σ [] = E (Rd.go σ id v code p) [] by rw [hr.same]]
  repeat' first|refine yaG ?_|(exfalso;omega)|(refine yaS ?_ ?_<;>intro _)
  refine Go.keep [0, 3, 5, 6] (Go.loops (I := fun m fr τ => ∃ (i : Nat) (k : Int) (q u : Nat) (vs : List Val) (junk : List (List Ce)), m = t.cols.length - i ∧ i ≤ t.cols.length ∧ k = i ∧ q ≤ code.length ∧ Jk 3 junk ∧ (vs.length = i ∧ ∀ w ∈ vs, bV 12 w) ∧
    fr = [(0, .c (.ptr id v 0 0)), (3, .c (.fp (encTable t))), (5, .c (vec (σ.next + 0) u (vs.map encV) junk)), (6, .c (.int .i64 k))] ∧ τ = E (Rd.go σ id v code q) [(u, vs.map encV ++ junk)]) ?_ _ _ _ ⟨0, _, p, 0, [], [], rfl, Nat.zero_le _, rfl, hp, Jk.nil, ⟨rfl, fun w hw => by simp at hw⟩, rfl, rfl⟩)
  rintro m fr τ ⟨i, k, q, u, vs, junk, rfl, hi, hk, hq, hj, ⟨hl, hb⟩, rfl, rfl⟩ hrec
  by_cases hlt : i < t.cols.length
  · have fin := fun (w : Val) (q u' : Nat) (junk' : List (List Ce)) (hw : bV 12 w) (hq : q ≤ code.length) (hj' : Jk 3 junk') fr' σ' hfr hσ => hrec _ fr' σ' (by omega) ⟨i + 1, IntKind.i64.wrap (k + 1), q, u', vs ++ [w], junk', rfl, hlt, wrap_succ hk (by omega), hq, hj', ⟨by rw [List.length_append, List.length_singleton, hl], fun x hx => by
      rcases List.mem_append.1 hx with hx | hx
      · exact hb x hx
      · rw [List.mem_singleton.1 hx]; exact hw⟩, hfr, hσ⟩
    clear hrec
    have hbd : ((vs.map encV).length + 1) * 32 ≤ 140737488355328 := by rw [List.length_map]; omega
    have keepF : ∀ (n u' : Nat) (junk' : List (List Ce)) {w : Val}, Jk 3 junk' → ∀ b ∈ [(u', vs.map encV ++ [encV w] ++ junk')], ∀ e ∈ b.2, ∀ x ∈ e, Old n x := fun n u' junk' w hj' b hb2 e he x hx => by
      rw [List.mem_singleton.1 hb2] at he
      rcases List.mem_append.1 he with he | he
      · rcases List.mem_append.1 he with he | he
        · exact (flats e he x hx).old _
        · rw [List.mem_singleton.1 he] at hx; exact (encV_flat w x hx).old _
      · exact ((hj' e he).2 x hx).old _
    repeat' first|refine yaG ?_|(exfalso;omega)|(refine yaS ?_ ?_<;>intro _)
    refine Go.drawn hr hq rfl rfl rfl (below_ok 5 (by decide) (by decide)) ?_
    rintro _ q1 hq1 ⟨a, ha0, ha1, rfl⟩
    repeat' first|refine yaN ?_|((first|apply yG|apply yH|apply yI);exact rfl;(first|exact yX (enc := encCol) rfl rfl hk hlt rfl))|refine yaC (l1Int_ok _) ?_|(exfalso;omega)|(refine yaS ?_ ?_<;>intro _)
    -- paths
    · refine Go.drawn hr hq1 rfl rfl rfl (below_ok 3 (by decide) (by decide)) ?_
      intro r q2 hq2 hz
      obtain ⟨m, hm, rfl⟩ := below_lt (by decide) hz
      have hm3 : m = 0 ∨ m = 1 ∨ m = 2 := by omega
      rcases hm3 with rfl | rfl | rfl
      · repeat' first|refine yaG ?_|refine yaC (l1Str_ok _) ?_|(exfalso;omega)|(refine yaS ?_ ?_<;>intro _)
        refine Go.drawn hr hq2 rfl rfl rfl (once_ok 8 (by decide) (by decide)) ?_
        rintro _ q4 hq4 ⟨b5, rfl⟩
        cases b5
        · repeat' first|refine yaG ?_|(exfalso;omega)|(refine yaS ?_ ?_<;>intro _)
          refine Go.drawn hr hq4 rfl rfl rfl (once_ok 60 (by decide) (by decide)) ?_
          rintro _ q5 hq5 ⟨b6, rfl⟩
          cases b6
          · repeat' first|refine yaG ?_|(exfalso;omega)|(refine yaS ?_ ?_<;>intro _)
            refine Go.app1 (k := 0) (ys := vs.map encV) (junk := junk) (z := encV (⟨2, 0, []⟩ : Val)) rfl rfl rfl rfl rfl lens hj rfl hbd fun u' junk' hj' => ?_
            repeat' first|refine yaG ?_|(exfalso;omega)|(refine yaS ?_ ?_<;>intro _)
            refine Go.freezeN (l := [(u', vs.map encV ++ [encV (⟨2, 0, []⟩ : Val)] ++ junk')]) (m := [(0, [encV (⟨2, 0, []⟩ : Val)])]) (fr' := [(0, .c (.ptr id v 0 0)), (3, .c (.fp (encTable t))), (5, .c (vec (σ.next + 0) u' ((vs ++ [(⟨2, 0, []⟩ : Val)]).map encV) junk')), (6, .c (.int .i64 (IntKind.i64.wrap (k + 1))))]) (hr.old hS) (keepF _ _ _ hj') (Nat.le_refl _) (.frz rfl (.refl (old_ptr (Nat.lt_succ_of_lt hr.2.1))) (.frz rfl (.refl (hT _ (Nat.le_succ _))) (.frz (by rw [List.map_append]; rfl) (.refl (old_sl (Nat.lt_succ_self _))) (.frz rfl (.refl old_c) .nil)))) ?_
            exact fin (⟨2, 0, []⟩ : Val) q5 u' junk' (by simp [bV, vNull, vInt] <;> omega) hq5 hj' _ _ rfl (by rw [List.map_append]; rfl)
          · repeat' first|refine yaG ?_|(exfalso;omega)|(refine yaS ?_ ?_<;>intro _)
            refine Go.drawn hr hq5 rfl rfl rfl val_ok ?_
            rintro _ q6 hq6 ⟨w, hw, rfl⟩
            repeat' first|refine yaG ?_|(exfalso;omega)|(refine yaS ?_ ?_<;>intro _)
            refine Go.app1 (k := 0) (ys := vs.map encV) (junk := junk) (z := encV w) rfl rfl rfl rfl rfl lens hj rfl hbd fun u' junk' hj' => ?_
            repeat' first|refine yaG ?_|(exfalso;omega)|(refine yaS ?_ ?_<;>intro _)
            refine Go.freezeN (l := [(u', vs.map encV ++ [encV w] ++ junk')]) (m := [(0, [encV w])]) (fr' := [(0, .c (.ptr id v 0 0)), (3, .c (.fp (encTable t))), (5, .c (vec (σ.next + 0) u' ((vs ++ [w]).map encV) junk')), (6, .c (.int .i64 (IntKind.i64.wrap (k + 1))))]) (hr.old hS) (keepF _ _ _ hj') (Nat.le_refl _) (.frz rfl (.refl (old_ptr (Nat.lt_succ_of_lt hr.2.1))) (.frz rfl (.refl (hT _ (Nat.le_succ _))) (.frz (by rw [List.map_append]; rfl) (.refl (old_sl (Nat.lt_succ_self _))) (.frz rfl (.refl old_c) .nil)))) ?_
            exact fin w q6 u' junk' (by simp [bV, vNull, vInt] <;> omega) hq6 hj' _ _ rfl (by rw [List.map_append]; rfl)
        · repeat' first|refine yaG ?_|(exfalso;omega)|(refine yaS ?_ ?_<;>intro _)
          refine Go.drawn hr hq4 rfl rfl rfl (once_ok 60 (by decide) (by decide)) ?_
          rintro _ q5 hq5 ⟨b6, rfl⟩
          cases b6
          · repeat' first|refine yaG ?_|(exfalso;omega)|(refine yaS ?_ ?_<;>intro _)
            refine Go.app1 (k := 0) (ys := vs.map encV) (junk := junk) (z := encV vNull) rfl rfl rfl rfl rfl lens hj rfl hbd fun u' junk' hj' => ?_
            repeat' first|refine yaG ?_|(exfalso;omega)|(refine yaS ?_ ?_<;>intro _)
            refine Go.freezeN (l := [(u', vs.map encV ++ [encV vNull] ++ junk')]) (m := [(0, [encV vNull])]) (fr' := [(0, .c (.ptr id v 0 0)), (3, .c (.fp (encTable t))), (5, .c (vec (σ.next + 0) u' ((vs ++ [vNull]).map encV) junk')), (6, .c (.int .i64 (IntKind.i64.wrap (k + 1))))]) (hr.old hS) (keepF _ _ _ hj') (Nat.le_refl _) (.frz rfl (.refl (old_ptr (Nat.lt_succ_of_lt hr.2.1))) (.frz rfl (.refl (hT _ (Nat.le_succ _))) (.frz (by rw [List.map_append]; rfl) (.refl (old_sl (Nat.lt_succ_self _))) (.frz rfl (.refl old_c) .nil)))) ?_
            exact fin vNull q5 u' junk' (by simp [bV, vNull, vInt] <;> omega) hq5 hj' _ _ rfl (by rw [List.map_append]; rfl)
          · repeat' first|refine yaG ?_|(exfalso;omega)|(refine yaS ?_ ?_<;>intro _)
            refine Go.drawn hr hq5 rfl rfl rfl val_ok ?_
            rintro _ q6 hq6 ⟨w, hw, rfl⟩
            repeat' first|refine yaG ?_|(exfalso;omega)|(refine yaS ?_ ?_<;>intro _)
            refine Go.app1 (k := 0) (ys := vs.map encV) (junk := junk) (z := encV w) rfl rfl rfl rfl rfl lens hj rfl hbd fun u' junk' hj' => ?_
            repeat' first|refine yaG ?_|(exfalso;omega)|(refine yaS ?_ ?_<;>intro _)
            refine Go.freezeN (l := [(u', vs.map encV ++ [encV w] ++ junk')]) (m := [(0, [encV w])]) (fr' := [(0, .c (.ptr id v 0 0)), (3, .c (.fp (encTable t))), (5, .c (vec (σ.next + 0) u' ((vs ++ [w]).map encV) junk')), (6, .c (.int .i64 (IntKind.i64.wrap (k + 1))))]) (hr.old hS) (keepF _ _ _ hj') (Nat.le_refl _) (.frz rfl (.refl (old_ptr (Nat.lt_succ_of_lt hr.2.1))) (.frz rfl (.refl (hT _ (Nat.le_succ _))) (.frz (by rw [List.map_append]; rfl) (.refl (old_sl (Nat.lt_succ_self _))) (.frz rfl (.refl old_c) .nil)))) ?_
            exact fin w q6 u' junk' (by simp [bV, vNull, vInt] <;> omega) hq6 hj' _ _ rfl (by rw [List.map_append]; rfl)
      · repeat' first|refine yaG ?_|refine yaC (l1Str_ok _) ?_|(exfalso;omega)|(refine yaS ?_ ?_<;>intro _)
        refine Go.drawn hr hq2 rfl rfl rfl (once_ok 8 (by decide) (by decide)) ?_
        rintro _ q4 hq4 ⟨b5, rfl⟩
        cases b5
        · repeat' first|refine yaG ?_|(exfalso;omega)|(refine yaS ?_ ?_<;>intro _)
          refine Go.drawn hr hq4 rfl rfl rfl (once_ok 60 (by decide) (by decide)) ?_
          rintro _ q5 hq5 ⟨b6, rfl⟩
          cases b6
          · repeat' first|refine yaG ?_|(exfalso;omega)|(refine yaS ?_ ?_<;>intro _)
            refine Go.app1 (k := 0) (ys := vs.map encV) (junk := junk) (z := encV (⟨2, 0, [97]⟩ : Val)) rfl rfl rfl rfl rfl lens hj rfl hbd fun u' junk' hj' => ?_
            repeat' first|refine yaG ?_|(exfalso;omega)|(refine yaS ?_ ?_<;>intro _)
            refine Go.freezeN (l := [(u', vs.map encV ++ [encV (⟨2, 0, [97]⟩ : Val)] ++ junk')]) (m := [(0, [encV (⟨2, 0, [97]⟩ : Val)])]) (fr' := [(0, .c (.ptr id v 0 0)), (3, .c (.fp (encTable t))), (5, .c (vec (σ.next + 0) u' ((vs ++ [(⟨2, 0, [97]⟩ : Val)]).map encV) junk')), (6, .c (.int .i64 (IntKind.i64.wrap (k + 1))))]) (hr.old hS) (keepF _ _ _ hj') (Nat.le_refl _) (.frz rfl (.refl (old_ptr (Nat.lt_succ_of_lt hr.2.1))) (.frz rfl (.refl (hT _ (Nat.le_succ _))) (.frz (by rw [List.map_append]; rfl) (.refl (old_sl (Nat.lt_succ_self _))) (.frz rfl (.refl old_c) .nil)))) ?_
            exact fin (⟨2, 0, [97]⟩ : Val) q5 u' junk' (by simp [bV, vNull, vInt] <;> omega) hq5 hj' _ _ rfl (by rw [List.map_append]; rfl)
          · repeat' first|refine yaG ?_|(exfalso;omega)|(refine yaS ?_ ?_<;>intro _)
            refine Go.drawn hr hq5 rfl rfl rfl val_ok ?_
            rintro _ q6 hq6 ⟨w, hw, rfl⟩
            repeat' first|refine yaG ?_|(exfalso;omega)|(refine yaS ?_ ?_<;>intro _)
            refine Go.app1 (k := 0) (ys := vs.map encV) (junk := junk) (z := encV w) rfl rfl rfl rfl rfl lens hj rfl hbd fun u' junk' hj' => ?_
            repeat' first|refine yaG ?_|(exfalso;omega)|(refine yaS ?_ ?_<;>intro _)
            refine Go.freezeN (l := [(u', vs.map encV ++ [encV w] ++ junk')]) (m := [(0, [encV w])]) (fr' := [(0, .c (.ptr id v 0 0)), (3, .c (.fp (encTable t))), (5, .c (vec (σ.next + 0) u' ((vs ++ [w]).map encV) junk')), (6, .c (.int .i64 (IntKind.i64.wrap (k + 1))))]) (hr.old hS) (keepF _ _ _ hj') (Nat.le_refl _) (.frz rfl (.refl (old_ptr (Nat.lt_succ_of_lt hr.2.1))) (.frz rfl (.refl (hT _ (Nat.le_succ _))) (.frz (by rw [List.map_append]; rfl) (.refl (old_sl (Nat.lt_succ_self _))) (.frz rfl (.refl old_c) .nil)))) ?_
            exact fin w q6 u' junk' (by simp [bV, vNull, vInt] <;> omega) hq6 hj' _ _ rfl (by rw [List.map_append]; rfl)
        · repeat' first|refine yaG ?_|(exfalso;omega)|(refine yaS ?_ ?_<;>intro _)
          refine Go.drawn hr hq4 rfl rfl rfl (once_ok 60 (by decide) (by decide)) ?_
          rintro _ q5 hq5 ⟨b6, rfl⟩
          cases b6
          · repeat' first|refine yaG ?_|(exfalso;omega)|(refine yaS ?_ ?_<;>intro _)
            refine Go.app1 (k := 0) (ys := vs.map encV) (junk := junk) (z := encV vNull) rfl rfl rfl rfl rfl lens hj rfl hbd fun u' junk' hj' => ?_
            repeat' first|refine yaG ?_|(exfalso;omega)|(refine yaS ?_ ?_<;>intro _)
            refine Go.freezeN (l := [(u', vs.map encV ++ [encV vNull] ++ junk')]) (m := [(0, [encV vNull])]) (fr' := [(0, .c (.ptr id v 0 0)), (3, .c (.fp (encTable t))), (5, .c (vec (σ.next + 0) u' ((vs ++ [vNull]).map encV) junk')), (6, .c (.int .i64 (IntKind.i64.wrap (k + 1))))]) (hr.old hS) (keepF _ _ _ hj') (Nat.le_refl _) (.frz rfl (.refl (old_ptr (Nat.lt_succ_of_lt hr.2.1))) (.frz rfl (.refl (hT _ (Nat.le_succ _))) (.frz (by rw [List.map_append]; rfl) (.refl (old_sl (Nat.lt_succ_self _))) (.frz rfl (.refl old_c) .nil)))) ?_
            exact fin vNull q5 u' junk' (by simp [bV, vNull, vInt] <;> omega) hq5 hj' _ _ rfl (by rw [List.map_append]; rfl)
          · repeat' first|refine yaG ?_|(exfalso;omega)|(refine yaS ?_ ?_<;>intro _)
            refine Go.drawn hr hq5 rfl rfl rfl val_ok ?_
            rintro _ q6 hq6 ⟨w, hw, rfl⟩
            repeat' first|refine yaG ?_|(exfalso;omega)|(refine yaS ?_ ?_<;>intro _)
            refine Go.app1 (k := 0) (ys := vs.map encV) (junk := junk) (z := encV w) rfl rfl rfl rfl rfl lens hj rfl hbd fun u' junk' hj' => ?_
            repeat' first|refine yaG ?_|(exfalso;omega)|(refine yaS ?_ ?_<;>intro _)
            refine Go.freezeN (l := [(u', vs.map encV ++ [encV w] ++ junk')]) (m := [(0, [encV w])]) (fr' := [(0, .c (.ptr id v 0 0)), (3, .c (.fp (encTable t))), (5, .c (vec (σ.next + 0) u' ((vs ++ [w]).map encV) junk')), (6, .c (.int .i64 (IntKind.i64.wrap (k + 1))))]) (hr.old hS) (keepF _ _ _ hj') (Nat.le_refl _) (.frz rfl (.refl (old_ptr (Nat.lt_succ_of_lt hr.2.1))) (.frz rfl (.refl (hT _ (Nat.le_succ _))) (.frz (by rw [List.map_append]; rfl) (.refl (old_sl (Nat.lt_succ_self _))) (.frz rfl (.refl old_c) .nil)))) ?_
            exact fin w q6 u' junk' (by simp [bV, vNull, vInt] <;> omega) hq6 hj' _ _ rfl (by rw [List.map_append]; rfl)
      · repeat' first|refine yaG ?_|refine yaC (l1Str_ok _) ?_|(exfalso;omega)|(refine yaS ?_ ?_<;>intro _)
        refine Go.drawn hr hq2 rfl rfl rfl (once_ok 8 (by decide) (by decide)) ?_
        rintro _ q4 hq4 ⟨b5, rfl⟩
        cases b5
        · repeat' first|refine yaG ?_|(exfalso;omega)|(refine yaS ?_ ?_<;>intro _)
          refine Go.drawn hr hq4 rfl rfl rfl (once_ok 60 (by decide) (by decide)) ?_
          rintro _ q5 hq5 ⟨b6, rfl⟩
          cases b6
          · repeat' first|refine yaG ?_|(exfalso;omega)|(refine yaS ?_ ?_<;>intro _)
            refine Go.app1 (k := 0) (ys := vs.map encV) (junk := junk) (z := encV (⟨2, 0, [98]⟩ : Val)) rfl rfl rfl rfl rfl lens hj rfl hbd fun u' junk' hj' => ?_
            repeat' first|refine yaG ?_|(exfalso;omega)|(refine yaS ?_ ?_<;>intro _)
            refine Go.freezeN (l := [(u', vs.map encV ++ [encV (⟨2, 0, [98]⟩ : Val)] ++ junk')]) (m := [(0, [encV (⟨2, 0, [98]⟩ : Val)])]) (fr' := [(0, .c (.ptr id v 0 0)), (3, .c (.fp (encTable t))), (5, .c (vec (σ.next + 0) u' ((vs ++ [(⟨2, 0, [98]⟩ : Val)]).map encV) junk')), (6, .c (.int .i64 (IntKind.i64.wrap (k + 1))))]) (hr.old hS) (keepF _ _ _ hj') (Nat.le_refl _) (.frz rfl (.refl (old_ptr (Nat.lt_succ_of_lt hr.2.1))) (.frz rfl (.refl (hT _ (Nat.le_succ _))) (.frz (by rw [List.map_append]; rfl) (.refl (old_sl (Nat.lt_succ_self _))) (.frz rfl (.refl old_c) .nil)))) ?_
            exact fin (⟨2, 0, [98]⟩ : Val) q5 u' junk' (by simp [bV, vNull, vInt] <;> omega) hq5 hj' _ _ rfl (by rw [List.map_append]; rfl)
          · repeat' first|refine yaG ?_|(exfalso;omega)|(refine yaS ?_ ?_<;>intro _)
            refine Go.drawn hr hq5 rfl rfl rfl val_ok ?_
            rintro _ q6 hq6 ⟨w, hw, rfl⟩
            repeat' first|refine yaG ?_|(exfalso;omega)|(refine yaS ?_ ?_<;>intro _)
            refine Go.app1 (k := 0) (ys := vs.map encV) (junk := junk) (z := encV w) rfl rfl rfl rfl rfl lens hj rfl hbd fun u' junk' hj' => ?_
            repeat' first|refine yaG ?_|(exfalso;omega)|(refine yaS ?_ ?_<;>intro _)
            refine Go.freezeN (l := [(u', vs.map encV ++ [encV w] ++ junk')]) (m := [(0, [encV w])]) (fr' := [(0, .c (.ptr id v 0 0)), (3, .c (.fp (encTable t))), (5, .c (vec (σ.next + 0) u' ((vs ++ [w]).map encV) junk')), (6, .c (.int .i64 (IntKind.i64.wrap (k + 1))))]) (hr.old hS) (keepF _ _ _ hj') (Nat.le_refl _) (.frz rfl (.refl (old_ptr (Nat.lt_succ_of_lt hr.2.1))) (.frz rfl (.refl (hT _ (Nat.le_succ _))) (.frz (by rw [List.map_append]; rfl) (.refl (old_sl (Nat.lt_succ_self _))) (.frz rfl (.refl old_c) .nil)))) ?_
            exact fin w q6 u' junk' (by simp [bV, vNull, vInt] <;> omega) hq6 hj' _ _ rfl (by rw [List.map_append]; rfl)
        · repeat' first|refine yaG ?_|(exfalso;omega)|(refine yaS ?_ ?_<;>intro _)
          refine Go.drawn hr hq4 rfl rfl rfl (once_ok 60 (by decide) (by decide)) ?_
          rintro _ q5 hq5 ⟨b6, rfl⟩
          cases b6
          · repeat' first|refine yaG ?_|(exfalso;omega)|(refine yaS ?_ ?_<;>intro _)
            refine Go.app1 (k := 0) (ys := vs.map encV) (junk := junk) (z := encV vNull) rfl rfl rfl rfl rfl lens hj rfl hbd fun u' junk' hj' => ?_
            repeat' first|refine yaG ?_|(exfalso;omega)|(refine yaS ?_ ?_<;>intro _)
            refine Go.freezeN (l := [(u', vs.map encV ++ [encV vNull] ++ junk')]) (m := [(0, [encV vNull])]) (fr' := [(0, .c (.ptr id v 0 0)), (3, .c (.fp (encTable t))), (5, .c (vec (σ.next + 0) u' ((vs ++ [vNull]).map encV) junk')), (6, .c (.int .i64 (IntKind.i64.wrap (k + 1))))]) (hr.old hS) (keepF _ _ _ hj') (Nat.le_refl _) (.frz rfl (.refl (old_ptr (Nat.lt_succ_of_lt hr.2.1))) (.frz rfl (.refl (hT _ (Nat.le_succ _))) (.frz (by rw [List.map_append]; rfl) (.refl (old_sl (Nat.lt_succ_self _))) (.frz rfl (.refl old_c) .nil)))) ?_
            exact fin vNull q5 u' junk' (by simp [bV, vNull, vInt] <;> omega) hq5 hj' _ _ rfl (by rw [List.map_append]; rfl)
          · repeat' first|refine yaG ?_|(exfalso;omega)|(refine yaS ?_ ?_<;>intro _)
            refine Go.drawn hr hq5 rfl rfl rfl val_ok ?_
            rintro _ q6 hq6 ⟨w, hw, rfl⟩
            repeat' first|refine yaG ?_|(exfalso;omega)|(refine yaS ?_ ?_<;>intro _)
            refine Go.app1 (k := 0) (ys := vs.map encV) (junk := junk) (z := encV w) rfl rfl rfl rfl rfl lens hj rfl hbd fun u' junk' hj' => ?_
            repeat' first|refine yaG ?_|(exfalso;omega)|(refine yaS ?_ ?_<;>intro _)
            refine Go.freezeN (l := [(u', vs.map encV ++ [encV w] ++ junk')]) (m := [(0, [encV w])]) (fr' := [(0, .c (.ptr id v 0 0)), (3, .c (.fp (encTable t))), (5, .c (vec (σ.next + 0) u' ((vs ++ [w]).map encV) junk')), (6, .c (.int .i64 (IntKind.i64.wrap (k + 1))))]) (hr.old hS) (keepF _ _ _ hj') (Nat.le_refl _) (.frz rfl (.refl (old_ptr (Nat.lt_succ_of_lt hr.2.1))) (.frz rfl (.refl (hT _ (Nat.le_succ _))) (.frz (by rw [List.map_append]; rfl) (.refl (old_sl (Nat.lt_succ_self _))) (.frz rfl (.refl old_c) .nil)))) ?_
            exact fin w q6 u' junk' (by simp [bV, vNull, vInt] <;> omega) hq6 hj' _ _ rfl (by rw [List.map_append]; rfl)
    · have ht : True := trivial
      refine Go.drawn hr hq1 rfl rfl rfl (once_ok 8 (by decide) (by decide)) ?_
      rintro _ q4 hq4 ⟨b5, rfl⟩
      cases b5
      · repeat' first|refine yaG ?_|(exfalso;omega)|(refine yaS ?_ ?_<;>intro _)
        refine Go.drawn hr hq4 rfl rfl rfl (once_ok 60 (by decide) (by decide)) ?_
        rintro _ q5 hq5 ⟨b6, rfl⟩
        cases b6
        · repeat' first|refine yaG ?_|(exfalso;omega)|(refine yaS ?_ ?_<;>intro _)
          refine Go.app1 (k := 0) (ys := vs.map encV) (junk := junk) (z := encV (vInt a)) rfl rfl rfl rfl rfl lens hj rfl hbd fun u' junk' hj' => ?_
          repeat' first|refine yaG ?_|(exfalso;omega)|(refine yaS ?_ ?_<;>intro _)
          refine Go.freezeN (l := [(u', vs.map encV ++ [encV (vInt a)] ++ junk')]) (m := [(0, [encV (vInt a)])]) (fr' := [(0, .c (.ptr id v 0 0)), (3, .c (.fp (encTable t))), (5, .c (vec (σ.next + 0) u' ((vs ++ [(vInt a)]).map encV) junk')), (6, .c (.int .i64 (IntKind.i64.wrap (k + 1))))]) (hr.old hS) (keepF _ _ _ hj') (Nat.le_refl _) (.frz rfl (.refl (old_ptr (Nat.lt_succ_of_lt hr.2.1))) (.frz rfl (.refl (hT _ (Nat.le_succ _))) (.frz (by rw [List.map_append]; rfl) (.refl (old_sl (Nat.lt_succ_self _))) (.frz rfl (.refl old_c) .nil)))) ?_
          exact fin (vInt a) q5 u' junk' (by simp [bV, vNull, vInt] <;> omega) hq5 hj' _ _ rfl (by rw [List.map_append]; rfl)
        · repeat' first|refine yaG ?_|(exfalso;omega)|(refine yaS ?_ ?_<;>intro _)
          refine Go.drawn hr hq5 rfl rfl rfl val_ok ?_
          rintro _ q6 hq6 ⟨w, hw, rfl⟩
          repeat' first|refine yaG ?_|(exfalso;omega)|(refine yaS ?_ ?_<;>intro _)
          refine Go.app1 (k := 0) (ys := vs.map encV) (junk := junk) (z := encV w) rfl rfl rfl rfl rfl lens hj rfl hbd fun u' junk' hj' => ?_
          repeat' first|refine yaG ?_|(exfalso;omega)|(refine yaS ?_ ?_<;>intro _)
          refine Go.freezeN (l := [(u', vs.map encV ++ [encV w] ++ junk')]) (m := [(0, [encV w])]) (fr' := [(0, .c (.ptr id v 0 0)), (3, .c (.fp (encTable t))), (5, .c (vec (σ.next + 0) u' ((vs ++ [w]).map encV) junk')), (6, .c (.int .i64 (IntKind.i64.wrap (k + 1))))]) (hr.old hS) (keepF _ _ _ hj') (Nat.le_refl _) (.frz rfl (.refl (old_ptr (Nat.lt_succ_of_lt hr.2.1))) (.frz rfl (.refl (hT _ (Nat.le_succ _))) (.frz (by rw [List.map_append]; rfl) (.refl (old_sl (Nat.lt_succ_self _))) (.frz rfl (.refl old_c) .nil)))) ?_
          exact fin w q6 u' junk' (by simp [bV, vNull, vInt] <;> omega) hq6 hj' _ _ rfl (by rw [List.map_append]; rfl)
      · repeat' first|refine yaG ?_|(exfalso;omega)|(refine yaS ?_ ?_<;>intro _)
        refine Go.drawn hr hq4 rfl rfl rfl (once_ok 60 (by decide) (by decide)) ?_
        rintro _ q5 hq5 ⟨b6, rfl⟩
        cases b6
        · repeat' first|refine yaG ?_|(exfalso;omega)|(refine yaS ?_ ?_<;>intro _)
          refine Go.app1 (k := 0) (ys := vs.map encV) (junk := junk) (z := encV vNull) rfl rfl rfl rfl rfl lens hj rfl hbd fun u' junk' hj' => ?_
          repeat' first|refine yaG ?_|(exfalso;omega)|(refine yaS ?_ ?_<;>intro _)
          refine Go.freezeN (l := [(u', vs.map encV ++ [encV vNull] ++ junk')]) (m := [(0, [encV vNull])]) (fr' := [(0, .c (.ptr id v 0 0)), (3, .c (.fp (encTable t))), (5, .c (vec (σ.next + 0) u' ((vs ++ [vNull]).map encV) junk')), (6, .c (.int .i64 (IntKind.i64.wrap (k + 1))))]) (hr.old hS) (keepF _ _ _ hj') (Nat.le_refl _) (.frz rfl (.refl (old_ptr (Nat.lt_succ_of_lt hr.2.1))) (.frz rfl (.refl (hT _ (Nat.le_succ _))) (.frz (by rw [List.map_append]; rfl) (.refl (old_sl (Nat.lt_succ_self _))) (.frz rfl (.refl old_c) .nil)))) ?_
          exact fin vNull q5 u' junk' (by simp [bV, vNull, vInt] <;> omega) hq5 hj' _ _ rfl (by rw [List.map_append]; rfl)
        · repeat' first|refine yaG ?_|(exfalso;omega)|(refine yaS ?_ ?_<;>intro _)
          refine Go.drawn hr hq5 rfl rfl rfl val_ok ?_
          rintro _ q6 hq6 ⟨w, hw, rfl⟩
          repeat' first|refine yaG ?_|(exfalso;omega)|(refine yaS ?_ ?_<;>intro _)
          refine Go.app1 (k := 0) (ys := vs.map encV) (junk := junk) (z := encV w) rfl rfl rfl rfl rfl lens hj rfl hbd fun u' junk' hj' => ?_
          repeat' first|refine yaG ?_|(exfalso;omega)|(refine yaS ?_ ?_<;>intro _)
          refine Go.freezeN (l := [(u', vs.map encV ++ [encV w] ++ junk')]) (m := [(0, [encV w])]) (fr' := [(0, .c (.ptr id v 0 0)), (3, .c (.fp (encTable t))), (5, .c (vec (σ.next + 0) u' ((vs ++ [w]).map encV) junk')), (6, .c (.int .i64 (IntKind.i64.wrap (k + 1))))]) (hr.old hS) (keepF _ _ _ hj') (Nat.le_refl _) (.frz rfl (.refl (old_ptr (Nat.lt_succ_of_lt hr.2.1))) (.frz rfl (.refl (hT _ (Nat.le_succ _))) (.frz (by rw [List.map_append]; rfl) (.refl (old_sl (Nat.lt_succ_self _))) (.frz rfl (.refl old_c) .nil)))) ?_
          exact fin w q6 u' junk' (by simp [bV, vNull, vInt] <;> omega) hq6 hj' _ _ rfl (by rw [List.map_append]; rfl)
  · repeat' first|refine yaG ?_|(exfalso;omega)|(refine yaS ?_ ?_<;>intro _)
    exact .ret rfl ⟨q, vs, u, junk, hq, by omega, hb, hj, rfl, rfl⟩
end Go.Proofs.YtinbdedlmkjokaaGreat.Am

/- The reader that draws: schemas. -/
set_option linter.unusedVariables false
set_option linter.unusedSimpArgs false
namespace Go.Proofs.YtinbdedlmkjokaaGreat.Am

/-- Where ways meet, what follows kept from sight. -/
theorem Go.meet {P : Program} {n0 nt : Nat} {rets : List RV} {R : AV → Store → Prop} {K K' : List AK} {fr : Fr} {σ : Store} (I : Fr → Store → Prop) (h2 : ∀ K, (∀ fr σ, I fr σ → Go P n0 nt rets R K fr σ) → Go P n0 nt rets R (K' ++ K) fr σ) (h1 : ∀ fr σ, I fr σ → Go P n0 nt rets R K fr σ) : Go P n0 nt rets R (K' ++ K) fr σ := h2 K h1
/-- A cell that is a frozen slice's, or a nil one's. -/
def NF (x : Ce) (ys : List (List Ce)) : Prop := x = .fz ys ∨ (x = .nils ∧ ys = [])
def OldL (n : Nat) (ys : List (List Ce)) : Prop := ∀ e ∈ ys, ∀ c ∈ e, Old n c
theorem NF.frz {τ : Store} {n : Nat} {x : Ce} {ys : List (List Ce)} (h : NF x ys) (ho : OldL n ys) : Frz τ n x (.fz ys) := by
  rcases h with rfl | ⟨rfl, rfl⟩
  · exact .same _ (.fz _ fun i j hi hj => ho _ (List.getElem_mem hi) _ (List.getElem_mem hj))
  · exact .nil
theorem NF.old {n : Nat} {x : Ce} {ys : List (List Ce)} (h : NF x ys) (ho : OldL n ys) : Old n x := by
  rcases h with rfl | ⟨rfl, rfl⟩
  · exact .fz _ fun i j hi hj => ho _ (List.getElem_mem hi) _ (List.getElem_mem hj)
  · exact .nils
theorem oldL_flat {n : Nat} {ys : List (List Ce)} (h : ∀ e ∈ ys, ∀ x ∈ e, Flat x) : OldL n ys := fun e he c hc => (h e he c hc).old _
theorem old_fz1 {n : Nat} {ys : List (List Ce)} (h : OldL n ys) : Old n (.fz ys) := .fz _ fun i j hi hj => h _ (List.getElem_mem hi) _ (List.getElem_mem hj)
theorem oldCols {n : Nat} (l : List Col) : OldL n (l.map encCol) := oldL_flat fun e he x hx => by
  obtain ⟨a, _, rfl⟩ := List.mem_map.1 he
  exact flatCol a x hx
theorem oldInts {n : Nat} (l : List Int) : OldL n (l.map encI) := oldL_flat fun e he x hx => (flatI l e he).2 x hx
theorem oldUniqs {n : Nat} (l : List Uniq) : OldL n (l.map encUniq) := fun e he c hc => by
  obtain ⟨a, _, rfl⟩ := List.mem_map.1 he
  simp only [encUniq, List.mem_cons, List.not_mem_nil, or_false] at hc
  subst hc
  exact old_fz1 (oldInts _)
theorem oldChks {n : Nat} (l : List Chk) : OldL n (l.map encChk) := fun e he c hc => by
  obtain ⟨a, _, rfl⟩ := List.mem_map.1 he
  simp only [encChk, List.mem_cons, List.not_mem_nil, or_false] at hc
  subst hc
  exact old_fz1 (oldL_flat flatTs)
theorem oldFks {n : Nat} (l : List Fk) : OldL n (l.map encFk) := fun e he c hc => by
  obtain ⟨a, _, rfl⟩ := List.mem_map.1 he
  simp only [encFk, List.mem_cons, List.not_mem_nil, or_false] at hc
  rcases hc with rfl | rfl | rfl | rfl | rfl
  · exact old_fz1 (oldInts _)
  all_goals constructor
/-- The cells of a table that is frozen but for nil slices. -/
structure TabC (e : List Ce) (t : Table) : Prop where
  has : ∃ x2 x3 x4 x5, e = [.str t.name, .fz (t.cols.map encCol), x2, x3, x4, x5] ∧ NF x2 (t.key.map encI) ∧ NF x3 (t.uniques.map encUniq) ∧ NF x4 (t.checks.map encChk) ∧ NF x5 (t.fks.map encFk)
/-- What a drawn table is like. -/
structure SmallT (t : Table) : Prop where
  b : bTable 12 t
  lo : 2 ≤ t.cols.length
  hi : t.cols.length ≤ 3
def SchD (s : List Table) : Prop := 1 ≤ s.length ∧ s.length ≤ 3 ∧ ∀ t ∈ s, SmallT t
def Schemas (r : AV) : Prop := ∃ s : List Table, SchD s ∧ r = .c (.fz (s.map encTable))
/-- The rest of a drawn schema, with its cells. -/
def Rest (ps : List (List Ce × Table)) : Prop := ∀ p ∈ ps, TabC p.1 p.2 ∧ SmallT p.2
def colK : Col := ⟨[107], 1, true, vNull⟩
def colT : Col := ⟨[116], 2, false, vNull⟩
def colN : Col := ⟨[110], 1, false, vInt 1⟩
/-- The first table's cells, its columns owned. -/
def headC (nm : List UInt8) (id : Nat) (x2 x3 x4 : Ce) : List Ce := [.str nm, .sl id 0 0 3 3, x2, x3, x4, .nils]
structure Head (x3 x4 : Ce) (us : List Uniq) (ks : List Chk) : Prop where
  u : NF x3 (us.map encUniq)
  k : NF x4 (ks.map encChk)
  bu : us.length ≤ 12 ∧ ∀ x ∈ us, bUniq 12 x
  bk : ks.length ≤ 12 ∧ ∀ x ∈ ks, bChk 12 x
/-- What is made is a schema. -/
theorem schema_frz {σ : Store} {u : Nat} {nm : List UInt8} {x2 x3 x4 : Ce} {c0 c1 c2 : Col} {key : List Int} {us : List Uniq} {ks : List Chk} {ps : List (List Ce × Table)} {junk pb : List (List Ce)} {vb : Nat}
    (hnm : nm.length ≤ 12) (hk : key.length ≤ 12) (h2 : NF x2 (key.map encI)) (hH : Head x3 x4 us ks) (hb : bCol 12 c0 ∧ bCol 12 c1 ∧ bCol 12 c2) (hR : Rest ps) (hp : ps.length ≤ 2) :
    ∃ s : List Table, SchD s ∧ FrzV (E σ [(0, [encCol c0, encCol c1, encCol c2]), (vb, pb), (u, headC nm (σ.next + 0) x2 x3 x4 :: ps.map Prod.fst ++ junk)]) σ.next (.c (vec (σ.next + 2) u (headC nm (σ.next + 0) x2 x3 x4 :: ps.map Prod.fst) junk)) (.c (.fz (s.map encTable))) := by
  obtain ⟨p, hpdef⟩ : ∃ p : Table, p = ⟨nm, [c0, c1, c2], key, us, ks, []⟩ := ⟨_, rfl⟩
  have hsp : SmallT p := by
    subst hpdef
    refine ⟨⟨hnm, ⟨by simp, fun x hx => ?_⟩, hk, hH.bu, hH.bk, by simp, fun x hx => by simp at hx⟩, by simp, by simp⟩
    simp only [List.mem_cons, List.not_mem_nil, or_false] at hx
    rcases hx with rfl | rfl | rfl
    · exact hb.1
    · exact hb.2.1
    · exact hb.2.2
  refine ⟨p :: ps.map Prod.snd, ⟨by simp, by simp; omega, fun t ht => ?_⟩, ?_⟩
  · rcases List.mem_cons.1 ht with rfl | ht
    · exact hsp
    · obtain ⟨q, hq, rfl⟩ := List.mem_map.1 ht
      exact (hR q hq).2
  · have hlen : (headC nm (σ.next + 0) x2 x3 x4 :: ps.map Prod.fst).length = ps.length + 1 := by simp
    have hcell : ∀ (q : List Ce × Table), q ∈ ps → q.1.length = 6 ∧ ∀ j (h1 : j < q.1.length) (h2 : j < (encTable q.2).length), Frz (E σ [(0, [encCol c0, encCol c1, encCol c2]), (vb, pb), (u, headC nm (σ.next + 0) x2 x3 x4 :: ps.map Prod.fst ++ junk)]) σ.next q.1[j] (encTable q.2)[j] := fun q hq => by
      obtain ⟨y2, y3, y4, y5, he, k2, k3, k4, k5⟩ := (hR q hq).1.has
      refine ⟨by rw [he]; rfl, ?_⟩
      generalize q.1 = e at he
      subst he
      intro j h1 h2
      have hj : j = 0 ∨ j = 1 ∨ j = 2 ∨ j = 3 ∨ j = 4 ∨ j = 5 := by simp at h1; omega
      rcases hj with rfl | rfl | rfl | rfl | rfl | rfl
      · exact .same _ (.str _)
      · exact .same _ (old_fz1 (oldCols _))
      · exact k2.frz (oldInts _)
      · exact k3.frz (oldUniqs _)
      · exact k4.frz (oldChks _)
      · exact k5.frz (oldFks _)
    have hcols : Frz (E σ [(0, [encCol c0, encCol c1, encCol c2]), (vb, pb), (u, headC nm (σ.next + 0) x2 x3 x4 :: ps.map Prod.fst ++ junk)]) σ.next (.sl (σ.next + 0) 0 0 3 3) (.fz ([c0, c1, c2].map encCol)) := by
      have := frz_drop (σ := σ) (l := [(0, [encCol c0, encCol c1, encCol c2]), (vb, pb), (u, headC nm (σ.next + 0) x2 x3 x4 :: ps.map Prod.fst ++ junk)]) (k := 0) (v := 0) (n := 0) (c := 3) (N := σ.next) (ys := [c0, c1, c2].map encCol) (junk := []) rfl (fun e he x hx => by
        obtain ⟨a, _, rfl⟩ := List.mem_map.1 he
        exact flatCol a x hx) (Nat.zero_le _) (Nat.le_refl _)
      cases this with
      | c h => exact h
    have hhead : ∀ j (h1 : j < (headC nm (σ.next + 0) x2 x3 x4).length) (h2 : j < (encTable p).length), Frz (E σ [(0, [encCol c0, encCol c1, encCol c2]), (vb, pb), (u, headC nm (σ.next + 0) x2 x3 x4 :: ps.map Prod.fst ++ junk)]) σ.next (headC nm (σ.next + 0) x2 x3 x4)[j] (encTable p)[j] := by
      subst hpdef
      intro j h1 h2'
      have hj : j = 0 ∨ j = 1 ∨ j = 2 ∨ j = 3 ∨ j = 4 ∨ j = 5 := by simp [headC] at h1; omega
      rcases hj with rfl | rfl | rfl | rfl | rfl | rfl
      · exact .same _ (.str _)
      · exact hcols
      · exact h2.frz (oldInts _)
      · exact hH.u.frz (oldUniqs _)
      · exact hH.k.frz (oldChks _)
      · exact .nil
    refine .c (.sl _ _ _ _ _ (headC nm (σ.next + 0) x2 x3 x4 :: ps.map Prod.fst ++ junk) _ (Nat.le_add_right _ _) (E_get (k := 2) rfl) (by rw [List.length_append]; omega) (by simp) (fun i hi => ?_) (fun i j hi hj => ?_))
    · cases i with
      | zero => rfl
      | succ i =>
        have hi2 : i < ps.length := by rw [hlen] at hi; omega
        simp only [Nat.zero_add, List.cons_append, List.map_cons, List.getElem_cons_succ, List.map_map, List.getElem_map]
        rw [List.getElem_append_left (by simpa using hi2), List.getElem_map, (hcell _ (List.getElem_mem hi2)).1]
        rfl
    · cases i with
      | zero => exact hhead j hj hj
      | succ i =>
        have hi2 : i < ps.length := by rw [hlen] at hi; omega
        have hz := hcell _ (List.getElem_mem hi2)
        simp only [Nat.zero_add, List.cons_append, List.map_cons, List.getElem_cons_succ, List.map_map, List.getElem_map]
        have e1 : (ps.map Prod.fst ++ junk)[i]'(by simp; omega) = ps[i].1 := by rw [List.getElem_append_left (by simpa using hi2), List.getElem_map]
        simp only [e1]
        exact hz.2 j (by rw [hz.1]; have h6 : j < (encTable ps[i].2).length := (by simpa using hj); exact h6) _
theorem schema_ok : Draws Tryz.prog 69 [] Schemas := by
  refine Draws.run mixed c_spec_l1Rd_schema_ok (Nat.le_of_ble_eq_true rfl) fun σ id v code p hr hp hc hS => ?_
  clear hS
  repeat' first|refine yaN ?_|refine yaC (l1Int_ok _) ?_|(exfalso;omega)|(refine yaS ?_ ?_<;>intro _)
  refine Go.meet (K' := [_, _]) (fun fr τ => ∃ (q : Nat) (x3 : Ce) (us : List Uniq), q ≤ code.length ∧ (NF x3 (us.map encUniq) ∧ us.length ≤ 12 ∧ ∀ x ∈ us, bUniq 12 x) ∧ fr = [(0, .c (.ptr id v 0 0)), (3, .c (.ptr (σ.next + 1) 0 0 0))] ∧
    τ = E (Rd.go σ id v code q) [(0, [encCol colK, encCol colT, encCol colN]), (0, [headC [112] (σ.next + 0) (.fz ([0].map encI)) x3 .nils])]) (fun K h => ?_) ?_
  · refine Go.drawn hr hp rfl rfl rfl (once_ok 2 (by decide) (by decide)) ?_
    rintro _ q hq ⟨b, rfl⟩
    cases b
    · repeat' first|refine yaN ?_|(exfalso;omega)|(refine yaS ?_ ?_<;>intro _)
      exact Go.keep [0, 3] (h _ _ ⟨q, .nils, [], hq, ⟨.inr ⟨rfl, rfl⟩, by decide, fun x hx => by simp at hx⟩, rfl, rfl⟩)
    · repeat' first|refine yaN ?_|(exfalso;omega)|(refine yaS ?_ ?_<;>intro _)
      exact Go.keep [0, 3] (h _ _ ⟨q, _, [⟨[2]⟩], hq, ⟨.inl rfl, by decide, fun x hx => by rw [List.mem_singleton.1 hx]; simp [bUniq]⟩, rfl, rfl⟩)
  rintro fr τ ⟨q, x3, us, hq, h3, rfl, rfl⟩
  clear hp
  repeat' first|refine yaN ?_|(exfalso;omega)|(refine yaS ?_ ?_<;>intro _)
  refine Go.meet (K' := [_, _]) (fun fr τ => ∃ (q : Nat) (x4 : Ce) (ks : List Chk), q ≤ code.length ∧ (NF x4 (ks.map encChk) ∧ ks.length ≤ 12 ∧ ∀ x ∈ ks, bChk 12 x) ∧ fr = [(0, .c (.ptr id v 0 0)), (3, .c (.ptr (σ.next + 1) 0 0 0))] ∧
    τ = E (Rd.go σ id v code q) [(0, [encCol colK, encCol colT, encCol colN]), (0, [headC [112] (σ.next + 0) (.fz ([0].map encI)) x3 x4])]) (fun K h => ?_) ?_
  · refine Go.drawn hr hq rfl rfl rfl (once_ok 2 (by decide) (by decide)) ?_
    rintro _ q2 hq2 ⟨b, rfl⟩
    cases b
    · repeat' first|refine yaN ?_|(exfalso;omega)|(refine yaS ?_ ?_<;>intro _)
      exact Go.keep [0, 3] (h _ _ ⟨q2, .nils, [], hq2, ⟨.inr ⟨rfl, rfl⟩, by decide, fun x hx => by simp at hx⟩, rfl, rfl⟩)
    · repeat' first|refine yaN ?_|refine yaC (l1Int_ok _) ?_|refine yaC (l2Col_ok _) ?_|refine yaC (l2Const_ok _) ?_|(exfalso;omega)|(refine yaS ?_ ?_<;>intro _)
      exact Go.keep [0, 3] (h _ _ ⟨q2, _, [⟨[tCol 0, tConst (vInt 4), ⟨4, 0, vNull⟩]⟩], hq2, ⟨.inl rfl, by decide, fun x hx => by
        rw [List.mem_singleton.1 hx]
        refine ⟨by decide, fun t ht => ?_⟩
        simp only [List.mem_cons, List.not_mem_nil, or_false] at ht
        rcases ht with rfl | rfl | rfl <;> exact Nat.zero_le _⟩, rfl, rfl⟩)
  rintro fr τ ⟨q2, x4, ks, hq2, h4, rfl, rfl⟩
  have hH : Head x3 x4 us ks := ⟨h3.1, h4.1, h3.2, h4.2⟩
  clear hq h3 h4
  repeat' first|refine yaN ?_|(exfalso;omega)|(refine yaS ?_ ?_<;>intro _)
  refine Go.meet (K' := [_, _]) (fun fr τ => ∃ (q u : Nat) (ps : List (List Ce × Table)) (junk : List (List Ce)), q ≤ code.length ∧ Rest ps ∧ ps.length ≤ 1 ∧ Jk 6 junk ∧ fr = [(0, .c (.ptr id v 0 0)), (4, .c (vec (σ.next + 2) u (headC [112] (σ.next + 0) (.fz ([0].map encI)) x3 x4 :: ps.map Prod.fst) junk))] ∧
    τ = E (Rd.go σ id v code q) [(0, [encCol colK, encCol colT, encCol colN]), (0, [headC [112] (σ.next + 0) (.fz ([0].map encI)) x3 x4]), (u, headC [112] (σ.next + 0) (.fz ([0].map encI)) x3 x4 :: ps.map Prod.fst ++ junk)]) (fun K h => ?_) ?_
  · refine Go.drawn hr hq2 rfl rfl rfl (once_ok 4 (by decide) (by decide)) ?_
    rintro _ q3 hq3 ⟨b, rfl⟩
    cases b
    · repeat' first|refine yaG ?_|(exfalso;omega)|(refine yaS ?_ ?_<;>intro _)
      refine Go.drawn hr hq3 rfl rfl rfl (once_ok 4 (by decide) (by decide)) ?_
      rintro _ q4 hq4 ⟨b1, rfl⟩
      repeat' first|refine yaG ?_|(exfalso;omega)|(refine yaS ?_ ?_<;>intro _)
      refine Go.drawn hr hq4 rfl rfl rfl action_ok ?_
      rintro _ q5 hq5 ⟨a1, ha0, ha1, rfl⟩
      repeat' first|refine yaG ?_|(exfalso;omega)|(refine yaS ?_ ?_<;>intro _)
      refine Go.drawn hr hq5 rfl rfl rfl action_ok ?_
      rintro _ q6 hq6 ⟨a2, ha2, ha3, rfl⟩
      repeat' first|refine yaG ?_|(exfalso;omega)|(refine yaS ?_ ?_<;>intro _)
      refine Go.drawn hr hq6 rfl rfl rfl (once_ok 4 (by decide) (by decide)) ?_
      rintro _ q7 hq7 ⟨b2, rfl⟩
      repeat' first|refine yaG ?_|(exfalso;omega)|(refine yaS ?_ ?_<;>intro _)
      refine Go.app1 (k := 2) (ys := [headC [112] (σ.next + 0) (.fz ([0].map encI)) x3 x4]) (junk := []) (z := [.str [99], .fz ([colK, ⟨[112], 1, b1, vNull⟩].map encCol), .fz ([0].map encI), .nils, .nils, .fz ([⟨[1], [112], a1, a2, b2⟩].map encFk)]) rfl rfl rfl rfl rfl (fun e he => by rw [List.mem_singleton.1 he]; rfl) Jk.nil rfl (by simp) fun u' junk' hj' => ?_
      repeat' first|refine yaG ?_|(exfalso;omega)|(refine yaS ?_ ?_<;>intro _)
      refine Go.keep [0, 4] (h _ _ ⟨q7, u', [([.str [99], .fz ([colK, ⟨[112], 1, b1, vNull⟩].map encCol), .fz ([0].map encI), .nils, .nils, .fz ([⟨[1], [112], a1, a2, b2⟩].map encFk)], ⟨[99], [colK, ⟨[112], 1, b1, vNull⟩], [0], [], [], [⟨[1], [112], a1, a2, b2⟩]⟩)], junk', hq7, fun p hp => ?_, by simp, hj', rfl, rfl⟩)
      rw [List.mem_singleton.1 hp]
      exact ⟨⟨⟨_, _, _, _, rfl, .inl rfl, .inr ⟨rfl, rfl⟩, .inr ⟨rfl, rfl⟩, .inl rfl⟩⟩, ⟨⟨by simp, ⟨by simp, fun x hx => by
        simp only [List.mem_cons, List.not_mem_nil, or_false] at hx
        rcases hx with rfl | rfl <;> simp [bCol, bV, colK, vNull]⟩, by simp, ⟨by simp, fun x hx => by simp at hx⟩, ⟨by simp, fun x hx => by simp at hx⟩, by simp, fun x hx => by rw [List.mem_singleton.1 hx]; simp [bFk]⟩, by simp, by simp⟩⟩
    · repeat' first|refine yaG ?_|(exfalso;omega)|(refine yaS ?_ ?_<;>intro _)
      exact Go.keep [0, 4] (h _ _ ⟨q3, 0, [], [], hq3, fun p hp => by simp at hp, by simp, Jk.nil, rfl, rfl⟩)
  rintro fr τ ⟨q3, u, ps, junk, hq3, hps, hpl, hj, rfl, rfl⟩
  clear hq2
  have hlen : ∀ e ∈ headC [112] (σ.next + 0) (.fz ([0].map encI)) x3 x4 :: ps.map Prod.fst, e.length = 6 := fun e he => by
    rcases List.mem_cons.1 he with rfl | he
    · rfl
    · obtain ⟨p, hp, rfl⟩ := List.mem_map.1 he
      obtain ⟨_, _, _, _, h1, _⟩ := (hps p hp).1.has
      rw [h1]
      rfl
  repeat' first|refine yaG ?_|(exfalso;omega)|(refine yaS ?_ ?_<;>intro _)
  refine Go.meet (K' := [_, _]) (fun fr τ => ∃ (q u : Nat) (ps : List (List Ce × Table)) (junk : List (List Ce)), q ≤ code.length ∧ Rest ps ∧ ps.length ≤ 2 ∧ Jk 6 junk ∧ fr = [(0, .c (.ptr id v 0 0)), (4, .c (vec (σ.next + 2) u (headC [112] (σ.next + 0) (.fz ([0].map encI)) x3 x4 :: ps.map Prod.fst) junk))] ∧
    τ = E (Rd.go σ id v code q) [(0, [encCol colK, encCol colT, encCol colN]), (0, [headC [112] (σ.next + 0) (.fz ([0].map encI)) x3 x4]), (u, headC [112] (σ.next + 0) (.fz ([0].map encI)) x3 x4 :: ps.map Prod.fst ++ junk)]) (fun K h => ?_) ?_
  · refine Go.drawn hr hq3 rfl rfl rfl (once_ok 3 (by decide) (by decide)) ?_
    rintro _ q4 hq4 ⟨b, rfl⟩
    cases b
    · repeat' first|refine yaG ?_|(exfalso;omega)|(refine yaS ?_ ?_<;>intro _)
      exact Go.keep [0, 4] (h _ _ ⟨q4, u, ps, junk, hq4, hps, by omega, hj, rfl, rfl⟩)
    · repeat' first|refine yaG ?_|(exfalso;omega)|(refine yaS ?_ ?_<;>intro _)
      refine Go.drawn hr hq4 rfl rfl rfl action_ok ?_
      rintro _ q5 hq5 ⟨a1, ha0, ha1, rfl⟩
      repeat' first|refine yaG ?_|(exfalso;omega)|(refine yaS ?_ ?_<;>intro _)
      refine Go.drawn hr hq5 rfl rfl rfl action_ok ?_
      rintro _ q6 hq6 ⟨a2, ha2, ha3, rfl⟩
      repeat' first|refine yaG ?_|(exfalso;omega)|(refine yaS ?_ ?_<;>intro _)
      refine Go.app1 (k := 2) (ys := headC [112] (σ.next + 0) (.fz ([0].map encI)) x3 x4 :: ps.map Prod.fst) (junk := junk) (z := [.str [116, 114, 101, 101], .fz ([colK, ⟨[117, 112], 1, false, vNull⟩].map encCol), .fz ([0].map encI), .nils, .nils, .fz ([⟨[1], [116, 114, 101, 101], a1, a2, false⟩].map encFk)]) rfl rfl rfl rfl rfl hlen hj rfl (by simp; omega) fun u' junk' hj' => ?_
      repeat' first|refine yaG ?_|(exfalso;omega)|(refine yaS ?_ ?_<;>intro _)
      refine Go.keep [0, 4] (h _ _ ⟨q6, u', ps ++ [([.str [116, 114, 101, 101], .fz ([colK, ⟨[117, 112], 1, false, vNull⟩].map encCol), .fz ([0].map encI), .nils, .nils, .fz ([⟨[1], [116, 114, 101, 101], a1, a2, false⟩].map encFk)], ⟨[116, 114, 101, 101], [colK, ⟨[117, 112], 1, false, vNull⟩], [0], [], [], [⟨[1], [116, 114, 101, 101], a1, a2, false⟩]⟩)], junk', hq6, fun p hp => ?_, by simp; omega, hj', by rw [List.map_append]; rfl, by rw [List.map_append]; rfl⟩)
      rcases List.mem_append.1 hp with hp | hp
      · exact hps p hp
      rw [List.mem_singleton.1 hp]
      exact ⟨⟨⟨_, _, _, _, rfl, .inl rfl, .inr ⟨rfl, rfl⟩, .inr ⟨rfl, rfl⟩, .inl rfl⟩⟩, ⟨⟨by simp, ⟨by simp, fun x hx => by
        simp only [List.mem_cons, List.not_mem_nil, or_false] at hx
        rcases hx with rfl | rfl <;> simp [bCol, bV, colK, vNull]⟩, by simp, ⟨by simp, fun x hx => by simp at hx⟩, ⟨by simp, fun x hx => by simp at hx⟩, by simp, fun x hx => by rw [List.mem_singleton.1 hx]; simp [bFk]⟩, by simp, by simp⟩⟩
  clear hps hpl hj hlen hq3
  clear u ps junk
  rintro fr τ ⟨q4, u, ps, junk, hq4, hps, hpl, hj, rfl, rfl⟩
  repeat' first|refine yaG ?_|(exfalso;omega)|(refine yaS ?_ ?_<;>intro _)
  refine Go.drawn hr hq4 rfl rfl rfl (below_ok 40 (by decide) (by decide)) ?_
  intro r q5 hq5 hz
  obtain ⟨k, hk, rfl⟩ := below_lt (by decide) hz
  have hcb : bCol 12 colK ∧ bCol 12 colT ∧ bCol 12 colN := ⟨by simp [bCol, bV, colK, vNull], by simp [bCol, bV, colT, vNull], by simp [bCol, bV, colN, vInt]⟩
  have hget : ∀ q : Nat, (E (Rd.go σ id v code q) [(0, [encCol colK, encCol colT, encCol colN]), (0, [headC [112] (σ.next + 0) (.fz ([0].map encI)) x3 x4]), (u, headC [112] (σ.next + 0) (.fz ([0].map encI)) x3 x4 :: ps.map Prod.fst ++ junk)]).get (σ.next + 2) = some (u, headC [112] (σ.next + 0) (.fz ([0].map encI)) x3 x4 :: ps.map Prod.fst ++ junk) := fun q => E_get (σ := Rd.go σ id v code q) (k := 2) rfl
  have hpos : 0 < (headC [112] (σ.next + 0) (.fz ([0].map encI)) x3 x4 :: ps.map Prod.fst).length := by simp
  by_cases h37 : (k : Int) = 37
  · repeat' first|refine yaG ?_|((first|apply yG|apply yH|apply yI);exact rfl;(first|exact aop_iaddrO rfl rfl (show (0 : Int) = ((0 : Nat) : Int) from rfl) hpos (hget _) rfl rfl))|(exfalso;omega)|(refine yaS ?_ ?_<;>intro _)
    obtain ⟨s, hs1, hs2⟩ := schema_frz (σ := Rd.go σ id v code q5) (u := u) (nm := [112]) (key := []) (x2 := .nils) (ps := ps) (junk := junk) (vb := 0) (pb := [headC [112] (σ.next + 0) (.fz ([0].map encI)) x3 x4]) (by decide) (by decide) (.inr ⟨rfl, rfl⟩) hH hcb hps hpl
    exact .ret rfl (.f hq5 ⟨s, hs1, rfl⟩ hs2)
  by_cases h38 : (k : Int) = 38
  · repeat' first|refine yaG ?_|((first|apply yG|apply yH|apply yI);exact rfl;(first|exact aop_iaddrO rfl rfl (show (0 : Int) = ((0 : Nat) : Int) from rfl) hpos (hget _) rfl rfl))|(exfalso;omega)|(refine yaS ?_ ?_<;>intro _)
    obtain ⟨s, hs1, hs2⟩ := schema_frz (σ := Rd.go σ id v code q5) (u := u) (nm := [99]) (key := [0]) (x2 := .fz ([0].map encI)) (ps := ps) (junk := junk) (vb := 0) (pb := [headC [112] (σ.next + 0) (.fz ([0].map encI)) x3 x4]) (by decide) (by decide) (.inl rfl) hH hcb hps hpl
    exact .ret rfl (.f hq5 ⟨s, hs1, rfl⟩ hs2)
  by_cases h39 : (k : Int) = 39
  · repeat' first|apply Go.seq|apply Go.skip|apply Go.region|apply Go.nil|apply Go.block|apply Go.blk|apply Go.segs|(apply Go.exit;exact rfl)|(apply Go.cond true;exact rfl)|(apply Go.cond false;exact rfl)|apply yB|apply yC|((first|apply yD|apply yE);(first|exact yF|assumption);iterate 6 exact rfl)|((first|apply yG|apply yH|apply yI);exact rfl;(first|exact yJ|exact yK rfl rfl|exact yL rfl|exact yM rfl|exact rfl|exact aL rfl rfl rfl rfl rfl|exact aS rfl rfl rfl rfl rfl rfl rfl))|((first|apply yN|apply yO|apply yP);exact rfl)|(exfalso;omega)|(((first|apply yT|apply yU|apply yV|apply yW);exact rfl;(first|exact .d|exact .e|exact .n|((fail_if_success exact bqt);(fail_if_success exact bqf);exact .b)))<;>intro _)
    apply Go.draw
    refine Go.qr [(0, [encCol colK, encCol colT, encCol colN]), (0, [headC [112] (σ.next + 0) (.fz ([0].map encI)) x3 x4]), (u, headC [112] (σ.next + 0) (.fz ([0].map encI)) x3 x4 :: ps.map Prod.fst ++ junk)] rfl ?_
    repeat' first|(apply Qx.op;exact rfl;(first|exact fun _ _ _ => rfl|exact aop_iaddrI (k := 2) rfl rfl (show (0 : Int) = ((0 : Nat) : Int) from rfl) hpos rfl rfl rfl|exact aop_loadI rfl rfl rfl rfl rfl))
    refine Qx.drawn hr hq5 rfl rfl rfl (off_ok 1 2 (by decide) (by decide) (by decide) (by decide)) ?_
    rintro _ q6 hq6 ⟨n, rfl⟩
    refine .nil ?_
    repeat' first|refine yaG ?_|((first|apply yG|apply yH|apply yI);exact rfl;(first|exact aop_iaddrO rfl rfl (show (0 : Int) = ((0 : Nat) : Int) from rfl) (show 0 < 3 by decide) (E_get (k := 0) rfl) rfl rfl))|(exfalso;omega)|(refine yaS ?_ ?_<;>intro _)
    obtain ⟨s, hs1, hs2⟩ := schema_frz (σ := Rd.go σ id v code q6) (u := u) (nm := [112]) (key := [0]) (x2 := .fz ([0].map encI)) (c0 := ⟨[107], n, true, vNull⟩) (ps := ps) (junk := junk) (vb := 0) (pb := [headC [112] (σ.next + 0) (.fz ([0].map encI)) x3 x4]) (by decide) (by decide) (.inl rfl) hH ⟨by simp [bCol, bV, vNull], hcb.2⟩ hps hpl
    exact .ret rfl (.f hq6 ⟨s, hs1, rfl⟩ hs2)
  · repeat' first|refine yaG ?_|(exfalso;omega)|(refine yaS ?_ ?_<;>intro _)
    obtain ⟨s, hs1, hs2⟩ := schema_frz (σ := Rd.go σ id v code q5) (u := u) (nm := [112]) (key := [0]) (x2 := .fz ([0].map encI)) (ps := ps) (junk := junk) (vb := 0) (pb := [headC [112] (σ.next + 0) (.fz ([0].map encI)) x3 x4]) (by decide) (by decide) (.inl rfl) hH hcb hps hpl
    exact .ret rfl (.f hq5 ⟨s, hs1, rfl⟩ hs2)
end Go.Proofs.YtinbdedlmkjokaaGreat.Am

/- Schemas, as the program sees them. -/
set_option linter.unusedVariables false
set_option linter.unusedSimpArgs false
namespace Go.Proofs.YtinbdedlmkjokaaGreat.Am

theorem idxA_at {α : Type} {p : α → Bool} : ∀ {l : List α} {i : Int}, 0 ≤ i → idxA p l i = -1 ∨ ∃ n : Nat, ∃ h : n < l.length, idxA p l i = i + n ∧ p l[n] = true
  | [], i, h => .inl rfl
  | a :: r, i, h => by
    simp only [idxA]
    split
    · exact .inr ⟨0, by simp, by simp, by assumption⟩
    · rcases idxA_at (p := p) (l := r) (i := i + 1) (by omega) with h1 | ⟨n, hn, h1, h2⟩
      · exact .inl h1
      · exact .inr ⟨n + 1, by simpa using hn, by omega, by simpa using h2⟩
theorem TableAt1_ok (t : Table) (s : List UInt8) : Pure Tryz.prog 99 [.agg (encTable t), .c (.fp [.str s])] (.c (.bool (t.name == s))) := by
  refine Pure.run mixed c_impl_TableAt_1_ok (Nat.le_of_ble_eq_true rfl) fun σ hS hA => ?_
  clear hS hA
  repeat' first|refine yaG ?_|(exfalso;omega)|(refine yaS ?_ ?_<;>intro _)
  all_goals refine .ret rfl (.bool ?_)
  all_goals simp_all
theorem TableAt_ok (l : List Table) (s : List UInt8) (hx : l.length ≤ 34359738368) : Pure Tryz.prog 29 [.c (.fz (l.map encTable)), .c (.str s)] (.c (.int .i64 (idxA (fun t => t.name == s) l 0))) := by
  refine Pure.run mixed c_impl_TableAt_ok (Nat.le_of_ble_eq_true rfl) fun σ hS hA => ?_
  clear hS hA
  repeat' first|refine yaG ?_|refine yaC (indexFuncA_ok mixed c_slices_IndexFunc_Table_ok encTable (fun t => .agg (encTable t)) (fun _ => rfl) (fun _ => rfl) l (fun t => t.name == s) _ [] [.fp [.str s]] hx (fun j hj _ => TableAt1_ok _ _)) ?_|(exfalso;omega)|(refine yaS ?_ ?_<;>intro _)
  exact .ret rfl (.int rfl)
def kindAt (t : Table) (c : Int) : Int := match t.cols[c.toNat]? with | some x => x.kind | none => 0
def kindsEq (u t : Table) : List Int → List Int → Bool
  | a :: r, c :: q => kindAt u a == kindAt t c && kindsEq u t r q
  | _, _ => true
def metAt (u t : Table) (f : Fk) : Bool := decide (u.key.length = f.cols.length) && kindsEq u t u.key f.cols
def metF (s : List Table) (t : Table) (f : Fk) : Bool := s.any (fun u => u.name == f.table) && (match s[(idxA (fun u => u.name == f.table) s 0).toNat]? with | some u => metAt u t f | none => false)
theorem kindAt_at {t : Table} {c : Int} {n : Nat} (h : c = n) (hn : n < t.cols.length) : kindAt t c = t.cols[n].kind := by
  simp [kindAt, h, hn]
theorem metF_no {s : List Table} {t : Table} {f : Fk} (h : idxA (fun u => u.name == f.table) s 0 = -1) : metF s t f = false := by
  have := any_idx (p := fun u : Table => u.name == f.table) (l := s)
  rw [h] at this
  rw [metF, ← this]
  rfl
theorem metF_yes {s : List Table} {t : Table} {f : Fk} {n : Nat} (h : idxA (fun u => u.name == f.table) s 0 = n) (hn : n < s.length) : metF s t f = metAt s[n] t f := by
  have := any_idx (p := fun u : Table => u.name == f.table) (l := s)
  rw [h] at this
  rw [metF, ← this, h, decide_eq_true (by omega)]
  simp [hn]
theorem isMet_ok (s : List Table) (t : Table) (f : Fk) (hx : s.length ≤ 34359738368) (hs : ∀ u ∈ s, u.key.length ≤ 34359738368 ∧ ∀ c ∈ u.key, 0 ≤ c ∧ c < u.cols.length) (hf0 : f.cols.length ≤ 34359738368) (hf : ∀ c ∈ f.cols, 0 ≤ c ∧ c < t.cols.length) : Pure Tryz.prog 200 [.c (.fz (s.map encTable)), .agg (encTable t), .agg (encFk f)] (.c (.bool (metF s t f))) := by
  refine Pure.run mixed c_impl_isMet_ok (Nat.le_of_ble_eq_true rfl) fun σ hS hA => ?_
  clear hS hA
  repeat' first|refine yaG ?_|fail
  refine .pcall rfl rfl rfl (TableAt_ok s f.table hx) ?_
  rcases idxA_at (p := fun u : Table => u.name == f.table) (l := s) (i := 0) (Int.le_refl _) with hq | ⟨n, hn, hq, hp⟩
  · have hm := metF_no (t := t) hq
    rw [hq]
    repeat' first|refine yaG ?_|(exfalso;omega)|(refine yaS ?_ ?_<;>intro _)
    exact .ret rfl (.bool hm.symm)
  rw [Int.zero_add] at hq
  have hm := metF_yes (t := t) hq hn
  have hsn := hs _ (List.getElem_mem hn)
  rw [hq]
  have hnz : ¬ ((n : Int) < 0) := by omega
  repeat' first|refine yaG ?_|((first|apply yG|apply yH|apply yI);exact rfl;(first|exact yX (enc := encTable) rfl rfl rfl hn rfl))|(exfalso;omega)|(refine yaS ?_ ?_<;>intro _)
  · refine .ret rfl (.bool ?_)
    rename_i h
    rw [hm, metAt, decide_eq_false (by omega)]
    rfl
  rename_i hlen
  refine Go.keep [0, 4, 7, 29, 30, 31] (Go.loops (I := fun m fr τ => ∃ i : Nat, ∃ k : Int, m = f.cols.length - i ∧ i ≤ f.cols.length ∧ k = i ∧ kindsEq s[n] t s[n].key f.cols = kindsEq s[n] t (s[n].key.drop i) (f.cols.drop i) ∧
    fr = [(0, .c (.fz (s.map encTable))), (4, .c (.fp (encTable t))), (7, .c (.int .i64 (n : Int))), (29, .c (.fz (f.cols.map encI))), (30, .c (.int .i64 (f.cols.length : Int))), (31, .c (.int .i64 k))] ∧ τ = E σ []) ?_ _ _ _ ⟨0, _, rfl, Nat.zero_le _, rfl, rfl, rfl, rfl⟩)
  rintro m fr τ ⟨i, k, rfl, hi, hk, hsl, rfl, rfl⟩ hrec
  by_cases hlt : i < f.cols.length
  · have hlt2 : i < s[n].key.length := by omega
    have h1 := hsn.2 _ (List.getElem_mem hlt2)
    have h2 := hf _ (List.getElem_mem hlt)
    obtain ⟨a, ha⟩ : ∃ a : Nat, s[n].key[i] = a := ⟨s[n].key[i].toNat, by omega⟩
    obtain ⟨c, hc⟩ : ∃ c : Nat, f.cols[i] = c := ⟨f.cols[i].toNat, by omega⟩
    have ha2 : a < s[n].cols.length := by omega
    have hc2 : c < t.cols.length := by omega
    have e1 := kindAt_at ha ha2
    have e2 := kindAt_at hc hc2
    have hstep : kindsEq s[n] t s[n].key f.cols = (s[n].cols[a].kind == t.cols[c].kind && kindsEq s[n] t (s[n].key.drop (i + 1)) (f.cols.drop (i + 1))) := by
      rw [hsl, List.drop_eq_getElem_cons hlt, List.drop_eq_getElem_cons hlt2, kindsEq, e1, e2]
    repeat' first|refine yaG ?_|((first|apply yG|apply yH|apply yI);exact rfl;(first|exact yX (enc := encI) rfl rfl hk hlt rfl|exact yX (enc := encTable) rfl rfl rfl hn rfl|exact yX (enc := encI) rfl rfl hk hlt2 rfl|exact yX (enc := encCol) rfl rfl ha ha2 rfl|exact yX (enc := encCol) rfl rfl hc hc2 rfl))|(exfalso;omega)|(refine yaS ?_ ?_<;>intro _)
    · refine .ret rfl (.bool ?_)
      rename_i h
      rw [hm, metAt, hstep, beq_eq_false_iff_ne.2 h]
      simp
    · rename_i h
      refine Go.keep [0, 4, 7, 29, 30, 31] (hrec _ _ _ (by omega) ⟨i + 1, _, rfl, hlt, wrap_succ hk (by omega), ?_, rfl, rfl⟩)
      rw [hstep, h]
      simp
  · repeat' first|refine yaG ?_|(exfalso;omega)|(refine yaS ?_ ?_<;>intro _)
    refine .ret rfl (.bool ?_)
    rw [hm, metAt, hsl, List.drop_eq_nil_of_le (by omega), decide_eq_true (by omega)]
    cases s[n].key.drop i <;> rfl
def namesAux : List Table → List Table → Bool
  | _, [] => true
  | pre, t :: r => tableF t && !(pre.any fun u => u.name == t.name) && namesAux (pre ++ [t]) r
def schemaF (s : List Table) : Bool := decide ((s.length : Int) ≤ 5) && (namesAux [] s && !(s.any fun t => t.fks.any fun f => !metF s t f))
theorem namesAux_ok : ∀ {l pre : List Table}, namesAux pre l = true → ∀ t ∈ l, tableF t = true
  | [], _, _, t, h => by simp at h
  | a :: r, pre, h, t, ht => by
    simp only [namesAux, Bool.and_eq_true] at h
    rcases List.mem_cons.1 ht with rfl | ht
    · exact h.1.1
    · exact namesAux_ok h.2 t ht
theorem tableF_key {t : Table} (h : tableF t = true) : ∀ c ∈ t.key, 0 ≤ c ∧ c < t.cols.length := colsF_in (tableF_iff.1 h).2.2.1
theorem tableF_fk {t : Table} (h : tableF t = true) {f : Fk} (hf : f ∈ t.fks) : ∀ c ∈ f.cols, 0 ≤ c ∧ c < t.cols.length := by
  have h1 := (tableF_iff.1 h).2.2.2.2.2.2.2.2.2.2
  rw [List.any_eq_false] at h1
  have := h1 f hf
  simp only [Bool.not_eq_true', Bool.not_eq_false, isFkF, Bool.and_eq_true] at this
  exact colsF_in this.1
theorem SchemaOk11_ok (s : List Table) (t : Table) (f : Fk) (hx : s.length ≤ 34359738368) (hs : ∀ u ∈ s, u.key.length ≤ 34359738368 ∧ ∀ c ∈ u.key, 0 ≤ c ∧ c < u.cols.length) (hf0 : f.cols.length ≤ 34359738368) (hf : ∀ c ∈ f.cols, 0 ≤ c ∧ c < t.cols.length) : Pure Tryz.prog 199 [.agg (encFk f), .c (.fp [.fz (s.map encTable)]), .c (.fp (encTable t))] (.c (.bool (!metF s t f))) := by
  refine Pure.run mixed c_impl_SchemaOk_1_1_ok (Nat.le_of_ble_eq_true rfl) fun σ hS hA => ?_
  clear hS hA
  repeat' first|refine yaG ?_|refine yaC (isMet_ok s t f hx hs hf0 hf) ?_|(exfalso;omega)|(refine yaS ?_ ?_<;>intro _)
  exact .ret rfl (.bool rfl)
theorem SchemaOk1_ok (s : List Table) (t : Table) (hx : s.length ≤ 34359738368) (hs : ∀ u ∈ s, u.key.length ≤ 34359738368 ∧ ∀ c ∈ u.key, 0 ≤ c ∧ c < u.cols.length) (hb : bTable 34359738368 t) (hf : ∀ f ∈ t.fks, ∀ c ∈ f.cols, 0 ≤ c ∧ c < t.cols.length) : Pure Tryz.prog 197 [.agg (encTable t), .c (.fp [.fz (s.map encTable)])] (.c (.bool (t.fks.any fun f => !metF s t f))) := by
  refine Pure.run mixed c_impl_SchemaOk_1_ok (Nat.le_of_ble_eq_true rfl) fun σ hS hA => ?_
  clear hS hA
  have b6 := hb.2.2.2.2.2
  repeat' first|refine yaG ?_|refine yaC (containsFuncA_ok mixed c_slices_ContainsFunc_Fk_ok c_slices_IndexFunc_Fk_ok encFk (fun u => .agg (encFk u)) (fun _ => rfl) (fun _ => rfl) t.fks (fun f => !metF s t f) _ [] [.fp [.fz (s.map encTable)], .fp (encTable t)] b6.1 (fun j hj _ => SchemaOk11_ok s t _ hx hs (b6.2 _ (List.getElem_mem hj)).1 (hf _ (List.getElem_mem hj)))) ?_|(exfalso;omega)|(refine yaS ?_ ?_<;>intro _)
  exact .ret rfl (.bool rfl)
theorem encTable_len {l : List Table} : ∀ e ∈ l.map encTable, e.length = 6 := fun e he => by
  obtain ⟨t, _, rfl⟩ := List.mem_map.1 he
  rfl
theorem SchemaOk_ok (s : List Table) (hx : s.length ≤ 34359738368) (hb : ∀ t ∈ s, bTable 34359738368 t) : Pure Tryz.prog 118 [.c (.fz (s.map encTable))] (.c (.bool (schemaF s))) := by
  refine Pure.run mixed c_impl_SchemaOk_ok (Nat.le_of_ble_eq_true rfl) fun σ hS hA => ?_
  clear hS hA
  repeat' first|refine yaG ?_|(exfalso;omega)|(refine yaS ?_ ?_<;>intro _)
  · refine .ret rfl (.bool ?_)
    rw [schemaF, decide_eq_false (by omega)]
    rfl
  rename_i h5
  refine Go.keep [1, 8, 9, 10] (Go.loops (I := fun m fr τ => ∃ i : Nat, ∃ k : Int, m = s.length - i ∧ i ≤ s.length ∧ k = i ∧ namesAux [] s = namesAux (s.take i) (s.drop i) ∧
    fr = [(1, .c (.fp [.fz (s.map encTable)])), (8, .c (.fz (s.map encTable))), (9, .c (.int .i64 (s.length : Int))), (10, .c (.int .i64 k))] ∧ τ = E σ []) ?_ _ _ _ ⟨0, _, rfl, Nat.zero_le _, rfl, rfl, rfl, rfl⟩)
  rintro m fr τ ⟨i, k, rfl, hi, hk, hsl, rfl, rfl⟩ hrec
  by_cases hlt : i < s.length
  · have hd := List.drop_eq_getElem_cons hlt
    have htk : (s.map encTable).take i = (s.take i).map encTable := List.map_take.symm
    have hstep : namesAux [] s = (tableF s[i] && !((s.take i).any fun d => d.name == s[i].name) && namesAux (s.take (i + 1)) (s.drop (i + 1))) := by
      rw [hsl, hd, namesAux, List.take_succ_eq_append_getElem hlt]
    have neg : (tableF s[i] = false ∨ ((s.take i).any fun d => d.name == s[i].name) = true) → schemaF s = false := by
      rintro (h | h)
      · rw [schemaF, hstep, h]; simp
      · rw [schemaF, hstep, h]; simp
    have hany := any_idx (p := fun d : Table => d.name == s[i].name) (l := s.take i)
    repeat' first|refine yaG ?_|((first|apply yG|apply yH|apply yI);exact rfl;(first|exact yX (enc := encTable) rfl rfl hk hlt rfl|exact aop_sliceF (n := i) rfl rfl hk (by simp;omega) encTable_len))|((first|apply Go.pcallB|apply Go.spcallB|apply Qg.pcallB);(iterate 3 exact rfl);exact TableOk_ok s[i] (hb _ (List.getElem_mem hlt));intro _ _)|(exfalso;omega)|(refine yaS ?_ ?_<;>intro _)
    · rename_i c p q
      exact .ret rfl (.bool (neg (.inl (nbT p q))).symm)
    rename_i c p q
    rw [htk]
    repeat' first|refine yaG ?_|((first|apply Go.pcallI|apply Go.spcallI|apply Qg.pcallI);(iterate 3 exact rfl);exact TableAt_ok (s.take i) s[i].name (by simp;omega);intro _ _)|(exfalso;omega)|(refine yaS ?_ ?_<;>intro _)
    · rename_i z hz hz2
      refine .ret rfl (.bool (neg (.inr ?_)).symm)
      rw [← hany, hz]
      simpa using hz2
    · rename_i z hz hz2
      refine Go.keep [1, 8, 9, 10] (hrec _ _ _ (by omega) ⟨i + 1, _, rfl, hlt, wrap_succ hk (by omega), ?_, rfl, rfl⟩)
      rw [hstep, nbF p q, ← hany, hz, decide_eq_false (by omega)]
      rfl
  have hfin : namesAux [] s = true := by
    rw [hsl, List.drop_eq_nil_of_le (by omega)]
    rfl
  have hok := namesAux_ok hfin
  clear hrec hsl
  repeat' first|refine yaG ?_|refine yaC (containsFuncA_ok mixed c_slices_ContainsFunc_Table_ok c_slices_IndexFunc_Table_ok encTable (fun u => .agg (encTable u)) (fun _ => rfl) (fun _ => rfl) s (fun t => t.fks.any fun f => !metF s t f) _ [] [.fp [.fz (s.map encTable)]] hx (fun j hj _ => SchemaOk1_ok s _ hx (fun u hu => ⟨(hb u hu).2.2.1, tableF_key (hok u hu)⟩) (hb _ (List.getElem_mem hj)) (fun f hf => tableF_fk (hok _ (List.getElem_mem hj)) hf))) ?_|(exfalso;omega)|(refine yaS ?_ ?_<;>intro _)
  refine .ret rfl (.bool ?_)
  rw [schemaF, hfin, decide_eq_true (by omega)]
  rfl
end Go.Proofs.YtinbdedlmkjokaaGreat.Am

/- Schemas, as the reference sees them. -/
set_option linter.unusedVariables false
set_option linter.unusedSimpArgs false
namespace Go.Proofs.YtinbdedlmkjokaaGreat.Am

theorem schemaF_not {s : List Table} (h : schemaF s = true → False) : schemaF s = false := by
  cases c : schemaF s
  · rfl
  · exact (h c).elim
theorem schemaF_iff {s : List Table} : schemaF s = true ↔ (s.length : Int) ≤ 5 ∧ namesAux [] s = true ∧ (s.any fun t => t.fks.any fun f => !metF s t f) = false := by
  simp only [schemaF, Bool.and_eq_true, decide_eq_true_eq, Bool.not_eq_true']
theorem sSchemaOk_ok (s : List Table) (hx : s.length ≤ 34359738368) (hb : ∀ t ∈ s, bTable 34359738368 t) : Pure Tryz.prog 92 [.c (.fz (s.map encTable))] (.c (.bool (schemaF s))) := by
  refine Pure.run mixed c_spec_SchemaOk_ok (Nat.le_of_ble_eq_true rfl) fun σ hS hA => ?_
  clear hS hA
  repeat' first|refine yaG ?_|(exfalso;omega)|(refine yaS ?_ ?_<;>intro _)
  refine Go.keep [0, 3] (Go.loops (I := fun m fr τ => ∃ i : Nat, ∃ k : Int, m = s.length - i ∧ i ≤ s.length ∧ k = i ∧ namesAux [] s = namesAux (s.take i) (s.drop i) ∧
    fr = [(0, .c (.fz (s.map encTable))), (3, .c (.int .i64 k))] ∧ τ = E σ []) ?_ _ _ _ ⟨0, _, rfl, Nat.zero_le _, rfl, rfl, rfl, rfl⟩)
  rintro m fr τ ⟨i, k, rfl, hi, hk, hsl, rfl, rfl⟩ hrec
  by_cases hlt : i < s.length
  · have hd := List.drop_eq_getElem_cons hlt
    have htk : (s.map encTable).take i = (s.take i).map encTable := List.map_take.symm
    have hstep : namesAux [] s = (tableF s[i] && !((s.take i).any fun d => d.name == s[i].name) && namesAux (s.take (i + 1)) (s.drop (i + 1))) := by
      rw [hsl, hd, namesAux, List.take_succ_eq_append_getElem hlt]
    have neg : (tableF s[i] = false ∨ ((s.take i).any fun d => d.name == s[i].name) = true) → schemaF s = false := by
      rintro (h | h)
      · rw [schemaF, hstep, h]; simp
      · rw [schemaF, hstep, h]; simp
    have hany := any_idx (p := fun d : Table => d.name == s[i].name) (l := s.take i)
    repeat' first|refine yaG ?_|((first|apply yG|apply yH|apply yI);exact rfl;(first|exact yX (enc := encTable) rfl rfl hk hlt rfl|exact aop_sliceF (n := i) rfl rfl hk (by simp;omega) encTable_len))|((first|apply Go.pcallB|apply Go.spcallB|apply Qg.pcallB);(iterate 3 exact rfl);exact sTableOk_ok s[i] (hb _ (List.getElem_mem hlt));intro _ _)|(exfalso;omega)|(refine yaS ?_ ?_<;>intro _)
    · rename_i c p q
      exact .ret rfl (.bool (neg (.inl (nbT p q))).symm)
    rename_i c p q
    rw [htk]
    repeat' first|refine yaG ?_|((first|apply Go.pcallI|apply Go.spcallI|apply Qg.pcallI);(iterate 3 exact rfl);exact l3At_ok (s.take i) s[i].name (by simp;omega);intro _ _)|(exfalso;omega)|(refine yaS ?_ ?_<;>intro _)
    · rename_i z hz hz2
      refine .ret rfl (.bool (neg (.inr ?_)).symm)
      rw [← hany, hz]
      simpa using hz2
    · rename_i z hz hz2
      refine Go.keep [0, 3] (hrec _ _ _ (by omega) ⟨i + 1, _, rfl, hlt, wrap_succ hk (by omega), ?_, rfl, rfl⟩)
      rw [hstep, nbF p q, ← hany, hz, decide_eq_false (by omega)]
      rfl
  have hfin : namesAux [] s = true := by
    rw [hsl, List.drop_eq_nil_of_le (by omega)]
    rfl
  have hok := namesAux_ok hfin
  clear hrec hsl
  repeat' first|refine yaG ?_|(exfalso;omega)|(refine yaS ?_ ?_<;>intro _)
  clear hlt hk hi
  -- the references
  refine Go.keep [0, 4] (Go.loops (I := fun m fr τ => ∃ i : Nat, ∃ k : Int, m = s.length - i ∧ i ≤ s.length ∧ k = i ∧ (∀ j (hj : j < s.length), j < i → (!(s[j].fks.any fun f => !metF s s[j] f)) = true) ∧
    fr = [(0, .c (.fz (s.map encTable))), (4, .c (.int .i64 k))] ∧ τ = E σ []) ?_ _ _ _ ⟨0, _, rfl, Nat.zero_le _, rfl, fun j _ h => absurd h (by omega), rfl, rfl⟩)
  rintro m fr τ ⟨i, k, rfl, hi, hk, hall, rfl, rfl⟩ hrec
  by_cases hlt : i < s.length
  · have hmem := List.getElem_mem hlt
    have hti := hok _ hmem
    have b6 := (hb _ hmem).2.2.2.2.2
    repeat' first|refine yaG ?_|(exfalso;omega)|(refine yaS ?_ ?_<;>intro _)
    refine Go.keep [0, 4, 5] (Go.loops (I := fun m fr τ => ∃ i2 : Nat, ∃ k2 : Int, m = s[i].fks.length - i2 ∧ i2 ≤ s[i].fks.length ∧ k2 = i2 ∧ (∀ j (hj : j < s[i].fks.length), j < i2 → metF s s[i] s[i].fks[j] = true) ∧
      fr = [(0, .c (.fz (s.map encTable))), (4, .c (.int .i64 k)), (5, .c (.int .i64 k2))] ∧ τ = E σ []) ?_ _ _ _ ⟨0, _, rfl, Nat.zero_le _, rfl, fun j _ h => absurd h (by omega), rfl, rfl⟩)
    rintro m fr τ ⟨i2, k2, rfl, hi2, hk2, hall2, rfl, rfl⟩ hrec2
    by_cases hlt2 : i2 < s[i].fks.length
    · have hfm := List.getElem_mem hlt2
      have hf := tableF_fk hti hfm
      have hf0 := (b6.2 _ hfm).1
      have neg : metF s s[i] s[i].fks[i2] = false → schemaF s = false := fun h => schemaF_not fun hh => by
        have h2 := (schemaF_iff.1 hh).2.2
        rw [List.any_eq_false] at h2
        exact h2 _ hmem (List.any_eq_true.2 ⟨_, hfm, by rw [h]; rfl⟩)
      repeat' first|refine yaG ?_|((first|apply yG|apply yH|apply yI);exact rfl;(first|exact yX (enc := encTable) rfl rfl hk hlt rfl|exact yX (enc := encFk) rfl rfl hk2 hlt2 rfl))|(exfalso;omega)|(refine yaS ?_ ?_<;>intro _)
      refine .pcall rfl rfl rfl (l3At_ok s s[i].fks[i2].table hx) ?_
      rcases idxA_at (p := fun u : Table => u.name == s[i].fks[i2].table) (l := s) (i := 0) (Int.le_refl _) with hq | ⟨n, hn, hq, hp⟩
      · have hm := metF_no (t := s[i]) hq
        rw [hq]
        repeat' first|refine yaG ?_|(exfalso;omega)|(refine yaS ?_ ?_<;>intro _)
        exact .ret rfl (.bool (neg hm).symm)
      rw [Int.zero_add] at hq
      have hm := metF_yes (t := s[i]) hq hn
      have hsk := tableF_key (hok _ (List.getElem_mem hn))
      rw [hq]
      have hnz : ¬ ((n : Int) < 0) := by omega
      repeat' first|refine yaG ?_|((first|apply yG|apply yH|apply yI);exact rfl;(first|exact yX (enc := encTable) rfl rfl rfl hn rfl))|(exfalso;omega)|(refine yaS ?_ ?_<;>intro _)
      · rename_i h
        refine .ret rfl (.bool (neg ?_).symm)
        rw [hm, metAt, decide_eq_false (by omega)]
        rfl
      rename_i hlen
      refine Go.keep [0, 4, 5, 6, 7, 8] (Go.loops (I := fun m fr τ => ∃ i3 : Nat, ∃ k3 : Int, m = s[i].fks[i2].cols.length - i3 ∧ i3 ≤ s[i].fks[i2].cols.length ∧ k3 = i3 ∧ kindsEq s[n] s[i] s[n].key s[i].fks[i2].cols = kindsEq s[n] s[i] (s[n].key.drop i3) (s[i].fks[i2].cols.drop i3) ∧
        fr = [(0, .c (.fz (s.map encTable))), (4, .c (.int .i64 k)), (5, .c (.int .i64 k2)), (6, .c (.fp (encFk s[i].fks[i2]))), (7, .c (.int .i64 (n : Int))), (8, .c (.int .i64 k3))] ∧ τ = E σ []) ?_ _ _ _ ⟨0, _, rfl, Nat.zero_le _, rfl, rfl, rfl, rfl⟩)
      rintro m fr τ ⟨i3, k3, rfl, hi3, hk3, hsl, rfl, rfl⟩ hrec3
      by_cases hlt3 : i3 < s[i].fks[i2].cols.length
      · have hlt4 : i3 < s[n].key.length := by omega
        have h1 := hsk _ (List.getElem_mem hlt4)
        have h2 := hf _ (List.getElem_mem hlt3)
        obtain ⟨a, ha⟩ : ∃ a : Nat, s[n].key[i3] = a := ⟨s[n].key[i3].toNat, by omega⟩
        obtain ⟨c, hc⟩ : ∃ c : Nat, s[i].fks[i2].cols[i3] = c := ⟨s[i].fks[i2].cols[i3].toNat, by omega⟩
        have ha2 : a < s[n].cols.length := by omega
        have hc2 : c < s[i].cols.length := by omega
        have e1 := kindAt_at ha ha2
        have e2 := kindAt_at hc hc2
        have hstep : kindsEq s[n] s[i] s[n].key s[i].fks[i2].cols = (s[n].cols[a].kind == s[i].cols[c].kind && kindsEq s[n] s[i] (s[n].key.drop (i3 + 1)) (s[i].fks[i2].cols.drop (i3 + 1))) := by
          rw [hsl, List.drop_eq_getElem_cons hlt3, List.drop_eq_getElem_cons hlt4, kindsEq, e1, e2]
        repeat' first|refine yaG ?_|((first|apply yG|apply yH|apply yI);exact rfl;(first|exact yX (enc := encTable) rfl rfl hk hlt rfl|exact yX (enc := encI) rfl rfl hk3 hlt3 rfl|exact yX (enc := encTable) rfl rfl rfl hn rfl|exact yX (enc := encI) rfl rfl hk3 hlt4 rfl|exact yX (enc := encCol) rfl rfl ha ha2 rfl|exact yX (enc := encCol) rfl rfl hc hc2 rfl))|(exfalso;omega)|(refine yaS ?_ ?_<;>intro _)
        · rename_i h
          refine .ret rfl (.bool (neg ?_).symm)
          rw [hm, metAt, hstep, beq_eq_false_iff_ne.2 fun e => h e.symm]
          simp
        · rename_i h
          refine Go.keep [0, 4, 5, 6, 7, 8] (hrec3 _ _ _ (by omega) ⟨i3 + 1, _, rfl, hlt3, wrap_succ hk3 (by omega), ?_, rfl, rfl⟩)
          rw [hstep, h]
          simp
      · have hmt : metF s s[i] s[i].fks[i2] = true := by
          rw [hm, metAt, hsl, List.drop_eq_nil_of_le (by omega), decide_eq_true (by omega)]
          cases s[n].key.drop i3 <;> rfl
        clear hrec3
        repeat' first|refine yaG ?_|(exfalso;omega)|(refine yaS ?_ ?_<;>intro _)
        exact Go.keep [0, 4, 5] (hrec2 _ _ _ (by omega) ⟨i2 + 1, _, rfl, hlt2, wrap_succ hk2 (by omega), upto (p := fun f => metF s s[i] f) hall2 hlt2 hmt, rfl, rfl⟩)
    · have hany := any_none (p := fun f => metF s s[i] f) (l := s[i].fks) fun j hj => hall2 j hj (by omega)
      clear hrec2
      repeat' first|refine yaG ?_|((first|apply yG|apply yH|apply yI);exact rfl;(first|exact yX (enc := encTable) rfl rfl hk hlt rfl))|(exfalso;omega)|(refine yaS ?_ ?_<;>intro _)
      exact Go.keep [0, 4] (hrec _ _ _ (by omega) ⟨i + 1, _, rfl, hlt, wrap_succ hk (by omega), upto (p := fun t : Table => !(t.fks.any fun f => !metF s t f)) hall hlt (by rw [hany]; rfl), rfl, rfl⟩)
  · have hany := any_none (p := fun t : Table => !(t.fks.any fun f => !metF s t f)) (l := s) fun j hj => hall j hj (by omega)
    clear hrec
    repeat' first|refine yaG ?_|(exfalso;omega)|(refine yaS ?_ ?_<;>intro _)
    refine .ret rfl (.bool ?_)
    simp only [Bool.not_not] at hany
    rw [schemaF, hfin, hany]
    simp
end Go.Proofs.YtinbdedlmkjokaaGreat.Am

/- Queries: the program and its reference. -/
set_option linter.unusedVariables false
set_option linter.unusedSimpArgs false
namespace Go.Proofs.YtinbdedlmkjokaaGreat.Am

def tabAt (s : List Table) (nm : List UInt8) : Option Table := if s.any (fun u => u.name == nm) then s[(idxA (fun u => u.name == nm) s 0).toNat]? else none
theorem tabAt_no {s : List Table} {nm : List UInt8} (h : idxA (fun u => u.name == nm) s 0 = -1) : tabAt s nm = none := by
  have := any_idx (p := fun u : Table => u.name == nm) (l := s)
  rw [h] at this
  rw [tabAt, ← this]
  rfl
theorem tabAt_yes {s : List Table} {nm : List UInt8} {n : Nat} (h : idxA (fun u => u.name == nm) s 0 = n) (hn : n < s.length) : tabAt s nm = some s[n] := by
  have := any_idx (p := fun u : Table => u.name == nm) (l := s)
  rw [h] at this
  rw [tabAt, ← this, h, decide_eq_true (by omega)]
  simp [hn]
theorem schemaF_cols {s : List Table} (h : schemaF s = true) : ∀ t ∈ s, 1 ≤ t.cols.length ∧ t.cols.length ≤ 8 := fun t ht => by
  have := (tableF_iff.1 (namesAux_ok (schemaF_iff.1 h).2.1 t ht)).2.1
  simp only [isIn, Bool.and_eq_true, decide_eq_true_eq] at this
  omega
def termsF (l : List Term) (n : Int) : Bool := !(l.any fun x => !exprF x.expr n)
def whereF (e : List Tok) (n : Int) : Bool := (e.length : Int) == 0 || exprF e n
theorem areTerms1_ok (x : Term) (n : Int) (hb : bTerm 34359738368 x) (h0 : 0 ≤ n) (h1 : n ≤ 16) : Pure Tryz.prog 231 [.agg (encTerm x), .c (.fp [.int .i64 n])] (.c (.bool (!exprF x.expr n))) := by
  refine Pure.run mixed c_impl_areTerms_1_ok (Nat.le_of_ble_eq_true rfl) fun σ hS hA => ?_
  clear hS hA
  have hc := ExprOk_ok x.expr n hb.1
  rw [exprF_eq h0 h1] at hc
  repeat' first|refine yaG ?_|refine yaC (hc) ?_|(exfalso;omega)|(refine yaS ?_ ?_<;>intro _)
  exact .ret rfl (.bool rfl)
theorem areTerms_ok (l : List Term) (n : Int) (hx : l.length ≤ 34359738368) (hb : ∀ x ∈ l, bTerm 34359738368 x) (h0 : 0 ≤ n) (h1 : n ≤ 16) : Pure Tryz.prog 161 [.c (.fz (l.map encTerm)), .c (.int .i64 n)] (.c (.bool (termsF l n))) := by
  refine Pure.run mixed c_impl_areTerms_ok (Nat.le_of_ble_eq_true rfl) fun σ hS hA => ?_
  clear hS hA
  repeat' first|refine yaG ?_|refine yaC (containsFuncA_ok mixed c_slices_ContainsFunc_Term_ok c_slices_IndexFunc_Term_ok encTerm (fun u => .agg (encTerm u)) (fun _ => rfl) (fun _ => rfl) l (fun x => !exprF x.expr n) _ [] [.fp [.int .i64 n]] hx (fun j hj _ => areTerms1_ok _ _ (hb _ (List.getElem_mem hj)) h0 h1)) ?_|(exfalso;omega)|(refine yaS ?_ ?_<;>intro _)
  exact .ret rfl (.bool rfl)
theorem isWhere_ok (e : List Tok) (n : Int) (hx : e.length ≤ 34359738368) (h0 : 0 ≤ n) (h1 : n ≤ 16) : Pure Tryz.prog 97 [.c (.fz (e.map encTok)), .c (.int .i64 n)] (.c (.bool (whereF e n))) := by
  refine Pure.run mixed c_impl_isWhere_ok (Nat.le_of_ble_eq_true rfl) fun σ hS hA => ?_
  clear hS hA
  have hc := ExprOk_ok e n hx
  rw [exprF_eq h0 h1] at hc
  repeat' first|refine yaG ?_|((first|apply Go.pcallB|apply Go.spcallB|apply Qg.pcallB);(iterate 3 exact rfl);exact hc;intro _ _)|(exfalso;omega)|(refine yaS ?_ ?_<;>intro _)
  all_goals refine .ret rfl (.bool ?_)
  · rename_i h
    rw [whereF, h]
    rfl
  · rename_i h b hb
    rw [whereF, hb, beq_eq_false_iff_ne.2 h]
    rfl
def byF (l : List Int) (n : Int) : Bool := (l.length : Int) == 0 || colsF l n
def selAt (u : Table) (q : Sel) : Bool := termsF q.terms u.cols.length && (whereF q.wher u.cols.length && byF q.by_ u.cols.length)
def l10F (s : List Table) (q : Sel) : Bool := match tabAt s q.table with | none => false | some u => isIn q.terms.length 1 8 && (isIn q.most 0 60 && selAt u q)
def selectF (s : List Table) (q : Sel) : Bool := schemaF s && l10F s q
theorem SelectOk_ok (s : List Table) (q : Sel) (hx : s.length ≤ 34359738368) (hb : ∀ t ∈ s, bTable 34359738368 t) (hq : bSel 34359738368 q) : Pure Tryz.prog 72 [.c (.fz (s.map encTable)), .agg (encSel q)] (.c (.bool (selectF s q))) := by
  refine Pure.run mixed c_impl_SelectOk_ok (Nat.le_of_ble_eq_true rfl) fun σ hS hA => ?_
  clear hS hA
  obtain ⟨q1, q2, q3, q4⟩ := hq
  repeat' first|refine yaG ?_|fail
  refine .pcall rfl rfl rfl (TableAt_ok s q.table hx) ?_
  rcases idxA_at (p := fun u : Table => u.name == q.table) (l := s) (i := 0) (Int.le_refl _) with hi | ⟨n, hn, hi, hp⟩
  · have hno : selectF s q = false := by rw [selectF, l10F, tabAt_no hi]; simp
    rw [hi]
    repeat' first|refine yaG ?_|((first|apply Go.pcallB|apply Go.spcallB|apply Qg.pcallB);(iterate 3 exact rfl);exact SchemaOk_ok s hx hb;intro _ _)|(exfalso;omega)|(refine yaS ?_ ?_<;>intro _)
    all_goals exact .ret rfl (.bool hno.symm)
  rw [Int.zero_add] at hi
  have hyes := tabAt_yes hi hn
  have hnz : ¬ ((n : Int) < 0) := by omega
  rw [hi]
  repeat' first|refine yaG ?_|((first|apply Go.pcallB|apply Go.spcallB|apply Qg.pcallB);(iterate 3 exact rfl);(first|exact SchemaOk_ok s hx hb|exact in_ok _ _ _);intro _ _)|(exfalso;omega)|(refine yaS ?_ ?_<;>intro _)
  · rename_i c p k
    refine .ret rfl (.bool ?_)
    rw [selectF, nbT p k]
    rfl
  · rename_i c p k c2 p2 k2
    refine .ret rfl (.bool ?_)
    rw [selectF, l10F, hyes]
    simp only [nbT p2 k2]
    simp
  · rename_i c p k c2 p2 k2 c3 p3 k3
    refine .ret rfl (.bool ?_)
    rw [selectF, l10F, hyes]
    simp only [nbT p3 k3]
    simp
  rename_i c p k c2 p2 k2 c3 p3 k3
  have hs := nbF p k
  have hc := schemaF_cols hs _ (List.getElem_mem hn)
  have hres : selectF s q = selAt s[n] q := by
    rw [selectF, hs, l10F, hyes]
    simp only [nbF p2 k2, nbF p3 k3]
    simp
  clear p k p2 k2 p3 k3
  repeat' first|refine yaG ?_|((first|apply yG|apply yH|apply yI);exact rfl;(first|exact yX (enc := encTable) rfl rfl rfl hn rfl))|((first|apply Go.pcallB|apply Go.spcallB|apply Qg.pcallB);(iterate 3 exact rfl);(first|exact areTerms_ok q.terms s[n].cols.length q2.1 q2.2 (by omega) (by omega)|exact isWhere_ok q.wher s[n].cols.length q3.1 (by omega) (by omega)|exact areColumns_ok q.by_ s[n].cols.length q4 (by omega) (by omega));intro _ _)|(exfalso;omega)|(refine yaS ?_ ?_<;>intro _)
  all_goals refine .ret rfl (.bool ?_)
  all_goals rw [hres, selAt]
  all_goals simp_all [byF]
theorem l10Ok_ok (s : List Table) (q : Sel) (hs : schemaF s = true) (hx : s.length ≤ 34359738368) (hb : ∀ t ∈ s, bTable 34359738368 t) (hq : bSel 34359738368 q) : Pure Tryz.prog 86 [.c (.fz (s.map encTable)), .agg (encSel q)] (.c (.bool (l10F s q))) := by
  refine Pure.run mixed c_spec_l10Ok_ok (Nat.le_of_ble_eq_true rfl) fun σ hS hA => ?_
  clear hS hA
  obtain ⟨q1, q2, q3, q4⟩ := hq
  repeat' first|refine yaG ?_|fail
  refine .pcall rfl rfl rfl (l3At_ok s q.table hx) ?_
  rcases idxA_at (p := fun u : Table => u.name == q.table) (l := s) (i := 0) (Int.le_refl _) with hi | ⟨n, hn, hi, hp⟩
  · have hno : l10F s q = false := by rw [l10F, tabAt_no hi]
    rw [hi]
    repeat' first|refine yaG ?_|(exfalso;omega)|(refine yaS ?_ ?_<;>intro _)
    exact .ret rfl (.bool hno.symm)
  rw [Int.zero_add] at hi
  have hyes := tabAt_yes hi hn
  have hnz : ¬ ((n : Int) < 0) := by omega
  rw [hi]
  repeat' first|refine yaG ?_|((first|apply Go.pcallB|apply Go.spcallB|apply Qg.pcallB);(iterate 3 exact rfl);exact l1In_ok _ _ _;intro _ _)|(exfalso;omega)|(refine yaS ?_ ?_<;>intro _)
  · rename_i c2 p2 k2
    refine .ret rfl (.bool ?_)
    rw [l10F, hyes]
    simp only [nbT p2 k2]
    simp
  · rename_i c2 p2 k2 c3 p3 k3
    refine .ret rfl (.bool ?_)
    rw [l10F, hyes]
    simp only [nbT p3 k3]
    simp
  rename_i c2 p2 k2 c3 p3 k3
  have hc := schemaF_cols hs _ (List.getElem_mem hn)
  have hres : l10F s q = selAt s[n] q := by
    rw [l10F, hyes]
    simp only [nbF p2 k2, nbF p3 k3]
    simp
  clear p2 k2 p3 k3
  rw [hres]
  repeat' first|refine yaG ?_|((first|apply yG|apply yH|apply yI);exact rfl;(first|exact yX (enc := encTable) rfl rfl rfl hn rfl))|(exfalso;omega)|(refine yaS ?_ ?_<;>intro _)
  refine Go.keep [3, 6, 7] (Go.loops (I := fun m fr τ => ∃ i : Nat, ∃ k : Int, m = q.terms.length - i ∧ i ≤ q.terms.length ∧ k = i ∧ (∀ j (hj : j < q.terms.length), j < i → exprF q.terms[j].expr s[n].cols.length = true) ∧
    fr = [(3, .c (.fp (encSel q))), (6, .c (.int .i64 (s[n].cols.length : Int))), (7, .c (.int .i64 k))] ∧ τ = E σ []) ?_ _ _ _ ⟨0, _, rfl, Nat.zero_le _, rfl, fun j _ h => absurd h (by omega), rfl, rfl⟩)
  rintro m fr τ ⟨i, k, rfl, hi2, hk, hall, rfl, rfl⟩ hrec
  have hex : ∀ e : List Tok, e.length ≤ 34359738368 → Pure Tryz.prog 174 [.c (.fz (e.map encTok)), .c (.int .i64 s[n].cols.length)] (.c (.bool (exprF e s[n].cols.length))) := fun e he => l2Expr_ok e _ he (by omega) (by omega)
  by_cases hlt : i < q.terms.length
  · repeat' first|refine yaG ?_|((first|apply yG|apply yH|apply yI);exact rfl;(first|exact yX (enc := encTerm) rfl rfl hk hlt rfl))|((first|apply Go.pcallB|apply Go.spcallB|apply Qg.pcallB);(iterate 3 exact rfl);exact hex q.terms[i].expr (q2.2 _ (List.getElem_mem hlt)).1;intro _ _)|(exfalso;omega)|(refine yaS ?_ ?_<;>intro _)
    · rename_i c p k4
      refine .ret rfl (.bool ?_)
      rw [selAt, termsF, any_at (p := fun x : Term => exprF x.expr s[n].cols.length) hlt (nbT p k4)]
      rfl
    · rename_i c p k4
      exact Go.keep [3, 6, 7] (hrec _ _ _ (by omega) ⟨i + 1, _, rfl, hlt, wrap_succ hk (by omega), upto (p := fun x : Term => exprF x.expr s[n].cols.length) hall hlt (nbF p k4), rfl, rfl⟩)
  have hterms := any_none (p := fun x : Term => exprF x.expr s[n].cols.length) (l := q.terms) fun j hj => hall j hj (by omega)
  clear hrec hall
  repeat' first|refine yaG ?_|((first|apply Go.pcallB|apply Go.spcallB|apply Qg.pcallB);(iterate 3 exact rfl);(first|exact hex q.wher q3.1|exact l3Cols_ok q.by_ s[n].cols.length q4 (by omega) (by omega));intro _ _)|(exfalso;omega)|(refine yaS ?_ ?_<;>intro _)
  all_goals refine .ret rfl (.bool ?_)
  all_goals rw [selAt, termsF, hterms]
  all_goals clear hex
  all_goals simp_all [byF, whereF]
theorem sSelectOk_ok (s : List Table) (q : Sel) (hx : s.length ≤ 34359738368) (hb : ∀ t ∈ s, bTable 34359738368 t) (hq : bSel 34359738368 q) : Pure Tryz.prog 25 [.c (.fz (s.map encTable)), .agg (encSel q)] (.c (.bool (selectF s q))) := by
  refine Pure.run mixed c_spec_SelectOk_ok (Nat.le_of_ble_eq_true rfl) fun σ hS hA => ?_
  clear hS hA
  repeat' first|refine yaG ?_|fail
  refine .pcall rfl rfl rfl (sSchemaOk_ok s hx hb) ?_
  cases hs : schemaF s
  · repeat' first|refine yaG ?_|(exfalso;omega)|(refine yaS ?_ ?_<;>intro _)
    refine .ret rfl (.bool ?_)
    rw [selectF, hs]
    rfl
  · repeat' first|refine yaG ?_|refine yaC (l10Ok_ok s q hs hx hb hq) ?_|(exfalso;omega)|(refine yaS ?_ ?_<;>intro _)
    refine .ret rfl (.bool ?_)
    rw [selectF, hs]
    rfl
end Go.Proofs.YtinbdedlmkjokaaGreat.Am

/- Statements: the program and its reference. -/
set_option linter.unusedVariables false
set_option linter.unusedSimpArgs false
namespace Go.Proofs.YtinbdedlmkjokaaGreat.Am

def fitAux (t : Table) : Nat → List Val → Bool
  | _, [] => true
  | i, v :: r => isOfF v (kindAt t i) && fitAux t (i + 1) r
def fitF (t : Table) (vals : List Val) : Bool := decide ((vals.length : Int) = t.cols.length) && fitAux t 0 vals
theorem fit_ok (t : Table) (vals : List Val) (hx : vals.length ≤ 34359738368) : Pure Tryz.prog 201 [.agg (encTable t), .c (.fz (vals.map encV))] (.c (.bool (fitF t vals))) := by
  refine Pure.run mixed c_impl_fit_ok (Nat.le_of_ble_eq_true rfl) fun σ hS hA => ?_
  clear hS hA
  repeat' first|refine yaG ?_|(exfalso;omega)|(refine yaS ?_ ?_<;>intro _)
  · rename_i h
    refine .ret rfl (.bool ?_)
    rw [fitF, decide_eq_false h]
    rfl
  rename_i hlen
  have hlen : (vals.length : Int) = t.cols.length := by omega
  refine Go.keep [2, 13, 14, 15] (Go.loops (I := fun m fr τ => ∃ i : Nat, ∃ k : Int, m = vals.length - i ∧ i ≤ vals.length ∧ k = i ∧ fitAux t 0 vals = fitAux t i (vals.drop i) ∧
    fr = [(2, .c (.fp (encTable t))), (13, .c (.fz (vals.map encV))), (14, .c (.int .i64 (vals.length : Int))), (15, .c (.int .i64 k))] ∧ τ = E σ []) ?_ _ _ _ ⟨0, _, rfl, Nat.zero_le _, rfl, rfl, rfl, rfl⟩)
  rintro m fr τ ⟨i, k, rfl, hi, hk, hsl, rfl, rfl⟩ hrec
  by_cases hlt : i < vals.length
  · have hd := List.drop_eq_getElem_cons hlt
    have hlc : i < t.cols.length := by omega
    have hka : kindAt t i = t.cols[i].kind := kindAt_at rfl hlc
    rw [hd, fitAux, hka] at hsl
    repeat' first|refine yaG ?_|((first|apply yG|apply yH|apply yI);exact rfl;(first|exact yX (enc := encV) rfl rfl hk hlt rfl|exact yX (enc := encCol) rfl rfl hk hlc rfl))|((first|apply Go.pcallB|apply Go.spcallB|apply Qg.pcallB);(iterate 3 exact rfl);exact isOf_ok vals[i] t.cols[i].kind;intro _ _)|(exfalso;omega)|(refine yaS ?_ ?_<;>intro _)
    · rename_i b p k4
      refine .ret rfl (.bool ?_)
      rw [fitF, hsl, nbT p k4]
      simp
    · rename_i b p k4
      refine Go.keep [2, 13, 14, 15] (hrec _ _ _ (by omega) ⟨i + 1, _, rfl, hlt, wrap_succ hk (by omega), ?_, rfl, rfl⟩)
      rw [hsl, nbF p k4]
      rfl
  · repeat' first|refine yaG ?_|(exfalso;omega)|(refine yaS ?_ ?_<;>intro _)
    refine .ret rfl (.bool ?_)
    rw [fitF, hsl, List.drop_eq_nil_of_le (by omega), decide_eq_true hlen]
    rfl
theorem l4Kinds_ok (t : Table) (vals : List Val) (hx : vals.length ≤ 34359738368) : Pure Tryz.prog 227 [.agg (encTable t), .c (.fz (vals.map encV))] (.c (.bool (fitF t vals))) := by
  refine Pure.run mixed c_spec_l4Kinds_ok (Nat.le_of_ble_eq_true rfl) fun σ hS hA => ?_
  clear hS hA
  repeat' first|refine yaG ?_|(exfalso;omega)|(refine yaS ?_ ?_<;>intro _)
  · rename_i h
    refine .ret rfl (.bool ?_)
    rw [fitF, decide_eq_false h]
    rfl
  rename_i hlen
  have hlen : (vals.length : Int) = t.cols.length := by omega
  refine Go.keep [1, 2, 5] (Go.loops (I := fun m fr τ => ∃ i : Nat, ∃ k : Int, m = vals.length - i ∧ i ≤ vals.length ∧ k = i ∧ fitAux t 0 vals = fitAux t i (vals.drop i) ∧
    fr = [(1, .c (.fz (vals.map encV))), (2, .c (.fp (encTable t))), (5, .c (.int .i64 k))] ∧ τ = E σ []) ?_ _ _ _ ⟨0, _, rfl, Nat.zero_le _, rfl, rfl, rfl, rfl⟩)
  rintro m fr τ ⟨i, k, rfl, hi, hk, hsl, rfl, rfl⟩ hrec
  by_cases hlt : i < vals.length
  · have hd := List.drop_eq_getElem_cons hlt
    have hlc : i < t.cols.length := by omega
    have hka : kindAt t i = t.cols[i].kind := kindAt_at rfl hlc
    rw [hd, fitAux, hka] at hsl
    repeat' first|refine yaG ?_|((first|apply yG|apply yH|apply yI);exact rfl;(first|exact yX (enc := encV) rfl rfl hk hlt rfl|exact yX (enc := encCol) rfl rfl hk hlc rfl))|((first|apply Go.pcallB|apply Go.spcallB|apply Qg.pcallB);(iterate 3 exact rfl);exact sValOk_ok vals[i];intro _ _)|(exfalso;omega)|(refine yaS ?_ ?_<;>intro _)
    all_goals first
      | (refine .ret rfl (.bool ?_); rw [fitF, hsl, isOfF]; clear hrec hsl; simp_all; done)
      | (refine Go.keep [1, 2, 5] (hrec _ _ _ (by omega) ⟨i + 1, _, rfl, hlt, wrap_succ hk (by omega), ?_, rfl, rfl⟩); rw [hsl, isOfF]; clear hrec hsl; simp_all; done)
  · repeat' first|refine yaG ?_|(exfalso;omega)|(refine yaS ?_ ?_<;>intro _)
    refine .ret rfl (.bool ?_)
    rw [fitF, hsl, List.drop_eq_nil_of_le (by omega), decide_eq_true hlen]
    rfl
end Go.Proofs.YtinbdedlmkjokaaGreat.Am

/- The laws' helpers on types, printed by a program: Data, Line, Save, Session. -/
set_option linter.unusedVariables false
set_option linter.unusedSimpArgs false
namespace Go.Proofs.YtinbdedlmkjokaaGreat.Am
structure Data where
  rows : List RowD
  deriving DecidableEq
def encData (a : Data) : List Ce := [.fz (a.rows.map encRowD)]
def bData (N : Nat) (a : Data) : Prop := (a.rows.length ≤ N ∧ ∀ x ∈ a.rows, bRowD N x)
structure Line where
  vals : List Val
  deriving DecidableEq
def encLine (a : Line) : List Ce := [.fz (a.vals.map encV)]
def bLine (N : Nat) (a : Line) : Prop := (a.vals.length ≤ N ∧ ∀ x ∈ a.vals, bV N x)
end Go.Proofs.YtinbdedlmkjokaaGreat.Am

/- Databases: which are right, by the program and its reference. -/
set_option linter.unusedVariables false
set_option linter.unusedSimpArgs false
namespace Go.Proofs.YtinbdedlmkjokaaGreat.Am

def risesId (p : Option Int) (n : Int) : Bool := match p with | none => true | some q => decide (q < n)
def rowOne (t : Table) (p : Option Int) (r : RowD) : Bool := isIn r.id 1 1000000000 && (risesId p r.id && fitF t r.vals)
def rowsAux (t : Table) : Option Int → List RowD → Bool
  | _, [] => true
  | p, r :: l => rowOne t p r && rowsAux t (some r.id) l
def rowsF (t : Table) (l : List RowD) : Bool := rowsAux t none l && decide ((l.length : Int) ≤ 60)
def dbAux : List Table → List Data → Bool
  | t :: s, d :: db => rowsF t d.rows && dbAux s db
  | _, _ => true
def dbF (s : List Table) (db : List Data) : Bool := schemaF s && (decide ((db.length : Int) = s.length) && dbAux s db)
theorem areRows_ok (t : Table) (l : List RowD) (hx : l.length ≤ 34359738368) (hb : ∀ r ∈ l, r.vals.length ≤ 34359738368) : Pure Tryz.prog 126 [.agg (encTable t), .c (.fz (l.map encRowD))] (.c (.bool (rowsF t l))) := by
  refine Pure.run mixed c_impl_areRows_ok (Nat.le_of_ble_eq_true rfl) fun σ hS hA => ?_
  clear hS hA
  repeat' first|refine yaG ?_|(exfalso;omega)|(refine yaS ?_ ?_<;>intro _)
  refine Go.keep [1, 2, 7, 8, 9] (Go.loops (I := fun m fr τ => ∃ (i : Nat) (k : Int) (p : Option Int), m = l.length - i ∧ i ≤ l.length ∧ k = i ∧ (rowsAux t none l = rowsAux t p (l.drop i) ∧ ((i = 0 ∧ p = none) ∨ ∃ j, ∃ hj : j < l.length, i = j + 1 ∧ p = some l[j].id)) ∧
    fr = [(1, .c (.fz (l.map encRowD))), (2, .c (.fp (encTable t))), (7, .c (.fz (l.map encRowD))), (8, .c (.int .i64 (l.length : Int))), (9, .c (.int .i64 k))] ∧ τ = E σ []) ?_ _ _ _ ⟨0, _, none, rfl, Nat.zero_le _, rfl, ⟨rfl, .inl ⟨rfl, rfl⟩⟩, rfl, rfl⟩)
  rintro m fr τ ⟨i, k, p, rfl, hi, hk, ⟨hs, hp⟩, rfl, rfl⟩ hrec
  by_cases hlt : i < l.length
  · have hv := hb _ (List.getElem_mem hlt)
    rw [List.drop_eq_getElem_cons hlt, rowsAux] at hs
    rcases hp with ⟨rfl, rfl⟩ | ⟨j, hj, rfl, rfl⟩
    · repeat' first|refine yaG ?_|((first|apply yG|apply yH|apply yI);exact rfl;(first|exact yX (enc := encRowD) rfl rfl hk hlt rfl))|((first|apply Go.pcallB|apply Go.spcallB|apply Qg.pcallB);(iterate 3 exact rfl);(first|exact in_ok _ _ _|exact fit_ok t l[0].vals hv);intro _ _)|(exfalso;omega)|(refine yaS ?_ ?_<;>intro _)
      all_goals first
        | (refine .ret rfl (.bool ?_); clear hrec; rw [rowsF, hs, rowOne, risesId]; clear hs; simp_all; done)
        | (refine Go.keep [1, 2, 7, 8, 9] (hrec _ _ _ (by omega) ⟨0 + 1, _, some l[0].id, rfl, hlt, wrap_succ hk (by omega), ⟨?_, .inr ⟨0, hlt, rfl, rfl⟩⟩, rfl, rfl⟩); clear hrec; rw [hs, rowOne, risesId]; clear hs; simp_all; done)
    · repeat' first|refine yaG ?_|((first|apply yG|apply yH|apply yI);exact rfl;(first|exact yX (enc := encRowD) rfl rfl hk hlt rfl|exact yX (enc := encRowD) rfl rfl (wrap_pred hk (by omega)) hj rfl))|((first|apply Go.pcallB|apply Go.spcallB|apply Qg.pcallB);(iterate 3 exact rfl);(first|exact in_ok _ _ _|exact fit_ok t l[j + 1].vals hv);intro _ _)|(exfalso;omega)|(refine yaS ?_ ?_<;>intro _)
      all_goals first
        | (refine .ret rfl (.bool ?_); clear hrec; rw [rowsF, hs, rowOne, risesId]; clear hs; (simp_all <;> intros <;> omega); done)
        | (refine Go.keep [1, 2, 7, 8, 9] (hrec _ _ _ (by omega) ⟨j + 1 + 1, _, some l[j + 1].id, rfl, hlt, wrap_succ hk (by omega), ⟨?_, .inr ⟨j + 1, hlt, rfl, rfl⟩⟩, rfl, rfl⟩); clear hrec; rw [hs, rowOne, risesId]; clear hs; (simp_all <;> intros <;> omega); done)
  · repeat' first|refine yaG ?_|(exfalso;omega)|(refine yaS ?_ ?_<;>intro _)
    refine .ret rfl (.bool ?_)
    rw [rowsF, hs, List.drop_eq_nil_of_le (by omega)]
    simp [rowsAux]
theorem DbOk_ok (s : List Table) (db : List Data) (hx : s.length ≤ 34359738368) (hb : ∀ t ∈ s, bTable 34359738368 t) (hd : db.length ≤ 34359738368) (hdb : ∀ d ∈ db, bData 34359738368 d) : Pure Tryz.prog 52 [.c (.fz (s.map encTable)), .c (.fz (db.map encData))] (.c (.bool (dbF s db))) := by
  refine Pure.run mixed c_impl_DbOk_ok (Nat.le_of_ble_eq_true rfl) fun σ hS hA => ?_
  clear hS hA
  have c1 := SchemaOk_ok s hx hb
  cases hs : schemaF s
  · rw [hs] at c1
    repeat' first|refine yaG ?_|refine yaC (c1) ?_|(exfalso;omega)|(refine yaS ?_ ?_<;>intro _)
    refine .ret rfl (.bool ?_)
    rw [dbF, hs]
    rfl
  rw [hs] at c1
  repeat' first|refine yaG ?_|refine yaC (c1) ?_|(exfalso;omega)|(refine yaS ?_ ?_<;>intro _)
  · rename_i h
    refine .ret rfl (.bool ?_)
    rw [dbF, hs, decide_eq_false h]
    rfl
  rename_i hl
  have hl : (db.length : Int) = s.length := by omega
  refine Go.keep [0, 17, 18, 19] (Go.loops (I := fun m fr τ => ∃ (i : Nat) (k : Int), m = db.length - i ∧ i ≤ db.length ∧ k = i ∧ dbAux s db = dbAux (s.drop i) (db.drop i) ∧
    fr = [(0, .c (.fz (s.map encTable))), (17, .c (.fz (db.map encData))), (18, .c (.int .i64 (db.length : Int))), (19, .c (.int .i64 k))] ∧ τ = E σ []) ?_ _ _ _ ⟨0, _, rfl, Nat.zero_le _, rfl, rfl, rfl, rfl⟩)
  rintro m fr τ ⟨i, k, rfl, hi, hk, hsl, rfl, rfl⟩ hrec
  clear c1
  by_cases hlt : i < db.length
  · have hlt2 : i < s.length := by omega
    have hbd := hdb _ (List.getElem_mem hlt)
    rw [List.drop_eq_getElem_cons hlt, List.drop_eq_getElem_cons hlt2, dbAux] at hsl
    repeat' first|refine yaG ?_|((first|apply yG|apply yH|apply yI);exact rfl;(first|exact yX (enc := encData) rfl rfl hk hlt rfl|exact yX (enc := encTable) rfl rfl hk hlt2 rfl))|((first|apply Go.pcallB|apply Go.spcallB|apply Qg.pcallB);(iterate 3 exact rfl);exact areRows_ok s[i] db[i].rows hbd.1 (fun r hr => (hbd.2 r hr).1);intro _ _)|(exfalso;omega)|(refine yaS ?_ ?_<;>intro _)
    · rename_i b p h
      refine .ret rfl (.bool ?_)
      rw [dbF, hsl, nbT p h]
      simp
    · rename_i b p h
      refine Go.keep [0, 17, 18, 19] (hrec _ _ _ (by omega) ⟨i + 1, _, rfl, hlt, wrap_succ hk (by omega), ?_, rfl, rfl⟩)
      rw [hsl, nbF p h, Bool.true_and]
  · repeat' first|refine yaG ?_|(exfalso;omega)|(refine yaS ?_ ?_<;>intro _)
    refine .ret rfl (.bool ?_)
    rw [dbF, hs, hsl, decide_eq_true hl, show db.drop i = [] from List.drop_eq_nil_of_le (by omega)]
    cases List.drop i s <;> rfl
theorem l4Db_ok (s : List Table) (db : List Data) (hx : s.length ≤ 34359738368) (hd : db.length ≤ 34359738368) (hdb : ∀ d ∈ db, bData 34359738368 d) : Pure Tryz.prog 172 [.c (.fz (s.map encTable)), .c (.fz (db.map encData))] (.c (.bool (decide ((db.length : Int) = s.length) && dbAux s db))) := by
  refine Pure.run mixed c_spec_l4Db_ok (Nat.le_of_ble_eq_true rfl) fun σ hS hA => ?_
  clear hS hA
  repeat' first|refine yaG ?_|(exfalso;omega)|(refine yaS ?_ ?_<;>intro _)
  · rename_i h
    refine .ret rfl (.bool ?_)
    rw [decide_eq_false h]
    rfl
  rename_i hl
  have hl : (db.length : Int) = s.length := by omega
  refine Go.keep [0, 1, 5] (Go.loops (I := fun m fr τ => ∃ (i : Nat) (k : Int), m = db.length - i ∧ i ≤ db.length ∧ k = i ∧ dbAux s db = dbAux (s.drop i) (db.drop i) ∧
    fr = [(0, .c (.fz (s.map encTable))), (1, .c (.fz (db.map encData))), (5, .c (.int .i64 k))] ∧ τ = E σ []) ?_ _ _ _ ⟨0, _, rfl, Nat.zero_le _, rfl, rfl, rfl, rfl⟩)
  rintro m fr τ ⟨i, k, rfl, hi, hk, hsl, rfl, rfl⟩ hrec
  by_cases hlt : i < db.length
  · have hlt2 : i < s.length := by omega
    have hbd := hdb _ (List.getElem_mem hlt)
    rw [List.drop_eq_getElem_cons hlt, List.drop_eq_getElem_cons hlt2, dbAux, rowsF] at hsl
    obtain ⟨l, hle⟩ : ∃ l, db[i].rows = l := ⟨_, rfl⟩
    have hrl : l.length ≤ 34359738368 := by rw [← hle]; exact hbd.1
    have hrv : ∀ r ∈ l, r.vals.length ≤ 34359738368 := by rw [← hle]; exact fun r hr => (hbd.2 r hr).1
    repeat' first|refine yaG ?_|((first|apply yG|apply yH|apply yI);exact rfl;(first|exact yX (enc := encData) rfl rfl hk hlt rfl))|(exfalso;omega)|(refine yaS ?_ ?_<;>intro _)
    rw [hle] at hsl ⊢
    refine Go.keep [0, 1, 5, 6, 7] (Go.loops (I := fun m fr τ => ∃ (j : Nat) (q : Int) (p : Option Int), m = l.length - j ∧ j ≤ l.length ∧ q = j ∧ (rowsAux s[i] none l = rowsAux s[i] p (l.drop j) ∧ ((j = 0 ∧ p = none) ∨ ∃ a, ∃ ha : a < l.length, j = a + 1 ∧ p = some l[a].id)) ∧
      fr = [(0, .c (.fz (s.map encTable))), (1, .c (.fz (db.map encData))), (5, .c (.int .i64 k)), (6, .c (.fz (l.map encRowD))), (7, .c (.int .i64 q))] ∧ τ = E σ []) ?_ _ _ _ ⟨0, _, none, rfl, Nat.zero_le _, rfl, ⟨rfl, .inl ⟨rfl, rfl⟩⟩, rfl, rfl⟩)
    rintro m fr τ ⟨j, q, p, rfl, hj, hq, ⟨hs2, hp⟩, rfl, rfl⟩ hrec2
    by_cases hlj : j < l.length
    · have hv := hrv _ (List.getElem_mem hlj)
      rw [List.drop_eq_getElem_cons hlj, rowsAux] at hs2
      clear hrec
      rcases hp with ⟨rfl, rfl⟩ | ⟨a, ha, rfl, rfl⟩
      · repeat' first|refine yaG ?_|((first|apply yG|apply yH|apply yI);exact rfl;(first|exact yX (enc := encRowD) rfl rfl hq hlj rfl|exact yX (enc := encTable) rfl rfl hk hlt2 rfl))|((first|apply Go.pcallB|apply Go.spcallB|apply Qg.pcallB);(iterate 3 exact rfl);(first|exact l1In_ok _ _ _|exact l4Kinds_ok s[i] l[0].vals hv);intro _ _)|(exfalso;omega)|(refine yaS ?_ ?_<;>intro _)
        all_goals first
          | (refine .ret rfl (.bool ?_); clear hrec2; rw [hsl, hs2, rowOne, risesId]; clear hs2 hsl; simp_all; done)
          | (refine Go.keep [0, 1, 5, 6, 7] (hrec2 _ _ _ (by omega) ⟨0 + 1, _, some l[0].id, rfl, hlj, wrap_succ hq (by omega), ⟨?_, .inr ⟨0, hlj, rfl, rfl⟩⟩, rfl, rfl⟩); clear hrec2; rw [hs2, rowOne, risesId]; clear hs2 hsl; simp_all; done)
      · repeat' first|refine yaG ?_|((first|apply yG|apply yH|apply yI);exact rfl;(first|exact yX (enc := encRowD) rfl rfl hq hlj rfl|exact yX (enc := encRowD) rfl rfl (wrap_pred hq (by omega)) ha rfl|exact yX (enc := encTable) rfl rfl hk hlt2 rfl))|((first|apply Go.pcallB|apply Go.spcallB|apply Qg.pcallB);(iterate 3 exact rfl);(first|exact l1In_ok _ _ _|exact l4Kinds_ok s[i] l[a + 1].vals hv);intro _ _)|(exfalso;omega)|(refine yaS ?_ ?_<;>intro _)
        all_goals first
          | (refine .ret rfl (.bool ?_); clear hrec2; rw [hsl, hs2, rowOne, risesId]; clear hs2 hsl; (simp_all <;> intros <;> omega); done)
          | (refine Go.keep [0, 1, 5, 6, 7] (hrec2 _ _ _ (by omega) ⟨a + 1 + 1, _, some l[a + 1].id, rfl, hlj, wrap_succ hq (by omega), ⟨?_, .inr ⟨a + 1, hlj, rfl, rfl⟩⟩, rfl, rfl⟩); clear hrec2; rw [hs2, rowOne, risesId]; clear hs2 hsl; (simp_all <;> intros <;> omega); done)
    · clear hrec2
      rw [List.drop_eq_nil_of_le (by omega), rowsAux] at hs2
      repeat' first|refine yaG ?_|(exfalso;omega)|(refine yaS ?_ ?_<;>intro _)
      · rename_i h
        refine .ret rfl (.bool ?_)
        rw [hsl, hs2, decide_eq_false (p := (l.length : Int) ≤ 60) (by omega)]
        simp
      · rename_i h
        refine Go.keep [0, 1, 5] (hrec _ _ _ (by omega) ⟨i + 1, _, rfl, hlt, wrap_succ hk (by omega), ?_, rfl, rfl⟩)
        rw [hsl, hs2, decide_eq_true (p := (l.length : Int) ≤ 60) (by omega)]
        rfl
  · repeat' first|refine yaG ?_|(exfalso;omega)|(refine yaS ?_ ?_<;>intro _)
    refine .ret rfl (.bool ?_)
    rw [hsl, decide_eq_true hl, show db.drop i = [] from List.drop_eq_nil_of_le (by omega)]
    cases List.drop i s <;> rfl
theorem sDbOk_ok (s : List Table) (db : List Data) (hx : s.length ≤ 34359738368) (hb : ∀ t ∈ s, bTable 34359738368 t) (hd : db.length ≤ 34359738368) (hdb : ∀ d ∈ db, bData 34359738368 d) : Pure Tryz.prog 85 [.c (.fz (s.map encTable)), .c (.fz (db.map encData))] (.c (.bool (dbF s db))) := by
  refine Pure.run mixed c_spec_DbOk_ok (Nat.le_of_ble_eq_true rfl) fun σ hS hA => ?_
  clear hS hA
  have c1 := sSchemaOk_ok s hx hb
  have c2 := l4Db_ok s db hx hd hdb
  rw [dbF]
  generalize (decide ((db.length : Int) = s.length) && dbAux s db) = B at c2 ⊢
  cases hs : schemaF s
  · rw [hs] at c1
    repeat' first|refine yaG ?_|refine yaC (c1) ?_|(exfalso;omega)|(refine yaS ?_ ?_<;>intro _)
    exact .ret rfl (.bool rfl)
  · rw [hs] at c1
    repeat' first|refine yaG ?_|refine yaC (c1) ?_|refine yaC (c2) ?_|(exfalso;omega)|(refine yaS ?_ ?_<;>intro _)
    exact .ret rfl (.bool rfl)
theorem isTable_ok (s : List Table) (n : Int) (hx : s.length ≤ 34359738368) : Pure Tryz.prog 96 [.c (.fz (s.map encTable)), .c (.int .i64 n)] (.c (.bool (isIn n 0 (s.length - 1)))) := by
  refine Pure.run mixed c_impl_isTable_ok (Nat.le_of_ble_eq_true rfl) fun σ hS hA => ?_
  clear hS hA
  repeat' first|refine yaG ?_|refine yaC (in_ok _ _ _) ?_|(exfalso;omega)|(refine yaS ?_ ?_<;>intro _)
  refine .ret rfl (.bool ?_)
  rw [wrap64 (by omega) (by omega)]
theorem l6Ok_ok (s : List Table) (db : List Data) (n : Int) (hx : s.length ≤ 34359738368) (hb : ∀ t ∈ s, bTable 34359738368 t) (hd : db.length ≤ 34359738368) (hdb : ∀ d ∈ db, bData 34359738368 d) : Pure Tryz.prog 226 [.c (.fz (s.map encTable)), .c (.fz (db.map encData)), .c (.int .i64 n)] (.c (.bool (dbF s db && isIn n 0 (s.length - 1)))) := by
  refine Pure.run mixed c_spec_l6Ok_ok (Nat.le_of_ble_eq_true rfl) fun σ hS hA => ?_
  clear hS hA
  have c1 := sDbOk_ok s db hx hb hd hdb
  have hw : IntKind.i64.wrap ((s.length : Int) - 1) = s.length - 1 := wrap64 (by omega) (by omega)
  cases hs : dbF s db
  · rw [hs] at c1
    repeat' first|refine yaG ?_|refine yaC (c1) ?_|(exfalso;omega)|(refine yaS ?_ ?_<;>intro _)
    exact .ret rfl (.bool rfl)
  · rw [hs] at c1
    repeat' first|refine yaG ?_|refine yaC (c1) ?_|refine yaC (l1In_ok _ _ _) ?_|(exfalso;omega)|(refine yaS ?_ ?_<;>intro _)
    refine .ret rfl (.bool ?_)
    rw [hw]
    rfl
/-- What a right database is like. -/
theorem dbF_at {s : List Table} {db : List Data} (h : dbF s db = true) : schemaF s = true ∧ db.length = s.length ∧ ∀ i (hi : i < s.length) (hi2 : i < db.length), rowsF s[i] db[i].rows = true := by
  simp only [dbF, Bool.and_eq_true, decide_eq_true_eq] at h
  obtain ⟨h1, h2, h3⟩ := h
  refine ⟨h1, by omega, ?_⟩
  clear h1 h2
  induction s generalizing db with
  | nil => intro i hi; simp at hi
  | cons t s ih =>
    cases db with
    | nil => intro i _ hi; simp at hi
    | cons d db =>
      rw [dbAux, Bool.and_eq_true] at h3
      intro i hi hi2
      cases i with
      | zero => exact h3.1
      | succ i => exact ih h3.2 i (by simpa using hi) (by simpa using hi2)
theorem rowsAux_mem {t : Table} : ∀ {l : List RowD} {p : Option Int}, rowsAux t p l = true → ∀ r ∈ l, fitF t r.vals = true ∧ isIn r.id 1 1000000000 = true
  | [], _, _, r, hr => by simp at hr
  | a :: l, p, h, r, hr => by
    simp only [rowsAux, rowOne, Bool.and_eq_true] at h
    rcases List.mem_cons.1 hr with rfl | hr
    · exact ⟨h.1.2.2, h.1.1⟩
    · exact rowsAux_mem h.2 r hr
theorem rowsF_mem {t : Table} {l : List RowD} (h : rowsF t l = true) : l.length ≤ 60 ∧ ∀ r ∈ l, fitF t r.vals = true ∧ isIn r.id 1 1000000000 = true := by
  simp only [rowsF, Bool.and_eq_true, decide_eq_true_eq] at h
  exact ⟨by omega, rowsAux_mem h.1⟩
theorem fitAux_ok {t : Table} : ∀ {l : List Val} {i : Nat}, fitAux t i l = true → ∀ v ∈ l, okVal v = true
  | [], _, _, v, hv => by simp at hv
  | a :: l, i, h, v, hv => by
    simp only [fitAux, isOfF, Bool.and_eq_true] at h
    rcases List.mem_cons.1 hv with rfl | hv
    · exact h.1.1
    · exact fitAux_ok h.2 v hv
theorem fitF_vals {t : Table} {l : List Val} (h : fitF t l = true) : l.length = t.cols.length ∧ ∀ v ∈ l, okVal v = true := by
  simp only [fitF, Bool.and_eq_true, decide_eq_true_eq] at h
  exact ⟨by omega, fitAux_ok h.2⟩
theorem fitF_are {t : Table} {l : List Val} (h : fitF t l = true) (hc : t.cols.length ≤ 8) : areVals l 16 = true := by
  obtain ⟨h1, h2⟩ := fitF_vals h
  simp only [areVals, Bool.and_eq_true, decide_eq_true_eq, List.all_eq_true]
  exact ⟨by omega, h2⟩
end Go.Proofs.YtinbdedlmkjokaaGreat.Am

/- Marks by fields, and how many marks a value takes. -/
set_option linter.unusedVariables false
set_option linter.unusedSimpArgs false
namespace Go.Proofs.YtinbdedlmkjokaaGreat.Am

/-- One cell of one element is written. -/
theorem Has.wr {σ : Store} {S : Nat → Prop} {zs : List (List Ce)} {e : List Ce} {id v n c i j : Nat} (h : Has σ S (.fz (zs.set i e)) (.sl id v 0 n c)) (hi : i < zs.length) (hj : j < e.length) :
    ∃ (es : List (List Ce)) (e' : List Ce), σ.get id = some (v, es) ∧ es[0 + i]? = some e' ∧ e'.length = e.length ∧ S id ∧
      ∀ z, Flat z → Has (σ.put id (v, es.set (0 + i) (splice e' (0 + j) [z]))) S (.fz (zs.set i (e.set j z))) (.sl id v 0 n c) ∧
        (∀ a, ¬ S a → (σ.put id (v, es.set (0 + i) (splice e' (0 + j) [z]))).get a = σ.get a) ∧ (σ.put id (v, es.set (0 + i) (splice e' (0 + j) [z]))).next = σ.next := by
  have hi' : i < (zs.set i e).length := by simpa using hi
  have hii : (zs.set i e)[i] = e := by simp
  obtain ⟨id1, v1, c1, es, e', hx, hg, he, hel, hS, hw⟩ := h.write (i := i) (j := j) hi' (by rw [hii]; exact hj)
  obtain ⟨rfl, rfl, -⟩ := sl_inj hx
  refine ⟨es, e', hg, he, by rw [hel, hii], hS, fun z hz => ⟨?_, fun a ha => put_off hS a ha, rfl⟩⟩
  have := hw z hz
  rw [List.set_set, hii] at this
  exact this
end Go.Proofs.YtinbdedlmkjokaaGreat.Am

/- The laws' helpers on types, printed by a program: Tok, Check, Unique, Fk, Col. -/
set_option linter.unusedVariables false
set_option linter.unusedSimpArgs false
namespace Go.Proofs.YtinbdedlmkjokaaGreat.Am
end Go.Proofs.YtinbdedlmkjokaaGreat.Am

/- The laws' helpers on types, printed by a program: Row, Data, Line. -/
set_option linter.unusedVariables false
set_option linter.unusedSimpArgs false
namespace Go.Proofs.YtinbdedlmkjokaaGreat.Am
def cntLine (a : Line) : Int := 0 + cntL (fun _ => 3) a.vals
end Go.Proofs.YtinbdedlmkjokaaGreat.Am

/- The laws' helpers on types, printed by a program: Table, Term, Trigger. -/
set_option linter.unusedVariables false
set_option linter.unusedSimpArgs false
namespace Go.Proofs.YtinbdedlmkjokaaGreat.Am
end Go.Proofs.YtinbdedlmkjokaaGreat.Am

/- What the laws with marks have in common. -/
set_option linter.unusedVariables false
set_option linter.unusedSimpArgs false
namespace Go.Proofs.YtinbdedlmkjokaaGreat.Am

theorem has_flat {σ : Store} {S : Nat → Prop} {y x : Ce} (hf : Flat y) (h : Has σ S y x) : x = y := by
  cases hf <;> (cases h; rfl)
theorem hasV_flat {σ : Store} {S : Nat → Prop} {y : Ce} {x : AV} (hf : Flat y) (h : HasV σ S (.c y) x) : x = .c y := by
  cases h with
  | c h => rw [has_flat hf h]
theorem newtup_open {σ τ : Store} {ys : List AV} {r : AV} (h : NewV σ (.tup ys) r τ) : ∃ xs, ∃ U : Nat → Nat → Prop, ∃ hl : xs.length = ys.length, r = .tup xs ∧ Gr σ τ ∧ (∀ i a, U i a → σ.next ≤ a ∧ a < τ.next) ∧ ∀ i (hy : i < ys.length) (hx : i < xs.length), HasV τ (U i) ys[i] xs[i] := by
  obtain ⟨hg, hh⟩ := h
  generalize hy0 : AV.tup ys = y0 at hh
  cases hh with
  | c h => cases hy0
  | agg h => cases hy0
  | @tup S ys' xs U hl hU hd h =>
    injection hy0 with hy0
    subst hy0
    exact ⟨xs, U, hl, rfl, hg, fun i a ha => hU i a ha, h⟩
theorem new2_open {σ τ : Store} {y f : Ce} {r : AV} (hf : Flat f) (h : NewV σ (.tup [.c y, .c f]) r τ) : ∃ x, r = .tup [.c x, .c f] ∧ Gr σ τ ∧ Has τ (fun a => σ.next ≤ a ∧ a < τ.next) y x := by
  obtain ⟨xs, U, hl, rfl, hg, hU, h⟩ := newtup_open h
  match xs, hl with
  | [x1, x2], _ =>
    have h1 := h 0 (by simp) (by simp)
    have h2 := h 1 (by simp) (by simp)
    simp only [List.getElem_cons_zero, List.getElem_cons_succ] at h1 h2
    obtain rfl := hasV_flat hf h2
    cases h1 with
    | c h1 => exact ⟨_, rfl, hg, h1.mono fun a ha => hU 0 a ha⟩
theorem hv_flat {τ : Store} {S : Nat → Prop} {f : Ce} (h : Flat f) : HasV τ S (.c f) (.c f) := .c (.c h)
theorem newPair {σ τ : Store} {y x f : Ce} (hf : Flat f) (h : NewV σ (.c y) (.c x) τ) : NewV σ (.tup [.c y, .c f]) (.tup [.c x, .c f]) τ :=
  ⟨h.1, .pair h.2 (hv_flat (S := fun _ => False) hf) (fun _ h => h) (fun _ h => h.elim) (fun _ _ h => h)⟩
theorem newNil {σ τ : Store} (g : Gr σ τ) : NewV σ (.c (.fz [])) (.c .nils) τ := ⟨g, .c .nil⟩
theorem newVec {σ : Store} {v : Nat} {s : Nat} {ys junk : List (List Ce)} (hy : ∀ e ∈ ys, e.length = s ∧ ∀ x ∈ e, Flat x) (hj : Jk s junk) : NewV σ (.c (.fz ys)) (.c (vec (σ.next + 0) v ys junk)) (E σ [(v, ys ++ junk)]) :=
  (Made.new hy (r := .c (vec (σ.next + 0) v ys junk)) ⟨v, junk, hj, rfl, rfl⟩).v
theorem gr_flat {σ : Store} {v : Nat} {es : List (List Ce)} (h : ∀ e ∈ es, ∀ x ∈ e, Flat x) : Gr σ (E σ [(v, es)]) :=
  ⟨_, rfl, fun b hb e he x hx => by rw [List.mem_singleton.1 hb] at he; exact .flat (h e he x hx)⟩
theorem flat_two {s : Nat} {ys junk : List (List Ce)} (hy : ∀ e ∈ ys, e.length = s ∧ ∀ x ∈ e, Flat x) (hj : Jk s junk) : ∀ e ∈ ys ++ junk, ∀ x ∈ e, Flat x := fun e he => (List.mem_append.1 he).elim (fun h => (hy e h).2) fun h => (hj e h).2
end Go.Proofs.YtinbdedlmkjokaaGreat.Am

/- Rows that match: the program and its reference. -/
set_option linter.unusedVariables false
set_option linter.unusedSimpArgs false
namespace Go.Proofs.YtinbdedlmkjokaaGreat.Am

def isM (w : List Tok) (r : RowD) : Int := if 0 < w.length then truthI w r.vals else 1
def matchAux (w : List Tok) : List RowD → List Int → Option (List Int)
  | [], acc => some acc
  | r :: l, acc => if isM w r = -1 then none else matchAux w l (if isM w r = 1 then acc ++ [r.id] else acc)
def matchF (l : List RowD) (w : List Tok) : List Int × Bool := match matchAux w l [] with | some ids => (ids, true) | none => ([], false)
theorem flatIs {xs : List Int} : ∀ e ∈ xs.map encI, e.length = 1 ∧ ∀ x ∈ e, Flat x := flatI xs
theorem matching_ok (l : List RowD) (w : List Tok) (hx : l.length ≤ 1048576) (hb : ∀ r ∈ l, r.vals.length ≤ 34359738368) (hw : w.length ≤ 34359738368) (σ : Store) : Ok Tryz.prog 73 [.c (.fz (l.map encRowD)), .c (.fz (w.map encTok))] σ (NewV σ (.tup [.c (.fz ((matchF l w).1.map encI)), .c (.bool (matchF l w).2)])) := by
  refine Ok.run mixed c_impl_matching_ok (Nat.le_of_ble_eq_true rfl) fun hS hA => ?_
  clear hS hA
  repeat' first|refine yaG ?_|(exfalso;omega)|(refine yaS ?_ ?_<;>intro _)
  refine Go.keep [1, 6, 11, 12, 13] (Go.loops (I := fun m fr τ => ∃ (i : Nat) (k : Int) (ids : List Int) (v : Nat) (junk : List (List Ce)), m = l.length - i ∧ i ≤ l.length ∧ k = i ∧ Jk 1 junk ∧ (ids.length ≤ i ∧ matchAux w l [] = matchAux w (l.drop i) ids) ∧
    fr = [(1, .c (.fz (w.map encTok))), (6, .c (vec (σ.next + 0) v (ids.map encI) junk)), (11, .c (.fz (l.map encRowD))), (12, .c (.int .i64 (l.length : Int))), (13, .c (.int .i64 k))] ∧ τ = E σ [(v, ids.map encI ++ junk)]) ?_ _ _ _ ⟨0, _, [], 0, [], rfl, Nat.zero_le _, rfl, Jk.nil, ⟨Nat.zero_le _, rfl⟩, rfl, rfl⟩)
  rintro m fr τ ⟨i, k, ids, v, junk, rfl, hi, hk, hj, ⟨hil, hs⟩, rfl, rfl⟩ hrec
  by_cases hlt : i < l.length
  · have hv := hb _ (List.getElem_mem hlt)
    rw [List.drop_eq_getElem_cons hlt, matchAux, isM] at hs
    have hbd : ((ids.map encI).length + 1) * 8 ≤ 140737488355328 := by rw [List.length_map]; omega
    have c1 := Truth_ok w l[i].vals hw hv
    generalize hT : truthI w l[i].vals = T at c1 hs
    have hz1 : ∀ e ∈ ids.map encI, e.length = 1 := fun e he => (flatIs e he).1
    have e1 : ids.map encI ++ [encI l[i].id] = (ids ++ [l[i].id]).map encI := by simp
    by_cases h0 : 0 < w.length
    · rw [if_pos h0] at hs
      repeat' first|refine yaG ?_|((first|apply yG|apply yH|apply yI);exact rfl;(first|exact yX (enc := encRowD) rfl rfl hk hlt rfl))|(apply Go.app1;exact rfl;exact rfl;exact rfl;exact rfl;exact rfl;exact hz1;exact hj;exact rfl;exact hbd;intro v' junk' hj')|refine yaC (c1) ?_|(exfalso;omega)|(refine yaS ?_ ?_<;>intro _)
      · rename_i h1 h2
        rw [if_pos h2] at hs
        refine .ret rfl ?_
        rw [matchF, hs]
        exact newPair (.bool _) (newNil (gr_flat (flat_two flatIs hj)))
      · rename_i h1 h2 h3
        rw [if_neg h2, if_pos h3] at hs
        refine Go.keep [1, 6, 11, 12, 13] (hrec _ _ _ (by omega) ⟨i + 1, _, ids ++ [l[i].id], v', junk', rfl, hlt, wrap_succ hk (by omega), hj', ⟨by simp; omega, hs⟩, ?_, ?_⟩)
        · rw [← e1]; rfl
        · rw [← e1]; rfl
      · rename_i h1 h2 h3
        rw [if_neg h2, if_neg h3] at hs
        exact Go.keep [1, 6, 11, 12, 13] (hrec _ _ _ (by omega) ⟨i + 1, _, ids, v, junk, rfl, hlt, wrap_succ hk (by omega), hj, ⟨by omega, hs⟩, rfl, rfl⟩)
    · rw [if_neg h0] at hs
      repeat' first|refine yaG ?_|((first|apply yG|apply yH|apply yI);exact rfl;(first|exact yX (enc := encRowD) rfl rfl hk hlt rfl))|(apply Go.app1;exact rfl;exact rfl;exact rfl;exact rfl;exact rfl;exact hz1;exact hj;exact rfl;exact hbd;intro v' junk' hj')|(exfalso;omega)|(refine yaS ?_ ?_<;>intro _)
      rw [if_neg (by decide), if_pos rfl] at hs
      refine Go.keep [1, 6, 11, 12, 13] (hrec _ _ _ (by omega) ⟨i + 1, _, ids ++ [l[i].id], v', junk', rfl, hlt, wrap_succ hk (by omega), hj', ⟨by simp; omega, hs⟩, ?_, ?_⟩)
      · rw [← e1]; rfl
      · rw [← e1]; rfl
  · repeat' first|refine yaG ?_|(exfalso;omega)|(refine yaS ?_ ?_<;>intro _)
    refine .ret rfl ?_
    rw [List.drop_eq_nil_of_le (by omega), matchAux] at hs
    rw [matchF, hs]
    exact newPair (.bool _) (newVec flatIs hj)
theorem l7Matching_ok (d : Data) (w : List Tok) (hx : d.rows.length ≤ 1048576) (hw : w.length ≤ 34359738368) (hT : 0 < w.length → ∀ r ∈ d.rows, areVals r.vals 16 = true ∧ exprF w r.vals.length = true) (σ : Store) : Ok Tryz.prog 88 [.agg (encData d), .c (.fz (w.map encTok))] σ (NewV σ (.tup [.c (.fz ((matchF d.rows w).1.map encI)), .c (.bool (matchF d.rows w).2)])) := by
  refine Ok.run mixed c_spec_l7Matching_ok (Nat.le_of_ble_eq_true rfl) fun hS hA => ?_
  clear hS hA
  repeat' first|refine yaG ?_|(exfalso;omega)|(refine yaS ?_ ?_<;>intro _)
  refine Go.keep [1, 2, 6, 7] (Go.loops (I := fun m fr τ => ∃ (i : Nat) (k : Int) (ids : List Int) (v : Nat) (junk : List (List Ce)), m = d.rows.length - i ∧ i ≤ d.rows.length ∧ k = i ∧ Jk 1 junk ∧ (ids.length ≤ i ∧ matchAux w d.rows [] = matchAux w (d.rows.drop i) ids) ∧
    fr = [(1, .c (.fz (w.map encTok))), (2, .c (.fp (encData d))), (6, .c (vec (σ.next + 0) v (ids.map encI) junk)), (7, .c (.int .i64 k))] ∧ τ = E σ [(v, ids.map encI ++ junk)]) ?_ _ _ _ ⟨0, _, [], 0, [], rfl, Nat.zero_le _, rfl, Jk.nil, ⟨Nat.zero_le _, rfl⟩, rfl, rfl⟩)
  rintro m fr τ ⟨i, k, ids, v, junk, rfl, hi, hk, hj, ⟨hil, hs⟩, rfl, rfl⟩ hrec
  by_cases hlt : i < d.rows.length
  · rw [List.drop_eq_getElem_cons hlt, matchAux, isM] at hs
    have hbd : ((ids.map encI).length + 1) * 8 ≤ 140737488355328 := by rw [List.length_map]; omega
    have hz1 : ∀ e ∈ ids.map encI, e.length = 1 := fun e he => (flatIs e he).1
    have e1 : ids.map encI ++ [encI d.rows[i].id] = (ids ++ [d.rows[i].id]).map encI := by simp
    by_cases h0 : 0 < w.length
    · obtain ⟨q1, q2⟩ := hT h0 _ (List.getElem_mem hlt)
      have c1 := l2Truth_ok w d.rows[i].vals q1 q2
      have hTT : truthI w d.rows[i].vals = truthR w d.rows[i].vals := by rw [truthI, evalOk, q1, q2]; rfl
      have hr : -1 ≤ truthR w d.rows[i].vals := by
        rw [truthR]
        split
        · rw [truthV]
          split
          · decide
          · split
            · split <;> decide
            · decide
        · decide
      rw [if_pos h0, hTT] at hs
      generalize truthR w d.rows[i].vals = T at c1 hs hr
      repeat' first|refine yaG ?_|((first|apply yG|apply yH|apply yI);exact rfl;(first|exact yX (enc := encRowD) rfl rfl hk hlt rfl))|(apply Go.app1;exact rfl;exact rfl;exact rfl;exact rfl;exact rfl;exact hz1;exact hj;exact rfl;exact hbd;intro v' junk' hj')|refine yaC (c1) ?_|(exfalso;omega)|(refine yaS ?_ ?_<;>intro _)
      · rename_i h1 h2
        rw [if_pos (by omega)] at hs
        refine .ret rfl ?_
        rw [matchF, hs]
        exact newPair (.bool _) (newNil (gr_flat (flat_two flatIs hj)))
      · rename_i h1 h2 h3
        rw [if_neg (by omega), if_pos h3] at hs
        refine Go.keep [1, 2, 6, 7] (hrec _ _ _ (by omega) ⟨i + 1, _, ids ++ [d.rows[i].id], v', junk', rfl, hlt, wrap_succ hk (by omega), hj', ⟨by simp; omega, hs⟩, ?_, ?_⟩)
        · rw [← e1]; rfl
        · rw [← e1]; rfl
      · rename_i h1 h2 h3
        rw [if_neg (by omega), if_neg h3] at hs
        exact Go.keep [1, 2, 6, 7] (hrec _ _ _ (by omega) ⟨i + 1, _, ids, v, junk, rfl, hlt, wrap_succ hk (by omega), hj, ⟨by omega, hs⟩, rfl, rfl⟩)
    · rw [if_neg h0] at hs
      repeat' first|refine yaG ?_|((first|apply yG|apply yH|apply yI);exact rfl;(first|exact yX (enc := encRowD) rfl rfl hk hlt rfl))|(apply Go.app1;exact rfl;exact rfl;exact rfl;exact rfl;exact rfl;exact hz1;exact hj;exact rfl;exact hbd;intro v' junk' hj')|(exfalso;omega)|(refine yaS ?_ ?_<;>intro _)
      rw [if_neg (by decide), if_pos rfl] at hs
      refine Go.keep [1, 2, 6, 7] (hrec _ _ _ (by omega) ⟨i + 1, _, ids ++ [d.rows[i].id], v', junk', rfl, hlt, wrap_succ hk (by omega), hj', ⟨by simp; omega, hs⟩, ?_, ?_⟩)
      · rw [← e1]; rfl
      · rw [← e1]; rfl
  · repeat' first|refine yaG ?_|(exfalso;omega)|(refine yaS ?_ ?_<;>intro _)
    refine .ret rfl ?_
    rw [List.drop_eq_nil_of_le (by omega), matchAux] at hs
    rw [matchF, hs]
    exact newPair (.bool _) (newVec flatIs hj)
def rowsAt (db : List Data) (n : Int) : List RowD := match db[n.toNat]? with | some d => d.rows | none => []
def colsAt (s : List Table) (n : Int) : Nat := match s[n.toNat]? with | some t => t.cols.length | none => 0
def matchOk (s : List Table) (db : List Data) (n : Int) (w : List Tok) : Bool := dbF s db && (isIn n 0 (s.length - 1) && whereF w (colsAt s n))
def MatchF (s : List Table) (db : List Data) (n : Int) (w : List Tok) : List Int × Bool := if matchOk s db n w then matchF (rowsAt db n) w else ([], false)
theorem isIn_at {n m : Int} (h : isIn n 0 (m - 1) = true) : 0 ≤ n ∧ n < m := by
  simp only [isIn, Bool.and_eq_true, decide_eq_true_eq] at h
  omega
theorem newNo {σ : Store} : NewV σ (.tup [.c (.fz []), .c (.bool false)]) (.tup [.c .nils, .c (.bool false)]) (E σ []) := newPair (.bool _) (newNil (Gr.start σ))
theorem Matching_ok (s : List Table) (db : List Data) (n : Int) (w : List Tok) (hx : s.length ≤ 34359738368) (hb : ∀ t ∈ s, bTable 34359738368 t) (hd : db.length ≤ 34359738368) (hdb : ∀ d ∈ db, bData 34359738368 d) (hw : w.length ≤ 34359738368) (hw2 : ∀ t ∈ w, bTok 34359738368 t) (σ : Store) :
    Ok Tryz.prog 28 [.c (.fz (s.map encTable)), .c (.fz (db.map encData)), .c (.int .i64 n), .c (.fz (w.map encTok))] σ (NewV σ (.tup [.c (.fz ((MatchF s db n w).1.map encI)), .c (.bool (MatchF s db n w).2)])) := by
  refine Ok.run mixed c_impl_Matching_ok (Nat.le_of_ble_eq_true rfl) fun hS hA => ?_
  clear hS hA
  have c1 := DbOk_ok s db hx hb hd hdb
  have c2 := isTable_ok s n hx
  rw [MatchF, matchOk]
  cases h1 : dbF s db
  · rw [h1] at c1
    repeat' first|refine yaG ?_|refine yaC (c1) ?_|(exfalso;omega)|(refine yaS ?_ ?_<;>intro _)
    exact .ret rfl newNo
  cases h2 : isIn n 0 (s.length - 1)
  · rw [h1] at c1
    rw [h2] at c2
    repeat' first|refine yaG ?_|refine yaC (c1) ?_|refine yaC (c2) ?_|(exfalso;omega)|(refine yaS ?_ ?_<;>intro _)
    exact .ret rfl newNo
  rw [h1] at c1
  rw [h2] at c2
  obtain ⟨hs, hl, hrows⟩ := dbF_at h1
  obtain ⟨h3, h4⟩ := isIn_at h2
  have hn : n = (n.toNat : Int) := by omega
  have hlt : n.toNat < s.length := by omega
  have hlt2 : n.toNat < db.length := by omega
  have hcl := schemaF_cols hs _ (List.getElem_mem hlt)
  have hr := hrows _ hlt hlt2
  obtain ⟨hr1, hr2⟩ := rowsF_mem hr
  have c3 := isWhere_ok w s[n.toNat].cols.length hw (by omega) (by omega)
  have hca : colsAt s n = s[n.toNat].cols.length := by rw [colsAt, List.getElem?_eq_getElem hlt]
  have hra : rowsAt db n = db[n.toNat].rows := by rw [rowsAt, List.getElem?_eq_getElem hlt2]
  rw [hca, hra]
  cases h5 : whereF w s[n.toNat].cols.length
  · rw [h5] at c3
    repeat' first|refine yaG ?_|((first|apply yG|apply yH|apply yI);exact rfl;(first|exact yX (enc := encTable) rfl rfl hn hlt rfl))|refine yaC (c1) ?_|refine yaC (c2) ?_|refine yaC (c3) ?_|(exfalso;omega)|(refine yaS ?_ ?_<;>intro _)
    exact .ret rfl newNo
  rw [h5] at c3
  repeat' first|refine yaG ?_|((first|apply yG|apply yH|apply yI);exact rfl;(first|exact yX (enc := encTable) rfl rfl hn hlt rfl|exact yX (enc := encData) rfl rfl hn hlt2 rfl))|refine yaC (c1) ?_|refine yaC (c2) ?_|refine yaC (c3) ?_|(exfalso;omega)|(refine yaS ?_ ?_<;>intro _)
  have hbd := hdb _ (List.getElem_mem hlt2)
  refine Go.call _ rfl rfl rfl (matching_ok db[n.toNat].rows w (by omega) (fun r hr => (hbd.2 r hr).1) hw _) ?_
  intro r τ hq
  obtain ⟨x, rfl, g, hh⟩ := new2_open (.bool _) hq
  repeat' first|refine yaG ?_|(exfalso;omega)|(refine yaS ?_ ?_<;>intro _)
  exact .ret rfl (newPair (.bool _) ⟨(Gr.start σ).trans g, .c hh⟩)
theorem whereF_some {w : List Tok} {n : Int} (h : whereF w n = true) (h0 : 0 < w.length) : exprF w n = true := by
  rw [whereF, beq_eq_false_iff_ne.2 (by omega), Bool.false_or] at h
  exact h
end Go.Proofs.YtinbdedlmkjokaaGreat.Am

/- Keys of rows; rows that have a key. -/
set_option linter.unusedVariables false
set_option linter.unusedSimpArgs false
namespace Go.Proofs.YtinbdedlmkjokaaGreat.Am

def valAt (vals : List Val) (c : Int) : Val := vals[c.toNat]?.getD vNull
def keyF (cols : List Int) (vals : List Val) : List Val := cols.map (valAt vals)
def wholeF (cols : List Int) (vals : List Val) : Bool := cols.all fun c => !((valAt vals c).k == 0)
def InR (cols : List Int) (n : Nat) : Prop := ∀ c ∈ cols, 0 ≤ c ∧ c < n
theorem valAt_eq {vals : List Val} {c : Int} (h : c.toNat < vals.length) : valAt vals c = vals[c.toNat] := by rw [valAt, List.getElem?_eq_getElem h]; rfl
theorem keyF_len (cols : List Int) (vals : List Val) : (keyF cols vals).length = cols.length := List.length_map _
theorem keyF_take {cols : List Int} {vals : List Val} {i : Nat} (h : i < cols.length) : keyF (cols.take (i + 1)) vals = keyF (cols.take i) vals ++ [valAt vals cols[i]] := by
  rw [List.take_succ_eq_append_getElem h, keyF, List.map_append]; rfl
theorem wholeF_take {cols : List Int} {vals : List Val} {i : Nat} (h : i < cols.length) : wholeF (cols.take (i + 1)) vals = (wholeF (cols.take i) vals && !((valAt vals cols[i]).k == 0)) := by
  rw [List.take_succ_eq_append_getElem h, wholeF, List.all_append, wholeF, List.all_cons, List.all_nil, Bool.and_true]
theorem keyOf_new (cols : List Int) (vals : List Val) (hx : cols.length ≤ 34359738368) (hi : InR cols vals.length) (σ : Store) : Ok Tryz.prog 80 [.c (.fz (cols.map encI)), .c (.fz (vals.map encV))] σ (NewV σ (.tup [.c (.fz ((keyF cols vals).map encV)), .c (.bool (wholeF cols vals))])) := by
  refine Ok.run mixed c_impl_keyOf_ok (Nat.le_of_ble_eq_true rfl) fun hS hA => ?_
  clear hS hA
  repeat' first|refine yaG ?_|(exfalso;omega)|(refine yaS ?_ ?_<;>intro _)
  refine Go.keep [1, 6, 7, 11, 12, 13] (Go.loops (I := fun m fr τ => ∃ (i : Nat) (k : Int) (v : Nat) (junk : List (List Ce)) (ks : List Val) (b : Bool), m = cols.length - i ∧ i ≤ cols.length ∧ k = i ∧ Jk 3 junk ∧ (ks = keyF (cols.take i) vals ∧ b = wholeF (cols.take i) vals) ∧
    fr = [(1, .c (.fz (vals.map encV))), (6, .c (vec (σ.next + 0) v (ks.map encV) junk)), (7, .c (.bool b)), (11, .c (.fz (cols.map encI))), (12, .c (.int .i64 (cols.length : Int))), (13, .c (.int .i64 k))] ∧ τ = E σ [(v, ks.map encV ++ junk)]) ?_ _ _ _ ⟨0, _, 0, [], [], true, rfl, Nat.zero_le _, rfl, Jk.nil, ⟨rfl, rfl⟩, rfl, rfl⟩)
  rintro m fr τ ⟨i, k, v, junk, ks, b, rfl, hile, hk, hj, ⟨hks, hb⟩, rfl, rfl⟩ hrec
  by_cases hlt : i < cols.length
  · obtain ⟨q1, q2⟩ := hi _ (List.getElem_mem hlt)
    have hc : cols[i] = (cols[i].toNat : Int) := by omega
    have hcl : cols[i].toNat < vals.length := by omega
    have hv := valAt_eq hcl
    have hkl : (ks.map encV).length = i := by rw [List.length_map, hks, keyF_len, List.length_take]; omega
    have hbd : ((ks.map encV).length + 1) * 32 ≤ 140737488355328 := by omega
    have e1 : ks.map encV ++ [encV vals[cols[i].toNat]] = (ks ++ [vals[cols[i].toNat]]).map encV := by simp
    have hk2 : ks ++ [vals[cols[i].toNat]] = keyF (cols.take (i + 1)) vals := by rw [keyF_take hlt, ← hks, hv]
    have hw2 := wholeF_take (vals := vals) hlt
    rw [← hb, hv] at hw2
    cases b
    · repeat' first|refine yaG ?_|((first|apply yG|apply yH|apply yI);exact rfl;(first|exact yX (enc := encI) rfl rfl hk hlt rfl|exact yX (enc := encV) rfl rfl hc hcl rfl))|(apply Go.app1;exact rfl;exact rfl;exact rfl;exact rfl;exact rfl;exact lens;exact hj;exact rfl;exact hbd;intro v' junk' hj')|(exfalso;omega)|(refine yaS ?_ ?_<;>intro _)
      refine Go.keep [1, 6, 7, 11, 12, 13] (hrec _ _ _ (by omega) ⟨i + 1, _, v', junk', ks ++ [vals[cols[i].toNat]], _, rfl, hlt, wrap_succ hk (by omega), hj', ⟨hk2, hw2.symm⟩, ?_, ?_⟩)
      · rw [← e1]; rfl
      · rw [← e1]; rfl
    · repeat' first|refine yaG ?_|((first|apply yG|apply yH|apply yI);exact rfl;(first|exact yX (enc := encI) rfl rfl hk hlt rfl|exact yX (enc := encV) rfl rfl hc hcl rfl))|(apply Go.app1;exact rfl;exact rfl;exact rfl;exact rfl;exact rfl;exact lens;exact hj;exact rfl;exact hbd;intro v' junk' hj')|(exfalso;omega)|(refine yaS ?_ ?_<;>intro _)
      refine Go.keep [1, 6, 7, 11, 12, 13] (hrec _ _ _ (by omega) ⟨i + 1, _, v', junk', ks ++ [vals[cols[i].toNat]], vals[cols[i].toNat].k != 0, rfl, hlt, wrap_succ hk (by omega), hj', ⟨hk2, hw2.symm⟩, ?_, ?_⟩)
      · rw [← e1]; rfl
      · rw [← e1]; rfl
  · repeat' first|refine yaG ?_|(exfalso;omega)|(refine yaS ?_ ?_<;>intro _)
    refine .ret rfl ?_
    rw [List.take_of_length_le (by omega)] at hks hb
    rw [← hks, ← hb]
    exact newPair (.bool _) (newVec clean_append hj)
theorem keyOf_ok (cols : List Int) (vals : List Val) (hx : cols.length ≤ 34359738368) (hi : InR cols vals.length) : Pure Tryz.prog 80 [.c (.fz (cols.map encI)), .c (.fz (vals.map encV))] (.tup [.c (.fz ((keyF cols vals).map encV)), .c (.bool (wholeF cols vals))]) := NewV.pure (keyOf_new cols vals hx hi)
theorem l4Key_new (cols : List Int) (vals : List Val) (hx : cols.length ≤ 34359738368) (hi : InR cols vals.length) (σ : Store) : Ok Tryz.prog 304 [.c (.fz (cols.map encI)), .c (.fz (vals.map encV))] σ (NewV σ (.tup [.c (.fz ((keyF cols vals).map encV)), .c (.bool (wholeF cols vals))])) := by
  refine Ok.run mixed c_spec_l4Key_ok (Nat.le_of_ble_eq_true rfl) fun hS hA => ?_
  clear hS hA
  repeat' first|refine yaG ?_|(exfalso;omega)|(refine yaS ?_ ?_<;>intro _)
  refine Go.keep [0, 1, 6, 7, 8] (Go.loops (I := fun m fr τ => ∃ (i : Nat) (k : Int) (v : Nat) (junk : List (List Ce)) (ks : List Val) (b : Bool), m = cols.length - i ∧ i ≤ cols.length ∧ k = i ∧ Jk 3 junk ∧ (ks = keyF (cols.take i) vals ∧ b = wholeF (cols.take i) vals) ∧
    fr = [(0, .c (.fz (cols.map encI))), (1, .c (.fz (vals.map encV))), (6, .c (vec (σ.next + 0) v (ks.map encV) junk)), (7, .c (.bool b)), (8, .c (.int .i64 k))] ∧ τ = E σ [(v, ks.map encV ++ junk)]) ?_ _ _ _ ⟨0, _, 0, [], [], true, rfl, Nat.zero_le _, rfl, Jk.nil, ⟨rfl, rfl⟩, rfl, rfl⟩)
  rintro m fr τ ⟨i, k, v, junk, ks, b, rfl, hile, hk, hj, ⟨hks, hb⟩, rfl, rfl⟩ hrec
  by_cases hlt : i < cols.length
  · obtain ⟨q1, q2⟩ := hi _ (List.getElem_mem hlt)
    have hc : cols[i] = (cols[i].toNat : Int) := by omega
    have hcl : cols[i].toNat < vals.length := by omega
    have hv := valAt_eq hcl
    have hkl : (ks.map encV).length = i := by rw [List.length_map, hks, keyF_len, List.length_take]; omega
    have hbd : ((ks.map encV).length + 1) * 32 ≤ 140737488355328 := by omega
    have e1 : ks.map encV ++ [encV vals[cols[i].toNat]] = (ks ++ [vals[cols[i].toNat]]).map encV := by simp
    have hk2 : ks ++ [vals[cols[i].toNat]] = keyF (cols.take (i + 1)) vals := by rw [keyF_take hlt, ← hks, hv]
    have hw2 := wholeF_take (vals := vals) hlt
    rw [← hb, hv] at hw2
    cases b
    · repeat' first|refine yaG ?_|((first|apply yG|apply yH|apply yI);exact rfl;(first|exact yX (enc := encI) rfl rfl hk hlt rfl|exact yX (enc := encV) rfl rfl hc hcl rfl))|(apply Go.app1;exact rfl;exact rfl;exact rfl;exact rfl;exact rfl;exact lens;exact hj;exact rfl;exact hbd;intro v' junk' hj')|(exfalso;omega)|(refine yaS ?_ ?_<;>intro _)
      refine Go.keep [0, 1, 6, 7, 8] (hrec _ _ _ (by omega) ⟨i + 1, _, v', junk', ks ++ [vals[cols[i].toNat]], _, rfl, hlt, wrap_succ hk (by omega), hj', ⟨hk2, hw2.symm⟩, ?_, ?_⟩)
      · rw [← e1]; rfl
      · rw [← e1]; rfl
    · repeat' first|refine yaG ?_|((first|apply yG|apply yH|apply yI);exact rfl;(first|exact yX (enc := encI) rfl rfl hk hlt rfl|exact yX (enc := encV) rfl rfl hc hcl rfl))|(apply Go.app1;exact rfl;exact rfl;exact rfl;exact rfl;exact rfl;exact lens;exact hj;exact rfl;exact hbd;intro v' junk' hj')|(exfalso;omega)|(refine yaS ?_ ?_<;>intro _)
      refine Go.keep [0, 1, 6, 7, 8] (hrec _ _ _ (by omega) ⟨i + 1, _, v', junk', ks ++ [vals[cols[i].toNat]], vals[cols[i].toNat].k != 0, rfl, hlt, wrap_succ hk (by omega), hj', ⟨hk2, hw2.symm⟩, ?_, ?_⟩)
      · rw [← e1]; rfl
      · rw [← e1]; rfl
  · repeat' first|refine yaG ?_|(exfalso;omega)|(refine yaS ?_ ?_<;>intro _)
    refine .ret rfl ?_
    rw [List.take_of_length_le (by omega)] at hks hb
    rw [← hks, ← hb]
    exact newPair (.bool _) (newVec clean_append hj)
theorem l4Key_ok (cols : List Int) (vals : List Val) (hx : cols.length ≤ 34359738368) (hi : InR cols vals.length) : Pure Tryz.prog 304 [.c (.fz (cols.map encI)), .c (.fz (vals.map encV))] (.tup [.c (.fz ((keyF cols vals).map encV)), .c (.bool (wholeF cols vals))]) := NewV.pure (l4Key_new cols vals hx hi)
end Go.Proofs.YtinbdedlmkjokaaGreat.Am

/- Rows that have a key. -/
set_option linter.unusedVariables false
set_option linter.unusedSimpArgs false
namespace Go.Proofs.YtinbdedlmkjokaaGreat.Am

def hasB (cols : List Int) (key vals : List Val) : Bool := wholeF cols vals && (keyF cols vals == key)
def foundF (rows : List RowD) (cols : List Int) (key : List Val) : List Int := (rows.filter fun r => hasB cols key r.vals).map (·.id)
theorem foundF_take {rows : List RowD} {cols : List Int} {key : List Val} {i : Nat} (h : i < rows.length) : foundF (rows.take (i + 1)) cols key = foundF (rows.take i) cols key ++ if hasB cols key rows[i].vals then [rows[i].id] else [] := by
  rw [foundF, List.take_succ_eq_append_getElem h, List.filter_append, List.map_append, foundF]
  congr 1
  rw [List.filter_cons, List.filter_nil]
  split <;> rfl
theorem foundF_len {rows : List RowD} {cols : List Int} {key : List Val} : (foundF rows cols key).length ≤ rows.length := by rw [foundF, List.length_map]; exact List.length_filter_le _ _
theorem l4Find_ok (d : Data) (cols : List Int) (key : List Val) (hr : d.rows.length ≤ 1048576) (hx : cols.length ≤ 34359738368) (hi : ∀ r ∈ d.rows, InR cols r.vals.length) : Pure Tryz.prog 307 [.agg (encData d), .c (.fz (cols.map encI)), .c (.fz (key.map encV))] (.c (.fz ((foundF d.rows cols key).map encI))) := by
  refine NewV.pure fun σ => Ok.run mixed c_spec_l4Find_ok (Nat.le_of_ble_eq_true rfl) fun hS hA => ?_
  clear hS hA
  repeat' first|refine yaG ?_|(exfalso;omega)|(refine yaS ?_ ?_<;>intro _)
  refine Go.keep [1, 2, 3, 7, 8] (Go.loops (I := fun m fr τ => ∃ (i : Nat) (k : Int) (v : Nat) (junk : List (List Ce)) (ids : List Int), m = d.rows.length - i ∧ i ≤ d.rows.length ∧ k = i ∧ Jk 1 junk ∧ ids = foundF (d.rows.take i) cols key ∧
    fr = [(1, .c (.fz (cols.map encI))), (2, .c (.fz (key.map encV))), (3, .c (.fp (encData d))), (7, .c (vec (σ.next + 0) v (ids.map encI) junk)), (8, .c (.int .i64 k))] ∧ τ = E σ [(v, ids.map encI ++ junk)]) ?_ _ _ _ ⟨0, _, 0, [], [], rfl, Nat.zero_le _, rfl, Jk.nil, rfl, rfl, rfl⟩)
  rintro m fr τ ⟨i, k, v, junk, ids, rfl, hile, hk, hj, hids, rfl, rfl⟩ hrec
  by_cases hlt : i < d.rows.length
  · have c1 := l4Key_ok cols d.rows[i].vals hx (hi _ (List.getElem_mem hlt))
    have c2 := l1SameVals_ok (keyF cols d.rows[i].vals) key (by rw [keyF_len]; exact hx)
    have hn := foundF_take (cols := cols) (key := key) hlt
    rw [← hids, hasB] at hn
    have hl : (ids.map encI).length ≤ 1048576 := by rw [List.length_map, hids]; have := foundF_len (rows := d.rows.take i) (cols := cols) (key := key); rw [List.length_take] at this; omega
    have hbd : ((ids.map encI).length + 1) * 8 ≤ 140737488355328 := by omega
    have hz1 : ∀ e ∈ ids.map encI, e.length = 1 := fun e he => (flatIs e he).1
    have e1 : ids.map encI ++ [encI d.rows[i].id] = (ids ++ [d.rows[i].id]).map encI := by simp
    clear hi
    generalize keyF cols d.rows[i].vals = ks at c1 c2 hn
    generalize (ks == key) = q at c2 hn
    cases hb : wholeF cols d.rows[i].vals
    · rw [hb] at c1 hn
      rw [Bool.false_and, if_neg Bool.false_ne_true, List.append_nil] at hn
      repeat' first|refine yaG ?_|((first|apply yG|apply yH|apply yI);exact rfl;(first|exact yX (enc := encRowD) rfl rfl hk hlt rfl))|refine yaC (c1) ?_|(exfalso;omega)|(refine yaS ?_ ?_<;>intro _)
      exact Go.keep [1, 2, 3, 7, 8] (hrec _ _ _ (by omega) ⟨i + 1, _, v, junk, ids, rfl, hlt, wrap_succ hk (by omega), hj, hn.symm, rfl, rfl⟩)
    · cases q
      · rw [hb] at c1 hn
        rw [Bool.and_false, if_neg Bool.false_ne_true, List.append_nil] at hn
        repeat' first|refine yaG ?_|((first|apply yG|apply yH|apply yI);exact rfl;(first|exact yX (enc := encRowD) rfl rfl hk hlt rfl))|refine yaC (c1) ?_|refine yaC (c2) ?_|(exfalso;omega)|(refine yaS ?_ ?_<;>intro _)
        exact Go.keep [1, 2, 3, 7, 8] (hrec _ _ _ (by omega) ⟨i + 1, _, v, junk, ids, rfl, hlt, wrap_succ hk (by omega), hj, hn.symm, rfl, rfl⟩)
      · rw [hb] at c1 hn
        rw [Bool.and_true, if_pos rfl] at hn
        repeat' first|refine yaG ?_|((first|apply yG|apply yH|apply yI);exact rfl;(first|exact yX (enc := encRowD) rfl rfl hk hlt rfl))|(apply Go.app1;exact rfl;exact rfl;exact rfl;exact rfl;exact rfl;exact hz1;exact hj;exact rfl;exact hbd;intro v' junk' hj')|refine yaC (c1) ?_|refine yaC (c2) ?_|(exfalso;omega)|(refine yaS ?_ ?_<;>intro _)
        refine Go.keep [1, 2, 3, 7, 8] (hrec _ _ _ (by omega) ⟨i + 1, _, v', junk', ids ++ [d.rows[i].id], rfl, hlt, wrap_succ hk (by omega), hj', hn.symm, ?_, ?_⟩)
        · rw [← e1]; rfl
        · rw [← e1]; rfl
  · repeat' first|refine yaG ?_|(exfalso;omega)|(refine yaS ?_ ?_<;>intro _)
    refine .ret rfl ?_
    rw [List.take_of_length_le (by omega)] at hids
    rw [← hids]
    exact newVec flatIs hj
end Go.Proofs.YtinbdedlmkjokaaGreat.Am

/- Rows' nulls and checks. -/
set_option linter.unusedVariables false
set_option linter.unusedSimpArgs false
namespace Go.Proofs.YtinbdedlmkjokaaGreat.Am

structure TabOk (t : Table) : Prop where
  cols0 : 1 ≤ t.cols.length
  cols8 : t.cols.length ≤ 8
  key : InR t.key t.cols.length
  uniq : ∀ u ∈ t.uniques, InR u.cols t.cols.length
  chk : ∀ c ∈ t.checks, exprF c.expr t.cols.length = true
  fk : ∀ f ∈ t.fks, InR f.cols t.cols.length
  uniq3 : t.uniques.length ≤ 3
  chk3 : t.checks.length ≤ 3
  fk3 : t.fks.length ≤ 3
theorem tableF_facts {t : Table} (h : tableF t = true) : TabOk t := by
  simp only [tableF, Bool.and_eq_true, decide_eq_true_eq, Bool.not_eq_true', List.any_eq_false, Bool.not_eq_false', Bool.not_eq_true] at h
  obtain ⟨h1, h2, h3, h4, h5, h6, h7, h8, h9, h10⟩ := h
  have hc := areColsF_len h2
  exact ⟨hc.1, hc.2, colsF_in h3, fun u hu => colsF_in (by simpa using h8 u hu), fun c hc => by simpa using h9 c hc, fun f hf => by
    have : isFkF f t.cols.length = true := by simpa using h10 f hf
    simp only [isFkF, Bool.and_eq_true] at this
    exact colsF_in this.1, by omega, by omega, by omega⟩
theorem schemaF_tab {s : List Table} (h : schemaF s = true) : ∀ t ∈ s, TabOk t := fun t ht => by
  simp only [schemaF, Bool.and_eq_true] at h
  exact tableF_facts (namesAux_ok h.2.1 t ht)
def nullAux (t : Table) : Nat → List Val → Bool
  | _, [] => false
  | i, v :: l => (notNullAt t i && v.k == 0) || nullAux t (i + 1) l
theorem l4Nulls_ok (t : Table) (vals : List Val) (hl : vals.length = t.cols.length) (hc : t.cols.length ≤ 8) : Pure Tryz.prog 295 [.agg (encTable t), .c (.fz (vals.map encV))] (.c (.bool (!nullAux t 0 vals))) := by
  refine Pure.run mixed c_spec_l4Nulls_ok (Nat.le_of_ble_eq_true rfl) fun σ hS hA => ?_
  clear hS hA
  repeat' first|refine yaG ?_|(exfalso;omega)|(refine yaS ?_ ?_<;>intro _)
  refine Go.keep [1, 2, 5] (Go.loops (I := fun m fr τ => ∃ (i : Nat) (k : Int), m = vals.length - i ∧ i ≤ vals.length ∧ k = i ∧ nullAux t 0 vals = nullAux t i (vals.drop i) ∧
    fr = [(1, .c (.fz (vals.map encV))), (2, .c (.fp (encTable t))), (5, .c (.int .i64 k))] ∧ τ = E σ []) ?_ _ _ _ ⟨0, _, rfl, Nat.zero_le _, rfl, rfl, rfl, rfl⟩)
  rintro m fr τ ⟨i, k, rfl, hi, hk, hs, rfl, rfl⟩ hrec
  by_cases hlt : i < vals.length
  · have hlc : i < t.cols.length := by omega
    have hnn : notNullAt t i = t.cols[i].notNull := by rw [notNullAt, Int.toNat_natCast, List.getElem?_eq_getElem hlc]
    rw [List.drop_eq_getElem_cons hlt, nullAux, hnn] at hs
    cases hb : t.cols[i].notNull
    · rw [hb, Bool.false_and, Bool.false_or] at hs
      repeat' first|refine yaG ?_|((first|apply yG|apply yH|apply yI);exact rfl;(first|exact yX (enc := encV) rfl rfl hk hlt rfl|exact yX (enc := encCol) rfl rfl hk hlc rfl))|(exfalso;omega)|(refine yaS ?_ ?_<;>intro _)
      all_goals first
        | exact Go.keep [1, 2, 5] (hrec _ _ _ (by omega) ⟨i + 1, _, rfl, hlt, wrap_succ hk (by omega), hs, rfl, rfl⟩)
        | (exfalso; simp_all; done)
    · by_cases h0 : vals[i].k = 0
      · rw [hb, h0] at hs
        repeat' first|refine yaG ?_|((first|apply yG|apply yH|apply yI);exact rfl;(first|exact yX (enc := encV) rfl rfl hk hlt rfl|exact yX (enc := encCol) rfl rfl hk hlc rfl))|(exfalso;omega)|(refine yaS ?_ ?_<;>intro _)
        all_goals first
          | exact .ret rfl (.bool (by rw [hs]; rfl))
          | (exfalso; simp_all; done)
      · rw [hb, beq_eq_false_iff_ne.2 h0, Bool.and_false, Bool.false_or] at hs
        repeat' first|refine yaG ?_|((first|apply yG|apply yH|apply yI);exact rfl;(first|exact yX (enc := encV) rfl rfl hk hlt rfl|exact yX (enc := encCol) rfl rfl hk hlc rfl))|(exfalso;omega)|(refine yaS ?_ ?_<;>intro _)
        all_goals first
          | exact Go.keep [1, 2, 5] (hrec _ _ _ (by omega) ⟨i + 1, _, rfl, hlt, wrap_succ hk (by omega), hs, rfl, rfl⟩)
          | (exfalso; simp_all; done)
  · repeat' first|refine yaG ?_|(exfalso;omega)|(refine yaS ?_ ?_<;>intro _)
    rw [List.drop_eq_nil_of_le (by omega), nullAux] at hs
    exact .ret rfl (.bool (by rw [hs]; rfl))
def checkBad (vals : List Val) (x : Chk) : Bool := decide (truthI x.expr vals < 1)
theorem l4Checks_ok (t : Table) (vals : List Val) (hn : t.checks.length ≤ 3) (hx : ∀ c ∈ t.checks, exprF c.expr vals.length = true) (hv : areVals vals 16 = true) : Pure Tryz.prog 296 [.agg (encTable t), .c (.fz (vals.map encV))] (.c (.bool (!(t.checks.any (checkBad vals))))) := by
  refine Pure.run mixed c_spec_l4Checks_ok (Nat.le_of_ble_eq_true rfl) fun σ hS hA => ?_
  clear hS hA
  repeat' first|refine yaG ?_|(exfalso;omega)|(refine yaS ?_ ?_<;>intro _)
  refine Go.keep [1, 2, 5] (Go.loops (I := fun m fr τ => ∃ (i : Nat) (k : Int), m = t.checks.length - i ∧ i ≤ t.checks.length ∧ k = i ∧ t.checks.any (checkBad vals) = (t.checks.drop i).any (checkBad vals) ∧
    fr = [(1, .c (.fz (vals.map encV))), (2, .c (.fp (encTable t))), (5, .c (.int .i64 k))] ∧ τ = E σ []) ?_ _ _ _ ⟨0, _, rfl, Nat.zero_le _, rfl, rfl, rfl, rfl⟩)
  rintro m fr τ ⟨i, k, rfl, hi, hk, hs, rfl, rfl⟩ hrec
  by_cases hlt : i < t.checks.length
  · have hex := hx _ (List.getElem_mem hlt)
    have c1 := l2Truth_ok t.checks[i].expr vals hv hex
    have hTT : truthI t.checks[i].expr vals = truthR t.checks[i].expr vals := by rw [truthI, evalOk, hv, hex]; rfl
    rw [List.drop_eq_getElem_cons hlt, List.any_cons, checkBad, hTT] at hs
    generalize truthR t.checks[i].expr vals = T at c1 hs
    by_cases h1 : T < 1
    · rw [decide_eq_true h1, Bool.true_or] at hs
      repeat' first|refine yaG ?_|((first|apply yG|apply yH|apply yI);exact rfl;(first|exact yX (enc := encChk) rfl rfl hk hlt rfl))|refine yaC (c1) ?_|(exfalso;omega)|(refine yaS ?_ ?_<;>intro _)
      all_goals first
        | exact .ret rfl (.bool (by rw [hs]; rfl))
        | (exfalso; omega)
    · rw [decide_eq_false h1, Bool.false_or] at hs
      repeat' first|refine yaG ?_|((first|apply yG|apply yH|apply yI);exact rfl;(first|exact yX (enc := encChk) rfl rfl hk hlt rfl))|refine yaC (c1) ?_|(exfalso;omega)|(refine yaS ?_ ?_<;>intro _)
      all_goals first
        | exact Go.keep [1, 2, 5] (hrec _ _ _ (by omega) ⟨i + 1, _, rfl, hlt, wrap_succ hk (by omega), hs, rfl, rfl⟩)
        | (exfalso; omega)
  · repeat' first|refine yaG ?_|(exfalso;omega)|(refine yaS ?_ ?_<;>intro _)
    rw [List.drop_eq_nil_of_le (by omega), List.any_nil] at hs
    exact .ret rfl (.bool (by rw [hs]; rfl))
end Go.Proofs.YtinbdedlmkjokaaGreat.Am

/- Rivals: rows with the same key. -/
set_option linter.unusedVariables false
set_option linter.unusedSimpArgs false
namespace Go.Proofs.YtinbdedlmkjokaaGreat.Am

theorem frz_old {σ : Store} {l : List (Nat × List (List Ce))} {k v N : Nat} {ys junk : List (List Ce)} (hl : l[k]? = some (v, ys ++ junk)) (ho : ∀ e ∈ ys, ∀ x ∈ e, Old N x) (hN : N ≤ σ.next + k) : FrzV (E σ l) N (.c (vec (σ.next + k) v ys junk)) (.c (.fz ys)) := by
  refine .c (.sl _ _ _ _ _ (ys ++ junk) ys hN (by rw [E_at]; exact hl) (by simp) rfl (fun i hi => ?_) (fun i j hi hj => ?_))
  · simp only [Nat.zero_add]
    rw [List.getElem_append_left hi]
  · have e : (ys ++ junk)[0 + i]'(by simp; omega) = ys[i] := by
      simp only [Nat.zero_add]
      rw [List.getElem_append_left hi]
    simp only [e]
    exact .same _ (ho _ (List.getElem_mem _) _ (List.getElem_mem hj))
def keysOf (t : Table) : List (List Int) := t.key :: t.uniques.map (·.cols)
def twiceF (rows : List RowD) (r : RowD) (cols : List Int) : Bool := wholeF cols r.vals && (foundF rows cols (keyF cols r.vals)).any fun id => !(id == r.id)
theorem l5Twice_ok (d : Data) (cols : List Int) (r : RowD) (hr : d.rows.length ≤ 1048576) (hx : cols.length ≤ 34359738368) (hv : InR cols r.vals.length) (hi : ∀ q ∈ d.rows, InR cols q.vals.length) : Pure Tryz.prog 308 [.agg (encData d), .c (.fz (cols.map encI)), .agg (encRowD r)] (.c (.bool (twiceF d.rows r cols))) := by
  refine Pure.run mixed c_spec_l5Twice_ok (Nat.le_of_ble_eq_true rfl) fun σ hS hA => ?_
  clear hS hA
  have c1 := l4Key_ok cols r.vals hx hv
  have c2 := l4Find_ok d cols (keyF cols r.vals) hr hx hi
  have hl := foundF_len (rows := d.rows) (cols := cols) (key := keyF cols r.vals)
  rw [twiceF]
  generalize foundF d.rows cols (keyF cols r.vals) = ids at c2 hl ⊢
  generalize keyF cols r.vals = ks at c1 c2
  cases hw : wholeF cols r.vals
  · rw [hw] at c1
    repeat' first|refine yaG ?_|refine yaC (c1) ?_|(exfalso;omega)|(refine yaS ?_ ?_<;>intro _)
    exact .ret rfl (.bool rfl)
  rw [hw] at c1
  rw [Bool.true_and]
  repeat' first|refine yaG ?_|refine yaC (c1) ?_|refine yaC (c2) ?_|(exfalso;omega)|(refine yaS ?_ ?_<;>intro _)
  refine Go.keep [5, 9, 10] (Go.loops (I := fun m fr τ => ∃ (i : Nat) (k : Int), m = ids.length - i ∧ i ≤ ids.length ∧ k = i ∧ (ids.any fun id => !(id == r.id)) = ((ids.drop i).any fun id => !(id == r.id)) ∧
    fr = [(5, .c (.fp (encRowD r))), (9, .c (.fz (ids.map encI))), (10, .c (.int .i64 k))] ∧ τ = E σ []) ?_ _ _ _ ⟨0, _, rfl, Nat.zero_le _, rfl, rfl, rfl, rfl⟩)
  rintro m fr τ ⟨i, k, rfl, hile, hk, hs, rfl, rfl⟩ hrec
  by_cases hlt : i < ids.length
  · rw [List.drop_eq_getElem_cons hlt, List.any_cons] at hs
    by_cases h0 : ids[i] = r.id
    · rw [beq_iff_eq.2 h0, Bool.not_true, Bool.false_or] at hs
      repeat' first|refine yaG ?_|((first|apply yG|apply yH|apply yI);exact rfl;(first|exact yX (enc := encI) rfl rfl hk hlt rfl))|(exfalso;omega)|(refine yaS ?_ ?_<;>intro _)
      all_goals first
        | exact Go.keep [5, 9, 10] (hrec _ _ _ (by omega) ⟨i + 1, _, rfl, hlt, wrap_succ hk (by omega), hs, rfl, rfl⟩)
        | (exfalso; simp_all; done)
    · rw [beq_eq_false_iff_ne.2 h0, Bool.not_false, Bool.true_or] at hs
      repeat' first|refine yaG ?_|((first|apply yG|apply yH|apply yI);exact rfl;(first|exact yX (enc := encI) rfl rfl hk hlt rfl))|(exfalso;omega)|(refine yaS ?_ ?_<;>intro _)
      all_goals first
        | exact .ret rfl (.bool hs.symm)
        | (exfalso; simp_all; done)
  · repeat' first|refine yaG ?_|(exfalso;omega)|(refine yaS ?_ ?_<;>intro _)
    rw [List.drop_eq_nil_of_le (by omega), List.any_nil] at hs
    exact .ret rfl (.bool hs.symm)
theorem l5Unique_ok (t : Table) (d : Data) (r : RowD) (hr : d.rows.length ≤ 1048576) (hu : t.uniques.length ≤ 3) (hx : ∀ k ∈ keysOf t, k.length ≤ 34359738368) (hv : ∀ k ∈ keysOf t, InR k r.vals.length) (hi : ∀ k ∈ keysOf t, ∀ r ∈ d.rows, InR k r.vals.length) :
    Pure Tryz.prog 303 [.agg (encTable t), .agg (encData d), .agg (encRowD r)] (.c (.bool (!((keysOf t).any (twiceF d.rows r))))) := by
  refine Pure.run mixed c_spec_l5Unique_ok (Nat.le_of_ble_eq_true rfl) fun σ hS hA => ?_
  clear hS hA
  have hk0 : t.key ∈ keysOf t := by simp [keysOf]
  have c1 := l5Twice_ok d t.key r hr (hx _ hk0) (hv _ hk0) (hi _ hk0)
  rw [keysOf, List.any_cons, List.any_map]
  cases hb : twiceF d.rows r t.key
  · rw [hb] at c1
    rw [Bool.false_or]
    repeat' first|refine yaG ?_|refine yaC (c1) ?_|(exfalso;omega)|(refine yaS ?_ ?_<;>intro _)
    refine Go.keep [3, 4, 5, 7] (Go.loops (I := fun m fr τ => ∃ (i : Nat) (k : Int), m = t.uniques.length - i ∧ i ≤ t.uniques.length ∧ k = i ∧ (t.uniques.any (twiceF d.rows r ∘ (·.cols))) = ((t.uniques.drop i).any (twiceF d.rows r ∘ (·.cols))) ∧
      fr = [(3, .c (.fp (encTable t))), (4, .c (.fp (encData d))), (5, .c (.fp (encRowD r))), (7, .c (.int .i64 k))] ∧ τ = E σ []) ?_ _ _ _ ⟨0, _, rfl, Nat.zero_le _, rfl, rfl, rfl, rfl⟩)
    rintro m fr τ ⟨i, k, rfl, hile, hk, hs, rfl, rfl⟩ hrec
    by_cases hlt : i < t.uniques.length
    · have hki : t.uniques[i].cols ∈ keysOf t := by rw [keysOf]; exact List.mem_cons_of_mem _ (List.mem_map.2 ⟨_, List.getElem_mem hlt, rfl⟩)
      have c2 := l5Twice_ok d t.uniques[i].cols r hr (hx _ hki) (hv _ hki) (hi _ hki)
      rw [List.drop_eq_getElem_cons hlt, List.any_cons, Function.comp_apply] at hs
      cases hq : twiceF d.rows r t.uniques[i].cols
      · rw [hq] at c2 hs
        rw [Bool.false_or] at hs
        repeat' first|refine yaG ?_|((first|apply yG|apply yH|apply yI);exact rfl;(first|exact yX (enc := encUniq) rfl rfl hk hlt rfl))|refine yaC (c2) ?_|(exfalso;omega)|(refine yaS ?_ ?_<;>intro _)
        exact Go.keep [3, 4, 5, 7] (hrec _ _ _ (by omega) ⟨i + 1, _, rfl, hlt, wrap_succ hk (by omega), hs, rfl, rfl⟩)
      · rw [hq] at c2 hs
        rw [Bool.true_or] at hs
        repeat' first|refine yaG ?_|((first|apply yG|apply yH|apply yI);exact rfl;(first|exact yX (enc := encUniq) rfl rfl hk hlt rfl))|refine yaC (c2) ?_|(exfalso;omega)|(refine yaS ?_ ?_<;>intro _)
        exact .ret rfl (.bool (by rw [hs]; rfl))
    · repeat' first|refine yaG ?_|(exfalso;omega)|(refine yaS ?_ ?_<;>intro _)
      rw [List.drop_eq_nil_of_le (by omega), List.any_nil] at hs
      exact .ret rfl (.bool (by rw [hs]; rfl))
  · rw [hb] at c1
    repeat' first|refine yaG ?_|refine yaC (c1) ?_|(exfalso;omega)|(refine yaS ?_ ?_<;>intro _)
    exact .ret rfl (.bool rfl)
end Go.Proofs.YtinbdedlmkjokaaGreat.Am

/- References that lead nowhere. -/
set_option linter.unusedVariables false
set_option linter.unusedSimpArgs false
namespace Go.Proofs.YtinbdedlmkjokaaGreat.Am

def refAt (s : List Table) (f : Fk) : Int := idxA (fun u : Table => u.name == f.table) s 0
def keyAt (s : List Table) (n : Int) : List Int := match s[n.toNat]? with | some u => u.key | none => []
def lostF (s : List Table) (db : List Data) (f : Fk) (vals : List Val) : Bool := wholeF f.cols vals && (((foundF (rowsAt db (refAt s f)) (keyAt s (refAt s f)) (keyF f.cols vals)).length : Int) == 0)
structure FkR (s : List Table) (db : List Data) (vals : List Val) (f : Fk) (n : Nat) : Prop where
  lt : n < s.length
  lt2 : n < db.length
  idx : refAt s f = (n : Int)
  rows : db[n].rows.length ≤ 1048576
  key : s[n].key.length ≤ 34359738368
  cols : f.cols.length ≤ 34359738368
  own : InR f.cols vals.length
  far : ∀ r ∈ db[n].rows, InR s[n].key r.vals.length
theorem FkR.val {s : List Table} {db : List Data} {vals : List Val} {f : Fk} {n : Nat} (h : FkR s db vals f n) : lostF s db f vals = (wholeF f.cols vals && (((foundF (db[n]'h.lt2).rows (s[n]'h.lt).key (keyF f.cols vals)).length : Int) == 0)) := by
  rw [lostF, h.idx, rowsAt, keyAt, Int.toNat_natCast, List.getElem?_eq_getElem h.lt, List.getElem?_eq_getElem h.lt2]
theorem l5Parent_ok (s : List Table) (db : List Data) (f : Fk) (vals : List Val) (n : Nat) (hs : s.length ≤ 34359738368) (h : FkR s db vals f n) : Pure Tryz.prog 299 [.c (.fz (s.map encTable)), .c (.fz (db.map encData)), .agg (encFk f), .c (.fz (vals.map encV))] (.c (.bool (!lostF s db f vals))) := by
  refine Pure.run mixed c_spec_l5Parent_ok (Nat.le_of_ble_eq_true rfl) fun σ hS hA => ?_
  clear hS hA
  have c1 := l3At_ok s f.table hs
  have hidx : idxA (fun u : Table => u.name == f.table) s 0 = (n : Int) := h.idx
  rw [hidx] at c1
  have c2 := l4Key_ok f.cols vals h.cols h.own
  have hlt := h.lt
  have hlt2 := h.lt2
  have c3 := l4Find_ok db[n] s[n].key (keyF f.cols vals) h.rows h.key h.far
  rw [h.val]
  generalize foundF db[n].rows s[n].key (keyF f.cols vals) = ids at c3 ⊢
  generalize keyF f.cols vals = ks at c2 c3
  cases hw : wholeF f.cols vals
  · rw [hw] at c2
    repeat' first|refine yaG ?_|refine yaC (c1) ?_|refine yaC (c2) ?_|(exfalso;omega)|(refine yaS ?_ ?_<;>intro _)
    exact .ret rfl (.bool rfl)
  · rw [hw] at c2
    repeat' first|refine yaG ?_|((first|apply yG|apply yH|apply yI);exact rfl;(first|exact yX (enc := encTable) rfl rfl rfl hlt rfl|exact yX (enc := encData) rfl rfl rfl hlt2 rfl))|refine yaC (c1) ?_|refine yaC (c2) ?_|refine yaC (c3) ?_|(exfalso;omega)|(refine yaS ?_ ?_<;>intro _)
    refine .ret rfl (.bool ?_)
    rw [Bool.true_and]
    by_cases h0 : (ids.length : Int) = 0
    · rw [beq_iff_eq.2 h0]
      exact decide_eq_false (by omega)
    · rw [beq_eq_false_iff_ne.2 h0]
      exact decide_eq_true (by omega)
def lostBad (s : List Table) (db : List Data) (df : Bool) (vals : List Val) (f : Fk) : Bool := (df || !f.deferred) && lostF s db f vals
theorem l5Refers_ok (s : List Table) (db : List Data) (q : Int) (m : Nat) (vals : List Val) (now : Bool) (hs : s.length ≤ 34359738368) (hq : q = (m : Int)) (hm : m < s.length) (hn : s[m].fks.length ≤ 3) (h : ∀ f ∈ s[m].fks, ∃ n, FkR s db vals f n) : Pure Tryz.prog 283 [.c (.fz (s.map encTable)), .c (.fz (db.map encData)), .c (.int .i64 q), .c (.fz (vals.map encV)), .c (.bool now)] (.c (.bool (!(s[m].fks.any (lostBad s db (!now) vals))))) := by
  refine Pure.run mixed c_spec_l5Refers_ok (Nat.le_of_ble_eq_true rfl) fun σ hS hA => ?_
  clear hS hA
  repeat' first|refine yaG ?_|(exfalso;omega)|(refine yaS ?_ ?_<;>intro _)
  refine Go.keep [0, 1, 2, 3, 4, 11] (Go.loops (I := fun mm fr τ => ∃ (i : Nat) (k : Int), mm = s[m].fks.length - i ∧ i ≤ s[m].fks.length ∧ k = i ∧ s[m].fks.any (lostBad s db (!now) vals) = (s[m].fks.drop i).any (lostBad s db (!now) vals) ∧
    fr = [(0, .c (.fz (s.map encTable))), (1, .c (.fz (db.map encData))), (2, .c (.int .i64 q)), (3, .c (.fz (vals.map encV))), (4, .c (.bool now)), (11, .c (.int .i64 k))] ∧ τ = E σ []) ?_ _ _ _ ⟨0, _, rfl, Nat.zero_le _, rfl, rfl, rfl, rfl⟩)
  rintro mm fr τ ⟨i, k, rfl, hi, hk, hsq, rfl, rfl⟩ hrec
  by_cases hlt : i < s[m].fks.length
  · obtain ⟨n, hr⟩ := h _ (List.getElem_mem hlt)
    have c1 := l5Parent_ok s db s[m].fks[i] vals n hs hr
    rw [List.drop_eq_getElem_cons hlt, List.any_cons, lostBad] at hsq
    generalize lostF s db s[m].fks[i] vals = b at c1 hsq
    have skip : (s[m].fks.any (lostBad s db (!now) vals) = (s[m].fks.drop (i + 1)).any (lostBad s db (!now) vals)) → ∀ fr τ, fr = [(0, AV.c (.fz (s.map encTable))), (1, .c (.fz (db.map encData))), (2, .c (.int .i64 q)), (3, .c (.fz (vals.map encV))), (4, .c (.bool now)), (11, .c (.int .i64 (IntKind.i64.wrap (k + 1))))] → τ = E σ [] → _ := fun e fr τ h1 h2 => hrec (s[m].fks.length - (i + 1)) fr τ (by omega) ⟨i + 1, _, rfl, hlt, wrap_succ hk (by omega), e, h1, h2⟩
    clear hrec
    cases now <;> cases hd : s[m].fks[i].deferred <;> cases b
    all_goals
      repeat' first|refine yaG ?_|((first|apply yG|apply yH|apply yI);exact rfl;(first|exact yX (enc := encTable) rfl rfl hq hm rfl|exact yX (enc := encFk) rfl rfl hk hlt rfl))|refine yaC (c1) ?_|(exfalso;omega)|(refine yaS ?_ ?_<;>intro _)
      all_goals first
        | (refine Go.keep [0, 1, 2, 3, 4, 11] (skip ?_ _ _ rfl rfl); simp_all; done)
        | (refine .ret rfl (.bool ?_); simp_all; done)
        | (exfalso; simp_all; done)
  · repeat' first|refine yaG ?_|((first|apply yG|apply yH|apply yI);exact rfl;(first|exact yX (enc := encTable) rfl rfl hq hm rfl))|(exfalso;omega)|(refine yaS ?_ ?_<;>intro _)
    rw [List.drop_eq_nil_of_le (by omega), List.any_nil] at hsq
    exact .ret rfl (.bool (by rw [hsq]; rfl))
end Go.Proofs.YtinbdedlmkjokaaGreat.Am

/- Flaws: what is true of the rows of a database. -/
set_option linter.unusedVariables false
set_option linter.unusedSimpArgs false
namespace Go.Proofs.YtinbdedlmkjokaaGreat.Am

structure RowR (s : List Table) (db : List Data) (t : Table) (r : RowD) : Prop where
  len : r.vals.length = t.cols.length
  are : areVals r.vals 16 = true
  fks : ∀ f ∈ t.fks, ∃ n, FkR s db r.vals f n
structure TabR (s : List Table) (db : List Data) (t : Table) (d : Data) : Prop where
  tab : TabOk t
  rows : d.rows.length ≤ 60
  row : ∀ r ∈ d.rows, RowR s db t r
  keys : ∀ k ∈ keysOf t, k.length ≤ 34359738368
  inr : ∀ k ∈ keysOf t, InR k t.cols.length
  chk : ∀ c ∈ t.checks, c.expr.length ≤ 34359738368
theorem db_tab {s : List Table} {db : List Data} (h : dbF s db = true) (hb : ∀ t ∈ s, bTable 34359738368 t) {i : Nat} (hi : i < s.length) (hi2 : i < db.length) : TabR s db s[i] db[i] := by
  obtain ⟨hs, hl, hrows⟩ := dbF_at h
  have hT := schemaF_tab hs
  have hrow := rowsF_mem (hrows i hi hi2)
  have hti := hT _ (List.getElem_mem hi)
  have hbi := hb _ (List.getElem_mem hi)
  have hkey : ∀ k ∈ keysOf s[i], k.length ≤ 34359738368 ∧ InR k s[i].cols.length := fun k hk => by
    rw [keysOf] at hk
    rcases List.mem_cons.1 hk with rfl | hk
    · exact ⟨hbi.2.2.1, hti.key⟩
    · obtain ⟨u, hu, rfl⟩ := List.mem_map.1 hk
      exact ⟨hbi.2.2.2.1.2 u hu, hti.uniq u hu⟩
  refine ⟨hti, hrow.1, fun r hr => ?_, fun k hk => (hkey k hk).1, fun k hk => (hkey k hk).2, fun c hc => (hbi.2.2.2.2.1.2 c hc).1⟩
  have hfit := (hrow.2 r hr).1
  refine ⟨(fitF_vals hfit).1, fitF_are hfit hti.cols8, fun f hf => ?_⟩
  have hmet : metF s s[i] f = true := by
    simp only [schemaF, Bool.and_eq_true, Bool.not_eq_true', List.any_eq_false, Bool.not_eq_true, Bool.not_eq_false'] at hs
    simpa using hs.2.2 _ (List.getElem_mem hi) f hf
  simp only [metF, Bool.and_eq_true] at hmet
  rcases idxA_at (p := fun u : Table => u.name == f.table) (l := s) (i := 0) (Int.le_refl _) with hx | ⟨n, hn, hx, hp⟩
  · exfalso
    have := any_idx (p := fun u : Table => u.name == f.table) (l := s)
    rw [hx, hmet.1] at this
    exact absurd this (by decide)
  · have hn2 : n < db.length := by omega
    have htn := hT _ (List.getElem_mem hn)
    have hrn := rowsF_mem (hrows n hn hn2)
    exact ⟨n, hn, hn2, by rw [refAt, hx]; omega, by omega, (hb _ (List.getElem_mem hn)).2.2.1, (hbi.2.2.2.2.2.2 f hf).1, by rw [(fitF_vals hfit).1]; exact hti.fk f hf, fun q hq => by rw [(fitF_vals (hrn.2 q hq).1).1]; exact htn.key⟩
end Go.Proofs.YtinbdedlmkjokaaGreat.Am

/- Joined lines: rooms made, slices joined. -/
set_option linter.unusedVariables false
set_option linter.unusedSimpArgs false
namespace Go.Proofs.YtinbdedlmkjokaaGreat.Am

end Go.Proofs.YtinbdedlmkjokaaGreat.Am

/- Entries: copies of many, marks that are held. -/
set_option linter.unusedVariables false
set_option linter.unusedSimpArgs false
namespace Go.Proofs.YtinbdedlmkjokaaGreat.Am

end Go.Proofs.YtinbdedlmkjokaaGreat.Am

/- Joined lines: the walk of both packages' loops. -/
set_option linter.unusedVariables false
set_option linter.unusedSimpArgs false
namespace Go.Proofs.YtinbdedlmkjokaaGreat.Am

theorem line_owned {τ : Store} {S : Nat → Prop} {k : Ce} {xk : Ce} (h : Has τ S k xk) : HasL τ S [k] [xk] :=
  (HasL.two h (HasL.nil (S := fun _ => False)) (fun _ _ h => h)).mono fun a ha => ha.elim id (fun h => h.elim)
end Go.Proofs.YtinbdedlmkjokaaGreat.Am

/- Joined lines: the reference's; what the results are like; marks held. -/
set_option linter.unusedVariables false
set_option linter.unusedSimpArgs false
namespace Go.Proofs.YtinbdedlmkjokaaGreat.Am

theorem l1CopyVals_mk (xs : List Val) (hx : xs.length ≤ 34359738368) : Makes Tryz.prog 279 [.c (.fz (xs.map encV))] 3 (xs.map encV) := by
  refine Makes.run mixed c_spec_l1CopyVals_ok (Nat.le_of_ble_eq_true rfl) fun σ hS hA => ?_
  clear hS hA
  repeat' first|refine yaG ?_|(exfalso;omega)|(refine yaS ?_ ?_<;>intro _)
  refine Go.app (ys := []) (junk := []) (zs := xs.map encV) rfl rfl rfl rfl rfl (by simp) Jk.nil (fun e he => (clean_append e he).1) (by simp; omega) fun v junk hj => ?_
  repeat' first|refine yaG ?_|(exfalso;omega)|(refine yaS ?_ ?_<;>intro _)
  exact .ret rfl ⟨v, junk, hj, rfl, rfl⟩
end Go.Proofs.YtinbdedlmkjokaaGreat.Am

/- Rows whose numbers rise. -/
set_option linter.unusedVariables false
set_option linter.unusedSimpArgs false
namespace Go.Proofs.YtinbdedlmkjokaaGreat.Am

def Rise (l : List RowD) : Prop := l.Pairwise fun a b => a.id < b.id
theorem rowsAux_rise {t : Table} : ∀ {l : List RowD} {p : Option Int}, rowsAux t p l = true → Rise l ∧ ∀ q, p = some q → ∀ r ∈ l, q < r.id
  | [], p, _ => ⟨.nil, fun q _ r hr => by simp at hr⟩
  | a :: l, p, h => by
    rw [rowsAux, Bool.and_eq_true] at h
    obtain ⟨h1, h2⟩ := rowsAux_rise h.2
    have h3 := h2 a.id rfl
    refine ⟨List.pairwise_cons.2 ⟨h3, h1⟩, fun q hq r hr => ?_⟩
    subst hq
    have h4 : q < a.id := by
      have := h.1
      simp only [rowOne, risesId, Bool.and_eq_true, decide_eq_true_eq] at this
      exact this.2.1
    rcases List.mem_cons.1 hr with rfl | hr
    · exact h4
    · exact Int.lt_trans h4 (h3 r hr)
theorem rowsF_rise {t : Table} {l : List RowD} (h : rowsF t l = true) : Rise l := by
  rw [rowsF, Bool.and_eq_true] at h
  exact (rowsAux_rise h.1).1
end Go.Proofs.YtinbdedlmkjokaaGreat.Am

/- A row put in by the reference: parts. -/
set_option linter.unusedVariables false
set_option linter.unusedSimpArgs false
namespace Go.Proofs.YtinbdedlmkjokaaGreat.Am

theorem oldRows {n : Nat} (l : List RowD) : OldL n (l.map encRowD) := fun e he c hc => by
  obtain ⟨a, _, rfl⟩ := List.mem_map.1 he
  simp only [encRowD, List.mem_cons, List.not_mem_nil, or_false] at hc
  rcases hc with rfl | rfl
  · exact .int _ _
  · exact old_fz1 (oldL_flat flats)
theorem oldDatas {n : Nat} (l : List Data) : OldL n (l.map encData) := fun e he c hc => by
  obtain ⟨a, _, rfl⟩ := List.mem_map.1 he
  simp only [encData, List.mem_cons, List.not_mem_nil, or_false] at hc
  subst hc
  exact old_fz1 (oldRows _)
theorem rowD_len {l : List RowD} : ∀ e ∈ l.map encRowD, e.length = 2 := fun e he => by
  obtain ⟨a, _, rfl⟩ := List.mem_map.1 he
  rfl
theorem data_len {l : List Data} : ∀ e ∈ l.map encData, e.length = 1 := fun e he => by
  obtain ⟨a, _, rfl⟩ := List.mem_map.1 he
  rfl
theorem Go.stold {P : Program} {n0 nt : Nat} {rets : List RV} {R : AV → Store → Prop} {K : List AK} {fr : Fr} {σ : Store} {d : Option Nat} {f : Opd} {args : List Opd} {g : Option (Nat × Bool)} {rest : List (List AOper)} {n : Nat} {pre cap : List Ce} {vs : List AV} {Z : AV → Prop} (hw : wants fr g = some true) (hf : f.ev fr = some (.c (.fn n pre cap))) (ha : evs fr args = some vs)
    (hp : Told P n (pre.map .c ++ vs ++ cap.map .c) Z) (h : ∀ r, Z r → Go P n0 nt rets R (.segs rest :: K) (putA fr d r) σ) : Go P n0 nt rets R (.segs ([⟨d, .call f args, g⟩] :: rest) :: K) fr σ :=
  .scall _ hw hf ha (hp.at_ σ) (by rintro r' σ' ⟨hz, rfl⟩; exact h r' hz)
theorem l1CopyVals_pure (xs : List Val) (hx : xs.length ≤ 34359738368) : Pure Tryz.prog 279 [.c (.fz (xs.map encV))] (.c (.fz (xs.map encV))) :=
  NewV.pure fun σ => ((l1CopyVals_mk xs hx).at_ σ).mono fun r τ ⟨v, junk, hj, h1, h2⟩ => by
    subst h1 h2
    exact newVec clean_append hj
theorem l6Able_ok (t : Table) (vals : List Val) (hl : vals.length = t.cols.length) (hT : TabOk t) (hv : areVals vals 16 = true) : Told Tryz.prog 277 [.agg (encTable t), .c (.fz (vals.map encV))] AnyI := by
  refine Told.run mixed c_spec_l6Able_ok (Nat.le_of_ble_eq_true rfl) fun σ hS => ?_
  clear hS
  have c1 := l4Nulls_ok t vals hl hT.cols8
  have c2 := l4Checks_ok t vals hT.chk3 (fun c hc => by rw [hl]; exact hT.chk c hc) hv
  generalize (!nullAux t 0 vals) = B1 at c1
  generalize (!(t.checks.any (checkBad vals))) = B2 at c2
  cases B1
  · repeat' first|refine yaG ?_|refine yaC (c1) ?_|(exfalso;omega)|(refine yaS ?_ ?_<;>intro _)
    exact .ret rfl ⟨_, ⟨_, rfl⟩, .int rfl⟩
  cases B2
  · repeat' first|refine yaG ?_|refine yaC (c1) ?_|refine yaC (c2) ?_|(exfalso;omega)|(refine yaS ?_ ?_<;>intro _)
    exact .ret rfl ⟨_, ⟨_, rfl⟩, .int rfl⟩
  · repeat' first|refine yaG ?_|refine yaC (c1) ?_|refine yaC (c2) ?_|(exfalso;omega)|(refine yaS ?_ ?_<;>intro _)
    exact .ret rfl ⟨_, ⟨_, rfl⟩, .int rfl⟩
theorem Rise.last {l : List RowD} (h : Rise l) (h0 : 0 < l.length) {q : RowD} (hq : q ∈ l) : q.id ≤ l[l.length - 1].id := by
  obtain ⟨i, hi, rfl⟩ := List.getElem_of_mem hq
  by_cases e : i = l.length - 1
  · subst e; exact Int.le_refl _
  · exact Int.le_of_lt (List.pairwise_iff_getElem.1 h i (l.length - 1) hi (by omega) (by omega))
theorem l6Next_ok (d : Data) (hr : Rise d.rows) (hn : d.rows.length ≤ 60) (hid : ∀ r ∈ d.rows, 1 ≤ r.id ∧ r.id ≤ 1000000000) : Told Tryz.prog 278 [.agg (encData d)] (fun r => ∃ k : Int, 1 ≤ k ∧ k ≤ 1000000001 ∧ (∀ q ∈ d.rows, q.id < k) ∧ r = .c (.int .i64 k)) := by
  refine Told.run mixed c_spec_l6Next_ok (Nat.le_of_ble_eq_true rfl) fun σ hS => ?_
  clear hS
  by_cases h0 : 0 < d.rows.length
  · have h1 : IntKind.i64.wrap ((d.rows.length : Int) - 1) = ((d.rows.length - 1 : Nat) : Int) := by rw [wrap64 (by omega) (by omega)]; omega
    have hlt : d.rows.length - 1 < d.rows.length := by omega
    have hne : ¬ (d.rows.length : Int) = 0 := by omega
    have hi := hid _ (List.getElem_mem hlt)
    repeat' first|refine yaG ?_|((first|apply yG|apply yH|apply yI);exact rfl;(first|exact yX (enc := encRowD) rfl rfl h1 hlt rfl))|(exfalso;omega)|(refine yaS ?_ ?_<;>intro _)
    refine .ret rfl ⟨_, ⟨d.rows[d.rows.length - 1].id + 1, by omega, by omega, fun q hq => ?_, rfl⟩, .int (wrap64 (by omega) (by omega))⟩
    have := hr.last h0 hq
    omega
  · have he : (d.rows.length : Int) = 0 := by omega
    repeat' first|refine yaG ?_|(exfalso;omega)|(refine yaS ?_ ?_<;>intro _)
    refine .ret rfl ⟨_, ⟨1, by omega, by omega, fun q hq => ?_, rfl⟩, .int rfl⟩
    rw [List.eq_nil_of_length_eq_zero (show d.rows.length = 0 by omega)] at hq
    cases hq
/-- What the keys of a table are like, for the rows of some data and another one. -/
structure KeysR (t : Table) (d : Data) (x : RowD) : Prop where
  uniq : t.uniques.length ≤ 3
  len : ∀ k ∈ keysOf t, k.length ≤ 34359738368
  own : ∀ k ∈ keysOf t, InR k x.vals.length
  far : ∀ k ∈ keysOf t, ∀ r ∈ d.rows, InR k r.vals.length
def IdsT (n : Nat) (r : AV) : Prop := ∃ ids : List Int, ids.length ≤ n ∧ r = .c (.fz (ids.map encI))
theorem flatIs2 {xs : List Int} : ∀ e ∈ xs.map encI, ∀ x ∈ e, Flat x := fun e he => (flatIs e he).2
theorem l6Rivals_ok (t : Table) (d : Data) (x : RowD) (hd : d.rows.length ≤ 60) (hK : KeysR t d x) : Told Tryz.prog 297 [.agg (encTable t), .agg (encData d), .agg (encRowD x)] (IdsT 60) := by
  refine Told.run mixed c_spec_l6Rivals_ok (Nat.le_of_ble_eq_true rfl) fun σ hS => ?_
  clear hS
  repeat' first|refine yaG ?_|(exfalso;omega)|(refine yaS ?_ ?_<;>intro _)
  refine Go.keep [3, 4, 5, 7, 8] (Go.loops (I := fun m fr τ => ∃ (i : Nat) (k : Int) (ids : List Int) (v : Nat) (junk : List (List Ce)), m = d.rows.length - i ∧ i ≤ d.rows.length ∧ k = i ∧ Jk 1 junk ∧ ids.length ≤ i ∧
    fr = [(3, .c (.fp (encTable t))), (4, .c (.fp (encData d))), (5, .c (.fp (encRowD x))), (7, .c (vec (σ.next + 0) v (ids.map encI) junk)), (8, .c (.int .i64 k))] ∧ τ = E σ [(v, ids.map encI ++ junk)]) ?_ _ _ _ ⟨0, _, [], 0, [], rfl, Nat.zero_le _, rfl, Jk.nil, Nat.zero_le _, rfl, rfl⟩)
  rintro m fr τ ⟨i, k, ids, v, junk, rfl, hi, hk, hj, hil, rfl, rfl⟩ hrec
  by_cases hlt : i < d.rows.length
  · have hbd : ((ids.map encI).length + 1) * 8 ≤ 140737488355328 := by rw [List.length_map]; omega
    have hz1 : ∀ e ∈ ids.map encI, e.length = 1 := fun e he => (flatIs e he).1
    have e1 : ids.map encI ++ [encI d.rows[i].id] = (ids ++ [d.rows[i].id]).map encI := by simp
    have c1 := l5Unique_ok t ⟨[d.rows[i]]⟩ x (by simp) hK.uniq hK.len hK.own (fun k hk r hr => by
      have hr2 : r = d.rows[i] := by simpa using hr
      rw [hr2]
      exact hK.far k hk _ (List.getElem_mem hlt))
    generalize (!((keysOf t).any (twiceF (Data.rows ⟨[d.rows[i]]⟩) x))) = B at c1
    by_cases h0 : d.rows[i].id = x.id
    · repeat' first|refine yaG ?_|((first|apply yG|apply yH|apply yI);exact rfl;(first|exact yX (enc := encRowD) rfl rfl hk hlt rfl))|(exfalso;omega)|(refine yaS ?_ ?_<;>intro _)
      exact Go.keep [3, 4, 5, 7, 8] (hrec _ _ _ (by omega) ⟨i + 1, _, ids, v, junk, rfl, hlt, wrap_succ hk (by omega), hj, by omega, rfl, rfl⟩)
    · cases B
      · repeat' first|refine yaG ?_|((first|apply yG|apply yH|apply yI);exact rfl;(first|exact yX (enc := encRowD) rfl rfl hk hlt rfl))|(apply Go.app1;exact rfl;exact rfl;exact rfl;exact rfl;exact rfl;exact hz1;exact hj;exact rfl;exact hbd;intro v' junk' hj')|refine yaC (c1) ?_|(exfalso;omega)|(refine yaS ?_ ?_<;>intro _)
        refine Go.keep [3, 4, 5, 7, 8] (hrec _ _ _ (by omega) ⟨i + 1, _, ids ++ [d.rows[i].id], v', junk', rfl, hlt, wrap_succ hk (by omega), hj', by simp; omega, ?_, ?_⟩)
        · rw [← e1]; rfl
        · rw [← e1]; rfl
      · repeat' first|refine yaG ?_|((first|apply yG|apply yH|apply yI);exact rfl;(first|exact yX (enc := encRowD) rfl rfl hk hlt rfl))|refine yaC (c1) ?_|(exfalso;omega)|(refine yaS ?_ ?_<;>intro _)
        exact Go.keep [3, 4, 5, 7, 8] (hrec _ _ _ (by omega) ⟨i + 1, _, ids, v, junk, rfl, hlt, wrap_succ hk (by omega), hj, by omega, rfl, rfl⟩)
  · repeat' first|refine yaG ?_|(exfalso;omega)|(refine yaS ?_ ?_<;>intro _)
    exact .ret rfl ⟨_, ⟨ids, by omega, rfl⟩, _, rfl, frz_drop (n := 0) (k := 0) rfl flatIs2 (Nat.zero_le _) (Nat.le_refl _)⟩
theorem l6Clear_ok (s : List Table) (db : List Data) (q : Int) (n : Nat) (x : RowD) (hq : q = (n : Int)) (hn : n < s.length) (hn2 : n < db.length) (hd : db[n].rows.length ≤ 60) (hK : KeysR s[n] db[n] x) : Told Tryz.prog 280 [.c (.fz (s.map encTable)), .c (.fz (db.map encData)), .c (.int .i64 q), .agg (encRowD x), .c (.bool false), .c (.int .i64 0)] (fun r => r = .tup [.c (.fz (db.map encData)), .c (.int .i64 0)] ∨ r = .tup [.c .nils, .c (.int .i64 4)]) := by
  refine Told.run mixed c_spec_l6Clear_ok (Nat.le_of_ble_eq_true rfl) fun σ hS => ?_
  clear hS
  repeat' first|refine yaG ?_|((first|apply yG|apply yH|apply yI);exact rfl;(first|exact yX (enc := encTable) rfl rfl hq hn rfl|exact yX (enc := encData) rfl rfl hq hn2 rfl))|(exfalso;omega)|(refine yaS ?_ ?_<;>intro _)
  refine Go.stold rfl rfl rfl (l6Rivals_ok s[n] db[n] x hd hK) ?_
  rintro _ ⟨ids, hl, rfl⟩
  by_cases h0 : 0 < ids.length
  · repeat' first|refine yaG ?_|(exfalso;omega)|(refine yaS ?_ ?_<;>intro _)
    exact .ret rfl ⟨_, .inr rfl, _, rfl, .tup rfl fun i hi => by
      have : i = 0 ∨ i = 1 := by simp at hi; omega
      rcases this with rfl | rfl
      · exact .c (.same _ .nils)
      · exact .c (.same _ (.int _ _))⟩
  · have he : (ids.length : Int) = 0 := by omega
    repeat' first|refine yaG ?_|(exfalso;omega)|(refine yaS ?_ ?_<;>intro _)
    apply Go.loop
    repeat' first|refine yaG ?_|(exfalso;omega)|(refine yaS ?_ ?_<;>intro _)
    exact .ret rfl ⟨_, .inl rfl, _, rfl, .tup rfl fun i hi => by
      have : i = 0 ∨ i = 1 := by simp at hi; omega
      rcases this with rfl | rfl
      · exact .c (.same _ (old_fz1 (oldDatas _)))
      · exact .c (.same _ (.int _ _))⟩
theorem l4Put_ok (d : Data) (x : RowD) (hd : d.rows.length ≤ 60) (hx : ∀ q ∈ d.rows, q.id < x.id) : Pure Tryz.prog 282 [.agg (encData d), .agg (encRowD x)] (.agg (encData ⟨d.rows ++ [x]⟩)) := by
  refine Pure.run mixed c_spec_l4Put_ok (Nat.le_of_ble_eq_true rfl) fun σ hS hA => ?_
  clear hS hA
  repeat' first|refine yaG ?_|(exfalso;omega)|(refine yaS ?_ ?_<;>intro _)
  refine Go.keep [2, 3, 4, 5, 6, 7] (Go.loops (I := fun m fr τ => ∃ (i : Nat) (k : Int) (v : Nat) (junk : List (List Ce)), m = d.rows.length - i ∧ i ≤ d.rows.length ∧ k = i ∧ Jk 2 junk ∧
    fr = [(2, .c (.fp (encData d))), (3, .c (.fp (encRowD x))), (4, .c (.ptr (σ.next + 0) 0 0 0)), (5, .c (vec (σ.next + 1) v ((d.rows.take i).map encRowD) junk)), (6, .c (.bool false)), (7, .c (.int .i64 k))] ∧ τ = E σ [(0, [[.nils]]), (v, (d.rows.take i).map encRowD ++ junk)]) ?_ _ _ _ ⟨0, _, 0, [], rfl, Nat.zero_le _, rfl, Jk.nil, rfl, rfl⟩)
  rintro m fr τ ⟨i, k, v, junk, rfl, hi, hk, hj, rfl, rfl⟩ hrec
  have hbd : (((d.rows.take i).map encRowD).length + 1) * 32 ≤ 140737488355328 := by rw [List.length_map, List.length_take]; omega
  by_cases hlt : i < d.rows.length
  · have hid := hx _ (List.getElem_mem hlt)
    have e1 : (d.rows.take i).map encRowD ++ [encRowD d.rows[i]] = (d.rows.take (i + 1)).map encRowD := by rw [List.take_succ_eq_append_getElem hlt, List.map_append]; rfl
    have hng : ¬ d.rows[i].id ≥ x.id := by omega
    have hne : ¬ d.rows[i].id = x.id := by omega
    repeat' first|refine yaG ?_|((first|apply yG|apply yH|apply yI);exact rfl;(first|exact yX (enc := encRowD) rfl rfl hk hlt rfl))|(apply Go.app1;exact rfl;exact rfl;exact rfl;exact rfl;exact rfl;exact rowD_len;exact hj;exact rfl;exact hbd;intro v' junk' hj')|(exfalso;omega)|(refine yaS ?_ ?_<;>intro _)
    all_goals first
      | (exfalso; omega)
      | skip
    refine Go.keep [2, 3, 4, 5, 6, 7] (hrec _ _ _ (by omega) ⟨i + 1, _, v', junk', rfl, hlt, wrap_succ hk (by omega), hj', ?_, ?_⟩)
    · rw [← e1]; rfl
    · rw [← e1]; rfl
  · repeat' first|refine yaG ?_|(apply Go.app1;exact rfl;exact rfl;exact rfl;exact rfl;exact rfl;exact rowD_len;exact hj;exact rfl;exact hbd;intro v' junk' hj')|(exfalso;omega)|(refine yaS ?_ ?_<;>intro _)
    refine .ret (retv_m rfl rfl rfl (Nat.zero_le _) rfl) ⟨_, rfl, .agg rfl fun j hj0 => ?_⟩
    have hj1 : j = 0 := by simp at hj0; omega
    subst hj1
    have e1 : (d.rows.take i).map encRowD ++ [encRowD x] = (d.rows ++ [x]).map encRowD := by rw [List.take_of_length_le (by omega), List.map_append]; rfl
    have hz : FrzV (E σ [(0, [[vec (σ.next + 1) v' ((d.rows.take i).map encRowD ++ [encRowD x]) junk']]), (v', (d.rows.take i).map encRowD ++ [encRowD x] ++ junk')]) σ.next (.c (vec (σ.next + 1) v' ((d.rows.take i).map encRowD ++ [encRowD x]) junk')) (.c (.fz ((d.rows.take i).map encRowD ++ [encRowD x]))) :=
      frz_old (k := 1) rfl (by rw [e1]; exact oldRows _) (Nat.le_add_right _ _)
    cases hz with
    | c h =>
      have h2 : Frz (E σ [(0, [[vec (σ.next + 1) v' ((d.rows.take i).map encRowD ++ [encRowD x]) junk']]), (v', (d.rows.take i).map encRowD ++ [encRowD x] ++ junk')]) σ.next (vec (σ.next + 1) v' ((d.rows.take i).map encRowD ++ [encRowD x]) junk') (.fz ((d.rows ++ [x]).map encRowD)) := by
        rw [← e1]
        exact h
      exact h2
end Go.Proofs.YtinbdedlmkjokaaGreat.Am
