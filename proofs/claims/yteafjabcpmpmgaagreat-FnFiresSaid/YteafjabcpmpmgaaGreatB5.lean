/- Joined texts: E3, E2, Y1, E4, Y2, K3, Y3, Y4, S5, S6, S7, S9, K4, D1, M0, M1, M3, M2, N0, D2, G1, G2, G3, G4, G5, G6, J1, F10, J2, J3, H1, H2, F11, Q1, Q2, Q3, Q4, Q5, Q6, Q7, Q8, Q9, Q10, H3, Y5, Y6, Y7, Y8, N1. -/
import Derived.Test.YteafjabcpmpmgaaGreatB1
import Derived.Test.YteafjabcpmpmgaaGreatB2
import Derived.Test.YteafjabcpmpmgaaGreatB3
import Derived.Test.YteafjabcpmpmgaaGreatB4
/- Expressions: the program's Eval and Truth. -/
set_option linter.unusedVariables false
set_option linter.unusedSimpArgs false
namespace Go.Proofs.YteafjabcpmpmgaaGreat.Am

theorem solid_val (v : Val) : Solid (.agg (encV v)) := .agg _ fun i hi => by
  have : i = 0 ∨ i = 1 ∨ i = 2 := by simp only [encV, List.length_cons, List.length_nil] at hi; omega
  rcases this with rfl | rfl | rfl
  · exact .int _ _
  · exact .int _ _
  · exact .str _
theorem solid_vb (v : Val) (b : Bool) : Solid (.tup [.agg (encV v), .c (.bool b)]) := .tup _ fun i hi => by
  have : i = 0 ∨ i = 1 := by simp only [List.length_cons, List.length_nil] at hi; omega
  rcases this with rfl | rfl
  · exact solid_val v
  · exact .bool b
theorem isTok_kinds {t : Tok} {n : Int} (h : isTokF t n = true) : t.kind = 1 ∨ t.kind = 2 ∨ (t.kind = 3 ∨ t.kind = 4 ∨ t.kind = 5 ∨ t.kind = 6 ∨ t.kind = 7 ∨ t.kind = 8 ∨ t.kind = 9 ∨ t.kind = 10) := by
  simp only [isTokF] at h
  split at h
  · exact .inl ‹_›
  · split at h
    · exact .inr (.inl ‹_›)
    · simp only [Bool.and_eq_true] at h
      exact .inr (.inr (isIn_310.1 h.1.1))
theorem isTok_col {t : Tok} {n : Int} (h : isTokF t n = true) (h1 : t.kind = 1) : 0 ≤ t.col ∧ t.col < n := by
  simp only [isTokF, if_pos h1, Bool.and_eq_true, isIn, decide_eq_true_eq] at h
  omega
/-- What a token takes from a stack, applied. -/
theorem apply_ok (t : Tok) (l row : List Val) (ht : isTokF t row.length = true) (hl : (l.length : Int) = tokTakes t) (ho : Oks l) : Pure Tryz.prog 190 [.agg (encTok t), .c (.fz (l.map encV)), .c (.fz (row.map encV))] (.tup [.agg (encV (applyF t l row).1), .c (.bool (applyF t l row).2)]) := by
  have hk := isTok_kinds ht
  have hc := isTok_col ht
  by_cases h0 : t.kind = 1 ∨ t.kind = 2
  · have : tokTakes t = 0 := by rw [tokTakes, if_pos h0]
    have hl0 : l = [] := List.eq_nil_of_length_eq_zero (by omega)
    subst hl0
    exact apply0_ok t row h0 hc
  by_cases h1 : t.kind = 7 ∨ t.kind = 8
  · have : tokTakes t = 1 := by rw [tokTakes, if_neg h0, if_pos h1]
    match l, hl with
    | [x], _ => exact apply1_ok t x row h1
    | [], hl => simp at hl; omega
    | _ :: _ :: _, hl => simp only [List.length_cons] at hl; omega
  · have : tokTakes t = 2 := by rw [tokTakes, if_neg h0, if_neg h1]
    match l, hl with
    | [x, y], _ => exact apply2_ok t x y row (by omega) (ho x (by simp)) (ho y (by simp))
    | [], hl => simp at hl; omega
    | [_], hl => simp at hl; omega
    | _ :: _ :: _ :: _, hl => simp only [List.length_cons] at hl; omega
theorem areVals_oks {l : List Val} {n : Int} (h : areVals l n = true) : Oks l ∧ (l.length : Int) ≤ n := by
  simp only [areVals, Bool.and_eq_true, decide_eq_true_eq, List.all_eq_true] at h
  exact ⟨h.2, h.1⟩
theorem exprF_aux {e : List Tok} {n : Int} (h : exprF e n = true) : (e.length : Int) ≤ 24 ∧ exprAux n 0 e = true := by
  simpa only [exprF, Bool.and_eq_true, decide_eq_true_eq] using h
theorem exprAux_cons {n a : Int} {t : Tok} {r : List Tok} (h : exprAux n a (t :: r) = true) : isTokF t n = true ∧ tokTakes t ≤ a ∧ exprAux n (a + 1 - tokTakes t) r = true := by
  simp only [exprAux, Bool.and_eq_true, decide_eq_true_eq] at h
  exact ⟨h.1.1, h.1.2, h.2⟩
theorem Oks.take {l : List Val} (h : Oks l) (n : Nat) : Oks (l.take n) := fun v hv => h v (List.mem_of_mem_take hv)
theorem Oks.drop {l : List Val} (h : Oks l) (n : Nat) : Oks (l.drop n) := fun v hv => h v (List.mem_of_mem_drop hv)
theorem Oks.snoc {l : List Val} (h : Oks l) {v : Val} (hv : okVal v = true) : Oks (l ++ [v]) := fun w hw => by
  rcases List.mem_append.1 hw with hw | hw
  · exact h w hw
  · rw [List.mem_singleton.1 hw]; exact hv
theorem flats {l : List Val} : ∀ e ∈ l.map encV, ∀ x ∈ e, Flat x := fun e he x hx => (clean_append e he).2 x hx
theorem lens {l : List Val} : ∀ e ∈ l.map encV, e.length = 3 := fun e he => (clean_append e he).1
theorem old_ptr {n id v i j : Nat} (h : id < n) : ∀ y ∈ (AV.c (.ptr id v i j)).all, Old n y := fun y hy => by
  simp only [AV.all, List.mem_singleton] at hy
  subst hy
  exact .ptr _ _ _ _ h
theorem old_sl {n id v i j c : Nat} (h : id < n) : ∀ y ∈ (AV.c (.sl id v i j c)).all, Old n y := fun y hy => by
  simp only [AV.all, List.mem_singleton] at hy
  subst hy
  exact .sl _ _ _ _ _ h
theorem old_int {n : Nat} {k : IntKind} {z : Int} : ∀ y ∈ (AV.c (.int k z)).all, Old n y := fun y hy => by
  simp only [AV.all, List.mem_singleton] at hy
  subst hy
  exact .int _ _
theorem old_fzF {n : Nat} {es : List (List Ce)} (h : ∀ e ∈ es, ∀ x ∈ e, Flat x) : ∀ y ∈ (AV.c (.fz es)).all, Old n y := fun y hy => by
  simp only [AV.all, List.mem_singleton] at hy
  subst hy
  exact .fz _ fun i j hi hj => (h _ (List.getElem_mem hi) _ (List.getElem_mem hj)).old _
theorem old_encV {n : Nat} {l : List Val} : ∀ y ∈ (AV.c (.fz (l.map encV))).all, Old n y := old_fzF flats
theorem old_encTok {n : Nat} {l : List Tok} : ∀ y ∈ (AV.c (.fz (l.map encTok))).all, Old n y := old_fzF fun e he x hx => by
  obtain ⟨a, _, rfl⟩ := List.mem_map.1 he
  exact flatTok a x hx
theorem Eval_ok (e : List Tok) (row : List Val) (hx : e.length ≤ 34359738368) (hr : row.length ≤ 34359738368) : Pure Tryz.prog 89 [.c (.fz (e.map encTok)), .c (.fz (row.map encV))] (.tup [.agg (encV (evalI e row).1), .c (.bool (evalI e row).2)]) := by
  refine Pure.run mixed c_impl_Eval_ok (Nat.le_of_ble_eq_true rfl) fun σ hS hA => ?_
  clear hA
  have c1 := areVals_ok row 16 (by decide) hr
  cases hv : areVals row 16
  · rw [hv] at c1
    rw [evalI, evalOk, hv]
    repeat' first|(apply yA;exact rfl)|apply yB|apply yC|((first|apply yD|apply yE);(first|exact yF|assumption);iterate 6 exact rfl)|((first|apply yG|apply yH|apply yI);exact rfl;(first|exact yJ|exact yK rfl rfl|exact yL rfl|exact yM rfl|exact rfl|exact aL rfl rfl rfl rfl rfl|exact aS rfl rfl rfl rfl rfl rfl rfl))|((first|apply yN|apply yO|apply yP);exact rfl)|((first|apply yQ|apply yR|apply yS);(iterate 3 exact rfl);exact c1)|(exfalso;omega)|(((first|apply yT|apply yU|apply yV|apply yW);exact rfl;(first|exact .d|exact .e|exact .n|((fail_if_success exact bqt);(fail_if_success exact bqf);exact .b)))<;>intro _)
    exact .ret (retv_mt rfl rfl rfl (Nat.zero_le _) rfl rfl) (fin_vb vNull _)
  obtain ⟨hok, hrl⟩ := areVals_oks hv
  have c2 := ExprOk_ok e row.length hx
  rw [exprF_eq (by omega) hrl] at c2
  rw [hv] at c1
  cases he : exprF e row.length
  · rw [he] at c2
    rw [evalI, evalOk, hv, he]
    repeat' first|(apply yA;exact rfl)|apply yB|apply yC|((first|apply yD|apply yE);(first|exact yF|assumption);iterate 6 exact rfl)|((first|apply yG|apply yH|apply yI);exact rfl;(first|exact yJ|exact yK rfl rfl|exact yL rfl|exact yM rfl|exact rfl|exact aL rfl rfl rfl rfl rfl|exact aS rfl rfl rfl rfl rfl rfl rfl))|((first|apply yN|apply yO|apply yP);exact rfl)|((first|apply yQ|apply yR|apply yS);(iterate 3 exact rfl);(first|exact c1|exact c2))|(exfalso;omega)|(((first|apply yT|apply yU|apply yV|apply yW);exact rfl;(first|exact .d|exact .e|exact .n|((fail_if_success exact bqt);(fail_if_success exact bqf);exact .b)))<;>intro _)
    exact .ret (retv_mt rfl rfl rfl (Nat.zero_le _) rfl rfl) (fin_vb vNull _)
  rw [he] at c2
  obtain ⟨hel, hea⟩ := exprF_aux he
  have hI : evalI e row = evalR e row := by rw [evalI, evalOk, hv, he]; rfl
  rw [hI]
  repeat' first|(apply yA;exact rfl)|apply yB|apply yC|((first|apply yD|apply yE);(first|exact yF|assumption);iterate 6 exact rfl)|((first|apply yG|apply yH|apply yI);exact rfl;(first|exact yJ|exact yK rfl rfl|exact yL rfl|exact yM rfl|exact rfl|exact aL rfl rfl rfl rfl rfl|exact aS rfl rfl rfl rfl rfl rfl rfl))|((first|apply yN|apply yO|apply yP);exact rfl)|((first|apply yQ|apply yR|apply yS);(iterate 3 exact rfl);(first|exact c1|exact c2))|(exfalso;omega)|(((first|apply yT|apply yU|apply yV|apply yW);exact rfl;(first|exact .d|exact .e|exact .n|((fail_if_success exact bqt);(fail_if_success exact bqf);exact .b)))<;>intro _)
  refine Go.keep [1, 4, 6, 24, 25, 26] (Go.loops (I := fun m fr τ => ∃ (i : Nat) (k : Int) (st : List Val) (v : Nat) (junk : List (List Ce)), m = e.length - i ∧ i ≤ e.length ∧ k = i ∧ Jk 3 junk ∧ (st.length ≤ i ∧ Oks st ∧ exprAux row.length st.length (e.drop i) = true ∧ evalL row e [] = evalL row (e.drop i) st) ∧
    fr = [(1, .c (.fz (row.map encV))), (4, .c (.ptr (σ.next + 0) 0 0 0)), (6, .c (vec (σ.next + 1) v (st.map encV) junk)), (24, .c (.fz (e.map encTok))), (25, .c (.int .i64 (e.length : Int))), (26, .c (.int .i64 k))] ∧
      τ = E σ [(0, [[.int .i64 0, .int .i64 0, .str []]]), (v, st.map encV ++ junk)]) ?_ _ _ _ ⟨0, _, [], 0, [], rfl, Nat.zero_le _, rfl, Jk.nil, ⟨Nat.zero_le _, fun v hv => (by simp at hv), hea, rfl⟩, rfl, rfl⟩)
  rintro m fr τ ⟨i, k, st, v, junk, rfl, hi, hk, hj, ⟨hsl, hst, haux, hev⟩, rfl, rfl⟩ hrec
  clear hea he hv c1 c2 hI
  by_cases hlt : i < e.length
  · rw [List.drop_eq_getElem_cons hlt] at haux hev
    obtain ⟨htk, hle, haux⟩ := exprAux_cons haux
    have htr := tokTakes_range e[i]
    have hz : IntKind.i64.wrap (((st.map encV).length : Int) - tokTakes e[i]) = (fromOf e[i] st : Int) := by
      rw [List.length_map, wrap64 (by omega) (by omega), fromOf]
      omega
    have hfn : fromOf e[i] st ≤ st.length := by rw [fromOf]; omega
    have hfn' : fromOf e[i] st ≤ (st.map encV).length := by rw [List.length_map]; exact hfn
    have hdl : ((st.drop (fromOf e[i] st)).length : Int) = tokTakes e[i] := by rw [List.length_drop, fromOf]; omega
    have hap := apply_ok e[i] (st.drop (fromOf e[i] st)) row htk hdl (hst.drop _)
    have hres := applyF_ok (tokOk_const htk) (hst.drop (fromOf e[i] st)) hok
    rw [List.map_drop] at hap
    rw [evalL] at hev
    generalize applyF e[i] (st.drop (fromOf e[i] st)) row = ap at hap hres hev
    obtain ⟨av, ab⟩ := ap
    simp only at hap hres hev
    repeat' first|apply Go.seq|apply Go.skip|apply Go.region|apply Go.nil|apply Go.block|apply Go.blk|apply Go.segs|(apply Go.exit;exact rfl)|(apply Go.cond true;exact rfl)|(apply Go.cond false;exact rfl)|apply yB|apply yC|((first|apply yD|apply yE);(first|exact yF|assumption);iterate 6 exact rfl)|((first|apply yG|apply yH|apply yI);exact rfl;(first|exact yJ|exact yK rfl rfl|exact yL rfl|exact yM rfl|exact rfl|exact aL rfl rfl rfl rfl rfl|exact aS rfl rfl rfl rfl rfl rfl rfl|exact yX (enc := encTok) rfl rfl hk hlt rfl))|((first|apply yN|apply yO|apply yP);exact rfl)|((first|apply yQ|apply yR|apply yS);(iterate 3 exact rfl);exact takes_ok e[i])|(exfalso;omega)|(((first|apply yT|apply yU|apply yV|apply yW);exact rfl;(first|exact .d|exact .e|exact .n|((fail_if_success exact bqt);(fail_if_success exact bqf);exact .b)))<;>intro _)
    rw [hz]
    generalize fromOf e[i] st = n at hz hfn hfn' hap hev hdl
    apply Go.draw
    refine Go.qkd [(0, [[.int .i64 0, .int .i64 0, .str []]]), (v, st.map encV ++ junk)] ?_
    repeat' first|(apply Qk.nil;show Go _ _ _ _ _ _ _ _)|(apply Qk.op;exact rfl;(first|(rintro _ ⟨_, rfl⟩;exact rfl)|(rintro _ ⟨_, rfl⟩;exact aop_load rfl rfl rfl (Nat.le_of_ble_eq_true rfl) rfl)|(rintro _ ⟨_, rfl⟩;exact aop_drop (k := 1) (s := 3) rfl rfl rfl hfn' rfl (fun e he => (List.mem_append.1 he).elim (lens e) fun h => (hj e h).1))))|(apply Qk.no;exact rfl)|(apply Qk.wop;exact rfl;exact rfl;(first|exact yJ|exact yL rfl|exact aop_store rfl rfl rfl rfl rfl rfl (Nat.le_of_ble_eq_true rfl));exact ⟨_, rfl⟩)
    refine Qk.lcall rfl rfl rfl hap (solid_vb _ _) (fun m => .same (.own (frz_drop (k := 1) rfl flats hfn' (Nat.zero_le _)) (.same .nil))) ?_
    repeat' first|(apply Qk.nil;show Go _ _ _ _ _ _ _ _)|(apply Qk.op;exact rfl;(first|(rintro _ ⟨_, rfl⟩;exact rfl)|(rintro _ ⟨_, rfl⟩;exact aop_load rfl rfl rfl (Nat.le_of_ble_eq_true rfl) rfl)))|(apply Qk.no;exact rfl)|(apply Qk.wop;exact rfl;exact rfl;(first|exact yJ|exact yL rfl|exact aop_store rfl rfl rfl rfl rfl rfl (Nat.le_of_ble_eq_true rfl));exact ⟨_, rfl⟩)
    cases ab
    · rw [if_neg Bool.false_ne_true] at hev
      have hR : evalR e row = (vNull, false) := by rw [evalR, hev]
      rw [hR]
      repeat' first|(apply yA;exact rfl)|apply yB|apply yC|((first|apply yD|apply yE);(first|exact yF|assumption);iterate 6 exact rfl)|((first|apply yG|apply yH|apply yI);exact rfl;(first|exact yJ|exact yK rfl rfl|exact yL rfl|exact yM rfl|exact rfl|exact aL rfl rfl rfl rfl rfl|exact aS rfl rfl rfl rfl rfl rfl rfl))|((first|apply yN|apply yO|apply yP);exact rfl)|(exfalso;omega)|(((first|apply yT|apply yU|apply yV|apply yW);exact rfl;(first|exact .d|exact .e|exact .n|((fail_if_success exact bqt);(fail_if_success exact bqf);exact .b)))<;>intro _)
      exact .ret (retv_mt rfl rfl rfl (Nat.zero_le _) rfl rfl) (fin_vb vNull _)
    · rw [if_pos rfl] at hev
      repeat' first|(apply yA;exact rfl)|apply yB|apply yC|((first|apply yD|apply yE);(first|exact yF|assumption);iterate 6 exact rfl)|((first|apply yG|apply yH|apply yI);exact rfl;(first|exact yJ|exact yK rfl rfl|exact yL rfl|exact yM rfl|exact rfl|exact aL rfl rfl rfl rfl rfl|exact aS rfl rfl rfl rfl rfl rfl rfl|exact aop_load rfl rfl rfl (Nat.le_of_ble_eq_true rfl) rfl|exact aop_take (k := 1) rfl rfl rfl hfn' rfl (fun e he => (List.mem_append.1 he).elim (lens e) fun h => (hj e h).1)))|((first|apply yN|apply yO|apply yP);exact rfl)|(exfalso;omega)|(((first|apply yT|apply yU|apply yV|apply yW);exact rfl;(first|exact .d|exact .e|exact .n|((fail_if_success exact bqt);(fail_if_success exact bqf);exact .b)))<;>intro _)
      have hsplit : st.map encV ++ junk = (st.map encV).take n ++ ((st.map encV).drop n ++ junk) := by rw [← List.append_assoc, List.take_append_drop]
      have hbd : (((st.map encV).take n).length + 1) * 32 ≤ 140737488355328 := by rw [List.length_take, List.length_map]; omega
      refine Go.sapp1 (k := 1) (z := encV av) rfl rfl rfl rfl (congrArg (fun q => some (v, q)) hsplit) (fun e he => lens e (List.mem_of_mem_take he)) (Jk.drop clean_append hj n) rfl hbd fun v' junk' hj' => ?_
      repeat' first|(apply yA;exact rfl)|apply yB|apply yC|((first|apply yD|apply yE);(first|exact yF|assumption);iterate 6 exact rfl)|((first|apply yG|apply yH|apply yI);exact rfl;(first|exact yJ|exact yK rfl rfl|exact yL rfl|exact yM rfl|exact rfl|exact aL rfl rfl rfl rfl rfl|exact aS rfl rfl rfl rfl rfl rfl rfl))|((first|apply yN|apply yO|apply yP);exact rfl)|(exfalso;omega)|(((first|apply yT|apply yU|apply yV|apply yW);exact rfl;(first|exact .d|exact .e|exact .n|((fail_if_success exact bqt);(fail_if_success exact bqf);exact .b)))<;>intro _)
      refine Go.freezeN (l := [(0, [[.int .i64 0, .int .i64 0, .str []]]), (v', (st.map encV).take n ++ [encV av] ++ junk')]) (m := [(0, [encV av])])
        (fr' := [(1, .c (.fz (row.map encV))), (4, .c (.ptr (σ.next + 0) 0 0 0)), (6, .c (vec (σ.next + 1) v' ((st.map encV).take n ++ [encV av]) junk')), (24, .c (.fz (e.map encTok))), (25, .c (.int .i64 (e.length : Int))), (26, .c (.int .i64 (IntKind.i64.wrap (k + 1))))])
        hS ?_ (Nat.le_refl _) (.frz rfl (.refl old_encV) (.frz rfl (.refl (old_ptr (by simp))) (.frz rfl (.refl (old_sl (by simp))) (.frz rfl (.refl old_encTok) (.frz rfl (.refl old_int) (.frz rfl (.refl old_int) .nil)))))) ?_
      · intro b hb e he x hx
        refine Flat.old ?_ _
        rcases List.mem_cons.1 hb with rfl | hb
        · exact flats (l := [vNull]) e he x hx
        · rw [List.mem_singleton.1 hb] at he
          rcases List.mem_append.1 he with he | he
          · rcases List.mem_append.1 he with he | he
            · exact flats e (List.mem_of_mem_take he) x hx
            · exact flats (l := [av]) e he x hx
          · exact (hj' e he).2 x hx
      have e1 : (st.map encV).take n ++ [encV av] = (st.take n ++ [av]).map encV := by simp
      rw [e1]
      refine hrec _ _ _ (by omega) ⟨i + 1, _, st.take n ++ [av], v', junk', rfl, hlt, wrap_succ hk (by omega), hj', ⟨?_, (hst.take n).snoc (hres rfl), ?_, hev⟩, rfl, rfl⟩
      · simp only [List.length_append, List.length_take, List.length_singleton]; omega
      · have e2 : ((st.take n ++ [av]).length : Int) = st.length + 1 - tokTakes e[i] := by
          rw [List.length_drop] at hdl
          simp only [List.length_append, List.length_take, List.length_singleton]
          omega
        rw [e2]
        exact haux
  · have hd : e.drop i = [] := List.drop_eq_nil_of_le (by omega)
    rw [hd] at haux hev
    simp only [exprAux, beq_iff_eq] at haux
    obtain ⟨w, rfl⟩ : ∃ w, st = [w] := List.length_eq_one_iff.1 (by omega)
    have hR : evalR e row = (w, true) := by rw [evalR, hev]; rfl
    rw [hR]
    repeat' first|(apply yA;exact rfl)|apply yB|apply yC|((first|apply yD|apply yE);(first|exact yF|assumption);iterate 6 exact rfl)|((first|apply yG|apply yH|apply yI);exact rfl;(first|exact yJ|exact yK rfl rfl|exact yL rfl|exact yM rfl|exact rfl|exact aL rfl rfl rfl rfl rfl|exact aS rfl rfl rfl rfl rfl rfl rfl|exact aop_iaddr (k := 1) (n := 0) rfl rfl rfl (Nat.zero_lt_one) rfl rfl rfl))|((first|apply yN|apply yO|apply yP);exact rfl)|(exfalso;omega)|(((first|apply yT|apply yU|apply yV|apply yW);exact rfl;(first|exact .d|exact .e|exact .n|((fail_if_success exact bqt);(fail_if_success exact bqf);exact .b)))<;>intro _)
    exact .ret (retv_mt rfl rfl rfl (Nat.zero_le _) rfl rfl) (fin_vb w _)
theorem Truth_ok (e : List Tok) (row : List Val) (hx : e.length ≤ 34359738368) (hr : row.length ≤ 34359738368) : Pure Tryz.prog 44 [.c (.fz (e.map encTok)), .c (.fz (row.map encV))] (.c (.int .i64 (truthI e row))) := by
  refine Pure.run mixed c_impl_Truth_ok (Nat.le_of_ble_eq_true rfl) fun σ hS hA => ?_
  clear hS hA
  have c1 := Eval_ok e row hx hr
  have h1 := truthI_eq e row
  generalize evalI e row = q at c1 h1
  obtain ⟨v, b⟩ := q
  simp only at c1 h1
  cases b
  · repeat' first|(apply yA;exact rfl)|apply yB|apply yC|((first|apply yD|apply yE);(first|exact yF|assumption);iterate 6 exact rfl)|((first|apply yG|apply yH|apply yI);exact rfl;(first|exact yJ|exact yK rfl rfl|exact yL rfl|exact yM rfl|exact rfl|exact aL rfl rfl rfl rfl rfl|exact aS rfl rfl rfl rfl rfl rfl rfl))|((first|apply yN|apply yO|apply yP);exact rfl)|((first|apply yQ|apply yR|apply yS);(iterate 3 exact rfl);exact c1)|(exfalso;omega)|(((first|apply yT|apply yU|apply yV|apply yW);exact rfl;(first|exact .d|exact .e|exact .n|((fail_if_success exact bqt);(fail_if_success exact bqf);exact .b)))<;>intro _)
    refine .ret rfl (.int ?_)
    rw [← h1]
    rfl
  · repeat' first|(apply yA;exact rfl)|apply yB|apply yC|((first|apply yD|apply yE);(first|exact yF|assumption);iterate 6 exact rfl)|((first|apply yG|apply yH|apply yI);exact rfl;(first|exact yJ|exact yK rfl rfl|exact yL rfl|exact yM rfl|exact rfl|exact aL rfl rfl rfl rfl rfl|exact aS rfl rfl rfl rfl rfl rfl rfl))|((first|apply yN|apply yO|apply yP);exact rfl)|((first|apply yQ|apply yR|apply yS);(iterate 3 exact rfl);(first|exact c1|exact truth_ok v))|(exfalso;omega)|(((first|apply yT|apply yU|apply yV|apply yW);exact rfl;(first|exact .d|exact .e|exact .n|((fail_if_success exact bqt);(fail_if_success exact bqf);exact .b)))<;>intro _)
    refine .ret rfl (.int ?_)
    rw [← h1]
    rfl
end Go.Proofs.YteafjabcpmpmgaaGreat.Am

/- Truths and what is made of values: the reference. -/
set_option linter.unusedVariables false
set_option linter.unusedSimpArgs false
namespace Go.Proofs.YteafjabcpmpmgaaGreat.Am

theorem fin_ib {σ : Store} {l : List (Nat × List (List Ce))} (n : Int) (b : Bool) : Fin σ (.tup [.c (.int .i64 n), .c (.bool b)]) (.tup [.c (.int .i64 n), .c (.bool b)]) (E σ l) :=
  ⟨l, rfl, .refl fun y hy => by
    simp [AV.all, AV.all.allL] at hy
    rcases hy with rfl | rfl
    · exact .int _ _
    · exact .bool _⟩
theorem l1Yes_ok (b : Bool) : Pure Tryz.prog 167 [.c (.bool b)] (.c (.int .i64 (yes b))) := by
  refine Pure.run mixed c_spec_l1Yes_ok (Nat.le_of_ble_eq_true rfl) fun σ hS hA => ?_
  clear hS hA
  repeat' first|(apply yA;exact rfl)|apply yB|apply yC|((first|apply yD|apply yE);(first|exact yF|assumption);iterate 6 exact rfl)|((first|apply yG|apply yH|apply yI);exact rfl;(first|exact yJ|exact yK rfl rfl|exact yL rfl|exact yM rfl|exact rfl|exact aL rfl rfl rfl rfl rfl|exact aS rfl rfl rfl rfl rfl rfl rfl))|((first|apply yN|apply yO|apply yP);exact rfl)|(exfalso;omega)|(((first|apply yT|apply yU|apply yV|apply yW);exact rfl;(first|exact .d|exact .e|exact .n|((fail_if_success exact bqt);(fail_if_success exact bqf);exact .b)))<;>intro _)
  all_goals refine .ret rfl (.int ?_)
  all_goals simp_all [yes]
theorem l1Int_ok (n : Int) : Pure Tryz.prog 166 [.c (.int .i64 n)] (.agg (encV (vInt n))) := by
  refine Pure.run mixed c_spec_l1Int_ok (Nat.le_of_ble_eq_true rfl) fun σ hS hA => ?_
  clear hS hA
  repeat' first|(apply yA;exact rfl)|apply yB|apply yC|((first|apply yD|apply yE);(first|exact yF|assumption);iterate 6 exact rfl)|((first|apply yG|apply yH|apply yI);exact rfl;(first|exact yJ|exact yK rfl rfl|exact yL rfl|exact yM rfl|exact rfl|exact aL rfl rfl rfl rfl rfl|exact aS rfl rfl rfl rfl rfl rfl rfl))|((first|apply yN|apply yO|apply yP);exact rfl)|(exfalso;omega)|(((first|apply yT|apply yU|apply yV|apply yW);exact rfl;(first|exact .d|exact .e|exact .n|((fail_if_success exact bqt);(fail_if_success exact bqf);exact .b)))<;>intro _)
  exact .ret (retv_m rfl rfl rfl (Nat.zero_le _) rfl) (fin_v (vInt n))
def asR (t : Int) : Val := if t = 2 then vNull else vInt t
theorem l2As_ok (t : Int) : Pure Tryz.prog 169 [.c (.int .i64 t)] (.agg (encV (asR t))) := by
  refine Pure.run mixed c_spec_l2As_ok (Nat.le_of_ble_eq_true rfl) fun σ hS hA => ?_
  clear hS hA
  repeat' first|(apply yA;exact rfl)|apply yB|apply yC|((first|apply yD|apply yE);(first|exact yF|assumption);iterate 6 exact rfl)|((first|apply yG|apply yH|apply yI);exact rfl;(first|exact yJ|exact yK rfl rfl|exact yL rfl|exact yM rfl|exact rfl|exact aL rfl rfl rfl rfl rfl|exact aS rfl rfl rfl rfl rfl rfl rfl))|((first|apply yN|apply yO|apply yP);exact rfl)|((first|apply yQ|apply yR|apply yS);(iterate 3 exact rfl);exact l1Int_ok t)|(exfalso;omega)|(((first|apply yT|apply yU|apply yV|apply yW);exact rfl;(first|exact .d|exact .e|exact .n|((fail_if_success exact bqt);(fail_if_success exact bqf);exact .b)))<;>intro _)
  · rename_i h
    rw [asR, if_pos h]
    exact .ret (retv_m rfl rfl rfl (Nat.zero_le _) rfl) (fin_v vNull)
  · rename_i h
    rw [asR, if_neg h]
    exact .ret (retv_m rfl rfl rfl (Nat.zero_le _) rfl) (fin_v (vInt t))
def ofT (v : Val) : Int := if v.k = 0 then 2 else if v.k = 1 then yes (v.n != 0) else 0
def ofB (v : Val) : Bool := decide (v.k = 0) || decide (v.k = 1)
theorem l2Of_ok (v : Val) : Pure Tryz.prog 168 [.agg (encV v)] (.tup [.c (.int .i64 (ofT v)), .c (.bool (ofB v))]) := by
  refine Pure.run mixed c_spec_l2Of_ok (Nat.le_of_ble_eq_true rfl) fun σ hS hA => ?_
  clear hS hA
  repeat' first|(apply yA;exact rfl)|apply yB|apply yC|((first|apply yD|apply yE);(first|exact yF|assumption);iterate 6 exact rfl)|((first|apply yG|apply yH|apply yI);exact rfl;(first|exact yJ|exact yK rfl rfl|exact yL rfl|exact yM rfl|exact rfl|exact aL rfl rfl rfl rfl rfl|exact aS rfl rfl rfl rfl rfl rfl rfl))|((first|apply yN|apply yO|apply yP);exact rfl)|((first|apply yQ|apply yR|apply yS);(iterate 3 exact rfl);exact l1Yes_ok _)|(exfalso;omega)|(((first|apply yT|apply yU|apply yV|apply yW);exact rfl;(first|exact .d|exact .e|exact .n|((fail_if_success exact bqt);(fail_if_success exact bqf);exact .b)))<;>intro _)
  · rename_i h
    rw [ofT, if_pos h, ofB, decide_eq_true h]
    exact .ret rfl (fin_ib _ _)
  · rename_i h h1
    rw [ofT, if_neg h, if_pos h1, ofB, decide_eq_true h1, Bool.or_true]
    exact .ret rfl (fin_ib _ _)
  · rename_i h h1
    rw [ofT, if_neg h, if_neg h1, ofB, decide_eq_false h, decide_eq_false h1]
    exact .ret rfl (fin_ib _ _)
theorem sEqual3_ok (v w : Val) : Pure Tryz.prog 244 [.agg (encV v), .agg (encV w)] (.c (.int .i64 (eq3 v w))) := by
  refine Pure.run mixed c_spec_Equal3_ok (Nat.le_of_ble_eq_true rfl) fun σ hS hA => ?_
  clear hS hA
  cases hk : knownV v w
  · rw [eq3, hk]
    have hk2 := hk
    simp only [knownV] at hk2
    repeat' first|(apply yA;exact rfl)|apply yB|apply yC|((first|apply yD|apply yE);(first|exact yF|assumption);iterate 6 exact rfl)|((first|apply yG|apply yH|apply yI);exact rfl;(first|exact yJ|exact yK rfl rfl|exact yL rfl|exact yM rfl|exact rfl|exact aL rfl rfl rfl rfl rfl|exact aS rfl rfl rfl rfl rfl rfl rfl))|((first|apply yN|apply yO|apply yP);exact rfl)|((first|apply yQ|apply yR|apply yS);(iterate 3 exact rfl);exact l1Yes_ok _)|((first|apply Go.pcallB|apply Go.spcallB|apply Qg.pcallB);(iterate 3 exact rfl);(first|exact sValOk_ok v|exact sValOk_ok w);intro _ _)|(exfalso;omega)|(((first|apply yT|apply yU|apply yV|apply yW);exact rfl;(first|exact .d|exact .e|exact .n|((fail_if_success exact bqt);(fail_if_success exact bqf);exact .b)))<;>intro _)
    all_goals first
      | exact .ret rfl (.int rfl)
      | (exfalso; simp_all; done)
  · rw [eq3, hk]
    have hk2 := hk
    simp only [knownV, Bool.and_eq_true, Bool.not_eq_true', beq_eq_false_iff_ne] at hk2
    obtain ⟨k1, k2, k3, k4⟩ := hk2
    have c1 := sValOk_ok v
    have c2 := sValOk_ok w
    rw [k1] at c1
    rw [k2] at c2
    repeat' first|(apply yA;exact rfl)|apply yB|apply yC|((first|apply yD|apply yE);(first|exact yF|assumption);iterate 6 exact rfl)|((first|apply yG|apply yH|apply yI);exact rfl;(first|exact yJ|exact yK rfl rfl|exact yL rfl|exact yM rfl|exact rfl|exact aL rfl rfl rfl rfl rfl|exact aS rfl rfl rfl rfl rfl rfl rfl))|((first|apply yN|apply yO|apply yP);exact rfl)|((first|apply yQ|apply yR|apply yS);(iterate 3 exact rfl);(first|exact c1|exact c2|exact l1Yes_ok _))|(exfalso;omega)|(((first|apply yT|apply yU|apply yV|apply yW);exact rfl;(first|exact .d|exact .e|exact .n|((fail_if_success exact bqt);(fail_if_success exact bqf);exact .b)))<;>intro _)
    all_goals first
      | (refine .ret rfl (.int ?_); rw [val_eq]; rfl)
      | (exfalso; simp_all; done)
theorem sLess3_ok (v w : Val) : Pure Tryz.prog 245 [.agg (encV v), .agg (encV w)] (.c (.int .i64 (less3 v w))) := by
  refine Pure.run mixed c_spec_Less3_ok (Nat.le_of_ble_eq_true rfl) fun σ hS hA => ?_
  clear hS hA
  cases hk : knownV v w
  · rw [less3, hk]
    have hk2 := hk
    simp only [knownV] at hk2
    repeat' first|(apply yA;exact rfl)|apply yB|apply yC|((first|apply yD|apply yE);(first|exact yF|assumption);iterate 6 exact rfl)|((first|apply yG|apply yH|apply yI);exact rfl;(first|exact yJ|exact yK rfl rfl|exact yL rfl|exact yM rfl|exact rfl|exact aL rfl rfl rfl rfl rfl|exact aS rfl rfl rfl rfl rfl rfl rfl))|((first|apply yN|apply yO|apply yP);exact rfl)|((first|apply yQ|apply yR|apply yS);(iterate 3 exact rfl);(first|exact l1Order_ok v w|exact l1Yes_ok _))|((first|apply Go.pcallB|apply Go.spcallB|apply Qg.pcallB);(iterate 3 exact rfl);(first|exact sValOk_ok v|exact sValOk_ok w);intro _ _)|(exfalso;omega)|(((first|apply yT|apply yU|apply yV|apply yW);exact rfl;(first|exact .d|exact .e|exact .n|((fail_if_success exact bqt);(fail_if_success exact bqf);exact .b)))<;>intro _)
    all_goals first
      | exact .ret rfl (.int rfl)
      | (exfalso; simp_all; done)
  · rw [less3, hk]
    have hk2 := hk
    simp only [knownV, Bool.and_eq_true, Bool.not_eq_true', beq_eq_false_iff_ne] at hk2
    obtain ⟨k1, k2, k3, k4⟩ := hk2
    have c1 := sValOk_ok v
    have c2 := sValOk_ok w
    have c3 := l1Order_ok v w
    rw [l1Ord_order k1 k2] at c3
    rw [k1] at c1
    rw [k2] at c2
    repeat' first|(apply yA;exact rfl)|apply yB|apply yC|((first|apply yD|apply yE);(first|exact yF|assumption);iterate 6 exact rfl)|((first|apply yG|apply yH|apply yI);exact rfl;(first|exact yJ|exact yK rfl rfl|exact yL rfl|exact yM rfl|exact rfl|exact aL rfl rfl rfl rfl rfl|exact aS rfl rfl rfl rfl rfl rfl rfl))|((first|apply yN|apply yO|apply yP);exact rfl)|((first|apply yQ|apply yR|apply yS);(iterate 3 exact rfl);(first|exact c1|exact c2|exact c3|exact l1Yes_ok _))|(exfalso;omega)|(((first|apply yT|apply yU|apply yV|apply yW);exact rfl;(first|exact .d|exact .e|exact .n|((fail_if_success exact bqt);(fail_if_success exact bqf);exact .b)))<;>intro _)
    all_goals first
      | exact .ret rfl (.int rfl)
      | (exfalso; simp_all; done)
theorem l2Tru_ok (t : Int) : Pure Tryz.prog 295 [.c (.int .i64 t)] (.c (.bool (tru t))) := by
  refine Pure.run mixed c_spec_l2Tru_ok (Nat.le_of_ble_eq_true rfl) fun σ hS hA => ?_
  clear hS hA
  repeat' first|(apply yA;exact rfl)|apply yB|apply yC|((first|apply yD|apply yE);(first|exact yF|assumption);iterate 6 exact rfl)|((first|apply yG|apply yH|apply yI);exact rfl;(first|exact yJ|exact yK rfl rfl|exact yL rfl|exact yM rfl|exact rfl|exact aL rfl rfl rfl rfl rfl|exact aS rfl rfl rfl rfl rfl rfl rfl))|((first|apply yN|apply yO|apply yP);exact rfl)|((first|apply yQ|apply yR|apply yS);(iterate 3 exact rfl);exact l1In_ok _ _ _)|(exfalso;omega)|(((first|apply yT|apply yU|apply yV|apply yW);exact rfl;(first|exact .d|exact .e|exact .n|((fail_if_success exact bqt);(fail_if_success exact bqf);exact .b)))<;>intro _)
  exact .ret rfl (.bool rfl)
theorem sAnd3_ok (a b : Int) : Pure Tryz.prog 247 [.c (.int .i64 a), .c (.int .i64 b)] (.c (.int .i64 (and3 a b))) := by
  refine Pure.run mixed c_spec_And3_ok (Nat.le_of_ble_eq_true rfl) fun σ hS hA => ?_
  clear hS hA
  repeat' first|(apply yA;exact rfl)|apply yB|apply yC|((first|apply yD|apply yE);(first|exact yF|assumption);iterate 6 exact rfl)|((first|apply yG|apply yH|apply yI);exact rfl;(first|exact yJ|exact yK rfl rfl|exact yL rfl|exact yM rfl|exact rfl|exact aL rfl rfl rfl rfl rfl|exact aS rfl rfl rfl rfl rfl rfl rfl))|((first|apply yN|apply yO|apply yP);exact rfl)|((first|apply Go.pcallB|apply Go.spcallB|apply Qg.pcallB);(iterate 3 exact rfl);(first|exact l2Tru_ok a|exact l2Tru_ok b);intro _ _)|(exfalso;omega)|(((first|apply yT|apply yU|apply yV|apply yW);exact rfl;(first|exact .d|exact .e|exact .n|((fail_if_success exact bqt);(fail_if_success exact bqf);exact .b)))<;>intro _)
  all_goals refine .ret rfl (.int ?_)
  all_goals simp_all [and3]
theorem sOr3_ok (a b : Int) : Pure Tryz.prog 248 [.c (.int .i64 a), .c (.int .i64 b)] (.c (.int .i64 (or3 a b))) := by
  refine Pure.run mixed c_spec_Or3_ok (Nat.le_of_ble_eq_true rfl) fun σ hS hA => ?_
  clear hS hA
  repeat' first|(apply yA;exact rfl)|apply yB|apply yC|((first|apply yD|apply yE);(first|exact yF|assumption);iterate 6 exact rfl)|((first|apply yG|apply yH|apply yI);exact rfl;(first|exact yJ|exact yK rfl rfl|exact yL rfl|exact yM rfl|exact rfl|exact aL rfl rfl rfl rfl rfl|exact aS rfl rfl rfl rfl rfl rfl rfl))|((first|apply yN|apply yO|apply yP);exact rfl)|((first|apply Go.pcallB|apply Go.spcallB|apply Qg.pcallB);(iterate 3 exact rfl);(first|exact l2Tru_ok a|exact l2Tru_ok b);intro _ _)|(exfalso;omega)|(((first|apply yT|apply yU|apply yV|apply yW);exact rfl;(first|exact .d|exact .e|exact .n|((fail_if_success exact bqt);(fail_if_success exact bqf);exact .b)))<;>intro _)
  all_goals refine .ret rfl (.int ?_)
  all_goals simp_all [or3]
theorem sNot3_ok (a : Int) : Pure Tryz.prog 170 [.c (.int .i64 a)] (.c (.int .i64 (not3 a))) := by
  refine Pure.run mixed c_spec_Not3_ok (Nat.le_of_ble_eq_true rfl) fun σ hS hA => ?_
  clear hS hA
  repeat' first|(apply yA;exact rfl)|apply yB|apply yC|((first|apply yD|apply yE);(first|exact yF|assumption);iterate 6 exact rfl)|((first|apply yG|apply yH|apply yI);exact rfl;(first|exact yJ|exact yK rfl rfl|exact yL rfl|exact yM rfl|exact rfl|exact aL rfl rfl rfl rfl rfl|exact aS rfl rfl rfl rfl rfl rfl rfl))|((first|apply yN|apply yO|apply yP);exact rfl)|(exfalso;omega)|(((first|apply yT|apply yU|apply yV|apply yW);exact rfl;(first|exact .d|exact .e|exact .n|((fail_if_success exact bqt);(fail_if_success exact bqf);exact .b)))<;>intro _)
  all_goals refine .ret rfl (.int ?_)
  · rename_i h; subst h; rfl
  · rename_i h1 h; subst h; rfl
  · rename_i h1 h2 h; subst h; rfl
  · rename_i h1 h2 h3
    have : tru a = false := by
      cases ht : tru a
      · rfl
      · have := tru_range.1 ht; omega
    rw [not3, this]
    rfl
theorem l2Sum_ok (a b : Val) (s : Int) (hs : s = 1 ∨ s = -1) (ha : okVal a = true) (hb : okVal b = true) : Pure Tryz.prog 246 [.agg (encV a), .agg (encV b), .c (.int .i64 s)] (.tup [.agg (encV (sumV a b s).1), .c (.bool (sumV a b s).2)]) := by
  refine Pure.run mixed c_spec_l2Sum_ok (Nat.le_of_ble_eq_true rfl) fun σ hS hA => ?_
  clear hS hA
  by_cases h1 : a.k = 2 ∨ b.k = 2
  · have e : sumV a b s = (vNull, false) := by simp only [sumV, if_pos h1]
    rw [e]
    rcases h1 with h1 | h1
    · repeat' first|(apply yA;exact rfl)|apply yB|apply yC|((first|apply yD|apply yE);(first|exact yF|assumption);iterate 6 exact rfl)|((first|apply yG|apply yH|apply yI);exact rfl;(first|exact yJ|exact yK rfl rfl|exact yL rfl|exact yM rfl|exact rfl|exact aL rfl rfl rfl rfl rfl|exact aS rfl rfl rfl rfl rfl rfl rfl))|((first|apply yN|apply yO|apply yP);exact rfl)|(exfalso;omega)|(((first|apply yT|apply yU|apply yV|apply yW);exact rfl;(first|exact .d|exact .e|exact .n|((fail_if_success exact bqt);(fail_if_success exact bqf);exact .b)))<;>intro _)
      all_goals first
        | exact .ret (retv_mt rfl rfl rfl (Nat.zero_le _) rfl rfl) (fin_vb vNull _)
        | (exfalso; omega)
    · repeat' first|(apply yA;exact rfl)|apply yB|apply yC|((first|apply yD|apply yE);(first|exact yF|assumption);iterate 6 exact rfl)|((first|apply yG|apply yH|apply yI);exact rfl;(first|exact yJ|exact yK rfl rfl|exact yL rfl|exact yM rfl|exact rfl|exact aL rfl rfl rfl rfl rfl|exact aS rfl rfl rfl rfl rfl rfl rfl))|((first|apply yN|apply yO|apply yP);exact rfl)|(exfalso;omega)|(((first|apply yT|apply yU|apply yV|apply yW);exact rfl;(first|exact .d|exact .e|exact .n|((fail_if_success exact bqt);(fail_if_success exact bqf);exact .b)))<;>intro _)
      all_goals first
        | exact .ret (retv_mt rfl rfl rfl (Nat.zero_le _) rfl rfl) (fin_vb vNull _)
        | (exfalso; omega)
  by_cases h2 : a.k = 0 ∨ b.k = 0
  · have e : sumV a b s = (vNull, true) := by simp only [sumV, if_neg h1, if_pos h2]
    rw [e]
    rcases h2 with h2 | h2
    · repeat' first|(apply yA;exact rfl)|apply yB|apply yC|((first|apply yD|apply yE);(first|exact yF|assumption);iterate 6 exact rfl)|((first|apply yG|apply yH|apply yI);exact rfl;(first|exact yJ|exact yK rfl rfl|exact yL rfl|exact yM rfl|exact rfl|exact aL rfl rfl rfl rfl rfl|exact aS rfl rfl rfl rfl rfl rfl rfl))|((first|apply yN|apply yO|apply yP);exact rfl)|(exfalso;omega)|(((first|apply yT|apply yU|apply yV|apply yW);exact rfl;(first|exact .d|exact .e|exact .n|((fail_if_success exact bqt);(fail_if_success exact bqf);exact .b)))<;>intro _)
      all_goals first
        | exact .ret (retv_mt rfl rfl rfl (Nat.zero_le _) rfl rfl) (fin_vb vNull _)
        | (exfalso; omega)
    · repeat' first|(apply yA;exact rfl)|apply yB|apply yC|((first|apply yD|apply yE);(first|exact yF|assumption);iterate 6 exact rfl)|((first|apply yG|apply yH|apply yI);exact rfl;(first|exact yJ|exact yK rfl rfl|exact yL rfl|exact yM rfl|exact rfl|exact aL rfl rfl rfl rfl rfl|exact aS rfl rfl rfl rfl rfl rfl rfl))|((first|apply yN|apply yO|apply yP);exact rfl)|(exfalso;omega)|(((first|apply yT|apply yU|apply yV|apply yW);exact rfl;(first|exact .d|exact .e|exact .n|((fail_if_success exact bqt);(fail_if_success exact bqf);exact .b)))<;>intro _)
      all_goals first
        | exact .ret (retv_mt rfl rfl rfl (Nat.zero_le _) rfl rfl) (fin_vb vNull _)
        | (exfalso; omega)
  have e : sumV a b s = (vInt (a.n + s * b.n), okVal (vInt (a.n + s * b.n))) := by simp only [sumV, if_neg h1, if_neg h2]
  have ka : a.k = 1 := by have := okVal_kind ha; omega
  have kb : b.k = 1 := by have := okVal_kind hb; omega
  have ra := okVal_range ha ka
  have rb := okVal_range hb kb
  have hw : IntKind.i64.wrap (a.n + IntKind.i64.wrap (s * b.n)) = a.n + s * b.n := by
    rcases hs with rfl | rfl
    · rw [wrap64 (n := 1 * b.n) (by omega) (by omega), wrap64 (by omega) (by omega)]
    · rw [wrap64 (n := -1 * b.n) (by omega) (by omega), wrap64 (by omega) (by omega)]
  rw [e]
  repeat' first|(apply yA;exact rfl)|apply yB|apply yC|((first|apply yD|apply yE);(first|exact yF|assumption);iterate 6 exact rfl)|((first|apply yG|apply yH|apply yI);exact rfl;(first|exact yJ|exact yK rfl rfl|exact yL rfl|exact yM rfl|exact rfl|exact aL rfl rfl rfl rfl rfl|exact aS rfl rfl rfl rfl rfl rfl rfl|exact aop_store rfl rfl rfl rfl rfl rfl (Nat.le_of_ble_eq_true rfl)))|((first|apply yN|apply yO|apply yP);exact rfl)|((first|apply yQ|apply yR|apply yS);(iterate 3 exact rfl);(first|exact l1Int_ok _|exact sValOk_ok (vInt (IntKind.i64.wrap (a.n + IntKind.i64.wrap (s * b.n))))))|(exfalso;omega)|(((first|apply yT|apply yU|apply yV|apply yW);exact rfl;(first|exact .d|exact .e|exact .n|((fail_if_success exact bqt);(fail_if_success exact bqf);exact .b)))<;>intro _)
  all_goals first
    | (exfalso; omega)
    | skip
  rw [hw]
  exact .ret (retv_mt rfl rfl rfl (Nat.zero_le _) rfl rfl) (fin_vb (vInt _) _)
def twoR (k : Int) (a b : Val) : Val × Bool := if k = 3 then (asR (eq3 a b), true) else if k = 4 then (asR (less3 a b), true) else if k = 9 then sumV a b 1 else if k = 10 then sumV a b (-1)
  else if ofB a && ofB b then (asR (if k = 5 then and3 (ofT a) (ofT b) else or3 (ofT a) (ofT b)), true) else (vNull, false)
theorem l2Two_ok (k : Int) (a b : Val) (ha : okVal a = true) (hb : okVal b = true) : Pure Tryz.prog 171 [.c (.int .i64 k), .agg (encV a), .agg (encV b)] (.tup [.agg (encV (twoR k a b).1), .c (.bool (twoR k a b).2)]) := by
  refine Pure.run mixed c_spec_l2Two_ok (Nat.le_of_ble_eq_true rfl) fun σ hS hA => ?_
  clear hS hA
  repeat' first|(apply yA;exact rfl)|apply yB|apply yC|((first|apply yD|apply yE);(first|exact yF|assumption);iterate 6 exact rfl)|((first|apply yG|apply yH|apply yI);exact rfl;(first|exact yJ|exact yK rfl rfl|exact yL rfl|exact yM rfl|exact rfl|exact aL rfl rfl rfl rfl rfl|exact aS rfl rfl rfl rfl rfl rfl rfl))|((first|apply yN|apply yO|apply yP);exact rfl)|((first|apply yQ|apply yR|apply yS);(iterate 3 exact rfl);(first|exact sEqual3_ok a b|exact sLess3_ok a b|exact l2As_ok _|exact l2Sum_ok a b 1 (.inl rfl) ha hb|exact l2Sum_ok a b (-1) (.inr rfl) ha hb|exact l2Of_ok a|exact l2Of_ok b|exact sAnd3_ok _ _|exact sOr3_ok _ _))|(exfalso;omega)|(((first|apply yT|apply yU|apply yV|apply yW);exact rfl;(first|exact .d|exact .e|exact .n|((fail_if_success exact bqt);(fail_if_success exact bqf);exact .b)))<;>intro _)
  · rename_i h
    rw [twoR, if_pos h]
    exact .ret (retv_mt rfl rfl rfl (Nat.zero_le _) rfl rfl) (fin_vb _ _)
  · rename_i h0 h
    rw [twoR, if_neg h0, if_pos h]
    exact .ret (retv_mt rfl rfl rfl (Nat.zero_le _) rfl rfl) (fin_vb _ _)
  · rename_i h0 h1 h
    rw [twoR, if_neg h0, if_neg h1, if_pos h]
    exact .ret (retv_mt rfl rfl rfl (Nat.zero_le _) rfl rfl) (fin_vb _ _)
  · rename_i h0 h1 h2 h
    rw [twoR, if_neg h0, if_neg h1, if_neg h2, if_pos h]
    exact .ret (retv_mt rfl rfl rfl (Nat.zero_le _) rfl rfl) (fin_vb _ _)
  · rename_i h0 h1 h2 h3 h
    have h : ofB a = false := by simpa using h
    rw [twoR, if_neg h0, if_neg h1, if_neg h2, if_neg h3, h]
    exact .ret (retv_mt rfl rfl rfl (Nat.zero_le _) rfl rfl) (fin_vb vNull _)
  · rename_i h0 h1 h2 h3 h4 h
    have h : ofB b = false := by simpa using h
    rw [twoR, if_neg h0, if_neg h1, if_neg h2, if_neg h3, h, Bool.and_false]
    exact .ret (retv_mt rfl rfl rfl (Nat.zero_le _) rfl rfl) (fin_vb vNull _)
  · rename_i h0 h1 h2 h3 h4 h h5
    have h4 : ofB a = true := by simpa using h4
    have h : ofB b = true := by simpa using h
    rw [twoR, if_neg h0, if_neg h1, if_neg h2, if_neg h3, h4, h, if_pos h5]
    exact .ret (retv_mt rfl rfl rfl (Nat.zero_le _) rfl rfl) (fin_vb _ _)
  · rename_i h0 h1 h2 h3 h4 h h5
    have h4 : ofB a = true := by simpa using h4
    have h : ofB b = true := by simpa using h
    rw [twoR, if_neg h0, if_neg h1, if_neg h2, if_neg h3, h4, h, if_neg h5]
    exact .ret (retv_mt rfl rfl rfl (Nat.zero_le _) rfl rfl) (fin_vb _ _)
theorem asV_asR {t : Int} (h0 : 0 ≤ t) : asV t = (asR t, true) := by
  simp only [asV, asR]
  split
  · rfl
  · rw [decide_eq_true h0]
theorem ofB_truth {a : Val} (h : ofB a = true) : truthV a = ofT a ∧ 0 ≤ ofT a ∧ ofT a ≤ 2 := by
  simp only [ofB, Bool.or_eq_true, decide_eq_true_eq] at h
  simp only [truthV, ofT]
  have := yes_range (a.n != 0)
  rcases h with h | h
  · simp [h]
  · have hn : ¬ a.k = 0 := by omega
    simp only [if_neg hn, if_pos h]
    refine ⟨?_, this.1, by omega⟩
    by_cases h0 : a.n = 0 <;> simp [h0, yes]
theorem ofB_not {a : Val} (h : ofB a = false) : truthV a = -1 := by
  simp only [ofB, Bool.or_eq_false_iff, decide_eq_false_iff_not] at h
  rw [truthV, if_neg h.1, if_neg h.2]
theorem and3_tru {a b : Int} (ha : 0 ≤ a ∧ a ≤ 2) (hb : 0 ≤ b ∧ b ≤ 2) : 0 ≤ and3 a b := by
  rw [and3, tru_range.2 ha, tru_range.2 hb]
  simp only [Bool.and_self, if_true]
  split
  · omega
  · split <;> omega
theorem or3_tru {a b : Int} (ha : 0 ≤ a ∧ a ≤ 2) (hb : 0 ≤ b ∧ b ≤ 2) : 0 ≤ or3 a b := by
  rw [or3, tru_range.2 ha, tru_range.2 hb]
  simp only [Bool.and_self, if_true]
  split
  · omega
  · split <;> omega
/-- The reference's op of two is the program's. -/
theorem twoR_eq (t : Tok) (a b : Val) (row : List Val) (hk : t.kind = 3 ∨ t.kind = 4 ∨ t.kind = 5 ∨ t.kind = 6 ∨ t.kind = 9 ∨ t.kind = 10) : (twoR t.kind a b).2 = (applyF t [a, b] row).2 ∧ ((applyF t [a, b] row).2 = true → twoR t.kind a b = applyF t [a, b] row) := by
  have h5 : ∀ f : Int → Int → Int, (f = and3 ∨ f = or3) → (if ofB a && ofB b then (asR (f (ofT a) (ofT b)), true) else (vNull, false)).2 = (asV (f (truthV a) (truthV b))).2 ∧ ((asV (f (truthV a) (truthV b))).2 = true → (if ofB a && ofB b then (asR (f (ofT a) (ofT b)), true) else (vNull, false)) = asV (f (truthV a) (truthV b))) := by
    intro f hf
    cases h1 : ofB a
    · have h3 : asV (f (truthV a) (truthV b)) = (vInt (-1), false) := by
        rw [ofB_not h1]
        rcases hf with rfl | rfl
        · rw [and3, show tru (-1) = false from rfl]; rfl
        · rw [or3, show tru (-1) = false from rfl]; rfl
      rw [h3]
      simp
    cases h2 : ofB b
    · have h3 : asV (f (truthV a) (truthV b)) = (vInt (-1), false) := by
        rw [ofB_not h2]
        rcases hf with rfl | rfl
        · rw [and3, show tru (-1) = false from rfl, Bool.and_false]; rfl
        · rw [or3, show tru (-1) = false from rfl, Bool.and_false]; rfl
      rw [h3]
      simp
    obtain ⟨e1, r1⟩ := ofB_truth h1
    obtain ⟨e2, r2⟩ := ofB_truth h2
    rw [e1, e2, asV_asR (by
      rcases hf with rfl | rfl
      · exact and3_tru r1 r2
      · exact or3_tru r1 r2)]
    simp
  rcases hk with h | h | h | h | h | h
  · simp only [twoR, applyF, vAt, h, List.getElem?_cons_zero, List.getElem?_cons_succ, Option.getD_some, Int.reduceEq, if_true, if_false, reduceIte]
    rw [asV_asR (eq3_range a b).1]
    simp
  · simp only [twoR, applyF, vAt, h, List.getElem?_cons_zero, List.getElem?_cons_succ, Option.getD_some, Int.reduceEq, if_true, if_false, reduceIte]
    rw [asV_asR (less3_range a b).1]
    simp
  · simp only [twoR, applyF, vAt, h, List.getElem?_cons_zero, List.getElem?_cons_succ, Option.getD_some, Int.reduceEq, if_true, if_false, reduceIte]
    exact h5 and3 (.inl rfl)
  · simp only [twoR, applyF, vAt, h, List.getElem?_cons_zero, List.getElem?_cons_succ, Option.getD_some, Int.reduceEq, if_true, if_false, reduceIte]
    exact h5 or3 (.inr rfl)
  · simp only [twoR, applyF, vAt, h, List.getElem?_cons_zero, List.getElem?_cons_succ, Option.getD_some, Int.reduceEq, if_true, if_false, reduceIte]
    simp
  · simp only [twoR, applyF, vAt, h, List.getElem?_cons_zero, List.getElem?_cons_succ, Option.getD_some, Int.reduceEq, if_true, if_false, reduceIte]
    simp
end Go.Proofs.YteafjabcpmpmgaaGreat.Am

/- The reader that draws: numbers. -/
set_option linter.unusedVariables false
set_option linter.unusedSimpArgs false
namespace Go.Proofs.YteafjabcpmpmgaaGreat.Am

/-- A number from lo up, below hi. -/
def NumIn (k : IntKind) (lo hi : Int) (r : AV) : Prop := ∃ n : Int, lo ≤ n ∧ n < hi ∧ r = .c (.int k n)
theorem old_c {n : Nat} {k : IntKind} {z : Int} : ∀ y ∈ (AV.c (.int k z)).all, Old n y := fun y hy => by
  simp only [AV.all, List.mem_singleton] at hy
  subst hy
  exact .int _ _
theorem old_b {n : Nat} {b : Bool} : ∀ y ∈ (AV.c (.bool b)).all, Old n y := fun y hy => by
  simp only [AV.all, List.mem_singleton] at hy
  subst hy
  exact .bool _
theorem aop_byte {fr : Fr} {σ : Store} {x : Opd} {b : UInt8} (hx : x.ev fr = some (.c (.fp (encB b)))) : aop (.load false 1 x) fr σ = some (.c (.int .u8 (b.toNat : Int)), σ) := by
  simp [aop, hx, Store.at_, encB, takeA]
theorem wrap_byte (b : UInt8) : IntKind.i64.wrap (b.toNat : Int) = b.toNat := by
  have := b.toNat_lt
  exact wrap64 (by omega) (by omega)
theorem next_ok : Draws Tryz.prog 202 [] (NumIn .i64 0 256) := by
  refine Draws.run mixed c_spec_l1Rd_next_ok (Nat.le_of_ble_eq_true rfl) fun σ id v code p hr hp hc hS => ?_
  clear hS
  by_cases hlt : p < code.length
  · have h1 : IntKind.i64.wrap ((p : Int) + 1) = ((p + 1 : Nat) : Int) := by rw [wrap64 (by omega) (by omega)]; omega
    have h2 : IntKind.i64.wrap (((p + 1 : Nat) : Int) - 1) = (p : Int) := by rw [wrap64 (by omega) (by omega)]; omega
    have hb := (code[p]'hlt).toNat_lt
    repeat' first|(apply yA;exact rfl)|apply yB|apply yC|((first|apply yD|apply yE);(first|exact yF|assumption);iterate 6 exact rfl)|((first|apply yG|apply yH|apply yI);exact rfl;(first|exact yJ|exact yK rfl rfl|exact yL rfl|exact yM rfl|exact rfl|exact aL rfl rfl rfl rfl rfl|exact aS rfl rfl rfl rfl rfl rfl rfl|exact aop_rdb hr rfl|exact aop_rdp hr rfl|exact aop_rdput hr rfl rfl h1|exact yX (enc := encB) rfl rfl h2 hlt rfl|exact aop_byte rfl))|((first|apply yN|apply yO|apply yP);exact rfl)|(exfalso;omega)|(((first|apply yT|apply yU|apply yV|apply yW);exact rfl;(first|exact .d|exact .e|exact .n|((fail_if_success exact bqt);(fail_if_success exact bqf);exact .b)))<;>intro _)
    rw [wrap_byte]
    exact .ret rfl (.c hlt ⟨_, by omega, by omega, rfl⟩ old_c)
  · repeat' first|(apply yA;exact rfl)|apply yB|apply yC|((first|apply yD|apply yE);(first|exact yF|assumption);iterate 6 exact rfl)|((first|apply yG|apply yH|apply yI);exact rfl;(first|exact yJ|exact yK rfl rfl|exact yL rfl|exact yM rfl|exact rfl|exact aL rfl rfl rfl rfl rfl|exact aS rfl rfl rfl rfl rfl rfl rfl|exact aop_rdb hr rfl|exact aop_rdp hr rfl))|((first|apply yN|apply yO|apply yP);exact rfl)|(exfalso;omega)|(((first|apply yT|apply yU|apply yV|apply yW);exact rfl;(first|exact .d|exact .e|exact .n|((fail_if_success exact bqt);(fail_if_success exact bqf);exact .b)))<;>intro _)
    exact .ret rfl (.c hp ⟨0, by omega, by omega, rfl⟩ old_c)
theorem tmod_in {a n : Int} (ha : 0 ≤ a) (hn : 1 < n) : 0 ≤ a.tmod n ∧ a.tmod n < n :=
  ⟨Int.tmod_nonneg n ha, Int.tmod_lt_of_pos a (by omega)⟩
/-- What below answers. -/
def BelowR (n : Int) (r : AV) : Prop := ∃ k : Int, 0 ≤ k ∧ (k < n ∨ (n ≤ 1 ∧ k = 0)) ∧ r = .c (.int .i64 k)
theorem below_ok (n : Int) (hn : n ≤ 34359738368) (h0 : -34359738368 ≤ n) : Draws Tryz.prog 110 [.c (.int .i64 n)] (BelowR n) := by
  refine Draws.run mixed c_spec_l1Rd_below_ok (Nat.le_of_ble_eq_true rfl) fun σ id v code p hr hp hc hS => ?_
  clear hS
  repeat' first|(apply yA;exact rfl)|apply yB|apply yC|((first|apply yD|apply yE);(first|exact yF|assumption);iterate 6 exact rfl)|((first|apply yG|apply yH|apply yI);exact rfl;(first|exact yJ|exact yK rfl rfl|exact yL rfl|exact yM rfl|exact rfl|exact aL rfl rfl rfl rfl rfl|exact aS rfl rfl rfl rfl rfl rfl rfl))|((first|apply yN|apply yO|apply yP);exact rfl)|(exfalso;omega)|(((first|apply yT|apply yU|apply yV|apply yW);exact rfl;(first|exact .d|exact .e|exact .n|((fail_if_success exact bqt);(fail_if_success exact bqf);exact .b)))<;>intro _)
  · rename_i h
    exact .ret rfl (.c hp ⟨0, by omega, .inr ⟨h, rfl⟩, rfl⟩ old_c)
  · rename_i h h2
    refine Go.drawn hr hp rfl rfl rfl next_ok ?_
    rintro _ q hq ⟨a, ha0, ha1, rfl⟩
    have ht := tmod_in ha0 (show 1 < n by omega)
    have hne : n ≠ 0 := by omega
    repeat' first|(apply yA;exact rfl)|apply yB|apply yC|((first|apply yD|apply yE);(first|exact yF|assumption);iterate 6 exact rfl)|((first|apply yG|apply yH|apply yI);exact rfl;(first|exact yJ|exact yK rfl rfl|exact yL rfl|exact yM rfl|exact rfl|exact aL rfl rfl rfl rfl rfl|exact aS rfl rfl rfl rfl rfl rfl rfl|exact aop_remR rfl rfl hne))|((first|apply yN|apply yO|apply yP);exact rfl)|(exfalso;omega)|(((first|apply yT|apply yU|apply yV|apply yW);exact rfl;(first|exact .d|exact .e|exact .n|((fail_if_success exact bqt);(fail_if_success exact bqf);exact .b)))<;>intro _)
    exact .ret rfl (.c hq ⟨_, ht.1, .inl ht.2, rfl⟩ old_c)
  · rename_i h h2
    refine Go.drawn hr hp rfl rfl rfl next_ok ?_
    rintro _ q hq ⟨a, ha0, ha1, rfl⟩
    repeat' first|(apply yA;exact rfl)|apply yB|apply yC|((first|apply yD|apply yE);(first|exact yF|assumption);iterate 6 exact rfl)|((first|apply yG|apply yH|apply yI);exact rfl;(first|exact yJ|exact yK rfl rfl|exact yL rfl|exact yM rfl|exact rfl|exact aL rfl rfl rfl rfl rfl|exact aS rfl rfl rfl rfl rfl rfl rfl))|((first|apply yN|apply yO|apply yP);exact rfl)|(exfalso;omega)|(((first|apply yT|apply yU|apply yV|apply yW);exact rfl;(first|exact .d|exact .e|exact .n|((fail_if_success exact bqt);(fail_if_success exact bqf);exact .b)))<;>intro _)
    refine Go.drawn hr hq rfl rfl rfl next_ok ?_
    rintro _ q2 hq2 ⟨b, hb0, hb1, rfl⟩
    have h3 : IntKind.i64.wrap (a * 256) = a * 256 := wrap64 (by omega) (by omega)
    have h4 : IntKind.i64.wrap (IntKind.i64.wrap (a * 256) + b) = a * 256 + b := by rw [h3, wrap64 (by omega) (by omega)]
    have ht := tmod_in (a := IntKind.i64.wrap (IntKind.i64.wrap (a * 256) + b)) (by omega) (show 1 < n by omega)
    have hne : n ≠ 0 := by omega
    repeat' first|(apply yA;exact rfl)|apply yB|apply yC|((first|apply yD|apply yE);(first|exact yF|assumption);iterate 6 exact rfl)|((first|apply yG|apply yH|apply yI);exact rfl;(first|exact yJ|exact yK rfl rfl|exact yL rfl|exact yM rfl|exact rfl|exact aL rfl rfl rfl rfl rfl|exact aS rfl rfl rfl rfl rfl rfl rfl|exact aop_remR rfl rfl hne))|((first|apply yN|apply yO|apply yP);exact rfl)|(exfalso;omega)|(((first|apply yT|apply yU|apply yV|apply yW);exact rfl;(first|exact .d|exact .e|exact .n|((fail_if_success exact bqt);(fail_if_success exact bqf);exact .b)))<;>intro _)
    exact .ret rfl (.c hq2 ⟨_, ht.1, .inl ht.2, rfl⟩ old_c)
/-- A drawn truth. -/
def Bit (r : AV) : Prop := ∃ b : Bool, r = .c (.bool b)
theorem once_ok (n : Int) (hn : n ≤ 34359738368) (h0 : -34359738368 ≤ n) : Draws Tryz.prog 112 [.c (.int .i64 n)] Bit := by
  refine Draws.run mixed c_spec_l1Rd_once_ok (Nat.le_of_ble_eq_true rfl) fun σ id v code p hr hp hc hS => ?_
  clear hS
  repeat' first|(apply yA;exact rfl)|apply yB|apply yC|((first|apply yD|apply yE);(first|exact yF|assumption);iterate 6 exact rfl)|((first|apply yG|apply yH|apply yI);exact rfl;(first|exact yJ|exact yK rfl rfl|exact yL rfl|exact yM rfl|exact rfl|exact aL rfl rfl rfl rfl rfl|exact aS rfl rfl rfl rfl rfl rfl rfl))|((first|apply yN|apply yO|apply yP);exact rfl)|(exfalso;omega)|(((first|apply yT|apply yU|apply yV|apply yW);exact rfl;(first|exact .d|exact .e|exact .n|((fail_if_success exact bqt);(fail_if_success exact bqf);exact .b)))<;>intro _)
  refine Go.drawn hr hp rfl rfl rfl (below_ok n hn h0) ?_
  rintro _ q hq ⟨a, ha0, ha1, rfl⟩
  repeat' first|(apply yA;exact rfl)|apply yB|apply yC|((first|apply yD|apply yE);(first|exact yF|assumption);iterate 6 exact rfl)|((first|apply yG|apply yH|apply yI);exact rfl;(first|exact yJ|exact yK rfl rfl|exact yL rfl|exact yM rfl|exact rfl|exact aL rfl rfl rfl rfl rfl|exact aS rfl rfl rfl rfl rfl rfl rfl))|((first|apply yN|apply yO|apply yP);exact rfl)|(exfalso;omega)|(((first|apply yT|apply yU|apply yV|apply yW);exact rfl;(first|exact .d|exact .e|exact .n|((fail_if_success exact bqt);(fail_if_success exact bqf);exact .b)))<;>intro _)
  exact .ret rfl (.c hq ⟨_, rfl⟩ old_b)
theorem action_ok : Draws Tryz.prog 200 [] (NumIn .i64 0 3) := by
  refine Draws.run mixed c_spec_l1Rd_action_ok (Nat.le_of_ble_eq_true rfl) fun σ id v code p hr hp hc hS => ?_
  clear hS
  repeat' first|(apply yA;exact rfl)|apply yB|apply yC|((first|apply yD|apply yE);(first|exact yF|assumption);iterate 6 exact rfl)|((first|apply yG|apply yH|apply yI);exact rfl;(first|exact yJ|exact yK rfl rfl|exact yL rfl|exact yM rfl|exact rfl|exact aL rfl rfl rfl rfl rfl|exact aS rfl rfl rfl rfl rfl rfl rfl))|((first|apply yN|apply yO|apply yP);exact rfl)|(exfalso;omega)|(((first|apply yT|apply yU|apply yV|apply yW);exact rfl;(first|exact .d|exact .e|exact .n|((fail_if_success exact bqt);(fail_if_success exact bqf);exact .b)))<;>intro _)
  refine Go.drawn hr hp rfl rfl rfl (below_ok 3 (by decide) (by decide)) ?_
  rintro _ q hq ⟨a, ha0, ha1, rfl⟩
  repeat' first|(apply yA;exact rfl)|apply yB|apply yC|((first|apply yD|apply yE);(first|exact yF|assumption);iterate 6 exact rfl)|((first|apply yG|apply yH|apply yI);exact rfl;(first|exact yJ|exact yK rfl rfl|exact yL rfl|exact yM rfl|exact rfl|exact aL rfl rfl rfl rfl rfl|exact aS rfl rfl rfl rfl rfl rfl rfl))|((first|apply yN|apply yO|apply yP);exact rfl)|(exfalso;omega)|(((first|apply yT|apply yU|apply yV|apply yW);exact rfl;(first|exact .d|exact .e|exact .n|((fail_if_success exact bqt);(fail_if_success exact bqf);exact .b)))<;>intro _)
  exact .ret rfl (.c hq ⟨a, ha0, by omega, rfl⟩ old_c)
theorem word_ok : Draws Tryz.prog 310 [] (fun r => ∃ n : Int, r = .c (.int .u64 n)) := by
  refine Draws.run mixed c_spec_l1Rd_word_ok (Nat.le_of_ble_eq_true rfl) fun σ id v code p hr hp hc hS => ?_
  clear hS
  repeat' first|(apply yA;exact rfl)|apply yB|apply yC|((first|apply yD|apply yE);(first|exact yF|assumption);iterate 6 exact rfl)|((first|apply yG|apply yH|apply yI);exact rfl;(first|exact yJ|exact yK rfl rfl|exact yL rfl|exact yM rfl|exact rfl|exact aL rfl rfl rfl rfl rfl|exact aS rfl rfl rfl rfl rfl rfl rfl))|((first|apply yN|apply yO|apply yP);exact rfl)|(exfalso;omega)|(((first|apply yT|apply yU|apply yV|apply yW);exact rfl;(first|exact .d|exact .e|exact .n|((fail_if_success exact bqt);(fail_if_success exact bqf);exact .b)))<;>intro _)
  refine Go.keep [0, 3, 4] (Go.loops (I := fun m fr τ => ∃ (i : Nat) (k x : Int) (q : Nat), m = 8 - i ∧ i ≤ 8 ∧ k = i ∧ q ≤ code.length ∧
    fr = [(0, .c (.ptr id v 0 0)), (3, .c (.int .u64 x)), (4, .c (.int .i64 k))] ∧ τ = E (Rd.go σ id v code q) []) ?_ _ _ _ ⟨0, _, _, p, rfl, Nat.zero_le _, rfl, hp, rfl, rfl⟩)
  rintro m fr τ ⟨i, k, x, q, rfl, hi, hk, hq, rfl, rfl⟩ hrec
  by_cases hlt : i < 8
  · repeat' first|(apply yA;exact rfl)|apply yB|apply yC|((first|apply yD|apply yE);(first|exact yF|assumption);iterate 6 exact rfl)|((first|apply yG|apply yH|apply yI);exact rfl;(first|exact yJ|exact yK rfl rfl|exact yL rfl|exact yM rfl|exact rfl|exact aL rfl rfl rfl rfl rfl|exact aS rfl rfl rfl rfl rfl rfl rfl))|((first|apply yN|apply yO|apply yP);exact rfl)|(exfalso;omega)|(((first|apply yT|apply yU|apply yV|apply yW);exact rfl;(first|exact .d|exact .e|exact .n|((fail_if_success exact bqt);(fail_if_success exact bqf);exact .b)))<;>intro _)
    refine Go.drawn hr hq rfl rfl rfl next_ok ?_
    rintro _ q2 hq2 ⟨a, ha0, ha1, rfl⟩
    repeat' first|(apply yA;exact rfl)|apply yB|apply yC|((first|apply yD|apply yE);(first|exact yF|assumption);iterate 6 exact rfl)|((first|apply yG|apply yH|apply yI);exact rfl;(first|exact yJ|exact yK rfl rfl|exact yL rfl|exact yM rfl|exact rfl|exact aL rfl rfl rfl rfl rfl|exact aS rfl rfl rfl rfl rfl rfl rfl))|((first|apply yN|apply yO|apply yP);exact rfl)|(exfalso;omega)|(((first|apply yT|apply yU|apply yV|apply yW);exact rfl;(first|exact .d|exact .e|exact .n|((fail_if_success exact bqt);(fail_if_success exact bqf);exact .b)))<;>intro _)
    exact Go.keep [0, 3, 4] (hrec _ _ _ (by omega) ⟨i + 1, _, _, q2, rfl, hlt, wrap_succ hk (by omega), hq2, rfl, rfl⟩)
  · repeat' first|(apply yA;exact rfl)|apply yB|apply yC|((first|apply yD|apply yE);(first|exact yF|assumption);iterate 6 exact rfl)|((first|apply yG|apply yH|apply yI);exact rfl;(first|exact yJ|exact yK rfl rfl|exact yL rfl|exact yM rfl|exact rfl|exact aL rfl rfl rfl rfl rfl|exact aS rfl rfl rfl rfl rfl rfl rfl))|((first|apply yN|apply yO|apply yP);exact rfl)|(exfalso;omega)|(((first|apply yT|apply yU|apply yV|apply yW);exact rfl;(first|exact .d|exact .e|exact .n|((fail_if_success exact bqt);(fail_if_success exact bqf);exact .b)))<;>intro _)
    exact .ret rfl (.c hq ⟨x, rfl⟩ old_c)
/-- Some number. -/
def AnyI (r : AV) : Prop := ∃ n : Int, r = .c (.int .i64 n)
theorem u64_pos {z : Int} (h0 : 1 ≤ z) (h1 : z ≤ 34359738368) : IntKind.u64.wrap z ≠ 0 := by
  have : IntKind.u64.wrap z = z % 18446744073709551616 := by simp [IntKind.wrap, IntKind.bits, IntKind.signed]
  omega
theorem near_ok (lo hi : Int) (h0 : -1073741824 ≤ lo) (h1 : lo ≤ 1073741824) (h2 : -1073741824 ≤ hi) (h3 : hi ≤ 1073741824) : Draws Tryz.prog 278 [.c (.int .i64 lo), .c (.int .i64 hi)] AnyI := by
  refine Draws.run mixed c_spec_l1Rd_near_ok (Nat.le_of_ble_eq_true rfl) fun σ id v code p hr hp hc hS => ?_
  clear hS
  repeat' first|(apply yA;exact rfl)|apply yB|apply yC|((first|apply yD|apply yE);(first|exact yF|assumption);iterate 6 exact rfl)|((first|apply yG|apply yH|apply yI);exact rfl;(first|exact yJ|exact yK rfl rfl|exact yL rfl|exact yM rfl|exact rfl|exact aL rfl rfl rfl rfl rfl|exact aS rfl rfl rfl rfl rfl rfl rfl))|((first|apply yN|apply yO|apply yP);exact rfl)|(exfalso;omega)|(((first|apply yT|apply yU|apply yV|apply yW);exact rfl;(first|exact .d|exact .e|exact .n|((fail_if_success exact bqt);(fail_if_success exact bqf);exact .b)))<;>intro _)
  refine Go.drawn hr hp rfl rfl rfl (below_ok 8 (by decide) (by decide)) ?_
  rintro _ q hq ⟨a, ha0, ha1, rfl⟩
  repeat' first|(apply yA;exact rfl)|apply yB|apply yC|((first|apply yD|apply yE);(first|exact yF|assumption);iterate 6 exact rfl)|((first|apply yG|apply yH|apply yI);exact rfl;(first|exact yJ|exact yK rfl rfl|exact yL rfl|exact yM rfl|exact rfl|exact aL rfl rfl rfl rfl rfl|exact aS rfl rfl rfl rfl rfl rfl rfl))|((first|apply yN|apply yO|apply yP);exact rfl)|(exfalso;omega)|(((first|apply yT|apply yU|apply yV|apply yW);exact rfl;(first|exact .d|exact .e|exact .n|((fail_if_success exact bqt);(fail_if_success exact bqf);exact .b)))<;>intro _)
  · exact .ret rfl (.c hq ⟨_, rfl⟩ old_c)
  · exact .ret rfl (.c hq ⟨_, rfl⟩ old_c)
  · exact .ret rfl (.c hq ⟨_, rfl⟩ old_c)
  · rename_i h5 h6 h7
    refine Go.drawn hr hq rfl rfl rfl word_ok ?_
    rintro _ q2 hq2 ⟨w, rfl⟩
    have e1 : IntKind.i64.wrap (hi - lo) = hi - lo := wrap64 (by omega) (by omega)
    have e2 : IntKind.i64.wrap (IntKind.i64.wrap (hi - lo) + 1) = hi - lo + 1 := by rw [e1, wrap64 (by omega) (by omega)]
    have hne : IntKind.u64.wrap (IntKind.i64.wrap (IntKind.i64.wrap (hi - lo) + 1)) ≠ 0 := by rw [e2]; exact u64_pos (by omega) (by omega)
    repeat' first|(apply yA;exact rfl)|apply yB|apply yC|((first|apply yD|apply yE);(first|exact yF|assumption);iterate 6 exact rfl)|((first|apply yG|apply yH|apply yI);exact rfl;(first|exact yJ|exact yK rfl rfl|exact yL rfl|exact yM rfl|exact rfl|exact aL rfl rfl rfl rfl rfl|exact aS rfl rfl rfl rfl rfl rfl rfl|exact aop_remR rfl rfl hne))|((first|apply yN|apply yO|apply yP);exact rfl)|(exfalso;omega)|(((first|apply yT|apply yU|apply yV|apply yW);exact rfl;(first|exact .d|exact .e|exact .n|((fail_if_success exact bqt);(fail_if_success exact bqf);exact .b)))<;>intro _)
    exact .ret rfl (.c hq2 ⟨_, rfl⟩ old_c)
theorem off_ok (lo hi : Int) (h0 : -1073741824 ≤ lo) (h1 : lo ≤ 1073741824) (h2 : -1073741824 ≤ hi) (h3 : hi ≤ 1073741824) : Draws Tryz.prog 201 [.c (.int .i64 lo), .c (.int .i64 hi)] AnyI := by
  refine Draws.run mixed c_spec_l1Rd_off_ok (Nat.le_of_ble_eq_true rfl) fun σ id v code p hr hp hc hS => ?_
  clear hS
  repeat' first|(apply yA;exact rfl)|apply yB|apply yC|((first|apply yD|apply yE);(first|exact yF|assumption);iterate 6 exact rfl)|((first|apply yG|apply yH|apply yI);exact rfl;(first|exact yJ|exact yK rfl rfl|exact yL rfl|exact yM rfl|exact rfl|exact aL rfl rfl rfl rfl rfl|exact aS rfl rfl rfl rfl rfl rfl rfl))|((first|apply yN|apply yO|apply yP);exact rfl)|(exfalso;omega)|(((first|apply yT|apply yU|apply yV|apply yW);exact rfl;(first|exact .d|exact .e|exact .n|((fail_if_success exact bqt);(fail_if_success exact bqf);exact .b)))<;>intro _)
  refine Go.drawn hr hp rfl rfl rfl (once_ok 24 (by decide) (by decide)) ?_
  rintro _ q hq ⟨b, rfl⟩
  cases b
  · repeat' first|(apply yA;exact rfl)|apply yB|apply yC|((first|apply yD|apply yE);(first|exact yF|assumption);iterate 6 exact rfl)|((first|apply yG|apply yH|apply yI);exact rfl;(first|exact yJ|exact yK rfl rfl|exact yL rfl|exact yM rfl|exact rfl|exact aL rfl rfl rfl rfl rfl|exact aS rfl rfl rfl rfl rfl rfl rfl))|((first|apply yN|apply yO|apply yP);exact rfl)|(exfalso;omega)|(((first|apply yT|apply yU|apply yV|apply yW);exact rfl;(first|exact .d|exact .e|exact .n|((fail_if_success exact bqt);(fail_if_success exact bqf);exact .b)))<;>intro _)
    refine Go.drawn hr hq rfl rfl rfl (near_ok lo hi h0 h1 h2 h3) ?_
    rintro _ q2 hq2 ⟨w, rfl⟩
    repeat' first|(apply yA;exact rfl)|apply yB|apply yC|((first|apply yD|apply yE);(first|exact yF|assumption);iterate 6 exact rfl)|((first|apply yG|apply yH|apply yI);exact rfl;(first|exact yJ|exact yK rfl rfl|exact yL rfl|exact yM rfl|exact rfl|exact aL rfl rfl rfl rfl rfl|exact aS rfl rfl rfl rfl rfl rfl rfl))|((first|apply yN|apply yO|apply yP);exact rfl)|(exfalso;omega)|(((first|apply yT|apply yU|apply yV|apply yW);exact rfl;(first|exact .d|exact .e|exact .n|((fail_if_success exact bqt);(fail_if_success exact bqf);exact .b)))<;>intro _)
    exact .ret rfl (.c hq2 ⟨_, rfl⟩ old_c)
  · repeat' first|(apply yA;exact rfl)|apply yB|apply yC|((first|apply yD|apply yE);(first|exact yF|assumption);iterate 6 exact rfl)|((first|apply yG|apply yH|apply yI);exact rfl;(first|exact yJ|exact yK rfl rfl|exact yL rfl|exact yM rfl|exact rfl|exact aL rfl rfl rfl rfl rfl|exact aS rfl rfl rfl rfl rfl rfl rfl))|((first|apply yN|apply yO|apply yP);exact rfl)|(exfalso;omega)|(((first|apply yT|apply yU|apply yV|apply yW);exact rfl;(first|exact .d|exact .e|exact .n|((fail_if_success exact bqt);(fail_if_success exact bqf);exact .b)))<;>intro _)
    refine Go.drawn hr hq rfl rfl rfl (below_ok 4 (by decide) (by decide)) ?_
    rintro _ q2 hq2 ⟨k, hk0, hk1, rfl⟩
    obtain ⟨m, hm⟩ : ∃ m : Nat, k = m := ⟨k.toNat, by omega⟩
    have hm4 : m < 4 := by omega
    subst hm
    have hz : m = 0 ∨ m = 1 ∨ m = 2 ∨ m = 3 := by omega
    rcases hz with rfl | rfl | rfl | rfl
    all_goals repeat' first|(apply yA;exact rfl)|apply yB|apply yC|((first|apply yD|apply yE);(first|exact yF|assumption);iterate 6 exact rfl)|((first|apply yG|apply yH|apply yI);exact rfl;(first|exact yJ|exact yK rfl rfl|exact yL rfl|exact yM rfl|exact rfl|exact aL rfl rfl rfl rfl rfl|exact aS rfl rfl rfl rfl rfl rfl rfl))|((first|apply yN|apply yO|apply yP);exact rfl)|(exfalso;omega)|(((first|apply yT|apply yU|apply yV|apply yW);exact rfl;(first|exact .d|exact .e|exact .n|((fail_if_success exact bqt);(fail_if_success exact bqf);exact .b)))<;>intro _)
    all_goals exact .ret rfl (.c hq2 ⟨_, rfl⟩ old_c)
/-! ### values and tokens -/
theorem l1Str_ok (x : List UInt8) : Pure Tryz.prog 203 [.c (.str x)] (.agg (encV ⟨2, 0, x⟩)) := by
  refine Pure.run mixed c_spec_l1Str_ok (Nat.le_of_ble_eq_true rfl) fun σ hS hA => ?_
  clear hS hA
  repeat' first|(apply yA;exact rfl)|apply yB|apply yC|((first|apply yD|apply yE);(first|exact yF|assumption);iterate 6 exact rfl)|((first|apply yG|apply yH|apply yI);exact rfl;(first|exact yJ|exact yK rfl rfl|exact yL rfl|exact yM rfl|exact rfl|exact aL rfl rfl rfl rfl rfl|exact aS rfl rfl rfl rfl rfl rfl rfl))|((first|apply yN|apply yO|apply yP);exact rfl)|(exfalso;omega)|(((first|apply yT|apply yU|apply yV|apply yW);exact rfl;(first|exact .d|exact .e|exact .n|((fail_if_success exact bqt);(fail_if_success exact bqf);exact .b)))<;>intro _)
  exact .ret (retv_m rfl rfl rfl (Nat.zero_le _) rfl) (fin_v ⟨2, 0, x⟩)
def tCol (c : Int) : Tok := ⟨1, c, vNull⟩
def tConst (v : Val) : Tok := ⟨2, 0, v⟩
theorem fin_tok {σ : Store} {l : List (Nat × List (List Ce))} (t : Tok) : Fin σ (.agg (encTok t)) (.agg (encTok t)) (E σ l) :=
  ⟨l, rfl, .refl fun y hy => (flatTok t y hy).old _⟩
theorem l2Col_ok (c : Int) : Pure Tryz.prog 128 [.c (.int .i64 c)] (.agg (encTok (tCol c))) := by
  refine Pure.run mixed c_spec_l2Col_ok (Nat.le_of_ble_eq_true rfl) fun σ hS hA => ?_
  clear hS hA
  repeat' first|(apply yA;exact rfl)|apply yB|apply yC|((first|apply yD|apply yE);(first|exact yF|assumption);iterate 6 exact rfl)|((first|apply yG|apply yH|apply yI);exact rfl;(first|exact yJ|exact yK rfl rfl|exact yL rfl|exact yM rfl|exact rfl|exact aL rfl rfl rfl rfl rfl|exact aS rfl rfl rfl rfl rfl rfl rfl))|((first|apply yN|apply yO|apply yP);exact rfl)|(exfalso;omega)|(((first|apply yT|apply yU|apply yV|apply yW);exact rfl;(first|exact .d|exact .e|exact .n|((fail_if_success exact bqt);(fail_if_success exact bqf);exact .b)))<;>intro _)
  exact .ret (retv_m rfl rfl rfl (Nat.zero_le _) rfl) (fin_tok (tCol c))
theorem l2Const_ok (w : Val) : Pure Tryz.prog 199 [.agg (encV w)] (.agg (encTok (tConst w))) := by
  refine Pure.run mixed c_spec_l2Const_ok (Nat.le_of_ble_eq_true rfl) fun σ hS hA => ?_
  clear hS hA
  repeat' first|(apply yA;exact rfl)|apply yB|apply yC|((first|apply yD|apply yE);(first|exact yF|assumption);iterate 6 exact rfl)|((first|apply yG|apply yH|apply yI);exact rfl;(first|exact yJ|exact yK rfl rfl|exact yL rfl|exact yM rfl|exact rfl|exact aL rfl rfl rfl rfl rfl|exact aS rfl rfl rfl rfl rfl rfl rfl))|((first|apply yN|apply yO|apply yP);exact rfl)|(exfalso;omega)|(((first|apply yT|apply yU|apply yV|apply yW);exact rfl;(first|exact .d|exact .e|exact .n|((fail_if_success exact bqt);(fail_if_success exact bqf);exact .b)))<;>intro _)
  exact .ret (retv_m rfl rfl rfl (Nat.zero_le _) rfl) (fin_tok (tConst w))
/-- A drawn value. -/
def AnyV (r : AV) : Prop := ∃ w : Val, w.s.length ≤ 12 ∧ r = .agg (encV w)
theorem old_v {n : Nat} (w : Val) : ∀ y ∈ (AV.agg (encV w)).all, Old n y := fun y hy => (encV_flat w y hy).old _
end Go.Proofs.YteafjabcpmpmgaaGreat.Am

/- Expressions: the reference's evaluation. -/
set_option linter.unusedVariables false
set_option linter.unusedSimpArgs false
namespace Go.Proofs.YteafjabcpmpmgaaGreat.Am

theorem drop1 {st : List Val} (h : 1 ≤ st.length) : st.drop (st.length - 1) = [st[st.length - 1]] := by
  rw [List.drop_eq_getElem_cons (by omega), List.drop_eq_nil_of_le (by omega)]
theorem drop2 {st : List Val} (h : 2 ≤ st.length) : st.drop (st.length - 2) = [st[st.length - 2], st[st.length - 1]] := by
  rw [List.drop_eq_getElem_cons (by omega), show st.length - 2 + 1 = st.length - 1 by omega, drop1 (by omega)]
theorem frz_all {σ : Store} {l : List (Nat × List (List Ce))} {k v N : Nat} {ys : List Val} {junk : List (List Ce)} (hl : l[k]? = some (v, ys.map encV ++ junk)) (hN : N ≤ σ.next + k) : FrzV (E σ l) N (.c (vec (σ.next + k) v (ys.map encV) junk)) (.c (.fz (ys.map encV))) :=
  frz_drop (n := 0) hl flats (Nat.zero_le _) hN
theorem l2Eval_ok (e : List Tok) (row : List Val) (hx : e.length ≤ 24) (hrl : row.length ≤ 16) (hok : Oks row) (hea : exprAux row.length 0 e = true) : Pure Tryz.prog 70 [.c (.fz (e.map encTok)), .c (.fz (row.map encV))] (.tup [.agg (encV (evalR e row).1), .c (.bool (evalR e row).2)]) := by
  refine Pure.run mixed c_spec_l2Eval_ok (Nat.le_of_ble_eq_true rfl) fun σ hS hA => ?_
  clear hA
  repeat' first|(apply yA;exact rfl)|apply yB|apply yC|((first|apply yD|apply yE);(first|exact yF|assumption);iterate 6 exact rfl)|((first|apply yG|apply yH|apply yI);exact rfl;(first|exact yJ|exact yK rfl rfl|exact yL rfl|exact yM rfl|exact rfl|exact aL rfl rfl rfl rfl rfl|exact aS rfl rfl rfl rfl rfl rfl rfl))|((first|apply yN|apply yO|apply yP);exact rfl)|(exfalso;omega)|(((first|apply yT|apply yU|apply yV|apply yW);exact rfl;(first|exact .d|exact .e|exact .n|((fail_if_success exact bqt);(fail_if_success exact bqf);exact .b)))<;>intro _)
  refine Go.freezeN (l := [(0, [[.int .i64 0, .int .i64 0, .str []]])]) (m := [(0, [])]) (fr' := [(0, .c (.fz (e.map encTok))), (1, .c (.fz (row.map encV))), (4, .c (.ptr (σ.next + 0) 0 0 0)), (6, .c (.fz (([] : List Val).map encV))), (7, .c (.int .i64 0))])
    hS (fun b hb e he x hx => ?_) (Nat.le_refl _) (.frz rfl (.refl old_encTok) (.frz rfl (.refl old_encV) (.frz rfl (.refl (old_ptr (by simp))) (.frz rfl (frz_all (σ := σ) (l := [(0, [[.int .i64 0, .int .i64 0, .str []]]), (0, [])]) (k := 1) (v := 0) (ys := []) (junk := []) rfl (Nat.le_refl _)) (.frz rfl (.refl old_int) .nil))))) ?_
  · rw [List.mem_singleton.1 hb] at he
    exact (flats (l := [vNull]) e he x hx).old _
  refine Go.loops (I := fun m fr τ => ∃ (i : Nat) (k : Int) (st : List Val), m = e.length - i ∧ i ≤ e.length ∧ k = i ∧ (st.length ≤ i ∧ Oks st ∧ exprAux row.length st.length (e.drop i) = true ∧ evalL row e [] = evalL row (e.drop i) st) ∧
    fr = [(0, .c (.fz (e.map encTok))), (1, .c (.fz (row.map encV))), (4, .c (.ptr (σ.next + 0) 0 0 0)), (6, .c (.fz (st.map encV))), (7, .c (.int .i64 k))] ∧
      τ = E σ [(0, [[.int .i64 0, .int .i64 0, .str []]])]) ?_ _ _ _ ⟨0, _, [], rfl, Nat.zero_le _, rfl, ⟨Nat.zero_le _, fun v hv => (by simp at hv), hea, rfl⟩, rfl, rfl⟩
  rintro m fr τ ⟨i, k, st, rfl, hi, hk, ⟨hsl, hst, haux, hev⟩, rfl, rfl⟩ hrec
  clear hea
  by_cases hlt : i < e.length
  · rw [List.drop_eq_getElem_cons hlt] at haux hev
    obtain ⟨htk, hle, haux⟩ := exprAux_cons haux
    have htr := tokTakes_range e[i]
    have hkd := isTok_kinds htk
    have hcol := isTok_col htk
    have hft : fromOf e[i] st = st.length - (tokTakes e[i]).toNat := rfl
    have hres := applyF_ok (tokOk_const htk) (hst.drop (fromOf e[i] st)) hok
    rw [evalL] at hev
    have hsl1 : st.length ≤ 24 := by omega
    obtain ⟨ap, hap⟩ : ∃ ap, applyF e[i] (st.drop (fromOf e[i] st)) row = ap := ⟨_, rfl⟩
    rw [hap] at hres hev
    repeat' first|apply Go.seq|apply Go.skip|apply Go.region|apply Go.nil|apply Go.blk|apply Go.draw|apply Go.segs|(apply Go.exit;exact rfl)|(apply Go.cond true;exact rfl)|(apply Go.cond false;exact rfl)|apply yB|apply yC|((first|apply yG|apply yH|apply yI);exact rfl;(first|exact yJ|exact yK rfl rfl|exact yL rfl|exact yM rfl|exact rfl|exact aL rfl rfl rfl rfl rfl|exact aS rfl rfl rfl rfl rfl rfl rfl))|((first|apply yN|apply yO|apply yP);exact rfl)|(exfalso;omega)|(((first|apply yT|apply yU|apply yV|apply yW);exact rfl;(first|exact .d|exact .e|exact .n|((fail_if_success exact bqt);(fail_if_success exact bqf);exact .b)))<;>intro _)
    apply Go.block
    repeat' first|apply Go.seq|apply Go.skip|apply Go.region|apply Go.nil|apply Go.blk|apply Go.draw|apply Go.segs|(apply Go.exit;exact rfl)|(apply Go.cond true;exact rfl)|(apply Go.cond false;exact rfl)|apply yB|apply yC|((first|apply yG|apply yH|apply yI);exact rfl;(first|exact yJ|exact yK rfl rfl|exact yL rfl|exact yM rfl|exact rfl|exact aL rfl rfl rfl rfl rfl|exact aS rfl rfl rfl rfl rfl rfl rfl|exact yX (enc := encTok) rfl rfl hk hlt rfl))|((first|apply yN|apply yO|apply yP);exact rfl)|(exfalso;omega)|(((first|apply yT|apply yU|apply yV|apply yW);exact rfl;(first|exact .d|exact .e|exact .n|((fail_if_success exact bqt);(fail_if_success exact bqf);exact .b)))<;>intro _)
    apply Go.block
    refine Go.join (K' := [_]) (fun fr τ => ∃ (av : Val) (ab : Bool), ab = ap.2 ∧ (ab = true → av = ap.1) ∧
      fr = [(0, .c (.fz (e.map encTok))), (1, .c (.fz (row.map encV))), (4, .c (.ptr (σ.next + 0) 0 0 0)), (6, .c (.fz (st.map encV))), (7, .c (.int .i64 k)), (8, .c (.int .i64 (st.length : Int))), (9, .c (.ptr (σ.next + 1) 0 0 0)), (10, .c (.bool ab)), (11, .c (.int .i64 (tokTakes e[i])))] ∧
      τ = E σ [(0, [[.int .i64 0, .int .i64 0, .str []]]), (0, [encV av])]) ?_ ?_
    · rintro fr τ ⟨av, ab, hab, hav, rfl, rfl⟩
      cases ab
      · rw [← hab, if_neg Bool.false_ne_true] at hev
        have hR : evalR e row = (vNull, false) := by rw [evalR, hev]
        rw [hR]
        repeat' first|(apply yA;exact rfl)|apply yB|apply yC|((first|apply yD|apply yE);(first|exact yF|assumption);iterate 6 exact rfl)|((first|apply yG|apply yH|apply yI);exact rfl;(first|exact yJ|exact yK rfl rfl|exact yL rfl|exact yM rfl|exact rfl|exact aL rfl rfl rfl rfl rfl|exact aS rfl rfl rfl rfl rfl rfl rfl))|((first|apply yN|apply yO|apply yP);exact rfl)|(exfalso;omega)|(((first|apply yT|apply yU|apply yV|apply yW);exact rfl;(first|exact .d|exact .e|exact .n|((fail_if_success exact bqt);(fail_if_success exact bqf);exact .b)))<;>intro _)
        exact .ret (retv_mt rfl rfl rfl (Nat.zero_le _) rfl rfl) (fin_vb vNull _)
      obtain rfl := hav rfl
      rw [← hab, if_pos rfl] at hev
      have hn : fromOf e[i] st ≤ (st.map encV).length := by rw [List.length_map, hft]; omega
      have hz : IntKind.i64.wrap ((st.length : Int) - tokTakes e[i]) = (fromOf e[i] st : Int) := by rw [wrap64 (by omega) (by omega), hft]; omega
      have hres := hres hab.symm
      have hl1 : ((st.take (fromOf e[i] st)).length : Int) = st.length - tokTakes e[i] := by rw [List.length_take, hft]; omega
      generalize fromOf e[i] st = n at hn hz hl1 hev
      repeat' first|apply Go.seq|apply Go.skip|apply Go.region|apply Go.nil|apply Go.block|apply Go.blk|apply Go.segs|(apply Go.exit;exact rfl)|(apply Go.cond true;exact rfl)|(apply Go.cond false;exact rfl)|apply yB|apply yC|((first|apply yD|apply yE);(first|exact yF|assumption);iterate 6 exact rfl)|((first|apply yG|apply yH|apply yI);exact rfl;(first|exact yJ|exact yK rfl rfl|exact yL rfl|exact yM rfl|exact rfl|exact aL rfl rfl rfl rfl rfl|exact aS rfl rfl rfl rfl rfl rfl rfl))|((first|apply yN|apply yO|apply yP);exact rfl)|(exfalso;omega)|(((first|apply yT|apply yU|apply yV|apply yW);exact rfl;(first|exact .d|exact .e|exact .n|((fail_if_success exact bqt);(fail_if_success exact bqf);exact .b)))<;>intro _)
      apply Go.draw
      refine Go.qkm [(0, [[.int .i64 0, .int .i64 0, .str []]]), (0, [encV ap.1])] [] ?_
      repeat' first|(apply Qk.nil;show Go _ _ _ _ _ _ _ _)|(apply Qk.op;exact rfl;(first|(rintro _ ⟨_, rfl⟩;exact rfl)|(rintro _ ⟨_, rfl⟩;exact aop_load rfl rfl rfl (Nat.le_of_ble_eq_true rfl) rfl)|(rintro _ ⟨_, rfl⟩;exact aop_sliceF (s := 3) rfl rfl hz hn lens)))|(apply Qk.no;exact rfl)|(apply Qk.wop;exact rfl;exact rfl;(first|exact yJ|exact yL rfl|exact aop_store rfl rfl rfl rfl rfl rfl (Nat.le_of_ble_eq_true rfl));exact ⟨_, rfl⟩)
      have hb1 : (([] : List (List Ce)).length + ((st.map encV).take n).length) * 32 ≤ 140737488355328 := by rw [List.length_take, List.length_map, List.length_nil]; omega
      refine Qk.app (k := 2) (v := 0) (ys := []) (junk := []) (zs := (st.map encV).take n) rfl rfl rfl rfl rfl (fun e he => (by simp at he)) Jk.nil (fun e he => lens e (List.mem_of_mem_take he)) hb1 (fun z => ⟨[z], rfl⟩) fun v1 j1 hj1 => ?_
      repeat' first|(apply Qk.nil;show Go _ _ _ _ _ _ _ _)|(apply Qk.op;exact rfl;(first|(rintro _ ⟨_, rfl⟩;exact rfl)|(rintro _ ⟨_, rfl⟩;exact aop_load rfl rfl rfl (Nat.le_of_ble_eq_true rfl) rfl)))|(apply Qk.no;exact rfl)|(apply Qk.wop;exact rfl;exact rfl;(first|exact yJ|exact yL rfl|exact aop_store rfl rfl rfl rfl rfl rfl (Nat.le_of_ble_eq_true rfl));exact ⟨_, rfl⟩)
      have hb2 : ((([] : List (List Ce)) ++ (st.map encV).take n).length + 1) * 32 ≤ 140737488355328 := by rw [List.nil_append, List.length_take, List.length_map]; omega
      refine Go.sapp1 (k := 2) (z := encV ap.1) rfl rfl rfl rfl rfl (fun e he => lens e (List.mem_of_mem_take he)) hj1 rfl hb2 fun v' junk' hj' => ?_
      repeat' first|(apply yA;exact rfl)|apply yB|apply yC|((first|apply yD|apply yE);(first|exact yF|assumption);iterate 6 exact rfl)|((first|apply yG|apply yH|apply yI);exact rfl;(first|exact yJ|exact yK rfl rfl|exact yL rfl|exact yM rfl|exact rfl|exact aL rfl rfl rfl rfl rfl|exact aS rfl rfl rfl rfl rfl rfl rfl))|((first|apply yN|apply yO|apply yP);exact rfl)|(exfalso;omega)|(((first|apply yT|apply yU|apply yV|apply yW);exact rfl;(first|exact .d|exact .e|exact .n|((fail_if_success exact bqt);(fail_if_success exact bqf);exact .b)))<;>intro _)
      have e1 : [] ++ (st.map encV).take n ++ [encV ap.1] = (st.take n ++ [ap.1]).map encV := by simp
      rw [e1]
      refine Go.freezeN (l := [(0, [[.int .i64 0, .int .i64 0, .str []]])]) (m := [(0, [encV ap.1]), (v', (st.take n ++ [ap.1]).map encV ++ junk')])
        (fr' := [(0, .c (.fz (e.map encTok))), (1, .c (.fz (row.map encV))), (4, .c (.ptr (σ.next + 0) 0 0 0)), (6, .c (.fz ((st.take n ++ [ap.1]).map encV))), (7, .c (.int .i64 (IntKind.i64.wrap (k + 1))))])
        hS (fun b hb e he x hx => ?_) (Nat.le_refl _) (.frz rfl (.refl old_encTok) (.frz rfl (.refl old_encV) (.frz rfl (.refl (old_ptr (by simp))) (.frz rfl (frz_all (σ := σ) (l := [(0, [[.int .i64 0, .int .i64 0, .str []]]), (0, [encV ap.1]), (v', (st.take n ++ [ap.1]).map encV ++ junk')]) (k := 2) (v := v') (ys := st.take n ++ [ap.1]) (junk := junk') rfl (Nat.le_succ _)) (.frz rfl (.refl old_int) .nil))))) ?_
      · rw [List.mem_singleton.1 hb] at he
        exact (flats (l := [vNull]) e he x hx).old _
      refine hrec _ _ _ (by omega) ⟨i + 1, _, st.take n ++ [ap.1], rfl, hlt, wrap_succ hk (by omega), ⟨?_, (hst.take n).snoc hres, ?_, hev⟩, rfl, rfl⟩
      · simp only [List.length_append, List.length_take, List.length_singleton]; omega
      · have e2 : ((st.take n ++ [ap.1]).length : Int) = st.length + 1 - tokTakes e[i] := by
          simp only [List.length_append, List.length_singleton]
          omega
        rw [e2]
        exact haux
    intro hj
    rw [List.singleton_append]
    by_cases h1 : e[i].kind = 1
    · have htk0 : tokTakes e[i] = 0 := by rw [tokTakes, if_pos (.inl h1)]
      have hc2 := hcol h1
      have hcz : e[i].col = (e[i].col.toNat : Int) := by omega
      have hcl : e[i].col.toNat < row.length := by omega
      have hape : ap = (row[e[i].col.toNat], true) := by rw [← hap, applyF, if_pos h1, vAt, List.getElem?_eq_getElem hcl]; rfl
      rw [htk0] at hj
      repeat' first|apply Go.seq|apply Go.skip|apply Go.region|apply Go.nil|apply Go.block|apply Go.draw|apply Go.segs|(apply Go.exit;exact rfl)|(apply Go.cond true;exact rfl)|(apply Go.cond false;exact rfl)|apply yB|apply yC|((first|apply yG|apply yH|apply yI);exact rfl;(first|exact yJ|exact yK rfl rfl|exact yL rfl|exact yM rfl|exact rfl|exact aL rfl rfl rfl rfl rfl|exact aS rfl rfl rfl rfl rfl rfl rfl|exact yX (enc := encTok) rfl rfl hk hlt rfl|exact yX (enc := encV) rfl rfl hcz hcl rfl))|((first|apply yN|apply yO|apply yP);exact rfl)|(exfalso;omega)|(((first|apply yT|apply yU|apply yV|apply yW);exact rfl;(first|exact .d|exact .e|exact .n|((fail_if_success exact bqt);(fail_if_success exact bqf);exact .b)))<;>intro _)
      exact Go.keep [0, 1, 4, 6, 7, 8, 9, 10, 11] (hj _ _ ⟨row[e[i].col.toNat], true, by rw [hape], fun _ => by rw [hape], rfl, rfl⟩)
    by_cases h2 : e[i].kind = 2
    · have htk0 : tokTakes e[i] = 0 := by rw [tokTakes, if_pos (.inr h2)]
      have hape : ap = (e[i].v, true) := by rw [← hap, applyF, if_neg h1, if_pos h2]
      rw [htk0] at hj
      repeat' first|apply Go.seq|apply Go.skip|apply Go.region|apply Go.nil|apply Go.block|apply Go.draw|apply Go.segs|(apply Go.exit;exact rfl)|(apply Go.cond true;exact rfl)|(apply Go.cond false;exact rfl)|apply yB|apply yC|((first|apply yG|apply yH|apply yI);exact rfl;(first|exact yJ|exact yK rfl rfl|exact yL rfl|exact yM rfl|exact rfl|exact aL rfl rfl rfl rfl rfl|exact aS rfl rfl rfl rfl rfl rfl rfl|exact yX (enc := encTok) rfl rfl hk hlt rfl))|((first|apply yN|apply yO|apply yP);exact rfl)|(exfalso;omega)|(((first|apply yT|apply yU|apply yV|apply yW);exact rfl;(first|exact .d|exact .e|exact .n|((fail_if_success exact bqt);(fail_if_success exact bqf);exact .b)))<;>intro _)
      exact Go.keep [0, 1, 4, 6, 7, 8, 9, 10, 11] (hj _ _ ⟨e[i].v, true, by rw [hape], fun _ => by rw [hape], rfl, rfl⟩)
    have hn12 : ¬ (e[i].kind = 1 ∨ e[i].kind = 2) := by omega
    by_cases h8 : e[i].kind = 8
    · have htk0 : tokTakes e[i] = 1 := by rw [tokTakes, if_neg hn12, if_pos (.inr h8)]
      have hz1 : IntKind.i64.wrap ((st.length : Int) - 1) = ((st.length - 1 : Nat) : Int) := by rw [wrap64 (by omega) (by omega)]; omega
      have hl1 : st.length - 1 < st.length := by omega
      have hf : fromOf e[i] st = st.length - 1 := by rw [hft, htk0]; rfl
      have hyr := yes_range (st[st.length - 1].k == 0)
      have hape : ap = (asR (yes (st[st.length - 1].k == 0)), true) := by
        rw [← hap, hf, drop1 (by omega), ← asV_asR hyr.1]
        simp [applyF, h8, vAt]
      have hv : asR (yes (st[st.length - 1].k == 0)) = vInt (yes (st[st.length - 1].k == 0)) := by rw [asR, if_neg (by omega)]
      rw [htk0] at hj
      repeat' first|apply Go.seq|apply Go.skip|apply Go.region|apply Go.nil|apply Go.block|apply Go.draw|apply Go.segs|(apply Go.exit;exact rfl)|(apply Go.cond true;exact rfl)|(apply Go.cond false;exact rfl)|apply yB|apply yC|((first|apply yG|apply yH|apply yI);exact rfl;(first|exact yJ|exact yK rfl rfl|exact yL rfl|exact yM rfl|exact rfl|exact aL rfl rfl rfl rfl rfl|exact aS rfl rfl rfl rfl rfl rfl rfl|exact yX (enc := encTok) rfl rfl hk hlt rfl|exact yX (enc := encV) rfl rfl hz1 hl1 rfl))|((first|apply yN|apply yO|apply yP);exact rfl)|((first|apply yQ|apply yR|apply yS);(iterate 3 exact rfl);(first|exact l1Yes_ok _|exact l1Int_ok _))|(exfalso;omega)|(((first|apply yT|apply yU|apply yV|apply yW);exact rfl;(first|exact .d|exact .e|exact .n|((fail_if_success exact bqt);(fail_if_success exact bqf);exact .b)))<;>intro _)
      exact Go.keep [0, 1, 4, 6, 7, 8, 9, 10, 11] (hj _ _ ⟨vInt (yes (st[st.length - 1].k == 0)), true, by rw [hape], fun _ => by rw [hape, hv], rfl, rfl⟩)
    by_cases h7 : e[i].kind = 7
    · have htk0 : tokTakes e[i] = 1 := by rw [tokTakes, if_neg hn12, if_pos (.inl h7)]
      have hz1 : IntKind.i64.wrap ((st.length : Int) - 1) = ((st.length - 1 : Nat) : Int) := by rw [wrap64 (by omega) (by omega)]; omega
      have hl1 : st.length - 1 < st.length := by omega
      have hf : fromOf e[i] st = st.length - 1 := by rw [hft, htk0]; rfl
      have hape : ap = asV (not3 (truthV st[st.length - 1])) := by
        rw [← hap, hf, drop1 (by omega)]
        simp [applyF, h7, vAt]
      rw [htk0] at hj
      repeat' first|apply Go.seq|apply Go.skip|apply Go.region|apply Go.nil|apply Go.block|apply Go.draw|apply Go.segs|(apply Go.exit;exact rfl)|(apply Go.cond true;exact rfl)|(apply Go.cond false;exact rfl)|apply yB|apply yC|((first|apply yG|apply yH|apply yI);exact rfl;(first|exact yJ|exact yK rfl rfl|exact yL rfl|exact yM rfl|exact rfl|exact aL rfl rfl rfl rfl rfl|exact aS rfl rfl rfl rfl rfl rfl rfl|exact yX (enc := encTok) rfl rfl hk hlt rfl|exact yX (enc := encV) rfl rfl hz1 hl1 rfl))|((first|apply yN|apply yO|apply yP);exact rfl)|((first|apply yQ|apply yR|apply yS);(iterate 3 exact rfl);(first|exact l2Of_ok st[st.length - 1]|exact sNot3_ok _|exact l2As_ok _))|(exfalso;omega)|(((first|apply yT|apply yU|apply yV|apply yW);exact rfl;(first|exact .d|exact .e|exact .n|((fail_if_success exact bqt);(fail_if_success exact bqf);exact .b)))<;>intro _)
      refine Go.keep [0, 1, 4, 6, 7, 8, 9, 10, 11] (hj _ _ ⟨asR (not3 (ofT st[st.length - 1])), ofB st[st.length - 1], ?_, ?_, rfl, rfl⟩)
      · rw [hape]
        cases hb : ofB st[st.length - 1]
        · rw [ofB_not hb]; rfl
        · obtain ⟨q1, q2⟩ := ofB_truth hb
          rw [q1, asV_asR]
          rw [not3, tru_range.2 q2, if_pos rfl]
          split <;> omega
      · intro hb
        obtain ⟨q1, q2⟩ := ofB_truth hb
        rw [hape, q1, asV_asR]
        rw [not3, tru_range.2 q2, if_pos rfl]
        split <;> omega
    have htk0 : tokTakes e[i] = 2 := by rw [tokTakes, if_neg hn12, if_neg (by omega)]
    have hz1 : IntKind.i64.wrap ((st.length : Int) - 1) = ((st.length - 1 : Nat) : Int) := by rw [wrap64 (by omega) (by omega)]; omega
    have hz2 : IntKind.i64.wrap ((st.length : Int) - 2) = ((st.length - 2 : Nat) : Int) := by rw [wrap64 (by omega) (by omega)]; omega
    have hl1 : st.length - 1 < st.length := by omega
    have hl2 : st.length - 2 < st.length := by omega
    have hf : fromOf e[i] st = st.length - 2 := by rw [hft, htk0]; rfl
    obtain ⟨hw1, hw2⟩ := twoR_eq e[i] st[st.length - 2] st[st.length - 1] row (by omega)
    have hap2 : applyF e[i] [st[st.length - 2], st[st.length - 1]] row = ap := by rw [← hap, hf, drop2 (by omega)]
    rw [hap2] at hw1 hw2
    have ctwo := l2Two_ok e[i].kind st[st.length - 2] st[st.length - 1] (hst _ (List.getElem_mem _)) (hst _ (List.getElem_mem _))
    generalize twoR e[i].kind st[st.length - 2] st[st.length - 1] = tw at ctwo hw1 hw2
    rw [htk0] at hj
    repeat' first|apply Go.seq|apply Go.skip|apply Go.region|apply Go.nil|apply Go.block|apply Go.segs|(apply Go.exit;exact rfl)|(apply Go.cond true;exact rfl)|(apply Go.cond false;exact rfl)|apply yB|apply yC|((first|apply yG|apply yH|apply yI);exact rfl;(first|exact yJ|exact yK rfl rfl|exact yL rfl|exact yM rfl|exact rfl|exact aL rfl rfl rfl rfl rfl|exact aS rfl rfl rfl rfl rfl rfl rfl|exact yX (enc := encTok) rfl rfl hk hlt rfl))|((first|apply yN|apply yO|apply yP);exact rfl)|(exfalso;omega)|(((first|apply yT|apply yU|apply yV|apply yW);exact rfl;(first|exact .d|exact .e|exact .n|((fail_if_success exact bqt);(fail_if_success exact bqf);exact .b)))<;>intro _)
    apply Go.draw
    apply Go.qs
    repeat' first|(apply yA;exact rfl)|apply yC|((first|apply yD|apply yE);(first|exact yF|assumption);iterate 6 exact rfl)|((first|apply yG|apply yH|apply yI);exact rfl;(first|exact yJ|exact yK rfl rfl|exact yL rfl|exact yM rfl|exact rfl|exact aL rfl rfl rfl rfl rfl|exact aS rfl rfl rfl rfl rfl rfl rfl|exact yX (enc := encTok) rfl rfl hk hlt rfl|exact yX (enc := encV) rfl rfl hz2 hl2 rfl|exact yX (enc := encV) rfl rfl hz1 hl1 rfl|exact aop_load rfl rfl rfl (Nat.le_of_ble_eq_true rfl) rfl))|((first|apply yN|apply yO|apply yP);exact rfl)|((first|apply yQ|apply yR|apply yS);(iterate 3 exact rfl);exact ctwo)|(exfalso;omega)|(((first|apply yT|apply yU|apply yV|apply yW);exact rfl;(first|exact .d|exact .e|exact .n|((fail_if_success exact bqt);(fail_if_success exact bqf);exact .b)))<;>intro _)
    refine Go.qkm [(0, [[.int .i64 0, .int .i64 0, .str []]])] [(0, [encV vNull])] ?_
    repeat' first|(apply Qk.nil;show Go _ _ _ _ _ _ _ _)|(apply Qk.op;exact rfl;(first|(rintro _ ⟨_, rfl⟩;exact rfl)|(rintro _ ⟨_, rfl⟩;exact aop_load rfl rfl rfl (Nat.le_of_ble_eq_true rfl) rfl)))|(apply Qk.no;exact rfl)|(apply Qk.wop;exact rfl;exact rfl;(first|exact yJ|exact yL rfl|exact aop_store rfl rfl rfl rfl rfl rfl (Nat.le_of_ble_eq_true rfl));exact ⟨_, rfl⟩)
    repeat' first|apply Go.seq|apply Go.skip|apply Go.region|apply Go.nil|apply Go.block|apply Go.draw|apply Go.segs|(apply Go.exit;exact rfl)|(apply Go.cond true;exact rfl)|(apply Go.cond false;exact rfl)|apply yB|apply yC|((first|apply yG|apply yH|apply yI);exact rfl;(first|exact yJ|exact yK rfl rfl|exact yL rfl|exact yM rfl|exact rfl|exact aL rfl rfl rfl rfl rfl|exact aS rfl rfl rfl rfl rfl rfl rfl))|((first|apply yN|apply yO|apply yP);exact rfl)|(exfalso;omega)|(((first|apply yT|apply yU|apply yV|apply yW);exact rfl;(first|exact .d|exact .e|exact .n|((fail_if_success exact bqt);(fail_if_success exact bqf);exact .b)))<;>intro _)
    exact Go.keep [0, 1, 4, 6, 7, 8, 9, 10, 11] (hj _ _ ⟨tw.1, tw.2, hw1, fun h => by rw [hw2 (by rw [← hw1]; exact h)], rfl, rfl⟩)
  · have hd : e.drop i = [] := List.drop_eq_nil_of_le (by omega)
    rw [hd] at haux hev
    simp only [exprAux, beq_iff_eq] at haux
    obtain ⟨w, rfl⟩ : ∃ w, st = [w] := List.length_eq_one_iff.1 (by omega)
    have hR : evalR e row = (w, true) := by rw [evalR, hev]; rfl
    rw [hR]
    repeat' first|(apply yA;exact rfl)|apply yB|apply yC|((first|apply yD|apply yE);(first|exact yF|assumption);iterate 6 exact rfl)|((first|apply yG|apply yH|apply yI);exact rfl;(first|exact yJ|exact yK rfl rfl|exact yL rfl|exact yM rfl|exact rfl|exact aL rfl rfl rfl rfl rfl|exact aS rfl rfl rfl rfl rfl rfl rfl))|((first|apply yN|apply yO|apply yP);exact rfl)|(exfalso;omega)|(((first|apply yT|apply yU|apply yV|apply yW);exact rfl;(first|exact .d|exact .e|exact .n|((fail_if_success exact bqt);(fail_if_success exact bqf);exact .b)))<;>intro _)
    exact .ret (retv_mt rfl rfl rfl (Nat.zero_le _) rfl rfl) (fin_vb w _)
theorem l2Truth_ok (e : List Tok) (row : List Val) (hv : areVals row 16 = true) (he : exprF e row.length = true) : Pure Tryz.prog 132 [.c (.fz (e.map encTok)), .c (.fz (row.map encV))] (.c (.int .i64 (truthR e row))) := by
  refine Pure.run mixed c_spec_l2Truth_ok (Nat.le_of_ble_eq_true rfl) fun σ hS hA => ?_
  clear hS hA
  obtain ⟨hok, hrl⟩ := areVals_oks hv
  obtain ⟨hel, hea⟩ := exprF_aux he
  have c1 := l2Eval_ok e row (by omega) (by omega) hok hea
  have c2 := l2Of_ok (evalR e row).1
  rw [truthR]
  generalize evalR e row = q at c1 c2 ⊢
  obtain ⟨v, b⟩ := q
  simp only at c1 c2 ⊢
  cases hb : ofB v
  · rw [hb] at c2
    have h1 := ofB_not hb
    cases b
    · repeat' first|(apply yA;exact rfl)|apply yB|apply yC|((first|apply yD|apply yE);(first|exact yF|assumption);iterate 6 exact rfl)|((first|apply yG|apply yH|apply yI);exact rfl;(first|exact yJ|exact yK rfl rfl|exact yL rfl|exact yM rfl|exact rfl|exact aL rfl rfl rfl rfl rfl|exact aS rfl rfl rfl rfl rfl rfl rfl))|((first|apply yN|apply yO|apply yP);exact rfl)|((first|apply yQ|apply yR|apply yS);(iterate 3 exact rfl);(first|exact c1|exact c2))|(exfalso;omega)|(((first|apply yT|apply yU|apply yV|apply yW);exact rfl;(first|exact .d|exact .e|exact .n|((fail_if_success exact bqt);(fail_if_success exact bqf);exact .b)))<;>intro _)
      exact .ret rfl (.int rfl)
    · repeat' first|(apply yA;exact rfl)|apply yB|apply yC|((first|apply yD|apply yE);(first|exact yF|assumption);iterate 6 exact rfl)|((first|apply yG|apply yH|apply yI);exact rfl;(first|exact yJ|exact yK rfl rfl|exact yL rfl|exact yM rfl|exact rfl|exact aL rfl rfl rfl rfl rfl|exact aS rfl rfl rfl rfl rfl rfl rfl))|((first|apply yN|apply yO|apply yP);exact rfl)|((first|apply yQ|apply yR|apply yS);(iterate 3 exact rfl);(first|exact c1|exact c2))|(exfalso;omega)|(((first|apply yT|apply yU|apply yV|apply yW);exact rfl;(first|exact .d|exact .e|exact .n|((fail_if_success exact bqt);(fail_if_success exact bqf);exact .b)))<;>intro _)
      exact .ret rfl (.int (by rw [if_pos rfl, h1]))
  · rw [hb] at c2
    have h1 := (ofB_truth hb).1
    cases b
    · repeat' first|(apply yA;exact rfl)|apply yB|apply yC|((first|apply yD|apply yE);(first|exact yF|assumption);iterate 6 exact rfl)|((first|apply yG|apply yH|apply yI);exact rfl;(first|exact yJ|exact yK rfl rfl|exact yL rfl|exact yM rfl|exact rfl|exact aL rfl rfl rfl rfl rfl|exact aS rfl rfl rfl rfl rfl rfl rfl))|((first|apply yN|apply yO|apply yP);exact rfl)|((first|apply yQ|apply yR|apply yS);(iterate 3 exact rfl);(first|exact c1|exact c2))|(exfalso;omega)|(((first|apply yT|apply yU|apply yV|apply yW);exact rfl;(first|exact .d|exact .e|exact .n|((fail_if_success exact bqt);(fail_if_success exact bqf);exact .b)))<;>intro _)
      exact .ret rfl (.int rfl)
    · repeat' first|(apply yA;exact rfl)|apply yB|apply yC|((first|apply yD|apply yE);(first|exact yF|assumption);iterate 6 exact rfl)|((first|apply yG|apply yH|apply yI);exact rfl;(first|exact yJ|exact yK rfl rfl|exact yL rfl|exact yM rfl|exact rfl|exact aL rfl rfl rfl rfl rfl|exact aS rfl rfl rfl rfl rfl rfl rfl))|((first|apply yN|apply yO|apply yP);exact rfl)|((first|apply yQ|apply yR|apply yS);(iterate 3 exact rfl);(first|exact c1|exact c2))|(exfalso;omega)|(((first|apply yT|apply yU|apply yV|apply yW);exact rfl;(first|exact .d|exact .e|exact .n|((fail_if_success exact bqt);(fail_if_success exact bqf);exact .b)))<;>intro _)
      exact .ret rfl (.int (by rw [if_pos rfl, h1]))
end Go.Proofs.YteafjabcpmpmgaaGreat.Am

/- The reader that draws: values, expressions, conditions, rows. -/
set_option linter.unusedVariables false
set_option linter.unusedSimpArgs false
namespace Go.Proofs.YteafjabcpmpmgaaGreat.Am

theorem finR_v {σ : Store} {id v : Nat} {code : List UInt8} {q : Nat} {l : List (Nat × List (List Ce))} (hq : q ≤ code.length) (w : Val) (hw : w.s.length ≤ 12) : FinR σ id v code AnyV (.agg (encV w)) (E (Rd.go σ id v code q) l) := .c hq ⟨w, hw, rfl⟩ (old_v w)
theorem below_lt {n : Int} (h : 1 < n) {r : AV} (hr : BelowR n r) : ∃ k : Nat, (k : Int) < n ∧ r = .c (.int .i64 (k : Int)) := by
  obtain ⟨k, h0, h1, rfl⟩ := hr
  exact ⟨k.toNat, by omega, by rw [Int.toNat_of_nonneg h0]⟩
theorem val_ok : Draws Tryz.prog 204 [] AnyV := by
  refine Draws.run mixed c_spec_l1Rd_val_ok (Nat.le_of_ble_eq_true rfl) fun σ id v code p hr hp hc hS => ?_
  clear hS
  repeat' first|(apply yA;exact rfl)|apply yB|apply yC|((first|apply yD|apply yE);(first|exact yF|assumption);iterate 6 exact rfl)|((first|apply yG|apply yH|apply yI);exact rfl;(first|exact yJ|exact yK rfl rfl|exact yL rfl|exact yM rfl|exact rfl|exact aL rfl rfl rfl rfl rfl|exact aS rfl rfl rfl rfl rfl rfl rfl))|((first|apply yN|apply yO|apply yP);exact rfl)|(exfalso;omega)|(((first|apply yT|apply yU|apply yV|apply yW);exact rfl;(first|exact .d|exact .e|exact .n|((fail_if_success exact bqt);(fail_if_success exact bqf);exact .b)))<;>intro _)
  refine Go.drawn hr hp rfl rfl rfl (below_ok 12 (by decide) (by decide)) ?_
  intro r q hq hz
  obtain ⟨k, hk, rfl⟩ := below_lt (by decide) hz
  have hcase : k = 0 ∨ k = 1 ∨ k = 2 ∨ k = 3 ∨ k = 4 ∨ 5 ≤ k := by omega
  rcases hcase with rfl | rfl | rfl | rfl | rfl | h5
  · repeat' first|(apply yA;exact rfl)|apply yB|apply yC|((first|apply yD|apply yE);(first|exact yF|assumption);iterate 6 exact rfl)|((first|apply yG|apply yH|apply yI);exact rfl;(first|exact yJ|exact yK rfl rfl|exact yL rfl|exact yM rfl|exact rfl|exact aL rfl rfl rfl rfl rfl|exact aS rfl rfl rfl rfl rfl rfl rfl))|((first|apply yN|apply yO|apply yP);exact rfl)|(exfalso;omega)|(((first|apply yT|apply yU|apply yV|apply yW);exact rfl;(first|exact .d|exact .e|exact .n|((fail_if_success exact bqt);(fail_if_success exact bqf);exact .b)))<;>intro _)
    exact .ret (retv_m rfl rfl rfl (Nat.zero_le _) rfl) (finR_v hq vNull (by decide))
  · repeat' first|(apply yA;exact rfl)|apply yB|apply yC|((first|apply yD|apply yE);(first|exact yF|assumption);iterate 6 exact rfl)|((first|apply yG|apply yH|apply yI);exact rfl;(first|exact yJ|exact yK rfl rfl|exact yL rfl|exact yM rfl|exact rfl|exact aL rfl rfl rfl rfl rfl|exact aS rfl rfl rfl rfl rfl rfl rfl))|((first|apply yN|apply yO|apply yP);exact rfl)|(exfalso;omega)|(((first|apply yT|apply yU|apply yV|apply yW);exact rfl;(first|exact .d|exact .e|exact .n|((fail_if_success exact bqt);(fail_if_success exact bqf);exact .b)))<;>intro _)
    exact .ret (retv_m rfl rfl rfl (Nat.zero_le _) rfl) (finR_v hq vNull (by decide))
  all_goals repeat' first|(apply yA;exact rfl)|apply yB|apply yC|((first|apply yD|apply yE);(first|exact yF|assumption);iterate 6 exact rfl)|((first|apply yG|apply yH|apply yI);exact rfl;(first|exact yJ|exact yK rfl rfl|exact yL rfl|exact yM rfl|exact rfl|exact aL rfl rfl rfl rfl rfl|exact aS rfl rfl rfl rfl rfl rfl rfl))|((first|apply yN|apply yO|apply yP);exact rfl)|(exfalso;omega)|(((first|apply yT|apply yU|apply yV|apply yW);exact rfl;(first|exact .d|exact .e|exact .n|((fail_if_success exact bqt);(fail_if_success exact bqf);exact .b)))<;>intro _)
  · refine Go.drawn hr hq rfl rfl rfl (below_ok 6 (by decide) (by decide)) ?_
    intro r q2 hq2 hz
    obtain ⟨m, hm, rfl⟩ := below_lt (by decide) hz
    have hm6 : m = 0 ∨ m = 1 ∨ m = 2 ∨ m = 3 ∨ m = 4 ∨ m = 5 := by omega
    rcases hm6 with rfl | rfl | rfl | rfl | rfl | rfl
    all_goals repeat' first|(apply yA;exact rfl)|apply yB|apply yC|((first|apply yD|apply yE);(first|exact yF|assumption);iterate 6 exact rfl)|((first|apply yG|apply yH|apply yI);exact rfl;(first|exact yJ|exact yK rfl rfl|exact yL rfl|exact yM rfl|exact rfl|exact aL rfl rfl rfl rfl rfl|exact aS rfl rfl rfl rfl rfl rfl rfl))|((first|apply yN|apply yO|apply yP);exact rfl)|((first|apply yQ|apply yR|apply yS);(iterate 3 exact rfl);exact l1Str_ok _)|(exfalso;omega)|(((first|apply yT|apply yU|apply yV|apply yW);exact rfl;(first|exact .d|exact .e|exact .n|((fail_if_success exact bqt);(fail_if_success exact bqf);exact .b)))<;>intro _)
    all_goals exact .ret (retv_m rfl rfl rfl (Nat.zero_le _) rfl) (finR_v hq2 ⟨2, 0, _⟩ (by decide))
  · refine Go.drawn hr hq rfl rfl rfl (below_ok 6 (by decide) (by decide)) ?_
    intro r q2 hq2 hz
    obtain ⟨m, hm, rfl⟩ := below_lt (by decide) hz
    have hm6 : m = 0 ∨ m = 1 ∨ m = 2 ∨ m = 3 ∨ m = 4 ∨ m = 5 := by omega
    rcases hm6 with rfl | rfl | rfl | rfl | rfl | rfl
    all_goals repeat' first|(apply yA;exact rfl)|apply yB|apply yC|((first|apply yD|apply yE);(first|exact yF|assumption);iterate 6 exact rfl)|((first|apply yG|apply yH|apply yI);exact rfl;(first|exact yJ|exact yK rfl rfl|exact yL rfl|exact yM rfl|exact rfl|exact aL rfl rfl rfl rfl rfl|exact aS rfl rfl rfl rfl rfl rfl rfl))|((first|apply yN|apply yO|apply yP);exact rfl)|((first|apply yQ|apply yR|apply yS);(iterate 3 exact rfl);exact l1Str_ok _)|(exfalso;omega)|(((first|apply yT|apply yU|apply yV|apply yW);exact rfl;(first|exact .d|exact .e|exact .n|((fail_if_success exact bqt);(fail_if_success exact bqf);exact .b)))<;>intro _)
    all_goals exact .ret (retv_m rfl rfl rfl (Nat.zero_le _) rfl) (finR_v hq2 ⟨2, 0, _⟩ (by decide))
  · refine Go.drawn hr hq rfl rfl rfl (below_ok 4 (by decide) (by decide)) ?_
    intro r q2 hq2 hz
    obtain ⟨m, hm, rfl⟩ := below_lt (by decide) hz
    have hm4 : m = 0 ∨ m = 1 ∨ m = 2 ∨ m = 3 := by omega
    rcases hm4 with rfl | rfl | rfl | rfl
    all_goals repeat' first|(apply yA;exact rfl)|apply yB|apply yC|((first|apply yD|apply yE);(first|exact yF|assumption);iterate 6 exact rfl)|((first|apply yG|apply yH|apply yI);exact rfl;(first|exact yJ|exact yK rfl rfl|exact yL rfl|exact yM rfl|exact rfl|exact aL rfl rfl rfl rfl rfl|exact aS rfl rfl rfl rfl rfl rfl rfl))|((first|apply yN|apply yO|apply yP);exact rfl)|((first|apply yQ|apply yR|apply yS);(iterate 3 exact rfl);exact l1Int_ok _)|(exfalso;omega)|(((first|apply yT|apply yU|apply yV|apply yW);exact rfl;(first|exact .d|exact .e|exact .n|((fail_if_success exact bqt);(fail_if_success exact bqf);exact .b)))<;>intro _)
    all_goals exact .ret (retv_m rfl rfl rfl (Nat.zero_le _) rfl) (finR_v hq2 (vInt _) (by decide))
  · refine Go.drawn hr hq rfl rfl rfl (below_ok 5 (by decide) (by decide)) ?_
    intro r q2 hq2 hz
    obtain ⟨m, hm, rfl⟩ := below_lt (by decide) hz
    repeat' first|(apply yA;exact rfl)|apply yB|apply yC|((first|apply yD|apply yE);(first|exact yF|assumption);iterate 6 exact rfl)|((first|apply yG|apply yH|apply yI);exact rfl;(first|exact yJ|exact yK rfl rfl|exact yL rfl|exact yM rfl|exact rfl|exact aL rfl rfl rfl rfl rfl|exact aS rfl rfl rfl rfl rfl rfl rfl))|((first|apply yN|apply yO|apply yP);exact rfl)|((first|apply yQ|apply yR|apply yS);(iterate 3 exact rfl);exact l1Int_ok _)|(exfalso;omega)|(((first|apply yT|apply yU|apply yV|apply yW);exact rfl;(first|exact .d|exact .e|exact .n|((fail_if_success exact bqt);(fail_if_success exact bqf);exact .b)))<;>intro _)
    exact .ret (retv_m rfl rfl rfl (Nat.zero_le _) rfl) (finR_v hq2 (vInt _) (by simp [vInt]))
/-! ### expressions -/
/-- An owned slice of tokens, first of what was made. -/
def OwnT (σ : Store) (id v : Nat) (code : List UInt8) (N : Nat) (r : AV) (τ : Store) : Prop := ∃ (q : Nat) (ts : List Tok) (u : Nat) (junk : List (List Ce)) (l : List (Nat × List (List Ce))), q ≤ code.length ∧ ts.length ≤ N ∧ (∀ t ∈ ts, bTok 12 t) ∧ Jk 5 junk ∧ r = .c (vec (σ.next + 0) u (ts.map encTok) junk) ∧ τ = E (Rd.go σ id v code q) ((u, ts.map encTok ++ junk) :: l)
theorem encTok_len {l : List Tok} : ∀ e ∈ l.map encTok, e.length = 5 := fun e he => by
  obtain ⟨a, _, rfl⟩ := List.mem_map.1 he
  rfl
theorem els_vec {σ : Store} {l : List (Nat × List (List Ce))} {k u : Nat} {ys junk : List (List Ce)} (hl : l[k]? = some (u, ys ++ junk)) : (E σ l).els (vec (σ.next + k) u ys junk) = some ys := by
  simp only [vec, Store.els, E_get hl, List.length_append, Nat.zero_add, Nat.le_add_right, and_self, if_true, List.drop_zero]
  rw [List.take_left' rfl]
theorem expr_own (n : Int) (hn : 0 < n) (hn2 : n ≤ 16) : ∀ (d : Nat), d ≤ 2 → ∀ (σ : Store) (id v : Nat) (code : List UInt8) (p : Nat), Rd σ id v code p → Ok Tryz.prog 214 [.c (.ptr id v 0 0), .c (.int .i64 n), .c (.int .i64 (d : Int))] σ (OwnT σ id v code (2 ^ (d + 1) - 1))
  | d, hd, σ, id, v, code, p, hr => by
    have ih : ∀ e, d = e + 1 → ∀ (σ : Store) (p : Nat), Rd σ id v code p → Ok Tryz.prog 214 [.c (.ptr id v 0 0), .c (.int .i64 n), .c (.int .i64 (e : Int))] σ (OwnT σ id v code (2 ^ (e + 1) - 1)) := fun e he σ p hr => expr_own n hn hn2 e (by omega) σ id v code p hr
    refine Ok.run mixed c_spec_l1Rd_expr_ok (Nat.le_of_ble_eq_true rfl) fun hS hA => ?_
    clear hS hA
    have hp := hr.2.2.1
    have hpow : 1 ≤ 2 ^ (d + 1) - 1 := by
      have : d = 0 ∨ d = 1 ∨ d = 2 := by omega
      rcases this with rfl | rfl | rfl <;> decide
    rw [show E σ [] = E (Rd.go σ id v code p) [] by rw [hr.same]]
    have hd0 : d = 0 ∨ ∃ e, d = e + 1 := by cases d with | zero => exact .inl rfl | succ e => exact .inr ⟨e, rfl⟩
    rcases hd0 with rfl | ⟨e, rfl⟩
    · repeat' first|(apply yA;exact rfl)|apply yB|apply yC|((first|apply yD|apply yE);(first|exact yF|assumption);iterate 6 exact rfl)|((first|apply yG|apply yH|apply yI);exact rfl;(first|exact yJ|exact yK rfl rfl|exact yL rfl|exact yM rfl|exact rfl|exact aL rfl rfl rfl rfl rfl|exact aS rfl rfl rfl rfl rfl rfl rfl))|((first|apply yN|apply yO|apply yP);exact rfl)|(exfalso;omega)|(((first|apply yT|apply yU|apply yV|apply yW);exact rfl;(first|exact .d|exact .e|exact .n|((fail_if_success exact bqt);(fail_if_success exact bqf);exact .b)))<;>intro _)
      refine Go.drawn hr hp rfl rfl rfl (once_ok 3 (by decide) (by decide)) ?_
      rintro _ q hq ⟨b, rfl⟩
      cases b
      · repeat' first|(apply yA;exact rfl)|apply yB|apply yC|((first|apply yD|apply yE);(first|exact yF|assumption);iterate 6 exact rfl)|((first|apply yG|apply yH|apply yI);exact rfl;(first|exact yJ|exact yK rfl rfl|exact yL rfl|exact yM rfl|exact rfl|exact aL rfl rfl rfl rfl rfl|exact aS rfl rfl rfl rfl rfl rfl rfl))|((first|apply yN|apply yO|apply yP);exact rfl)|(exfalso;omega)|(((first|apply yT|apply yU|apply yV|apply yW);exact rfl;(first|exact .d|exact .e|exact .n|((fail_if_success exact bqt);(fail_if_success exact bqf);exact .b)))<;>intro _)
        refine Go.drawn hr hq rfl rfl rfl (below_ok n (by omega) (by omega)) ?_
        rintro _ q2 hq2 ⟨k, hk0, hk1, rfl⟩
        repeat' first|(apply yA;exact rfl)|apply yB|apply yC|((first|apply yD|apply yE);(first|exact yF|assumption);iterate 6 exact rfl)|((first|apply yG|apply yH|apply yI);exact rfl;(first|exact yJ|exact yK rfl rfl|exact yL rfl|exact yM rfl|exact rfl|exact aL rfl rfl rfl rfl rfl|exact aS rfl rfl rfl rfl rfl rfl rfl))|((first|apply yN|apply yO|apply yP);exact rfl)|((first|apply yQ|apply yR|apply yS);(iterate 3 exact rfl);exact l2Col_ok _)|(exfalso;omega)|(((first|apply yT|apply yU|apply yV|apply yW);exact rfl;(first|exact .d|exact .e|exact .n|((fail_if_success exact bqt);(fail_if_success exact bqf);exact .b)))<;>intro _)
        exact .ret rfl ⟨q2, [tCol k], 0, [], [], hq2, hpow, fun t ht => by rw [List.mem_singleton.1 ht]; exact Nat.zero_le _, Jk.nil, rfl, rfl⟩
      · repeat' first|(apply yA;exact rfl)|apply yB|apply yC|((first|apply yD|apply yE);(first|exact yF|assumption);iterate 6 exact rfl)|((first|apply yG|apply yH|apply yI);exact rfl;(first|exact yJ|exact yK rfl rfl|exact yL rfl|exact yM rfl|exact rfl|exact aL rfl rfl rfl rfl rfl|exact aS rfl rfl rfl rfl rfl rfl rfl))|((first|apply yN|apply yO|apply yP);exact rfl)|(exfalso;omega)|(((first|apply yT|apply yU|apply yV|apply yW);exact rfl;(first|exact .d|exact .e|exact .n|((fail_if_success exact bqt);(fail_if_success exact bqf);exact .b)))<;>intro _)
        refine Go.drawn hr hq rfl rfl rfl val_ok ?_
        rintro _ q2 hq2 ⟨w, hw, rfl⟩
        repeat' first|(apply yA;exact rfl)|apply yB|apply yC|((first|apply yD|apply yE);(first|exact yF|assumption);iterate 6 exact rfl)|((first|apply yG|apply yH|apply yI);exact rfl;(first|exact yJ|exact yK rfl rfl|exact yL rfl|exact yM rfl|exact rfl|exact aL rfl rfl rfl rfl rfl|exact aS rfl rfl rfl rfl rfl rfl rfl))|((first|apply yN|apply yO|apply yP);exact rfl)|((first|apply yQ|apply yR|apply yS);(iterate 3 exact rfl);exact l2Const_ok _)|(exfalso;omega)|(((first|apply yT|apply yU|apply yV|apply yW);exact rfl;(first|exact .d|exact .e|exact .n|((fail_if_success exact bqt);(fail_if_success exact bqf);exact .b)))<;>intro _)
        exact .ret rfl ⟨q2, [tConst w], 0, [], [], hq2, hpow, fun t ht => by rw [List.mem_singleton.1 ht]; exact hw, Jk.nil, rfl, rfl⟩
    · have hde : ¬ ((e + 1 : Nat) : Int) = 0 := by omega
      repeat' first|(apply yA;exact rfl)|apply yB|apply yC|((first|apply yD|apply yE);(first|exact yF|assumption);iterate 6 exact rfl)|((first|apply yG|apply yH|apply yI);exact rfl;(first|exact yJ|exact yK rfl rfl|exact yL rfl|exact yM rfl|exact rfl|exact aL rfl rfl rfl rfl rfl|exact aS rfl rfl rfl rfl rfl rfl rfl))|((first|apply yN|apply yO|apply yP);exact rfl)|(exfalso;omega)|(((first|apply yT|apply yU|apply yV|apply yW);exact rfl;(first|exact .d|exact .e|exact .n|((fail_if_success exact bqt);(fail_if_success exact bqf);exact .b)))<;>intro _)
      refine Go.drawn hr hp rfl rfl rfl (once_ok 4 (by decide) (by decide)) ?_
      rintro _ q0 hq0 ⟨b0, rfl⟩
      cases b0
      · repeat' first|(apply yA;exact rfl)|apply yB|apply yC|((first|apply yD|apply yE);(first|exact yF|assumption);iterate 6 exact rfl)|((first|apply yG|apply yH|apply yI);exact rfl;(first|exact yJ|exact yK rfl rfl|exact yL rfl|exact yM rfl|exact rfl|exact aL rfl rfl rfl rfl rfl|exact aS rfl rfl rfl rfl rfl rfl rfl))|((first|apply yN|apply yO|apply yP);exact rfl)|(exfalso;omega)|(((first|apply yT|apply yU|apply yV|apply yW);exact rfl;(first|exact .d|exact .e|exact .n|((fail_if_success exact bqt);(fail_if_success exact bqf);exact .b)))<;>intro _)
        refine Go.drawn hr hq0 rfl rfl rfl (below_ok 8 (by decide) (by decide)) ?_
        intro r q1 hq1 hz
        obtain ⟨k, hk, rfl⟩ := below_lt (by decide) hz
        have e0 : IntKind.i64.wrap (((e + 1 : Nat) : Int) - 1) = (e : Int) := by rw [wrap64 (by omega) (by omega)]; omega
        have e1 : IntKind.i64.wrap (3 + (k : Int)) = 3 + k := wrap64 (by omega) (by omega)
        repeat' first|(apply yA;exact rfl)|apply yB|apply yC|((first|apply yD|apply yE);(first|exact yF|assumption);iterate 6 exact rfl)|((first|apply yG|apply yH|apply yI);exact rfl;(first|exact yJ|exact yK rfl rfl|exact yL rfl|exact yM rfl|exact rfl|exact aL rfl rfl rfl rfl rfl|exact aS rfl rfl rfl rfl rfl rfl rfl))|((first|apply yN|apply yO|apply yP);exact rfl)|(exfalso;omega)|(((first|apply yT|apply yU|apply yV|apply yW);exact rfl;(first|exact .d|exact .e|exact .n|((fail_if_success exact bqt);(fail_if_success exact bqf);exact .b)))<;>intro _)
        rw [e0, e1]
        have c1 := ih e rfl (E (Rd.go σ id v code q1) []) q1 ((hr.at_ hq1).E [])
        refine .call _ rfl rfl rfl c1 ?_
        rintro r τ ⟨q2, ts, u, junk, l, hq2, hts, hb, hj, rfl, rfl⟩
        rw [Rd.go_E (show id < (Rd.go σ id v code q1).next from hr.2.1), Rd.go_go, E_E, List.nil_append]
        have hpe : 2 ^ (e + 1 + 1) - 1 = 2 * (2 ^ (e + 1) - 1) + 1 := by
          have : e = 0 ∨ e = 1 := by omega
          rcases this with rfl | rfl <;> decide
        have hP : 2 ^ (e + 1) - 1 ≤ 3 := by
          have : e = 0 ∨ e = 1 := by omega
          rcases this with rfl | rfl <;> decide
        by_cases h7 : k = 4 ∨ k = 5
        · have last : ∀ z : Int, bTok 12 ⟨z, 0, vNull⟩ := fun z => Nat.zero_le _
          rcases h7 with rfl | rfl
          · repeat' first|(apply yA;exact rfl)|apply yB|apply yC|((first|apply yD|apply yE);(first|exact yF|assumption);iterate 6 exact rfl)|((first|apply yG|apply yH|apply yI);exact rfl;(first|exact yJ|exact yK rfl rfl|exact yL rfl|exact yM rfl|exact rfl|exact aL rfl rfl rfl rfl rfl|exact aS rfl rfl rfl rfl rfl rfl rfl))|((first|apply yN|apply yO|apply yP);exact rfl)|(exfalso;omega)|(((first|apply yT|apply yU|apply yV|apply yW);exact rfl;(first|exact .d|exact .e|exact .n|((fail_if_success exact bqt);(fail_if_success exact bqf);exact .b)))<;>intro _)
            refine Go.app1 (k := 0) (ys := ts.map encTok) (junk := junk) (z := encTok ⟨7, 0, vNull⟩) rfl rfl rfl rfl rfl encTok_len hj rfl (by rw [List.length_map]; omega) fun u' junk' hj' => ?_
            repeat' first|(apply yA;exact rfl)|apply yB|apply yC|((first|apply yD|apply yE);(first|exact yF|assumption);iterate 6 exact rfl)|((first|apply yG|apply yH|apply yI);exact rfl;(first|exact yJ|exact yK rfl rfl|exact yL rfl|exact yM rfl|exact rfl|exact aL rfl rfl rfl rfl rfl|exact aS rfl rfl rfl rfl rfl rfl rfl))|((first|apply yN|apply yO|apply yP);exact rfl)|(exfalso;omega)|(((first|apply yT|apply yU|apply yV|apply yW);exact rfl;(first|exact .d|exact .e|exact .n|((fail_if_success exact bqt);(fail_if_success exact bqf);exact .b)))<;>intro _)
            refine .ret rfl ⟨q2, ts ++ [⟨7, 0, vNull⟩], u', junk', l, hq2, by rw [List.length_append, List.length_singleton]; omega, fun t ht => ?_, hj', by rw [List.map_append]; rfl, by rw [List.map_append]; rfl⟩
            rcases List.mem_append.1 ht with ht | ht
            · exact hb t ht
            · rw [List.mem_singleton.1 ht]; exact last _
          · repeat' first|(apply yA;exact rfl)|apply yB|apply yC|((first|apply yD|apply yE);(first|exact yF|assumption);iterate 6 exact rfl)|((first|apply yG|apply yH|apply yI);exact rfl;(first|exact yJ|exact yK rfl rfl|exact yL rfl|exact yM rfl|exact rfl|exact aL rfl rfl rfl rfl rfl|exact aS rfl rfl rfl rfl rfl rfl rfl))|((first|apply yN|apply yO|apply yP);exact rfl)|(exfalso;omega)|(((first|apply yT|apply yU|apply yV|apply yW);exact rfl;(first|exact .d|exact .e|exact .n|((fail_if_success exact bqt);(fail_if_success exact bqf);exact .b)))<;>intro _)
            refine Go.app1 (k := 0) (ys := ts.map encTok) (junk := junk) (z := encTok ⟨8, 0, vNull⟩) rfl rfl rfl rfl rfl encTok_len hj rfl (by rw [List.length_map]; omega) fun u' junk' hj' => ?_
            repeat' first|(apply yA;exact rfl)|apply yB|apply yC|((first|apply yD|apply yE);(first|exact yF|assumption);iterate 6 exact rfl)|((first|apply yG|apply yH|apply yI);exact rfl;(first|exact yJ|exact yK rfl rfl|exact yL rfl|exact yM rfl|exact rfl|exact aL rfl rfl rfl rfl rfl|exact aS rfl rfl rfl rfl rfl rfl rfl))|((first|apply yN|apply yO|apply yP);exact rfl)|(exfalso;omega)|(((first|apply yT|apply yU|apply yV|apply yW);exact rfl;(first|exact .d|exact .e|exact .n|((fail_if_success exact bqt);(fail_if_success exact bqf);exact .b)))<;>intro _)
            refine .ret rfl ⟨q2, ts ++ [⟨8, 0, vNull⟩], u', junk', l, hq2, by rw [List.length_append, List.length_singleton]; omega, fun t ht => ?_, hj', by rw [List.map_append]; rfl, by rw [List.map_append]; rfl⟩
            rcases List.mem_append.1 ht with ht | ht
            · exact hb t ht
            · rw [List.mem_singleton.1 ht]; exact last _
        · have hk7 : ¬ (3 + (k : Int)) = 7 := by omega
          have hk8 : ¬ (3 + (k : Int)) = 8 := by omega
          repeat' first|(apply yA;exact rfl)|apply yB|apply yC|((first|apply yD|apply yE);(first|exact yF|assumption);iterate 6 exact rfl)|((first|apply yG|apply yH|apply yI);exact rfl;(first|exact yJ|exact yK rfl rfl|exact yL rfl|exact yM rfl|exact rfl|exact aL rfl rfl rfl rfl rfl|exact aS rfl rfl rfl rfl rfl rfl rfl))|((first|apply yN|apply yO|apply yP);exact rfl)|(exfalso;omega)|(((first|apply yT|apply yU|apply yV|apply yW);exact rfl;(first|exact .d|exact .e|exact .n|((fail_if_success exact bqt);(fail_if_success exact bqf);exact .b)))<;>intro _)
          rw [e0]
          have c2 := ih e rfl (E (Rd.go σ id v code q2) ((u, ts.map encTok ++ junk) :: l)) q2 ((hr.at_ hq2).E _)
          refine .call _ rfl rfl rfl c2 ?_
          rintro r τ ⟨q3, ts2, u2, junk2, l2, hq3, hts2, hb2, hj2, rfl, rfl⟩
          rw [Rd.go_E (show id < (Rd.go σ id v code q2).next from hr.2.1), Rd.go_go, E_E]
          have hL : (((u, ts.map encTok ++ junk) :: l ++ (u2, ts2.map encTok ++ junk2) :: l2) : List (Nat × List (List Ce)))[l.length + 1]? = some (u2, ts2.map encTok ++ junk2) := by
            rw [List.getElem?_append_right (by simp)]
            simp
          have hid : (E (Rd.go σ id v code q2) ((u, ts.map encTok ++ junk) :: l)).next + 0 = (Rd.go σ id v code q3).next + (l.length + 1) := rfl
          rw [hid]
          repeat' first|(apply yA;exact rfl)|apply yB|apply yC|((first|apply yD|apply yE);(first|exact yF|assumption);iterate 6 exact rfl)|((first|apply yG|apply yH|apply yI);exact rfl;(first|exact yJ|exact yK rfl rfl|exact yL rfl|exact yM rfl|exact rfl|exact aL rfl rfl rfl rfl rfl|exact aS rfl rfl rfl rfl rfl rfl rfl))|((first|apply yN|apply yO|apply yP);exact rfl)|(exfalso;omega)|(((first|apply yT|apply yU|apply yV|apply yW);exact rfl;(first|exact .d|exact .e|exact .n|((fail_if_success exact bqt);(fail_if_success exact bqf);exact .b)))<;>intro _)
          refine Go.app (k := 0) (ys := ts.map encTok) (junk := junk) (zs := ts2.map encTok) rfl rfl rfl (els_vec hL) rfl encTok_len hj encTok_len (by rw [List.length_map, List.length_map]; omega) fun u3 junk3 hj3 => ?_
          rw [← List.map_append]
          have hts3 : (ts ++ ts2).length ≤ 2 * (2 ^ (e + 1) - 1) := by rw [List.length_append]; omega
          have hb3 : ∀ t ∈ ts ++ ts2, bTok 12 t := fun t ht => by
            rcases List.mem_append.1 ht with ht | ht
            · exact hb t ht
            · exact hb2 t ht
          generalize ts ++ ts2 = ts3 at hts3 hb3
          repeat' first|(apply yA;exact rfl)|apply yB|apply yC|((first|apply yD|apply yE);(first|exact yF|assumption);iterate 6 exact rfl)|((first|apply yG|apply yH|apply yI);exact rfl;(first|exact yJ|exact yK rfl rfl|exact yL rfl|exact yM rfl|exact rfl|exact aL rfl rfl rfl rfl rfl|exact aS rfl rfl rfl rfl rfl rfl rfl))|((first|apply yN|apply yO|apply yP);exact rfl)|(exfalso;omega)|(((first|apply yT|apply yU|apply yV|apply yW);exact rfl;(first|exact .d|exact .e|exact .n|((fail_if_success exact bqt);(fail_if_success exact bqf);exact .b)))<;>intro _)
          refine Go.app1 (k := 0) (ys := ts3.map encTok) (junk := junk3) (z := encTok ⟨3 + (k : Int), 0, vNull⟩) rfl rfl rfl rfl rfl encTok_len hj3 rfl (by rw [List.length_map]; omega) fun u' junk' hj' => ?_
          repeat' first|(apply yA;exact rfl)|apply yB|apply yC|((first|apply yD|apply yE);(first|exact yF|assumption);iterate 6 exact rfl)|((first|apply yG|apply yH|apply yI);exact rfl;(first|exact yJ|exact yK rfl rfl|exact yL rfl|exact yM rfl|exact rfl|exact aL rfl rfl rfl rfl rfl|exact aS rfl rfl rfl rfl rfl rfl rfl))|((first|apply yN|apply yO|apply yP);exact rfl)|(exfalso;omega)|(((first|apply yT|apply yU|apply yV|apply yW);exact rfl;(first|exact .d|exact .e|exact .n|((fail_if_success exact bqt);(fail_if_success exact bqf);exact .b)))<;>intro _)
          refine .ret rfl ⟨q3, ts3 ++ [⟨3 + (k : Int), 0, vNull⟩], u', junk', _, hq3, by rw [List.length_append, List.length_singleton]; omega, fun t ht => ?_, hj', by rw [List.map_append]; rfl, by rw [List.map_append]; rfl⟩
          rcases List.mem_append.1 ht with ht | ht
          · exact hb3 t ht
          · rw [List.mem_singleton.1 ht]; exact Nat.zero_le _
      · repeat' first|(apply yA;exact rfl)|apply yB|apply yC|((first|apply yD|apply yE);(first|exact yF|assumption);iterate 6 exact rfl)|((first|apply yG|apply yH|apply yI);exact rfl;(first|exact yJ|exact yK rfl rfl|exact yL rfl|exact yM rfl|exact rfl|exact aL rfl rfl rfl rfl rfl|exact aS rfl rfl rfl rfl rfl rfl rfl))|((first|apply yN|apply yO|apply yP);exact rfl)|(exfalso;omega)|(((first|apply yT|apply yU|apply yV|apply yW);exact rfl;(first|exact .d|exact .e|exact .n|((fail_if_success exact bqt);(fail_if_success exact bqf);exact .b)))<;>intro _)
        refine Go.drawn hr hq0 rfl rfl rfl (once_ok 3 (by decide) (by decide)) ?_
        rintro _ q hq ⟨b, rfl⟩
        cases b
        · repeat' first|(apply yA;exact rfl)|apply yB|apply yC|((first|apply yD|apply yE);(first|exact yF|assumption);iterate 6 exact rfl)|((first|apply yG|apply yH|apply yI);exact rfl;(first|exact yJ|exact yK rfl rfl|exact yL rfl|exact yM rfl|exact rfl|exact aL rfl rfl rfl rfl rfl|exact aS rfl rfl rfl rfl rfl rfl rfl))|((first|apply yN|apply yO|apply yP);exact rfl)|(exfalso;omega)|(((first|apply yT|apply yU|apply yV|apply yW);exact rfl;(first|exact .d|exact .e|exact .n|((fail_if_success exact bqt);(fail_if_success exact bqf);exact .b)))<;>intro _)
          refine Go.drawn hr hq rfl rfl rfl (below_ok n (by omega) (by omega)) ?_
          rintro _ q2 hq2 ⟨k, hk0, hk1, rfl⟩
          repeat' first|(apply yA;exact rfl)|apply yB|apply yC|((first|apply yD|apply yE);(first|exact yF|assumption);iterate 6 exact rfl)|((first|apply yG|apply yH|apply yI);exact rfl;(first|exact yJ|exact yK rfl rfl|exact yL rfl|exact yM rfl|exact rfl|exact aL rfl rfl rfl rfl rfl|exact aS rfl rfl rfl rfl rfl rfl rfl))|((first|apply yN|apply yO|apply yP);exact rfl)|((first|apply yQ|apply yR|apply yS);(iterate 3 exact rfl);exact l2Col_ok _)|(exfalso;omega)|(((first|apply yT|apply yU|apply yV|apply yW);exact rfl;(first|exact .d|exact .e|exact .n|((fail_if_success exact bqt);(fail_if_success exact bqf);exact .b)))<;>intro _)
          exact .ret rfl ⟨q2, [tCol k], 0, [], [], hq2, hpow, fun t ht => by rw [List.mem_singleton.1 ht]; exact Nat.zero_le _, Jk.nil, rfl, rfl⟩
        · repeat' first|(apply yA;exact rfl)|apply yB|apply yC|((first|apply yD|apply yE);(first|exact yF|assumption);iterate 6 exact rfl)|((first|apply yG|apply yH|apply yI);exact rfl;(first|exact yJ|exact yK rfl rfl|exact yL rfl|exact yM rfl|exact rfl|exact aL rfl rfl rfl rfl rfl|exact aS rfl rfl rfl rfl rfl rfl rfl))|((first|apply yN|apply yO|apply yP);exact rfl)|(exfalso;omega)|(((first|apply yT|apply yU|apply yV|apply yW);exact rfl;(first|exact .d|exact .e|exact .n|((fail_if_success exact bqt);(fail_if_success exact bqf);exact .b)))<;>intro _)
          refine Go.drawn hr hq rfl rfl rfl val_ok ?_
          rintro _ q2 hq2 ⟨w, hw, rfl⟩
          repeat' first|(apply yA;exact rfl)|apply yB|apply yC|((first|apply yD|apply yE);(first|exact yF|assumption);iterate 6 exact rfl)|((first|apply yG|apply yH|apply yI);exact rfl;(first|exact yJ|exact yK rfl rfl|exact yL rfl|exact yM rfl|exact rfl|exact aL rfl rfl rfl rfl rfl|exact aS rfl rfl rfl rfl rfl rfl rfl))|((first|apply yN|apply yO|apply yP);exact rfl)|((first|apply yQ|apply yR|apply yS);(iterate 3 exact rfl);exact l2Const_ok _)|(exfalso;omega)|(((first|apply yT|apply yU|apply yV|apply yW);exact rfl;(first|exact .d|exact .e|exact .n|((fail_if_success exact bqt);(fail_if_success exact bqf);exact .b)))<;>intro _)
          exact .ret rfl ⟨q2, [tConst w], 0, [], [], hq2, hpow, fun t ht => by rw [List.mem_singleton.1 ht]; exact hw, Jk.nil, rfl, rfl⟩
end Go.Proofs.YteafjabcpmpmgaaGreat.Am

/- The laws' helpers on types, printed by a program: Set, Row, Stmt. -/
set_option linter.unusedVariables false
set_option linter.unusedSimpArgs false
namespace Go.Proofs.YteafjabcpmpmgaaGreat.Am
end Go.Proofs.YteafjabcpmpmgaaGreat.Am

/- The reader that draws: expressions frozen, conditions, rows. -/
set_option linter.unusedVariables false
set_option linter.unusedSimpArgs false
namespace Go.Proofs.YteafjabcpmpmgaaGreat.Am

theorem Rd.old {σ : Store} {id v : Nat} {code : List UInt8} {p q : Nat} (hr : Rd σ id v code p) (hS : OldS σ) : OldS (Rd.go σ id v code q) := by
  intro a y hy
  by_cases e : a = id
  · subst e
    rw [show (Rd.go σ a v code q).get a = some (v, rdB code q) from if_pos rfl] at hy
    injection hy with hy
    subst hy
    refine ⟨hr.2.1, fun i j hi hj => ?_⟩
    have hold := (hS a _ hr.1).2
    have hi0 : i = 0 := by simp [rdB] at hi; omega
    subst hi0
    have hj2 : j = 0 ∨ j = 1 := by simp [rdB] at hj; omega
    rcases hj2 with rfl | rfl
    · exact hold 0 0 (by simp [rdB]) (by simp [rdB])
    · exact .int _ _
  · rw [show (Rd.go σ id v code q).get a = σ.get a from if_neg e] at hy
    exact hS a y hy
/-- A frozen slice of tokens. -/
def Toks (N : Nat) (r : AV) : Prop := ∃ ts : List Tok, ts.length ≤ N ∧ (∀ t ∈ ts, bTok 12 t) ∧ r = .c (.fz (ts.map encTok))
theorem flatTs {l : List Tok} : ∀ e ∈ l.map encTok, ∀ x ∈ e, Flat x := fun e he x hx => by
  obtain ⟨a, _, rfl⟩ := List.mem_map.1 he
  exact flatTok a x hx
theorem old_toks {n : Nat} {l : List Tok} : ∀ y ∈ (AV.c (.fz (l.map encTok))).all, Old n y := old_fzF flatTs
theorem expr_ok (n : Int) (hn : 0 < n) (hn2 : n ≤ 16) (d : Nat) (hd : d ≤ 2) : Draws Tryz.prog 214 [.c (.int .i64 n), .c (.int .i64 (d : Int))] (Toks 7) :=
  ⟨fun σ id v code p hr => Draws.ends hr ((expr_own n hn hn2 d hd σ id v code p hr).mono (by
    rintro r τ ⟨q, ts, u, junk, l, hq, hts, hb, hj, rfl, rfl⟩
    have h7 : 2 ^ (d + 1) - 1 ≤ 7 := by
      have : d = 0 ∨ d = 1 ∨ d = 2 := by omega
      rcases this with rfl | rfl | rfl <;> decide
    exact .f hq ⟨ts, by omega, hb, rfl⟩ (frz_drop (n := 0) (k := 0) rfl flatTs (Nat.zero_le _) (Nat.le_refl _))))⟩
theorem finR_t {σ : Store} {id v : Nat} {code : List UInt8} {q : Nat} {l : List (Nat × List (List Ce))} (hq : q ≤ code.length) (ts : List Tok) (h7 : ts.length ≤ 7) (hb : ∀ t ∈ ts, bTok 12 t) {x : Ce} (hx : x = .fz (ts.map encTok)) : FinR σ id v code (Toks 7) (.c x) (E (Rd.go σ id v code q) l) := by
  subst hx
  exact .c hq ⟨ts, h7, hb, rfl⟩ old_toks
theorem cond_ok (n : Int) (hn : 0 < n) (hn2 : n ≤ 16) : Draws Tryz.prog 124 [.c (.int .i64 n)] (Toks 7) := by
  refine Draws.run mixed c_spec_l1Rd_cond_ok (Nat.le_of_ble_eq_true rfl) fun σ id v code p hr hp hc hS => ?_
  clear hS
  repeat' first|(apply yA;exact rfl)|apply yB|apply yC|((first|apply yD|apply yE);(first|exact yF|assumption);iterate 6 exact rfl)|((first|apply yG|apply yH|apply yI);exact rfl;(first|exact yJ|exact yK rfl rfl|exact yL rfl|exact yM rfl|exact rfl|exact aL rfl rfl rfl rfl rfl|exact aS rfl rfl rfl rfl rfl rfl rfl))|((first|apply yN|apply yO|apply yP);exact rfl)|(exfalso;omega)|(((first|apply yT|apply yU|apply yV|apply yW);exact rfl;(first|exact .d|exact .e|exact .n|((fail_if_success exact bqt);(fail_if_success exact bqf);exact .b)))<;>intro _)
  refine Go.drawn hr hp rfl rfl rfl (below_ok n (by omega) (by omega)) ?_
  rintro _ q hq ⟨c, hc0, hc1, rfl⟩
  repeat' first|(apply yA;exact rfl)|apply yB|apply yC|((first|apply yD|apply yE);(first|exact yF|assumption);iterate 6 exact rfl)|((first|apply yG|apply yH|apply yI);exact rfl;(first|exact yJ|exact yK rfl rfl|exact yL rfl|exact yM rfl|exact rfl|exact aL rfl rfl rfl rfl rfl|exact aS rfl rfl rfl rfl rfl rfl rfl))|((first|apply yN|apply yO|apply yP);exact rfl)|(exfalso;omega)|(((first|apply yT|apply yU|apply yV|apply yW);exact rfl;(first|exact .d|exact .e|exact .n|((fail_if_success exact bqt);(fail_if_success exact bqf);exact .b)))<;>intro _)
  refine Go.drawn hr hq rfl rfl rfl (below_ok 4 (by decide) (by decide)) ?_
  rintro _ q1 hq1 ⟨k, hk0, hk1, rfl⟩
  repeat' first|(apply yA;exact rfl)|apply yB|apply yC|((first|apply yD|apply yE);(first|exact yF|assumption);iterate 6 exact rfl)|((first|apply yG|apply yH|apply yI);exact rfl;(first|exact yJ|exact yK rfl rfl|exact yL rfl|exact yM rfl|exact rfl|exact aL rfl rfl rfl rfl rfl|exact aS rfl rfl rfl rfl rfl rfl rfl))|((first|apply yN|apply yO|apply yP);exact rfl)|((first|apply yQ|apply yR|apply yS);(iterate 3 exact rfl);(first|exact l1Int_ok _|exact l2Const_ok _))|(exfalso;omega)|(((first|apply yT|apply yU|apply yV|apply yW);exact rfl;(first|exact .d|exact .e|exact .n|((fail_if_success exact bqt);(fail_if_success exact bqf);exact .b)))<;>intro _)
  refine Go.drawn hr hq1 rfl rfl rfl (below_ok 5 (by decide) (by decide)) ?_
  intro r q2 hq2 hz
  obtain ⟨m, hm, rfl⟩ := below_lt (by decide) hz
  have hm5 : m = 0 ∨ m = 1 ∨ m = 2 ∨ m = 3 ∨ m = 4 := by omega
  rcases hm5 with rfl | rfl | rfl | rfl | rfl
  all_goals repeat' first|(apply yA;exact rfl)|apply yB|apply yC|((first|apply yD|apply yE);(first|exact yF|assumption);iterate 6 exact rfl)|((first|apply yG|apply yH|apply yI);exact rfl;(first|exact yJ|exact yK rfl rfl|exact yL rfl|exact yM rfl|exact rfl|exact aL rfl rfl rfl rfl rfl|exact aS rfl rfl rfl rfl rfl rfl rfl))|((first|apply yN|apply yO|apply yP);exact rfl)|((first|apply yQ|apply yR|apply yS);(iterate 3 exact rfl);(first|exact l1Int_ok _|exact l2Const_ok _|exact l2Col_ok _))|(exfalso;omega)|(((first|apply yT|apply yU|apply yV|apply yW);exact rfl;(first|exact .d|exact .e|exact .n|((fail_if_success exact bqt);(fail_if_success exact bqf);exact .b)))<;>intro _)
  · exact .ret rfl (finR_t hq2 [tConst (vInt 1)] (by decide) (fun t ht => by rw [List.mem_singleton.1 ht]; exact Nat.zero_le _) rfl)
  · exact .ret rfl (finR_t hq2 [tCol c, tConst (vInt k), ⟨3, 0, vNull⟩] (by simp) (fun t ht => by
      simp only [List.mem_cons, List.not_mem_nil, or_false] at ht
      rcases ht with rfl | rfl | rfl <;> exact Nat.zero_le _) rfl)
  · exact .ret rfl (finR_t hq2 [tCol c, ⟨8, 0, vNull⟩, ⟨7, 0, vNull⟩] (by simp) (fun t ht => by
      simp only [List.mem_cons, List.not_mem_nil, or_false] at ht
      rcases ht with rfl | rfl | rfl <;> exact Nat.zero_le _) rfl)
  · refine Go.drawn hr hq2 rfl rfl rfl (expr_ok n hn hn2 2 (by decide)) ?_
    rintro _ q3 hq3 ⟨ts, h7, hb, rfl⟩
    repeat' first|(apply yA;exact rfl)|apply yB|apply yC|((first|apply yD|apply yE);(first|exact yF|assumption);iterate 6 exact rfl)|((first|apply yG|apply yH|apply yI);exact rfl;(first|exact yJ|exact yK rfl rfl|exact yL rfl|exact yM rfl|exact rfl|exact aL rfl rfl rfl rfl rfl|exact aS rfl rfl rfl rfl rfl rfl rfl))|((first|apply yN|apply yO|apply yP);exact rfl)|(exfalso;omega)|(((first|apply yT|apply yU|apply yV|apply yW);exact rfl;(first|exact .d|exact .e|exact .n|((fail_if_success exact bqt);(fail_if_success exact bqf);exact .b)))<;>intro _)
    exact .ret rfl (finR_t hq3 ts h7 hb rfl)
  · exact .ret rfl (finR_t hq2 [tConst (vInt k), tCol c, ⟨4, 0, vNull⟩] (by simp) (fun t ht => by
      simp only [List.mem_cons, List.not_mem_nil, or_false] at ht
      rcases ht with rfl | rfl | rfl <;> exact Nat.zero_le _) rfl)
/-! ### a table's row -/
/-- An owned slice of values, alone. -/
def OwnVs (σ : Store) (id v : Nat) (code : List UInt8) (N : Nat) (r : AV) (τ : Store) : Prop := ∃ (q : Nat) (vs : List Val) (u : Nat) (junk : List (List Ce)), q ≤ code.length ∧ vs.length = N ∧ (∀ w ∈ vs, bV 12 w) ∧ Jk 3 junk ∧ r = .c (vec (σ.next + 0) u (vs.map encV) junk) ∧ τ = E (Rd.go σ id v code q) [(u, vs.map encV ++ junk)]
theorem fit_own (t : Table) (hN : t.cols.length ≤ 60) (σ : Store) (id v : Nat) (code : List UInt8) (p : Nat) (hr : Rd σ id v code p) : Ok Tryz.prog 111 [.c (.ptr id v 0 0), .agg (encTable t)] σ (OwnVs σ id v code t.cols.length) := by
  refine Ok.run mixed c_spec_l1Rd_fit_ok (Nat.le_of_ble_eq_true rfl) fun hS hA => ?_
  have hp := hr.2.2.1
  have hT : ∀ n, σ.next ≤ n → ∀ y ∈ (AV.c (.fp (encTable t))).all, Old n y := fun n hn y hy => by
    simp only [AV.all, List.mem_singleton] at hy
    subst hy
    exact .fp _ fun j hj => (hA _ (by simp) _ (List.getElem_mem (l := (AV.agg (encTable t)).all) (n := j) hj)).mono hn
  clear hA
  rw [show E σ [] = E (Rd.go σ id v code p) [] by rw [hr.same]]
  repeat' first|(apply yA;exact rfl)|apply yB|apply yC|((first|apply yD|apply yE);(first|exact yF|assumption);iterate 6 exact rfl)|((first|apply yG|apply yH|apply yI);exact rfl;(first|exact yJ|exact yK rfl rfl|exact yL rfl|exact yM rfl|exact rfl|exact aL rfl rfl rfl rfl rfl|exact aS rfl rfl rfl rfl rfl rfl rfl))|((first|apply yN|apply yO|apply yP);exact rfl)|(exfalso;omega)|(((first|apply yT|apply yU|apply yV|apply yW);exact rfl;(first|exact .d|exact .e|exact .n|((fail_if_success exact bqt);(fail_if_success exact bqf);exact .b)))<;>intro _)
  refine Go.keep [0, 3, 5, 6] (Go.loops (I := fun m fr τ => ∃ (i : Nat) (k : Int) (q u : Nat) (vs : List Val) (junk : List (List Ce)), m = t.cols.length - i ∧ i ≤ t.cols.length ∧ k = i ∧ q ≤ code.length ∧ Jk 3 junk ∧ (vs.length = i ∧ ∀ w ∈ vs, bV 12 w) ∧
    fr = [(0, .c (.ptr id v 0 0)), (3, .c (.fp (encTable t))), (5, .c (vec (σ.next + 0) u (vs.map encV) junk)), (6, .c (.int .i64 k))] ∧ τ = E (Rd.go σ id v code q) [(u, vs.map encV ++ junk)]) ?_ _ _ _ ⟨0, _, p, 0, [], [], rfl, Nat.zero_le _, rfl, hp, Jk.nil, ⟨rfl, fun w hw => by simp at hw⟩, rfl, rfl⟩)
  rintro m fr τ ⟨i, k, q, u, vs, junk, rfl, hi, hk, hq, hj, ⟨hl, hb⟩, rfl, rfl⟩ hrec
  by_cases hlt : i < t.cols.length
  · have fin := fun (w : Val) (q u' : Nat) (junk' : List (List Ce)) (hw : bV 12 w) (hq : q ≤ code.length) (hj' : Jk 3 junk') fr' σ' hfr hσ => hrec _ fr' σ' (by omega) ⟨i + 1, IntKind.i64.wrap (k + 1), q, u', vs ++ [w], junk', rfl, hlt, wrap_succ hk (by omega), hq, hj', ⟨by rw [List.length_append, List.length_singleton, hl], fun x hx => by
      rcases List.mem_append.1 hx with hx | hx
      · exact hb x hx
      · rw [List.mem_singleton.1 hx]; exact hw⟩, hfr, hσ⟩
    clear hrec
    have hbd : ((vs.map encV).length + 1) * 32 ≤ 140737488355328 := by rw [List.length_map]; omega
    have keepF : ∀ (n u' : Nat) (junk' : List (List Ce)) {w : Val}, Jk 3 junk' → ∀ b ∈ [(u', vs.map encV ++ [encV w] ++ junk')], ∀ e ∈ b.2, ∀ x ∈ e, Old n x := fun n u' junk' w hj' b hb2 e he x hx => by
      rw [List.mem_singleton.1 hb2] at he
      rcases List.mem_append.1 he with he | he
      · rcases List.mem_append.1 he with he | he
        · exact (flats e he x hx).old _
        · rw [List.mem_singleton.1 he] at hx; exact (encV_flat w x hx).old _
      · exact ((hj' e he).2 x hx).old _
    repeat' first|(apply yA;exact rfl)|apply yB|apply yC|((first|apply yD|apply yE);(first|exact yF|assumption);iterate 6 exact rfl)|((first|apply yG|apply yH|apply yI);exact rfl;(first|exact yJ|exact yK rfl rfl|exact yL rfl|exact yM rfl|exact rfl|exact aL rfl rfl rfl rfl rfl|exact aS rfl rfl rfl rfl rfl rfl rfl))|((first|apply yN|apply yO|apply yP);exact rfl)|(exfalso;omega)|(((first|apply yT|apply yU|apply yV|apply yW);exact rfl;(first|exact .d|exact .e|exact .n|((fail_if_success exact bqt);(fail_if_success exact bqf);exact .b)))<;>intro _)
    refine Go.drawn hr hq rfl rfl rfl (below_ok 5 (by decide) (by decide)) ?_
    rintro _ q1 hq1 ⟨a, ha0, ha1, rfl⟩
    repeat' first|(apply yA;exact rfl)|apply yB|apply yC|((first|apply yG|apply yH|apply yI);exact rfl;(first|exact yJ|exact yK rfl rfl|exact yL rfl|exact yM rfl|exact rfl|exact aL rfl rfl rfl rfl rfl|exact aS rfl rfl rfl rfl rfl rfl rfl|exact yX (enc := encCol) rfl rfl hk hlt rfl))|((first|apply yN|apply yO|apply yP);exact rfl)|((first|apply yQ|apply yR|apply yS);(iterate 3 exact rfl);exact l1Int_ok _)|(exfalso;omega)|(((first|apply yT|apply yU|apply yV|apply yW);exact rfl;(first|exact .d|exact .e|exact .n|((fail_if_success exact bqt);(fail_if_success exact bqf);exact .b)))<;>intro _)
    -- paths
    · refine Go.drawn hr hq1 rfl rfl rfl (below_ok 3 (by decide) (by decide)) ?_
      intro r q2 hq2 hz
      obtain ⟨m, hm, rfl⟩ := below_lt (by decide) hz
      have hm3 : m = 0 ∨ m = 1 ∨ m = 2 := by omega
      rcases hm3 with rfl | rfl | rfl
      · repeat' first|(apply yA;exact rfl)|apply yB|apply yC|((first|apply yD|apply yE);(first|exact yF|assumption);iterate 6 exact rfl)|((first|apply yG|apply yH|apply yI);exact rfl;(first|exact yJ|exact yK rfl rfl|exact yL rfl|exact yM rfl|exact rfl|exact aL rfl rfl rfl rfl rfl|exact aS rfl rfl rfl rfl rfl rfl rfl))|((first|apply yN|apply yO|apply yP);exact rfl)|((first|apply yQ|apply yR|apply yS);(iterate 3 exact rfl);exact l1Str_ok _)|(exfalso;omega)|(((first|apply yT|apply yU|apply yV|apply yW);exact rfl;(first|exact .d|exact .e|exact .n|((fail_if_success exact bqt);(fail_if_success exact bqf);exact .b)))<;>intro _)
        refine Go.drawn hr hq2 rfl rfl rfl (once_ok 8 (by decide) (by decide)) ?_
        rintro _ q4 hq4 ⟨b5, rfl⟩
        cases b5
        · repeat' first|(apply yA;exact rfl)|apply yB|apply yC|((first|apply yD|apply yE);(first|exact yF|assumption);iterate 6 exact rfl)|((first|apply yG|apply yH|apply yI);exact rfl;(first|exact yJ|exact yK rfl rfl|exact yL rfl|exact yM rfl|exact rfl|exact aL rfl rfl rfl rfl rfl|exact aS rfl rfl rfl rfl rfl rfl rfl))|((first|apply yN|apply yO|apply yP);exact rfl)|(exfalso;omega)|(((first|apply yT|apply yU|apply yV|apply yW);exact rfl;(first|exact .d|exact .e|exact .n|((fail_if_success exact bqt);(fail_if_success exact bqf);exact .b)))<;>intro _)
          refine Go.drawn hr hq4 rfl rfl rfl (once_ok 60 (by decide) (by decide)) ?_
          rintro _ q5 hq5 ⟨b6, rfl⟩
          cases b6
          · repeat' first|(apply yA;exact rfl)|apply yB|apply yC|((first|apply yD|apply yE);(first|exact yF|assumption);iterate 6 exact rfl)|((first|apply yG|apply yH|apply yI);exact rfl;(first|exact yJ|exact yK rfl rfl|exact yL rfl|exact yM rfl|exact rfl|exact aL rfl rfl rfl rfl rfl|exact aS rfl rfl rfl rfl rfl rfl rfl))|((first|apply yN|apply yO|apply yP);exact rfl)|(exfalso;omega)|(((first|apply yT|apply yU|apply yV|apply yW);exact rfl;(first|exact .d|exact .e|exact .n|((fail_if_success exact bqt);(fail_if_success exact bqf);exact .b)))<;>intro _)
            refine Go.app1 (k := 0) (ys := vs.map encV) (junk := junk) (z := encV (⟨2, 0, []⟩ : Val)) rfl rfl rfl rfl rfl lens hj rfl hbd fun u' junk' hj' => ?_
            repeat' first|(apply yA;exact rfl)|apply yB|apply yC|((first|apply yD|apply yE);(first|exact yF|assumption);iterate 6 exact rfl)|((first|apply yG|apply yH|apply yI);exact rfl;(first|exact yJ|exact yK rfl rfl|exact yL rfl|exact yM rfl|exact rfl|exact aL rfl rfl rfl rfl rfl|exact aS rfl rfl rfl rfl rfl rfl rfl))|((first|apply yN|apply yO|apply yP);exact rfl)|(exfalso;omega)|(((first|apply yT|apply yU|apply yV|apply yW);exact rfl;(first|exact .d|exact .e|exact .n|((fail_if_success exact bqt);(fail_if_success exact bqf);exact .b)))<;>intro _)
            refine Go.freezeN (l := [(u', vs.map encV ++ [encV (⟨2, 0, []⟩ : Val)] ++ junk')]) (m := [(0, [encV (⟨2, 0, []⟩ : Val)])]) (fr' := [(0, .c (.ptr id v 0 0)), (3, .c (.fp (encTable t))), (5, .c (vec (σ.next + 0) u' ((vs ++ [(⟨2, 0, []⟩ : Val)]).map encV) junk')), (6, .c (.int .i64 (IntKind.i64.wrap (k + 1))))]) (hr.old hS) (keepF _ _ _ hj') (Nat.le_refl _) (.frz rfl (.refl (old_ptr (Nat.lt_succ_of_lt hr.2.1))) (.frz rfl (.refl (hT _ (Nat.le_succ _))) (.frz (by rw [List.map_append]; rfl) (.refl (old_sl (Nat.lt_succ_self _))) (.frz rfl (.refl old_c) .nil)))) ?_
            exact fin (⟨2, 0, []⟩ : Val) q5 u' junk' (by simp [bV, vNull, vInt] <;> omega) hq5 hj' _ _ rfl (by rw [List.map_append]; rfl)
          · repeat' first|(apply yA;exact rfl)|apply yB|apply yC|((first|apply yD|apply yE);(first|exact yF|assumption);iterate 6 exact rfl)|((first|apply yG|apply yH|apply yI);exact rfl;(first|exact yJ|exact yK rfl rfl|exact yL rfl|exact yM rfl|exact rfl|exact aL rfl rfl rfl rfl rfl|exact aS rfl rfl rfl rfl rfl rfl rfl))|((first|apply yN|apply yO|apply yP);exact rfl)|(exfalso;omega)|(((first|apply yT|apply yU|apply yV|apply yW);exact rfl;(first|exact .d|exact .e|exact .n|((fail_if_success exact bqt);(fail_if_success exact bqf);exact .b)))<;>intro _)
            refine Go.drawn hr hq5 rfl rfl rfl val_ok ?_
            rintro _ q6 hq6 ⟨w, hw, rfl⟩
            repeat' first|(apply yA;exact rfl)|apply yB|apply yC|((first|apply yD|apply yE);(first|exact yF|assumption);iterate 6 exact rfl)|((first|apply yG|apply yH|apply yI);exact rfl;(first|exact yJ|exact yK rfl rfl|exact yL rfl|exact yM rfl|exact rfl|exact aL rfl rfl rfl rfl rfl|exact aS rfl rfl rfl rfl rfl rfl rfl))|((first|apply yN|apply yO|apply yP);exact rfl)|(exfalso;omega)|(((first|apply yT|apply yU|apply yV|apply yW);exact rfl;(first|exact .d|exact .e|exact .n|((fail_if_success exact bqt);(fail_if_success exact bqf);exact .b)))<;>intro _)
            refine Go.app1 (k := 0) (ys := vs.map encV) (junk := junk) (z := encV w) rfl rfl rfl rfl rfl lens hj rfl hbd fun u' junk' hj' => ?_
            repeat' first|(apply yA;exact rfl)|apply yB|apply yC|((first|apply yD|apply yE);(first|exact yF|assumption);iterate 6 exact rfl)|((first|apply yG|apply yH|apply yI);exact rfl;(first|exact yJ|exact yK rfl rfl|exact yL rfl|exact yM rfl|exact rfl|exact aL rfl rfl rfl rfl rfl|exact aS rfl rfl rfl rfl rfl rfl rfl))|((first|apply yN|apply yO|apply yP);exact rfl)|(exfalso;omega)|(((first|apply yT|apply yU|apply yV|apply yW);exact rfl;(first|exact .d|exact .e|exact .n|((fail_if_success exact bqt);(fail_if_success exact bqf);exact .b)))<;>intro _)
            refine Go.freezeN (l := [(u', vs.map encV ++ [encV w] ++ junk')]) (m := [(0, [encV w])]) (fr' := [(0, .c (.ptr id v 0 0)), (3, .c (.fp (encTable t))), (5, .c (vec (σ.next + 0) u' ((vs ++ [w]).map encV) junk')), (6, .c (.int .i64 (IntKind.i64.wrap (k + 1))))]) (hr.old hS) (keepF _ _ _ hj') (Nat.le_refl _) (.frz rfl (.refl (old_ptr (Nat.lt_succ_of_lt hr.2.1))) (.frz rfl (.refl (hT _ (Nat.le_succ _))) (.frz (by rw [List.map_append]; rfl) (.refl (old_sl (Nat.lt_succ_self _))) (.frz rfl (.refl old_c) .nil)))) ?_
            exact fin w q6 u' junk' (by simp [bV, vNull, vInt] <;> omega) hq6 hj' _ _ rfl (by rw [List.map_append]; rfl)
        · repeat' first|(apply yA;exact rfl)|apply yB|apply yC|((first|apply yD|apply yE);(first|exact yF|assumption);iterate 6 exact rfl)|((first|apply yG|apply yH|apply yI);exact rfl;(first|exact yJ|exact yK rfl rfl|exact yL rfl|exact yM rfl|exact rfl|exact aL rfl rfl rfl rfl rfl|exact aS rfl rfl rfl rfl rfl rfl rfl))|((first|apply yN|apply yO|apply yP);exact rfl)|(exfalso;omega)|(((first|apply yT|apply yU|apply yV|apply yW);exact rfl;(first|exact .d|exact .e|exact .n|((fail_if_success exact bqt);(fail_if_success exact bqf);exact .b)))<;>intro _)
          refine Go.drawn hr hq4 rfl rfl rfl (once_ok 60 (by decide) (by decide)) ?_
          rintro _ q5 hq5 ⟨b6, rfl⟩
          cases b6
          · repeat' first|(apply yA;exact rfl)|apply yB|apply yC|((first|apply yD|apply yE);(first|exact yF|assumption);iterate 6 exact rfl)|((first|apply yG|apply yH|apply yI);exact rfl;(first|exact yJ|exact yK rfl rfl|exact yL rfl|exact yM rfl|exact rfl|exact aL rfl rfl rfl rfl rfl|exact aS rfl rfl rfl rfl rfl rfl rfl))|((first|apply yN|apply yO|apply yP);exact rfl)|(exfalso;omega)|(((first|apply yT|apply yU|apply yV|apply yW);exact rfl;(first|exact .d|exact .e|exact .n|((fail_if_success exact bqt);(fail_if_success exact bqf);exact .b)))<;>intro _)
            refine Go.app1 (k := 0) (ys := vs.map encV) (junk := junk) (z := encV vNull) rfl rfl rfl rfl rfl lens hj rfl hbd fun u' junk' hj' => ?_
            repeat' first|(apply yA;exact rfl)|apply yB|apply yC|((first|apply yD|apply yE);(first|exact yF|assumption);iterate 6 exact rfl)|((first|apply yG|apply yH|apply yI);exact rfl;(first|exact yJ|exact yK rfl rfl|exact yL rfl|exact yM rfl|exact rfl|exact aL rfl rfl rfl rfl rfl|exact aS rfl rfl rfl rfl rfl rfl rfl))|((first|apply yN|apply yO|apply yP);exact rfl)|(exfalso;omega)|(((first|apply yT|apply yU|apply yV|apply yW);exact rfl;(first|exact .d|exact .e|exact .n|((fail_if_success exact bqt);(fail_if_success exact bqf);exact .b)))<;>intro _)
            refine Go.freezeN (l := [(u', vs.map encV ++ [encV vNull] ++ junk')]) (m := [(0, [encV vNull])]) (fr' := [(0, .c (.ptr id v 0 0)), (3, .c (.fp (encTable t))), (5, .c (vec (σ.next + 0) u' ((vs ++ [vNull]).map encV) junk')), (6, .c (.int .i64 (IntKind.i64.wrap (k + 1))))]) (hr.old hS) (keepF _ _ _ hj') (Nat.le_refl _) (.frz rfl (.refl (old_ptr (Nat.lt_succ_of_lt hr.2.1))) (.frz rfl (.refl (hT _ (Nat.le_succ _))) (.frz (by rw [List.map_append]; rfl) (.refl (old_sl (Nat.lt_succ_self _))) (.frz rfl (.refl old_c) .nil)))) ?_
            exact fin vNull q5 u' junk' (by simp [bV, vNull, vInt] <;> omega) hq5 hj' _ _ rfl (by rw [List.map_append]; rfl)
          · repeat' first|(apply yA;exact rfl)|apply yB|apply yC|((first|apply yD|apply yE);(first|exact yF|assumption);iterate 6 exact rfl)|((first|apply yG|apply yH|apply yI);exact rfl;(first|exact yJ|exact yK rfl rfl|exact yL rfl|exact yM rfl|exact rfl|exact aL rfl rfl rfl rfl rfl|exact aS rfl rfl rfl rfl rfl rfl rfl))|((first|apply yN|apply yO|apply yP);exact rfl)|(exfalso;omega)|(((first|apply yT|apply yU|apply yV|apply yW);exact rfl;(first|exact .d|exact .e|exact .n|((fail_if_success exact bqt);(fail_if_success exact bqf);exact .b)))<;>intro _)
            refine Go.drawn hr hq5 rfl rfl rfl val_ok ?_
            rintro _ q6 hq6 ⟨w, hw, rfl⟩
            repeat' first|(apply yA;exact rfl)|apply yB|apply yC|((first|apply yD|apply yE);(first|exact yF|assumption);iterate 6 exact rfl)|((first|apply yG|apply yH|apply yI);exact rfl;(first|exact yJ|exact yK rfl rfl|exact yL rfl|exact yM rfl|exact rfl|exact aL rfl rfl rfl rfl rfl|exact aS rfl rfl rfl rfl rfl rfl rfl))|((first|apply yN|apply yO|apply yP);exact rfl)|(exfalso;omega)|(((first|apply yT|apply yU|apply yV|apply yW);exact rfl;(first|exact .d|exact .e|exact .n|((fail_if_success exact bqt);(fail_if_success exact bqf);exact .b)))<;>intro _)
            refine Go.app1 (k := 0) (ys := vs.map encV) (junk := junk) (z := encV w) rfl rfl rfl rfl rfl lens hj rfl hbd fun u' junk' hj' => ?_
            repeat' first|(apply yA;exact rfl)|apply yB|apply yC|((first|apply yD|apply yE);(first|exact yF|assumption);iterate 6 exact rfl)|((first|apply yG|apply yH|apply yI);exact rfl;(first|exact yJ|exact yK rfl rfl|exact yL rfl|exact yM rfl|exact rfl|exact aL rfl rfl rfl rfl rfl|exact aS rfl rfl rfl rfl rfl rfl rfl))|((first|apply yN|apply yO|apply yP);exact rfl)|(exfalso;omega)|(((first|apply yT|apply yU|apply yV|apply yW);exact rfl;(first|exact .d|exact .e|exact .n|((fail_if_success exact bqt);(fail_if_success exact bqf);exact .b)))<;>intro _)
            refine Go.freezeN (l := [(u', vs.map encV ++ [encV w] ++ junk')]) (m := [(0, [encV w])]) (fr' := [(0, .c (.ptr id v 0 0)), (3, .c (.fp (encTable t))), (5, .c (vec (σ.next + 0) u' ((vs ++ [w]).map encV) junk')), (6, .c (.int .i64 (IntKind.i64.wrap (k + 1))))]) (hr.old hS) (keepF _ _ _ hj') (Nat.le_refl _) (.frz rfl (.refl (old_ptr (Nat.lt_succ_of_lt hr.2.1))) (.frz rfl (.refl (hT _ (Nat.le_succ _))) (.frz (by rw [List.map_append]; rfl) (.refl (old_sl (Nat.lt_succ_self _))) (.frz rfl (.refl old_c) .nil)))) ?_
            exact fin w q6 u' junk' (by simp [bV, vNull, vInt] <;> omega) hq6 hj' _ _ rfl (by rw [List.map_append]; rfl)
      · repeat' first|(apply yA;exact rfl)|apply yB|apply yC|((first|apply yD|apply yE);(first|exact yF|assumption);iterate 6 exact rfl)|((first|apply yG|apply yH|apply yI);exact rfl;(first|exact yJ|exact yK rfl rfl|exact yL rfl|exact yM rfl|exact rfl|exact aL rfl rfl rfl rfl rfl|exact aS rfl rfl rfl rfl rfl rfl rfl))|((first|apply yN|apply yO|apply yP);exact rfl)|((first|apply yQ|apply yR|apply yS);(iterate 3 exact rfl);exact l1Str_ok _)|(exfalso;omega)|(((first|apply yT|apply yU|apply yV|apply yW);exact rfl;(first|exact .d|exact .e|exact .n|((fail_if_success exact bqt);(fail_if_success exact bqf);exact .b)))<;>intro _)
        refine Go.drawn hr hq2 rfl rfl rfl (once_ok 8 (by decide) (by decide)) ?_
        rintro _ q4 hq4 ⟨b5, rfl⟩
        cases b5
        · repeat' first|(apply yA;exact rfl)|apply yB|apply yC|((first|apply yD|apply yE);(first|exact yF|assumption);iterate 6 exact rfl)|((first|apply yG|apply yH|apply yI);exact rfl;(first|exact yJ|exact yK rfl rfl|exact yL rfl|exact yM rfl|exact rfl|exact aL rfl rfl rfl rfl rfl|exact aS rfl rfl rfl rfl rfl rfl rfl))|((first|apply yN|apply yO|apply yP);exact rfl)|(exfalso;omega)|(((first|apply yT|apply yU|apply yV|apply yW);exact rfl;(first|exact .d|exact .e|exact .n|((fail_if_success exact bqt);(fail_if_success exact bqf);exact .b)))<;>intro _)
          refine Go.drawn hr hq4 rfl rfl rfl (once_ok 60 (by decide) (by decide)) ?_
          rintro _ q5 hq5 ⟨b6, rfl⟩
          cases b6
          · repeat' first|(apply yA;exact rfl)|apply yB|apply yC|((first|apply yD|apply yE);(first|exact yF|assumption);iterate 6 exact rfl)|((first|apply yG|apply yH|apply yI);exact rfl;(first|exact yJ|exact yK rfl rfl|exact yL rfl|exact yM rfl|exact rfl|exact aL rfl rfl rfl rfl rfl|exact aS rfl rfl rfl rfl rfl rfl rfl))|((first|apply yN|apply yO|apply yP);exact rfl)|(exfalso;omega)|(((first|apply yT|apply yU|apply yV|apply yW);exact rfl;(first|exact .d|exact .e|exact .n|((fail_if_success exact bqt);(fail_if_success exact bqf);exact .b)))<;>intro _)
            refine Go.app1 (k := 0) (ys := vs.map encV) (junk := junk) (z := encV (⟨2, 0, [97]⟩ : Val)) rfl rfl rfl rfl rfl lens hj rfl hbd fun u' junk' hj' => ?_
            repeat' first|(apply yA;exact rfl)|apply yB|apply yC|((first|apply yD|apply yE);(first|exact yF|assumption);iterate 6 exact rfl)|((first|apply yG|apply yH|apply yI);exact rfl;(first|exact yJ|exact yK rfl rfl|exact yL rfl|exact yM rfl|exact rfl|exact aL rfl rfl rfl rfl rfl|exact aS rfl rfl rfl rfl rfl rfl rfl))|((first|apply yN|apply yO|apply yP);exact rfl)|(exfalso;omega)|(((first|apply yT|apply yU|apply yV|apply yW);exact rfl;(first|exact .d|exact .e|exact .n|((fail_if_success exact bqt);(fail_if_success exact bqf);exact .b)))<;>intro _)
            refine Go.freezeN (l := [(u', vs.map encV ++ [encV (⟨2, 0, [97]⟩ : Val)] ++ junk')]) (m := [(0, [encV (⟨2, 0, [97]⟩ : Val)])]) (fr' := [(0, .c (.ptr id v 0 0)), (3, .c (.fp (encTable t))), (5, .c (vec (σ.next + 0) u' ((vs ++ [(⟨2, 0, [97]⟩ : Val)]).map encV) junk')), (6, .c (.int .i64 (IntKind.i64.wrap (k + 1))))]) (hr.old hS) (keepF _ _ _ hj') (Nat.le_refl _) (.frz rfl (.refl (old_ptr (Nat.lt_succ_of_lt hr.2.1))) (.frz rfl (.refl (hT _ (Nat.le_succ _))) (.frz (by rw [List.map_append]; rfl) (.refl (old_sl (Nat.lt_succ_self _))) (.frz rfl (.refl old_c) .nil)))) ?_
            exact fin (⟨2, 0, [97]⟩ : Val) q5 u' junk' (by simp [bV, vNull, vInt] <;> omega) hq5 hj' _ _ rfl (by rw [List.map_append]; rfl)
          · repeat' first|(apply yA;exact rfl)|apply yB|apply yC|((first|apply yD|apply yE);(first|exact yF|assumption);iterate 6 exact rfl)|((first|apply yG|apply yH|apply yI);exact rfl;(first|exact yJ|exact yK rfl rfl|exact yL rfl|exact yM rfl|exact rfl|exact aL rfl rfl rfl rfl rfl|exact aS rfl rfl rfl rfl rfl rfl rfl))|((first|apply yN|apply yO|apply yP);exact rfl)|(exfalso;omega)|(((first|apply yT|apply yU|apply yV|apply yW);exact rfl;(first|exact .d|exact .e|exact .n|((fail_if_success exact bqt);(fail_if_success exact bqf);exact .b)))<;>intro _)
            refine Go.drawn hr hq5 rfl rfl rfl val_ok ?_
            rintro _ q6 hq6 ⟨w, hw, rfl⟩
            repeat' first|(apply yA;exact rfl)|apply yB|apply yC|((first|apply yD|apply yE);(first|exact yF|assumption);iterate 6 exact rfl)|((first|apply yG|apply yH|apply yI);exact rfl;(first|exact yJ|exact yK rfl rfl|exact yL rfl|exact yM rfl|exact rfl|exact aL rfl rfl rfl rfl rfl|exact aS rfl rfl rfl rfl rfl rfl rfl))|((first|apply yN|apply yO|apply yP);exact rfl)|(exfalso;omega)|(((first|apply yT|apply yU|apply yV|apply yW);exact rfl;(first|exact .d|exact .e|exact .n|((fail_if_success exact bqt);(fail_if_success exact bqf);exact .b)))<;>intro _)
            refine Go.app1 (k := 0) (ys := vs.map encV) (junk := junk) (z := encV w) rfl rfl rfl rfl rfl lens hj rfl hbd fun u' junk' hj' => ?_
            repeat' first|(apply yA;exact rfl)|apply yB|apply yC|((first|apply yD|apply yE);(first|exact yF|assumption);iterate 6 exact rfl)|((first|apply yG|apply yH|apply yI);exact rfl;(first|exact yJ|exact yK rfl rfl|exact yL rfl|exact yM rfl|exact rfl|exact aL rfl rfl rfl rfl rfl|exact aS rfl rfl rfl rfl rfl rfl rfl))|((first|apply yN|apply yO|apply yP);exact rfl)|(exfalso;omega)|(((first|apply yT|apply yU|apply yV|apply yW);exact rfl;(first|exact .d|exact .e|exact .n|((fail_if_success exact bqt);(fail_if_success exact bqf);exact .b)))<;>intro _)
            refine Go.freezeN (l := [(u', vs.map encV ++ [encV w] ++ junk')]) (m := [(0, [encV w])]) (fr' := [(0, .c (.ptr id v 0 0)), (3, .c (.fp (encTable t))), (5, .c (vec (σ.next + 0) u' ((vs ++ [w]).map encV) junk')), (6, .c (.int .i64 (IntKind.i64.wrap (k + 1))))]) (hr.old hS) (keepF _ _ _ hj') (Nat.le_refl _) (.frz rfl (.refl (old_ptr (Nat.lt_succ_of_lt hr.2.1))) (.frz rfl (.refl (hT _ (Nat.le_succ _))) (.frz (by rw [List.map_append]; rfl) (.refl (old_sl (Nat.lt_succ_self _))) (.frz rfl (.refl old_c) .nil)))) ?_
            exact fin w q6 u' junk' (by simp [bV, vNull, vInt] <;> omega) hq6 hj' _ _ rfl (by rw [List.map_append]; rfl)
        · repeat' first|(apply yA;exact rfl)|apply yB|apply yC|((first|apply yD|apply yE);(first|exact yF|assumption);iterate 6 exact rfl)|((first|apply yG|apply yH|apply yI);exact rfl;(first|exact yJ|exact yK rfl rfl|exact yL rfl|exact yM rfl|exact rfl|exact aL rfl rfl rfl rfl rfl|exact aS rfl rfl rfl rfl rfl rfl rfl))|((first|apply yN|apply yO|apply yP);exact rfl)|(exfalso;omega)|(((first|apply yT|apply yU|apply yV|apply yW);exact rfl;(first|exact .d|exact .e|exact .n|((fail_if_success exact bqt);(fail_if_success exact bqf);exact .b)))<;>intro _)
          refine Go.drawn hr hq4 rfl rfl rfl (once_ok 60 (by decide) (by decide)) ?_
          rintro _ q5 hq5 ⟨b6, rfl⟩
          cases b6
          · repeat' first|(apply yA;exact rfl)|apply yB|apply yC|((first|apply yD|apply yE);(first|exact yF|assumption);iterate 6 exact rfl)|((first|apply yG|apply yH|apply yI);exact rfl;(first|exact yJ|exact yK rfl rfl|exact yL rfl|exact yM rfl|exact rfl|exact aL rfl rfl rfl rfl rfl|exact aS rfl rfl rfl rfl rfl rfl rfl))|((first|apply yN|apply yO|apply yP);exact rfl)|(exfalso;omega)|(((first|apply yT|apply yU|apply yV|apply yW);exact rfl;(first|exact .d|exact .e|exact .n|((fail_if_success exact bqt);(fail_if_success exact bqf);exact .b)))<;>intro _)
            refine Go.app1 (k := 0) (ys := vs.map encV) (junk := junk) (z := encV vNull) rfl rfl rfl rfl rfl lens hj rfl hbd fun u' junk' hj' => ?_
            repeat' first|(apply yA;exact rfl)|apply yB|apply yC|((first|apply yD|apply yE);(first|exact yF|assumption);iterate 6 exact rfl)|((first|apply yG|apply yH|apply yI);exact rfl;(first|exact yJ|exact yK rfl rfl|exact yL rfl|exact yM rfl|exact rfl|exact aL rfl rfl rfl rfl rfl|exact aS rfl rfl rfl rfl rfl rfl rfl))|((first|apply yN|apply yO|apply yP);exact rfl)|(exfalso;omega)|(((first|apply yT|apply yU|apply yV|apply yW);exact rfl;(first|exact .d|exact .e|exact .n|((fail_if_success exact bqt);(fail_if_success exact bqf);exact .b)))<;>intro _)
            refine Go.freezeN (l := [(u', vs.map encV ++ [encV vNull] ++ junk')]) (m := [(0, [encV vNull])]) (fr' := [(0, .c (.ptr id v 0 0)), (3, .c (.fp (encTable t))), (5, .c (vec (σ.next + 0) u' ((vs ++ [vNull]).map encV) junk')), (6, .c (.int .i64 (IntKind.i64.wrap (k + 1))))]) (hr.old hS) (keepF _ _ _ hj') (Nat.le_refl _) (.frz rfl (.refl (old_ptr (Nat.lt_succ_of_lt hr.2.1))) (.frz rfl (.refl (hT _ (Nat.le_succ _))) (.frz (by rw [List.map_append]; rfl) (.refl (old_sl (Nat.lt_succ_self _))) (.frz rfl (.refl old_c) .nil)))) ?_
            exact fin vNull q5 u' junk' (by simp [bV, vNull, vInt] <;> omega) hq5 hj' _ _ rfl (by rw [List.map_append]; rfl)
          · repeat' first|(apply yA;exact rfl)|apply yB|apply yC|((first|apply yD|apply yE);(first|exact yF|assumption);iterate 6 exact rfl)|((first|apply yG|apply yH|apply yI);exact rfl;(first|exact yJ|exact yK rfl rfl|exact yL rfl|exact yM rfl|exact rfl|exact aL rfl rfl rfl rfl rfl|exact aS rfl rfl rfl rfl rfl rfl rfl))|((first|apply yN|apply yO|apply yP);exact rfl)|(exfalso;omega)|(((first|apply yT|apply yU|apply yV|apply yW);exact rfl;(first|exact .d|exact .e|exact .n|((fail_if_success exact bqt);(fail_if_success exact bqf);exact .b)))<;>intro _)
            refine Go.drawn hr hq5 rfl rfl rfl val_ok ?_
            rintro _ q6 hq6 ⟨w, hw, rfl⟩
            repeat' first|(apply yA;exact rfl)|apply yB|apply yC|((first|apply yD|apply yE);(first|exact yF|assumption);iterate 6 exact rfl)|((first|apply yG|apply yH|apply yI);exact rfl;(first|exact yJ|exact yK rfl rfl|exact yL rfl|exact yM rfl|exact rfl|exact aL rfl rfl rfl rfl rfl|exact aS rfl rfl rfl rfl rfl rfl rfl))|((first|apply yN|apply yO|apply yP);exact rfl)|(exfalso;omega)|(((first|apply yT|apply yU|apply yV|apply yW);exact rfl;(first|exact .d|exact .e|exact .n|((fail_if_success exact bqt);(fail_if_success exact bqf);exact .b)))<;>intro _)
            refine Go.app1 (k := 0) (ys := vs.map encV) (junk := junk) (z := encV w) rfl rfl rfl rfl rfl lens hj rfl hbd fun u' junk' hj' => ?_
            repeat' first|(apply yA;exact rfl)|apply yB|apply yC|((first|apply yD|apply yE);(first|exact yF|assumption);iterate 6 exact rfl)|((first|apply yG|apply yH|apply yI);exact rfl;(first|exact yJ|exact yK rfl rfl|exact yL rfl|exact yM rfl|exact rfl|exact aL rfl rfl rfl rfl rfl|exact aS rfl rfl rfl rfl rfl rfl rfl))|((first|apply yN|apply yO|apply yP);exact rfl)|(exfalso;omega)|(((first|apply yT|apply yU|apply yV|apply yW);exact rfl;(first|exact .d|exact .e|exact .n|((fail_if_success exact bqt);(fail_if_success exact bqf);exact .b)))<;>intro _)
            refine Go.freezeN (l := [(u', vs.map encV ++ [encV w] ++ junk')]) (m := [(0, [encV w])]) (fr' := [(0, .c (.ptr id v 0 0)), (3, .c (.fp (encTable t))), (5, .c (vec (σ.next + 0) u' ((vs ++ [w]).map encV) junk')), (6, .c (.int .i64 (IntKind.i64.wrap (k + 1))))]) (hr.old hS) (keepF _ _ _ hj') (Nat.le_refl _) (.frz rfl (.refl (old_ptr (Nat.lt_succ_of_lt hr.2.1))) (.frz rfl (.refl (hT _ (Nat.le_succ _))) (.frz (by rw [List.map_append]; rfl) (.refl (old_sl (Nat.lt_succ_self _))) (.frz rfl (.refl old_c) .nil)))) ?_
            exact fin w q6 u' junk' (by simp [bV, vNull, vInt] <;> omega) hq6 hj' _ _ rfl (by rw [List.map_append]; rfl)
      · repeat' first|(apply yA;exact rfl)|apply yB|apply yC|((first|apply yD|apply yE);(first|exact yF|assumption);iterate 6 exact rfl)|((first|apply yG|apply yH|apply yI);exact rfl;(first|exact yJ|exact yK rfl rfl|exact yL rfl|exact yM rfl|exact rfl|exact aL rfl rfl rfl rfl rfl|exact aS rfl rfl rfl rfl rfl rfl rfl))|((first|apply yN|apply yO|apply yP);exact rfl)|((first|apply yQ|apply yR|apply yS);(iterate 3 exact rfl);exact l1Str_ok _)|(exfalso;omega)|(((first|apply yT|apply yU|apply yV|apply yW);exact rfl;(first|exact .d|exact .e|exact .n|((fail_if_success exact bqt);(fail_if_success exact bqf);exact .b)))<;>intro _)
        refine Go.drawn hr hq2 rfl rfl rfl (once_ok 8 (by decide) (by decide)) ?_
        rintro _ q4 hq4 ⟨b5, rfl⟩
        cases b5
        · repeat' first|(apply yA;exact rfl)|apply yB|apply yC|((first|apply yD|apply yE);(first|exact yF|assumption);iterate 6 exact rfl)|((first|apply yG|apply yH|apply yI);exact rfl;(first|exact yJ|exact yK rfl rfl|exact yL rfl|exact yM rfl|exact rfl|exact aL rfl rfl rfl rfl rfl|exact aS rfl rfl rfl rfl rfl rfl rfl))|((first|apply yN|apply yO|apply yP);exact rfl)|(exfalso;omega)|(((first|apply yT|apply yU|apply yV|apply yW);exact rfl;(first|exact .d|exact .e|exact .n|((fail_if_success exact bqt);(fail_if_success exact bqf);exact .b)))<;>intro _)
          refine Go.drawn hr hq4 rfl rfl rfl (once_ok 60 (by decide) (by decide)) ?_
          rintro _ q5 hq5 ⟨b6, rfl⟩
          cases b6
          · repeat' first|(apply yA;exact rfl)|apply yB|apply yC|((first|apply yD|apply yE);(first|exact yF|assumption);iterate 6 exact rfl)|((first|apply yG|apply yH|apply yI);exact rfl;(first|exact yJ|exact yK rfl rfl|exact yL rfl|exact yM rfl|exact rfl|exact aL rfl rfl rfl rfl rfl|exact aS rfl rfl rfl rfl rfl rfl rfl))|((first|apply yN|apply yO|apply yP);exact rfl)|(exfalso;omega)|(((first|apply yT|apply yU|apply yV|apply yW);exact rfl;(first|exact .d|exact .e|exact .n|((fail_if_success exact bqt);(fail_if_success exact bqf);exact .b)))<;>intro _)
            refine Go.app1 (k := 0) (ys := vs.map encV) (junk := junk) (z := encV (⟨2, 0, [98]⟩ : Val)) rfl rfl rfl rfl rfl lens hj rfl hbd fun u' junk' hj' => ?_
            repeat' first|(apply yA;exact rfl)|apply yB|apply yC|((first|apply yD|apply yE);(first|exact yF|assumption);iterate 6 exact rfl)|((first|apply yG|apply yH|apply yI);exact rfl;(first|exact yJ|exact yK rfl rfl|exact yL rfl|exact yM rfl|exact rfl|exact aL rfl rfl rfl rfl rfl|exact aS rfl rfl rfl rfl rfl rfl rfl))|((first|apply yN|apply yO|apply yP);exact rfl)|(exfalso;omega)|(((first|apply yT|apply yU|apply yV|apply yW);exact rfl;(first|exact .d|exact .e|exact .n|((fail_if_success exact bqt);(fail_if_success exact bqf);exact .b)))<;>intro _)
            refine Go.freezeN (l := [(u', vs.map encV ++ [encV (⟨2, 0, [98]⟩ : Val)] ++ junk')]) (m := [(0, [encV (⟨2, 0, [98]⟩ : Val)])]) (fr' := [(0, .c (.ptr id v 0 0)), (3, .c (.fp (encTable t))), (5, .c (vec (σ.next + 0) u' ((vs ++ [(⟨2, 0, [98]⟩ : Val)]).map encV) junk')), (6, .c (.int .i64 (IntKind.i64.wrap (k + 1))))]) (hr.old hS) (keepF _ _ _ hj') (Nat.le_refl _) (.frz rfl (.refl (old_ptr (Nat.lt_succ_of_lt hr.2.1))) (.frz rfl (.refl (hT _ (Nat.le_succ _))) (.frz (by rw [List.map_append]; rfl) (.refl (old_sl (Nat.lt_succ_self _))) (.frz rfl (.refl old_c) .nil)))) ?_
            exact fin (⟨2, 0, [98]⟩ : Val) q5 u' junk' (by simp [bV, vNull, vInt] <;> omega) hq5 hj' _ _ rfl (by rw [List.map_append]; rfl)
          · repeat' first|(apply yA;exact rfl)|apply yB|apply yC|((first|apply yD|apply yE);(first|exact yF|assumption);iterate 6 exact rfl)|((first|apply yG|apply yH|apply yI);exact rfl;(first|exact yJ|exact yK rfl rfl|exact yL rfl|exact yM rfl|exact rfl|exact aL rfl rfl rfl rfl rfl|exact aS rfl rfl rfl rfl rfl rfl rfl))|((first|apply yN|apply yO|apply yP);exact rfl)|(exfalso;omega)|(((first|apply yT|apply yU|apply yV|apply yW);exact rfl;(first|exact .d|exact .e|exact .n|((fail_if_success exact bqt);(fail_if_success exact bqf);exact .b)))<;>intro _)
            refine Go.drawn hr hq5 rfl rfl rfl val_ok ?_
            rintro _ q6 hq6 ⟨w, hw, rfl⟩
            repeat' first|(apply yA;exact rfl)|apply yB|apply yC|((first|apply yD|apply yE);(first|exact yF|assumption);iterate 6 exact rfl)|((first|apply yG|apply yH|apply yI);exact rfl;(first|exact yJ|exact yK rfl rfl|exact yL rfl|exact yM rfl|exact rfl|exact aL rfl rfl rfl rfl rfl|exact aS rfl rfl rfl rfl rfl rfl rfl))|((first|apply yN|apply yO|apply yP);exact rfl)|(exfalso;omega)|(((first|apply yT|apply yU|apply yV|apply yW);exact rfl;(first|exact .d|exact .e|exact .n|((fail_if_success exact bqt);(fail_if_success exact bqf);exact .b)))<;>intro _)
            refine Go.app1 (k := 0) (ys := vs.map encV) (junk := junk) (z := encV w) rfl rfl rfl rfl rfl lens hj rfl hbd fun u' junk' hj' => ?_
            repeat' first|(apply yA;exact rfl)|apply yB|apply yC|((first|apply yD|apply yE);(first|exact yF|assumption);iterate 6 exact rfl)|((first|apply yG|apply yH|apply yI);exact rfl;(first|exact yJ|exact yK rfl rfl|exact yL rfl|exact yM rfl|exact rfl|exact aL rfl rfl rfl rfl rfl|exact aS rfl rfl rfl rfl rfl rfl rfl))|((first|apply yN|apply yO|apply yP);exact rfl)|(exfalso;omega)|(((first|apply yT|apply yU|apply yV|apply yW);exact rfl;(first|exact .d|exact .e|exact .n|((fail_if_success exact bqt);(fail_if_success exact bqf);exact .b)))<;>intro _)
            refine Go.freezeN (l := [(u', vs.map encV ++ [encV w] ++ junk')]) (m := [(0, [encV w])]) (fr' := [(0, .c (.ptr id v 0 0)), (3, .c (.fp (encTable t))), (5, .c (vec (σ.next + 0) u' ((vs ++ [w]).map encV) junk')), (6, .c (.int .i64 (IntKind.i64.wrap (k + 1))))]) (hr.old hS) (keepF _ _ _ hj') (Nat.le_refl _) (.frz rfl (.refl (old_ptr (Nat.lt_succ_of_lt hr.2.1))) (.frz rfl (.refl (hT _ (Nat.le_succ _))) (.frz (by rw [List.map_append]; rfl) (.refl (old_sl (Nat.lt_succ_self _))) (.frz rfl (.refl old_c) .nil)))) ?_
            exact fin w q6 u' junk' (by simp [bV, vNull, vInt] <;> omega) hq6 hj' _ _ rfl (by rw [List.map_append]; rfl)
        · repeat' first|(apply yA;exact rfl)|apply yB|apply yC|((first|apply yD|apply yE);(first|exact yF|assumption);iterate 6 exact rfl)|((first|apply yG|apply yH|apply yI);exact rfl;(first|exact yJ|exact yK rfl rfl|exact yL rfl|exact yM rfl|exact rfl|exact aL rfl rfl rfl rfl rfl|exact aS rfl rfl rfl rfl rfl rfl rfl))|((first|apply yN|apply yO|apply yP);exact rfl)|(exfalso;omega)|(((first|apply yT|apply yU|apply yV|apply yW);exact rfl;(first|exact .d|exact .e|exact .n|((fail_if_success exact bqt);(fail_if_success exact bqf);exact .b)))<;>intro _)
          refine Go.drawn hr hq4 rfl rfl rfl (once_ok 60 (by decide) (by decide)) ?_
          rintro _ q5 hq5 ⟨b6, rfl⟩
          cases b6
          · repeat' first|(apply yA;exact rfl)|apply yB|apply yC|((first|apply yD|apply yE);(first|exact yF|assumption);iterate 6 exact rfl)|((first|apply yG|apply yH|apply yI);exact rfl;(first|exact yJ|exact yK rfl rfl|exact yL rfl|exact yM rfl|exact rfl|exact aL rfl rfl rfl rfl rfl|exact aS rfl rfl rfl rfl rfl rfl rfl))|((first|apply yN|apply yO|apply yP);exact rfl)|(exfalso;omega)|(((first|apply yT|apply yU|apply yV|apply yW);exact rfl;(first|exact .d|exact .e|exact .n|((fail_if_success exact bqt);(fail_if_success exact bqf);exact .b)))<;>intro _)
            refine Go.app1 (k := 0) (ys := vs.map encV) (junk := junk) (z := encV vNull) rfl rfl rfl rfl rfl lens hj rfl hbd fun u' junk' hj' => ?_
            repeat' first|(apply yA;exact rfl)|apply yB|apply yC|((first|apply yD|apply yE);(first|exact yF|assumption);iterate 6 exact rfl)|((first|apply yG|apply yH|apply yI);exact rfl;(first|exact yJ|exact yK rfl rfl|exact yL rfl|exact yM rfl|exact rfl|exact aL rfl rfl rfl rfl rfl|exact aS rfl rfl rfl rfl rfl rfl rfl))|((first|apply yN|apply yO|apply yP);exact rfl)|(exfalso;omega)|(((first|apply yT|apply yU|apply yV|apply yW);exact rfl;(first|exact .d|exact .e|exact .n|((fail_if_success exact bqt);(fail_if_success exact bqf);exact .b)))<;>intro _)
            refine Go.freezeN (l := [(u', vs.map encV ++ [encV vNull] ++ junk')]) (m := [(0, [encV vNull])]) (fr' := [(0, .c (.ptr id v 0 0)), (3, .c (.fp (encTable t))), (5, .c (vec (σ.next + 0) u' ((vs ++ [vNull]).map encV) junk')), (6, .c (.int .i64 (IntKind.i64.wrap (k + 1))))]) (hr.old hS) (keepF _ _ _ hj') (Nat.le_refl _) (.frz rfl (.refl (old_ptr (Nat.lt_succ_of_lt hr.2.1))) (.frz rfl (.refl (hT _ (Nat.le_succ _))) (.frz (by rw [List.map_append]; rfl) (.refl (old_sl (Nat.lt_succ_self _))) (.frz rfl (.refl old_c) .nil)))) ?_
            exact fin vNull q5 u' junk' (by simp [bV, vNull, vInt] <;> omega) hq5 hj' _ _ rfl (by rw [List.map_append]; rfl)
          · repeat' first|(apply yA;exact rfl)|apply yB|apply yC|((first|apply yD|apply yE);(first|exact yF|assumption);iterate 6 exact rfl)|((first|apply yG|apply yH|apply yI);exact rfl;(first|exact yJ|exact yK rfl rfl|exact yL rfl|exact yM rfl|exact rfl|exact aL rfl rfl rfl rfl rfl|exact aS rfl rfl rfl rfl rfl rfl rfl))|((first|apply yN|apply yO|apply yP);exact rfl)|(exfalso;omega)|(((first|apply yT|apply yU|apply yV|apply yW);exact rfl;(first|exact .d|exact .e|exact .n|((fail_if_success exact bqt);(fail_if_success exact bqf);exact .b)))<;>intro _)
            refine Go.drawn hr hq5 rfl rfl rfl val_ok ?_
            rintro _ q6 hq6 ⟨w, hw, rfl⟩
            repeat' first|(apply yA;exact rfl)|apply yB|apply yC|((first|apply yD|apply yE);(first|exact yF|assumption);iterate 6 exact rfl)|((first|apply yG|apply yH|apply yI);exact rfl;(first|exact yJ|exact yK rfl rfl|exact yL rfl|exact yM rfl|exact rfl|exact aL rfl rfl rfl rfl rfl|exact aS rfl rfl rfl rfl rfl rfl rfl))|((first|apply yN|apply yO|apply yP);exact rfl)|(exfalso;omega)|(((first|apply yT|apply yU|apply yV|apply yW);exact rfl;(first|exact .d|exact .e|exact .n|((fail_if_success exact bqt);(fail_if_success exact bqf);exact .b)))<;>intro _)
            refine Go.app1 (k := 0) (ys := vs.map encV) (junk := junk) (z := encV w) rfl rfl rfl rfl rfl lens hj rfl hbd fun u' junk' hj' => ?_
            repeat' first|(apply yA;exact rfl)|apply yB|apply yC|((first|apply yD|apply yE);(first|exact yF|assumption);iterate 6 exact rfl)|((first|apply yG|apply yH|apply yI);exact rfl;(first|exact yJ|exact yK rfl rfl|exact yL rfl|exact yM rfl|exact rfl|exact aL rfl rfl rfl rfl rfl|exact aS rfl rfl rfl rfl rfl rfl rfl))|((first|apply yN|apply yO|apply yP);exact rfl)|(exfalso;omega)|(((first|apply yT|apply yU|apply yV|apply yW);exact rfl;(first|exact .d|exact .e|exact .n|((fail_if_success exact bqt);(fail_if_success exact bqf);exact .b)))<;>intro _)
            refine Go.freezeN (l := [(u', vs.map encV ++ [encV w] ++ junk')]) (m := [(0, [encV w])]) (fr' := [(0, .c (.ptr id v 0 0)), (3, .c (.fp (encTable t))), (5, .c (vec (σ.next + 0) u' ((vs ++ [w]).map encV) junk')), (6, .c (.int .i64 (IntKind.i64.wrap (k + 1))))]) (hr.old hS) (keepF _ _ _ hj') (Nat.le_refl _) (.frz rfl (.refl (old_ptr (Nat.lt_succ_of_lt hr.2.1))) (.frz rfl (.refl (hT _ (Nat.le_succ _))) (.frz (by rw [List.map_append]; rfl) (.refl (old_sl (Nat.lt_succ_self _))) (.frz rfl (.refl old_c) .nil)))) ?_
            exact fin w q6 u' junk' (by simp [bV, vNull, vInt] <;> omega) hq6 hj' _ _ rfl (by rw [List.map_append]; rfl)
    · have ht : True := trivial
      refine Go.drawn hr hq1 rfl rfl rfl (once_ok 8 (by decide) (by decide)) ?_
      rintro _ q4 hq4 ⟨b5, rfl⟩
      cases b5
      · repeat' first|(apply yA;exact rfl)|apply yB|apply yC|((first|apply yD|apply yE);(first|exact yF|assumption);iterate 6 exact rfl)|((first|apply yG|apply yH|apply yI);exact rfl;(first|exact yJ|exact yK rfl rfl|exact yL rfl|exact yM rfl|exact rfl|exact aL rfl rfl rfl rfl rfl|exact aS rfl rfl rfl rfl rfl rfl rfl))|((first|apply yN|apply yO|apply yP);exact rfl)|(exfalso;omega)|(((first|apply yT|apply yU|apply yV|apply yW);exact rfl;(first|exact .d|exact .e|exact .n|((fail_if_success exact bqt);(fail_if_success exact bqf);exact .b)))<;>intro _)
        refine Go.drawn hr hq4 rfl rfl rfl (once_ok 60 (by decide) (by decide)) ?_
        rintro _ q5 hq5 ⟨b6, rfl⟩
        cases b6
        · repeat' first|(apply yA;exact rfl)|apply yB|apply yC|((first|apply yD|apply yE);(first|exact yF|assumption);iterate 6 exact rfl)|((first|apply yG|apply yH|apply yI);exact rfl;(first|exact yJ|exact yK rfl rfl|exact yL rfl|exact yM rfl|exact rfl|exact aL rfl rfl rfl rfl rfl|exact aS rfl rfl rfl rfl rfl rfl rfl))|((first|apply yN|apply yO|apply yP);exact rfl)|(exfalso;omega)|(((first|apply yT|apply yU|apply yV|apply yW);exact rfl;(first|exact .d|exact .e|exact .n|((fail_if_success exact bqt);(fail_if_success exact bqf);exact .b)))<;>intro _)
          refine Go.app1 (k := 0) (ys := vs.map encV) (junk := junk) (z := encV (vInt a)) rfl rfl rfl rfl rfl lens hj rfl hbd fun u' junk' hj' => ?_
          repeat' first|(apply yA;exact rfl)|apply yB|apply yC|((first|apply yD|apply yE);(first|exact yF|assumption);iterate 6 exact rfl)|((first|apply yG|apply yH|apply yI);exact rfl;(first|exact yJ|exact yK rfl rfl|exact yL rfl|exact yM rfl|exact rfl|exact aL rfl rfl rfl rfl rfl|exact aS rfl rfl rfl rfl rfl rfl rfl))|((first|apply yN|apply yO|apply yP);exact rfl)|(exfalso;omega)|(((first|apply yT|apply yU|apply yV|apply yW);exact rfl;(first|exact .d|exact .e|exact .n|((fail_if_success exact bqt);(fail_if_success exact bqf);exact .b)))<;>intro _)
          refine Go.freezeN (l := [(u', vs.map encV ++ [encV (vInt a)] ++ junk')]) (m := [(0, [encV (vInt a)])]) (fr' := [(0, .c (.ptr id v 0 0)), (3, .c (.fp (encTable t))), (5, .c (vec (σ.next + 0) u' ((vs ++ [(vInt a)]).map encV) junk')), (6, .c (.int .i64 (IntKind.i64.wrap (k + 1))))]) (hr.old hS) (keepF _ _ _ hj') (Nat.le_refl _) (.frz rfl (.refl (old_ptr (Nat.lt_succ_of_lt hr.2.1))) (.frz rfl (.refl (hT _ (Nat.le_succ _))) (.frz (by rw [List.map_append]; rfl) (.refl (old_sl (Nat.lt_succ_self _))) (.frz rfl (.refl old_c) .nil)))) ?_
          exact fin (vInt a) q5 u' junk' (by simp [bV, vNull, vInt] <;> omega) hq5 hj' _ _ rfl (by rw [List.map_append]; rfl)
        · repeat' first|(apply yA;exact rfl)|apply yB|apply yC|((first|apply yD|apply yE);(first|exact yF|assumption);iterate 6 exact rfl)|((first|apply yG|apply yH|apply yI);exact rfl;(first|exact yJ|exact yK rfl rfl|exact yL rfl|exact yM rfl|exact rfl|exact aL rfl rfl rfl rfl rfl|exact aS rfl rfl rfl rfl rfl rfl rfl))|((first|apply yN|apply yO|apply yP);exact rfl)|(exfalso;omega)|(((first|apply yT|apply yU|apply yV|apply yW);exact rfl;(first|exact .d|exact .e|exact .n|((fail_if_success exact bqt);(fail_if_success exact bqf);exact .b)))<;>intro _)
          refine Go.drawn hr hq5 rfl rfl rfl val_ok ?_
          rintro _ q6 hq6 ⟨w, hw, rfl⟩
          repeat' first|(apply yA;exact rfl)|apply yB|apply yC|((first|apply yD|apply yE);(first|exact yF|assumption);iterate 6 exact rfl)|((first|apply yG|apply yH|apply yI);exact rfl;(first|exact yJ|exact yK rfl rfl|exact yL rfl|exact yM rfl|exact rfl|exact aL rfl rfl rfl rfl rfl|exact aS rfl rfl rfl rfl rfl rfl rfl))|((first|apply yN|apply yO|apply yP);exact rfl)|(exfalso;omega)|(((first|apply yT|apply yU|apply yV|apply yW);exact rfl;(first|exact .d|exact .e|exact .n|((fail_if_success exact bqt);(fail_if_success exact bqf);exact .b)))<;>intro _)
          refine Go.app1 (k := 0) (ys := vs.map encV) (junk := junk) (z := encV w) rfl rfl rfl rfl rfl lens hj rfl hbd fun u' junk' hj' => ?_
          repeat' first|(apply yA;exact rfl)|apply yB|apply yC|((first|apply yD|apply yE);(first|exact yF|assumption);iterate 6 exact rfl)|((first|apply yG|apply yH|apply yI);exact rfl;(first|exact yJ|exact yK rfl rfl|exact yL rfl|exact yM rfl|exact rfl|exact aL rfl rfl rfl rfl rfl|exact aS rfl rfl rfl rfl rfl rfl rfl))|((first|apply yN|apply yO|apply yP);exact rfl)|(exfalso;omega)|(((first|apply yT|apply yU|apply yV|apply yW);exact rfl;(first|exact .d|exact .e|exact .n|((fail_if_success exact bqt);(fail_if_success exact bqf);exact .b)))<;>intro _)
          refine Go.freezeN (l := [(u', vs.map encV ++ [encV w] ++ junk')]) (m := [(0, [encV w])]) (fr' := [(0, .c (.ptr id v 0 0)), (3, .c (.fp (encTable t))), (5, .c (vec (σ.next + 0) u' ((vs ++ [w]).map encV) junk')), (6, .c (.int .i64 (IntKind.i64.wrap (k + 1))))]) (hr.old hS) (keepF _ _ _ hj') (Nat.le_refl _) (.frz rfl (.refl (old_ptr (Nat.lt_succ_of_lt hr.2.1))) (.frz rfl (.refl (hT _ (Nat.le_succ _))) (.frz (by rw [List.map_append]; rfl) (.refl (old_sl (Nat.lt_succ_self _))) (.frz rfl (.refl old_c) .nil)))) ?_
          exact fin w q6 u' junk' (by simp [bV, vNull, vInt] <;> omega) hq6 hj' _ _ rfl (by rw [List.map_append]; rfl)
      · repeat' first|(apply yA;exact rfl)|apply yB|apply yC|((first|apply yD|apply yE);(first|exact yF|assumption);iterate 6 exact rfl)|((first|apply yG|apply yH|apply yI);exact rfl;(first|exact yJ|exact yK rfl rfl|exact yL rfl|exact yM rfl|exact rfl|exact aL rfl rfl rfl rfl rfl|exact aS rfl rfl rfl rfl rfl rfl rfl))|((first|apply yN|apply yO|apply yP);exact rfl)|(exfalso;omega)|(((first|apply yT|apply yU|apply yV|apply yW);exact rfl;(first|exact .d|exact .e|exact .n|((fail_if_success exact bqt);(fail_if_success exact bqf);exact .b)))<;>intro _)
        refine Go.drawn hr hq4 rfl rfl rfl (once_ok 60 (by decide) (by decide)) ?_
        rintro _ q5 hq5 ⟨b6, rfl⟩
        cases b6
        · repeat' first|(apply yA;exact rfl)|apply yB|apply yC|((first|apply yD|apply yE);(first|exact yF|assumption);iterate 6 exact rfl)|((first|apply yG|apply yH|apply yI);exact rfl;(first|exact yJ|exact yK rfl rfl|exact yL rfl|exact yM rfl|exact rfl|exact aL rfl rfl rfl rfl rfl|exact aS rfl rfl rfl rfl rfl rfl rfl))|((first|apply yN|apply yO|apply yP);exact rfl)|(exfalso;omega)|(((first|apply yT|apply yU|apply yV|apply yW);exact rfl;(first|exact .d|exact .e|exact .n|((fail_if_success exact bqt);(fail_if_success exact bqf);exact .b)))<;>intro _)
          refine Go.app1 (k := 0) (ys := vs.map encV) (junk := junk) (z := encV vNull) rfl rfl rfl rfl rfl lens hj rfl hbd fun u' junk' hj' => ?_
          repeat' first|(apply yA;exact rfl)|apply yB|apply yC|((first|apply yD|apply yE);(first|exact yF|assumption);iterate 6 exact rfl)|((first|apply yG|apply yH|apply yI);exact rfl;(first|exact yJ|exact yK rfl rfl|exact yL rfl|exact yM rfl|exact rfl|exact aL rfl rfl rfl rfl rfl|exact aS rfl rfl rfl rfl rfl rfl rfl))|((first|apply yN|apply yO|apply yP);exact rfl)|(exfalso;omega)|(((first|apply yT|apply yU|apply yV|apply yW);exact rfl;(first|exact .d|exact .e|exact .n|((fail_if_success exact bqt);(fail_if_success exact bqf);exact .b)))<;>intro _)
          refine Go.freezeN (l := [(u', vs.map encV ++ [encV vNull] ++ junk')]) (m := [(0, [encV vNull])]) (fr' := [(0, .c (.ptr id v 0 0)), (3, .c (.fp (encTable t))), (5, .c (vec (σ.next + 0) u' ((vs ++ [vNull]).map encV) junk')), (6, .c (.int .i64 (IntKind.i64.wrap (k + 1))))]) (hr.old hS) (keepF _ _ _ hj') (Nat.le_refl _) (.frz rfl (.refl (old_ptr (Nat.lt_succ_of_lt hr.2.1))) (.frz rfl (.refl (hT _ (Nat.le_succ _))) (.frz (by rw [List.map_append]; rfl) (.refl (old_sl (Nat.lt_succ_self _))) (.frz rfl (.refl old_c) .nil)))) ?_
          exact fin vNull q5 u' junk' (by simp [bV, vNull, vInt] <;> omega) hq5 hj' _ _ rfl (by rw [List.map_append]; rfl)
        · repeat' first|(apply yA;exact rfl)|apply yB|apply yC|((first|apply yD|apply yE);(first|exact yF|assumption);iterate 6 exact rfl)|((first|apply yG|apply yH|apply yI);exact rfl;(first|exact yJ|exact yK rfl rfl|exact yL rfl|exact yM rfl|exact rfl|exact aL rfl rfl rfl rfl rfl|exact aS rfl rfl rfl rfl rfl rfl rfl))|((first|apply yN|apply yO|apply yP);exact rfl)|(exfalso;omega)|(((first|apply yT|apply yU|apply yV|apply yW);exact rfl;(first|exact .d|exact .e|exact .n|((fail_if_success exact bqt);(fail_if_success exact bqf);exact .b)))<;>intro _)
          refine Go.drawn hr hq5 rfl rfl rfl val_ok ?_
          rintro _ q6 hq6 ⟨w, hw, rfl⟩
          repeat' first|(apply yA;exact rfl)|apply yB|apply yC|((first|apply yD|apply yE);(first|exact yF|assumption);iterate 6 exact rfl)|((first|apply yG|apply yH|apply yI);exact rfl;(first|exact yJ|exact yK rfl rfl|exact yL rfl|exact yM rfl|exact rfl|exact aL rfl rfl rfl rfl rfl|exact aS rfl rfl rfl rfl rfl rfl rfl))|((first|apply yN|apply yO|apply yP);exact rfl)|(exfalso;omega)|(((first|apply yT|apply yU|apply yV|apply yW);exact rfl;(first|exact .d|exact .e|exact .n|((fail_if_success exact bqt);(fail_if_success exact bqf);exact .b)))<;>intro _)
          refine Go.app1 (k := 0) (ys := vs.map encV) (junk := junk) (z := encV w) rfl rfl rfl rfl rfl lens hj rfl hbd fun u' junk' hj' => ?_
          repeat' first|(apply yA;exact rfl)|apply yB|apply yC|((first|apply yD|apply yE);(first|exact yF|assumption);iterate 6 exact rfl)|((first|apply yG|apply yH|apply yI);exact rfl;(first|exact yJ|exact yK rfl rfl|exact yL rfl|exact yM rfl|exact rfl|exact aL rfl rfl rfl rfl rfl|exact aS rfl rfl rfl rfl rfl rfl rfl))|((first|apply yN|apply yO|apply yP);exact rfl)|(exfalso;omega)|(((first|apply yT|apply yU|apply yV|apply yW);exact rfl;(first|exact .d|exact .e|exact .n|((fail_if_success exact bqt);(fail_if_success exact bqf);exact .b)))<;>intro _)
          refine Go.freezeN (l := [(u', vs.map encV ++ [encV w] ++ junk')]) (m := [(0, [encV w])]) (fr' := [(0, .c (.ptr id v 0 0)), (3, .c (.fp (encTable t))), (5, .c (vec (σ.next + 0) u' ((vs ++ [w]).map encV) junk')), (6, .c (.int .i64 (IntKind.i64.wrap (k + 1))))]) (hr.old hS) (keepF _ _ _ hj') (Nat.le_refl _) (.frz rfl (.refl (old_ptr (Nat.lt_succ_of_lt hr.2.1))) (.frz rfl (.refl (hT _ (Nat.le_succ _))) (.frz (by rw [List.map_append]; rfl) (.refl (old_sl (Nat.lt_succ_self _))) (.frz rfl (.refl old_c) .nil)))) ?_
          exact fin w q6 u' junk' (by simp [bV, vNull, vInt] <;> omega) hq6 hj' _ _ rfl (by rw [List.map_append]; rfl)
  · repeat' first|(apply yA;exact rfl)|apply yB|apply yC|((first|apply yD|apply yE);(first|exact yF|assumption);iterate 6 exact rfl)|((first|apply yG|apply yH|apply yI);exact rfl;(first|exact yJ|exact yK rfl rfl|exact yL rfl|exact yM rfl|exact rfl|exact aL rfl rfl rfl rfl rfl|exact aS rfl rfl rfl rfl rfl rfl rfl))|((first|apply yN|apply yO|apply yP);exact rfl)|(exfalso;omega)|(((first|apply yT|apply yU|apply yV|apply yW);exact rfl;(first|exact .d|exact .e|exact .n|((fail_if_success exact bqt);(fail_if_success exact bqf);exact .b)))<;>intro _)
    exact .ret rfl ⟨q, vs, u, junk, hq, by omega, hb, hj, rfl, rfl⟩
end Go.Proofs.YteafjabcpmpmgaaGreat.Am

/- The reader that draws: schemas. -/
set_option linter.unusedVariables false
set_option linter.unusedSimpArgs false
namespace Go.Proofs.YteafjabcpmpmgaaGreat.Am

/-- Where ways meet, what follows kept from sight. -/
theorem Go.meet {P : Program} {n0 nt : Nat} {rets : List RV} {R : AV → Store → Prop} {K K' : List AK} {fr : Fr} {σ : Store} (I : Fr → Store → Prop) (h2 : ∀ K, (∀ fr σ, I fr σ → Go P n0 nt rets R K fr σ) → Go P n0 nt rets R (K' ++ K) fr σ) (h1 : ∀ fr σ, I fr σ → Go P n0 nt rets R K fr σ) : Go P n0 nt rets R (K' ++ K) fr σ := h2 K h1
/-- A cell that is a frozen slice's, or a nil one's. -/
def NF (x : Ce) (ys : List (List Ce)) : Prop := x = .fz ys ∨ (x = .nils ∧ ys = [])
def OldL (n : Nat) (ys : List (List Ce)) : Prop := ∀ e ∈ ys, ∀ c ∈ e, Old n c
theorem NF.frz {τ : Store} {n : Nat} {x : Ce} {ys : List (List Ce)} (h : NF x ys) (ho : OldL n ys) : Frz τ n x (.fz ys) := by
  rcases h with rfl | ⟨rfl, rfl⟩
  · exact .same _ (.fz _ fun i j hi hj => ho _ (List.getElem_mem hi) _ (List.getElem_mem hj))
  · exact .nil
theorem NF.old {n : Nat} {x : Ce} {ys : List (List Ce)} (h : NF x ys) (ho : OldL n ys) : Old n x := by
  rcases h with rfl | ⟨rfl, rfl⟩
  · exact .fz _ fun i j hi hj => ho _ (List.getElem_mem hi) _ (List.getElem_mem hj)
  · exact .nils
theorem oldL_flat {n : Nat} {ys : List (List Ce)} (h : ∀ e ∈ ys, ∀ x ∈ e, Flat x) : OldL n ys := fun e he c hc => (h e he c hc).old _
theorem old_fz1 {n : Nat} {ys : List (List Ce)} (h : OldL n ys) : Old n (.fz ys) := .fz _ fun i j hi hj => h _ (List.getElem_mem hi) _ (List.getElem_mem hj)
theorem oldCols {n : Nat} (l : List Col) : OldL n (l.map encCol) := oldL_flat fun e he x hx => by
  obtain ⟨a, _, rfl⟩ := List.mem_map.1 he
  exact flatCol a x hx
theorem oldInts {n : Nat} (l : List Int) : OldL n (l.map encI) := oldL_flat fun e he x hx => (flatI l e he).2 x hx
theorem oldUniqs {n : Nat} (l : List Uniq) : OldL n (l.map encUniq) := fun e he c hc => by
  obtain ⟨a, _, rfl⟩ := List.mem_map.1 he
  simp only [encUniq, List.mem_cons, List.not_mem_nil, or_false] at hc
  subst hc
  exact old_fz1 (oldInts _)
theorem oldChks {n : Nat} (l : List Chk) : OldL n (l.map encChk) := fun e he c hc => by
  obtain ⟨a, _, rfl⟩ := List.mem_map.1 he
  simp only [encChk, List.mem_cons, List.not_mem_nil, or_false] at hc
  subst hc
  exact old_fz1 (oldL_flat flatTs)
theorem oldFks {n : Nat} (l : List Fk) : OldL n (l.map encFk) := fun e he c hc => by
  obtain ⟨a, _, rfl⟩ := List.mem_map.1 he
  simp only [encFk, List.mem_cons, List.not_mem_nil, or_false] at hc
  rcases hc with rfl | rfl | rfl | rfl | rfl
  · exact old_fz1 (oldInts _)
  all_goals constructor
/-- The cells of a table that is frozen but for nil slices. -/
structure TabC (e : List Ce) (t : Table) : Prop where
  has : ∃ x2 x3 x4 x5, e = [.str t.name, .fz (t.cols.map encCol), x2, x3, x4, x5] ∧ NF x2 (t.key.map encI) ∧ NF x3 (t.uniques.map encUniq) ∧ NF x4 (t.checks.map encChk) ∧ NF x5 (t.fks.map encFk)
/-- What a drawn table is like. -/
structure SmallT (t : Table) : Prop where
  b : bTable 12 t
  lo : 2 ≤ t.cols.length
  hi : t.cols.length ≤ 3
def SchD (s : List Table) : Prop := 1 ≤ s.length ∧ s.length ≤ 3 ∧ ∀ t ∈ s, SmallT t
def Schemas (r : AV) : Prop := ∃ s : List Table, SchD s ∧ r = .c (.fz (s.map encTable))
/-- The rest of a drawn schema, with its cells. -/
def Rest (ps : List (List Ce × Table)) : Prop := ∀ p ∈ ps, TabC p.1 p.2 ∧ SmallT p.2
def colK : Col := ⟨[107], 1, true, vNull⟩
def colT : Col := ⟨[116], 2, false, vNull⟩
def colN : Col := ⟨[110], 1, false, vInt 1⟩
/-- The first table's cells, its columns owned. -/
def headC (nm : List UInt8) (id : Nat) (x2 x3 x4 : Ce) : List Ce := [.str nm, .sl id 0 0 3 3, x2, x3, x4, .nils]
structure Head (x3 x4 : Ce) (us : List Uniq) (ks : List Chk) : Prop where
  u : NF x3 (us.map encUniq)
  k : NF x4 (ks.map encChk)
  bu : us.length ≤ 12 ∧ ∀ x ∈ us, bUniq 12 x
  bk : ks.length ≤ 12 ∧ ∀ x ∈ ks, bChk 12 x
/-- What is made is a schema. -/
theorem schema_frz {σ : Store} {u : Nat} {nm : List UInt8} {x2 x3 x4 : Ce} {c0 c1 c2 : Col} {key : List Int} {us : List Uniq} {ks : List Chk} {ps : List (List Ce × Table)} {junk pb : List (List Ce)} {vb : Nat}
    (hnm : nm.length ≤ 12) (hk : key.length ≤ 12) (h2 : NF x2 (key.map encI)) (hH : Head x3 x4 us ks) (hb : bCol 12 c0 ∧ bCol 12 c1 ∧ bCol 12 c2) (hR : Rest ps) (hp : ps.length ≤ 2) :
    ∃ s : List Table, SchD s ∧ FrzV (E σ [(0, [encCol c0, encCol c1, encCol c2]), (vb, pb), (u, headC nm (σ.next + 0) x2 x3 x4 :: ps.map Prod.fst ++ junk)]) σ.next (.c (vec (σ.next + 2) u (headC nm (σ.next + 0) x2 x3 x4 :: ps.map Prod.fst) junk)) (.c (.fz (s.map encTable))) := by
  obtain ⟨p, hpdef⟩ : ∃ p : Table, p = ⟨nm, [c0, c1, c2], key, us, ks, []⟩ := ⟨_, rfl⟩
  have hsp : SmallT p := by
    subst hpdef
    refine ⟨⟨hnm, ⟨by simp, fun x hx => ?_⟩, hk, hH.bu, hH.bk, by simp, fun x hx => by simp at hx⟩, by simp, by simp⟩
    simp only [List.mem_cons, List.not_mem_nil, or_false] at hx
    rcases hx with rfl | rfl | rfl
    · exact hb.1
    · exact hb.2.1
    · exact hb.2.2
  refine ⟨p :: ps.map Prod.snd, ⟨by simp, by simp; omega, fun t ht => ?_⟩, ?_⟩
  · rcases List.mem_cons.1 ht with rfl | ht
    · exact hsp
    · obtain ⟨q, hq, rfl⟩ := List.mem_map.1 ht
      exact (hR q hq).2
  · have hlen : (headC nm (σ.next + 0) x2 x3 x4 :: ps.map Prod.fst).length = ps.length + 1 := by simp
    have hcell : ∀ (q : List Ce × Table), q ∈ ps → q.1.length = 6 ∧ ∀ j (h1 : j < q.1.length) (h2 : j < (encTable q.2).length), Frz (E σ [(0, [encCol c0, encCol c1, encCol c2]), (vb, pb), (u, headC nm (σ.next + 0) x2 x3 x4 :: ps.map Prod.fst ++ junk)]) σ.next q.1[j] (encTable q.2)[j] := fun q hq => by
      obtain ⟨y2, y3, y4, y5, he, k2, k3, k4, k5⟩ := (hR q hq).1.has
      refine ⟨by rw [he]; rfl, ?_⟩
      generalize q.1 = e at he
      subst he
      intro j h1 h2
      have hj : j = 0 ∨ j = 1 ∨ j = 2 ∨ j = 3 ∨ j = 4 ∨ j = 5 := by simp at h1; omega
      rcases hj with rfl | rfl | rfl | rfl | rfl | rfl
      · exact .same _ (.str _)
      · exact .same _ (old_fz1 (oldCols _))
      · exact k2.frz (oldInts _)
      · exact k3.frz (oldUniqs _)
      · exact k4.frz (oldChks _)
      · exact k5.frz (oldFks _)
    have hcols : Frz (E σ [(0, [encCol c0, encCol c1, encCol c2]), (vb, pb), (u, headC nm (σ.next + 0) x2 x3 x4 :: ps.map Prod.fst ++ junk)]) σ.next (.sl (σ.next + 0) 0 0 3 3) (.fz ([c0, c1, c2].map encCol)) := by
      have := frz_drop (σ := σ) (l := [(0, [encCol c0, encCol c1, encCol c2]), (vb, pb), (u, headC nm (σ.next + 0) x2 x3 x4 :: ps.map Prod.fst ++ junk)]) (k := 0) (v := 0) (n := 0) (c := 3) (N := σ.next) (ys := [c0, c1, c2].map encCol) (junk := []) rfl (fun e he x hx => by
        obtain ⟨a, _, rfl⟩ := List.mem_map.1 he
        exact flatCol a x hx) (Nat.zero_le _) (Nat.le_refl _)
      cases this with
      | c h => exact h
    have hhead : ∀ j (h1 : j < (headC nm (σ.next + 0) x2 x3 x4).length) (h2 : j < (encTable p).length), Frz (E σ [(0, [encCol c0, encCol c1, encCol c2]), (vb, pb), (u, headC nm (σ.next + 0) x2 x3 x4 :: ps.map Prod.fst ++ junk)]) σ.next (headC nm (σ.next + 0) x2 x3 x4)[j] (encTable p)[j] := by
      subst hpdef
      intro j h1 h2'
      have hj : j = 0 ∨ j = 1 ∨ j = 2 ∨ j = 3 ∨ j = 4 ∨ j = 5 := by simp [headC] at h1; omega
      rcases hj with rfl | rfl | rfl | rfl | rfl | rfl
      · exact .same _ (.str _)
      · exact hcols
      · exact h2.frz (oldInts _)
      · exact hH.u.frz (oldUniqs _)
      · exact hH.k.frz (oldChks _)
      · exact .nil
    refine .c (.sl _ _ _ _ _ (headC nm (σ.next + 0) x2 x3 x4 :: ps.map Prod.fst ++ junk) _ (Nat.le_add_right _ _) (E_get (k := 2) rfl) (by rw [List.length_append]; omega) (by simp) (fun i hi => ?_) (fun i j hi hj => ?_))
    · cases i with
      | zero => rfl
      | succ i =>
        have hi2 : i < ps.length := by rw [hlen] at hi; omega
        simp only [Nat.zero_add, List.cons_append, List.map_cons, List.getElem_cons_succ, List.map_map, List.getElem_map]
        rw [List.getElem_append_left (by simpa using hi2), List.getElem_map, (hcell _ (List.getElem_mem hi2)).1]
        rfl
    · cases i with
      | zero => exact hhead j hj hj
      | succ i =>
        have hi2 : i < ps.length := by rw [hlen] at hi; omega
        have hz := hcell _ (List.getElem_mem hi2)
        simp only [Nat.zero_add, List.cons_append, List.map_cons, List.getElem_cons_succ, List.map_map, List.getElem_map]
        have e1 : (ps.map Prod.fst ++ junk)[i]'(by simp; omega) = ps[i].1 := by rw [List.getElem_append_left (by simpa using hi2), List.getElem_map]
        simp only [e1]
        exact hz.2 j (by rw [hz.1]; have h6 : j < (encTable ps[i].2).length := (by simpa using hj); exact h6) _
theorem schema_ok : Draws Tryz.prog 108 [] Schemas := by
  refine Draws.run mixed c_spec_l1Rd_schema_ok (Nat.le_of_ble_eq_true rfl) fun σ id v code p hr hp hc hS => ?_
  clear hS
  repeat' first|(apply yA;exact rfl)|apply yB|apply yC|((first|apply yG|apply yH|apply yI);exact rfl;(first|exact yJ|exact yK rfl rfl|exact yL rfl|exact yM rfl|exact rfl|exact aL rfl rfl rfl rfl rfl|exact aS rfl rfl rfl rfl rfl rfl rfl))|((first|apply yN|apply yO|apply yP);exact rfl)|((first|apply yQ|apply yR|apply yS);(iterate 3 exact rfl);exact l1Int_ok _)|(exfalso;omega)|(((first|apply yT|apply yU|apply yV|apply yW);exact rfl;(first|exact .d|exact .e|exact .n|((fail_if_success exact bqt);(fail_if_success exact bqf);exact .b)))<;>intro _)
  refine Go.meet (K' := [_, _]) (fun fr τ => ∃ (q : Nat) (x3 : Ce) (us : List Uniq), q ≤ code.length ∧ (NF x3 (us.map encUniq) ∧ us.length ≤ 12 ∧ ∀ x ∈ us, bUniq 12 x) ∧ fr = [(0, .c (.ptr id v 0 0)), (3, .c (.ptr (σ.next + 1) 0 0 0))] ∧
    τ = E (Rd.go σ id v code q) [(0, [encCol colK, encCol colT, encCol colN]), (0, [headC [112] (σ.next + 0) (.fz ([0].map encI)) x3 .nils])]) (fun K h => ?_) ?_
  · refine Go.drawn hr hp rfl rfl rfl (once_ok 2 (by decide) (by decide)) ?_
    rintro _ q hq ⟨b, rfl⟩
    cases b
    · repeat' first|(apply yA;exact rfl)|apply yB|apply yC|((first|apply yG|apply yH|apply yI);exact rfl;(first|exact yJ|exact yK rfl rfl|exact yL rfl|exact yM rfl|exact rfl|exact aL rfl rfl rfl rfl rfl|exact aS rfl rfl rfl rfl rfl rfl rfl))|((first|apply yN|apply yO|apply yP);exact rfl)|(exfalso;omega)|(((first|apply yT|apply yU|apply yV|apply yW);exact rfl;(first|exact .d|exact .e|exact .n|((fail_if_success exact bqt);(fail_if_success exact bqf);exact .b)))<;>intro _)
      exact Go.keep [0, 3] (h _ _ ⟨q, .nils, [], hq, ⟨.inr ⟨rfl, rfl⟩, by decide, fun x hx => by simp at hx⟩, rfl, rfl⟩)
    · repeat' first|(apply yA;exact rfl)|apply yB|apply yC|((first|apply yG|apply yH|apply yI);exact rfl;(first|exact yJ|exact yK rfl rfl|exact yL rfl|exact yM rfl|exact rfl|exact aL rfl rfl rfl rfl rfl|exact aS rfl rfl rfl rfl rfl rfl rfl))|((first|apply yN|apply yO|apply yP);exact rfl)|(exfalso;omega)|(((first|apply yT|apply yU|apply yV|apply yW);exact rfl;(first|exact .d|exact .e|exact .n|((fail_if_success exact bqt);(fail_if_success exact bqf);exact .b)))<;>intro _)
      exact Go.keep [0, 3] (h _ _ ⟨q, _, [⟨[2]⟩], hq, ⟨.inl rfl, by decide, fun x hx => by rw [List.mem_singleton.1 hx]; simp [bUniq]⟩, rfl, rfl⟩)
  rintro fr τ ⟨q, x3, us, hq, h3, rfl, rfl⟩
  clear hp
  repeat' first|(apply yA;exact rfl)|apply yB|apply yC|((first|apply yG|apply yH|apply yI);exact rfl;(first|exact yJ|exact yK rfl rfl|exact yL rfl|exact yM rfl|exact rfl|exact aL rfl rfl rfl rfl rfl|exact aS rfl rfl rfl rfl rfl rfl rfl))|((first|apply yN|apply yO|apply yP);exact rfl)|(exfalso;omega)|(((first|apply yT|apply yU|apply yV|apply yW);exact rfl;(first|exact .d|exact .e|exact .n|((fail_if_success exact bqt);(fail_if_success exact bqf);exact .b)))<;>intro _)
  refine Go.meet (K' := [_, _]) (fun fr τ => ∃ (q : Nat) (x4 : Ce) (ks : List Chk), q ≤ code.length ∧ (NF x4 (ks.map encChk) ∧ ks.length ≤ 12 ∧ ∀ x ∈ ks, bChk 12 x) ∧ fr = [(0, .c (.ptr id v 0 0)), (3, .c (.ptr (σ.next + 1) 0 0 0))] ∧
    τ = E (Rd.go σ id v code q) [(0, [encCol colK, encCol colT, encCol colN]), (0, [headC [112] (σ.next + 0) (.fz ([0].map encI)) x3 x4])]) (fun K h => ?_) ?_
  · refine Go.drawn hr hq rfl rfl rfl (once_ok 2 (by decide) (by decide)) ?_
    rintro _ q2 hq2 ⟨b, rfl⟩
    cases b
    · repeat' first|(apply yA;exact rfl)|apply yB|apply yC|((first|apply yG|apply yH|apply yI);exact rfl;(first|exact yJ|exact yK rfl rfl|exact yL rfl|exact yM rfl|exact rfl|exact aL rfl rfl rfl rfl rfl|exact aS rfl rfl rfl rfl rfl rfl rfl))|((first|apply yN|apply yO|apply yP);exact rfl)|(exfalso;omega)|(((first|apply yT|apply yU|apply yV|apply yW);exact rfl;(first|exact .d|exact .e|exact .n|((fail_if_success exact bqt);(fail_if_success exact bqf);exact .b)))<;>intro _)
      exact Go.keep [0, 3] (h _ _ ⟨q2, .nils, [], hq2, ⟨.inr ⟨rfl, rfl⟩, by decide, fun x hx => by simp at hx⟩, rfl, rfl⟩)
    · repeat' first|(apply yA;exact rfl)|apply yB|apply yC|((first|apply yG|apply yH|apply yI);exact rfl;(first|exact yJ|exact yK rfl rfl|exact yL rfl|exact yM rfl|exact rfl|exact aL rfl rfl rfl rfl rfl|exact aS rfl rfl rfl rfl rfl rfl rfl))|((first|apply yN|apply yO|apply yP);exact rfl)|((first|apply yQ|apply yR|apply yS);(iterate 3 exact rfl);(first|exact l1Int_ok _|exact l2Col_ok _|exact l2Const_ok _))|(exfalso;omega)|(((first|apply yT|apply yU|apply yV|apply yW);exact rfl;(first|exact .d|exact .e|exact .n|((fail_if_success exact bqt);(fail_if_success exact bqf);exact .b)))<;>intro _)
      exact Go.keep [0, 3] (h _ _ ⟨q2, _, [⟨[tCol 0, tConst (vInt 4), ⟨4, 0, vNull⟩]⟩], hq2, ⟨.inl rfl, by decide, fun x hx => by
        rw [List.mem_singleton.1 hx]
        refine ⟨by decide, fun t ht => ?_⟩
        simp only [List.mem_cons, List.not_mem_nil, or_false] at ht
        rcases ht with rfl | rfl | rfl <;> exact Nat.zero_le _⟩, rfl, rfl⟩)
  rintro fr τ ⟨q2, x4, ks, hq2, h4, rfl, rfl⟩
  have hH : Head x3 x4 us ks := ⟨h3.1, h4.1, h3.2, h4.2⟩
  clear hq h3 h4
  repeat' first|(apply yA;exact rfl)|apply yB|apply yC|((first|apply yG|apply yH|apply yI);exact rfl;(first|exact yJ|exact yK rfl rfl|exact yL rfl|exact yM rfl|exact rfl|exact aL rfl rfl rfl rfl rfl|exact aS rfl rfl rfl rfl rfl rfl rfl))|((first|apply yN|apply yO|apply yP);exact rfl)|(exfalso;omega)|(((first|apply yT|apply yU|apply yV|apply yW);exact rfl;(first|exact .d|exact .e|exact .n|((fail_if_success exact bqt);(fail_if_success exact bqf);exact .b)))<;>intro _)
  refine Go.meet (K' := [_, _]) (fun fr τ => ∃ (q u : Nat) (ps : List (List Ce × Table)) (junk : List (List Ce)), q ≤ code.length ∧ Rest ps ∧ ps.length ≤ 1 ∧ Jk 6 junk ∧ fr = [(0, .c (.ptr id v 0 0)), (4, .c (vec (σ.next + 2) u (headC [112] (σ.next + 0) (.fz ([0].map encI)) x3 x4 :: ps.map Prod.fst) junk))] ∧
    τ = E (Rd.go σ id v code q) [(0, [encCol colK, encCol colT, encCol colN]), (0, [headC [112] (σ.next + 0) (.fz ([0].map encI)) x3 x4]), (u, headC [112] (σ.next + 0) (.fz ([0].map encI)) x3 x4 :: ps.map Prod.fst ++ junk)]) (fun K h => ?_) ?_
  · refine Go.drawn hr hq2 rfl rfl rfl (once_ok 4 (by decide) (by decide)) ?_
    rintro _ q3 hq3 ⟨b, rfl⟩
    cases b
    · repeat' first|(apply yA;exact rfl)|apply yB|apply yC|((first|apply yD|apply yE);(first|exact yF|assumption);iterate 6 exact rfl)|((first|apply yG|apply yH|apply yI);exact rfl;(first|exact yJ|exact yK rfl rfl|exact yL rfl|exact yM rfl|exact rfl|exact aL rfl rfl rfl rfl rfl|exact aS rfl rfl rfl rfl rfl rfl rfl))|((first|apply yN|apply yO|apply yP);exact rfl)|(exfalso;omega)|(((first|apply yT|apply yU|apply yV|apply yW);exact rfl;(first|exact .d|exact .e|exact .n|((fail_if_success exact bqt);(fail_if_success exact bqf);exact .b)))<;>intro _)
      refine Go.drawn hr hq3 rfl rfl rfl (once_ok 4 (by decide) (by decide)) ?_
      rintro _ q4 hq4 ⟨b1, rfl⟩
      repeat' first|(apply yA;exact rfl)|apply yB|apply yC|((first|apply yD|apply yE);(first|exact yF|assumption);iterate 6 exact rfl)|((first|apply yG|apply yH|apply yI);exact rfl;(first|exact yJ|exact yK rfl rfl|exact yL rfl|exact yM rfl|exact rfl|exact aL rfl rfl rfl rfl rfl|exact aS rfl rfl rfl rfl rfl rfl rfl))|((first|apply yN|apply yO|apply yP);exact rfl)|(exfalso;omega)|(((first|apply yT|apply yU|apply yV|apply yW);exact rfl;(first|exact .d|exact .e|exact .n|((fail_if_success exact bqt);(fail_if_success exact bqf);exact .b)))<;>intro _)
      refine Go.drawn hr hq4 rfl rfl rfl action_ok ?_
      rintro _ q5 hq5 ⟨a1, ha0, ha1, rfl⟩
      repeat' first|(apply yA;exact rfl)|apply yB|apply yC|((first|apply yD|apply yE);(first|exact yF|assumption);iterate 6 exact rfl)|((first|apply yG|apply yH|apply yI);exact rfl;(first|exact yJ|exact yK rfl rfl|exact yL rfl|exact yM rfl|exact rfl|exact aL rfl rfl rfl rfl rfl|exact aS rfl rfl rfl rfl rfl rfl rfl))|((first|apply yN|apply yO|apply yP);exact rfl)|(exfalso;omega)|(((first|apply yT|apply yU|apply yV|apply yW);exact rfl;(first|exact .d|exact .e|exact .n|((fail_if_success exact bqt);(fail_if_success exact bqf);exact .b)))<;>intro _)
      refine Go.drawn hr hq5 rfl rfl rfl action_ok ?_
      rintro _ q6 hq6 ⟨a2, ha2, ha3, rfl⟩
      repeat' first|(apply yA;exact rfl)|apply yB|apply yC|((first|apply yD|apply yE);(first|exact yF|assumption);iterate 6 exact rfl)|((first|apply yG|apply yH|apply yI);exact rfl;(first|exact yJ|exact yK rfl rfl|exact yL rfl|exact yM rfl|exact rfl|exact aL rfl rfl rfl rfl rfl|exact aS rfl rfl rfl rfl rfl rfl rfl))|((first|apply yN|apply yO|apply yP);exact rfl)|(exfalso;omega)|(((first|apply yT|apply yU|apply yV|apply yW);exact rfl;(first|exact .d|exact .e|exact .n|((fail_if_success exact bqt);(fail_if_success exact bqf);exact .b)))<;>intro _)
      refine Go.drawn hr hq6 rfl rfl rfl (once_ok 4 (by decide) (by decide)) ?_
      rintro _ q7 hq7 ⟨b2, rfl⟩
      repeat' first|(apply yA;exact rfl)|apply yB|apply yC|((first|apply yD|apply yE);(first|exact yF|assumption);iterate 6 exact rfl)|((first|apply yG|apply yH|apply yI);exact rfl;(first|exact yJ|exact yK rfl rfl|exact yL rfl|exact yM rfl|exact rfl|exact aL rfl rfl rfl rfl rfl|exact aS rfl rfl rfl rfl rfl rfl rfl))|((first|apply yN|apply yO|apply yP);exact rfl)|(exfalso;omega)|(((first|apply yT|apply yU|apply yV|apply yW);exact rfl;(first|exact .d|exact .e|exact .n|((fail_if_success exact bqt);(fail_if_success exact bqf);exact .b)))<;>intro _)
      refine Go.app1 (k := 2) (ys := [headC [112] (σ.next + 0) (.fz ([0].map encI)) x3 x4]) (junk := []) (z := [.str [99], .fz ([colK, ⟨[112], 1, b1, vNull⟩].map encCol), .fz ([0].map encI), .nils, .nils, .fz ([⟨[1], [112], a1, a2, b2⟩].map encFk)]) rfl rfl rfl rfl rfl (fun e he => by rw [List.mem_singleton.1 he]; rfl) Jk.nil rfl (by simp) fun u' junk' hj' => ?_
      repeat' first|(apply yA;exact rfl)|apply yB|apply yC|((first|apply yD|apply yE);(first|exact yF|assumption);iterate 6 exact rfl)|((first|apply yG|apply yH|apply yI);exact rfl;(first|exact yJ|exact yK rfl rfl|exact yL rfl|exact yM rfl|exact rfl|exact aL rfl rfl rfl rfl rfl|exact aS rfl rfl rfl rfl rfl rfl rfl))|((first|apply yN|apply yO|apply yP);exact rfl)|(exfalso;omega)|(((first|apply yT|apply yU|apply yV|apply yW);exact rfl;(first|exact .d|exact .e|exact .n|((fail_if_success exact bqt);(fail_if_success exact bqf);exact .b)))<;>intro _)
      refine Go.keep [0, 4] (h _ _ ⟨q7, u', [([.str [99], .fz ([colK, ⟨[112], 1, b1, vNull⟩].map encCol), .fz ([0].map encI), .nils, .nils, .fz ([⟨[1], [112], a1, a2, b2⟩].map encFk)], ⟨[99], [colK, ⟨[112], 1, b1, vNull⟩], [0], [], [], [⟨[1], [112], a1, a2, b2⟩]⟩)], junk', hq7, fun p hp => ?_, by simp, hj', rfl, rfl⟩)
      rw [List.mem_singleton.1 hp]
      exact ⟨⟨⟨_, _, _, _, rfl, .inl rfl, .inr ⟨rfl, rfl⟩, .inr ⟨rfl, rfl⟩, .inl rfl⟩⟩, ⟨⟨by simp, ⟨by simp, fun x hx => by
        simp only [List.mem_cons, List.not_mem_nil, or_false] at hx
        rcases hx with rfl | rfl <;> simp [bCol, bV, colK, vNull]⟩, by simp, ⟨by simp, fun x hx => by simp at hx⟩, ⟨by simp, fun x hx => by simp at hx⟩, by simp, fun x hx => by rw [List.mem_singleton.1 hx]; simp [bFk]⟩, by simp, by simp⟩⟩
    · repeat' first|(apply yA;exact rfl)|apply yB|apply yC|((first|apply yD|apply yE);(first|exact yF|assumption);iterate 6 exact rfl)|((first|apply yG|apply yH|apply yI);exact rfl;(first|exact yJ|exact yK rfl rfl|exact yL rfl|exact yM rfl|exact rfl|exact aL rfl rfl rfl rfl rfl|exact aS rfl rfl rfl rfl rfl rfl rfl))|((first|apply yN|apply yO|apply yP);exact rfl)|(exfalso;omega)|(((first|apply yT|apply yU|apply yV|apply yW);exact rfl;(first|exact .d|exact .e|exact .n|((fail_if_success exact bqt);(fail_if_success exact bqf);exact .b)))<;>intro _)
      exact Go.keep [0, 4] (h _ _ ⟨q3, 0, [], [], hq3, fun p hp => by simp at hp, by simp, Jk.nil, rfl, rfl⟩)
  rintro fr τ ⟨q3, u, ps, junk, hq3, hps, hpl, hj, rfl, rfl⟩
  clear hq2
  have hlen : ∀ e ∈ headC [112] (σ.next + 0) (.fz ([0].map encI)) x3 x4 :: ps.map Prod.fst, e.length = 6 := fun e he => by
    rcases List.mem_cons.1 he with rfl | he
    · rfl
    · obtain ⟨p, hp, rfl⟩ := List.mem_map.1 he
      obtain ⟨_, _, _, _, h1, _⟩ := (hps p hp).1.has
      rw [h1]
      rfl
  repeat' first|(apply yA;exact rfl)|apply yB|apply yC|((first|apply yD|apply yE);(first|exact yF|assumption);iterate 6 exact rfl)|((first|apply yG|apply yH|apply yI);exact rfl;(first|exact yJ|exact yK rfl rfl|exact yL rfl|exact yM rfl|exact rfl|exact aL rfl rfl rfl rfl rfl|exact aS rfl rfl rfl rfl rfl rfl rfl))|((first|apply yN|apply yO|apply yP);exact rfl)|(exfalso;omega)|(((first|apply yT|apply yU|apply yV|apply yW);exact rfl;(first|exact .d|exact .e|exact .n|((fail_if_success exact bqt);(fail_if_success exact bqf);exact .b)))<;>intro _)
  refine Go.meet (K' := [_, _]) (fun fr τ => ∃ (q u : Nat) (ps : List (List Ce × Table)) (junk : List (List Ce)), q ≤ code.length ∧ Rest ps ∧ ps.length ≤ 2 ∧ Jk 6 junk ∧ fr = [(0, .c (.ptr id v 0 0)), (4, .c (vec (σ.next + 2) u (headC [112] (σ.next + 0) (.fz ([0].map encI)) x3 x4 :: ps.map Prod.fst) junk))] ∧
    τ = E (Rd.go σ id v code q) [(0, [encCol colK, encCol colT, encCol colN]), (0, [headC [112] (σ.next + 0) (.fz ([0].map encI)) x3 x4]), (u, headC [112] (σ.next + 0) (.fz ([0].map encI)) x3 x4 :: ps.map Prod.fst ++ junk)]) (fun K h => ?_) ?_
  · refine Go.drawn hr hq3 rfl rfl rfl (once_ok 3 (by decide) (by decide)) ?_
    rintro _ q4 hq4 ⟨b, rfl⟩
    cases b
    · repeat' first|(apply yA;exact rfl)|apply yB|apply yC|((first|apply yD|apply yE);(first|exact yF|assumption);iterate 6 exact rfl)|((first|apply yG|apply yH|apply yI);exact rfl;(first|exact yJ|exact yK rfl rfl|exact yL rfl|exact yM rfl|exact rfl|exact aL rfl rfl rfl rfl rfl|exact aS rfl rfl rfl rfl rfl rfl rfl))|((first|apply yN|apply yO|apply yP);exact rfl)|(exfalso;omega)|(((first|apply yT|apply yU|apply yV|apply yW);exact rfl;(first|exact .d|exact .e|exact .n|((fail_if_success exact bqt);(fail_if_success exact bqf);exact .b)))<;>intro _)
      exact Go.keep [0, 4] (h _ _ ⟨q4, u, ps, junk, hq4, hps, by omega, hj, rfl, rfl⟩)
    · repeat' first|(apply yA;exact rfl)|apply yB|apply yC|((first|apply yD|apply yE);(first|exact yF|assumption);iterate 6 exact rfl)|((first|apply yG|apply yH|apply yI);exact rfl;(first|exact yJ|exact yK rfl rfl|exact yL rfl|exact yM rfl|exact rfl|exact aL rfl rfl rfl rfl rfl|exact aS rfl rfl rfl rfl rfl rfl rfl))|((first|apply yN|apply yO|apply yP);exact rfl)|(exfalso;omega)|(((first|apply yT|apply yU|apply yV|apply yW);exact rfl;(first|exact .d|exact .e|exact .n|((fail_if_success exact bqt);(fail_if_success exact bqf);exact .b)))<;>intro _)
      refine Go.drawn hr hq4 rfl rfl rfl action_ok ?_
      rintro _ q5 hq5 ⟨a1, ha0, ha1, rfl⟩
      repeat' first|(apply yA;exact rfl)|apply yB|apply yC|((first|apply yD|apply yE);(first|exact yF|assumption);iterate 6 exact rfl)|((first|apply yG|apply yH|apply yI);exact rfl;(first|exact yJ|exact yK rfl rfl|exact yL rfl|exact yM rfl|exact rfl|exact aL rfl rfl rfl rfl rfl|exact aS rfl rfl rfl rfl rfl rfl rfl))|((first|apply yN|apply yO|apply yP);exact rfl)|(exfalso;omega)|(((first|apply yT|apply yU|apply yV|apply yW);exact rfl;(first|exact .d|exact .e|exact .n|((fail_if_success exact bqt);(fail_if_success exact bqf);exact .b)))<;>intro _)
      refine Go.drawn hr hq5 rfl rfl rfl action_ok ?_
      rintro _ q6 hq6 ⟨a2, ha2, ha3, rfl⟩
      repeat' first|(apply yA;exact rfl)|apply yB|apply yC|((first|apply yD|apply yE);(first|exact yF|assumption);iterate 6 exact rfl)|((first|apply yG|apply yH|apply yI);exact rfl;(first|exact yJ|exact yK rfl rfl|exact yL rfl|exact yM rfl|exact rfl|exact aL rfl rfl rfl rfl rfl|exact aS rfl rfl rfl rfl rfl rfl rfl))|((first|apply yN|apply yO|apply yP);exact rfl)|(exfalso;omega)|(((first|apply yT|apply yU|apply yV|apply yW);exact rfl;(first|exact .d|exact .e|exact .n|((fail_if_success exact bqt);(fail_if_success exact bqf);exact .b)))<;>intro _)
      refine Go.app1 (k := 2) (ys := headC [112] (σ.next + 0) (.fz ([0].map encI)) x3 x4 :: ps.map Prod.fst) (junk := junk) (z := [.str [116, 114, 101, 101], .fz ([colK, ⟨[117, 112], 1, false, vNull⟩].map encCol), .fz ([0].map encI), .nils, .nils, .fz ([⟨[1], [116, 114, 101, 101], a1, a2, false⟩].map encFk)]) rfl rfl rfl rfl rfl hlen hj rfl (by simp; omega) fun u' junk' hj' => ?_
      repeat' first|(apply yA;exact rfl)|apply yB|apply yC|((first|apply yD|apply yE);(first|exact yF|assumption);iterate 6 exact rfl)|((first|apply yG|apply yH|apply yI);exact rfl;(first|exact yJ|exact yK rfl rfl|exact yL rfl|exact yM rfl|exact rfl|exact aL rfl rfl rfl rfl rfl|exact aS rfl rfl rfl rfl rfl rfl rfl))|((first|apply yN|apply yO|apply yP);exact rfl)|(exfalso;omega)|(((first|apply yT|apply yU|apply yV|apply yW);exact rfl;(first|exact .d|exact .e|exact .n|((fail_if_success exact bqt);(fail_if_success exact bqf);exact .b)))<;>intro _)
      refine Go.keep [0, 4] (h _ _ ⟨q6, u', ps ++ [([.str [116, 114, 101, 101], .fz ([colK, ⟨[117, 112], 1, false, vNull⟩].map encCol), .fz ([0].map encI), .nils, .nils, .fz ([⟨[1], [116, 114, 101, 101], a1, a2, false⟩].map encFk)], ⟨[116, 114, 101, 101], [colK, ⟨[117, 112], 1, false, vNull⟩], [0], [], [], [⟨[1], [116, 114, 101, 101], a1, a2, false⟩]⟩)], junk', hq6, fun p hp => ?_, by simp; omega, hj', by rw [List.map_append]; rfl, by rw [List.map_append]; rfl⟩)
      rcases List.mem_append.1 hp with hp | hp
      · exact hps p hp
      rw [List.mem_singleton.1 hp]
      exact ⟨⟨⟨_, _, _, _, rfl, .inl rfl, .inr ⟨rfl, rfl⟩, .inr ⟨rfl, rfl⟩, .inl rfl⟩⟩, ⟨⟨by simp, ⟨by simp, fun x hx => by
        simp only [List.mem_cons, List.not_mem_nil, or_false] at hx
        rcases hx with rfl | rfl <;> simp [bCol, bV, colK, vNull]⟩, by simp, ⟨by simp, fun x hx => by simp at hx⟩, ⟨by simp, fun x hx => by simp at hx⟩, by simp, fun x hx => by rw [List.mem_singleton.1 hx]; simp [bFk]⟩, by simp, by simp⟩⟩
  clear hps hpl hj hlen hq3
  clear u ps junk
  rintro fr τ ⟨q4, u, ps, junk, hq4, hps, hpl, hj, rfl, rfl⟩
  repeat' first|(apply yA;exact rfl)|apply yB|apply yC|((first|apply yD|apply yE);(first|exact yF|assumption);iterate 6 exact rfl)|((first|apply yG|apply yH|apply yI);exact rfl;(first|exact yJ|exact yK rfl rfl|exact yL rfl|exact yM rfl|exact rfl|exact aL rfl rfl rfl rfl rfl|exact aS rfl rfl rfl rfl rfl rfl rfl))|((first|apply yN|apply yO|apply yP);exact rfl)|(exfalso;omega)|(((first|apply yT|apply yU|apply yV|apply yW);exact rfl;(first|exact .d|exact .e|exact .n|((fail_if_success exact bqt);(fail_if_success exact bqf);exact .b)))<;>intro _)
  refine Go.drawn hr hq4 rfl rfl rfl (below_ok 40 (by decide) (by decide)) ?_
  intro r q5 hq5 hz
  obtain ⟨k, hk, rfl⟩ := below_lt (by decide) hz
  have hcb : bCol 12 colK ∧ bCol 12 colT ∧ bCol 12 colN := ⟨by simp [bCol, bV, colK, vNull], by simp [bCol, bV, colT, vNull], by simp [bCol, bV, colN, vInt]⟩
  have hget : ∀ q : Nat, (E (Rd.go σ id v code q) [(0, [encCol colK, encCol colT, encCol colN]), (0, [headC [112] (σ.next + 0) (.fz ([0].map encI)) x3 x4]), (u, headC [112] (σ.next + 0) (.fz ([0].map encI)) x3 x4 :: ps.map Prod.fst ++ junk)]).get (σ.next + 2) = some (u, headC [112] (σ.next + 0) (.fz ([0].map encI)) x3 x4 :: ps.map Prod.fst ++ junk) := fun q => E_get (σ := Rd.go σ id v code q) (k := 2) rfl
  have hpos : 0 < (headC [112] (σ.next + 0) (.fz ([0].map encI)) x3 x4 :: ps.map Prod.fst).length := by simp
  by_cases h37 : (k : Int) = 37
  · repeat' first|(apply yA;exact rfl)|apply yB|apply yC|((first|apply yD|apply yE);(first|exact yF|assumption);iterate 6 exact rfl)|((first|apply yG|apply yH|apply yI);exact rfl;(first|exact yJ|exact yK rfl rfl|exact yL rfl|exact yM rfl|exact rfl|exact aL rfl rfl rfl rfl rfl|exact aS rfl rfl rfl rfl rfl rfl rfl|exact aop_iaddrO rfl rfl (show (0 : Int) = ((0 : Nat) : Int) from rfl) hpos (hget _) rfl rfl))|((first|apply yN|apply yO|apply yP);exact rfl)|(exfalso;omega)|(((first|apply yT|apply yU|apply yV|apply yW);exact rfl;(first|exact .d|exact .e|exact .n|((fail_if_success exact bqt);(fail_if_success exact bqf);exact .b)))<;>intro _)
    obtain ⟨s, hs1, hs2⟩ := schema_frz (σ := Rd.go σ id v code q5) (u := u) (nm := [112]) (key := []) (x2 := .nils) (ps := ps) (junk := junk) (vb := 0) (pb := [headC [112] (σ.next + 0) (.fz ([0].map encI)) x3 x4]) (by decide) (by decide) (.inr ⟨rfl, rfl⟩) hH hcb hps hpl
    exact .ret rfl (.f hq5 ⟨s, hs1, rfl⟩ hs2)
  by_cases h38 : (k : Int) = 38
  · repeat' first|(apply yA;exact rfl)|apply yB|apply yC|((first|apply yD|apply yE);(first|exact yF|assumption);iterate 6 exact rfl)|((first|apply yG|apply yH|apply yI);exact rfl;(first|exact yJ|exact yK rfl rfl|exact yL rfl|exact yM rfl|exact rfl|exact aL rfl rfl rfl rfl rfl|exact aS rfl rfl rfl rfl rfl rfl rfl|exact aop_iaddrO rfl rfl (show (0 : Int) = ((0 : Nat) : Int) from rfl) hpos (hget _) rfl rfl))|((first|apply yN|apply yO|apply yP);exact rfl)|(exfalso;omega)|(((first|apply yT|apply yU|apply yV|apply yW);exact rfl;(first|exact .d|exact .e|exact .n|((fail_if_success exact bqt);(fail_if_success exact bqf);exact .b)))<;>intro _)
    obtain ⟨s, hs1, hs2⟩ := schema_frz (σ := Rd.go σ id v code q5) (u := u) (nm := [99]) (key := [0]) (x2 := .fz ([0].map encI)) (ps := ps) (junk := junk) (vb := 0) (pb := [headC [112] (σ.next + 0) (.fz ([0].map encI)) x3 x4]) (by decide) (by decide) (.inl rfl) hH hcb hps hpl
    exact .ret rfl (.f hq5 ⟨s, hs1, rfl⟩ hs2)
  by_cases h39 : (k : Int) = 39
  · repeat' first|apply Go.seq|apply Go.skip|apply Go.region|apply Go.nil|apply Go.block|apply Go.blk|apply Go.segs|(apply Go.exit;exact rfl)|(apply Go.cond true;exact rfl)|(apply Go.cond false;exact rfl)|apply yB|apply yC|((first|apply yD|apply yE);(first|exact yF|assumption);iterate 6 exact rfl)|((first|apply yG|apply yH|apply yI);exact rfl;(first|exact yJ|exact yK rfl rfl|exact yL rfl|exact yM rfl|exact rfl|exact aL rfl rfl rfl rfl rfl|exact aS rfl rfl rfl rfl rfl rfl rfl))|((first|apply yN|apply yO|apply yP);exact rfl)|(exfalso;omega)|(((first|apply yT|apply yU|apply yV|apply yW);exact rfl;(first|exact .d|exact .e|exact .n|((fail_if_success exact bqt);(fail_if_success exact bqf);exact .b)))<;>intro _)
    apply Go.draw
    refine Go.qr [(0, [encCol colK, encCol colT, encCol colN]), (0, [headC [112] (σ.next + 0) (.fz ([0].map encI)) x3 x4]), (u, headC [112] (σ.next + 0) (.fz ([0].map encI)) x3 x4 :: ps.map Prod.fst ++ junk)] rfl ?_
    repeat' first|(apply Qx.op;exact rfl;(first|exact fun _ _ _ => rfl|exact aop_iaddrI (k := 2) rfl rfl (show (0 : Int) = ((0 : Nat) : Int) from rfl) hpos rfl rfl rfl|exact aop_loadI rfl rfl rfl rfl rfl))
    refine Qx.drawn hr hq5 rfl rfl rfl (off_ok 1 2 (by decide) (by decide) (by decide) (by decide)) ?_
    rintro _ q6 hq6 ⟨n, rfl⟩
    refine .nil ?_
    repeat' first|(apply yA;exact rfl)|apply yB|apply yC|((first|apply yD|apply yE);(first|exact yF|assumption);iterate 6 exact rfl)|((first|apply yG|apply yH|apply yI);exact rfl;(first|exact yJ|exact yK rfl rfl|exact yL rfl|exact yM rfl|exact rfl|exact aL rfl rfl rfl rfl rfl|exact aS rfl rfl rfl rfl rfl rfl rfl|exact aop_iaddrO rfl rfl (show (0 : Int) = ((0 : Nat) : Int) from rfl) (show 0 < 3 by decide) (E_get (k := 0) rfl) rfl rfl))|((first|apply yN|apply yO|apply yP);exact rfl)|(exfalso;omega)|(((first|apply yT|apply yU|apply yV|apply yW);exact rfl;(first|exact .d|exact .e|exact .n|((fail_if_success exact bqt);(fail_if_success exact bqf);exact .b)))<;>intro _)
    obtain ⟨s, hs1, hs2⟩ := schema_frz (σ := Rd.go σ id v code q6) (u := u) (nm := [112]) (key := [0]) (x2 := .fz ([0].map encI)) (c0 := ⟨[107], n, true, vNull⟩) (ps := ps) (junk := junk) (vb := 0) (pb := [headC [112] (σ.next + 0) (.fz ([0].map encI)) x3 x4]) (by decide) (by decide) (.inl rfl) hH ⟨by simp [bCol, bV, vNull], hcb.2⟩ hps hpl
    exact .ret rfl (.f hq6 ⟨s, hs1, rfl⟩ hs2)
  · repeat' first|(apply yA;exact rfl)|apply yB|apply yC|((first|apply yD|apply yE);(first|exact yF|assumption);iterate 6 exact rfl)|((first|apply yG|apply yH|apply yI);exact rfl;(first|exact yJ|exact yK rfl rfl|exact yL rfl|exact yM rfl|exact rfl|exact aL rfl rfl rfl rfl rfl|exact aS rfl rfl rfl rfl rfl rfl rfl))|((first|apply yN|apply yO|apply yP);exact rfl)|(exfalso;omega)|(((first|apply yT|apply yU|apply yV|apply yW);exact rfl;(first|exact .d|exact .e|exact .n|((fail_if_success exact bqt);(fail_if_success exact bqf);exact .b)))<;>intro _)
    obtain ⟨s, hs1, hs2⟩ := schema_frz (σ := Rd.go σ id v code q5) (u := u) (nm := [112]) (key := [0]) (x2 := .fz ([0].map encI)) (ps := ps) (junk := junk) (vb := 0) (pb := [headC [112] (σ.next + 0) (.fz ([0].map encI)) x3 x4]) (by decide) (by decide) (.inl rfl) hH hcb hps hpl
    exact .ret rfl (.f hq5 ⟨s, hs1, rfl⟩ hs2)
end Go.Proofs.YteafjabcpmpmgaaGreat.Am

/- Schemas, as the program sees them. -/
set_option linter.unusedVariables false
set_option linter.unusedSimpArgs false
namespace Go.Proofs.YteafjabcpmpmgaaGreat.Am

theorem idxA_at {α : Type} {p : α → Bool} : ∀ {l : List α} {i : Int}, 0 ≤ i → idxA p l i = -1 ∨ ∃ n : Nat, ∃ h : n < l.length, idxA p l i = i + n ∧ p l[n] = true
  | [], i, h => .inl rfl
  | a :: r, i, h => by
    simp only [idxA]
    split
    · exact .inr ⟨0, by simp, by simp, by assumption⟩
    · rcases idxA_at (p := p) (l := r) (i := i + 1) (by omega) with h1 | ⟨n, hn, h1, h2⟩
      · exact .inl h1
      · exact .inr ⟨n + 1, by simpa using hn, by omega, by simpa using h2⟩
theorem TableAt1_ok (t : Table) (s : List UInt8) : Pure Tryz.prog 138 [.agg (encTable t), .c (.fp [.str s])] (.c (.bool (t.name == s))) := by
  refine Pure.run mixed c_impl_TableAt_1_ok (Nat.le_of_ble_eq_true rfl) fun σ hS hA => ?_
  clear hS hA
  repeat' first|(apply yA;exact rfl)|apply yB|apply yC|((first|apply yD|apply yE);(first|exact yF|assumption);iterate 6 exact rfl)|((first|apply yG|apply yH|apply yI);exact rfl;(first|exact yJ|exact yK rfl rfl|exact yL rfl|exact yM rfl|exact rfl|exact aL rfl rfl rfl rfl rfl|exact aS rfl rfl rfl rfl rfl rfl rfl))|((first|apply yN|apply yO|apply yP);exact rfl)|(exfalso;omega)|(((first|apply yT|apply yU|apply yV|apply yW);exact rfl;(first|exact .d|exact .e|exact .n|((fail_if_success exact bqt);(fail_if_success exact bqf);exact .b)))<;>intro _)
  all_goals refine .ret rfl (.bool ?_)
  all_goals simp_all
theorem TableAt_ok (l : List Table) (s : List UInt8) (hx : l.length ≤ 34359738368) : Pure Tryz.prog 49 [.c (.fz (l.map encTable)), .c (.str s)] (.c (.int .i64 (idxA (fun t => t.name == s) l 0))) := by
  refine Pure.run mixed c_impl_TableAt_ok (Nat.le_of_ble_eq_true rfl) fun σ hS hA => ?_
  clear hS hA
  repeat' first|(apply yA;exact rfl)|apply yB|apply yC|((first|apply yD|apply yE);(first|exact yF|assumption);iterate 6 exact rfl)|((first|apply yG|apply yH|apply yI);exact rfl;(first|exact yJ|exact yK rfl rfl|exact yL rfl|exact yM rfl|exact rfl|exact aL rfl rfl rfl rfl rfl|exact aS rfl rfl rfl rfl rfl rfl rfl))|((first|apply yN|apply yO|apply yP);exact rfl)|((first|apply yQ|apply yR|apply yS);(iterate 3 exact rfl);exact indexFuncA_ok mixed c_slices_IndexFunc_Table_ok encTable (fun t => .agg (encTable t)) (fun _ => rfl) (fun _ => rfl) l (fun t => t.name == s) _ [] [.fp [.str s]] hx (fun j hj _ => TableAt1_ok _ _))|(exfalso;omega)|(((first|apply yT|apply yU|apply yV|apply yW);exact rfl;(first|exact .d|exact .e|exact .n|((fail_if_success exact bqt);(fail_if_success exact bqf);exact .b)))<;>intro _)
  exact .ret rfl (.int rfl)
def kindAt (t : Table) (c : Int) : Int := match t.cols[c.toNat]? with | some x => x.kind | none => 0
def kindsEq (u t : Table) : List Int → List Int → Bool
  | a :: r, c :: q => kindAt u a == kindAt t c && kindsEq u t r q
  | _, _ => true
def metAt (u t : Table) (f : Fk) : Bool := decide (u.key.length = f.cols.length) && kindsEq u t u.key f.cols
def metF (s : List Table) (t : Table) (f : Fk) : Bool := s.any (fun u => u.name == f.table) && (match s[(idxA (fun u => u.name == f.table) s 0).toNat]? with | some u => metAt u t f | none => false)
theorem kindAt_at {t : Table} {c : Int} {n : Nat} (h : c = n) (hn : n < t.cols.length) : kindAt t c = t.cols[n].kind := by
  simp [kindAt, h, hn]
theorem metF_no {s : List Table} {t : Table} {f : Fk} (h : idxA (fun u => u.name == f.table) s 0 = -1) : metF s t f = false := by
  have := any_idx (p := fun u : Table => u.name == f.table) (l := s)
  rw [h] at this
  rw [metF, ← this]
  rfl
theorem metF_yes {s : List Table} {t : Table} {f : Fk} {n : Nat} (h : idxA (fun u => u.name == f.table) s 0 = n) (hn : n < s.length) : metF s t f = metAt s[n] t f := by
  have := any_idx (p := fun u : Table => u.name == f.table) (l := s)
  rw [h] at this
  rw [metF, ← this, h, decide_eq_true (by omega)]
  simp [hn]
theorem isMet_ok (s : List Table) (t : Table) (f : Fk) (hx : s.length ≤ 34359738368) (hs : ∀ u ∈ s, u.key.length ≤ 34359738368 ∧ ∀ c ∈ u.key, 0 ≤ c ∧ c < u.cols.length) (hf0 : f.cols.length ≤ 34359738368) (hf : ∀ c ∈ f.cols, 0 ≤ c ∧ c < t.cols.length) : Pure Tryz.prog 260 [.c (.fz (s.map encTable)), .agg (encTable t), .agg (encFk f)] (.c (.bool (metF s t f))) := by
  refine Pure.run mixed c_impl_isMet_ok (Nat.le_of_ble_eq_true rfl) fun σ hS hA => ?_
  clear hS hA
  repeat' first|(apply yA;exact rfl)|apply yB|apply yC|((first|apply yD|apply yE);(first|exact yF|assumption);iterate 6 exact rfl)|((first|apply yG|apply yH|apply yI);exact rfl;(first|exact yJ|exact yK rfl rfl|exact yL rfl|exact yM rfl|exact rfl|exact aL rfl rfl rfl rfl rfl|exact aS rfl rfl rfl rfl rfl rfl rfl))|((first|apply yN|apply yO|apply yP);exact rfl)
  refine .pcall rfl rfl rfl (TableAt_ok s f.table hx) ?_
  rcases idxA_at (p := fun u : Table => u.name == f.table) (l := s) (i := 0) (Int.le_refl _) with hq | ⟨n, hn, hq, hp⟩
  · have hm := metF_no (t := t) hq
    rw [hq]
    repeat' first|(apply yA;exact rfl)|apply yB|apply yC|((first|apply yD|apply yE);(first|exact yF|assumption);iterate 6 exact rfl)|((first|apply yG|apply yH|apply yI);exact rfl;(first|exact yJ|exact yK rfl rfl|exact yL rfl|exact yM rfl|exact rfl|exact aL rfl rfl rfl rfl rfl|exact aS rfl rfl rfl rfl rfl rfl rfl))|((first|apply yN|apply yO|apply yP);exact rfl)|(exfalso;omega)|(((first|apply yT|apply yU|apply yV|apply yW);exact rfl;(first|exact .d|exact .e|exact .n|((fail_if_success exact bqt);(fail_if_success exact bqf);exact .b)))<;>intro _)
    exact .ret rfl (.bool hm.symm)
  rw [Int.zero_add] at hq
  have hm := metF_yes (t := t) hq hn
  have hsn := hs _ (List.getElem_mem hn)
  rw [hq]
  have hnz : ¬ ((n : Int) < 0) := by omega
  repeat' first|(apply yA;exact rfl)|apply yB|apply yC|((first|apply yD|apply yE);(first|exact yF|assumption);iterate 6 exact rfl)|((first|apply yG|apply yH|apply yI);exact rfl;(first|exact yJ|exact yK rfl rfl|exact yL rfl|exact yM rfl|exact rfl|exact aL rfl rfl rfl rfl rfl|exact aS rfl rfl rfl rfl rfl rfl rfl|exact yX (enc := encTable) rfl rfl rfl hn rfl))|((first|apply yN|apply yO|apply yP);exact rfl)|(exfalso;omega)|(((first|apply yT|apply yU|apply yV|apply yW);exact rfl;(first|exact .d|exact .e|exact .n|((fail_if_success exact bqt);(fail_if_success exact bqf);exact .b)))<;>intro _)
  · refine .ret rfl (.bool ?_)
    rename_i h
    rw [hm, metAt, decide_eq_false (by omega)]
    rfl
  rename_i hlen
  refine Go.keep [0, 4, 7, 29, 30, 31] (Go.loops (I := fun m fr τ => ∃ i : Nat, ∃ k : Int, m = f.cols.length - i ∧ i ≤ f.cols.length ∧ k = i ∧ kindsEq s[n] t s[n].key f.cols = kindsEq s[n] t (s[n].key.drop i) (f.cols.drop i) ∧
    fr = [(0, .c (.fz (s.map encTable))), (4, .c (.fp (encTable t))), (7, .c (.int .i64 (n : Int))), (29, .c (.fz (f.cols.map encI))), (30, .c (.int .i64 (f.cols.length : Int))), (31, .c (.int .i64 k))] ∧ τ = E σ []) ?_ _ _ _ ⟨0, _, rfl, Nat.zero_le _, rfl, rfl, rfl, rfl⟩)
  rintro m fr τ ⟨i, k, rfl, hi, hk, hsl, rfl, rfl⟩ hrec
  by_cases hlt : i < f.cols.length
  · have hlt2 : i < s[n].key.length := by omega
    have h1 := hsn.2 _ (List.getElem_mem hlt2)
    have h2 := hf _ (List.getElem_mem hlt)
    obtain ⟨a, ha⟩ : ∃ a : Nat, s[n].key[i] = a := ⟨s[n].key[i].toNat, by omega⟩
    obtain ⟨c, hc⟩ : ∃ c : Nat, f.cols[i] = c := ⟨f.cols[i].toNat, by omega⟩
    have ha2 : a < s[n].cols.length := by omega
    have hc2 : c < t.cols.length := by omega
    have e1 := kindAt_at ha ha2
    have e2 := kindAt_at hc hc2
    have hstep : kindsEq s[n] t s[n].key f.cols = (s[n].cols[a].kind == t.cols[c].kind && kindsEq s[n] t (s[n].key.drop (i + 1)) (f.cols.drop (i + 1))) := by
      rw [hsl, List.drop_eq_getElem_cons hlt, List.drop_eq_getElem_cons hlt2, kindsEq, e1, e2]
    repeat' first|(apply yA;exact rfl)|apply yB|apply yC|((first|apply yD|apply yE);(first|exact yF|assumption);iterate 6 exact rfl)|((first|apply yG|apply yH|apply yI);exact rfl;(first|exact yJ|exact yK rfl rfl|exact yL rfl|exact yM rfl|exact rfl|exact aL rfl rfl rfl rfl rfl|exact aS rfl rfl rfl rfl rfl rfl rfl|exact yX (enc := encI) rfl rfl hk hlt rfl|exact yX (enc := encTable) rfl rfl rfl hn rfl|exact yX (enc := encI) rfl rfl hk hlt2 rfl|exact yX (enc := encCol) rfl rfl ha ha2 rfl|exact yX (enc := encCol) rfl rfl hc hc2 rfl))|((first|apply yN|apply yO|apply yP);exact rfl)|(exfalso;omega)|(((first|apply yT|apply yU|apply yV|apply yW);exact rfl;(first|exact .d|exact .e|exact .n|((fail_if_success exact bqt);(fail_if_success exact bqf);exact .b)))<;>intro _)
    · refine .ret rfl (.bool ?_)
      rename_i h
      rw [hm, metAt, hstep, beq_eq_false_iff_ne.2 h]
      simp
    · rename_i h
      refine Go.keep [0, 4, 7, 29, 30, 31] (hrec _ _ _ (by omega) ⟨i + 1, _, rfl, hlt, wrap_succ hk (by omega), ?_, rfl, rfl⟩)
      rw [hstep, h]
      simp
  · repeat' first|(apply yA;exact rfl)|apply yB|apply yC|((first|apply yD|apply yE);(first|exact yF|assumption);iterate 6 exact rfl)|((first|apply yG|apply yH|apply yI);exact rfl;(first|exact yJ|exact yK rfl rfl|exact yL rfl|exact yM rfl|exact rfl|exact aL rfl rfl rfl rfl rfl|exact aS rfl rfl rfl rfl rfl rfl rfl))|((first|apply yN|apply yO|apply yP);exact rfl)|(exfalso;omega)|(((first|apply yT|apply yU|apply yV|apply yW);exact rfl;(first|exact .d|exact .e|exact .n|((fail_if_success exact bqt);(fail_if_success exact bqf);exact .b)))<;>intro _)
    refine .ret rfl (.bool ?_)
    rw [hm, metAt, hsl, List.drop_eq_nil_of_le (by omega), decide_eq_true (by omega)]
    cases s[n].key.drop i <;> rfl
def namesAux : List Table → List Table → Bool
  | _, [] => true
  | pre, t :: r => tableF t && !(pre.any fun u => u.name == t.name) && namesAux (pre ++ [t]) r
def schemaF (s : List Table) : Bool := decide ((s.length : Int) ≤ 5) && (namesAux [] s && !(s.any fun t => t.fks.any fun f => !metF s t f))
theorem namesAux_ok : ∀ {l pre : List Table}, namesAux pre l = true → ∀ t ∈ l, tableF t = true
  | [], _, _, t, h => by simp at h
  | a :: r, pre, h, t, ht => by
    simp only [namesAux, Bool.and_eq_true] at h
    rcases List.mem_cons.1 ht with rfl | ht
    · exact h.1.1
    · exact namesAux_ok h.2 t ht
theorem tableF_key {t : Table} (h : tableF t = true) : ∀ c ∈ t.key, 0 ≤ c ∧ c < t.cols.length := colsF_in (tableF_iff.1 h).2.2.1
theorem tableF_fk {t : Table} (h : tableF t = true) {f : Fk} (hf : f ∈ t.fks) : ∀ c ∈ f.cols, 0 ≤ c ∧ c < t.cols.length := by
  have h1 := (tableF_iff.1 h).2.2.2.2.2.2.2.2.2.2
  rw [List.any_eq_false] at h1
  have := h1 f hf
  simp only [Bool.not_eq_true', Bool.not_eq_false, isFkF, Bool.and_eq_true] at this
  exact colsF_in this.1
theorem SchemaOk11_ok (s : List Table) (t : Table) (f : Fk) (hx : s.length ≤ 34359738368) (hs : ∀ u ∈ s, u.key.length ≤ 34359738368 ∧ ∀ c ∈ u.key, 0 ≤ c ∧ c < u.cols.length) (hf0 : f.cols.length ≤ 34359738368) (hf : ∀ c ∈ f.cols, 0 ≤ c ∧ c < t.cols.length) : Pure Tryz.prog 259 [.agg (encFk f), .c (.fp [.fz (s.map encTable)]), .c (.fp (encTable t))] (.c (.bool (!metF s t f))) := by
  refine Pure.run mixed c_impl_SchemaOk_1_1_ok (Nat.le_of_ble_eq_true rfl) fun σ hS hA => ?_
  clear hS hA
  repeat' first|(apply yA;exact rfl)|apply yB|apply yC|((first|apply yD|apply yE);(first|exact yF|assumption);iterate 6 exact rfl)|((first|apply yG|apply yH|apply yI);exact rfl;(first|exact yJ|exact yK rfl rfl|exact yL rfl|exact yM rfl|exact rfl|exact aL rfl rfl rfl rfl rfl|exact aS rfl rfl rfl rfl rfl rfl rfl))|((first|apply yN|apply yO|apply yP);exact rfl)|((first|apply yQ|apply yR|apply yS);(iterate 3 exact rfl);exact isMet_ok s t f hx hs hf0 hf)|(exfalso;omega)|(((first|apply yT|apply yU|apply yV|apply yW);exact rfl;(first|exact .d|exact .e|exact .n|((fail_if_success exact bqt);(fail_if_success exact bqf);exact .b)))<;>intro _)
  exact .ret rfl (.bool rfl)
theorem SchemaOk1_ok (s : List Table) (t : Table) (hx : s.length ≤ 34359738368) (hs : ∀ u ∈ s, u.key.length ≤ 34359738368 ∧ ∀ c ∈ u.key, 0 ≤ c ∧ c < u.cols.length) (hb : bTable 34359738368 t) (hf : ∀ f ∈ t.fks, ∀ c ∈ f.cols, 0 ≤ c ∧ c < t.cols.length) : Pure Tryz.prog 257 [.agg (encTable t), .c (.fp [.fz (s.map encTable)])] (.c (.bool (t.fks.any fun f => !metF s t f))) := by
  refine Pure.run mixed c_impl_SchemaOk_1_ok (Nat.le_of_ble_eq_true rfl) fun σ hS hA => ?_
  clear hS hA
  have b6 := hb.2.2.2.2.2
  repeat' first|(apply yA;exact rfl)|apply yB|apply yC|((first|apply yD|apply yE);(first|exact yF|assumption);iterate 6 exact rfl)|((first|apply yG|apply yH|apply yI);exact rfl;(first|exact yJ|exact yK rfl rfl|exact yL rfl|exact yM rfl|exact rfl|exact aL rfl rfl rfl rfl rfl|exact aS rfl rfl rfl rfl rfl rfl rfl))|((first|apply yN|apply yO|apply yP);exact rfl)|((first|apply yQ|apply yR|apply yS);(iterate 3 exact rfl);exact containsFuncA_ok mixed c_slices_ContainsFunc_Fk_ok c_slices_IndexFunc_Fk_ok encFk (fun u => .agg (encFk u)) (fun _ => rfl) (fun _ => rfl) t.fks (fun f => !metF s t f) _ [] [.fp [.fz (s.map encTable)], .fp (encTable t)] b6.1 (fun j hj _ => SchemaOk11_ok s t _ hx hs (b6.2 _ (List.getElem_mem hj)).1 (hf _ (List.getElem_mem hj))))|(exfalso;omega)|(((first|apply yT|apply yU|apply yV|apply yW);exact rfl;(first|exact .d|exact .e|exact .n|((fail_if_success exact bqt);(fail_if_success exact bqf);exact .b)))<;>intro _)
  exact .ret rfl (.bool rfl)
theorem encTable_len {l : List Table} : ∀ e ∈ l.map encTable, e.length = 6 := fun e he => by
  obtain ⟨t, _, rfl⟩ := List.mem_map.1 he
  rfl
theorem SchemaOk_ok (s : List Table) (hx : s.length ≤ 34359738368) (hb : ∀ t ∈ s, bTable 34359738368 t) : Pure Tryz.prog 179 [.c (.fz (s.map encTable))] (.c (.bool (schemaF s))) := by
  refine Pure.run mixed c_impl_SchemaOk_ok (Nat.le_of_ble_eq_true rfl) fun σ hS hA => ?_
  clear hS hA
  repeat' first|(apply yA;exact rfl)|apply yB|apply yC|((first|apply yD|apply yE);(first|exact yF|assumption);iterate 6 exact rfl)|((first|apply yG|apply yH|apply yI);exact rfl;(first|exact yJ|exact yK rfl rfl|exact yL rfl|exact yM rfl|exact rfl|exact aL rfl rfl rfl rfl rfl|exact aS rfl rfl rfl rfl rfl rfl rfl))|((first|apply yN|apply yO|apply yP);exact rfl)|(exfalso;omega)|(((first|apply yT|apply yU|apply yV|apply yW);exact rfl;(first|exact .d|exact .e|exact .n|((fail_if_success exact bqt);(fail_if_success exact bqf);exact .b)))<;>intro _)
  · refine .ret rfl (.bool ?_)
    rw [schemaF, decide_eq_false (by omega)]
    rfl
  rename_i h5
  refine Go.keep [1, 8, 9, 10] (Go.loops (I := fun m fr τ => ∃ i : Nat, ∃ k : Int, m = s.length - i ∧ i ≤ s.length ∧ k = i ∧ namesAux [] s = namesAux (s.take i) (s.drop i) ∧
    fr = [(1, .c (.fp [.fz (s.map encTable)])), (8, .c (.fz (s.map encTable))), (9, .c (.int .i64 (s.length : Int))), (10, .c (.int .i64 k))] ∧ τ = E σ []) ?_ _ _ _ ⟨0, _, rfl, Nat.zero_le _, rfl, rfl, rfl, rfl⟩)
  rintro m fr τ ⟨i, k, rfl, hi, hk, hsl, rfl, rfl⟩ hrec
  by_cases hlt : i < s.length
  · have hd := List.drop_eq_getElem_cons hlt
    have htk : (s.map encTable).take i = (s.take i).map encTable := List.map_take.symm
    have hstep : namesAux [] s = (tableF s[i] && !((s.take i).any fun d => d.name == s[i].name) && namesAux (s.take (i + 1)) (s.drop (i + 1))) := by
      rw [hsl, hd, namesAux, List.take_succ_eq_append_getElem hlt]
    have neg : (tableF s[i] = false ∨ ((s.take i).any fun d => d.name == s[i].name) = true) → schemaF s = false := by
      rintro (h | h)
      · rw [schemaF, hstep, h]; simp
      · rw [schemaF, hstep, h]; simp
    have hany := any_idx (p := fun d : Table => d.name == s[i].name) (l := s.take i)
    repeat' first|(apply yA;exact rfl)|apply yB|apply yC|((first|apply yD|apply yE);(first|exact yF|assumption);iterate 6 exact rfl)|((first|apply yG|apply yH|apply yI);exact rfl;(first|exact yJ|exact yK rfl rfl|exact yL rfl|exact yM rfl|exact rfl|exact aL rfl rfl rfl rfl rfl|exact aS rfl rfl rfl rfl rfl rfl rfl|exact yX (enc := encTable) rfl rfl hk hlt rfl|exact aop_sliceF (n := i) rfl rfl hk (by simp;omega) encTable_len))|((first|apply yN|apply yO|apply yP);exact rfl)|((first|apply Go.pcallB|apply Go.spcallB|apply Qg.pcallB);(iterate 3 exact rfl);exact TableOk_ok s[i] (hb _ (List.getElem_mem hlt));intro _ _)|(exfalso;omega)|(((first|apply yT|apply yU|apply yV|apply yW);exact rfl;(first|exact .d|exact .e|exact .n|((fail_if_success exact bqt);(fail_if_success exact bqf);exact .b)))<;>intro _)
    · rename_i c p q
      exact .ret rfl (.bool (neg (.inl (nbT p q))).symm)
    rename_i c p q
    rw [htk]
    repeat' first|(apply yA;exact rfl)|apply yB|apply yC|((first|apply yD|apply yE);(first|exact yF|assumption);iterate 6 exact rfl)|((first|apply yG|apply yH|apply yI);exact rfl;(first|exact yJ|exact yK rfl rfl|exact yL rfl|exact yM rfl|exact rfl|exact aL rfl rfl rfl rfl rfl|exact aS rfl rfl rfl rfl rfl rfl rfl))|((first|apply yN|apply yO|apply yP);exact rfl)|((first|apply Go.pcallI|apply Go.spcallI|apply Qg.pcallI);(iterate 3 exact rfl);exact TableAt_ok (s.take i) s[i].name (by simp;omega);intro _ _)|(exfalso;omega)|(((first|apply yT|apply yU|apply yV|apply yW);exact rfl;(first|exact .d|exact .e|exact .n|((fail_if_success exact bqt);(fail_if_success exact bqf);exact .b)))<;>intro _)
    · rename_i z hz hz2
      refine .ret rfl (.bool (neg (.inr ?_)).symm)
      rw [← hany, hz]
      simpa using hz2
    · rename_i z hz hz2
      refine Go.keep [1, 8, 9, 10] (hrec _ _ _ (by omega) ⟨i + 1, _, rfl, hlt, wrap_succ hk (by omega), ?_, rfl, rfl⟩)
      rw [hstep, nbF p q, ← hany, hz, decide_eq_false (by omega)]
      rfl
  have hfin : namesAux [] s = true := by
    rw [hsl, List.drop_eq_nil_of_le (by omega)]
    rfl
  have hok := namesAux_ok hfin
  clear hrec hsl
  repeat' first|(apply yA;exact rfl)|apply yB|apply yC|((first|apply yD|apply yE);(first|exact yF|assumption);iterate 6 exact rfl)|((first|apply yG|apply yH|apply yI);exact rfl;(first|exact yJ|exact yK rfl rfl|exact yL rfl|exact yM rfl|exact rfl|exact aL rfl rfl rfl rfl rfl|exact aS rfl rfl rfl rfl rfl rfl rfl))|((first|apply yN|apply yO|apply yP);exact rfl)|((first|apply yQ|apply yR|apply yS);(iterate 3 exact rfl);exact containsFuncA_ok mixed c_slices_ContainsFunc_Table_ok c_slices_IndexFunc_Table_ok encTable (fun u => .agg (encTable u)) (fun _ => rfl) (fun _ => rfl) s (fun t => t.fks.any fun f => !metF s t f) _ [] [.fp [.fz (s.map encTable)]] hx (fun j hj _ => SchemaOk1_ok s _ hx (fun u hu => ⟨(hb u hu).2.2.1, tableF_key (hok u hu)⟩) (hb _ (List.getElem_mem hj)) (fun f hf => tableF_fk (hok _ (List.getElem_mem hj)) hf)))|(exfalso;omega)|(((first|apply yT|apply yU|apply yV|apply yW);exact rfl;(first|exact .d|exact .e|exact .n|((fail_if_success exact bqt);(fail_if_success exact bqf);exact .b)))<;>intro _)
  refine .ret rfl (.bool ?_)
  rw [schemaF, hfin, decide_eq_true (by omega)]
  rfl
end Go.Proofs.YteafjabcpmpmgaaGreat.Am

/- Schemas, as the reference sees them. -/
set_option linter.unusedVariables false
set_option linter.unusedSimpArgs false
namespace Go.Proofs.YteafjabcpmpmgaaGreat.Am

theorem schemaF_not {s : List Table} (h : schemaF s = true → False) : schemaF s = false := by
  cases c : schemaF s
  · rfl
  · exact (h c).elim
theorem schemaF_iff {s : List Table} : schemaF s = true ↔ (s.length : Int) ≤ 5 ∧ namesAux [] s = true ∧ (s.any fun t => t.fks.any fun f => !metF s t f) = false := by
  simp only [schemaF, Bool.and_eq_true, decide_eq_true_eq, Bool.not_eq_true']
theorem sSchemaOk_ok (s : List Table) (hx : s.length ≤ 34359738368) (hb : ∀ t ∈ s, bTable 34359738368 t) : Pure Tryz.prog 120 [.c (.fz (s.map encTable))] (.c (.bool (schemaF s))) := by
  refine Pure.run mixed c_spec_SchemaOk_ok (Nat.le_of_ble_eq_true rfl) fun σ hS hA => ?_
  clear hS hA
  repeat' first|(apply yA;exact rfl)|apply yB|apply yC|((first|apply yD|apply yE);(first|exact yF|assumption);iterate 6 exact rfl)|((first|apply yG|apply yH|apply yI);exact rfl;(first|exact yJ|exact yK rfl rfl|exact yL rfl|exact yM rfl|exact rfl|exact aL rfl rfl rfl rfl rfl|exact aS rfl rfl rfl rfl rfl rfl rfl))|((first|apply yN|apply yO|apply yP);exact rfl)|(exfalso;omega)|(((first|apply yT|apply yU|apply yV|apply yW);exact rfl;(first|exact .d|exact .e|exact .n|((fail_if_success exact bqt);(fail_if_success exact bqf);exact .b)))<;>intro _)
  refine Go.keep [0, 3] (Go.loops (I := fun m fr τ => ∃ i : Nat, ∃ k : Int, m = s.length - i ∧ i ≤ s.length ∧ k = i ∧ namesAux [] s = namesAux (s.take i) (s.drop i) ∧
    fr = [(0, .c (.fz (s.map encTable))), (3, .c (.int .i64 k))] ∧ τ = E σ []) ?_ _ _ _ ⟨0, _, rfl, Nat.zero_le _, rfl, rfl, rfl, rfl⟩)
  rintro m fr τ ⟨i, k, rfl, hi, hk, hsl, rfl, rfl⟩ hrec
  by_cases hlt : i < s.length
  · have hd := List.drop_eq_getElem_cons hlt
    have htk : (s.map encTable).take i = (s.take i).map encTable := List.map_take.symm
    have hstep : namesAux [] s = (tableF s[i] && !((s.take i).any fun d => d.name == s[i].name) && namesAux (s.take (i + 1)) (s.drop (i + 1))) := by
      rw [hsl, hd, namesAux, List.take_succ_eq_append_getElem hlt]
    have neg : (tableF s[i] = false ∨ ((s.take i).any fun d => d.name == s[i].name) = true) → schemaF s = false := by
      rintro (h | h)
      · rw [schemaF, hstep, h]; simp
      · rw [schemaF, hstep, h]; simp
    have hany := any_idx (p := fun d : Table => d.name == s[i].name) (l := s.take i)
    repeat' first|(apply yA;exact rfl)|apply yB|apply yC|((first|apply yD|apply yE);(first|exact yF|assumption);iterate 6 exact rfl)|((first|apply yG|apply yH|apply yI);exact rfl;(first|exact yJ|exact yK rfl rfl|exact yL rfl|exact yM rfl|exact rfl|exact aL rfl rfl rfl rfl rfl|exact aS rfl rfl rfl rfl rfl rfl rfl|exact yX (enc := encTable) rfl rfl hk hlt rfl|exact aop_sliceF (n := i) rfl rfl hk (by simp;omega) encTable_len))|((first|apply yN|apply yO|apply yP);exact rfl)|((first|apply Go.pcallB|apply Go.spcallB|apply Qg.pcallB);(iterate 3 exact rfl);exact sTableOk_ok s[i] (hb _ (List.getElem_mem hlt));intro _ _)|(exfalso;omega)|(((first|apply yT|apply yU|apply yV|apply yW);exact rfl;(first|exact .d|exact .e|exact .n|((fail_if_success exact bqt);(fail_if_success exact bqf);exact .b)))<;>intro _)
    · rename_i c p q
      exact .ret rfl (.bool (neg (.inl (nbT p q))).symm)
    rename_i c p q
    rw [htk]
    repeat' first|(apply yA;exact rfl)|apply yB|apply yC|((first|apply yD|apply yE);(first|exact yF|assumption);iterate 6 exact rfl)|((first|apply yG|apply yH|apply yI);exact rfl;(first|exact yJ|exact yK rfl rfl|exact yL rfl|exact yM rfl|exact rfl|exact aL rfl rfl rfl rfl rfl|exact aS rfl rfl rfl rfl rfl rfl rfl))|((first|apply yN|apply yO|apply yP);exact rfl)|((first|apply Go.pcallI|apply Go.spcallI|apply Qg.pcallI);(iterate 3 exact rfl);exact l3At_ok (s.take i) s[i].name (by simp;omega);intro _ _)|(exfalso;omega)|(((first|apply yT|apply yU|apply yV|apply yW);exact rfl;(first|exact .d|exact .e|exact .n|((fail_if_success exact bqt);(fail_if_success exact bqf);exact .b)))<;>intro _)
    · rename_i z hz hz2
      refine .ret rfl (.bool (neg (.inr ?_)).symm)
      rw [← hany, hz]
      simpa using hz2
    · rename_i z hz hz2
      refine Go.keep [0, 3] (hrec _ _ _ (by omega) ⟨i + 1, _, rfl, hlt, wrap_succ hk (by omega), ?_, rfl, rfl⟩)
      rw [hstep, nbF p q, ← hany, hz, decide_eq_false (by omega)]
      rfl
  have hfin : namesAux [] s = true := by
    rw [hsl, List.drop_eq_nil_of_le (by omega)]
    rfl
  have hok := namesAux_ok hfin
  clear hrec hsl
  repeat' first|(apply yA;exact rfl)|apply yB|apply yC|((first|apply yD|apply yE);(first|exact yF|assumption);iterate 6 exact rfl)|((first|apply yG|apply yH|apply yI);exact rfl;(first|exact yJ|exact yK rfl rfl|exact yL rfl|exact yM rfl|exact rfl|exact aL rfl rfl rfl rfl rfl|exact aS rfl rfl rfl rfl rfl rfl rfl))|((first|apply yN|apply yO|apply yP);exact rfl)|(exfalso;omega)|(((first|apply yT|apply yU|apply yV|apply yW);exact rfl;(first|exact .d|exact .e|exact .n|((fail_if_success exact bqt);(fail_if_success exact bqf);exact .b)))<;>intro _)
  clear hlt hk hi
  -- the references
  refine Go.keep [0, 4] (Go.loops (I := fun m fr τ => ∃ i : Nat, ∃ k : Int, m = s.length - i ∧ i ≤ s.length ∧ k = i ∧ (∀ j (hj : j < s.length), j < i → (!(s[j].fks.any fun f => !metF s s[j] f)) = true) ∧
    fr = [(0, .c (.fz (s.map encTable))), (4, .c (.int .i64 k))] ∧ τ = E σ []) ?_ _ _ _ ⟨0, _, rfl, Nat.zero_le _, rfl, fun j _ h => absurd h (by omega), rfl, rfl⟩)
  rintro m fr τ ⟨i, k, rfl, hi, hk, hall, rfl, rfl⟩ hrec
  by_cases hlt : i < s.length
  · have hmem := List.getElem_mem hlt
    have hti := hok _ hmem
    have b6 := (hb _ hmem).2.2.2.2.2
    repeat' first|(apply yA;exact rfl)|apply yB|apply yC|((first|apply yD|apply yE);(first|exact yF|assumption);iterate 6 exact rfl)|((first|apply yG|apply yH|apply yI);exact rfl;(first|exact yJ|exact yK rfl rfl|exact yL rfl|exact yM rfl|exact rfl|exact aL rfl rfl rfl rfl rfl|exact aS rfl rfl rfl rfl rfl rfl rfl))|((first|apply yN|apply yO|apply yP);exact rfl)|(exfalso;omega)|(((first|apply yT|apply yU|apply yV|apply yW);exact rfl;(first|exact .d|exact .e|exact .n|((fail_if_success exact bqt);(fail_if_success exact bqf);exact .b)))<;>intro _)
    refine Go.keep [0, 4, 5] (Go.loops (I := fun m fr τ => ∃ i2 : Nat, ∃ k2 : Int, m = s[i].fks.length - i2 ∧ i2 ≤ s[i].fks.length ∧ k2 = i2 ∧ (∀ j (hj : j < s[i].fks.length), j < i2 → metF s s[i] s[i].fks[j] = true) ∧
      fr = [(0, .c (.fz (s.map encTable))), (4, .c (.int .i64 k)), (5, .c (.int .i64 k2))] ∧ τ = E σ []) ?_ _ _ _ ⟨0, _, rfl, Nat.zero_le _, rfl, fun j _ h => absurd h (by omega), rfl, rfl⟩)
    rintro m fr τ ⟨i2, k2, rfl, hi2, hk2, hall2, rfl, rfl⟩ hrec2
    by_cases hlt2 : i2 < s[i].fks.length
    · have hfm := List.getElem_mem hlt2
      have hf := tableF_fk hti hfm
      have hf0 := (b6.2 _ hfm).1
      have neg : metF s s[i] s[i].fks[i2] = false → schemaF s = false := fun h => schemaF_not fun hh => by
        have h2 := (schemaF_iff.1 hh).2.2
        rw [List.any_eq_false] at h2
        exact h2 _ hmem (List.any_eq_true.2 ⟨_, hfm, by rw [h]; rfl⟩)
      repeat' first|(apply yA;exact rfl)|apply yB|apply yC|((first|apply yD|apply yE);(first|exact yF|assumption);iterate 6 exact rfl)|((first|apply yG|apply yH|apply yI);exact rfl;(first|exact yJ|exact yK rfl rfl|exact yL rfl|exact yM rfl|exact rfl|exact aL rfl rfl rfl rfl rfl|exact aS rfl rfl rfl rfl rfl rfl rfl|exact yX (enc := encTable) rfl rfl hk hlt rfl|exact yX (enc := encFk) rfl rfl hk2 hlt2 rfl))|((first|apply yN|apply yO|apply yP);exact rfl)|(exfalso;omega)|(((first|apply yT|apply yU|apply yV|apply yW);exact rfl;(first|exact .d|exact .e|exact .n|((fail_if_success exact bqt);(fail_if_success exact bqf);exact .b)))<;>intro _)
      refine .pcall rfl rfl rfl (l3At_ok s s[i].fks[i2].table hx) ?_
      rcases idxA_at (p := fun u : Table => u.name == s[i].fks[i2].table) (l := s) (i := 0) (Int.le_refl _) with hq | ⟨n, hn, hq, hp⟩
      · have hm := metF_no (t := s[i]) hq
        rw [hq]
        repeat' first|(apply yA;exact rfl)|apply yB|apply yC|((first|apply yD|apply yE);(first|exact yF|assumption);iterate 6 exact rfl)|((first|apply yG|apply yH|apply yI);exact rfl;(first|exact yJ|exact yK rfl rfl|exact yL rfl|exact yM rfl|exact rfl|exact aL rfl rfl rfl rfl rfl|exact aS rfl rfl rfl rfl rfl rfl rfl))|((first|apply yN|apply yO|apply yP);exact rfl)|(exfalso;omega)|(((first|apply yT|apply yU|apply yV|apply yW);exact rfl;(first|exact .d|exact .e|exact .n|((fail_if_success exact bqt);(fail_if_success exact bqf);exact .b)))<;>intro _)
        exact .ret rfl (.bool (neg hm).symm)
      rw [Int.zero_add] at hq
      have hm := metF_yes (t := s[i]) hq hn
      have hsk := tableF_key (hok _ (List.getElem_mem hn))
      rw [hq]
      have hnz : ¬ ((n : Int) < 0) := by omega
      repeat' first|(apply yA;exact rfl)|apply yB|apply yC|((first|apply yD|apply yE);(first|exact yF|assumption);iterate 6 exact rfl)|((first|apply yG|apply yH|apply yI);exact rfl;(first|exact yJ|exact yK rfl rfl|exact yL rfl|exact yM rfl|exact rfl|exact aL rfl rfl rfl rfl rfl|exact aS rfl rfl rfl rfl rfl rfl rfl|exact yX (enc := encTable) rfl rfl rfl hn rfl))|((first|apply yN|apply yO|apply yP);exact rfl)|(exfalso;omega)|(((first|apply yT|apply yU|apply yV|apply yW);exact rfl;(first|exact .d|exact .e|exact .n|((fail_if_success exact bqt);(fail_if_success exact bqf);exact .b)))<;>intro _)
      · rename_i h
        refine .ret rfl (.bool (neg ?_).symm)
        rw [hm, metAt, decide_eq_false (by omega)]
        rfl
      rename_i hlen
      refine Go.keep [0, 4, 5, 6, 7, 8] (Go.loops (I := fun m fr τ => ∃ i3 : Nat, ∃ k3 : Int, m = s[i].fks[i2].cols.length - i3 ∧ i3 ≤ s[i].fks[i2].cols.length ∧ k3 = i3 ∧ kindsEq s[n] s[i] s[n].key s[i].fks[i2].cols = kindsEq s[n] s[i] (s[n].key.drop i3) (s[i].fks[i2].cols.drop i3) ∧
        fr = [(0, .c (.fz (s.map encTable))), (4, .c (.int .i64 k)), (5, .c (.int .i64 k2)), (6, .c (.fp (encFk s[i].fks[i2]))), (7, .c (.int .i64 (n : Int))), (8, .c (.int .i64 k3))] ∧ τ = E σ []) ?_ _ _ _ ⟨0, _, rfl, Nat.zero_le _, rfl, rfl, rfl, rfl⟩)
      rintro m fr τ ⟨i3, k3, rfl, hi3, hk3, hsl, rfl, rfl⟩ hrec3
      by_cases hlt3 : i3 < s[i].fks[i2].cols.length
      · have hlt4 : i3 < s[n].key.length := by omega
        have h1 := hsk _ (List.getElem_mem hlt4)
        have h2 := hf _ (List.getElem_mem hlt3)
        obtain ⟨a, ha⟩ : ∃ a : Nat, s[n].key[i3] = a := ⟨s[n].key[i3].toNat, by omega⟩
        obtain ⟨c, hc⟩ : ∃ c : Nat, s[i].fks[i2].cols[i3] = c := ⟨s[i].fks[i2].cols[i3].toNat, by omega⟩
        have ha2 : a < s[n].cols.length := by omega
        have hc2 : c < s[i].cols.length := by omega
        have e1 := kindAt_at ha ha2
        have e2 := kindAt_at hc hc2
        have hstep : kindsEq s[n] s[i] s[n].key s[i].fks[i2].cols = (s[n].cols[a].kind == s[i].cols[c].kind && kindsEq s[n] s[i] (s[n].key.drop (i3 + 1)) (s[i].fks[i2].cols.drop (i3 + 1))) := by
          rw [hsl, List.drop_eq_getElem_cons hlt3, List.drop_eq_getElem_cons hlt4, kindsEq, e1, e2]
        repeat' first|(apply yA;exact rfl)|apply yB|apply yC|((first|apply yD|apply yE);(first|exact yF|assumption);iterate 6 exact rfl)|((first|apply yG|apply yH|apply yI);exact rfl;(first|exact yJ|exact yK rfl rfl|exact yL rfl|exact yM rfl|exact rfl|exact aL rfl rfl rfl rfl rfl|exact aS rfl rfl rfl rfl rfl rfl rfl|exact yX (enc := encTable) rfl rfl hk hlt rfl|exact yX (enc := encI) rfl rfl hk3 hlt3 rfl|exact yX (enc := encTable) rfl rfl rfl hn rfl|exact yX (enc := encI) rfl rfl hk3 hlt4 rfl|exact yX (enc := encCol) rfl rfl ha ha2 rfl|exact yX (enc := encCol) rfl rfl hc hc2 rfl))|((first|apply yN|apply yO|apply yP);exact rfl)|(exfalso;omega)|(((first|apply yT|apply yU|apply yV|apply yW);exact rfl;(first|exact .d|exact .e|exact .n|((fail_if_success exact bqt);(fail_if_success exact bqf);exact .b)))<;>intro _)
        · rename_i h
          refine .ret rfl (.bool (neg ?_).symm)
          rw [hm, metAt, hstep, beq_eq_false_iff_ne.2 fun e => h e.symm]
          simp
        · rename_i h
          refine Go.keep [0, 4, 5, 6, 7, 8] (hrec3 _ _ _ (by omega) ⟨i3 + 1, _, rfl, hlt3, wrap_succ hk3 (by omega), ?_, rfl, rfl⟩)
          rw [hstep, h]
          simp
      · have hmt : metF s s[i] s[i].fks[i2] = true := by
          rw [hm, metAt, hsl, List.drop_eq_nil_of_le (by omega), decide_eq_true (by omega)]
          cases s[n].key.drop i3 <;> rfl
        clear hrec3
        repeat' first|(apply yA;exact rfl)|apply yB|apply yC|((first|apply yD|apply yE);(first|exact yF|assumption);iterate 6 exact rfl)|((first|apply yG|apply yH|apply yI);exact rfl;(first|exact yJ|exact yK rfl rfl|exact yL rfl|exact yM rfl|exact rfl|exact aL rfl rfl rfl rfl rfl|exact aS rfl rfl rfl rfl rfl rfl rfl))|((first|apply yN|apply yO|apply yP);exact rfl)|(exfalso;omega)|(((first|apply yT|apply yU|apply yV|apply yW);exact rfl;(first|exact .d|exact .e|exact .n|((fail_if_success exact bqt);(fail_if_success exact bqf);exact .b)))<;>intro _)
        exact Go.keep [0, 4, 5] (hrec2 _ _ _ (by omega) ⟨i2 + 1, _, rfl, hlt2, wrap_succ hk2 (by omega), upto (p := fun f => metF s s[i] f) hall2 hlt2 hmt, rfl, rfl⟩)
    · have hany := any_none (p := fun f => metF s s[i] f) (l := s[i].fks) fun j hj => hall2 j hj (by omega)
      clear hrec2
      repeat' first|(apply yA;exact rfl)|apply yB|apply yC|((first|apply yD|apply yE);(first|exact yF|assumption);iterate 6 exact rfl)|((first|apply yG|apply yH|apply yI);exact rfl;(first|exact yJ|exact yK rfl rfl|exact yL rfl|exact yM rfl|exact rfl|exact aL rfl rfl rfl rfl rfl|exact aS rfl rfl rfl rfl rfl rfl rfl|exact yX (enc := encTable) rfl rfl hk hlt rfl))|((first|apply yN|apply yO|apply yP);exact rfl)|(exfalso;omega)|(((first|apply yT|apply yU|apply yV|apply yW);exact rfl;(first|exact .d|exact .e|exact .n|((fail_if_success exact bqt);(fail_if_success exact bqf);exact .b)))<;>intro _)
      exact Go.keep [0, 4] (hrec _ _ _ (by omega) ⟨i + 1, _, rfl, hlt, wrap_succ hk (by omega), upto (p := fun t : Table => !(t.fks.any fun f => !metF s t f)) hall hlt (by rw [hany]; rfl), rfl, rfl⟩)
  · have hany := any_none (p := fun t : Table => !(t.fks.any fun f => !metF s t f)) (l := s) fun j hj => hall j hj (by omega)
    clear hrec
    repeat' first|(apply yA;exact rfl)|apply yB|apply yC|((first|apply yD|apply yE);(first|exact yF|assumption);iterate 6 exact rfl)|((first|apply yG|apply yH|apply yI);exact rfl;(first|exact yJ|exact yK rfl rfl|exact yL rfl|exact yM rfl|exact rfl|exact aL rfl rfl rfl rfl rfl|exact aS rfl rfl rfl rfl rfl rfl rfl))|((first|apply yN|apply yO|apply yP);exact rfl)|(exfalso;omega)|(((first|apply yT|apply yU|apply yV|apply yW);exact rfl;(first|exact .d|exact .e|exact .n|((fail_if_success exact bqt);(fail_if_success exact bqf);exact .b)))<;>intro _)
    refine .ret rfl (.bool ?_)
    simp only [Bool.not_not] at hany
    rw [schemaF, hfin, hany]
    simp
end Go.Proofs.YteafjabcpmpmgaaGreat.Am

/- Queries: the program and its reference. -/
set_option linter.unusedVariables false
set_option linter.unusedSimpArgs false
namespace Go.Proofs.YteafjabcpmpmgaaGreat.Am

def tabAt (s : List Table) (nm : List UInt8) : Option Table := if s.any (fun u => u.name == nm) then s[(idxA (fun u => u.name == nm) s 0).toNat]? else none
theorem tabAt_no {s : List Table} {nm : List UInt8} (h : idxA (fun u => u.name == nm) s 0 = -1) : tabAt s nm = none := by
  have := any_idx (p := fun u : Table => u.name == nm) (l := s)
  rw [h] at this
  rw [tabAt, ← this]
  rfl
theorem tabAt_yes {s : List Table} {nm : List UInt8} {n : Nat} (h : idxA (fun u => u.name == nm) s 0 = n) (hn : n < s.length) : tabAt s nm = some s[n] := by
  have := any_idx (p := fun u : Table => u.name == nm) (l := s)
  rw [h] at this
  rw [tabAt, ← this, h, decide_eq_true (by omega)]
  simp [hn]
theorem schemaF_cols {s : List Table} (h : schemaF s = true) : ∀ t ∈ s, 1 ≤ t.cols.length ∧ t.cols.length ≤ 8 := fun t ht => by
  have := (tableF_iff.1 (namesAux_ok (schemaF_iff.1 h).2.1 t ht)).2.1
  simp only [isIn, Bool.and_eq_true, decide_eq_true_eq] at this
  omega
def termsF (l : List Term) (n : Int) : Bool := !(l.any fun x => !exprF x.expr n)
def whereF (e : List Tok) (n : Int) : Bool := (e.length : Int) == 0 || exprF e n
theorem areTerms1_ok (x : Term) (n : Int) (hb : bTerm 34359738368 x) (h0 : 0 ≤ n) (h1 : n ≤ 16) : Pure Tryz.prog 262 [.agg (encTerm x), .c (.fp [.int .i64 n])] (.c (.bool (!exprF x.expr n))) := by
  refine Pure.run mixed c_impl_areTerms_1_ok (Nat.le_of_ble_eq_true rfl) fun σ hS hA => ?_
  clear hS hA
  have hc := ExprOk_ok x.expr n hb.1
  rw [exprF_eq h0 h1] at hc
  repeat' first|(apply yA;exact rfl)|apply yB|apply yC|((first|apply yD|apply yE);(first|exact yF|assumption);iterate 6 exact rfl)|((first|apply yG|apply yH|apply yI);exact rfl;(first|exact yJ|exact yK rfl rfl|exact yL rfl|exact yM rfl|exact rfl|exact aL rfl rfl rfl rfl rfl|exact aS rfl rfl rfl rfl rfl rfl rfl))|((first|apply yN|apply yO|apply yP);exact rfl)|((first|apply yQ|apply yR|apply yS);(iterate 3 exact rfl);exact hc)|(exfalso;omega)|(((first|apply yT|apply yU|apply yV|apply yW);exact rfl;(first|exact .d|exact .e|exact .n|((fail_if_success exact bqt);(fail_if_success exact bqf);exact .b)))<;>intro _)
  exact .ret rfl (.bool rfl)
theorem areTerms_ok (l : List Term) (n : Int) (hx : l.length ≤ 34359738368) (hb : ∀ x ∈ l, bTerm 34359738368 x) (h0 : 0 ≤ n) (h1 : n ≤ 16) : Pure Tryz.prog 182 [.c (.fz (l.map encTerm)), .c (.int .i64 n)] (.c (.bool (termsF l n))) := by
  refine Pure.run mixed c_impl_areTerms_ok (Nat.le_of_ble_eq_true rfl) fun σ hS hA => ?_
  clear hS hA
  repeat' first|(apply yA;exact rfl)|apply yB|apply yC|((first|apply yD|apply yE);(first|exact yF|assumption);iterate 6 exact rfl)|((first|apply yG|apply yH|apply yI);exact rfl;(first|exact yJ|exact yK rfl rfl|exact yL rfl|exact yM rfl|exact rfl|exact aL rfl rfl rfl rfl rfl|exact aS rfl rfl rfl rfl rfl rfl rfl))|((first|apply yN|apply yO|apply yP);exact rfl)|((first|apply yQ|apply yR|apply yS);(iterate 3 exact rfl);exact containsFuncA_ok mixed c_slices_ContainsFunc_Term_ok c_slices_IndexFunc_Term_ok encTerm (fun u => .agg (encTerm u)) (fun _ => rfl) (fun _ => rfl) l (fun x => !exprF x.expr n) _ [] [.fp [.int .i64 n]] hx (fun j hj _ => areTerms1_ok _ _ (hb _ (List.getElem_mem hj)) h0 h1))|(exfalso;omega)|(((first|apply yT|apply yU|apply yV|apply yW);exact rfl;(first|exact .d|exact .e|exact .n|((fail_if_success exact bqt);(fail_if_success exact bqf);exact .b)))<;>intro _)
  exact .ret rfl (.bool rfl)
theorem isWhere_ok (e : List Tok) (n : Int) (hx : e.length ≤ 34359738368) (h0 : 0 ≤ n) (h1 : n ≤ 16) : Pure Tryz.prog 125 [.c (.fz (e.map encTok)), .c (.int .i64 n)] (.c (.bool (whereF e n))) := by
  refine Pure.run mixed c_impl_isWhere_ok (Nat.le_of_ble_eq_true rfl) fun σ hS hA => ?_
  clear hS hA
  have hc := ExprOk_ok e n hx
  rw [exprF_eq h0 h1] at hc
  repeat' first|(apply yA;exact rfl)|apply yB|apply yC|((first|apply yD|apply yE);(first|exact yF|assumption);iterate 6 exact rfl)|((first|apply yG|apply yH|apply yI);exact rfl;(first|exact yJ|exact yK rfl rfl|exact yL rfl|exact yM rfl|exact rfl|exact aL rfl rfl rfl rfl rfl|exact aS rfl rfl rfl rfl rfl rfl rfl))|((first|apply yN|apply yO|apply yP);exact rfl)|((first|apply Go.pcallB|apply Go.spcallB|apply Qg.pcallB);(iterate 3 exact rfl);exact hc;intro _ _)|(exfalso;omega)|(((first|apply yT|apply yU|apply yV|apply yW);exact rfl;(first|exact .d|exact .e|exact .n|((fail_if_success exact bqt);(fail_if_success exact bqf);exact .b)))<;>intro _)
  all_goals refine .ret rfl (.bool ?_)
  · rename_i h
    rw [whereF, h]
    rfl
  · rename_i h b hb
    rw [whereF, hb, beq_eq_false_iff_ne.2 h]
    rfl
end Go.Proofs.YteafjabcpmpmgaaGreat.Am

/- Statements: the program and its reference. -/
set_option linter.unusedVariables false
set_option linter.unusedSimpArgs false
namespace Go.Proofs.YteafjabcpmpmgaaGreat.Am

def fitAux (t : Table) : Nat → List Val → Bool
  | _, [] => true
  | i, v :: r => isOfF v (kindAt t i) && fitAux t (i + 1) r
def fitF (t : Table) (vals : List Val) : Bool := decide ((vals.length : Int) = t.cols.length) && fitAux t 0 vals
theorem fit_ok (t : Table) (vals : List Val) (hx : vals.length ≤ 34359738368) : Pure Tryz.prog 115 [.agg (encTable t), .c (.fz (vals.map encV))] (.c (.bool (fitF t vals))) := by
  refine Pure.run mixed c_impl_fit_ok (Nat.le_of_ble_eq_true rfl) fun σ hS hA => ?_
  clear hS hA
  repeat' first|(apply yA;exact rfl)|apply yB|apply yC|((first|apply yD|apply yE);(first|exact yF|assumption);iterate 6 exact rfl)|((first|apply yG|apply yH|apply yI);exact rfl;(first|exact yJ|exact yK rfl rfl|exact yL rfl|exact yM rfl|exact rfl|exact aL rfl rfl rfl rfl rfl|exact aS rfl rfl rfl rfl rfl rfl rfl))|((first|apply yN|apply yO|apply yP);exact rfl)|(exfalso;omega)|(((first|apply yT|apply yU|apply yV|apply yW);exact rfl;(first|exact .d|exact .e|exact .n|((fail_if_success exact bqt);(fail_if_success exact bqf);exact .b)))<;>intro _)
  · rename_i h
    refine .ret rfl (.bool ?_)
    rw [fitF, decide_eq_false h]
    rfl
  rename_i hlen
  have hlen : (vals.length : Int) = t.cols.length := by omega
  refine Go.keep [2, 13, 14, 15] (Go.loops (I := fun m fr τ => ∃ i : Nat, ∃ k : Int, m = vals.length - i ∧ i ≤ vals.length ∧ k = i ∧ fitAux t 0 vals = fitAux t i (vals.drop i) ∧
    fr = [(2, .c (.fp (encTable t))), (13, .c (.fz (vals.map encV))), (14, .c (.int .i64 (vals.length : Int))), (15, .c (.int .i64 k))] ∧ τ = E σ []) ?_ _ _ _ ⟨0, _, rfl, Nat.zero_le _, rfl, rfl, rfl, rfl⟩)
  rintro m fr τ ⟨i, k, rfl, hi, hk, hsl, rfl, rfl⟩ hrec
  by_cases hlt : i < vals.length
  · have hd := List.drop_eq_getElem_cons hlt
    have hlc : i < t.cols.length := by omega
    have hka : kindAt t i = t.cols[i].kind := kindAt_at rfl hlc
    rw [hd, fitAux, hka] at hsl
    repeat' first|(apply yA;exact rfl)|apply yB|apply yC|((first|apply yD|apply yE);(first|exact yF|assumption);iterate 6 exact rfl)|((first|apply yG|apply yH|apply yI);exact rfl;(first|exact yJ|exact yK rfl rfl|exact yL rfl|exact yM rfl|exact rfl|exact aL rfl rfl rfl rfl rfl|exact aS rfl rfl rfl rfl rfl rfl rfl|exact yX (enc := encV) rfl rfl hk hlt rfl|exact yX (enc := encCol) rfl rfl hk hlc rfl))|((first|apply yN|apply yO|apply yP);exact rfl)|((first|apply Go.pcallB|apply Go.spcallB|apply Qg.pcallB);(iterate 3 exact rfl);exact isOf_ok vals[i] t.cols[i].kind;intro _ _)|(exfalso;omega)|(((first|apply yT|apply yU|apply yV|apply yW);exact rfl;(first|exact .d|exact .e|exact .n|((fail_if_success exact bqt);(fail_if_success exact bqf);exact .b)))<;>intro _)
    · rename_i b p k4
      refine .ret rfl (.bool ?_)
      rw [fitF, hsl, nbT p k4]
      simp
    · rename_i b p k4
      refine Go.keep [2, 13, 14, 15] (hrec _ _ _ (by omega) ⟨i + 1, _, rfl, hlt, wrap_succ hk (by omega), ?_, rfl, rfl⟩)
      rw [hsl, nbF p k4]
      rfl
  · repeat' first|(apply yA;exact rfl)|apply yB|apply yC|((first|apply yD|apply yE);(first|exact yF|assumption);iterate 6 exact rfl)|((first|apply yG|apply yH|apply yI);exact rfl;(first|exact yJ|exact yK rfl rfl|exact yL rfl|exact yM rfl|exact rfl|exact aL rfl rfl rfl rfl rfl|exact aS rfl rfl rfl rfl rfl rfl rfl))|((first|apply yN|apply yO|apply yP);exact rfl)|(exfalso;omega)|(((first|apply yT|apply yU|apply yV|apply yW);exact rfl;(first|exact .d|exact .e|exact .n|((fail_if_success exact bqt);(fail_if_success exact bqf);exact .b)))<;>intro _)
    refine .ret rfl (.bool ?_)
    rw [fitF, hsl, List.drop_eq_nil_of_le (by omega), decide_eq_true hlen]
    rfl
theorem l4Kinds_ok (t : Table) (vals : List Val) (hx : vals.length ≤ 34359738368) : Pure Tryz.prog 210 [.agg (encTable t), .c (.fz (vals.map encV))] (.c (.bool (fitF t vals))) := by
  refine Pure.run mixed c_spec_l4Kinds_ok (Nat.le_of_ble_eq_true rfl) fun σ hS hA => ?_
  clear hS hA
  repeat' first|(apply yA;exact rfl)|apply yB|apply yC|((first|apply yD|apply yE);(first|exact yF|assumption);iterate 6 exact rfl)|((first|apply yG|apply yH|apply yI);exact rfl;(first|exact yJ|exact yK rfl rfl|exact yL rfl|exact yM rfl|exact rfl|exact aL rfl rfl rfl rfl rfl|exact aS rfl rfl rfl rfl rfl rfl rfl))|((first|apply yN|apply yO|apply yP);exact rfl)|(exfalso;omega)|(((first|apply yT|apply yU|apply yV|apply yW);exact rfl;(first|exact .d|exact .e|exact .n|((fail_if_success exact bqt);(fail_if_success exact bqf);exact .b)))<;>intro _)
  · rename_i h
    refine .ret rfl (.bool ?_)
    rw [fitF, decide_eq_false h]
    rfl
  rename_i hlen
  have hlen : (vals.length : Int) = t.cols.length := by omega
  refine Go.keep [1, 2, 5] (Go.loops (I := fun m fr τ => ∃ i : Nat, ∃ k : Int, m = vals.length - i ∧ i ≤ vals.length ∧ k = i ∧ fitAux t 0 vals = fitAux t i (vals.drop i) ∧
    fr = [(1, .c (.fz (vals.map encV))), (2, .c (.fp (encTable t))), (5, .c (.int .i64 k))] ∧ τ = E σ []) ?_ _ _ _ ⟨0, _, rfl, Nat.zero_le _, rfl, rfl, rfl, rfl⟩)
  rintro m fr τ ⟨i, k, rfl, hi, hk, hsl, rfl, rfl⟩ hrec
  by_cases hlt : i < vals.length
  · have hd := List.drop_eq_getElem_cons hlt
    have hlc : i < t.cols.length := by omega
    have hka : kindAt t i = t.cols[i].kind := kindAt_at rfl hlc
    rw [hd, fitAux, hka] at hsl
    repeat' first|(apply yA;exact rfl)|apply yB|apply yC|((first|apply yD|apply yE);(first|exact yF|assumption);iterate 6 exact rfl)|((first|apply yG|apply yH|apply yI);exact rfl;(first|exact yJ|exact yK rfl rfl|exact yL rfl|exact yM rfl|exact rfl|exact aL rfl rfl rfl rfl rfl|exact aS rfl rfl rfl rfl rfl rfl rfl|exact yX (enc := encV) rfl rfl hk hlt rfl|exact yX (enc := encCol) rfl rfl hk hlc rfl))|((first|apply yN|apply yO|apply yP);exact rfl)|((first|apply Go.pcallB|apply Go.spcallB|apply Qg.pcallB);(iterate 3 exact rfl);exact sValOk_ok vals[i];intro _ _)|(exfalso;omega)|(((first|apply yT|apply yU|apply yV|apply yW);exact rfl;(first|exact .d|exact .e|exact .n|((fail_if_success exact bqt);(fail_if_success exact bqf);exact .b)))<;>intro _)
    all_goals first
      | (refine .ret rfl (.bool ?_); rw [fitF, hsl, isOfF]; clear hrec hsl; simp_all; done)
      | (refine Go.keep [1, 2, 5] (hrec _ _ _ (by omega) ⟨i + 1, _, rfl, hlt, wrap_succ hk (by omega), ?_, rfl, rfl⟩); rw [hsl, isOfF]; clear hrec hsl; simp_all; done)
  · repeat' first|(apply yA;exact rfl)|apply yB|apply yC|((first|apply yD|apply yE);(first|exact yF|assumption);iterate 6 exact rfl)|((first|apply yG|apply yH|apply yI);exact rfl;(first|exact yJ|exact yK rfl rfl|exact yL rfl|exact yM rfl|exact rfl|exact aL rfl rfl rfl rfl rfl|exact aS rfl rfl rfl rfl rfl rfl rfl))|((first|apply yN|apply yO|apply yP);exact rfl)|(exfalso;omega)|(((first|apply yT|apply yU|apply yV|apply yW);exact rfl;(first|exact .d|exact .e|exact .n|((fail_if_success exact bqt);(fail_if_success exact bqf);exact .b)))<;>intro _)
    refine .ret rfl (.bool ?_)
    rw [fitF, hsl, List.drop_eq_nil_of_le (by omega), decide_eq_true hlen]
    rfl
end Go.Proofs.YteafjabcpmpmgaaGreat.Am

/- The laws' helpers on types, printed by a program: Data, Line, Save, Session. -/
set_option linter.unusedVariables false
set_option linter.unusedSimpArgs false
namespace Go.Proofs.YteafjabcpmpmgaaGreat.Am
end Go.Proofs.YteafjabcpmpmgaaGreat.Am

/- Databases: which are right, by the program and its reference. -/
set_option linter.unusedVariables false
set_option linter.unusedSimpArgs false
namespace Go.Proofs.YteafjabcpmpmgaaGreat.Am

theorem isTable_ok (s : List Table) (n : Int) (hx : s.length ≤ 34359738368) : Pure Tryz.prog 114 [.c (.fz (s.map encTable)), .c (.int .i64 n)] (.c (.bool (isIn n 0 (s.length - 1)))) := by
  refine Pure.run mixed c_impl_isTable_ok (Nat.le_of_ble_eq_true rfl) fun σ hS hA => ?_
  clear hS hA
  repeat' first|(apply yA;exact rfl)|apply yB|apply yC|((first|apply yD|apply yE);(first|exact yF|assumption);iterate 6 exact rfl)|((first|apply yG|apply yH|apply yI);exact rfl;(first|exact yJ|exact yK rfl rfl|exact yL rfl|exact yM rfl|exact rfl|exact aL rfl rfl rfl rfl rfl|exact aS rfl rfl rfl rfl rfl rfl rfl))|((first|apply yN|apply yO|apply yP);exact rfl)|((first|apply yQ|apply yR|apply yS);(iterate 3 exact rfl);exact in_ok _ _ _)|(exfalso;omega)|(((first|apply yT|apply yU|apply yV|apply yW);exact rfl;(first|exact .d|exact .e|exact .n|((fail_if_success exact bqt);(fail_if_success exact bqf);exact .b)))<;>intro _)
  refine .ret rfl (.bool ?_)
  rw [wrap64 (by omega) (by omega)]
theorem fitAux_ok {t : Table} : ∀ {l : List Val} {i : Nat}, fitAux t i l = true → ∀ v ∈ l, okVal v = true
  | [], _, _, v, hv => by simp at hv
  | a :: l, i, h, v, hv => by
    simp only [fitAux, isOfF, Bool.and_eq_true] at h
    rcases List.mem_cons.1 hv with rfl | hv
    · exact h.1.1
    · exact fitAux_ok h.2 v hv
theorem fitF_vals {t : Table} {l : List Val} (h : fitF t l = true) : l.length = t.cols.length ∧ ∀ v ∈ l, okVal v = true := by
  simp only [fitF, Bool.and_eq_true, decide_eq_true_eq] at h
  exact ⟨by omega, fitAux_ok h.2⟩
end Go.Proofs.YteafjabcpmpmgaaGreat.Am

/- Marks by fields, and how many marks a value takes. -/
set_option linter.unusedVariables false
set_option linter.unusedSimpArgs false
namespace Go.Proofs.YteafjabcpmpmgaaGreat.Am

/-- One cell of one element is written. -/
theorem Has.wr {σ : Store} {S : Nat → Prop} {zs : List (List Ce)} {e : List Ce} {id v n c i j : Nat} (h : Has σ S (.fz (zs.set i e)) (.sl id v 0 n c)) (hi : i < zs.length) (hj : j < e.length) :
    ∃ (es : List (List Ce)) (e' : List Ce), σ.get id = some (v, es) ∧ es[0 + i]? = some e' ∧ e'.length = e.length ∧ S id ∧
      ∀ z, Flat z → Has (σ.put id (v, es.set (0 + i) (splice e' (0 + j) [z]))) S (.fz (zs.set i (e.set j z))) (.sl id v 0 n c) ∧
        (∀ a, ¬ S a → (σ.put id (v, es.set (0 + i) (splice e' (0 + j) [z]))).get a = σ.get a) ∧ (σ.put id (v, es.set (0 + i) (splice e' (0 + j) [z]))).next = σ.next := by
  have hi' : i < (zs.set i e).length := by simpa using hi
  have hii : (zs.set i e)[i] = e := by simp
  obtain ⟨id1, v1, c1, es, e', hx, hg, he, hel, hS, hw⟩ := h.write (i := i) (j := j) hi' (by rw [hii]; exact hj)
  obtain ⟨rfl, rfl, -⟩ := sl_inj hx
  refine ⟨es, e', hg, he, by rw [hel, hii], hS, fun z hz => ⟨?_, fun a ha => put_off hS a ha, rfl⟩⟩
  have := hw z hz
  rw [List.set_set, hii] at this
  exact this
end Go.Proofs.YteafjabcpmpmgaaGreat.Am

/- The laws' helpers on types, printed by a program: Tok, Check, Unique, Fk, Col. -/
set_option linter.unusedVariables false
set_option linter.unusedSimpArgs false
namespace Go.Proofs.YteafjabcpmpmgaaGreat.Am
end Go.Proofs.YteafjabcpmpmgaaGreat.Am

/- The laws' helpers on types, printed by a program: Row, Data, Line. -/
set_option linter.unusedVariables false
set_option linter.unusedSimpArgs false
namespace Go.Proofs.YteafjabcpmpmgaaGreat.Am
end Go.Proofs.YteafjabcpmpmgaaGreat.Am

/- The laws' helpers on types, printed by a program: Table, Term, Trigger. -/
set_option linter.unusedVariables false
set_option linter.unusedSimpArgs false
namespace Go.Proofs.YteafjabcpmpmgaaGreat.Am
end Go.Proofs.YteafjabcpmpmgaaGreat.Am

/- What the laws with marks have in common. -/
set_option linter.unusedVariables false
set_option linter.unusedSimpArgs false
namespace Go.Proofs.YteafjabcpmpmgaaGreat.Am

theorem New.openC {σ τ : Store} {y : Ce} {r : AV} (h : New σ y r τ) : ∃ x, r = .c x ∧ Gr σ τ ∧ Has τ (fun a => σ.next ≤ a ∧ a < τ.next) y x := by
  obtain ⟨x, l, rfl, rfl, ht, hh⟩ := h
  exact ⟨x, rfl, ⟨l, rfl, ht⟩, hh⟩
theorem NewL.openC {σ τ : Store} {ys : List Ce} {r : AV} (h : NewL σ ys r τ) : ∃ xs, r = .agg xs ∧ Gr σ τ ∧ HasL τ (fun a => σ.next ≤ a ∧ a < τ.next) ys xs := by
  obtain ⟨x, l, rfl, rfl, ht, hh⟩ := h
  exact ⟨x, rfl, ⟨l, rfl, ht⟩, hh⟩
theorem new1_open {σ τ : Store} {y : Ce} {r : AV} (h : NewV σ (.c y) r τ) : ∃ x, r = .c x ∧ Gr σ τ ∧ Has τ (fun a => σ.next ≤ a ∧ a < τ.next) y x := h.n.openC
theorem newNil {σ τ : Store} (g : Gr σ τ) : NewV σ (.c (.fz [])) (.c .nils) τ := ⟨g, .c .nil⟩
theorem newVec {σ : Store} {v : Nat} {s : Nat} {ys junk : List (List Ce)} (hy : ∀ e ∈ ys, e.length = s ∧ ∀ x ∈ e, Flat x) (hj : Jk s junk) : NewV σ (.c (.fz ys)) (.c (vec (σ.next + 0) v ys junk)) (E σ [(v, ys ++ junk)]) :=
  (Made.new hy (r := .c (vec (σ.next + 0) v ys junk)) ⟨v, junk, hj, rfl, rfl⟩).v
end Go.Proofs.YteafjabcpmpmgaaGreat.Am

/- Rows that match: the program and its reference. -/
set_option linter.unusedVariables false
set_option linter.unusedSimpArgs false
namespace Go.Proofs.YteafjabcpmpmgaaGreat.Am

theorem flatIs {xs : List Int} : ∀ e ∈ xs.map encI, e.length = 1 ∧ ∀ x ∈ e, Flat x := flatI xs
theorem isIn_at {n m : Int} (h : isIn n 0 (m - 1) = true) : 0 ≤ n ∧ n < m := by
  simp only [isIn, Bool.and_eq_true, decide_eq_true_eq] at h
  omega
theorem whereF_some {w : List Tok} {n : Int} (h : whereF w n = true) (h0 : 0 < w.length) : exprF w n = true := by
  rw [whereF, beq_eq_false_iff_ne.2 (by omega), Bool.false_or] at h
  exact h
end Go.Proofs.YteafjabcpmpmgaaGreat.Am

/- Keys of rows; rows that have a key. -/
set_option linter.unusedVariables false
set_option linter.unusedSimpArgs false
namespace Go.Proofs.YteafjabcpmpmgaaGreat.Am

end Go.Proofs.YteafjabcpmpmgaaGreat.Am

/- Rows that have a key. -/
set_option linter.unusedVariables false
set_option linter.unusedSimpArgs false
namespace Go.Proofs.YteafjabcpmpmgaaGreat.Am

end Go.Proofs.YteafjabcpmpmgaaGreat.Am

/- Rows' nulls and checks. -/
set_option linter.unusedVariables false
set_option linter.unusedSimpArgs false
namespace Go.Proofs.YteafjabcpmpmgaaGreat.Am

end Go.Proofs.YteafjabcpmpmgaaGreat.Am

/- Rivals: rows with the same key. -/
set_option linter.unusedVariables false
set_option linter.unusedSimpArgs false
namespace Go.Proofs.YteafjabcpmpmgaaGreat.Am

theorem frz_old {σ : Store} {l : List (Nat × List (List Ce))} {k v N : Nat} {ys junk : List (List Ce)} (hl : l[k]? = some (v, ys ++ junk)) (ho : ∀ e ∈ ys, ∀ x ∈ e, Old N x) (hN : N ≤ σ.next + k) : FrzV (E σ l) N (.c (vec (σ.next + k) v ys junk)) (.c (.fz ys)) := by
  refine .c (.sl _ _ _ _ _ (ys ++ junk) ys hN (by rw [E_at]; exact hl) (by simp) rfl (fun i hi => ?_) (fun i j hi hj => ?_))
  · simp only [Nat.zero_add]
    rw [List.getElem_append_left hi]
  · have e : (ys ++ junk)[0 + i]'(by simp; omega) = ys[i] := by
      simp only [Nat.zero_add]
      rw [List.getElem_append_left hi]
    simp only [e]
    exact .same _ (ho _ (List.getElem_mem _) _ (List.getElem_mem hj))
end Go.Proofs.YteafjabcpmpmgaaGreat.Am

/- References that lead nowhere. -/
set_option linter.unusedVariables false
set_option linter.unusedSimpArgs false
namespace Go.Proofs.YteafjabcpmpmgaaGreat.Am

end Go.Proofs.YteafjabcpmpmgaaGreat.Am

/- Flaws: what is true of the rows of a database. -/
set_option linter.unusedVariables false
set_option linter.unusedSimpArgs false
namespace Go.Proofs.YteafjabcpmpmgaaGreat.Am

end Go.Proofs.YteafjabcpmpmgaaGreat.Am

/- Joined lines: rooms made, slices joined. -/
set_option linter.unusedVariables false
set_option linter.unusedSimpArgs false
namespace Go.Proofs.YteafjabcpmpmgaaGreat.Am

end Go.Proofs.YteafjabcpmpmgaaGreat.Am

/- Entries: copies of many, marks that are held. -/
set_option linter.unusedVariables false
set_option linter.unusedSimpArgs false
namespace Go.Proofs.YteafjabcpmpmgaaGreat.Am

end Go.Proofs.YteafjabcpmpmgaaGreat.Am

/- Joined lines: the walk of both packages' loops. -/
set_option linter.unusedVariables false
set_option linter.unusedSimpArgs false
namespace Go.Proofs.YteafjabcpmpmgaaGreat.Am

end Go.Proofs.YteafjabcpmpmgaaGreat.Am

/- Joined lines: the reference's; what the results are like; marks held. -/
set_option linter.unusedVariables false
set_option linter.unusedSimpArgs false
namespace Go.Proofs.YteafjabcpmpmgaaGreat.Am

end Go.Proofs.YteafjabcpmpmgaaGreat.Am

/- Queries: the order of rows. -/
set_option linter.unusedVariables false
set_option linter.unusedSimpArgs false
namespace Go.Proofs.YteafjabcpmpmgaaGreat.Am

end Go.Proofs.YteafjabcpmpmgaaGreat.Am

/- Queries: the reference's order of rows. -/
set_option linter.unusedVariables false
set_option linter.unusedSimpArgs false
namespace Go.Proofs.YteafjabcpmpmgaaGreat.Am

end Go.Proofs.YteafjabcpmpmgaaGreat.Am

/- The order of entries; an index without one of its entries. Plain laws. -/
set_option linter.unusedVariables false
set_option linter.unusedSimpArgs false
namespace Go.Proofs.YteafjabcpmpmgaaGreat.Am

/-- An index without an entry. -/
def without (l : List Entry) (e : Entry) : List Entry := l.filter fun x => !(x == e)
end Go.Proofs.YteafjabcpmpmgaaGreat.Am

/- Sorting in place, once for all element types: swaps, rotations. -/
set_option linter.unusedVariables false
set_option linter.unusedSimpArgs false
namespace Go.Proofs.YteafjabcpmpmgaaGreat.Am

/-- The store whose block id holds a list's elements. -/
structure Fam (α : Type) where
  σ : Store
  id : Nat
  v : Nat
  ce : α → List Ce
  junk : List (List Ce)
  two : ∀ x, (ce x).length = 2
def Fam.S {α : Type} (F : Fam α) (l : List α) : Store := F.σ.put F.id (F.v, l.map F.ce ++ F.junk)
section
variable {α : Type} {F : Fam α}
theorem Fam.get (l : List α) : (F.S l).get F.id = some (F.v, l.map F.ce ++ F.junk) := if_pos rfl
theorem Fam.put (l l' : List α) : (F.S l).put F.id (F.v, l'.map F.ce ++ F.junk) = F.S l' := by
  simp only [Fam.S, Store.put]
  congr 1
  funext a
  split <;> rfl
end
def sw {α : Type} (l : List α) (i j : Nat) : List α := match l[i]?, l[j]? with
  | some x, some y => (l.set i y).set j x
  | _, _ => l
end Go.Proofs.YteafjabcpmpmgaaGreat.Am

/- Sorting in place: rotations, insertion. -/
set_option linter.unusedVariables false
set_option linter.unusedSimpArgs false
namespace Go.Proofs.YteafjabcpmpmgaaGreat.Am

/-! ### Insertion -/
def ltA {α : Type} (c : α → α → Int) (l : List α) (i j : Nat) : Bool := match l[i]?, l[j]? with
  | some x, some y => decide (c x y < 0)
  | _, _ => false
def insIn {α : Type} (c : α → α → Int) (a : Nat) : Nat → List α → List α
  | 0, l => l
  | j + 1, l => if a < j + 1 ∧ ltA c l (j + 1) j = true then insIn c a j (sw l (j + 1) j) else l
def insOut {α : Type} (c : α → α → Int) (a : Nat) : Nat → Nat → List α → List α
  | 0, _, l => l
  | n + 1, i, l => insOut c a n (i + 1) (insIn c a i l)
def insF {α : Type} (c : α → α → Int) (a b : Nat) (l : List α) : List α := insOut c a (b - (a + 1)) (a + 1) l
end Go.Proofs.YteafjabcpmpmgaaGreat.Am

/- Sorting in place: merging. Plain part, and the three searches. -/
set_option linter.unusedVariables false
set_option linter.unusedSimpArgs false
namespace Go.Proofs.YteafjabcpmpmgaaGreat.Am

def bs (p : Nat → Bool) : Nat → Nat → Nat → Nat
  | 0, i, _ => i
  | n + 1, i, j => if i < j then (if p ((i + j) / 2) then bs p n ((i + j) / 2 + 1) j else bs p n i ((i + j) / 2)) else i
end Go.Proofs.YteafjabcpmpmgaaGreat.Am

/- Sorting in place: merging, one element against many. -/
set_option linter.unusedVariables false
set_option linter.unusedSimpArgs false
namespace Go.Proofs.YteafjabcpmpmgaaGreat.Am

end Go.Proofs.YteafjabcpmpmgaaGreat.Am

/- Sorting in place: merging, many against many; the whole sort. -/
set_option linter.unusedVariables false
set_option linter.unusedSimpArgs false
namespace Go.Proofs.YteafjabcpmpmgaaGreat.Am

end Go.Proofs.YteafjabcpmpmgaaGreat.Am

/- Sorting in place: the whole stable sort. -/
set_option linter.unusedVariables false
set_option linter.unusedSimpArgs false
namespace Go.Proofs.YteafjabcpmpmgaaGreat.Am

def blk {α : Type} (c : α → α → Int) (n : Nat) : Nat → Nat → List α → List α
  | 0, _, l => l
  | k + 1, a, l => if a + 20 ≤ n then blk c n k (a + 20) (insF c a (a + 20) l) else insF c a n l
end Go.Proofs.YteafjabcpmpmgaaGreat.Am

/- The stable sort's plain law: swaps, rotations, shifts. -/
set_option linter.unusedVariables false
set_option linter.unusedSimpArgs false
namespace Go.Proofs.YteafjabcpmpmgaaGreat.Am

end Go.Proofs.YteafjabcpmpmgaaGreat.Am

/- The stable sort's plain law: merging. -/
set_option linter.unusedVariables false
set_option linter.unusedSimpArgs false
namespace Go.Proofs.YteafjabcpmpmgaaGreat.Am

section
variable {α : Type} {c : α → α → Int} {R : α → α → Prop}
end
end Go.Proofs.YteafjabcpmpmgaaGreat.Am

/- The stable sort's plain law: merging, whole. -/
set_option linter.unusedVariables false
set_option linter.unusedSimpArgs false
namespace Go.Proofs.YteafjabcpmpmgaaGreat.Am

section
variable {α : Type} {c : α → α → Int} {R : α → α → Prop}
end
end Go.Proofs.YteafjabcpmpmgaaGreat.Am

/- The stable sort's plain law, whole. -/
set_option linter.unusedVariables false
set_option linter.unusedSimpArgs false
namespace Go.Proofs.YteafjabcpmpmgaaGreat.Am

section
variable {α : Type} {c : α → α → Int} {R : α → α → Prop}
end
end Go.Proofs.YteafjabcpmpmgaaGreat.Am

/- Queries: rows that match, sorted. Plain laws. -/
set_option linter.unusedVariables false
set_option linter.unusedSimpArgs false
namespace Go.Proofs.YteafjabcpmpmgaaGreat.Am

/-! ### the order -/
/-! ### the reference inserts one by one -/
/-! ### the lines that are told -/
end Go.Proofs.YteafjabcpmpmgaaGreat.Am

/- A row put in by the reference: parts. -/
set_option linter.unusedVariables false
set_option linter.unusedSimpArgs false
namespace Go.Proofs.YteafjabcpmpmgaaGreat.Am

end Go.Proofs.YteafjabcpmpmgaaGreat.Am

/- A row put in by the reference: whole, told by existence. -/
set_option linter.unusedVariables false
set_option linter.unusedSimpArgs false
namespace Go.Proofs.YteafjabcpmpmgaaGreat.Am

/-! ### what stays right -/
end Go.Proofs.YteafjabcpmpmgaaGreat.Am

/- The reader that draws: databases and places. -/
set_option linter.unusedVariables false
set_option linter.unusedSimpArgs false
namespace Go.Proofs.YteafjabcpmpmgaaGreat.Am

/-- A frozen row of values. -/
def Vals3 (N : Nat) (r : AV) : Prop := ∃ vs : List Val, vs.length = N ∧ (∀ w ∈ vs, bV 12 w) ∧ r = .c (.fz (vs.map encV))
theorem fit_rd (t : Table) (hN : t.cols.length ≤ 60) : Draws Tryz.prog 111 [.agg (encTable t)] (Vals3 t.cols.length) :=
  ⟨fun σ id v code p hr => Draws.ends hr ((fit_own t hN σ id v code p hr).mono (by
    rintro r τ ⟨q, vs, u, junk, hq, hl, hb, hj, rfl, rfl⟩
    exact .f hq ⟨vs, hl, hb, rfl⟩ (frz_drop (n := 0) (k := 0) rfl flats (Nat.zero_le _) (Nat.le_refl _))))⟩
theorem oldTables {n : Nat} (l : List Table) : OldL n (l.map encTable) := fun e he c hc => by
  obtain ⟨a, _, rfl⟩ := List.mem_map.1 he
  simp only [encTable, List.mem_cons, List.not_mem_nil, or_false] at hc
  rcases hc with rfl | rfl | rfl | rfl | rfl | rfl
  · exact .str _
  · exact old_fz1 (oldCols _)
  · exact old_fz1 (oldInts _)
  · exact old_fz1 (oldUniqs _)
  · exact old_fz1 (oldChks _)
  · exact old_fz1 (oldFks _)
theorem SmallT.b34 {t : Table} (h : SmallT t) : bTable 34359738368 t := by
  obtain ⟨⟨b1, ⟨b2, b3⟩, b4, ⟨b5, b6⟩, ⟨b7, b8⟩, b9, b10⟩, _, _⟩ := h
  have k : ∀ {n : Nat}, n ≤ 12 → n ≤ 34359738368 := fun h => by omega
  refine ⟨k b1, ⟨k b2, fun x hx => ?_⟩, k b4, ⟨k b5, fun x hx => k (b6 x hx)⟩, ⟨k b7, fun x hx => ?_⟩, k b9, fun x hx => ⟨k (b10 x hx).1, k (b10 x hx).2⟩⟩
  · exact ⟨k (b3 x hx).1, k (b3 x hx).2⟩
  · exact ⟨k (b8 x hx).1, fun t ht => k ((b8 x hx).2 t ht)⟩
theorem SchD.b {s : List Table} (h : SchD s) : s.length ≤ 34359738368 ∧ ∀ t ∈ s, bTable 34359738368 t := ⟨by have := h.2.1; omega, fun t ht => (h.2.2 t ht).b34⟩
theorem below_pos {n : Nat} (h : 0 < n) {r : AV} (hr : BelowR (n : Int) r) : ∃ k : Nat, k < n ∧ r = .c (.int .i64 (k : Int)) := by
  obtain ⟨k, h0, h1, rfl⟩ := hr
  refine ⟨k.toNat, by omega, by rw [Int.toNat_of_nonneg h0]⟩
end Go.Proofs.YteafjabcpmpmgaaGreat.Am

/- Drawn arguments: of Matching, of JoinOn. -/
set_option linter.unusedVariables false
set_option linter.unusedSimpArgs false
namespace Go.Proofs.YteafjabcpmpmgaaGreat.Am

theorem l1Open_ok (code : List UInt8) (σ : Store) : Ok Tryz.prog 107 [.c (.fz (code.map encB))] σ (fun r τ => r = .c (.ptr (σ.next + 0) 0 0 0) ∧ τ = E σ [(0, rdB code 0)]) := by
  refine Ok.run mixed c_spec_l1Open_ok (Nat.le_of_ble_eq_true rfl) fun hS hA => ?_
  clear hS hA
  repeat' first|(apply yA;exact rfl)|apply yB|apply yC|((first|apply yD|apply yE);(first|exact yF|assumption);iterate 6 exact rfl)|((first|apply yG|apply yH|apply yI);exact rfl;(first|exact yJ|exact yK rfl rfl|exact yL rfl|exact yM rfl|exact rfl|exact aL rfl rfl rfl rfl rfl|exact aS rfl rfl rfl rfl rfl rfl rfl))|((first|apply yN|apply yO|apply yP);exact rfl)|(exfalso;omega)|(((first|apply yT|apply yU|apply yV|apply yW);exact rfl;(first|exact .d|exact .e|exact .n|((fail_if_success exact bqt);(fail_if_success exact bqf);exact .b)))<;>intro _)
  exact .ret rfl ⟨rfl, rfl⟩
/-- The reader that was opened. -/
theorem rd_open {σ : Store} {code : List UInt8} (hc : code.length ≤ 1048576) : Rd (E σ [(0, rdB code 0)]) (σ.next + 0) 0 code 0 := ⟨E_get (k := 0) rfl, by rw [E_next]; simp, Nat.zero_le _, hc⟩
theorem rd_opened {σ : Store} {code : List UInt8} (hc : code.length ≤ 1048576) : E σ [(0, rdB code 0)] = E (Rd.go (E σ [(0, rdB code 0)]) (σ.next + 0) 0 code 0) [] := by
  rw [(rd_open (σ := σ) hc).same, E_E, List.append_nil]
theorem rd_close {σ : Store} {code : List UInt8} {q : Nat} : E (Rd.go (E σ [(0, rdB code 0)]) (σ.next + 0) 0 code q) [] = E σ [(0, rdB code q)] := by
  have : Rd.go (E σ [(0, rdB code 0)]) (σ.next + 0) 0 code q = E σ [(0, rdB code q)] := E_put (by simp)
  rw [this, E_E, List.append_nil]
end Go.Proofs.YteafjabcpmpmgaaGreat.Am

/- A slice that begins as nil; terms. -/
set_option linter.unusedVariables false
set_option linter.unusedSimpArgs false
namespace Go.Proofs.YteafjabcpmpmgaaGreat.Am

theorem aop_appNil {fr : Fr} {σ : Store} {l : List (Nat × List (List Ce))} {s bytes : Nat} {x y : Opd} {zs : List (List Ce)} (hx : x.ev fr = some (.c .nils)) (hy : y.ev fr = some (.c (.fz zs))) (hzs : ∀ e ∈ zs, e.length = s) (hb : zs.length * bytes ≤ 140737488355328) :
    aop (.app s bytes x y) fr (E σ l) = some (.c (vec (σ.next + l.length) 0 zs []), E σ (l ++ [(0, zs ++ [])])) := by
  have h : appA (E σ l) s bytes .nils zs = some (.sl (E σ l).next 0 0 zs.length zs.length, (E σ l).new (0, zs)) := by
    unfold appA
    rw [if_pos hzs]
    exact if_pos hb
  simp only [aop, hx, hy, Store.els, Option.bind_some, h, Option.map_some, E_new, E_next, vec, List.append_nil, List.length_nil, Nat.add_zero]
theorem oldTerms {n : Nat} (l : List Term) : OldL n (l.map encTerm) := fun e he c hc => by
  obtain ⟨a, _, rfl⟩ := List.mem_map.1 he
  simp only [encTerm, List.mem_cons, List.not_mem_nil, or_false] at hc
  subst hc
  exact old_fz1 (oldL_flat flatTs)
theorem term_len {l : List Term} : ∀ e ∈ l.map encTerm, e.length = 1 := fun e he => by
  obtain ⟨a, _, rfl⟩ := List.mem_map.1 he
  rfl
theorem tok_b34 {t : Tok} (h : bTok 12 t) : bTok 34359738368 t := Nat.le_trans h (by decide)
def TermB (t : Term) : Prop := t.expr.length ≤ 7 ∧ ∀ x ∈ t.expr, bTok 12 x
end Go.Proofs.YteafjabcpmpmgaaGreat.Am
