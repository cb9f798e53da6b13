/- The statement of the law FnExactMatching: whatever its arguments are, it returns true, leaves what was there as it was, and ends. No condition. -/
import Derived.OpenShut
import Derived.Below
import Derived.Carry
import Derived.SizedLaws
import Derived.ChangeArms
import Derived.DataReads
import Derived.KernelRfl
import Derived.Test.YtcfpdongfdhgjaaGreatRows
import Derived.WalkKit
import Derived.ProofKit
import Derived.ShutString
import Derived.ChangeOld
import Derived.Test.YtcfpdongfdhgjaaGreatMa1
import Derived.Test.YtcfpdongfdhgjaaGreatMa2
import Derived.Test.YtcfpdongfdhgjaaGreatMa3
import Derived.Test.YtcfpdongfdhgjaaGreatMa4
import Derived.Test.YtcfpdongfdhgjaaGreatMa5
/- Expressions: the reference's evaluation. -/
set_option linter.unusedVariables false
set_option linter.unusedSimpArgs false
namespace Go.Proofs.YtcfpdongfdhgjaaGreat.Am

theorem drop1 {st : List Val} (h : 1 ≤ st.length) : st.drop (st.length - 1) = [st[st.length - 1]] := by
  rw [List.drop_eq_getElem_cons (by omega), List.drop_eq_nil_of_le (by omega)]
theorem drop2 {st : List Val} (h : 2 ≤ st.length) : st.drop (st.length - 2) = [st[st.length - 2], st[st.length - 1]] := by
  rw [List.drop_eq_getElem_cons (by omega), show st.length - 2 + 1 = st.length - 1 by omega, drop1 (by omega)]
theorem frz_all {σ : Store} {l : List (Nat × List (List Ce))} {k v N : Nat} {ys : List Val} {junk : List (List Ce)} (hl : l[k]? = some (v, ys.map encV ++ junk)) (hN : N ≤ σ.next + k) : FrzV (E σ l) N (.c (vec (σ.next + k) v (ys.map encV) junk)) (.c (.fz (ys.map encV))) :=
  frz_drop (n := 0) hl flats (Nat.zero_le _) hN
theorem l2Eval_ok (e : List Tok) (row : List Val) (hx : e.length ≤ 24) (hrl : row.length ≤ 16) (hok : Oks row) (hea : exprAux row.length 0 e = true) : Pure Tryz.prog 160 [.c (.fz (e.map encTok)), .c (.fz (row.map encV))] (.tup [.agg (encV (evalR e row).1), .c (.bool (evalR e row).2)]) := by
  refine Pure.run mixed c_spec_l2Eval_ok (Nat.le_of_ble_eq_true rfl) fun σ hS hA => ?_
  clear hA
  repeat' first | (apply Go.adm; exact rfl) | apply Go.qs | apply Qg.nil | ((first | apply Go.v2 | apply Go.v1); (first | exact leAdd | assumption); iterate 6 exact rfl) | ((first | apply Go.op | apply Go.sop | apply Qg.op); exact rfl; (first | exact aop_alloc | exact aop_new rfl rfl | exact aop_mksl rfl | exact aop_lenM rfl | exact rfl | exact aL rfl rfl rfl rfl rfl | exact aS rfl rfl rfl rfl rfl rfl rfl)) | ((first | apply Go.no | apply Go.sno | apply Qg.no); exact rfl) | (exfalso; omega) | (((first | apply Go.iQ | apply Go.gQ | apply Go.sQ | apply Qg.gQ); exact rfl; (first | exact .d | exact .e | exact .n | ((fail_if_success exact bqt); (fail_if_success exact bqf); exact .b))) <;> intro _)
  refine Go.freezeN (l := [(0, [[.int .i64 0, .int .i64 0, .str []]])]) (m := [(0, [])]) (fr' := [(0, .c (.fz (e.map encTok))), (1, .c (.fz (row.map encV))), (4, .c (.ptr (σ.next + 0) 0 0 0)), (6, .c (.fz (([] : List Val).map encV))), (7, .c (.int .i64 0))])
    hS (fun b hb e he x hx => ?_) (Nat.le_refl _) (.frz rfl (.refl old_encTok) (.frz rfl (.refl old_encV) (.frz rfl (.refl (old_ptr (by simp))) (.frz rfl (frz_all (σ := σ) (l := [(0, [[.int .i64 0, .int .i64 0, .str []]]), (0, [])]) (k := 1) (v := 0) (ys := []) (junk := []) rfl (Nat.le_refl _)) (.frz rfl (.refl old_int) .nil))))) ?_
  · rw [List.mem_singleton.1 hb] at he
    exact (flats (l := [vNull]) e he x hx).old _
  refine Go.loops (I := fun m fr τ => ∃ (i : Nat) (k : Int) (st : List Val), m = e.length - i ∧ i ≤ e.length ∧ k = i ∧ (st.length ≤ i ∧ Oks st ∧ exprAux row.length st.length (e.drop i) = true ∧ evalL row e [] = evalL row (e.drop i) st) ∧
    fr = [(0, .c (.fz (e.map encTok))), (1, .c (.fz (row.map encV))), (4, .c (.ptr (σ.next + 0) 0 0 0)), (6, .c (.fz (st.map encV))), (7, .c (.int .i64 k))] ∧
      τ = E σ [(0, [[.int .i64 0, .int .i64 0, .str []]])]) ?_ _ _ _ ⟨0, _, [], rfl, Nat.zero_le _, rfl, ⟨Nat.zero_le _, fun v hv => (by simp at hv), hea, rfl⟩, rfl, rfl⟩
  rintro m fr τ ⟨i, k, st, rfl, hi, hk, ⟨hsl, hst, haux, hev⟩, rfl, rfl⟩ hrec
  clear hea
  by_cases hlt : i < e.length
  · rw [List.drop_eq_getElem_cons hlt] at haux hev
    obtain ⟨htk, hle, haux⟩ := exprAux_cons haux
    have htr := tokTakes_range e[i]
    have hkd := isTok_kinds htk
    have hcol := isTok_col htk
    have hft : fromOf e[i] st = st.length - (tokTakes e[i]).toNat := rfl
    have hres := applyF_ok (tokOk_const htk) (hst.drop (fromOf e[i] st)) hok
    rw [evalL] at hev
    have hsl1 : st.length ≤ 24 := by omega
    obtain ⟨ap, hap⟩ : ∃ ap, applyF e[i] (st.drop (fromOf e[i] st)) row = ap := ⟨_, rfl⟩
    rw [hap] at hres hev
    repeat' first | apply Go.seq | apply Go.skip | apply Go.region | apply Go.nil | apply Go.blk | apply Go.draw | apply Go.segs | (apply Go.exit; exact rfl) | (apply Go.cond true; exact rfl) | (apply Go.cond false; exact rfl) | apply Go.qs | apply Qg.nil | ((first | apply Go.op | apply Go.sop | apply Qg.op); exact rfl; (first | exact aop_alloc | exact aop_new rfl rfl | exact aop_mksl rfl | exact aop_lenM rfl | exact rfl | exact aL rfl rfl rfl rfl rfl | exact aS rfl rfl rfl rfl rfl rfl rfl)) | ((first | apply Go.no | apply Go.sno | apply Qg.no); exact rfl) | (exfalso; omega) | (((first | apply Go.iQ | apply Go.gQ | apply Go.sQ | apply Qg.gQ); exact rfl; (first | exact .d | exact .e | exact .n | ((fail_if_success exact bqt); (fail_if_success exact bqf); exact .b))) <;> intro _)
    apply Go.block
    repeat' first | apply Go.seq | apply Go.skip | apply Go.region | apply Go.nil | apply Go.blk | apply Go.draw | apply Go.segs | (apply Go.exit; exact rfl) | (apply Go.cond true; exact rfl) | (apply Go.cond false; exact rfl) | apply Go.qs | apply Qg.nil | ((first | apply Go.op | apply Go.sop | apply Qg.op); exact rfl; (first | exact aop_alloc | exact aop_new rfl rfl | exact aop_mksl rfl | exact aop_lenM rfl | exact rfl | exact aL rfl rfl rfl rfl rfl | exact aS rfl rfl rfl rfl rfl rfl rfl | exact aop_iaddrM (enc := encTok) rfl rfl hk hlt rfl)) | ((first | apply Go.no | apply Go.sno | apply Qg.no); exact rfl) | (exfalso; omega) | (((first | apply Go.iQ | apply Go.gQ | apply Go.sQ | apply Qg.gQ); exact rfl; (first | exact .d | exact .e | exact .n | ((fail_if_success exact bqt); (fail_if_success exact bqf); exact .b))) <;> intro _)
    apply Go.block
    refine Go.join (K' := [_]) (fun fr τ => ∃ (av : Val) (ab : Bool), ab = ap.2 ∧ (ab = true → av = ap.1) ∧
      fr = [(0, .c (.fz (e.map encTok))), (1, .c (.fz (row.map encV))), (4, .c (.ptr (σ.next + 0) 0 0 0)), (6, .c (.fz (st.map encV))), (7, .c (.int .i64 k)), (8, .c (.int .i64 (st.length : Int))), (9, .c (.ptr (σ.next + 1) 0 0 0)), (10, .c (.bool ab)), (11, .c (.int .i64 (tokTakes e[i])))] ∧
      τ = E σ [(0, [[.int .i64 0, .int .i64 0, .str []]]), (0, [encV av])]) ?_ ?_
    · rintro fr τ ⟨av, ab, hab, hav, rfl, rfl⟩
      cases ab
      · rw [← hab, if_neg Bool.false_ne_true] at hev
        have hR : evalR e row = (vNull, false) := by rw [evalR, hev]
        rw [hR]
        repeat' first | (apply Go.adm; exact rfl) | apply Go.qs | apply Qg.nil | ((first | apply Go.v2 | apply Go.v1); (first | exact leAdd | assumption); iterate 6 exact rfl) | ((first | apply Go.op | apply Go.sop | apply Qg.op); exact rfl; (first | exact aop_alloc | exact aop_new rfl rfl | exact aop_mksl rfl | exact aop_lenM rfl | exact rfl | exact aL rfl rfl rfl rfl rfl | exact aS rfl rfl rfl rfl rfl rfl rfl)) | ((first | apply Go.no | apply Go.sno | apply Qg.no); exact rfl) | (exfalso; omega) | (((first | apply Go.iQ | apply Go.gQ | apply Go.sQ | apply Qg.gQ); exact rfl; (first | exact .d | exact .e | exact .n | ((fail_if_success exact bqt); (fail_if_success exact bqf); exact .b))) <;> intro _)
        exact .ret (retv_mt rfl rfl rfl (Nat.zero_le _) rfl rfl) (fin_vb vNull _)
      obtain rfl := hav rfl
      rw [← hab, if_pos rfl] at hev
      have hn : fromOf e[i] st ≤ (st.map encV).length := by rw [List.length_map, hft]; omega
      have hz : IntKind.i64.wrap ((st.length : Int) - tokTakes e[i]) = (fromOf e[i] st : Int) := by rw [wrap64 (by omega) (by omega), hft]; omega
      have hres := hres hab.symm
      have hl1 : ((st.take (fromOf e[i] st)).length : Int) = st.length - tokTakes e[i] := by rw [List.length_take, hft]; omega
      generalize fromOf e[i] st = n at hn hz hl1 hev
      repeat' first | apply Go.seq | apply Go.skip | apply Go.region | apply Go.nil | apply Go.block | apply Go.blk | apply Go.segs | (apply Go.exit; exact rfl) | (apply Go.cond true; exact rfl) | (apply Go.cond false; exact rfl) | apply Go.qs | apply Qg.nil | ((first | apply Go.v2 | apply Go.v1); (first | exact leAdd | assumption); iterate 6 exact rfl) | ((first | apply Go.op | apply Go.sop | apply Qg.op); exact rfl; (first | exact aop_alloc | exact aop_new rfl rfl | exact aop_mksl rfl | exact aop_lenM rfl | exact rfl | exact aL rfl rfl rfl rfl rfl | exact aS rfl rfl rfl rfl rfl rfl rfl)) | ((first | apply Go.no | apply Go.sno | apply Qg.no); exact rfl) | (exfalso; omega) | (((first | apply Go.iQ | apply Go.gQ | apply Go.sQ | apply Qg.gQ); exact rfl; (first | exact .d | exact .e | exact .n | ((fail_if_success exact bqt); (fail_if_success exact bqf); exact .b))) <;> intro _)
      apply Go.draw
      refine Go.qkm [(0, [[.int .i64 0, .int .i64 0, .str []]]), (0, [encV ap.1])] [] ?_
      repeat' first | (apply Qk.nil; show Go _ _ _ _ _ _ _ _) | (apply Qk.op; exact rfl; (first | (rintro _ ⟨_, rfl⟩; exact rfl) | (rintro _ ⟨_, rfl⟩; exact aop_load rfl rfl rfl (Nat.le_of_ble_eq_true rfl) rfl) | (rintro _ ⟨_, rfl⟩; exact aop_sliceF (s := 3) rfl rfl hz hn lens))) | (apply Qk.no; exact rfl) | (apply Qk.wop; exact rfl; exact rfl; (first | exact aop_alloc | exact aop_mksl rfl | exact aop_store rfl rfl rfl rfl rfl rfl (Nat.le_of_ble_eq_true rfl)); exact ⟨_, rfl⟩)
      have hb1 : (([] : List (List Ce)).length + ((st.map encV).take n).length) * 32 ≤ 140737488355328 := by rw [List.length_take, List.length_map, List.length_nil]; omega
      refine Qk.app (k := 2) (v := 0) (ys := []) (junk := []) (zs := (st.map encV).take n) rfl rfl rfl rfl rfl (fun e he => (by simp at he)) Jk.nil (fun e he => lens e (List.mem_of_mem_take he)) hb1 (fun z => ⟨[z], rfl⟩) fun v1 j1 hj1 => ?_
      repeat' first | (apply Qk.nil; show Go _ _ _ _ _ _ _ _) | (apply Qk.op; exact rfl; (first | (rintro _ ⟨_, rfl⟩; exact rfl) | (rintro _ ⟨_, rfl⟩; exact aop_load rfl rfl rfl (Nat.le_of_ble_eq_true rfl) rfl))) | (apply Qk.no; exact rfl) | (apply Qk.wop; exact rfl; exact rfl; (first | exact aop_alloc | exact aop_mksl rfl | exact aop_store rfl rfl rfl rfl rfl rfl (Nat.le_of_ble_eq_true rfl)); exact ⟨_, rfl⟩)
      have hb2 : ((([] : List (List Ce)) ++ (st.map encV).take n).length + 1) * 32 ≤ 140737488355328 := by rw [List.nil_append, List.length_take, List.length_map]; omega
      refine Go.sapp1 (k := 2) (z := encV ap.1) rfl rfl rfl rfl rfl (fun e he => lens e (List.mem_of_mem_take he)) hj1 rfl hb2 fun v' junk' hj' => ?_
      repeat' first | (apply Go.adm; exact rfl) | apply Go.qs | apply Qg.nil | ((first | apply Go.v2 | apply Go.v1); (first | exact leAdd | assumption); iterate 6 exact rfl) | ((first | apply Go.op | apply Go.sop | apply Qg.op); exact rfl; (first | exact aop_alloc | exact aop_new rfl rfl | exact aop_mksl rfl | exact aop_lenM rfl | exact rfl | exact aL rfl rfl rfl rfl rfl | exact aS rfl rfl rfl rfl rfl rfl rfl)) | ((first | apply Go.no | apply Go.sno | apply Qg.no); exact rfl) | (exfalso; omega) | (((first | apply Go.iQ | apply Go.gQ | apply Go.sQ | apply Qg.gQ); exact rfl; (first | exact .d | exact .e | exact .n | ((fail_if_success exact bqt); (fail_if_success exact bqf); exact .b))) <;> intro _)
      have e1 : [] ++ (st.map encV).take n ++ [encV ap.1] = (st.take n ++ [ap.1]).map encV := by simp
      rw [e1]
      refine Go.freezeN (l := [(0, [[.int .i64 0, .int .i64 0, .str []]])]) (m := [(0, [encV ap.1]), (v', (st.take n ++ [ap.1]).map encV ++ junk')])
        (fr' := [(0, .c (.fz (e.map encTok))), (1, .c (.fz (row.map encV))), (4, .c (.ptr (σ.next + 0) 0 0 0)), (6, .c (.fz ((st.take n ++ [ap.1]).map encV))), (7, .c (.int .i64 (IntKind.i64.wrap (k + 1))))])
        hS (fun b hb e he x hx => ?_) (Nat.le_refl _) (.frz rfl (.refl old_encTok) (.frz rfl (.refl old_encV) (.frz rfl (.refl (old_ptr (by simp))) (.frz rfl (frz_all (σ := σ) (l := [(0, [[.int .i64 0, .int .i64 0, .str []]]), (0, [encV ap.1]), (v', (st.take n ++ [ap.1]).map encV ++ junk')]) (k := 2) (v := v') (ys := st.take n ++ [ap.1]) (junk := junk') rfl (Nat.le_succ _)) (.frz rfl (.refl old_int) .nil))))) ?_
      · rw [List.mem_singleton.1 hb] at he
        exact (flats (l := [vNull]) e he x hx).old _
      refine hrec _ _ _ (by omega) ⟨i + 1, _, st.take n ++ [ap.1], rfl, hlt, wrap_succ hk (by omega), ⟨?_, (hst.take n).snoc hres, ?_, hev⟩, rfl, rfl⟩
      · simp only [List.length_append, List.length_take, List.length_singleton]; omega
      · have e2 : ((st.take n ++ [ap.1]).length : Int) = st.length + 1 - tokTakes e[i] := by
          simp only [List.length_append, List.length_singleton]
          omega
        rw [e2]
        exact haux
    intro hj
    rw [List.singleton_append]
    by_cases h1 : e[i].kind = 1
    · have htk0 : tokTakes e[i] = 0 := by rw [tokTakes, if_pos (.inl h1)]
      have hc2 := hcol h1
      have hcz : e[i].col = (e[i].col.toNat : Int) := by omega
      have hcl : e[i].col.toNat < row.length := by omega
      have hape : ap = (row[e[i].col.toNat], true) := by rw [← hap, applyF, if_pos h1, vAt, List.getElem?_eq_getElem hcl]; rfl
      rw [htk0] at hj
      repeat' first | apply Go.seq | apply Go.skip | apply Go.region | apply Go.nil | apply Go.block | apply Go.draw | apply Go.segs | (apply Go.exit; exact rfl) | (apply Go.cond true; exact rfl) | (apply Go.cond false; exact rfl) | apply Go.qs | apply Qg.nil | ((first | apply Go.op | apply Go.sop | apply Qg.op); exact rfl; (first | exact aop_alloc | exact aop_new rfl rfl | exact aop_mksl rfl | exact aop_lenM rfl | exact rfl | exact aL rfl rfl rfl rfl rfl | exact aS rfl rfl rfl rfl rfl rfl rfl | exact aop_iaddrM (enc := encTok) rfl rfl hk hlt rfl | exact aop_iaddrM (enc := encV) rfl rfl hcz hcl rfl)) | ((first | apply Go.no | apply Go.sno | apply Qg.no); exact rfl) | (exfalso; omega) | (((first | apply Go.iQ | apply Go.gQ | apply Go.sQ | apply Qg.gQ); exact rfl; (first | exact .d | exact .e | exact .n | ((fail_if_success exact bqt); (fail_if_success exact bqf); exact .b))) <;> intro _)
      exact Go.keep [0, 1, 4, 6, 7, 8, 9, 10, 11] (hj _ _ ⟨row[e[i].col.toNat], true, by rw [hape], fun _ => by rw [hape], rfl, rfl⟩)
    by_cases h2 : e[i].kind = 2
    · have htk0 : tokTakes e[i] = 0 := by rw [tokTakes, if_pos (.inr h2)]
      have hape : ap = (e[i].v, true) := by rw [← hap, applyF, if_neg h1, if_pos h2]
      rw [htk0] at hj
      repeat' first | apply Go.seq | apply Go.skip | apply Go.region | apply Go.nil | apply Go.block | apply Go.draw | apply Go.segs | (apply Go.exit; exact rfl) | (apply Go.cond true; exact rfl) | (apply Go.cond false; exact rfl) | apply Go.qs | apply Qg.nil | ((first | apply Go.op | apply Go.sop | apply Qg.op); exact rfl; (first | exact aop_alloc | exact aop_new rfl rfl | exact aop_mksl rfl | exact aop_lenM rfl | exact rfl | exact aL rfl rfl rfl rfl rfl | exact aS rfl rfl rfl rfl rfl rfl rfl | exact aop_iaddrM (enc := encTok) rfl rfl hk hlt rfl)) | ((first | apply Go.no | apply Go.sno | apply Qg.no); exact rfl) | (exfalso; omega) | (((first | apply Go.iQ | apply Go.gQ | apply Go.sQ | apply Qg.gQ); exact rfl; (first | exact .d | exact .e | exact .n | ((fail_if_success exact bqt); (fail_if_success exact bqf); exact .b))) <;> intro _)
      exact Go.keep [0, 1, 4, 6, 7, 8, 9, 10, 11] (hj _ _ ⟨e[i].v, true, by rw [hape], fun _ => by rw [hape], rfl, rfl⟩)
    have hn12 : ¬ (e[i].kind = 1 ∨ e[i].kind = 2) := by omega
    by_cases h8 : e[i].kind = 8
    · have htk0 : tokTakes e[i] = 1 := by rw [tokTakes, if_neg hn12, if_pos (.inr h8)]
      have hz1 : IntKind.i64.wrap ((st.length : Int) - 1) = ((st.length - 1 : Nat) : Int) := by rw [wrap64 (by omega) (by omega)]; omega
      have hl1 : st.length - 1 < st.length := by omega
      have hf : fromOf e[i] st = st.length - 1 := by rw [hft, htk0]; rfl
      have hyr := yes_range (st[st.length - 1].k == 0)
      have hape : ap = (asR (yes (st[st.length - 1].k == 0)), true) := by
        rw [← hap, hf, drop1 (by omega), ← asV_asR hyr.1]
        simp [applyF, h8, vAt]
      have hv : asR (yes (st[st.length - 1].k == 0)) = vInt (yes (st[st.length - 1].k == 0)) := by rw [asR, if_neg (by omega)]
      rw [htk0] at hj
      repeat' first | apply Go.seq | apply Go.skip | apply Go.region | apply Go.nil | apply Go.block | apply Go.draw | apply Go.segs | (apply Go.exit; exact rfl) | (apply Go.cond true; exact rfl) | (apply Go.cond false; exact rfl) | apply Go.qs | apply Qg.nil | ((first | apply Go.op | apply Go.sop | apply Qg.op); exact rfl; (first | exact aop_alloc | exact aop_new rfl rfl | exact aop_mksl rfl | exact aop_lenM rfl | exact rfl | exact aL rfl rfl rfl rfl rfl | exact aS rfl rfl rfl rfl rfl rfl rfl | exact aop_iaddrM (enc := encTok) rfl rfl hk hlt rfl | exact aop_iaddrM (enc := encV) rfl rfl hz1 hl1 rfl)) | ((first | apply Go.no | apply Go.sno | apply Qg.no); exact rfl) | ((first | apply Go.pcall | apply Go.spcall | apply Qg.pcall); (iterate 3 exact rfl); (first | exact l1Yes_ok _ | exact l1Int_ok _)) | (exfalso; omega) | (((first | apply Go.iQ | apply Go.gQ | apply Go.sQ | apply Qg.gQ); exact rfl; (first | exact .d | exact .e | exact .n | ((fail_if_success exact bqt); (fail_if_success exact bqf); exact .b))) <;> intro _)
      exact Go.keep [0, 1, 4, 6, 7, 8, 9, 10, 11] (hj _ _ ⟨vInt (yes (st[st.length - 1].k == 0)), true, by rw [hape], fun _ => by rw [hape, hv], rfl, rfl⟩)
    by_cases h7 : e[i].kind = 7
    · have htk0 : tokTakes e[i] = 1 := by rw [tokTakes, if_neg hn12, if_pos (.inl h7)]
      have hz1 : IntKind.i64.wrap ((st.length : Int) - 1) = ((st.length - 1 : Nat) : Int) := by rw [wrap64 (by omega) (by omega)]; omega
      have hl1 : st.length - 1 < st.length := by omega
      have hf : fromOf e[i] st = st.length - 1 := by rw [hft, htk0]; rfl
      have hape : ap = asV (not3 (truthV st[st.length - 1])) := by
        rw [← hap, hf, drop1 (by omega)]
        simp [applyF, h7, vAt]
      rw [htk0] at hj
      repeat' first | apply Go.seq | apply Go.skip | apply Go.region | apply Go.nil | apply Go.block | apply Go.draw | apply Go.segs | (apply Go.exit; exact rfl) | (apply Go.cond true; exact rfl) | (apply Go.cond false; exact rfl) | apply Go.qs | apply Qg.nil | ((first | apply Go.op | apply Go.sop | apply Qg.op); exact rfl; (first | exact aop_alloc | exact aop_new rfl rfl | exact aop_mksl rfl | exact aop_lenM rfl | exact rfl | exact aL rfl rfl rfl rfl rfl | exact aS rfl rfl rfl rfl rfl rfl rfl | exact aop_iaddrM (enc := encTok) rfl rfl hk hlt rfl | exact aop_iaddrM (enc := encV) rfl rfl hz1 hl1 rfl)) | ((first | apply Go.no | apply Go.sno | apply Qg.no); exact rfl) | ((first | apply Go.pcall | apply Go.spcall | apply Qg.pcall); (iterate 3 exact rfl); (first | exact l2Of_ok st[st.length - 1] | exact sNot3_ok _ | exact l2As_ok _)) | (exfalso; omega) | (((first | apply Go.iQ | apply Go.gQ | apply Go.sQ | apply Qg.gQ); exact rfl; (first | exact .d | exact .e | exact .n | ((fail_if_success exact bqt); (fail_if_success exact bqf); exact .b))) <;> intro _)
      refine Go.keep [0, 1, 4, 6, 7, 8, 9, 10, 11] (hj _ _ ⟨asR (not3 (ofT st[st.length - 1])), ofB st[st.length - 1], ?_, ?_, rfl, rfl⟩)
      · rw [hape]
        cases hb : ofB st[st.length - 1]
        · rw [ofB_not hb]; rfl
        · obtain ⟨q1, q2⟩ := ofB_truth hb
          rw [q1, asV_asR]
          rw [not3, tru_range.2 q2, if_pos rfl]
          split <;> omega
      · intro hb
        obtain ⟨q1, q2⟩ := ofB_truth hb
        rw [hape, q1, asV_asR]
        rw [not3, tru_range.2 q2, if_pos rfl]
        split <;> omega
    have htk0 : tokTakes e[i] = 2 := by rw [tokTakes, if_neg hn12, if_neg (by omega)]
    have hz1 : IntKind.i64.wrap ((st.length : Int) - 1) = ((st.length - 1 : Nat) : Int) := by rw [wrap64 (by omega) (by omega)]; omega
    have hz2 : IntKind.i64.wrap ((st.length : Int) - 2) = ((st.length - 2 : Nat) : Int) := by rw [wrap64 (by omega) (by omega)]; omega
    have hl1 : st.length - 1 < st.length := by omega
    have hl2 : st.length - 2 < st.length := by omega
    have hf : fromOf e[i] st = st.length - 2 := by rw [hft, htk0]; rfl
    obtain ⟨hw1, hw2⟩ := twoR_eq e[i] st[st.length - 2] st[st.length - 1] row (by omega)
    have hap2 : applyF e[i] [st[st.length - 2], st[st.length - 1]] row = ap := by rw [← hap, hf, drop2 (by omega)]
    rw [hap2] at hw1 hw2
    have ctwo := l2Two_ok e[i].kind st[st.length - 2] st[st.length - 1] (hst _ (List.getElem_mem _)) (hst _ (List.getElem_mem _))
    generalize twoR e[i].kind st[st.length - 2] st[st.length - 1] = tw at ctwo hw1 hw2
    rw [htk0] at hj
    repeat' first | apply Go.seq | apply Go.skip | apply Go.region | apply Go.nil | apply Go.block | apply Go.segs | (apply Go.exit; exact rfl) | (apply Go.cond true; exact rfl) | (apply Go.cond false; exact rfl) | apply Go.qs | apply Qg.nil | ((first | apply Go.op | apply Go.sop | apply Qg.op); exact rfl; (first | exact aop_alloc | exact aop_new rfl rfl | exact aop_mksl rfl | exact aop_lenM rfl | exact rfl | exact aL rfl rfl rfl rfl rfl | exact aS rfl rfl rfl rfl rfl rfl rfl | exact aop_iaddrM (enc := encTok) rfl rfl hk hlt rfl)) | ((first | apply Go.no | apply Go.sno | apply Qg.no); exact rfl) | (exfalso; omega) | (((first | apply Go.iQ | apply Go.gQ | apply Go.sQ | apply Qg.gQ); exact rfl; (first | exact .d | exact .e | exact .n | ((fail_if_success exact bqt); (fail_if_success exact bqf); exact .b))) <;> intro _)
    apply Go.draw
    apply Go.qs
    repeat' first | (apply Go.adm; exact rfl) | apply Qg.nil | ((first | apply Go.v2 | apply Go.v1); (first | exact leAdd | assumption); iterate 6 exact rfl) | ((first | apply Go.op | apply Go.sop | apply Qg.op); exact rfl; (first | exact aop_alloc | exact aop_new rfl rfl | exact aop_mksl rfl | exact aop_lenM rfl | exact rfl | exact aL rfl rfl rfl rfl rfl | exact aS rfl rfl rfl rfl rfl rfl rfl | exact aop_iaddrM (enc := encTok) rfl rfl hk hlt rfl | exact aop_iaddrM (enc := encV) rfl rfl hz2 hl2 rfl | exact aop_iaddrM (enc := encV) rfl rfl hz1 hl1 rfl | exact aop_load rfl rfl rfl (Nat.le_of_ble_eq_true rfl) rfl)) | ((first | apply Go.no | apply Go.sno | apply Qg.no); exact rfl) | ((first | apply Go.pcall | apply Go.spcall | apply Qg.pcall); (iterate 3 exact rfl); exact ctwo) | (exfalso; omega) | (((first | apply Go.iQ | apply Go.gQ | apply Go.sQ | apply Qg.gQ); exact rfl; (first | exact .d | exact .e | exact .n | ((fail_if_success exact bqt); (fail_if_success exact bqf); exact .b))) <;> intro _)
    refine Go.qkm [(0, [[.int .i64 0, .int .i64 0, .str []]])] [(0, [encV vNull])] ?_
    repeat' first | (apply Qk.nil; show Go _ _ _ _ _ _ _ _) | (apply Qk.op; exact rfl; (first | (rintro _ ⟨_, rfl⟩; exact rfl) | (rintro _ ⟨_, rfl⟩; exact aop_load rfl rfl rfl (Nat.le_of_ble_eq_true rfl) rfl))) | (apply Qk.no; exact rfl) | (apply Qk.wop; exact rfl; exact rfl; (first | exact aop_alloc | exact aop_mksl rfl | exact aop_store rfl rfl rfl rfl rfl rfl (Nat.le_of_ble_eq_true rfl)); exact ⟨_, rfl⟩)
    repeat' first | apply Go.seq | apply Go.skip | apply Go.region | apply Go.nil | apply Go.block | apply Go.draw | apply Go.segs | (apply Go.exit; exact rfl) | (apply Go.cond true; exact rfl) | (apply Go.cond false; exact rfl) | apply Go.qs | apply Qg.nil | ((first | apply Go.op | apply Go.sop | apply Qg.op); exact rfl; (first | exact aop_alloc | exact aop_new rfl rfl | exact aop_mksl rfl | exact aop_lenM rfl | exact rfl | exact aL rfl rfl rfl rfl rfl | exact aS rfl rfl rfl rfl rfl rfl rfl)) | ((first | apply Go.no | apply Go.sno | apply Qg.no); exact rfl) | (exfalso; omega) | (((first | apply Go.iQ | apply Go.gQ | apply Go.sQ | apply Qg.gQ); exact rfl; (first | exact .d | exact .e | exact .n | ((fail_if_success exact bqt); (fail_if_success exact bqf); exact .b))) <;> intro _)
    exact Go.keep [0, 1, 4, 6, 7, 8, 9, 10, 11] (hj _ _ ⟨tw.1, tw.2, hw1, fun h => by rw [hw2 (by rw [← hw1]; exact h)], rfl, rfl⟩)
  · have hd : e.drop i = [] := List.drop_eq_nil_of_le (by omega)
    rw [hd] at haux hev
    simp only [exprAux, beq_iff_eq] at haux
    obtain ⟨w, rfl⟩ : ∃ w, st = [w] := List.length_eq_one_iff.1 (by omega)
    have hR : evalR e row = (w, true) := by rw [evalR, hev]; rfl
    rw [hR]
    repeat' first | (apply Go.adm; exact rfl) | apply Go.qs | apply Qg.nil | ((first | apply Go.v2 | apply Go.v1); (first | exact leAdd | assumption); iterate 6 exact rfl) | ((first | apply Go.op | apply Go.sop | apply Qg.op); exact rfl; (first | exact aop_alloc | exact aop_new rfl rfl | exact aop_mksl rfl | exact aop_lenM rfl | exact rfl | exact aL rfl rfl rfl rfl rfl | exact aS rfl rfl rfl rfl rfl rfl rfl)) | ((first | apply Go.no | apply Go.sno | apply Qg.no); exact rfl) | (exfalso; omega) | (((first | apply Go.iQ | apply Go.gQ | apply Go.sQ | apply Qg.gQ); exact rfl; (first | exact .d | exact .e | exact .n | ((fail_if_success exact bqt); (fail_if_success exact bqf); exact .b))) <;> intro _)
    exact .ret (retv_mt rfl rfl rfl (Nat.zero_le _) rfl rfl) (fin_vb w _)
theorem l2Truth_ok (e : List Tok) (row : List Val) (hv : areVals row 16 = true) (he : exprF e row.length = true) : Pure Tryz.prog 117 [.c (.fz (e.map encTok)), .c (.fz (row.map encV))] (.c (.int .i64 (truthR e row))) := by
  refine Pure.run mixed c_spec_l2Truth_ok (Nat.le_of_ble_eq_true rfl) fun σ hS hA => ?_
  clear hS hA
  obtain ⟨hok, hrl⟩ := areVals_oks hv
  obtain ⟨hel, hea⟩ := exprF_aux he
  have c1 := l2Eval_ok e row (by omega) (by omega) hok hea
  have c2 := l2Of_ok (evalR e row).1
  rw [truthR]
  generalize evalR e row = q at c1 c2 ⊢
  obtain ⟨v, b⟩ := q
  simp only at c1 c2 ⊢
  cases hb : ofB v
  · rw [hb] at c2
    have h1 := ofB_not hb
    cases b
    · repeat' first | (apply Go.adm; exact rfl) | apply Go.qs | apply Qg.nil | ((first | apply Go.v2 | apply Go.v1); (first | exact leAdd | assumption); iterate 6 exact rfl) | ((first | apply Go.op | apply Go.sop | apply Qg.op); exact rfl; (first | exact aop_alloc | exact aop_new rfl rfl | exact aop_mksl rfl | exact aop_lenM rfl | exact rfl | exact aL rfl rfl rfl rfl rfl | exact aS rfl rfl rfl rfl rfl rfl rfl)) | ((first | apply Go.no | apply Go.sno | apply Qg.no); exact rfl) | ((first | apply Go.pcall | apply Go.spcall | apply Qg.pcall); (iterate 3 exact rfl); (first | exact c1 | exact c2)) | (exfalso; omega) | (((first | apply Go.iQ | apply Go.gQ | apply Go.sQ | apply Qg.gQ); exact rfl; (first | exact .d | exact .e | exact .n | ((fail_if_success exact bqt); (fail_if_success exact bqf); exact .b))) <;> intro _)
      exact .ret rfl (.int rfl)
    · repeat' first | (apply Go.adm; exact rfl) | apply Go.qs | apply Qg.nil | ((first | apply Go.v2 | apply Go.v1); (first | exact leAdd | assumption); iterate 6 exact rfl) | ((first | apply Go.op | apply Go.sop | apply Qg.op); exact rfl; (first | exact aop_alloc | exact aop_new rfl rfl | exact aop_mksl rfl | exact aop_lenM rfl | exact rfl | exact aL rfl rfl rfl rfl rfl | exact aS rfl rfl rfl rfl rfl rfl rfl)) | ((first | apply Go.no | apply Go.sno | apply Qg.no); exact rfl) | ((first | apply Go.pcall | apply Go.spcall | apply Qg.pcall); (iterate 3 exact rfl); (first | exact c1 | exact c2)) | (exfalso; omega) | (((first | apply Go.iQ | apply Go.gQ | apply Go.sQ | apply Qg.gQ); exact rfl; (first | exact .d | exact .e | exact .n | ((fail_if_success exact bqt); (fail_if_success exact bqf); exact .b))) <;> intro _)
      exact .ret rfl (.int (by rw [if_pos rfl, h1]))
  · rw [hb] at c2
    have h1 := (ofB_truth hb).1
    cases b
    · repeat' first | (apply Go.adm; exact rfl) | apply Go.qs | apply Qg.nil | ((first | apply Go.v2 | apply Go.v1); (first | exact leAdd | assumption); iterate 6 exact rfl) | ((first | apply Go.op | apply Go.sop | apply Qg.op); exact rfl; (first | exact aop_alloc | exact aop_new rfl rfl | exact aop_mksl rfl | exact aop_lenM rfl | exact rfl | exact aL rfl rfl rfl rfl rfl | exact aS rfl rfl rfl rfl rfl rfl rfl)) | ((first | apply Go.no | apply Go.sno | apply Qg.no); exact rfl) | ((first | apply Go.pcall | apply Go.spcall | apply Qg.pcall); (iterate 3 exact rfl); (first | exact c1 | exact c2)) | (exfalso; omega) | (((first | apply Go.iQ | apply Go.gQ | apply Go.sQ | apply Qg.gQ); exact rfl; (first | exact .d | exact .e | exact .n | ((fail_if_success exact bqt); (fail_if_success exact bqf); exact .b))) <;> intro _)
      exact .ret rfl (.int rfl)
    · repeat' first | (apply Go.adm; exact rfl) | apply Go.qs | apply Qg.nil | ((first | apply Go.v2 | apply Go.v1); (first | exact leAdd | assumption); iterate 6 exact rfl) | ((first | apply Go.op | apply Go.sop | apply Qg.op); exact rfl; (first | exact aop_alloc | exact aop_new rfl rfl | exact aop_mksl rfl | exact aop_lenM rfl | exact rfl | exact aL rfl rfl rfl rfl rfl | exact aS rfl rfl rfl rfl rfl rfl rfl)) | ((first | apply Go.no | apply Go.sno | apply Qg.no); exact rfl) | ((first | apply Go.pcall | apply Go.spcall | apply Qg.pcall); (iterate 3 exact rfl); (first | exact c1 | exact c2)) | (exfalso; omega) | (((first | apply Go.iQ | apply Go.gQ | apply Go.sQ | apply Qg.gQ); exact rfl; (first | exact .d | exact .e | exact .n | ((fail_if_success exact bqt); (fail_if_success exact bqf); exact .b))) <;> intro _)
      exact .ret rfl (.int (by rw [if_pos rfl, h1]))
end Go.Proofs.YtcfpdongfdhgjaaGreat.Am

/- Marks by fields, and how many marks a value takes. -/
set_option linter.unusedVariables false
set_option linter.unusedSimpArgs false
namespace Go.Proofs.YtcfpdongfdhgjaaGreat.Am

theorem Has.shape {σ : Store} {S : Nat → Prop} {ys : List (List Ce)} {x : Ce} (h : Has σ S (.fz ys) x) {i : Nat} (hi : i < ys.length) : ∃ id v c, x = .sl id v 0 ys.length c := by
  obtain ⟨id, v, s, cs, junk, T, rfl, _⟩ := h.open (by omega)
  exact ⟨_, _, _, rfl⟩
/-- One cell of one element is written. -/
theorem Has.wr {σ : Store} {S : Nat → Prop} {zs : List (List Ce)} {e : List Ce} {id v n c i j : Nat} (h : Has σ S (.fz (zs.set i e)) (.sl id v 0 n c)) (hi : i < zs.length) (hj : j < e.length) :
    ∃ (es : List (List Ce)) (e' : List Ce), σ.get id = some (v, es) ∧ es[0 + i]? = some e' ∧ e'.length = e.length ∧ S id ∧
      ∀ z, Flat z → Has (σ.put id (v, es.set (0 + i) (splice e' (0 + j) [z]))) S (.fz (zs.set i (e.set j z))) (.sl id v 0 n c) ∧
        (∀ a, ¬ S a → (σ.put id (v, es.set (0 + i) (splice e' (0 + j) [z]))).get a = σ.get a) ∧ (σ.put id (v, es.set (0 + i) (splice e' (0 + j) [z]))).next = σ.next := by
  have hi' : i < (zs.set i e).length := by simpa using hi
  have hii : (zs.set i e)[i] = e := by simp
  obtain ⟨id1, v1, c1, es, e', hx, hg, he, hel, hS, hw⟩ := h.write (i := i) (j := j) hi' (by rw [hii]; exact hj)
  obtain ⟨rfl, rfl, -⟩ := sl_inj hx
  refine ⟨es, e', hg, he, by rw [hel, hii], hS, fun z hz => ⟨?_, fun a ha => put_off hS a ha, rfl⟩⟩
  have := hw z hz
  rw [List.set_set, hii] at this
  exact this
/-- A child of one element is given to a call. -/
theorem Has.ch {σ : Store} {S : Nat → Prop} {zs : List (List Ce)} {e : List Ce} {y : Ce} {id v n c i j : Nat} (h : Has σ S (.fz (zs.set i e)) (.sl id v 0 n c)) (hi : i < zs.length) (hj : j < e.length) (hy : e[j] = y) :
    ∃ (es : List (List Ce)) (e' : List Ce) (T : Nat → Prop), σ.get id = some (v, es) ∧ es[0 + i]? = some e' ∧ e'.length = e.length ∧ (∀ a, T a → S a) ∧
      ∃ hj' : j < e'.length, Has σ T y e'[j] ∧ ∀ σ' y', (∀ a, ¬ T a → σ'.get a = σ.get a) → Has σ' T y' e'[j] → Has σ' S (.fz (zs.set i (e.set j y'))) (.sl id v 0 n c) := by
  have hi' : i < (zs.set i e).length := by simpa using hi
  have hii : (zs.set i e)[i] = e := by simp
  obtain ⟨id1, v1, c1, es, e', T, hx, hg, he, hel, hTS, hj', hch, hback⟩ := h.child (i := i) (j := j) hi' (by rw [hii]; exact hj)
  obtain ⟨rfl, rfl, -⟩ := sl_inj hx
  subst hy
  refine ⟨es, e', T, hg, he, by rw [hel, hii], hTS, hj', ?_, fun σ' y' hf hh => ?_⟩
  · have e0 : (zs.set i e)[i][j]'(by rw [hii]; exact hj) = e[j] := by simp
    rw [← e0]
    exact hch
  · have := hback σ' y' hf hh
    rw [List.set_set, hii] at this
    exact this
/-- Counts along the sizes' chain. -/
inductive Cnts : List (Int → Int) → Int → Prop where
  | nil : Cnts [] 0
  | cons {f : Int → Int} {r : List (Int → Int)} {c d : Int} (h : ∀ q, 0 ≤ q → 0 ≤ f q → c ≤ 8 * (q - f q)) (k : Cnts r d) : Cnts (f :: r) (c + d)
theorem chain_cnt {fs : List (Int → Int)} {c : Int} (h : Cnts fs c) : ∀ l, 0 ≤ l → 0 ≤ chain fs l → c ≤ 8 * (l - chain fs l) := by
  induction h with
  | nil => intro l _ _; simp only [chain]; omega
  | @cons f r c d h _ ih =>
    intro l hl hc
    simp only [chain] at hc ⊢
    split at hc
    · omega
    · rename_i h0
      rw [if_neg h0]
      have := h l hl (by omega)
      have := ih (f l) (by omega) hc
      omega
theorem szList_cnt8 {α : Type} {g : α → Int → Int} {c : α → Int} (hg : ∀ a l, 0 ≤ l → g a l ≤ l) (hc : ∀ a l, 0 ≤ l → 0 ≤ g a l → c a ≤ 8 * (l - g a l) + 8) : ∀ (xs : List α) (left : Int), 0 ≤ left → 0 ≤ szList g xs left → cntL c xs ≤ 8 * (left - szList g xs left) + 8 * xs.length
  | [], left, h, hs => by simp [szList, cntL]
  | a :: r, left, h, hs => by
    simp only [szList] at hs ⊢
    split at hs
    · omega
    · rename_i h0
      rw [if_neg h0]
      have h1 := szList_cnt8 hg hc r (g a left) (by omega) hs
      have h2 := hc a left h (by omega)
      simp only [cntL, List.length_cons]
      omega
theorem szL_cnt8 {α : Type} {g : α → Int → Int} {c : α → Int} (hg : ∀ a l, 0 ≤ l → g a l ≤ l) (hc : ∀ a l, 0 ≤ l → 0 ≤ g a l → c a ≤ 8 * (l - g a l) + 8) (xs : List α) (left : Int) (h : 0 ≤ left) (hs : 0 ≤ szL g xs left) : cntL c xs ≤ 8 * (left - szL g xs left) := by
  simp only [szL] at hs ⊢
  split at hs
  · omega
  · rename_i h0
    rw [if_neg h0]
    have := szList_cnt8 hg hc xs (left - xs.length) (by omega) hs
    omega
theorem cnt_str (s : List UInt8) : ∀ q : Int, 0 ≤ q → 0 ≤ q - s.length → (0 : Int) ≤ 8 * (q - (q - s.length)) := fun q _ _ => by omega
theorem cnt_ints (xs : List Int) : ∀ q : Int, 0 ≤ q → 0 ≤ zI xs q → cntL (fun _ => 1) xs ≤ 8 * (q - zI xs q) := fun q _ h => by
  simp only [zI] at h ⊢
  rw [cnt1]
  split at h
  · omega
  · rename_i h0; rw [if_neg h0]; omega
theorem szV_cnt (v : Val) (l : Int) (h : 0 ≤ l) (hs : 0 ≤ szV v l) : (3 : Int) ≤ 8 * (l - szV v l) + 8 := by
  have := szV_le v l h
  omega
end Go.Proofs.YtcfpdongfdhgjaaGreat.Am

/- The laws' helpers on types, printed by a program: Tok, Check, Unique, Fk, Col. -/
set_option linter.unusedVariables false
set_option linter.unusedSimpArgs false
namespace Go.Proofs.YtcfpdongfdhgjaaGreat.Am
def markTok (a : Tok) (k : Int) : Tok := ⟨k, k + 1, ⟨k + 1 + 1, k + 1 + 1 + 1, mText (k + 1 + 1 + 1 + 1)⟩⟩
def cntTok (a : Tok) : Int := 5
theorem cntTok_nonneg (a : Tok) : 0 ≤ cntTok a := by
  simp only [cntTok]
  omega
theorem cntTok_sz (a : Tok) (l : Int) (h : 0 ≤ l) (hs : 0 ≤ zTok a l) : cntTok a ≤ 8 * (l - zTok a l) + 8 := by
  have := chain_cnt (fs := [(szV a.v)]) (.cons (c := 0) (fun q h hs => by have := szV_le a.v q h; omega) .nil) l h hs
  simp only [cntTok]
  simp only [zTok] at hs ⊢
  omega
theorem markTokS_ok (xs : List Tok) (k : Int) (hx : xs.length ≤ 34359738368) (hb : ∀ a ∈ xs, bTok 34359738368 a) (hk0 : 0 ≤ k) (hk : k + cntL cntTok xs ≤ 34359738368) : Marks Tryz.prog 31 (.fz (xs.map encTok)) (.fz ((markL markTok cntTok xs k).map encTok)) k (k + cntL cntTok xs) := by
  refine markS_ok mixed c_laws_markTokS_ok (Nat.le_of_ble_eq_true rfl) (Nat.le_of_ble_eq_true rfl) encTok markTok cntTok cntTok_nonneg xs k hx hk0 hk ?_
  intro n0 rets R K σ τ S x i ni ki ys hi fr hn0 hyl hni hki0 hki1 h0 h1 h5 hmem hh hnext
  have hi' : i < (ys.map encTok).length := by simpa using hi
  have hyi : (ys.map encTok)[i] = encTok ys[i] := by simp
  have hb := hb _ hmem
  obtain ⟨id, v, c, rfl⟩ := hh.shape hi'
  have hh : Has τ S (.fz ((ys.map encTok).set i (encTok ys[i]))) (.sl id v 0 (ys.map encTok).length c) := by rw [← hyi, List.set_getElem_self]; exact hh
  have hfr : ∀ a, ¬ S a → τ.get a = τ.get a := fun _ _ => rfl
  have hnx : τ.next = τ.next := rfl
  refine .same (look_three h0 h1 h5) ?_
  have hset : ∀ q, (ys.set i q).map encTok = (ys.map encTok).set i (encTok q) := fun q => List.map_set
  simp only [cntTok] at hki1
  obtain ⟨es0, e0, hg0, he0, hel0, hS0, hw0⟩ := hh.wr (j := 0) hi' (Nat.le_of_ble_eq_true rfl)
  have hel0 : e0.length = 5 := hel0
  obtain ⟨hh, hf0, hn0⟩ := hw0 (.int .i64 ki) (.int _ _)
  have hfr := fun a (ha : ¬ S a) => (hf0 a ha).trans (hfr a ha)
  have hnx := hn0.trans hnx
  repeat' first | (apply Go.adm; exact rfl) | apply Go.qs | apply Qg.nil | ((first | apply Go.op | apply Go.sop | apply Qg.op); exact rfl; (first | exact rfl | exact aop_iaddrO rfl rfl hni hi' hg0 he0 hel0 | exact aop_storeO rfl rfl hg0 he0 (by omega))) | (apply Go.no; exact rfl)
  obtain ⟨k0, hk0⟩ : ∃ z, ki + 1 = z := ⟨_, rfl⟩
  rw [show IntKind.i64.wrap (ki + 1) = k0 by rw [wrap64 (by omega) (by omega)]; exact hk0]
  obtain ⟨es1, e1, hg1, he1, hel1, hS1, hw1⟩ := hh.wr (j := 1) hi' (Nat.le_of_ble_eq_true rfl)
  have hel1 : e1.length = 5 := hel1
  obtain ⟨hh, hf1, hn1⟩ := hw1 (.int .i64 k0) (.int _ _)
  have hfr := fun a (ha : ¬ S a) => (hf1 a ha).trans (hfr a ha)
  have hnx := hn1.trans hnx
  repeat' first | (apply Go.adm; exact rfl) | apply Go.qs | apply Qg.nil | ((first | apply Go.op | apply Go.sop | apply Qg.op); exact rfl; (first | exact rfl | exact aop_iaddrO rfl rfl hni hi' hg1 he1 hel1 | exact aop_storeO rfl rfl hg1 he1 (by omega))) | (apply Go.no; exact rfl)
  obtain ⟨k1, hk1⟩ : ∃ z, k0 + 1 = z := ⟨_, rfl⟩
  rw [show IntKind.i64.wrap (k0 + 1) = k1 by rw [wrap64 (by omega) (by omega)]; exact hk1]
  obtain ⟨es2, e2, hg2, he2, hel2, hS2, hw2⟩ := hh.wr (j := 2) hi' (Nat.le_of_ble_eq_true rfl)
  have hel2 : e2.length = 5 := hel2
  obtain ⟨hh, hf2, hn2⟩ := hw2 (.int .i64 k1) (.int _ _)
  have hfr := fun a (ha : ¬ S a) => (hf2 a ha).trans (hfr a ha)
  have hnx := hn2.trans hnx
  repeat' first | (apply Go.adm; exact rfl) | apply Go.qs | apply Qg.nil | ((first | apply Go.op | apply Go.sop | apply Qg.op); exact rfl; (first | exact rfl | exact aop_iaddrO rfl rfl hni hi' hg2 he2 hel2 | exact aop_storeO rfl rfl hg2 he2 (by omega))) | (apply Go.no; exact rfl)
  obtain ⟨k2, hk2⟩ : ∃ z, k1 + 1 = z := ⟨_, rfl⟩
  rw [show IntKind.i64.wrap (k1 + 1) = k2 by rw [wrap64 (by omega) (by omega)]; exact hk2]
  obtain ⟨es3, e3, hg3, he3, hel3, hS3, hw3⟩ := hh.wr (j := 3) hi' (Nat.le_of_ble_eq_true rfl)
  have hel3 : e3.length = 5 := hel3
  obtain ⟨hh, hf3, hn3⟩ := hw3 (.int .i64 k2) (.int _ _)
  have hfr := fun a (ha : ¬ S a) => (hf3 a ha).trans (hfr a ha)
  have hnx := hn3.trans hnx
  repeat' first | (apply Go.adm; exact rfl) | apply Go.qs | apply Qg.nil | ((first | apply Go.op | apply Go.sop | apply Qg.op); exact rfl; (first | exact rfl | exact aop_iaddrO rfl rfl hni hi' hg3 he3 hel3 | exact aop_storeO rfl rfl hg3 he3 (by omega))) | (apply Go.no; exact rfl)
  obtain ⟨k3, hk3⟩ : ∃ z, k2 + 1 = z := ⟨_, rfl⟩
  rw [show IntKind.i64.wrap (k2 + 1) = k3 by rw [wrap64 (by omega) (by omega)]; exact hk3]
  obtain ⟨es4, e4, hg4, he4, hel4, hS4, hw4⟩ := hh.wr (j := 4) hi' (Nat.le_of_ble_eq_true rfl)
  have hel4 : e4.length = 5 := hel4
  obtain ⟨hh, hf4, hn4⟩ := hw4 (.str (mText k3)) (.str _)
  have hfr := fun a (ha : ¬ S a) => (hf4 a ha).trans (hfr a ha)
  have hnx := hn4.trans hnx
  repeat' first | (apply Go.adm; exact rfl) | apply Go.qs | apply Qg.nil | ((first | apply Go.op | apply Go.sop | apply Qg.op); exact rfl; (first | exact rfl | exact aop_iaddrO rfl rfl hni hi' hg4 he4 hel4 | exact aop_storeO rfl rfl hg4 he4 (by omega))) | (apply Go.no; exact rfl) | ((first | apply Go.pcall | apply Go.spcall | apply Qg.pcall); (iterate 3 exact rfl); exact markText_ok _ (by omega))
  obtain ⟨k4, hk4⟩ : ∃ z, k3 + 1 = z := ⟨_, rfl⟩
  rw [show IntKind.i64.wrap (k3 + 1) = k4 by rw [wrap64 (by omega) (by omega)]; exact hk4]
  have hkend : k4 = ki + cntTok ys[i] := by simp only [cntTok]; omega
  refine hnext _ _ rfl (congrArg (fun z => some (AV.c (Ce.int .i64 z))) hkend) rfl hnx hfr ?_
  rw [hset]
  subst hk0 hk1 hk2 hk3 hk4
  exact hh
def markChk (a : Chk) (k : Int) : Chk := ⟨markL markTok cntTok a.expr (k)⟩
def cntChk (a : Chk) : Int := 0 + cntL cntTok a.expr
theorem cntChk_nonneg (a : Chk) : 0 ≤ cntChk a := by
  have := cntL_nonneg (c := cntTok) cntTok_nonneg a.expr
  simp only [cntChk]
  omega
theorem cntChk_sz (a : Chk) (l : Int) (h : 0 ≤ l) (hs : 0 ≤ zChk a l) : cntChk a ≤ 8 * (l - zChk a l) + 8 := by
  have := chain_cnt (fs := [(szL zTok a.expr)]) (.cons (c := cntL cntTok a.expr) (fun q h hs => szL_cnt8 zTok_le cntTok_sz a.expr q h hs) .nil) l h hs
  simp only [cntChk]
  simp only [zChk] at hs ⊢
  omega
theorem markChkS_ok (xs : List Chk) (k : Int) (hx : xs.length ≤ 34359738368) (hb : ∀ a ∈ xs, bChk 34359738368 a) (hk0 : 0 ≤ k) (hk : k + cntL cntChk xs ≤ 34359738368) : Marks Tryz.prog 82 (.fz (xs.map encChk)) (.fz ((markL markChk cntChk xs k).map encChk)) k (k + cntL cntChk xs) := by
  refine markS_ok mixed c_laws_markCheckS_ok (Nat.le_of_ble_eq_true rfl) (Nat.le_of_ble_eq_true rfl) encChk markChk cntChk cntChk_nonneg xs k hx hk0 hk ?_
  intro n0 rets R K σ τ S x i ni ki ys hi fr hn0 hyl hni hki0 hki1 h0 h1 h5 hmem hh hnext
  have hi' : i < (ys.map encChk).length := by simpa using hi
  have hyi : (ys.map encChk)[i] = encChk ys[i] := by simp
  have hb := hb _ hmem
  obtain ⟨id, v, c, rfl⟩ := hh.shape hi'
  have hh : Has τ S (.fz ((ys.map encChk).set i (encChk ys[i]))) (.sl id v 0 (ys.map encChk).length c) := by rw [← hyi, List.set_getElem_self]; exact hh
  have hfr : ∀ a, ¬ S a → τ.get a = τ.get a := fun _ _ => rfl
  have hnx : τ.next = τ.next := rfl
  refine .same (look_three h0 h1 h5) ?_
  have hset : ∀ q, (ys.set i q).map encChk = (ys.map encChk).set i (encChk q) := fun q => List.map_set
  have hc0 := cntL_nonneg (c := cntTok) cntTok_nonneg ys[i].expr
  simp only [cntChk] at hki1
  obtain ⟨es0, e0, T0, hg0, he0, hel0, hTS0, hj0, hch0, hback0⟩ := hh.ch (j := 0) (y := .fz (ys[i].expr.map encTok)) hi' (Nat.le_of_ble_eq_true rfl) rfl
  repeat' first | (apply Go.adm; exact rfl) | apply Go.qs | apply Qg.nil | ((first | apply Go.op | apply Go.sop | apply Qg.op); exact rfl; (first | exact rfl | exact aop_iaddrO rfl rfl hni hi' hg0 he0 hel0 | exact aop_loadO rfl hg0 he0 (show 0 + 0 < e0.length by omega))) | (apply Go.no; exact rfl)
  refine Go.call _ rfl rfl rfl ((markTokS_ok ys[i].expr ki hb.1 hb.2 (by omega) (by omega)).at_ _ T0 _ hch0) ?_
  rintro r τ0 ⟨rfl, hn0, hf0, hhc0⟩
  have hh := hback0 τ0 _ hf0 hhc0
  have hfr := fun a (ha : ¬ S a) => (hf0 a (fun h => ha (hTS0 a h))).trans (hfr a ha)
  have hnx := hn0.trans hnx
  obtain ⟨k0, hk0⟩ : ∃ z, ki + cntL cntTok ys[i].expr = z := ⟨_, rfl⟩
  rw [hk0]
  clear hg0 he0 hel0 hch0 hback0 hf0 hn0 hhc0
  repeat' first | (apply Go.adm; exact rfl) | apply Go.qs | apply Qg.nil | ((first | apply Go.op | apply Go.sop | apply Qg.op); exact rfl; (first | exact rfl)) | (apply Go.no; exact rfl)
  have hkend : k0 = ki + cntChk ys[i] := by simp only [cntChk]; omega
  refine hnext _ _ rfl (congrArg (fun z => some (AV.c (Ce.int .i64 z))) hkend) rfl hnx hfr ?_
  rw [hset]
  subst hk0
  exact hh
def markUniq (a : Uniq) (k : Int) : Uniq := ⟨markL markI (fun _ => 1) a.cols (k)⟩
def cntUniq (a : Uniq) : Int := 0 + cntL (fun _ => 1) a.cols
theorem cntUniq_nonneg (a : Uniq) : 0 ≤ cntUniq a := by
  have := cntL_nonneg (c := (fun _ => 1)) (fun _ => by decide) a.cols
  simp only [cntUniq]
  omega
theorem cntUniq_sz (a : Uniq) (l : Int) (h : 0 ≤ l) (hs : 0 ≤ zUniq a l) : cntUniq a ≤ 8 * (l - zUniq a l) + 8 := by
  have := chain_cnt (fs := [(zI a.cols)]) (.cons (c := cntL (fun _ => 1) a.cols) (cnt_ints a.cols) .nil) l h hs
  simp only [cntUniq]
  simp only [zUniq] at hs ⊢
  omega
theorem markUniqS_ok (xs : List Uniq) (k : Int) (hx : xs.length ≤ 34359738368) (hb : ∀ a ∈ xs, bUniq 34359738368 a) (hk0 : 0 ≤ k) (hk : k + cntL cntUniq xs ≤ 34359738368) : Marks Tryz.prog 81 (.fz (xs.map encUniq)) (.fz ((markL markUniq cntUniq xs k).map encUniq)) k (k + cntL cntUniq xs) := by
  refine markS_ok mixed c_laws_markUniqueS_ok (Nat.le_of_ble_eq_true rfl) (Nat.le_of_ble_eq_true rfl) encUniq markUniq cntUniq cntUniq_nonneg xs k hx hk0 hk ?_
  intro n0 rets R K σ τ S x i ni ki ys hi fr hn0 hyl hni hki0 hki1 h0 h1 h5 hmem hh hnext
  have hi' : i < (ys.map encUniq).length := by simpa using hi
  have hyi : (ys.map encUniq)[i] = encUniq ys[i] := by simp
  have hb := hb _ hmem
  obtain ⟨id, v, c, rfl⟩ := hh.shape hi'
  have hh : Has τ S (.fz ((ys.map encUniq).set i (encUniq ys[i]))) (.sl id v 0 (ys.map encUniq).length c) := by rw [← hyi, List.set_getElem_self]; exact hh
  have hfr : ∀ a, ¬ S a → τ.get a = τ.get a := fun _ _ => rfl
  have hnx : τ.next = τ.next := rfl
  refine .same (look_three h0 h1 h5) ?_
  have hset : ∀ q, (ys.set i q).map encUniq = (ys.map encUniq).set i (encUniq q) := fun q => List.map_set
  have hc0 := cntL_nonneg (c := (fun _ => 1)) (fun _ => by decide) ys[i].cols
  simp only [cntUniq] at hki1
  obtain ⟨es0, e0, T0, hg0, he0, hel0, hTS0, hj0, hch0, hback0⟩ := hh.ch (j := 0) (y := .fz (ys[i].cols.map encI)) hi' (Nat.le_of_ble_eq_true rfl) rfl
  repeat' first | (apply Go.adm; exact rfl) | apply Go.qs | apply Qg.nil | ((first | apply Go.op | apply Go.sop | apply Qg.op); exact rfl; (first | exact rfl | exact aop_iaddrO rfl rfl hni hi' hg0 he0 hel0 | exact aop_loadO rfl hg0 he0 (show 0 + 0 < e0.length by omega))) | (apply Go.no; exact rfl)
  refine Go.call _ rfl rfl rfl ((markInt64S_ok ys[i].cols ki hb  (by omega) (by omega)).at_ _ T0 _ hch0) ?_
  rintro r τ0 ⟨rfl, hn0, hf0, hhc0⟩
  have hh := hback0 τ0 _ hf0 hhc0
  have hfr := fun a (ha : ¬ S a) => (hf0 a (fun h => ha (hTS0 a h))).trans (hfr a ha)
  have hnx := hn0.trans hnx
  obtain ⟨k0, hk0⟩ : ∃ z, ki + cntL (fun _ => 1) ys[i].cols = z := ⟨_, rfl⟩
  rw [hk0]
  clear hg0 he0 hel0 hch0 hback0 hf0 hn0 hhc0
  repeat' first | (apply Go.adm; exact rfl) | apply Go.qs | apply Qg.nil | ((first | apply Go.op | apply Go.sop | apply Qg.op); exact rfl; (first | exact rfl)) | (apply Go.no; exact rfl)
  have hkend : k0 = ki + cntUniq ys[i] := by simp only [cntUniq]; omega
  refine hnext _ _ rfl (congrArg (fun z => some (AV.c (Ce.int .i64 z))) hkend) rfl hnx hfr ?_
  rw [hset]
  subst hk0
  exact hh
def markFk (a : Fk) (k : Int) : Fk := ⟨markL markI (fun _ => 1) a.cols (k), mText (k + cntL (fun _ => 1) a.cols), k + cntL (fun _ => 1) a.cols + 1, k + cntL (fun _ => 1) a.cols + 1 + 1, (k + cntL (fun _ => 1) a.cols + 1 + 1 + 1).tmod 3 == 0⟩
def cntFk (a : Fk) : Int := 4 + cntL (fun _ => 1) a.cols
theorem cntFk_nonneg (a : Fk) : 0 ≤ cntFk a := by
  have := cntL_nonneg (c := (fun _ => 1)) (fun _ => by decide) a.cols
  simp only [cntFk]
  omega
theorem cntFk_sz (a : Fk) (l : Int) (h : 0 ≤ l) (hs : 0 ≤ zFk a l) : cntFk a ≤ 8 * (l - zFk a l) + 8 := by
  have := chain_cnt (fs := [(zI a.cols), (fun l => l - a.table.length)]) (.cons (c := cntL (fun _ => 1) a.cols) (cnt_ints a.cols) (.cons (c := 0) (cnt_str a.table) .nil)) l h hs
  simp only [cntFk]
  simp only [zFk] at hs ⊢
  omega
theorem markFkS_ok (xs : List Fk) (k : Int) (hx : xs.length ≤ 34359738368) (hb : ∀ a ∈ xs, bFk 34359738368 a) (hk0 : 0 ≤ k) (hk : k + cntL cntFk xs ≤ 34359738368) : Marks Tryz.prog 83 (.fz (xs.map encFk)) (.fz ((markL markFk cntFk xs k).map encFk)) k (k + cntL cntFk xs) := by
  refine markS_ok mixed c_laws_markFkS_ok (Nat.le_of_ble_eq_true rfl) (Nat.le_of_ble_eq_true rfl) encFk markFk cntFk cntFk_nonneg xs k hx hk0 hk ?_
  intro n0 rets R K σ τ S x i ni ki ys hi fr hn0 hyl hni hki0 hki1 h0 h1 h5 hmem hh hnext
  have hi' : i < (ys.map encFk).length := by simpa using hi
  have hyi : (ys.map encFk)[i] = encFk ys[i] := by simp
  have hb := hb _ hmem
  obtain ⟨id, v, c, rfl⟩ := hh.shape hi'
  have hh : Has τ S (.fz ((ys.map encFk).set i (encFk ys[i]))) (.sl id v 0 (ys.map encFk).length c) := by rw [← hyi, List.set_getElem_self]; exact hh
  have hfr : ∀ a, ¬ S a → τ.get a = τ.get a := fun _ _ => rfl
  have hnx : τ.next = τ.next := rfl
  refine .same (look_three h0 h1 h5) ?_
  have hset : ∀ q, (ys.set i q).map encFk = (ys.map encFk).set i (encFk q) := fun q => List.map_set
  have hc0 := cntL_nonneg (c := (fun _ => 1)) (fun _ => by decide) ys[i].cols
  simp only [cntFk] at hki1
  obtain ⟨es0, e0, T0, hg0, he0, hel0, hTS0, hj0, hch0, hback0⟩ := hh.ch (j := 0) (y := .fz (ys[i].cols.map encI)) hi' (Nat.le_of_ble_eq_true rfl) rfl
  repeat' first | (apply Go.adm; exact rfl) | apply Go.qs | apply Qg.nil | ((first | apply Go.op | apply Go.sop | apply Qg.op); exact rfl; (first | exact rfl | exact aop_iaddrO rfl rfl hni hi' hg0 he0 hel0 | exact aop_loadO rfl hg0 he0 (show 0 + 0 < e0.length by omega))) | (apply Go.no; exact rfl)
  refine Go.call _ rfl rfl rfl ((markInt64S_ok ys[i].cols ki hb.1  (by omega) (by omega)).at_ _ T0 _ hch0) ?_
  rintro r τ0 ⟨rfl, hn0, hf0, hhc0⟩
  have hh := hback0 τ0 _ hf0 hhc0
  have hfr := fun a (ha : ¬ S a) => (hf0 a (fun h => ha (hTS0 a h))).trans (hfr a ha)
  have hnx := hn0.trans hnx
  obtain ⟨k0, hk0⟩ : ∃ z, ki + cntL (fun _ => 1) ys[i].cols = z := ⟨_, rfl⟩
  rw [hk0]
  clear hg0 he0 hel0 hch0 hback0 hf0 hn0 hhc0
  obtain ⟨es1, e1, hg1, he1, hel1, hS1, hw1⟩ := hh.wr (j := 1) hi' (Nat.le_of_ble_eq_true rfl)
  have hel1 : e1.length = 5 := hel1
  obtain ⟨hh, hf1, hn1⟩ := hw1 (.str (mText k0)) (.str _)
  have hfr := fun a (ha : ¬ S a) => (hf1 a ha).trans (hfr a ha)
  have hnx := hn1.trans hnx
  repeat' first | (apply Go.adm; exact rfl) | apply Go.qs | apply Qg.nil | ((first | apply Go.op | apply Go.sop | apply Qg.op); exact rfl; (first | exact rfl | exact aop_iaddrO rfl rfl hni hi' hg1 he1 hel1 | exact aop_storeO rfl rfl hg1 he1 (by omega))) | (apply Go.no; exact rfl) | ((first | apply Go.pcall | apply Go.spcall | apply Qg.pcall); (iterate 3 exact rfl); exact markText_ok _ (by omega))
  obtain ⟨k1, hk1⟩ : ∃ z, k0 + 1 = z := ⟨_, rfl⟩
  rw [show IntKind.i64.wrap (k0 + 1) = k1 by rw [wrap64 (by omega) (by omega)]; exact hk1]
  obtain ⟨es2, e2, hg2, he2, hel2, hS2, hw2⟩ := hh.wr (j := 2) hi' (Nat.le_of_ble_eq_true rfl)
  have hel2 : e2.length = 5 := hel2
  obtain ⟨hh, hf2, hn2⟩ := hw2 (.int .i64 k1) (.int _ _)
  have hfr := fun a (ha : ¬ S a) => (hf2 a ha).trans (hfr a ha)
  have hnx := hn2.trans hnx
  repeat' first | (apply Go.adm; exact rfl) | apply Go.qs | apply Qg.nil | ((first | apply Go.op | apply Go.sop | apply Qg.op); exact rfl; (first | exact rfl | exact aop_iaddrO rfl rfl hni hi' hg2 he2 hel2 | exact aop_storeO rfl rfl hg2 he2 (by omega))) | (apply Go.no; exact rfl)
  obtain ⟨k2, hk2⟩ : ∃ z, k1 + 1 = z := ⟨_, rfl⟩
  rw [show IntKind.i64.wrap (k1 + 1) = k2 by rw [wrap64 (by omega) (by omega)]; exact hk2]
  obtain ⟨es3, e3, hg3, he3, hel3, hS3, hw3⟩ := hh.wr (j := 3) hi' (Nat.le_of_ble_eq_true rfl)
  have hel3 : e3.length = 5 := hel3
  obtain ⟨hh, hf3, hn3⟩ := hw3 (.int .i64 k2) (.int _ _)
  have hfr := fun a (ha : ¬ S a) => (hf3 a ha).trans (hfr a ha)
  have hnx := hn3.trans hnx
  repeat' first | (apply Go.adm; exact rfl) | apply Go.qs | apply Qg.nil | ((first | apply Go.op | apply Go.sop | apply Qg.op); exact rfl; (first | exact rfl | exact aop_iaddrO rfl rfl hni hi' hg3 he3 hel3 | exact aop_storeO rfl rfl hg3 he3 (by omega))) | (apply Go.no; exact rfl)
  obtain ⟨k3, hk3⟩ : ∃ z, k2 + 1 = z := ⟨_, rfl⟩
  rw [show IntKind.i64.wrap (k2 + 1) = k3 by rw [wrap64 (by omega) (by omega)]; exact hk3]
  obtain ⟨es4, e4, hg4, he4, hel4, hS4, hw4⟩ := hh.wr (j := 4) hi' (Nat.le_of_ble_eq_true rfl)
  have hel4 : e4.length = 5 := hel4
  obtain ⟨hh, hf4, hn4⟩ := hw4 (.bool ((k3).tmod 3 == 0)) (.bool _)
  have hfr := fun a (ha : ¬ S a) => (hf4 a ha).trans (hfr a ha)
  have hnx := hn4.trans hnx
  repeat' first | (apply Go.adm; exact rfl) | apply Go.qs | apply Qg.nil | ((first | apply Go.op | apply Go.sop | apply Qg.op); exact rfl; (first | exact rfl | exact aop_iaddrO rfl rfl hni hi' hg4 he4 hel4 | exact aop_storeO rfl rfl hg4 he4 (by omega) | exact aop_rem rfl rfl (by decide))) | (apply Go.no; exact rfl)
  obtain ⟨k4, hk4⟩ : ∃ z, k3 + 1 = z := ⟨_, rfl⟩
  rw [show IntKind.i64.wrap (k3 + 1) = k4 by rw [wrap64 (by omega) (by omega)]; exact hk4]
  have hkend : k4 = ki + cntFk ys[i] := by simp only [cntFk]; omega
  refine hnext _ _ rfl (congrArg (fun z => some (AV.c (Ce.int .i64 z))) hkend) rfl hnx hfr ?_
  rw [hset]
  subst hk0 hk1 hk2 hk3 hk4
  exact hh
def markCol (a : Col) (k : Int) : Col := ⟨mText (k), k + 1, (k + 1 + 1).tmod 3 == 0, ⟨k + 1 + 1 + 1, k + 1 + 1 + 1 + 1, mText (k + 1 + 1 + 1 + 1 + 1)⟩⟩
def cntCol (a : Col) : Int := 6
theorem cntCol_nonneg (a : Col) : 0 ≤ cntCol a := by
  simp only [cntCol]
  omega
theorem cntCol_sz (a : Col) (l : Int) (h : 0 ≤ l) (hs : 0 ≤ zCol a l) : cntCol a ≤ 8 * (l - zCol a l) + 8 := by
  have := chain_cnt (fs := [(fun l => l - a.name.length), (szV a.dflt)]) (.cons (c := 0) (cnt_str a.name) (.cons (c := 0) (fun q h hs => by have := szV_le a.dflt q h; omega) .nil)) l h hs
  simp only [cntCol]
  simp only [zCol] at hs ⊢
  omega
theorem markColS_ok (xs : List Col) (k : Int) (hx : xs.length ≤ 34359738368) (hb : ∀ a ∈ xs, bCol 34359738368 a) (hk0 : 0 ≤ k) (hk : k + cntL cntCol xs ≤ 34359738368) : Marks Tryz.prog 80 (.fz (xs.map encCol)) (.fz ((markL markCol cntCol xs k).map encCol)) k (k + cntL cntCol xs) := by
  refine markS_ok mixed c_laws_markColS_ok (Nat.le_of_ble_eq_true rfl) (Nat.le_of_ble_eq_true rfl) encCol markCol cntCol cntCol_nonneg xs k hx hk0 hk ?_
  intro n0 rets R K σ τ S x i ni ki ys hi fr hn0 hyl hni hki0 hki1 h0 h1 h5 hmem hh hnext
  have hi' : i < (ys.map encCol).length := by simpa using hi
  have hyi : (ys.map encCol)[i] = encCol ys[i] := by simp
  have hb := hb _ hmem
  obtain ⟨id, v, c, rfl⟩ := hh.shape hi'
  have hh : Has τ S (.fz ((ys.map encCol).set i (encCol ys[i]))) (.sl id v 0 (ys.map encCol).length c) := by rw [← hyi, List.set_getElem_self]; exact hh
  have hfr : ∀ a, ¬ S a → τ.get a = τ.get a := fun _ _ => rfl
  have hnx : τ.next = τ.next := rfl
  refine .same (look_three h0 h1 h5) ?_
  have hset : ∀ q, (ys.set i q).map encCol = (ys.map encCol).set i (encCol q) := fun q => List.map_set
  simp only [cntCol] at hki1
  obtain ⟨es0, e0, hg0, he0, hel0, hS0, hw0⟩ := hh.wr (j := 0) hi' (Nat.le_of_ble_eq_true rfl)
  have hel0 : e0.length = 6 := hel0
  obtain ⟨hh, hf0, hn0⟩ := hw0 (.str (mText ki)) (.str _)
  have hfr := fun a (ha : ¬ S a) => (hf0 a ha).trans (hfr a ha)
  have hnx := hn0.trans hnx
  repeat' first | (apply Go.adm; exact rfl) | apply Go.qs | apply Qg.nil | ((first | apply Go.op | apply Go.sop | apply Qg.op); exact rfl; (first | exact rfl | exact aop_iaddrO rfl rfl hni hi' hg0 he0 hel0 | exact aop_storeO rfl rfl hg0 he0 (by omega))) | (apply Go.no; exact rfl) | ((first | apply Go.pcall | apply Go.spcall | apply Qg.pcall); (iterate 3 exact rfl); exact markText_ok _ (by omega))
  obtain ⟨k0, hk0⟩ : ∃ z, ki + 1 = z := ⟨_, rfl⟩
  rw [show IntKind.i64.wrap (ki + 1) = k0 by rw [wrap64 (by omega) (by omega)]; exact hk0]
  obtain ⟨es1, e1, hg1, he1, hel1, hS1, hw1⟩ := hh.wr (j := 1) hi' (Nat.le_of_ble_eq_true rfl)
  have hel1 : e1.length = 6 := hel1
  obtain ⟨hh, hf1, hn1⟩ := hw1 (.int .i64 k0) (.int _ _)
  have hfr := fun a (ha : ¬ S a) => (hf1 a ha).trans (hfr a ha)
  have hnx := hn1.trans hnx
  repeat' first | (apply Go.adm; exact rfl) | apply Go.qs | apply Qg.nil | ((first | apply Go.op | apply Go.sop | apply Qg.op); exact rfl; (first | exact rfl | exact aop_iaddrO rfl rfl hni hi' hg1 he1 hel1 | exact aop_storeO rfl rfl hg1 he1 (by omega))) | (apply Go.no; exact rfl)
  obtain ⟨k1, hk1⟩ : ∃ z, k0 + 1 = z := ⟨_, rfl⟩
  rw [show IntKind.i64.wrap (k0 + 1) = k1 by rw [wrap64 (by omega) (by omega)]; exact hk1]
  obtain ⟨es2, e2, hg2, he2, hel2, hS2, hw2⟩ := hh.wr (j := 2) hi' (Nat.le_of_ble_eq_true rfl)
  have hel2 : e2.length = 6 := hel2
  obtain ⟨hh, hf2, hn2⟩ := hw2 (.bool ((k1).tmod 3 == 0)) (.bool _)
  have hfr := fun a (ha : ¬ S a) => (hf2 a ha).trans (hfr a ha)
  have hnx := hn2.trans hnx
  repeat' first | (apply Go.adm; exact rfl) | apply Go.qs | apply Qg.nil | ((first | apply Go.op | apply Go.sop | apply Qg.op); exact rfl; (first | exact rfl | exact aop_iaddrO rfl rfl hni hi' hg2 he2 hel2 | exact aop_storeO rfl rfl hg2 he2 (by omega) | exact aop_rem rfl rfl (by decide))) | (apply Go.no; exact rfl)
  obtain ⟨k2, hk2⟩ : ∃ z, k1 + 1 = z := ⟨_, rfl⟩
  rw [show IntKind.i64.wrap (k1 + 1) = k2 by rw [wrap64 (by omega) (by omega)]; exact hk2]
  obtain ⟨es3, e3, hg3, he3, hel3, hS3, hw3⟩ := hh.wr (j := 3) hi' (Nat.le_of_ble_eq_true rfl)
  have hel3 : e3.length = 6 := hel3
  obtain ⟨hh, hf3, hn3⟩ := hw3 (.int .i64 k2) (.int _ _)
  have hfr := fun a (ha : ¬ S a) => (hf3 a ha).trans (hfr a ha)
  have hnx := hn3.trans hnx
  repeat' first | (apply Go.adm; exact rfl) | apply Go.qs | apply Qg.nil | ((first | apply Go.op | apply Go.sop | apply Qg.op); exact rfl; (first | exact rfl | exact aop_iaddrO rfl rfl hni hi' hg3 he3 hel3 | exact aop_storeO rfl rfl hg3 he3 (by omega))) | (apply Go.no; exact rfl)
  obtain ⟨k3, hk3⟩ : ∃ z, k2 + 1 = z := ⟨_, rfl⟩
  rw [show IntKind.i64.wrap (k2 + 1) = k3 by rw [wrap64 (by omega) (by omega)]; exact hk3]
  obtain ⟨es4, e4, hg4, he4, hel4, hS4, hw4⟩ := hh.wr (j := 4) hi' (Nat.le_of_ble_eq_true rfl)
  have hel4 : e4.length = 6 := hel4
  obtain ⟨hh, hf4, hn4⟩ := hw4 (.int .i64 k3) (.int _ _)
  have hfr := fun a (ha : ¬ S a) => (hf4 a ha).trans (hfr a ha)
  have hnx := hn4.trans hnx
  repeat' first | (apply Go.adm; exact rfl) | apply Go.qs | apply Qg.nil | ((first | apply Go.op | apply Go.sop | apply Qg.op); exact rfl; (first | exact rfl | exact aop_iaddrO rfl rfl hni hi' hg4 he4 hel4 | exact aop_storeO rfl rfl hg4 he4 (by omega))) | (apply Go.no; exact rfl)
  obtain ⟨k4, hk4⟩ : ∃ z, k3 + 1 = z := ⟨_, rfl⟩
  rw [show IntKind.i64.wrap (k3 + 1) = k4 by rw [wrap64 (by omega) (by omega)]; exact hk4]
  obtain ⟨es5, e5, hg5, he5, hel5, hS5, hw5⟩ := hh.wr (j := 5) hi' (Nat.le_of_ble_eq_true rfl)
  have hel5 : e5.length = 6 := hel5
  obtain ⟨hh, hf5, hn5⟩ := hw5 (.str (mText k4)) (.str _)
  have hfr := fun a (ha : ¬ S a) => (hf5 a ha).trans (hfr a ha)
  have hnx := hn5.trans hnx
  repeat' first | (apply Go.adm; exact rfl) | apply Go.qs | apply Qg.nil | ((first | apply Go.op | apply Go.sop | apply Qg.op); exact rfl; (first | exact rfl | exact aop_iaddrO rfl rfl hni hi' hg5 he5 hel5 | exact aop_storeO rfl rfl hg5 he5 (by omega))) | (apply Go.no; exact rfl) | ((first | apply Go.pcall | apply Go.spcall | apply Qg.pcall); (iterate 3 exact rfl); exact markText_ok _ (by omega))
  obtain ⟨k5, hk5⟩ : ∃ z, k4 + 1 = z := ⟨_, rfl⟩
  rw [show IntKind.i64.wrap (k4 + 1) = k5 by rw [wrap64 (by omega) (by omega)]; exact hk5]
  have hkend : k5 = ki + cntCol ys[i] := by simp only [cntCol]; omega
  refine hnext _ _ rfl (congrArg (fun z => some (AV.c (Ce.int .i64 z))) hkend) rfl hnx hfr ?_
  rw [hset]
  subst hk0 hk1 hk2 hk3 hk4 hk5
  exact hh
end Go.Proofs.YtcfpdongfdhgjaaGreat.Am

/- The laws' helpers on types, printed by a program: Row, Data, Line. -/
set_option linter.unusedVariables false
set_option linter.unusedSimpArgs false
namespace Go.Proofs.YtcfpdongfdhgjaaGreat.Am
def markRowD (a : RowD) (k : Int) : RowD := ⟨k, markL markV (fun _ => 3) a.vals (k + 1)⟩
def cntRowD (a : RowD) : Int := 1 + cntL (fun _ => 3) a.vals
theorem cntRowD_nonneg (a : RowD) : 0 ≤ cntRowD a := by
  have := cntL_nonneg (c := (fun _ => 3)) (fun _ => by decide) a.vals
  simp only [cntRowD]
  omega
theorem cntRowD_sz (a : RowD) (l : Int) (h : 0 ≤ l) (hs : 0 ≤ zRowD a l) : cntRowD a ≤ 8 * (l - zRowD a l) + 8 := by
  have := chain_cnt (fs := [(szL szV a.vals)]) (.cons (c := cntL (fun _ => 3) a.vals) (fun q h hs => szL_cnt8 szV_le szV_cnt a.vals q h hs) .nil) l h hs
  simp only [cntRowD]
  simp only [zRowD] at hs ⊢
  omega
theorem markRowDS_ok (xs : List RowD) (k : Int) (hx : xs.length ≤ 34359738368) (hb : ∀ a ∈ xs, bRowD 34359738368 a) (hk0 : 0 ≤ k) (hk : k + cntL cntRowD xs ≤ 34359738368) : Marks Tryz.prog 101 (.fz (xs.map encRowD)) (.fz ((markL markRowD cntRowD xs k).map encRowD)) k (k + cntL cntRowD xs) := by
  refine markS_ok mixed c_laws_markRowS_ok (Nat.le_of_ble_eq_true rfl) (Nat.le_of_ble_eq_true rfl) encRowD markRowD cntRowD cntRowD_nonneg xs k hx hk0 hk ?_
  intro n0 rets R K σ τ S x i ni ki ys hi fr hn0 hyl hni hki0 hki1 h0 h1 h5 hmem hh hnext
  have hi' : i < (ys.map encRowD).length := by simpa using hi
  have hyi : (ys.map encRowD)[i] = encRowD ys[i] := by simp
  have hb := hb _ hmem
  obtain ⟨id, v, c, rfl⟩ := hh.shape hi'
  have hh : Has τ S (.fz ((ys.map encRowD).set i (encRowD ys[i]))) (.sl id v 0 (ys.map encRowD).length c) := by rw [← hyi, List.set_getElem_self]; exact hh
  have hfr : ∀ a, ¬ S a → τ.get a = τ.get a := fun _ _ => rfl
  have hnx : τ.next = τ.next := rfl
  refine .same (look_three h0 h1 h5) ?_
  have hset : ∀ q, (ys.set i q).map encRowD = (ys.map encRowD).set i (encRowD q) := fun q => List.map_set
  have hc0 := cntL_nonneg (c := (fun _ => 3)) (fun _ => by decide) ys[i].vals
  simp only [cntRowD] at hki1
  obtain ⟨es0, e0, hg0, he0, hel0, hS0, hw0⟩ := hh.wr (j := 0) hi' (Nat.le_of_ble_eq_true rfl)
  have hel0 : e0.length = 2 := hel0
  obtain ⟨hh, hf0, hn0⟩ := hw0 (.int .i64 ki) (.int _ _)
  have hfr := fun a (ha : ¬ S a) => (hf0 a ha).trans (hfr a ha)
  have hnx := hn0.trans hnx
  repeat' first | (apply Go.adm; exact rfl) | apply Go.qs | apply Qg.nil | ((first | apply Go.op | apply Go.sop | apply Qg.op); exact rfl; (first | exact rfl | exact aop_iaddrO rfl rfl hni hi' hg0 he0 hel0 | exact aop_storeO rfl rfl hg0 he0 (by omega))) | (apply Go.no; exact rfl)
  obtain ⟨k0, hk0⟩ : ∃ z, ki + 1 = z := ⟨_, rfl⟩
  rw [show IntKind.i64.wrap (ki + 1) = k0 by rw [wrap64 (by omega) (by omega)]; exact hk0]
  obtain ⟨es1, e1, T1, hg1, he1, hel1, hTS1, hj1, hch1, hback1⟩ := hh.ch (j := 1) (y := .fz (ys[i].vals.map encV)) hi' (Nat.le_of_ble_eq_true rfl) rfl
  repeat' first | (apply Go.adm; exact rfl) | apply Go.qs | apply Qg.nil | ((first | apply Go.op | apply Go.sop | apply Qg.op); exact rfl; (first | exact rfl | exact aop_iaddrO rfl rfl hni hi' hg1 he1 hel1 | exact aop_loadO rfl hg1 he1 (show 0 + 1 < e1.length by omega))) | (apply Go.no; exact rfl)
  refine Go.call _ rfl rfl rfl ((markValS_ok ys[i].vals k0 hb.1 (by omega) (by omega)).at_ _ T1 _ hch1) ?_
  rintro r τ1 ⟨rfl, hn1, hf1, hhc1⟩
  have hh := hback1 τ1 _ hf1 hhc1
  have hfr := fun a (ha : ¬ S a) => (hf1 a (fun h => ha (hTS1 a h))).trans (hfr a ha)
  have hnx := hn1.trans hnx
  obtain ⟨k1, hk1⟩ : ∃ z, k0 + cntL (fun _ => 3) ys[i].vals = z := ⟨_, rfl⟩
  rw [hk1]
  clear hg1 he1 hel1 hch1 hback1 hf1 hn1 hhc1
  repeat' first | (apply Go.adm; exact rfl) | apply Go.qs | apply Qg.nil | ((first | apply Go.op | apply Go.sop | apply Qg.op); exact rfl; (first | exact rfl)) | (apply Go.no; exact rfl)
  have hkend : k1 = ki + cntRowD ys[i] := by simp only [cntRowD]; omega
  refine hnext _ _ rfl (congrArg (fun z => some (AV.c (Ce.int .i64 z))) hkend) rfl hnx hfr ?_
  rw [hset]
  subst hk0 hk1
  exact hh
def markData (a : Data) (k : Int) : Data := ⟨markL markRowD cntRowD a.rows (k)⟩
def cntData (a : Data) : Int := 0 + cntL cntRowD a.rows
theorem cntData_nonneg (a : Data) : 0 ≤ cntData a := by
  have := cntL_nonneg (c := cntRowD) cntRowD_nonneg a.rows
  simp only [cntData]
  omega
theorem cntData_sz (a : Data) (l : Int) (h : 0 ≤ l) (hs : 0 ≤ zData a l) : cntData a ≤ 8 * (l - zData a l) + 8 := by
  have := chain_cnt (fs := [(szL zRowD a.rows)]) (.cons (c := cntL cntRowD a.rows) (fun q h hs => szL_cnt8 zRowD_le cntRowD_sz a.rows q h hs) .nil) l h hs
  simp only [cntData]
  simp only [zData] at hs ⊢
  omega
theorem markDataS_ok (xs : List Data) (k : Int) (hx : xs.length ≤ 34359738368) (hb : ∀ a ∈ xs, bData 34359738368 a) (hk0 : 0 ≤ k) (hk : k + cntL cntData xs ≤ 34359738368) : Marks Tryz.prog 30 (.fz (xs.map encData)) (.fz ((markL markData cntData xs k).map encData)) k (k + cntL cntData xs) := by
  refine markS_ok mixed c_laws_markDataS_ok (Nat.le_of_ble_eq_true rfl) (Nat.le_of_ble_eq_true rfl) encData markData cntData cntData_nonneg xs k hx hk0 hk ?_
  intro n0 rets R K σ τ S x i ni ki ys hi fr hn0 hyl hni hki0 hki1 h0 h1 h5 hmem hh hnext
  have hi' : i < (ys.map encData).length := by simpa using hi
  have hyi : (ys.map encData)[i] = encData ys[i] := by simp
  have hb := hb _ hmem
  obtain ⟨id, v, c, rfl⟩ := hh.shape hi'
  have hh : Has τ S (.fz ((ys.map encData).set i (encData ys[i]))) (.sl id v 0 (ys.map encData).length c) := by rw [← hyi, List.set_getElem_self]; exact hh
  have hfr : ∀ a, ¬ S a → τ.get a = τ.get a := fun _ _ => rfl
  have hnx : τ.next = τ.next := rfl
  refine .same (look_three h0 h1 h5) ?_
  have hset : ∀ q, (ys.set i q).map encData = (ys.map encData).set i (encData q) := fun q => List.map_set
  have hc0 := cntL_nonneg (c := cntRowD) cntRowD_nonneg ys[i].rows
  simp only [cntData] at hki1
  obtain ⟨es0, e0, T0, hg0, he0, hel0, hTS0, hj0, hch0, hback0⟩ := hh.ch (j := 0) (y := .fz (ys[i].rows.map encRowD)) hi' (Nat.le_of_ble_eq_true rfl) rfl
  repeat' first | (apply Go.adm; exact rfl) | apply Go.qs | apply Qg.nil | ((first | apply Go.op | apply Go.sop | apply Qg.op); exact rfl; (first | exact rfl | exact aop_iaddrO rfl rfl hni hi' hg0 he0 hel0 | exact aop_loadO rfl hg0 he0 (show 0 + 0 < e0.length by omega))) | (apply Go.no; exact rfl)
  refine Go.call _ rfl rfl rfl ((markRowDS_ok ys[i].rows ki hb.1 hb.2 (by omega) (by omega)).at_ _ T0 _ hch0) ?_
  rintro r τ0 ⟨rfl, hn0, hf0, hhc0⟩
  have hh := hback0 τ0 _ hf0 hhc0
  have hfr := fun a (ha : ¬ S a) => (hf0 a (fun h => ha (hTS0 a h))).trans (hfr a ha)
  have hnx := hn0.trans hnx
  obtain ⟨k0, hk0⟩ : ∃ z, ki + cntL cntRowD ys[i].rows = z := ⟨_, rfl⟩
  rw [hk0]
  clear hg0 he0 hel0 hch0 hback0 hf0 hn0 hhc0
  repeat' first | (apply Go.adm; exact rfl) | apply Go.qs | apply Qg.nil | ((first | apply Go.op | apply Go.sop | apply Qg.op); exact rfl; (first | exact rfl)) | (apply Go.no; exact rfl)
  have hkend : k0 = ki + cntData ys[i] := by simp only [cntData]; omega
  refine hnext _ _ rfl (congrArg (fun z => some (AV.c (Ce.int .i64 z))) hkend) rfl hnx hfr ?_
  rw [hset]
  subst hk0
  exact hh
end Go.Proofs.YtcfpdongfdhgjaaGreat.Am

/- The laws' helpers on types, printed by a program: Table, Term, Trigger. -/
set_option linter.unusedVariables false
set_option linter.unusedSimpArgs false
namespace Go.Proofs.YtcfpdongfdhgjaaGreat.Am
def markTable (a : Table) (k : Int) : Table := ⟨mText (k), markL markCol cntCol a.cols (k + 1), markL markI (fun _ => 1) a.key (k + 1 + cntL cntCol a.cols), markL markUniq cntUniq a.uniques (k + 1 + cntL cntCol a.cols + cntL (fun _ => 1) a.key), markL markChk cntChk a.checks (k + 1 + cntL cntCol a.cols + cntL (fun _ => 1) a.key + cntL cntUniq a.uniques), markL markFk cntFk a.fks (k + 1 + cntL cntCol a.cols + cntL (fun _ => 1) a.key + cntL cntUniq a.uniques + cntL cntChk a.checks)⟩
def cntTable (a : Table) : Int := 1 + cntL cntCol a.cols + cntL (fun _ => 1) a.key + cntL cntUniq a.uniques + cntL cntChk a.checks + cntL cntFk a.fks
theorem cntTable_nonneg (a : Table) : 0 ≤ cntTable a := by
  have := cntL_nonneg (c := cntCol) cntCol_nonneg a.cols
  have := cntL_nonneg (c := (fun _ => 1)) (fun _ => by decide) a.key
  have := cntL_nonneg (c := cntUniq) cntUniq_nonneg a.uniques
  have := cntL_nonneg (c := cntChk) cntChk_nonneg a.checks
  have := cntL_nonneg (c := cntFk) cntFk_nonneg a.fks
  simp only [cntTable]
  omega
theorem cntTable_sz (a : Table) (l : Int) (h : 0 ≤ l) (hs : 0 ≤ zTable a l) : cntTable a ≤ 8 * (l - zTable a l) + 8 := by
  have := chain_cnt (fs := [(fun l => l - a.name.length), (szL zCol a.cols), (zI a.key), (szL zUniq a.uniques), (szL zChk a.checks), (szL zFk a.fks)]) (.cons (c := 0) (cnt_str a.name) (.cons (c := cntL cntCol a.cols) (fun q h hs => szL_cnt8 zCol_le cntCol_sz a.cols q h hs) (.cons (c := cntL (fun _ => 1) a.key) (cnt_ints a.key) (.cons (c := cntL cntUniq a.uniques) (fun q h hs => szL_cnt8 zUniq_le cntUniq_sz a.uniques q h hs) (.cons (c := cntL cntChk a.checks) (fun q h hs => szL_cnt8 zChk_le cntChk_sz a.checks q h hs) (.cons (c := cntL cntFk a.fks) (fun q h hs => szL_cnt8 zFk_le cntFk_sz a.fks q h hs) .nil)))))) l h hs
  simp only [cntTable]
  simp only [zTable] at hs ⊢
  omega
theorem markTableS_ok (xs : List Table) (k : Int) (hx : xs.length ≤ 34359738368) (hb : ∀ a ∈ xs, bTable 34359738368 a) (hk0 : 0 ≤ k) (hk : k + cntL cntTable xs ≤ 34359738368) : Marks Tryz.prog 18 (.fz (xs.map encTable)) (.fz ((markL markTable cntTable xs k).map encTable)) k (k + cntL cntTable xs) := by
  refine markS_ok mixed c_laws_markTableS_ok (Nat.le_of_ble_eq_true rfl) (Nat.le_of_ble_eq_true rfl) encTable markTable cntTable cntTable_nonneg xs k hx hk0 hk ?_
  intro n0 rets R K σ τ S x i ni ki ys hi fr hn0 hyl hni hki0 hki1 h0 h1 h5 hmem hh hnext
  have hi' : i < (ys.map encTable).length := by simpa using hi
  have hyi : (ys.map encTable)[i] = encTable ys[i] := by simp
  have hb := hb _ hmem
  obtain ⟨id, v, c, rfl⟩ := hh.shape hi'
  have hh : Has τ S (.fz ((ys.map encTable).set i (encTable ys[i]))) (.sl id v 0 (ys.map encTable).length c) := by rw [← hyi, List.set_getElem_self]; exact hh
  have hfr : ∀ a, ¬ S a → τ.get a = τ.get a := fun _ _ => rfl
  have hnx : τ.next = τ.next := rfl
  refine .same (look_three h0 h1 h5) ?_
  have hset : ∀ q, (ys.set i q).map encTable = (ys.map encTable).set i (encTable q) := fun q => List.map_set
  have hc0 := cntL_nonneg (c := cntCol) cntCol_nonneg ys[i].cols
  have hc1 := cntL_nonneg (c := (fun _ => 1)) (fun _ => by decide) ys[i].key
  have hc2 := cntL_nonneg (c := cntUniq) cntUniq_nonneg ys[i].uniques
  have hc3 := cntL_nonneg (c := cntChk) cntChk_nonneg ys[i].checks
  have hc4 := cntL_nonneg (c := cntFk) cntFk_nonneg ys[i].fks
  simp only [cntTable] at hki1
  obtain ⟨es0, e0, hg0, he0, hel0, hS0, hw0⟩ := hh.wr (j := 0) hi' (Nat.le_of_ble_eq_true rfl)
  have hel0 : e0.length = 6 := hel0
  obtain ⟨hh, hf0, hn0⟩ := hw0 (.str (mText ki)) (.str _)
  have hfr := fun a (ha : ¬ S a) => (hf0 a ha).trans (hfr a ha)
  have hnx := hn0.trans hnx
  repeat' first | (apply Go.adm; exact rfl) | apply Go.qs | apply Qg.nil | ((first | apply Go.op | apply Go.sop | apply Qg.op); exact rfl; (first | exact rfl | exact aop_iaddrO rfl rfl hni hi' hg0 he0 hel0 | exact aop_storeO rfl rfl hg0 he0 (by omega))) | (apply Go.no; exact rfl) | ((first | apply Go.pcall | apply Go.spcall | apply Qg.pcall); (iterate 3 exact rfl); exact markText_ok _ (by omega))
  obtain ⟨k0, hk0⟩ : ∃ z, ki + 1 = z := ⟨_, rfl⟩
  rw [show IntKind.i64.wrap (ki + 1) = k0 by rw [wrap64 (by omega) (by omega)]; exact hk0]
  obtain ⟨es1, e1, T1, hg1, he1, hel1, hTS1, hj1, hch1, hback1⟩ := hh.ch (j := 1) (y := .fz (ys[i].cols.map encCol)) hi' (Nat.le_of_ble_eq_true rfl) rfl
  repeat' first | (apply Go.adm; exact rfl) | apply Go.qs | apply Qg.nil | ((first | apply Go.op | apply Go.sop | apply Qg.op); exact rfl; (first | exact rfl | exact aop_iaddrO rfl rfl hni hi' hg1 he1 hel1 | exact aop_loadO rfl hg1 he1 (show 0 + 1 < e1.length by omega))) | (apply Go.no; exact rfl)
  refine Go.call _ rfl rfl rfl ((markColS_ok ys[i].cols k0 hb.2.1.1 hb.2.1.2 (by omega) (by omega)).at_ _ T1 _ hch1) ?_
  rintro r τ1 ⟨rfl, hn1, hf1, hhc1⟩
  have hh := hback1 τ1 _ hf1 hhc1
  have hfr := fun a (ha : ¬ S a) => (hf1 a (fun h => ha (hTS1 a h))).trans (hfr a ha)
  have hnx := hn1.trans hnx
  obtain ⟨k1, hk1⟩ : ∃ z, k0 + cntL cntCol ys[i].cols = z := ⟨_, rfl⟩
  rw [hk1]
  clear hg1 he1 hel1 hch1 hback1 hf1 hn1 hhc1
  obtain ⟨es2, e2, T2, hg2, he2, hel2, hTS2, hj2, hch2, hback2⟩ := hh.ch (j := 2) (y := .fz (ys[i].key.map encI)) hi' (Nat.le_of_ble_eq_true rfl) rfl
  repeat' first | (apply Go.adm; exact rfl) | apply Go.qs | apply Qg.nil | ((first | apply Go.op | apply Go.sop | apply Qg.op); exact rfl; (first | exact rfl | exact aop_iaddrO rfl rfl hni hi' hg2 he2 hel2 | exact aop_loadO rfl hg2 he2 (show 0 + 2 < e2.length by omega))) | (apply Go.no; exact rfl)
  refine Go.call _ rfl rfl rfl ((markInt64S_ok ys[i].key k1 hb.2.2.1  (by omega) (by omega)).at_ _ T2 _ hch2) ?_
  rintro r τ2 ⟨rfl, hn2, hf2, hhc2⟩
  have hh := hback2 τ2 _ hf2 hhc2
  have hfr := fun a (ha : ¬ S a) => (hf2 a (fun h => ha (hTS2 a h))).trans (hfr a ha)
  have hnx := hn2.trans hnx
  obtain ⟨k2, hk2⟩ : ∃ z, k1 + cntL (fun _ => 1) ys[i].key = z := ⟨_, rfl⟩
  rw [hk2]
  clear hg2 he2 hel2 hch2 hback2 hf2 hn2 hhc2
  obtain ⟨es3, e3, T3, hg3, he3, hel3, hTS3, hj3, hch3, hback3⟩ := hh.ch (j := 3) (y := .fz (ys[i].uniques.map encUniq)) hi' (Nat.le_of_ble_eq_true rfl) rfl
  repeat' first | (apply Go.adm; exact rfl) | apply Go.qs | apply Qg.nil | ((first | apply Go.op | apply Go.sop | apply Qg.op); exact rfl; (first | exact rfl | exact aop_iaddrO rfl rfl hni hi' hg3 he3 hel3 | exact aop_loadO rfl hg3 he3 (show 0 + 3 < e3.length by omega))) | (apply Go.no; exact rfl)
  refine Go.call _ rfl rfl rfl ((markUniqS_ok ys[i].uniques k2 hb.2.2.2.1.1 hb.2.2.2.1.2 (by omega) (by omega)).at_ _ T3 _ hch3) ?_
  rintro r τ3 ⟨rfl, hn3, hf3, hhc3⟩
  have hh := hback3 τ3 _ hf3 hhc3
  have hfr := fun a (ha : ¬ S a) => (hf3 a (fun h => ha (hTS3 a h))).trans (hfr a ha)
  have hnx := hn3.trans hnx
  obtain ⟨k3, hk3⟩ : ∃ z, k2 + cntL cntUniq ys[i].uniques = z := ⟨_, rfl⟩
  rw [hk3]
  clear hg3 he3 hel3 hch3 hback3 hf3 hn3 hhc3
  obtain ⟨es4, e4, T4, hg4, he4, hel4, hTS4, hj4, hch4, hback4⟩ := hh.ch (j := 4) (y := .fz (ys[i].checks.map encChk)) hi' (Nat.le_of_ble_eq_true rfl) rfl
  repeat' first | (apply Go.adm; exact rfl) | apply Go.qs | apply Qg.nil | ((first | apply Go.op | apply Go.sop | apply Qg.op); exact rfl; (first | exact rfl | exact aop_iaddrO rfl rfl hni hi' hg4 he4 hel4 | exact aop_loadO rfl hg4 he4 (show 0 + 4 < e4.length by omega))) | (apply Go.no; exact rfl)
  refine Go.call _ rfl rfl rfl ((markChkS_ok ys[i].checks k3 hb.2.2.2.2.1.1 hb.2.2.2.2.1.2 (by omega) (by omega)).at_ _ T4 _ hch4) ?_
  rintro r τ4 ⟨rfl, hn4, hf4, hhc4⟩
  have hh := hback4 τ4 _ hf4 hhc4
  have hfr := fun a (ha : ¬ S a) => (hf4 a (fun h => ha (hTS4 a h))).trans (hfr a ha)
  have hnx := hn4.trans hnx
  obtain ⟨k4, hk4⟩ : ∃ z, k3 + cntL cntChk ys[i].checks = z := ⟨_, rfl⟩
  rw [hk4]
  clear hg4 he4 hel4 hch4 hback4 hf4 hn4 hhc4
  obtain ⟨es5, e5, T5, hg5, he5, hel5, hTS5, hj5, hch5, hback5⟩ := hh.ch (j := 5) (y := .fz (ys[i].fks.map encFk)) hi' (Nat.le_of_ble_eq_true rfl) rfl
  repeat' first | (apply Go.adm; exact rfl) | apply Go.qs | apply Qg.nil | ((first | apply Go.op | apply Go.sop | apply Qg.op); exact rfl; (first | exact rfl | exact aop_iaddrO rfl rfl hni hi' hg5 he5 hel5 | exact aop_loadO rfl hg5 he5 (show 0 + 5 < e5.length by omega))) | (apply Go.no; exact rfl)
  refine Go.call _ rfl rfl rfl ((markFkS_ok ys[i].fks k4 hb.2.2.2.2.2.1 hb.2.2.2.2.2.2 (by omega) (by omega)).at_ _ T5 _ hch5) ?_
  rintro r τ5 ⟨rfl, hn5, hf5, hhc5⟩
  have hh := hback5 τ5 _ hf5 hhc5
  have hfr := fun a (ha : ¬ S a) => (hf5 a (fun h => ha (hTS5 a h))).trans (hfr a ha)
  have hnx := hn5.trans hnx
  obtain ⟨k5, hk5⟩ : ∃ z, k4 + cntL cntFk ys[i].fks = z := ⟨_, rfl⟩
  rw [hk5]
  clear hg5 he5 hel5 hch5 hback5 hf5 hn5 hhc5
  repeat' first | (apply Go.adm; exact rfl) | apply Go.qs | apply Qg.nil | ((first | apply Go.op | apply Go.sop | apply Qg.op); exact rfl; (first | exact rfl)) | (apply Go.no; exact rfl)
  have hkend : k5 = ki + cntTable ys[i] := by simp only [cntTable]; omega
  refine hnext _ _ rfl (congrArg (fun z => some (AV.c (Ce.int .i64 z))) hkend) rfl hnx hfr ?_
  rw [hset]
  subst hk0 hk1 hk2 hk3 hk4 hk5
  exact hh
end Go.Proofs.YtcfpdongfdhgjaaGreat.Am

/- What the laws with marks have in common. -/
set_option linter.unusedVariables false
set_option linter.unusedSimpArgs false
namespace Go.Proofs.YtcfpdongfdhgjaaGreat.Am

theorem aop_neB {fr : Fr} {σ : Store} {x y : Opd} {b : Bool} (hx : x.ev fr = some (.c (.bool b))) (hy : y.ev fr = some (.c (.bool b))) : aop (.eq true false [.b] x y) fr σ = some (.c (.bool false), σ) := by
  cases b <;> simp [aop, hx, hy, eqKs, eqK]
theorem solid_end {σ : Store} {τ : Store} {b : Bool} : FrzV τ σ.next (.c (.bool b)) (.c (.bool b)) := .refl (by intro y hy; simp [AV.all] at hy; subst hy; exact .bool _)
theorem New.openC {σ τ : Store} {y : Ce} {r : AV} (h : New σ y r τ) : ∃ x, r = .c x ∧ Gr σ τ ∧ Has τ (fun a => σ.next ≤ a ∧ a < τ.next) y x := by
  obtain ⟨x, l, rfl, rfl, ht, hh⟩ := h
  exact ⟨x, rfl, ⟨l, rfl, ht⟩, hh⟩
theorem NewL.openC {σ τ : Store} {ys : List Ce} {r : AV} (h : NewL σ ys r τ) : ∃ xs, r = .agg xs ∧ Gr σ τ ∧ HasL τ (fun a => σ.next ≤ a ∧ a < τ.next) ys xs := by
  obtain ⟨x, l, rfl, rfl, ht, hh⟩ := h
  exact ⟨x, rfl, ⟨l, rfl, ht⟩, hh⟩
theorem has_flat {σ : Store} {S : Nat → Prop} {y x : Ce} (hf : Flat y) (h : Has σ S y x) : x = y := by
  cases hf <;> (cases h; rfl)
theorem hasV_flat {σ : Store} {S : Nat → Prop} {y : Ce} {x : AV} (hf : Flat y) (h : HasV σ S (.c y) x) : x = .c y := by
  cases h with
  | c h => rw [has_flat hf h]
theorem newtup_open {σ τ : Store} {ys : List AV} {r : AV} (h : NewV σ (.tup ys) r τ) : ∃ xs, ∃ U : Nat → Nat → Prop, ∃ hl : xs.length = ys.length, r = .tup xs ∧ Gr σ τ ∧ (∀ i a, U i a → σ.next ≤ a ∧ a < τ.next) ∧ ∀ i (hy : i < ys.length) (hx : i < xs.length), HasV τ (U i) ys[i] xs[i] := by
  obtain ⟨hg, hh⟩ := h
  generalize hy0 : AV.tup ys = y0 at hh
  cases hh with
  | c h => cases hy0
  | agg h => cases hy0
  | @tup S ys' xs U hl hU hd h =>
    injection hy0 with hy0
    subst hy0
    exact ⟨xs, U, hl, rfl, hg, fun i a ha => hU i a ha, h⟩
theorem new2_open {σ τ : Store} {y f : Ce} {r : AV} (hf : Flat f) (h : NewV σ (.tup [.c y, .c f]) r τ) : ∃ x, r = .tup [.c x, .c f] ∧ Gr σ τ ∧ Has τ (fun a => σ.next ≤ a ∧ a < τ.next) y x := by
  obtain ⟨xs, U, hl, rfl, hg, hU, h⟩ := newtup_open h
  match xs, hl with
  | [x1, x2], _ =>
    have h1 := h 0 (by simp) (by simp)
    have h2 := h 1 (by simp) (by simp)
    simp only [List.getElem_cons_zero, List.getElem_cons_succ] at h1 h2
    obtain rfl := hasV_flat hf h2
    cases h1 with
    | c h1 => exact ⟨_, rfl, hg, h1.mono fun a ha => hU 0 a ha⟩
theorem hv_flat {τ : Store} {S : Nat → Prop} {f : Ce} (h : Flat f) : HasV τ S (.c f) (.c f) := .c (.c h)
theorem newPair {σ τ : Store} {y x f : Ce} (hf : Flat f) (h : NewV σ (.c y) (.c x) τ) : NewV σ (.tup [.c y, .c f]) (.tup [.c x, .c f]) τ :=
  ⟨h.1, .pair h.2 (hv_flat (S := fun _ => False) hf) (fun _ h => h) (fun _ h => h.elim) (fun _ _ h => h)⟩
theorem newNil {σ τ : Store} (g : Gr σ τ) : NewV σ (.c (.fz [])) (.c .nils) τ := ⟨g, .c .nil⟩
theorem newVec {σ : Store} {v : Nat} {s : Nat} {ys junk : List (List Ce)} (hy : ∀ e ∈ ys, e.length = s ∧ ∀ x ∈ e, Flat x) (hj : Jk s junk) : NewV σ (.c (.fz ys)) (.c (vec (σ.next + 0) v ys junk)) (E σ [(v, ys ++ junk)]) :=
  (Made.new hy (r := .c (vec (σ.next + 0) v ys junk)) ⟨v, junk, hj, rfl, rfl⟩).v
theorem gr_flat {σ : Store} {v : Nat} {es : List (List Ce)} (h : ∀ e ∈ es, ∀ x ∈ e, Flat x) : Gr σ (E σ [(v, es)]) :=
  ⟨_, rfl, fun b hb e he x hx => by rw [List.mem_singleton.1 hb] at he; exact .flat (h e he x hx)⟩
theorem flat_two {s : Nat} {ys junk : List (List Ce)} (hy : ∀ e ∈ ys, e.length = s ∧ ∀ x ∈ e, Flat x) (hj : Jk s junk) : ∀ e ∈ ys ++ junk, ∀ x ∈ e, Flat x := fun e he => (List.mem_append.1 he).elim (fun h => (hy e h).2) fun h => (hj e h).2
theorem heldInt64S_at (ws : List Int) (w1 : ws.length ≤ 34359738368) (w3 : 1 + cntL (fun _ => 1) ws ≤ 34359738368) : Pure Tryz.prog 33 [.c (.fz ((markL markI (fun _ => 1) ws 1).map encI)), .c (.int .i64 1)] (.c (.int .i64 (1 + cntL (fun _ => 1) ws))) := by
  have := heldInt64S_ok (markL markI (fun _ => 1) ws 1) 1 (by rw [markL_length]; exact w1) (by decide) (by rw [markL_length]; rw [cnt1] at w3; omega)
  rw [heldI_mark] at this
  exact this
theorem heldInt64S_nn (ws : List Int) : 0 ≤ cntL (fun _ => 1) ws := cntL_nonneg (fun _ => by decide) ws
end Go.Proofs.YtcfpdongfdhgjaaGreat.Am

/- Rows that match: the program and its reference. -/
set_option linter.unusedVariables false
set_option linter.unusedSimpArgs false
namespace Go.Proofs.YtcfpdongfdhgjaaGreat.Am

def isM (w : List Tok) (r : RowD) : Int := if 0 < w.length then truthI w r.vals else 1
def matchAux (w : List Tok) : List RowD → List Int → Option (List Int)
  | [], acc => some acc
  | r :: l, acc => if isM w r = -1 then none else matchAux w l (if isM w r = 1 then acc ++ [r.id] else acc)
def matchF (l : List RowD) (w : List Tok) : List Int × Bool := match matchAux w l [] with | some ids => (ids, true) | none => ([], false)
theorem flatIs {xs : List Int} : ∀ e ∈ xs.map encI, e.length = 1 ∧ ∀ x ∈ e, Flat x := flatI xs
theorem matching_ok (l : List RowD) (w : List Tok) (hx : l.length ≤ 1048576) (hb : ∀ r ∈ l, r.vals.length ≤ 34359738368) (hw : w.length ≤ 34359738368) (σ : Store) : Ok Tryz.prog 98 [.c (.fz (l.map encRowD)), .c (.fz (w.map encTok))] σ (NewV σ (.tup [.c (.fz ((matchF l w).1.map encI)), .c (.bool (matchF l w).2)])) := by
  refine Ok.run mixed c_impl_matching_ok (Nat.le_of_ble_eq_true rfl) fun hS hA => ?_
  clear hS hA
  repeat' first | (apply Go.adm; exact rfl) | apply Go.qs | apply Qg.nil | ((first | apply Go.v2 | apply Go.v1); (first | exact leAdd | assumption); iterate 6 exact rfl) | ((first | apply Go.op | apply Go.sop | apply Qg.op); exact rfl; (first | exact aop_alloc | exact aop_new rfl rfl | exact aop_mksl rfl | exact aop_lenM rfl | exact rfl | exact aL rfl rfl rfl rfl rfl | exact aS rfl rfl rfl rfl rfl rfl rfl)) | ((first | apply Go.no | apply Go.sno | apply Qg.no); exact rfl) | (exfalso; omega) | (((first | apply Go.iQ | apply Go.gQ | apply Go.sQ | apply Qg.gQ); exact rfl; (first | exact .d | exact .e | exact .n | ((fail_if_success exact bqt); (fail_if_success exact bqf); exact .b))) <;> intro _)
  refine Go.keep [1, 6, 11, 12, 13] (Go.loops (I := fun m fr τ => ∃ (i : Nat) (k : Int) (ids : List Int) (v : Nat) (junk : List (List Ce)), m = l.length - i ∧ i ≤ l.length ∧ k = i ∧ Jk 1 junk ∧ (ids.length ≤ i ∧ matchAux w l [] = matchAux w (l.drop i) ids) ∧
    fr = [(1, .c (.fz (w.map encTok))), (6, .c (vec (σ.next + 0) v (ids.map encI) junk)), (11, .c (.fz (l.map encRowD))), (12, .c (.int .i64 (l.length : Int))), (13, .c (.int .i64 k))] ∧ τ = E σ [(v, ids.map encI ++ junk)]) ?_ _ _ _ ⟨0, _, [], 0, [], rfl, Nat.zero_le _, rfl, Jk.nil, ⟨Nat.zero_le _, rfl⟩, rfl, rfl⟩)
  rintro m fr τ ⟨i, k, ids, v, junk, rfl, hi, hk, hj, ⟨hil, hs⟩, rfl, rfl⟩ hrec
  by_cases hlt : i < l.length
  · have hv := hb _ (List.getElem_mem hlt)
    rw [List.drop_eq_getElem_cons hlt, matchAux, isM] at hs
    have hbd : ((ids.map encI).length + 1) * 8 ≤ 140737488355328 := by rw [List.length_map]; omega
    have c1 := Truth_ok w l[i].vals hw hv
    generalize hT : truthI w l[i].vals = T at c1 hs
    have hz1 : ∀ e ∈ ids.map encI, e.length = 1 := fun e he => (flatIs e he).1
    have e1 : ids.map encI ++ [encI l[i].id] = (ids ++ [l[i].id]).map encI := by simp
    by_cases h0 : 0 < w.length
    · rw [if_pos h0] at hs
      repeat' first | (apply Go.adm; exact rfl) | apply Go.qs | apply Qg.nil | ((first | apply Go.v2 | apply Go.v1); (first | exact leAdd | assumption); iterate 6 exact rfl) | ((first | apply Go.op | apply Go.sop | apply Qg.op); exact rfl; (first | exact aop_alloc | exact aop_new rfl rfl | exact aop_mksl rfl | exact aop_lenM rfl | exact rfl | exact aL rfl rfl rfl rfl rfl | exact aS rfl rfl rfl rfl rfl rfl rfl | exact aop_iaddrM (enc := encRowD) rfl rfl hk hlt rfl)) | ((first | apply Go.no | apply Go.sno | apply Qg.no); exact rfl) | (apply Go.app1; exact rfl; exact rfl; exact rfl; exact rfl; exact rfl; exact hz1; exact hj; exact rfl; exact hbd; intro v' junk' hj') | ((first | apply Go.pcall | apply Go.spcall | apply Qg.pcall); (iterate 3 exact rfl); exact c1) | (exfalso; omega) | (((first | apply Go.iQ | apply Go.gQ | apply Go.sQ | apply Qg.gQ); exact rfl; (first | exact .d | exact .e | exact .n | ((fail_if_success exact bqt); (fail_if_success exact bqf); exact .b))) <;> intro _)
      · rename_i h1 h2
        rw [if_pos h2] at hs
        refine .ret rfl ?_
        rw [matchF, hs]
        exact newPair (.bool _) (newNil (gr_flat (flat_two flatIs hj)))
      · rename_i h1 h2 h3
        rw [if_neg h2, if_pos h3] at hs
        refine Go.keep [1, 6, 11, 12, 13] (hrec _ _ _ (by omega) ⟨i + 1, _, ids ++ [l[i].id], v', junk', rfl, hlt, wrap_succ hk (by omega), hj', ⟨by simp; omega, hs⟩, ?_, ?_⟩)
        · rw [← e1]; rfl
        · rw [← e1]; rfl
      · rename_i h1 h2 h3
        rw [if_neg h2, if_neg h3] at hs
        exact Go.keep [1, 6, 11, 12, 13] (hrec _ _ _ (by omega) ⟨i + 1, _, ids, v, junk, rfl, hlt, wrap_succ hk (by omega), hj, ⟨by omega, hs⟩, rfl, rfl⟩)
    · rw [if_neg h0] at hs
      repeat' first | (apply Go.adm; exact rfl) | apply Go.qs | apply Qg.nil | ((first | apply Go.v2 | apply Go.v1); (first | exact leAdd | assumption); iterate 6 exact rfl) | ((first | apply Go.op | apply Go.sop | apply Qg.op); exact rfl; (first | exact aop_alloc | exact aop_new rfl rfl | exact aop_mksl rfl | exact aop_lenM rfl | exact rfl | exact aL rfl rfl rfl rfl rfl | exact aS rfl rfl rfl rfl rfl rfl rfl | exact aop_iaddrM (enc := encRowD) rfl rfl hk hlt rfl)) | ((first | apply Go.no | apply Go.sno | apply Qg.no); exact rfl) | (apply Go.app1; exact rfl; exact rfl; exact rfl; exact rfl; exact rfl; exact hz1; exact hj; exact rfl; exact hbd; intro v' junk' hj') | (exfalso; omega) | (((first | apply Go.iQ | apply Go.gQ | apply Go.sQ | apply Qg.gQ); exact rfl; (first | exact .d | exact .e | exact .n | ((fail_if_success exact bqt); (fail_if_success exact bqf); exact .b))) <;> intro _)
      rw [if_neg (by decide), if_pos rfl] at hs
      refine Go.keep [1, 6, 11, 12, 13] (hrec _ _ _ (by omega) ⟨i + 1, _, ids ++ [l[i].id], v', junk', rfl, hlt, wrap_succ hk (by omega), hj', ⟨by simp; omega, hs⟩, ?_, ?_⟩)
      · rw [← e1]; rfl
      · rw [← e1]; rfl
  · repeat' first | (apply Go.adm; exact rfl) | apply Go.qs | apply Qg.nil | ((first | apply Go.v2 | apply Go.v1); (first | exact leAdd | assumption); iterate 6 exact rfl) | ((first | apply Go.op | apply Go.sop | apply Qg.op); exact rfl; (first | exact aop_alloc | exact aop_new rfl rfl | exact aop_mksl rfl | exact aop_lenM rfl | exact rfl | exact aL rfl rfl rfl rfl rfl | exact aS rfl rfl rfl rfl rfl rfl rfl)) | ((first | apply Go.no | apply Go.sno | apply Qg.no); exact rfl) | (exfalso; omega) | (((first | apply Go.iQ | apply Go.gQ | apply Go.sQ | apply Qg.gQ); exact rfl; (first | exact .d | exact .e | exact .n | ((fail_if_success exact bqt); (fail_if_success exact bqf); exact .b))) <;> intro _)
    refine .ret rfl ?_
    rw [List.drop_eq_nil_of_le (by omega), matchAux] at hs
    rw [matchF, hs]
    exact newPair (.bool _) (newVec flatIs hj)
theorem l7Matching_ok (d : Data) (w : List Tok) (hx : d.rows.length ≤ 1048576) (hw : w.length ≤ 34359738368) (hT : 0 < w.length → ∀ r ∈ d.rows, areVals r.vals 16 = true ∧ exprF w r.vals.length = true) (σ : Store) : Ok Tryz.prog 92 [.agg (encData d), .c (.fz (w.map encTok))] σ (NewV σ (.tup [.c (.fz ((matchF d.rows w).1.map encI)), .c (.bool (matchF d.rows w).2)])) := by
  refine Ok.run mixed c_spec_l7Matching_ok (Nat.le_of_ble_eq_true rfl) fun hS hA => ?_
  clear hS hA
  repeat' first | (apply Go.adm; exact rfl) | apply Go.qs | apply Qg.nil | ((first | apply Go.v2 | apply Go.v1); (first | exact leAdd | assumption); iterate 6 exact rfl) | ((first | apply Go.op | apply Go.sop | apply Qg.op); exact rfl; (first | exact aop_alloc | exact aop_new rfl rfl | exact aop_mksl rfl | exact aop_lenM rfl | exact rfl | exact aL rfl rfl rfl rfl rfl | exact aS rfl rfl rfl rfl rfl rfl rfl)) | ((first | apply Go.no | apply Go.sno | apply Qg.no); exact rfl) | (exfalso; omega) | (((first | apply Go.iQ | apply Go.gQ | apply Go.sQ | apply Qg.gQ); exact rfl; (first | exact .d | exact .e | exact .n | ((fail_if_success exact bqt); (fail_if_success exact bqf); exact .b))) <;> intro _)
  refine Go.keep [1, 2, 6, 7] (Go.loops (I := fun m fr τ => ∃ (i : Nat) (k : Int) (ids : List Int) (v : Nat) (junk : List (List Ce)), m = d.rows.length - i ∧ i ≤ d.rows.length ∧ k = i ∧ Jk 1 junk ∧ (ids.length ≤ i ∧ matchAux w d.rows [] = matchAux w (d.rows.drop i) ids) ∧
    fr = [(1, .c (.fz (w.map encTok))), (2, .c (.fp (encData d))), (6, .c (vec (σ.next + 0) v (ids.map encI) junk)), (7, .c (.int .i64 k))] ∧ τ = E σ [(v, ids.map encI ++ junk)]) ?_ _ _ _ ⟨0, _, [], 0, [], rfl, Nat.zero_le _, rfl, Jk.nil, ⟨Nat.zero_le _, rfl⟩, rfl, rfl⟩)
  rintro m fr τ ⟨i, k, ids, v, junk, rfl, hi, hk, hj, ⟨hil, hs⟩, rfl, rfl⟩ hrec
  by_cases hlt : i < d.rows.length
  · rw [List.drop_eq_getElem_cons hlt, matchAux, isM] at hs
    have hbd : ((ids.map encI).length + 1) * 8 ≤ 140737488355328 := by rw [List.length_map]; omega
    have hz1 : ∀ e ∈ ids.map encI, e.length = 1 := fun e he => (flatIs e he).1
    have e1 : ids.map encI ++ [encI d.rows[i].id] = (ids ++ [d.rows[i].id]).map encI := by simp
    by_cases h0 : 0 < w.length
    · obtain ⟨q1, q2⟩ := hT h0 _ (List.getElem_mem hlt)
      have c1 := l2Truth_ok w d.rows[i].vals q1 q2
      have hTT : truthI w d.rows[i].vals = truthR w d.rows[i].vals := by rw [truthI, evalOk, q1, q2]; rfl
      have hr : -1 ≤ truthR w d.rows[i].vals := by
        rw [truthR]
        split
        · rw [truthV]
          split
          · decide
          · split
            · split <;> decide
            · decide
        · decide
      rw [if_pos h0, hTT] at hs
      generalize truthR w d.rows[i].vals = T at c1 hs hr
      repeat' first | (apply Go.adm; exact rfl) | apply Go.qs | apply Qg.nil | ((first | apply Go.v2 | apply Go.v1); (first | exact leAdd | assumption); iterate 6 exact rfl) | ((first | apply Go.op | apply Go.sop | apply Qg.op); exact rfl; (first | exact aop_alloc | exact aop_new rfl rfl | exact aop_mksl rfl | exact aop_lenM rfl | exact rfl | exact aL rfl rfl rfl rfl rfl | exact aS rfl rfl rfl rfl rfl rfl rfl | exact aop_iaddrM (enc := encRowD) rfl rfl hk hlt rfl)) | ((first | apply Go.no | apply Go.sno | apply Qg.no); exact rfl) | (apply Go.app1; exact rfl; exact rfl; exact rfl; exact rfl; exact rfl; exact hz1; exact hj; exact rfl; exact hbd; intro v' junk' hj') | ((first | apply Go.pcall | apply Go.spcall | apply Qg.pcall); (iterate 3 exact rfl); exact c1) | (exfalso; omega) | (((first | apply Go.iQ | apply Go.gQ | apply Go.sQ | apply Qg.gQ); exact rfl; (first | exact .d | exact .e | exact .n | ((fail_if_success exact bqt); (fail_if_success exact bqf); exact .b))) <;> intro _)
      · rename_i h1 h2
        rw [if_pos (by omega)] at hs
        refine .ret rfl ?_
        rw [matchF, hs]
        exact newPair (.bool _) (newNil (gr_flat (flat_two flatIs hj)))
      · rename_i h1 h2 h3
        rw [if_neg (by omega), if_pos h3] at hs
        refine Go.keep [1, 2, 6, 7] (hrec _ _ _ (by omega) ⟨i + 1, _, ids ++ [d.rows[i].id], v', junk', rfl, hlt, wrap_succ hk (by omega), hj', ⟨by simp; omega, hs⟩, ?_, ?_⟩)
        · rw [← e1]; rfl
        · rw [← e1]; rfl
      · rename_i h1 h2 h3
        rw [if_neg (by omega), if_neg h3] at hs
        exact Go.keep [1, 2, 6, 7] (hrec _ _ _ (by omega) ⟨i + 1, _, ids, v, junk, rfl, hlt, wrap_succ hk (by omega), hj, ⟨by omega, hs⟩, rfl, rfl⟩)
    · rw [if_neg h0] at hs
      repeat' first | (apply Go.adm; exact rfl) | apply Go.qs | apply Qg.nil | ((first | apply Go.v2 | apply Go.v1); (first | exact leAdd | assumption); iterate 6 exact rfl) | ((first | apply Go.op | apply Go.sop | apply Qg.op); exact rfl; (first | exact aop_alloc | exact aop_new rfl rfl | exact aop_mksl rfl | exact aop_lenM rfl | exact rfl | exact aL rfl rfl rfl rfl rfl | exact aS rfl rfl rfl rfl rfl rfl rfl | exact aop_iaddrM (enc := encRowD) rfl rfl hk hlt rfl)) | ((first | apply Go.no | apply Go.sno | apply Qg.no); exact rfl) | (apply Go.app1; exact rfl; exact rfl; exact rfl; exact rfl; exact rfl; exact hz1; exact hj; exact rfl; exact hbd; intro v' junk' hj') | (exfalso; omega) | (((first | apply Go.iQ | apply Go.gQ | apply Go.sQ | apply Qg.gQ); exact rfl; (first | exact .d | exact .e | exact .n | ((fail_if_success exact bqt); (fail_if_success exact bqf); exact .b))) <;> intro _)
      rw [if_neg (by decide), if_pos rfl] at hs
      refine Go.keep [1, 2, 6, 7] (hrec _ _ _ (by omega) ⟨i + 1, _, ids ++ [d.rows[i].id], v', junk', rfl, hlt, wrap_succ hk (by omega), hj', ⟨by simp; omega, hs⟩, ?_, ?_⟩)
      · rw [← e1]; rfl
      · rw [← e1]; rfl
  · repeat' first | (apply Go.adm; exact rfl) | apply Go.qs | apply Qg.nil | ((first | apply Go.v2 | apply Go.v1); (first | exact leAdd | assumption); iterate 6 exact rfl) | ((first | apply Go.op | apply Go.sop | apply Qg.op); exact rfl; (first | exact aop_alloc | exact aop_new rfl rfl | exact aop_mksl rfl | exact aop_lenM rfl | exact rfl | exact aL rfl rfl rfl rfl rfl | exact aS rfl rfl rfl rfl rfl rfl rfl)) | ((first | apply Go.no | apply Go.sno | apply Qg.no); exact rfl) | (exfalso; omega) | (((first | apply Go.iQ | apply Go.gQ | apply Go.sQ | apply Qg.gQ); exact rfl; (first | exact .d | exact .e | exact .n | ((fail_if_success exact bqt); (fail_if_success exact bqf); exact .b))) <;> intro _)
    refine .ret rfl ?_
    rw [List.drop_eq_nil_of_le (by omega), matchAux] at hs
    rw [matchF, hs]
    exact newPair (.bool _) (newVec flatIs hj)
def rowsAt (db : List Data) (n : Int) : List RowD := match db[n.toNat]? with | some d => d.rows | none => []
def colsAt (s : List Table) (n : Int) : Nat := match s[n.toNat]? with | some t => t.cols.length | none => 0
def matchOk (s : List Table) (db : List Data) (n : Int) (w : List Tok) : Bool := dbF s db && (isIn n 0 (s.length - 1) && whereF w (colsAt s n))
def MatchF (s : List Table) (db : List Data) (n : Int) (w : List Tok) : List Int × Bool := if matchOk s db n w then matchF (rowsAt db n) w else ([], false)
theorem isIn_at {n m : Int} (h : isIn n 0 (m - 1) = true) : 0 ≤ n ∧ n < m := by
  simp only [isIn, Bool.and_eq_true, decide_eq_true_eq] at h
  omega
theorem newNo {σ : Store} : NewV σ (.tup [.c (.fz []), .c (.bool false)]) (.tup [.c .nils, .c (.bool false)]) (E σ []) := newPair (.bool _) (newNil (Gr.start σ))
theorem Matching_ok (s : List Table) (db : List Data) (n : Int) (w : List Tok) (hx : s.length ≤ 34359738368) (hb : ∀ t ∈ s, bTable 34359738368 t) (hd : db.length ≤ 34359738368) (hdb : ∀ d ∈ db, bData 34359738368 d) (hw : w.length ≤ 34359738368) (hw2 : ∀ t ∈ w, bTok 34359738368 t) (σ : Store) :
    Ok Tryz.prog 26 [.c (.fz (s.map encTable)), .c (.fz (db.map encData)), .c (.int .i64 n), .c (.fz (w.map encTok))] σ (NewV σ (.tup [.c (.fz ((MatchF s db n w).1.map encI)), .c (.bool (MatchF s db n w).2)])) := by
  refine Ok.run mixed c_impl_Matching_ok (Nat.le_of_ble_eq_true rfl) fun hS hA => ?_
  clear hS hA
  have c1 := DbOk_ok s db hx hb hd hdb
  have c2 := isTable_ok s n hx
  rw [MatchF, matchOk]
  cases h1 : dbF s db
  · rw [h1] at c1
    repeat' first | (apply Go.adm; exact rfl) | apply Go.qs | apply Qg.nil | ((first | apply Go.v2 | apply Go.v1); (first | exact leAdd | assumption); iterate 6 exact rfl) | ((first | apply Go.op | apply Go.sop | apply Qg.op); exact rfl; (first | exact aop_alloc | exact aop_new rfl rfl | exact aop_mksl rfl | exact aop_lenM rfl | exact rfl | exact aL rfl rfl rfl rfl rfl | exact aS rfl rfl rfl rfl rfl rfl rfl)) | ((first | apply Go.no | apply Go.sno | apply Qg.no); exact rfl) | ((first | apply Go.pcall | apply Go.spcall | apply Qg.pcall); (iterate 3 exact rfl); exact c1) | (exfalso; omega) | (((first | apply Go.iQ | apply Go.gQ | apply Go.sQ | apply Qg.gQ); exact rfl; (first | exact .d | exact .e | exact .n | ((fail_if_success exact bqt); (fail_if_success exact bqf); exact .b))) <;> intro _)
    exact .ret rfl newNo
  cases h2 : isIn n 0 (s.length - 1)
  · rw [h1] at c1
    rw [h2] at c2
    repeat' first | (apply Go.adm; exact rfl) | apply Go.qs | apply Qg.nil | ((first | apply Go.v2 | apply Go.v1); (first | exact leAdd | assumption); iterate 6 exact rfl) | ((first | apply Go.op | apply Go.sop | apply Qg.op); exact rfl; (first | exact aop_alloc | exact aop_new rfl rfl | exact aop_mksl rfl | exact aop_lenM rfl | exact rfl | exact aL rfl rfl rfl rfl rfl | exact aS rfl rfl rfl rfl rfl rfl rfl)) | ((first | apply Go.no | apply Go.sno | apply Qg.no); exact rfl) | ((first | apply Go.pcall | apply Go.spcall | apply Qg.pcall); (iterate 3 exact rfl); (first | exact c1 | exact c2)) | (exfalso; omega) | (((first | apply Go.iQ | apply Go.gQ | apply Go.sQ | apply Qg.gQ); exact rfl; (first | exact .d | exact .e | exact .n | ((fail_if_success exact bqt); (fail_if_success exact bqf); exact .b))) <;> intro _)
    exact .ret rfl newNo
  rw [h1] at c1
  rw [h2] at c2
  obtain ⟨hs, hl, hrows⟩ := dbF_at h1
  obtain ⟨h3, h4⟩ := isIn_at h2
  have hn : n = (n.toNat : Int) := by omega
  have hlt : n.toNat < s.length := by omega
  have hlt2 : n.toNat < db.length := by omega
  have hcl := schemaF_cols hs _ (List.getElem_mem hlt)
  have hr := hrows _ hlt hlt2
  obtain ⟨hr1, hr2⟩ := rowsF_mem hr
  have c3 := isWhere_ok w s[n.toNat].cols.length hw (by omega) (by omega)
  have hca : colsAt s n = s[n.toNat].cols.length := by rw [colsAt, List.getElem?_eq_getElem hlt]
  have hra : rowsAt db n = db[n.toNat].rows := by rw [rowsAt, List.getElem?_eq_getElem hlt2]
  rw [hca, hra]
  cases h5 : whereF w s[n.toNat].cols.length
  · rw [h5] at c3
    repeat' first | (apply Go.adm; exact rfl) | apply Go.qs | apply Qg.nil | ((first | apply Go.v2 | apply Go.v1); (first | exact leAdd | assumption); iterate 6 exact rfl) | ((first | apply Go.op | apply Go.sop | apply Qg.op); exact rfl; (first | exact aop_alloc | exact aop_new rfl rfl | exact aop_mksl rfl | exact aop_lenM rfl | exact rfl | exact aL rfl rfl rfl rfl rfl | exact aS rfl rfl rfl rfl rfl rfl rfl | exact aop_iaddrM (enc := encTable) rfl rfl hn hlt rfl)) | ((first | apply Go.no | apply Go.sno | apply Qg.no); exact rfl) | ((first | apply Go.pcall | apply Go.spcall | apply Qg.pcall); (iterate 3 exact rfl); (first | exact c1 | exact c2 | exact c3)) | (exfalso; omega) | (((first | apply Go.iQ | apply Go.gQ | apply Go.sQ | apply Qg.gQ); exact rfl; (first | exact .d | exact .e | exact .n | ((fail_if_success exact bqt); (fail_if_success exact bqf); exact .b))) <;> intro _)
    exact .ret rfl newNo
  rw [h5] at c3
  repeat' first | (apply Go.adm; exact rfl) | apply Go.qs | apply Qg.nil | ((first | apply Go.v2 | apply Go.v1); (first | exact leAdd | assumption); iterate 6 exact rfl) | ((first | apply Go.op | apply Go.sop | apply Qg.op); exact rfl; (first | exact aop_alloc | exact aop_new rfl rfl | exact aop_mksl rfl | exact aop_lenM rfl | exact rfl | exact aL rfl rfl rfl rfl rfl | exact aS rfl rfl rfl rfl rfl rfl rfl | exact aop_iaddrM (enc := encTable) rfl rfl hn hlt rfl | exact aop_iaddrM (enc := encData) rfl rfl hn hlt2 rfl)) | ((first | apply Go.no | apply Go.sno | apply Qg.no); exact rfl) | ((first | apply Go.pcall | apply Go.spcall | apply Qg.pcall); (iterate 3 exact rfl); (first | exact c1 | exact c2 | exact c3)) | (exfalso; omega) | (((first | apply Go.iQ | apply Go.gQ | apply Go.sQ | apply Qg.gQ); exact rfl; (first | exact .d | exact .e | exact .n | ((fail_if_success exact bqt); (fail_if_success exact bqf); exact .b))) <;> intro _)
  have hbd := hdb _ (List.getElem_mem hlt2)
  refine Go.call _ rfl rfl rfl (matching_ok db[n.toNat].rows w (by omega) (fun r hr => (hbd.2 r hr).1) hw _) ?_
  intro r τ hq
  obtain ⟨x, rfl, g, hh⟩ := new2_open (.bool _) hq
  repeat' first | (apply Go.adm; exact rfl) | apply Go.qs | apply Qg.nil | ((first | apply Go.v2 | apply Go.v1); (first | exact leAdd | assumption); iterate 6 exact rfl) | ((first | apply Go.op | apply Go.sop | apply Qg.op); exact rfl; (first | exact aop_alloc | exact aop_new rfl rfl | exact aop_mksl rfl | exact aop_lenM rfl | exact rfl | exact aL rfl rfl rfl rfl rfl | exact aS rfl rfl rfl rfl rfl rfl rfl)) | ((first | apply Go.no | apply Go.sno | apply Qg.no); exact rfl) | (exfalso; omega) | (((first | apply Go.iQ | apply Go.gQ | apply Go.sQ | apply Qg.gQ); exact rfl; (first | exact .d | exact .e | exact .n | ((fail_if_success exact bqt); (fail_if_success exact bqf); exact .b))) <;> intro _)
  exact .ret rfl (newPair (.bool _) ⟨(Gr.start σ).trans g, .c hh⟩)
theorem whereF_some {w : List Tok} {n : Int} (h : whereF w n = true) (h0 : 0 < w.length) : exprF w n = true := by
  rw [whereF, beq_eq_false_iff_ne.2 (by omega), Bool.false_or] at h
  exact h
theorem sMatching_ok (s : List Table) (db : List Data) (n : Int) (w : List Tok) (hx : s.length ≤ 34359738368) (hb : ∀ t ∈ s, bTable 34359738368 t) (hd : db.length ≤ 34359738368) (hdb : ∀ d ∈ db, bData 34359738368 d) (hw : w.length ≤ 34359738368) (hw2 : ∀ t ∈ w, bTok 34359738368 t) (σ : Store) :
    Ok Tryz.prog 23 [.c (.fz (s.map encTable)), .c (.fz (db.map encData)), .c (.int .i64 n), .c (.fz (w.map encTok))] σ (NewV σ (.tup [.c (.fz ((MatchF s db n w).1.map encI)), .c (.bool (MatchF s db n w).2)])) := by
  refine Ok.run mixed c_spec_Matching_ok (Nat.le_of_ble_eq_true rfl) fun hS hA => ?_
  clear hS hA
  have c1 := l6Ok_ok s db n hx hb hd hdb
  rw [MatchF, matchOk, ← Bool.and_assoc]
  cases h1 : (dbF s db && isIn n 0 (s.length - 1))
  · rw [h1] at c1
    repeat' first | (apply Go.adm; exact rfl) | apply Go.qs | apply Qg.nil | ((first | apply Go.v2 | apply Go.v1); (first | exact leAdd | assumption); iterate 6 exact rfl) | ((first | apply Go.op | apply Go.sop | apply Qg.op); exact rfl; (first | exact aop_alloc | exact aop_new rfl rfl | exact aop_mksl rfl | exact aop_lenM rfl | exact rfl | exact aL rfl rfl rfl rfl rfl | exact aS rfl rfl rfl rfl rfl rfl rfl)) | ((first | apply Go.no | apply Go.sno | apply Qg.no); exact rfl) | ((first | apply Go.pcall | apply Go.spcall | apply Qg.pcall); (iterate 3 exact rfl); exact c1) | (exfalso; omega) | (((first | apply Go.iQ | apply Go.gQ | apply Go.sQ | apply Qg.gQ); exact rfl; (first | exact .d | exact .e | exact .n | ((fail_if_success exact bqt); (fail_if_success exact bqf); exact .b))) <;> intro _)
    exact .ret rfl newNo
  rw [h1] at c1
  rw [Bool.and_eq_true] at h1
  obtain ⟨h1, h2⟩ := h1
  obtain ⟨hs, hl, hrows⟩ := dbF_at h1
  obtain ⟨h3, h4⟩ := isIn_at h2
  have hn : n = (n.toNat : Int) := by omega
  have hlt : n.toNat < s.length := by omega
  have hlt2 : n.toNat < db.length := by omega
  have hcl := schemaF_cols hs _ (List.getElem_mem hlt)
  have hr := hrows _ hlt hlt2
  obtain ⟨hr1, hr2⟩ := rowsF_mem hr
  have c3 := l2Expr_ok w s[n.toNat].cols.length hw (by omega) (by omega)
  have hca : colsAt s n = s[n.toNat].cols.length := by rw [colsAt, List.getElem?_eq_getElem hlt]
  have hra : rowsAt db n = db[n.toNat].rows := by rw [rowsAt, List.getElem?_eq_getElem hlt2]
  rw [hca, hra]
  have fin : whereF w s[n.toNat].cols.length = true → ∀ τ : Store, Ok Tryz.prog 92 [.agg (encData db[n.toNat]), .c (.fz (w.map encTok))] τ (NewV τ (.tup [.c (.fz ((matchF db[n.toNat].rows w).1.map encI)), .c (.bool (matchF db[n.toNat].rows w).2)])) := fun hwh τ =>
    l7Matching_ok db[n.toNat] w (by omega) hw (fun h0 r hr => by
      obtain ⟨q1, _⟩ := hr2 r hr
      refine ⟨fitF_are q1 hcl.2, ?_⟩
      rw [(fitF_vals q1).1]
      exact whereF_some hwh h0) τ
  by_cases h0 : 0 < w.length
  · cases h5 : exprF w s[n.toNat].cols.length
    · have h6 : whereF w s[n.toNat].cols.length = false := by
        cases hq : whereF w s[n.toNat].cols.length
        · rfl
        · rw [whereF_some hq h0] at h5; cases h5
      rw [exprF] at h5
      rw [h5] at c3
      rw [h6]
      repeat' first | (apply Go.adm; exact rfl) | apply Go.qs | apply Qg.nil | ((first | apply Go.v2 | apply Go.v1); (first | exact leAdd | assumption); iterate 6 exact rfl) | ((first | apply Go.op | apply Go.sop | apply Qg.op); exact rfl; (first | exact aop_alloc | exact aop_new rfl rfl | exact aop_mksl rfl | exact aop_lenM rfl | exact rfl | exact aL rfl rfl rfl rfl rfl | exact aS rfl rfl rfl rfl rfl rfl rfl | exact aop_iaddrM (enc := encTable) rfl rfl hn hlt rfl)) | ((first | apply Go.no | apply Go.sno | apply Qg.no); exact rfl) | ((first | apply Go.pcall | apply Go.spcall | apply Qg.pcall); (iterate 3 exact rfl); (first | exact c1 | exact c3)) | (exfalso; omega) | (((first | apply Go.iQ | apply Go.gQ | apply Go.sQ | apply Qg.gQ); exact rfl; (first | exact .d | exact .e | exact .n | ((fail_if_success exact bqt); (fail_if_success exact bqf); exact .b))) <;> intro _)
      exact .ret rfl newNo
    have h6 : whereF w s[n.toNat].cols.length = true := by rw [whereF, h5, Bool.or_true]
    rw [exprF] at h5
    rw [h5] at c3
    rw [h6]
    repeat' first | (apply Go.adm; exact rfl) | apply Go.qs | apply Qg.nil | ((first | apply Go.v2 | apply Go.v1); (first | exact leAdd | assumption); iterate 6 exact rfl) | ((first | apply Go.op | apply Go.sop | apply Qg.op); exact rfl; (first | exact aop_alloc | exact aop_new rfl rfl | exact aop_mksl rfl | exact aop_lenM rfl | exact rfl | exact aL rfl rfl rfl rfl rfl | exact aS rfl rfl rfl rfl rfl rfl rfl | exact aop_iaddrM (enc := encTable) rfl rfl hn hlt rfl | exact aop_iaddrM (enc := encData) rfl rfl hn hlt2 rfl)) | ((first | apply Go.no | apply Go.sno | apply Qg.no); exact rfl) | ((first | apply Go.pcall | apply Go.spcall | apply Qg.pcall); (iterate 3 exact rfl); (first | exact c1 | exact c3)) | (exfalso; omega) | (((first | apply Go.iQ | apply Go.gQ | apply Go.sQ | apply Qg.gQ); exact rfl; (first | exact .d | exact .e | exact .n | ((fail_if_success exact bqt); (fail_if_success exact bqf); exact .b))) <;> intro _)
    refine Go.call _ rfl rfl rfl (fin h6 _) ?_
    intro r τ hq
    obtain ⟨x, rfl, g, hh⟩ := new2_open (.bool _) hq
    repeat' first | (apply Go.adm; exact rfl) | apply Go.qs | apply Qg.nil | ((first | apply Go.v2 | apply Go.v1); (first | exact leAdd | assumption); iterate 6 exact rfl) | ((first | apply Go.op | apply Go.sop | apply Qg.op); exact rfl; (first | exact aop_alloc | exact aop_new rfl rfl | exact aop_mksl rfl | exact aop_lenM rfl | exact rfl | exact aL rfl rfl rfl rfl rfl | exact aS rfl rfl rfl rfl rfl rfl rfl)) | ((first | apply Go.no | apply Go.sno | apply Qg.no); exact rfl) | (exfalso; omega) | (((first | apply Go.iQ | apply Go.gQ | apply Go.sQ | apply Qg.gQ); exact rfl; (first | exact .d | exact .e | exact .n | ((fail_if_success exact bqt); (fail_if_success exact bqf); exact .b))) <;> intro _)
    exact .ret rfl (newPair (.bool _) ⟨(Gr.start σ).trans g, .c hh⟩)
  · have h6 : whereF w s[n.toNat].cols.length = true := by
      have : (w.length : Int) = 0 := by omega
      rw [whereF, this]
      rfl
    rw [h6]
    repeat' first | (apply Go.adm; exact rfl) | apply Go.qs | apply Qg.nil | ((first | apply Go.v2 | apply Go.v1); (first | exact leAdd | assumption); iterate 6 exact rfl) | ((first | apply Go.op | apply Go.sop | apply Qg.op); exact rfl; (first | exact aop_alloc | exact aop_new rfl rfl | exact aop_mksl rfl | exact aop_lenM rfl | exact rfl | exact aL rfl rfl rfl rfl rfl | exact aS rfl rfl rfl rfl rfl rfl rfl | exact aop_iaddrM (enc := encData) rfl rfl hn hlt2 rfl)) | ((first | apply Go.no | apply Go.sno | apply Qg.no); exact rfl) | ((first | apply Go.pcall | apply Go.spcall | apply Qg.pcall); (iterate 3 exact rfl); exact c1) | (exfalso; omega) | (((first | apply Go.iQ | apply Go.gQ | apply Go.sQ | apply Qg.gQ); exact rfl; (first | exact .d | exact .e | exact .n | ((fail_if_success exact bqt); (fail_if_success exact bqf); exact .b))) <;> intro _)
    refine Go.call _ rfl rfl rfl (fin h6 _) ?_
    intro r τ hq
    obtain ⟨x, rfl, g, hh⟩ := new2_open (.bool _) hq
    repeat' first | (apply Go.adm; exact rfl) | apply Go.qs | apply Qg.nil | ((first | apply Go.v2 | apply Go.v1); (first | exact leAdd | assumption); iterate 6 exact rfl) | ((first | apply Go.op | apply Go.sop | apply Qg.op); exact rfl; (first | exact aop_alloc | exact aop_new rfl rfl | exact aop_mksl rfl | exact aop_lenM rfl | exact rfl | exact aL rfl rfl rfl rfl rfl | exact aS rfl rfl rfl rfl rfl rfl rfl)) | ((first | apply Go.no | apply Go.sno | apply Qg.no); exact rfl) | (exfalso; omega) | (((first | apply Go.iQ | apply Go.gQ | apply Go.sQ | apply Qg.gQ); exact rfl; (first | exact .d | exact .e | exact .n | ((fail_if_success exact bqt); (fail_if_success exact bqf); exact .b))) <;> intro _)
    exact .ret rfl (newPair (.bool _) ⟨(Gr.start σ).trans g, .c hh⟩)
theorem matchAux_len {w : List Tok} : ∀ {l : List RowD} {acc ids : List Int}, matchAux w l acc = some ids → ids.length ≤ acc.length + l.length
  | [], acc, ids, h => by injection h with h; subst h; simp
  | r :: l, acc, ids, h => by
    rw [matchAux] at h
    split at h
    · cases h
    · have := matchAux_len h
      simp only [List.length_cons]
      split at this
      · simp only [List.length_append, List.length_singleton] at this
        omega
      · omega
theorem Matching_fact (s : List Table) (db : List Data) (n : Int) (w : List Tok) (hx : s.length ≤ 34359738368) (hb : ∀ t ∈ s, bTable 34359738368 t) (hd : db.length ≤ 34359738368) (hdb : ∀ d ∈ db, bData 34359738368 d) (hw : w.length ≤ 34359738368) (hw2 : ∀ t ∈ w, bTok 34359738368 t) :
    (MatchF s db n w).1.length ≤ 34359738368 ∧ 1 + cntL (fun _ => 1) (MatchF s db n w).1 ≤ 34359738368 := by
  have h : (MatchF s db n w).1.length ≤ 60 := by
    rw [MatchF]
    split
    · rename_i h
      simp only [matchOk, Bool.and_eq_true] at h
      obtain ⟨h1, h2, _⟩ := h
      obtain ⟨hs, hl, hrows⟩ := dbF_at h1
      obtain ⟨h3, h4⟩ := isIn_at h2
      have hlt2 : n.toNat < db.length := by omega
      have := (rowsF_mem (hrows n.toNat (by omega) hlt2)).1
      rw [rowsAt, List.getElem?_eq_getElem hlt2, matchF]
      split
      · rename_i hm
        have := matchAux_len hm
        simp at this ⊢
        omega
      · simp
    · simp
  rw [cnt1]
  omega
end Go.Proofs.YtcfpdongfdhgjaaGreat.Am

/- The law FnExactMatching: its function returns true (the walk). Printed by a program. -/
set_option linter.unusedVariables false
set_option linter.unusedSimpArgs false
namespace Go.Proofs.YtcfpdongfdhgjaaGreat.Am

theorem Matching_sound (s : List Table) (db : List Data) (n : Int) (w : List Tok) (b0_1 : s.length ≤ 1125899906842624) (b0_2 : ∀ x ∈ s, bTable 1125899906842624 x) (b1_1 : db.length ≤ 1125899906842624) (b1_2 : ∀ x ∈ db, bData 1125899906842624 x) (b3_1 : w.length ≤ 1125899906842624) (b3_2 : ∀ x ∈ w, bTok 1125899906842624 x) : Pure Tryz.prog 4 [.c (.fz (s.map encTable)), .c (.fz (db.map encData)), .c (.int .i64 n), .c (.fz (w.map encTok))] (.c (.bool true)) := by
  refine Pure.run2 mixed c_laws_FnExactMatching_ok (Nat.le_of_ble_eq_true rfl) fun σ hS => ?_
  clear hS
  have hend : ∀ τ : Store, (∀ id, id < σ.next → τ.get id = σ.get id) → Ends σ (.c (.bool true)) (.c (.bool true)) τ := fun τ h => ⟨h, solid_end⟩
  have hold : ∀ id, id < σ.next → (E σ []).get id = σ.get id := fun id h => E_lt h
  have hm0 : σ.next ≤ (E σ []).next := by rw [E_next]; omega
  generalize E σ [] = τ0 at hold hm0 ⊢
  repeat' first | (apply Go.adm; exact rfl) | apply Go.qs | apply Qg.nil | ((first | apply Go.v2 | apply Go.v1); (first | exact leAdd | assumption); iterate 6 exact rfl) | ((first | apply Go.op | apply Go.sop | apply Qg.op); exact rfl; (first | exact aop_alloc | exact aop_new rfl rfl | exact aop_mksl rfl | exact aop_lenM rfl | exact rfl | exact aL rfl rfl rfl rfl rfl | exact aS rfl rfl rfl rfl rfl rfl rfl)) | ((first | apply Go.no | apply Go.sno | apply Qg.no); exact rfl) | (exfalso; omega) | (((first | apply Go.iQ | apply Go.gQ | apply Go.sQ | apply Qg.gQ); exact rfl; (first | exact .d | exact .e | exact .n | ((fail_if_success exact bqt); (fail_if_success exact bqf); exact .b))) <;> intro _)
  have z0 := szL_le zTable_le s 1048576 (by omega)
  have f0 := fun (h : 0 ≤ szL zTable s 1048576) => list_of (N := 34359738368) zTable_le (fun a l N h0 h hl => bTable_of a l N h0 h hl) (xs := s) (l := 1048576) (by omega) h (by omega)
  have c0 := fun (h : 0 ≤ szL zTable s 1048576) => szL_cnt8 zTable_le cntTable_sz s 1048576 (by omega) h
  refine .pcall rfl rfl rfl (szTableS_ok s 1048576 b0_1 b0_2 (by omega) (by omega)) ?_
  generalize szL zTable s 1048576 = l0 at z0 f0 c0 ⊢
  repeat' first | (apply Go.adm; exact rfl) | apply Go.qs | apply Qg.nil | ((first | apply Go.v2 | apply Go.v1); (first | exact leAdd | assumption); iterate 6 exact rfl) | ((first | apply Go.op | apply Go.sop | apply Qg.op); exact rfl; (first | exact aop_alloc | exact aop_new rfl rfl | exact aop_mksl rfl | exact aop_lenM rfl | exact rfl | exact aL rfl rfl rfl rfl rfl | exact aS rfl rfl rfl rfl rfl rfl rfl)) | ((first | apply Go.no | apply Go.sno | apply Qg.no); exact rfl) | (exfalso; omega) | (((first | apply Go.iQ | apply Go.gQ | apply Go.sQ | apply Qg.gQ); exact rfl; (first | exact .d | exact .e | exact .n | ((fail_if_success exact bqt); (fail_if_success exact bqf); exact .b))) <;> intro _)
  · exact .ret rfl (hend _ hold)
  rename_i g0
  obtain ⟨h0_1, h0_2⟩ := f0 (by omega)
  have c0 := c0 (by omega)
  clear f0 b0_1 b0_2
  repeat' first | (apply Go.adm; exact rfl) | apply Go.qs | apply Qg.nil | ((first | apply Go.v2 | apply Go.v1); (first | exact leAdd | assumption); iterate 6 exact rfl) | ((first | apply Go.op | apply Go.sop | apply Qg.op); exact rfl; (first | exact aop_alloc | exact aop_new rfl rfl | exact aop_mksl rfl | exact aop_lenM rfl | exact rfl | exact aL rfl rfl rfl rfl rfl | exact aS rfl rfl rfl rfl rfl rfl rfl)) | ((first | apply Go.no | apply Go.sno | apply Qg.no); exact rfl) | (exfalso; omega) | (((first | apply Go.iQ | apply Go.gQ | apply Go.sQ | apply Qg.gQ); exact rfl; (first | exact .d | exact .e | exact .n | ((fail_if_success exact bqt); (fail_if_success exact bqf); exact .b))) <;> intro _)
  have z1 := szL_le zData_le db l0 (by omega)
  have f1 := fun (h : 0 ≤ szL zData db l0) => list_of (N := 34359738368) zData_le (fun a l N h0 h hl => bData_of a l N h0 h hl) (xs := db) (l := l0) (by omega) h (by omega)
  have c1 := fun (h : 0 ≤ szL zData db l0) => szL_cnt8 zData_le cntData_sz db l0 (by omega) h
  refine .pcall rfl rfl rfl (szDataS_ok db l0 b1_1 b1_2 (by omega) (by omega)) ?_
  generalize szL zData db l0 = l1 at z1 f1 c1 ⊢
  repeat' first | (apply Go.adm; exact rfl) | apply Go.qs | apply Qg.nil | ((first | apply Go.v2 | apply Go.v1); (first | exact leAdd | assumption); iterate 6 exact rfl) | ((first | apply Go.op | apply Go.sop | apply Qg.op); exact rfl; (first | exact aop_alloc | exact aop_new rfl rfl | exact aop_mksl rfl | exact aop_lenM rfl | exact rfl | exact aL rfl rfl rfl rfl rfl | exact aS rfl rfl rfl rfl rfl rfl rfl)) | ((first | apply Go.no | apply Go.sno | apply Qg.no); exact rfl) | (exfalso; omega) | (((first | apply Go.iQ | apply Go.gQ | apply Go.sQ | apply Qg.gQ); exact rfl; (first | exact .d | exact .e | exact .n | ((fail_if_success exact bqt); (fail_if_success exact bqf); exact .b))) <;> intro _)
  · exact .ret rfl (hend _ hold)
  rename_i g1
  obtain ⟨h1_1, h1_2⟩ := f1 (by omega)
  have c1 := c1 (by omega)
  clear f1 b1_1 b1_2
  repeat' first | (apply Go.adm; exact rfl) | apply Go.qs | apply Qg.nil | ((first | apply Go.v2 | apply Go.v1); (first | exact leAdd | assumption); iterate 6 exact rfl) | ((first | apply Go.op | apply Go.sop | apply Qg.op); exact rfl; (first | exact aop_alloc | exact aop_new rfl rfl | exact aop_mksl rfl | exact aop_lenM rfl | exact rfl | exact aL rfl rfl rfl rfl rfl | exact aS rfl rfl rfl rfl rfl rfl rfl)) | ((first | apply Go.no | apply Go.sno | apply Qg.no); exact rfl) | (exfalso; omega) | (((first | apply Go.iQ | apply Go.gQ | apply Go.sQ | apply Qg.gQ); exact rfl; (first | exact .d | exact .e | exact .n | ((fail_if_success exact bqt); (fail_if_success exact bqf); exact .b))) <;> intro _)
  have z3 := szL_le zTok_le w l1 (by omega)
  have f3 := fun (h : 0 ≤ szL zTok w l1) => list_of (N := 34359738368) zTok_le (fun a l N h0 h hl => bTok_of a l N h0 h hl) (xs := w) (l := l1) (by omega) h (by omega)
  have c3 := fun (h : 0 ≤ szL zTok w l1) => szL_cnt8 zTok_le cntTok_sz w l1 (by omega) h
  refine .pcall rfl rfl rfl (szTokS_ok w l1 b3_1 b3_2 (by omega) (by omega)) ?_
  generalize szL zTok w l1 = l3 at z3 f3 c3 ⊢
  repeat' first | (apply Go.adm; exact rfl) | apply Go.qs | apply Qg.nil | ((first | apply Go.v2 | apply Go.v1); (first | exact leAdd | assumption); iterate 6 exact rfl) | ((first | apply Go.op | apply Go.sop | apply Qg.op); exact rfl; (first | exact aop_alloc | exact aop_new rfl rfl | exact aop_mksl rfl | exact aop_lenM rfl | exact rfl | exact aL rfl rfl rfl rfl rfl | exact aS rfl rfl rfl rfl rfl rfl rfl)) | ((first | apply Go.no | apply Go.sno | apply Qg.no); exact rfl) | (exfalso; omega) | (((first | apply Go.iQ | apply Go.gQ | apply Go.sQ | apply Qg.gQ); exact rfl; (first | exact .d | exact .e | exact .n | ((fail_if_success exact bqt); (fail_if_success exact bqf); exact .b))) <;> intro _)
  · exact .ret rfl (hend _ hold)
  rename_i g3
  obtain ⟨h3_1, h3_2⟩ := f3 (by omega)
  have c3 := c3 (by omega)
  clear f3 b3_1 b3_2
  have cn0 := cntL_nonneg (c := cntTable) cntTable_nonneg s
  have cn1 := cntL_nonneg (c := cntData) cntData_nonneg db
  have cn3 := cntL_nonneg (c := cntTok) cntTok_nonneg w
  have himpl := Matching_ok s db n w h0_1 h0_2 h1_1 h1_2 h3_1 h3_2
  have hspec := NewV.pure (sMatching_ok s db n w h0_1 h0_2 h1_1 h1_2 h3_1 h3_2)
  have t0 := New.pure (toTableS_ok s h0_1 h0_2)
  have t1 := New.pure (toDataS_ok db h1_1 h1_2)
  have t3 := New.pure (toTokS_ok w h3_1 h3_2)
  obtain ⟨w1, w3⟩ := Matching_fact s db n w h0_1 h0_2 h1_1 h1_2 h3_1 h3_2
  generalize (MatchF s db n w).1 = ws at himpl hspec w1 w3
  generalize (MatchF s db n w).2 = B1 at himpl hspec
  repeat' first | (apply Go.adm; exact rfl) | apply Go.qs | apply Qg.nil | ((first | apply Go.v2 | apply Go.v1); (first | exact leAdd | assumption); iterate 6 exact rfl) | ((first | apply Go.op | apply Go.sop | apply Qg.op); exact rfl; (first | exact aop_alloc | exact aop_new rfl rfl | exact aop_mksl rfl | exact aop_lenM rfl | exact rfl | exact aL rfl rfl rfl rfl rfl | exact aS rfl rfl rfl rfl rfl rfl rfl)) | ((first | apply Go.no | apply Go.sno | apply Qg.no); exact rfl) | ((first | apply Go.pcall | apply Go.spcall | apply Qg.pcall); (iterate 3 exact rfl); (first | exact t0 | exact t1 | exact t3)) | (exfalso; omega) | (((first | apply Go.iQ | apply Go.gQ | apply Go.sQ | apply Qg.gQ); exact rfl; (first | exact .d | exact .e | exact .n | ((fail_if_success exact bqt); (fail_if_success exact bqf); exact .b))) <;> intro _)
  first | refine .spcall rfl rfl rfl hspec ?_ | refine .pcall rfl rfl rfl hspec ?_
  repeat' first | (apply Go.adm; exact rfl) | apply Go.qs | apply Qg.nil | ((first | apply Go.v2 | apply Go.v1); (first | exact leAdd | assumption); iterate 6 exact rfl) | ((first | apply Go.op | apply Go.sop | apply Qg.op); exact rfl; (first | exact aop_alloc | exact aop_new rfl rfl | exact aop_mksl rfl | exact aop_lenM rfl | exact rfl | exact aL rfl rfl rfl rfl rfl | exact aS rfl rfl rfl rfl rfl rfl rfl)) | ((first | apply Go.no | apply Go.sno | apply Qg.no); exact rfl) | (exfalso; omega) | (((first | apply Go.iQ | apply Go.gQ | apply Go.sQ | apply Qg.gQ); exact rfl; (first | exact .d | exact .e | exact .n | ((fail_if_success exact bqt); (fail_if_success exact bqf); exact .b))) <;> intro _)
  first | refine .call _ rfl rfl rfl (toTableS_ok s h0_1 h0_2 _) ?_ | refine .scall _ rfl rfl rfl (toTableS_ok s h0_1 h0_2 _) ?_
  intro r τ1 hq
  obtain ⟨x0, rfl, gr, hh0⟩ := New.openC hq
  have hold : ∀ id, id < σ.next → τ1.get id = σ.get id := fun id h => (gr.lt (by omega)).trans (hold id h)
  have hm1 := gr.next
  generalize hmq0 : τ0.next = m0 at hm0 hm1 hh0
  clear hq gr hmq0
  repeat' first | (apply Go.adm; exact rfl) | apply Go.qs | apply Qg.nil | ((first | apply Go.v2 | apply Go.v1); (first | exact leAdd | assumption); iterate 6 exact rfl) | ((first | apply Go.op | apply Go.sop | apply Qg.op); exact rfl; (first | exact aop_alloc | exact aop_new rfl rfl | exact aop_mksl rfl | exact aop_lenM rfl | exact rfl | exact aL rfl rfl rfl rfl rfl | exact aS rfl rfl rfl rfl rfl rfl rfl)) | ((first | apply Go.no | apply Go.sno | apply Qg.no); exact rfl) | (exfalso; omega) | (((first | apply Go.iQ | apply Go.gQ | apply Go.sQ | apply Qg.gQ); exact rfl; (first | exact .d | exact .e | exact .n | ((fail_if_success exact bqt); (fail_if_success exact bqf); exact .b))) <;> intro _)
  first | refine .call _ rfl rfl rfl (toDataS_ok db h1_1 h1_2 _) ?_ | refine .scall _ rfl rfl rfl (toDataS_ok db h1_1 h1_2 _) ?_
  intro r τ2 hq
  obtain ⟨x1, rfl, gr, hh1⟩ := New.openC hq
  have hh0 := hh0.frame fun a ha => gr.lt (by have := ha.2; omega)
  have hold : ∀ id, id < σ.next → τ2.get id = σ.get id := fun id h => (gr.lt (by omega)).trans (hold id h)
  have hm2 := gr.next
  generalize hmq1 : τ1.next = m1 at hm1 hm2 hh1
  simp only [hmq1] at hh0
  clear hq gr hmq1
  repeat' first | (apply Go.adm; exact rfl) | apply Go.qs | apply Qg.nil | ((first | apply Go.v2 | apply Go.v1); (first | exact leAdd | assumption); iterate 6 exact rfl) | ((first | apply Go.op | apply Go.sop | apply Qg.op); exact rfl; (first | exact aop_alloc | exact aop_new rfl rfl | exact aop_mksl rfl | exact aop_lenM rfl | exact rfl | exact aL rfl rfl rfl rfl rfl | exact aS rfl rfl rfl rfl rfl rfl rfl)) | ((first | apply Go.no | apply Go.sno | apply Qg.no); exact rfl) | (exfalso; omega) | (((first | apply Go.iQ | apply Go.gQ | apply Go.sQ | apply Qg.gQ); exact rfl; (first | exact .d | exact .e | exact .n | ((fail_if_success exact bqt); (fail_if_success exact bqf); exact .b))) <;> intro _)
  first | refine .call _ rfl rfl rfl (toTokS_ok w h3_1 h3_2 _) ?_ | refine .scall _ rfl rfl rfl (toTokS_ok w h3_1 h3_2 _) ?_
  intro r τ3 hq
  obtain ⟨x3, rfl, gr, hh3⟩ := New.openC hq
  have hh0 := hh0.frame fun a ha => gr.lt (by have := ha.2; omega)
  have hh1 := hh1.frame fun a ha => gr.lt (by have := ha.2; omega)
  have hold : ∀ id, id < σ.next → τ3.get id = σ.get id := fun id h => (gr.lt (by omega)).trans (hold id h)
  have hm3 := gr.next
  generalize hmq2 : τ2.next = m2 at hm2 hm3 hh3
  simp only [hmq2] at hh1
  clear hq gr hmq2
  repeat' first | (apply Go.adm; exact rfl) | apply Go.qs | apply Qg.nil | ((first | apply Go.v2 | apply Go.v1); (first | exact leAdd | assumption); iterate 6 exact rfl) | ((first | apply Go.op | apply Go.sop | apply Qg.op); exact rfl; (first | exact aop_alloc | exact aop_new rfl rfl | exact aop_mksl rfl | exact aop_lenM rfl | exact rfl | exact aL rfl rfl rfl rfl rfl | exact aS rfl rfl rfl rfl rfl rfl rfl)) | ((first | apply Go.no | apply Go.sno | apply Qg.no); exact rfl) | (exfalso; omega) | (((first | apply Go.iQ | apply Go.gQ | apply Go.sQ | apply Qg.gQ); exact rfl; (first | exact .d | exact .e | exact .n | ((fail_if_success exact bqt); (fail_if_success exact bqf); exact .b))) <;> intro _)
  first | refine .call _ rfl rfl rfl (Lend.new (.own (HasV.c hh0).lend (.own (HasV.c hh1).lend (.same (.own (HasV.c hh3).lend .nil)))) himpl) ?_ | refine .scall _ rfl rfl rfl (Lend.new (.own (HasV.c hh0).lend (.own (HasV.c hh1).lend (.same (.own (HasV.c hh3).lend .nil)))) himpl) ?_
  intro r τr hq
  obtain ⟨g, rfl, gr, hhr⟩ := new2_open (.bool _) hq
  have hh0 := hh0.frame fun a ha => gr.lt (by have := ha.2; omega)
  have hh1 := hh1.frame fun a ha => gr.lt (by have := ha.2; omega)
  have hh3 := hh3.frame fun a ha => gr.lt (by have := ha.2; omega)
  have hold : ∀ id, id < σ.next → τr.get id = σ.get id := fun id h => (gr.lt (by omega)).trans (hold id h)
  have hmr := gr.next
  generalize hmq : τ3.next = m3 at hm3 hmr hhr
  simp only [hmq] at hh3
  clear hq gr hmq
  repeat' first | (apply Go.adm; exact rfl) | apply Go.qs | apply Qg.nil | ((first | apply Go.v2 | apply Go.v1); (first | exact leAdd | assumption); iterate 6 exact rfl) | ((first | apply Go.op | apply Go.sop | apply Qg.op); exact rfl; (first | exact aop_alloc | exact aop_new rfl rfl | exact aop_mksl rfl | exact aop_lenM rfl | exact rfl | exact aL rfl rfl rfl rfl rfl | exact aS rfl rfl rfl rfl rfl rfl rfl)) | ((first | apply Go.no | apply Go.sno | apply Qg.no); exact rfl) | (exfalso; omega) | (((first | apply Go.iQ | apply Go.gQ | apply Go.sQ | apply Qg.gQ); exact rfl; (first | exact .d | exact .e | exact .n | ((fail_if_success exact bqt); (fail_if_success exact bqf); exact .b))) <;> intro _)
  first | refine Go.lcall rfl rfl rfl (eqInt64S_ok ws ws w1) (.bool _) (.own (HasV.c hhr).lend (.same .nil)) ?_ | refine Go.slcall rfl rfl rfl (eqInt64S_ok ws ws w1) (.bool _) (.own (HasV.c hhr).lend (.same .nil)) ?_
  rw [beq_self_eq_true]
  repeat' first | (apply Go.adm; exact rfl) | apply Go.qs | apply Qg.nil | ((first | apply Go.v2 | apply Go.v1); (first | exact leAdd | assumption); iterate 6 exact rfl) | ((first | apply Go.op | apply Go.sop | apply Qg.op); exact rfl; (first | exact aop_alloc | exact aop_new rfl rfl | exact aop_mksl rfl | exact aop_lenM rfl | exact aop_neB rfl rfl | exact rfl | exact aL rfl rfl rfl rfl rfl | exact aS rfl rfl rfl rfl rfl rfl rfl)) | ((first | apply Go.no | apply Go.sno | apply Qg.no); exact rfl) | ((first | apply Go.pcall | apply Go.spcall | apply Qg.pcall); (iterate 3 exact rfl); exact t0) | (exfalso; omega) | (((first | apply Go.iQ | apply Go.gQ | apply Go.sQ | apply Qg.gQ); exact rfl; (first | exact .d | exact .e | exact .n | ((fail_if_success exact bqt); (fail_if_success exact bqf); exact .b))) <;> intro _)
  first | refine Go.lcall rfl rfl rfl (eqTableS_ok s s h0_1 h0_2) (.bool _) (.own (HasV.c hh0).lend (.same .nil)) ?_ | refine Go.slcall rfl rfl rfl (eqTableS_ok s s h0_1 h0_2) (.bool _) (.own (HasV.c hh0).lend (.same .nil)) ?_
  rw [beq_self_eq_true]
  repeat' first | (apply Go.adm; exact rfl) | apply Go.qs | apply Qg.nil | ((first | apply Go.v2 | apply Go.v1); (first | exact leAdd | assumption); iterate 6 exact rfl) | ((first | apply Go.op | apply Go.sop | apply Qg.op); exact rfl; (first | exact aop_alloc | exact aop_new rfl rfl | exact aop_mksl rfl | exact aop_lenM rfl | exact aop_neB rfl rfl | exact rfl | exact aL rfl rfl rfl rfl rfl | exact aS rfl rfl rfl rfl rfl rfl rfl)) | ((first | apply Go.no | apply Go.sno | apply Qg.no); exact rfl) | ((first | apply Go.pcall | apply Go.spcall | apply Qg.pcall); (iterate 3 exact rfl); exact t1) | (exfalso; omega) | (((first | apply Go.iQ | apply Go.gQ | apply Go.sQ | apply Qg.gQ); exact rfl; (first | exact .d | exact .e | exact .n | ((fail_if_success exact bqt); (fail_if_success exact bqf); exact .b))) <;> intro _)
  first | refine Go.lcall rfl rfl rfl (eqDataS_ok db db h1_1 h1_2) (.bool _) (.own (HasV.c hh1).lend (.same .nil)) ?_ | refine Go.slcall rfl rfl rfl (eqDataS_ok db db h1_1 h1_2) (.bool _) (.own (HasV.c hh1).lend (.same .nil)) ?_
  rw [beq_self_eq_true]
  repeat' first | (apply Go.adm; exact rfl) | apply Go.qs | apply Qg.nil | ((first | apply Go.v2 | apply Go.v1); (first | exact leAdd | assumption); iterate 6 exact rfl) | ((first | apply Go.op | apply Go.sop | apply Qg.op); exact rfl; (first | exact aop_alloc | exact aop_new rfl rfl | exact aop_mksl rfl | exact aop_lenM rfl | exact aop_neB rfl rfl | exact rfl | exact aL rfl rfl rfl rfl rfl | exact aS rfl rfl rfl rfl rfl rfl rfl)) | ((first | apply Go.no | apply Go.sno | apply Qg.no); exact rfl) | ((first | apply Go.pcall | apply Go.spcall | apply Qg.pcall); (iterate 3 exact rfl); exact t3) | (exfalso; omega) | (((first | apply Go.iQ | apply Go.gQ | apply Go.sQ | apply Qg.gQ); exact rfl; (first | exact .d | exact .e | exact .n | ((fail_if_success exact bqt); (fail_if_success exact bqf); exact .b))) <;> intro _)
  first | refine Go.lcall rfl rfl rfl (eqTokS_ok w w h3_1 h3_2) (.bool _) (.own (HasV.c hh3).lend (.same .nil)) ?_ | refine Go.slcall rfl rfl rfl (eqTokS_ok w w h3_1 h3_2) (.bool _) (.own (HasV.c hh3).lend (.same .nil)) ?_
  rw [beq_self_eq_true]
  repeat' first | (apply Go.adm; exact rfl) | apply Go.qs | apply Qg.nil | ((first | apply Go.v2 | apply Go.v1); (first | exact leAdd | assumption); iterate 6 exact rfl) | ((first | apply Go.op | apply Go.sop | apply Qg.op); exact rfl; (first | exact aop_alloc | exact aop_new rfl rfl | exact aop_mksl rfl | exact aop_lenM rfl | exact rfl | exact aL rfl rfl rfl rfl rfl | exact aS rfl rfl rfl rfl rfl rfl rfl)) | ((first | apply Go.no | apply Go.sno | apply Qg.no); exact rfl) | (exfalso; omega) | (((first | apply Go.iQ | apply Go.gQ | apply Go.sQ | apply Qg.gQ); exact rfl; (first | exact .d | exact .e | exact .n | ((fail_if_success exact bqt); (fail_if_success exact bqf); exact .b))) <;> intro _)
  refine .call _ rfl rfl rfl ((markTableS_ok s 1 h0_1 h0_2 (by omega) (by omega)).at_ _ _ _ hh0) ?_
  rintro r τm0 ⟨rfl, hnx, hfr, -⟩
  have hh1 := hh1.frame (fun a ha => hfr a fun h => by have := ha.1; have := h.2; omega)
  have hh3 := hh3.frame (fun a ha => hfr a fun h => by have := ha.1; have := h.2; omega)
  have hhr := hhr.frame (fun a ha => hfr a fun h => by have := ha.1; have := h.2; omega)
  have hold : ∀ id, id < σ.next → τm0.get id = σ.get id := fun id h => (hfr id fun h' => by have := h'.1; omega).trans (hold id h)
  obtain ⟨k1, hk1⟩ : ∃ z, 1 + cntL cntTable s = z := ⟨_, rfl⟩
  rw [hk1]
  have hkb1 : 1 ≤ k1 ∧ k1 ≤ 8388616 + 8 * 1 - 8 * l0 := by omega
  clear hfr hh0 hk1 hnx
  repeat' first | (apply Go.adm; exact rfl) | apply Go.qs | apply Qg.nil | ((first | apply Go.v2 | apply Go.v1); (first | exact leAdd | assumption); iterate 6 exact rfl) | ((first | apply Go.op | apply Go.sop | apply Qg.op); exact rfl; (first | exact aop_alloc | exact aop_new rfl rfl | exact aop_mksl rfl | exact aop_lenM rfl | exact rfl | exact aL rfl rfl rfl rfl rfl | exact aS rfl rfl rfl rfl rfl rfl rfl)) | ((first | apply Go.no | apply Go.sno | apply Qg.no); exact rfl) | (exfalso; omega) | (((first | apply Go.iQ | apply Go.gQ | apply Go.sQ | apply Qg.gQ); exact rfl; (first | exact .d | exact .e | exact .n | ((fail_if_success exact bqt); (fail_if_success exact bqf); exact .b))) <;> intro _)
  refine .call _ rfl rfl rfl ((markDataS_ok db k1 h1_1 h1_2 (by omega) (by omega)).at_ _ _ _ hh1) ?_
  rintro r τm1 ⟨rfl, hnx, hfr, -⟩
  have hh3 := hh3.frame (fun a ha => hfr a fun h => by have := ha.1; have := h.2; omega)
  have hhr := hhr.frame (fun a ha => hfr a fun h => by have := ha.1; have := h.2; omega)
  have hold : ∀ id, id < σ.next → τm1.get id = σ.get id := fun id h => (hfr id fun h' => by have := h'.1; omega).trans (hold id h)
  obtain ⟨k2, hk2⟩ : ∃ z, k1 + cntL cntData db = z := ⟨_, rfl⟩
  rw [hk2]
  have hkb2 : 1 ≤ k2 ∧ k2 ≤ 8388616 + 8 * 2 - 8 * l1 := by omega
  clear hfr hh1 hk2 hnx
  repeat' first | (apply Go.adm; exact rfl) | apply Go.qs | apply Qg.nil | ((first | apply Go.v2 | apply Go.v1); (first | exact leAdd | assumption); iterate 6 exact rfl) | ((first | apply Go.op | apply Go.sop | apply Qg.op); exact rfl; (first | exact aop_alloc | exact aop_new rfl rfl | exact aop_mksl rfl | exact aop_lenM rfl | exact rfl | exact aL rfl rfl rfl rfl rfl | exact aS rfl rfl rfl rfl rfl rfl rfl)) | ((first | apply Go.no | apply Go.sno | apply Qg.no); exact rfl) | (exfalso; omega) | (((first | apply Go.iQ | apply Go.gQ | apply Go.sQ | apply Qg.gQ); exact rfl; (first | exact .d | exact .e | exact .n | ((fail_if_success exact bqt); (fail_if_success exact bqf); exact .b))) <;> intro _)
  refine .call _ rfl rfl rfl ((markTokS_ok w k2 h3_1 h3_2 (by omega) (by omega)).at_ _ _ _ hh3) ?_
  rintro r τm2 ⟨rfl, hnx, hfr, -⟩
  have hhr := hhr.frame (fun a ha => hfr a fun h => by have := ha.1; have := h.2; omega)
  have hold : ∀ id, id < σ.next → τm2.get id = σ.get id := fun id h => (hfr id fun h' => by have := h'.1; omega).trans (hold id h)
  obtain ⟨k3, hk3⟩ : ∃ z, k2 + cntL cntTok w = z := ⟨_, rfl⟩
  rw [hk3]
  have hkb3 : 1 ≤ k3 ∧ k3 ≤ 8388616 + 8 * 3 - 8 * l3 := by omega
  clear hfr hh3 hk3 hnx
  repeat' first | (apply Go.adm; exact rfl) | apply Go.qs | apply Qg.nil | ((first | apply Go.v2 | apply Go.v1); (first | exact leAdd | assumption); iterate 6 exact rfl) | ((first | apply Go.op | apply Go.sop | apply Qg.op); exact rfl; (first | exact aop_alloc | exact aop_new rfl rfl | exact aop_mksl rfl | exact aop_lenM rfl | exact rfl | exact aL rfl rfl rfl rfl rfl | exact aS rfl rfl rfl rfl rfl rfl rfl)) | ((first | apply Go.no | apply Go.sno | apply Qg.no); exact rfl) | (exfalso; omega) | (((first | apply Go.iQ | apply Go.gQ | apply Go.sQ | apply Qg.gQ); exact rfl; (first | exact .d | exact .e | exact .n | ((fail_if_success exact bqt); (fail_if_success exact bqf); exact .b))) <;> intro _)
  first | refine Go.lcall rfl rfl rfl (eqInt64S_ok ws ws w1) (.bool _) (.own (HasV.c hhr).lend (.same .nil)) ?_ | refine Go.slcall rfl rfl rfl (eqInt64S_ok ws ws w1) (.bool _) (.own (HasV.c hhr).lend (.same .nil)) ?_
  rw [beq_self_eq_true]
  repeat' first | (apply Go.adm; exact rfl) | apply Go.qs | apply Qg.nil | ((first | apply Go.v2 | apply Go.v1); (first | exact leAdd | assumption); iterate 6 exact rfl) | ((first | apply Go.op | apply Go.sop | apply Qg.op); exact rfl; (first | exact aop_alloc | exact aop_new rfl rfl | exact aop_mksl rfl | exact aop_lenM rfl | exact aop_neB rfl rfl | exact rfl | exact aL rfl rfl rfl rfl rfl | exact aS rfl rfl rfl rfl rfl rfl rfl)) | ((first | apply Go.no | apply Go.sno | apply Qg.no); exact rfl) | (exfalso; omega) | (((first | apply Go.iQ | apply Go.gQ | apply Go.sQ | apply Qg.gQ); exact rfl; (first | exact .d | exact .e | exact .n | ((fail_if_success exact bqt); (fail_if_success exact bqf); exact .b))) <;> intro _)
  refine .call _ rfl rfl rfl ((markInt64S_ok ws 1 w1 (by omega) (by omega)).at_ _ _ _ hhr) ?_
  rintro r τw ⟨rfl, hnx, hfr, hhr⟩
  have hold : ∀ id, id < σ.next → τw.get id = σ.get id := fun id h => (hfr id fun h' => by have := h'.1; omega).trans (hold id h)
  have hhc := heldInt64S_at ws w1 w3
  generalize markL markI (fun _ => 1) ws 1 = ms at hhr hhc
  have w4 : 0 ≤ 1 + cntL (fun _ => 1) ws := by have := heldInt64S_nn ws; omega
  generalize 1 + cntL (fun _ => 1) ws = k9 at hhc w4 ⊢
  clear hfr hnx
  repeat' first | (apply Go.adm; exact rfl) | apply Go.qs | apply Qg.nil | ((first | apply Go.v2 | apply Go.v1); (first | exact leAdd | assumption); iterate 6 exact rfl) | ((first | apply Go.op | apply Go.sop | apply Qg.op); exact rfl; (first | exact aop_alloc | exact aop_new rfl rfl | exact aop_mksl rfl | exact aop_lenM rfl | exact rfl | exact aL rfl rfl rfl rfl rfl | exact aS rfl rfl rfl rfl rfl rfl rfl)) | ((first | apply Go.no | apply Go.sno | apply Qg.no); exact rfl) | (exfalso; omega) | (((first | apply Go.iQ | apply Go.gQ | apply Go.sQ | apply Qg.gQ); exact rfl; (first | exact .d | exact .e | exact .n | ((fail_if_success exact bqt); (fail_if_success exact bqf); exact .b))) <;> intro _)
  first | refine Go.lcall rfl rfl rfl (hhc) (.int _ _) (.own (HasV.c hhr).lend (.same .nil)) ?_ | refine Go.slcall rfl rfl rfl (hhc) (.int _ _) (.own (HasV.c hhr).lend (.same .nil)) ?_
  repeat' first | (apply Go.adm; exact rfl) | apply Go.qs | apply Qg.nil | ((first | apply Go.v2 | apply Go.v1); (first | exact leAdd | assumption); iterate 6 exact rfl) | ((first | apply Go.op | apply Go.sop | apply Qg.op); exact rfl; (first | exact aop_alloc | exact aop_new rfl rfl | exact aop_mksl rfl | exact aop_lenM rfl | exact rfl | exact aL rfl rfl rfl rfl rfl | exact aS rfl rfl rfl rfl rfl rfl rfl)) | ((first | apply Go.no | apply Go.sno | apply Qg.no); exact rfl) | ((first | apply Go.pcall | apply Go.spcall | apply Qg.pcall); (iterate 3 exact rfl); (first | exact t0 | exact t1 | exact t3)) | (exfalso; omega) | (((first | apply Go.iQ | apply Go.gQ | apply Go.sQ | apply Qg.gQ); exact rfl; (first | exact .d | exact .e | exact .n | ((fail_if_success exact bqt); (fail_if_success exact bqf); exact .b))) <;> intro _)
  first | refine .spcall rfl rfl rfl (NewV.pure himpl) ?_ | refine .pcall rfl rfl rfl (NewV.pure himpl) ?_
  have hee := eqInt64S_ok ws ws w1
  rw [beq_self_eq_true] at hee
  repeat' first | (apply Go.adm; exact rfl) | apply Go.qs | apply Qg.nil | ((first | apply Go.v2 | apply Go.v1); (first | exact leAdd | assumption); iterate 6 exact rfl) | ((first | apply Go.op | apply Go.sop | apply Qg.op); exact rfl; (first | exact aop_alloc | exact aop_new rfl rfl | exact aop_mksl rfl | exact aop_lenM rfl | exact aop_neB rfl rfl | exact rfl | exact aL rfl rfl rfl rfl rfl | exact aS rfl rfl rfl rfl rfl rfl rfl)) | ((first | apply Go.no | apply Go.sno | apply Qg.no); exact rfl) | ((first | apply Go.pcall | apply Go.spcall | apply Qg.pcall); (iterate 3 exact rfl); exact hee) | (exfalso; omega) | (((first | apply Go.iQ | apply Go.gQ | apply Go.sQ | apply Qg.gQ); exact rfl; (first | exact .d | exact .e | exact .n | ((fail_if_success exact bqt); (fail_if_success exact bqf); exact .b))) <;> intro _)
  first | refine Go.lcall rfl rfl rfl (hhc) (.int _ _) (.own (HasV.c hhr).lend (.same .nil)) ?_ | refine Go.slcall rfl rfl rfl (hhc) (.int _ _) (.own (HasV.c hhr).lend (.same .nil)) ?_
  repeat' first | (apply Go.adm; exact rfl) | apply Go.qs | apply Qg.nil | ((first | apply Go.v2 | apply Go.v1); (first | exact leAdd | assumption); iterate 6 exact rfl) | ((first | apply Go.op | apply Go.sop | apply Qg.op); exact rfl; (first | exact aop_alloc | exact aop_new rfl rfl | exact aop_mksl rfl | exact aop_lenM rfl | exact rfl | exact aL rfl rfl rfl rfl rfl | exact aS rfl rfl rfl rfl rfl rfl rfl)) | ((first | apply Go.no | apply Go.sno | apply Qg.no); exact rfl) | (exfalso; omega) | (((first | apply Go.iQ | apply Go.gQ | apply Go.sQ | apply Qg.gQ); exact rfl; (first | exact .d | exact .e | exact .n | ((fail_if_success exact bqt); (fail_if_success exact bqf); exact .b))) <;> intro _)
  exact .ret rfl ⟨hold, solid_end⟩
end Go.Proofs.YtcfpdongfdhgjaaGreat.Am

/- The abstract machine, part 27: a row's arguments as abstract values, and what a contract says of a call. -/
set_option linter.unusedVariables false
set_option linter.unusedSimpArgs false
namespace Go.Proofs.YtcfpdongfdhgjaaGreat.Am
open Go.RowKit Go.ChangeShapes Go.WideShapes

/-- A world of which nothing is ours. -/
def Cx.at (W : World) : Cx := ⟨fun _ _ => ⟨0, 0, 0, false⟩, fun _ _ => False, fun _ => False, W⟩
theorem Rl.at (W : World) : Rl (Cx.at W) (Store.none 0) :=
  ⟨fun _ _ h => h.elim, fun id v es hg => by simp [Store.none] at hg, fun b => ⟨fun h => h.elim, fun ⟨id, v, es, hg, _⟩ => by simp [Store.none] at hg⟩, fun id v es id' v' es' hg => by simp [Store.none] at hg, fun id v es hg => by simp [Store.none] at hg⟩
theorem rpv_bool {D : Cx} {b : Bool} {v : Value} (h : RpV D (.c (.bool b)) v) : v = .bool b := by
  cases h with
  | c h => cases h; rfl
theorem Pure.calls {P : Program} {f : Nat} {args : List AV} {b : Bool} (h : Pure P f args (.c (.bool b))) {W : World} {cargs : Array Value} (ha : ∃ hl : cargs.size = args.length, ∀ i (hi : i < args.length), RpV (Cx.at W) args[i] (cargs[i]'(by omega))) :
    Calls P f cargs W fun e w' => e = .returned (.bool b) ∧ Below W.heap.size W w' := by
  refine ((h.at_ (Store.none 0)).2 (Cx.at W) cargs (Rl.at W) ha).mono ?_
  rintro e w' ⟨D, σ', r, v, rfl, rfl, ⟨rfl, rfl⟩, hR, hv, hle⟩
  exact ⟨by rw [rpv_bool hv], ⟨hle.os, hle.tape, hle.output, hle.size, fun k hk => hle.keep k hk (fun h => h.elim)⟩⟩

section
variable {H : Type} {enc : TypeId × Value → H} {P : Program} {W : World}
/-- What the rows say of a value of a type, as abstract cells. -/
structure Opens (enc : TypeId × Value → H) (P : Program) (W : World) (t : TypeId) {α : Type} (e : α → List Ce) (good : α → Prop) : Prop where
  op : ∀ fuel cs x, DataW.trod enc P W 0 (fun _ => true) true fuel t cs = some x → (∀ n ∈ x.1.weights P t, n ≤ reachBytes) →
    ∃ a, good a ∧ ∃ hl : cs.length = (e a).length, ∀ i (hi : i < (e a).length), Rp (Cx.at W) (e a)[i] (cs[i]'(by omega))
theorem Opens.one {t : TypeId} {α : Type} {e : α → List Ce} {good : α → Prop} (h : ∀ fuel cs x, DataW.trod enc P W 0 (fun _ => true) true fuel t cs = some x → (∀ n ∈ x.1.weights P t, n ≤ reachBytes) → ∃ a y v, good a ∧ e a = [y] ∧ cs = [v] ∧ Rp (Cx.at W) y v) : Opens enc P W t e good := by
  constructor
  intro fuel cs x h1 h2
  obtain ⟨a, y, v, hg, he, rfl, hr⟩ := h fuel cs x h1 h2
  refine ⟨a, hg, by simp [he], fun i hi => ?_⟩
  have hi' : i = 0 := by rw [he] at hi; simpa using hi
  subst hi'
  simp only [he, List.getElem_cons_zero]
  exact hr
theorem Opens.iso {t : TypeId} {α β : Type} {e : β → List Ce} {good : β → Prop} (h : Opens enc P W t e good) (g : β → α) {e' : α → List Ce} {good' : α → Prop} (he : ∀ b, e' (g b) = e b) (hg : ∀ b, good b → good' (g b)) : Opens enc P W t e' good' := by
  constructor
  intro fuel cs x h1 h2
  obtain ⟨a, h3, hl, h4⟩ := h.op fuel cs x h1 h2
  refine ⟨g a, hg a h3, by rw [he]; exact hl, fun i hi => ?_⟩
  simp only [he]
  exact h4 i (by rw [he] at hi; exact hi)
theorem Opens.int {t : TypeId} {k : IntKind} (ht : P.underlying t = some (.int k)) : Opens enc P W t (fun n : Int => [.int k n]) (fun n => (Lit.int k n).wf = true) := by
  refine Opens.one fun fuel cs x h1 _ => ?_
  obtain ⟨n, rfl, rfl, hw⟩ := DataW.trod_int ht h1
  exact ⟨n, _, _, hw, rfl, rfl, .int k n⟩
theorem Opens.bool {t : TypeId} (ht : P.underlying t = some .bool) : Opens enc P W t (fun b : Bool => [.bool b]) (fun _ => True) := by
  refine Opens.one fun fuel cs x h1 _ => ?_
  obtain ⟨n, rfl, rfl⟩ := DataW.trod_bool ht h1
  exact ⟨n, _, _, trivial, rfl, rfl, .bool n⟩
theorem Opens.str {t : TypeId} (ht : P.underlying t = some .string) : Opens enc P W t (fun s : List UInt8 => [.str s]) (fun s => s.length ≤ 140737488351232) := by
  refine Opens.one fun fuel cs x h1 h2 => ?_
  obtain ⟨s, rfl, rfl, hs⟩ := DataW.trod_string ht h1
  refine ⟨s.data.toList, _, _, ?_, rfl, rfl, .str _⟩
  have := h2 s.data.toList.length (by simp [DataW.weights])
  exact this
theorem list_choice {α : Type} {p : Nat → α → Prop} : ∀ n, (∀ i, i < n → ∃ a, p i a) → ∃ l : List α, l.length = n ∧ ∀ i (hi : i < l.length), p i l[i]
  | 0, _ => ⟨[], rfl, fun i hi => by simp at hi⟩
  | n + 1, h => by
    obtain ⟨l, h1, h2⟩ := list_choice n fun i hi => h i (by omega)
    obtain ⟨a, ha⟩ := h n (by omega)
    refine ⟨l ++ [a], by simp [h1], fun i hi => ?_⟩
    by_cases e : i < l.length
    · rw [List.getElem_append_left e]; exact h2 i e
    · have : i = l.length := by simp at hi; omega
      subst this
      have e1 : (l ++ [a])[l.length]'hi = a := by rw [List.getElem_append_right (Nat.le_refl _)]; simp
      rw [e1, h1]
      exact ha
theorem weightsAll_mem {e : TypeId} : ∀ {l : List (DataW H)} {d : DataW H} {n : Nat}, d ∈ l → n ∈ d.weights P e → n ∈ DataW.weightsAll P e l
  | y :: r, d, n, h, hn => by
    simp only [DataW.weightsAll, List.mem_append]
    rcases List.mem_cons.1 h with rfl | h
    · exact .inl hn
    · exact .inr (weightsAll_mem h hn)
theorem add_add {a : Addr} (h : a.spot = none) (m j : Nat) : (a.add m).add j = ⟨a.block, a.off + (m + j), none⟩ := by
  obtain ⟨b, o, s⟩ := a
  subst h
  simp only [Addr.add]
  split <;> split <;> simp_all [Nat.add_assoc]
theorem spot_of_cell {w : World} {a : Addr} {v : Value} (h : w.cell? a = some v) : a.spot = none ∧ a.block < w.heap.size := by
  unfold World.cell? at h
  split at h
  · rename_i hb
    refine ⟨?_, ?_⟩
    · split at h
      · cases h
      · rename_i hs
        simpa using hs
    · exact (Array.getElem?_eq_some_iff.1 hb).1
  · cases h
theorem Opens.slice {t el : TypeId} {α : Type} {e : α → List Ce} {good : α → Prop} {s : Nat} (ht : P.underlying t = some (.slice el)) (h : Opens enc P W el e good) (hs : P.cellsOf el = s) (hs0 : 0 < s) (he : ∀ a, (e a).length = s) :
    Opens enc P W t (fun l : List α => [.fz (l.map e)]) (fun l => l.length * P.bytesOf el ≤ 140737488351232 ∧ ∀ a ∈ l, good a) := by
  refine Opens.one fun fuel cs x h1 h2 => ?_
  rcases DataW.trod_slice ht h1 with ⟨rfl, rfl⟩ | ⟨a, len, cap, elems, rest, n, _, rfl, rfl, hb, hl, hm, hlen, hel, hsp, hns⟩
  · exact ⟨[], _, _, ⟨by simp, by simp⟩, rfl, rfl, .fz0 _ _⟩
  rw [hs] at hel
  have each : ∀ i, i < len → ∃ y, good y ∧ ∀ j (hj : j < (e y).length), ∃ v, W.cell? ((a.add (i * s)).add j) = some v ∧ Rp (Cx.at W) (e y)[j] v := by
    intro i hi
    have hi' : i < elems.length := by omega
    have h3 := hel i hi
    rw [List.getElem?_eq_getElem hi', Option.bind_eq_some_iff] at h3
    obtain ⟨cs, hc, hd⟩ := h3
    obtain ⟨y, hy, hl, hr⟩ := h.op n cs _ hd (fun m hm => h2 m (by
      simp only [DataW.weights, ht]
      refine List.mem_cons_of_mem _ (List.mem_append_left _ (weightsAll_mem (d := elems[i].1) (List.mem_map_of_mem (List.getElem_mem hi')) hm))))
    obtain ⟨_, hcl, hcc⟩ := World.cells?_some hc
    refine ⟨y, hy, fun j hj => ⟨cs[j]'(by omega), ?_, hr j hj⟩⟩
    rw [hcc j (by rw [← he y]; exact hj), List.getElem?_eq_getElem]
  obtain ⟨l, hll, hl2⟩ := list_choice len each
  refine ⟨l, _, _, ⟨?_, fun y hy => ?_⟩, rfl, rfl, ?_⟩
  · have := h2 _ (by
      simp only [DataW.weights, ht]
      exact List.mem_cons_self)
    simp only [List.length_map] at this
    have h5 : l.length * P.bytesOf el ≤ (elems.length + rest.length) * P.bytesOf el := Nat.mul_le_mul_right _ (by omega)
    exact Nat.le_trans h5 this
  · obtain ⟨i, hi, rfl⟩ := List.mem_iff_getElem.1 hy
    exact (hl2 i hi).1
  · rcases Nat.eq_zero_or_pos len with h0 | h0
    · have hl0 : l = [] := List.eq_nil_of_length_eq_zero (by omega)
      subst hl0
      subst h0
      exact .fz0 _ _
    · obtain ⟨v0, hv0, _⟩ := (hl2 0 (by omega)).2 0 (by rw [he]; exact hs0)
      have hsp0 : a.spot = none ∧ a.block < W.heap.size := by
        have := spot_of_cell hv0
        simpa [Addr.add] using this
      obtain ⟨b, o, sp⟩ := a
      obtain ⟨rfl, hbl⟩ := hsp0
      have hlm : (l.map e).length = len := by simp [hll]
      have key := Rp.fz (C := Cx.at W) (l.map e) b o cap s (fun i j => (W.cell? ⟨b, o + (i * s + j), none⟩).getD .nilFunc) hbl (fun h => h.elim) (by omega) (fun i hi => by simp [he]) (fun i j hi hj => by
        rw [hlm] at hi
        obtain ⟨v, hv, _⟩ := (hl2 i (by omega)).2 j (by rw [he]; exact hj)
        rw [add_add rfl] at hv
        show W.cell? _ = _
        rw [hv]
        rfl) (fun i j hi hj => by
        rw [hlm] at hi
        have hj' : j < (e (l[i]'(by omega))).length := by simpa using hj
        obtain ⟨v, hv, hr⟩ := (hl2 i (by omega)).2 j hj'
        rw [add_add rfl] at hv
        simp only [hv, Option.getD_some, List.getElem_map]
        exact hr)
      rw [hlm] at key
      exact key

/-- .. of the fields of a struct, from one on. -/
structure OpensF (enc : TypeId × Value → H) (P : Program) (W : World) (fs : Array Field) (k off : Nat) {α : Type} (e : α → List Ce) (good : α → Prop) : Prop where
  op : ∀ (cs : List Value) (n : Nat) (xs : List (DataW H × List MemPlace)), xs.length = fs.size → (∀ (i : Nat) (f : Field), fs[i]? = some f → DataW.trod enc P W 0 (fun _ => true) true n f.type ((cs.drop f.offset).take (P.cellsOf f.type)) = xs[i]?) →
    (∀ (i : Nat) (f : Field) (x : DataW H × List MemPlace), fs[i]? = some f → xs[i]? = some x → ∀ m ∈ x.1.weights P f.type, m ≤ reachBytes) →
    ∃ a, good a ∧ ∀ i (hi : i < (e a).length), ∃ v, cs[off + i]? = some v ∧ Rp (Cx.at W) (e a)[i] v
theorem OpensF.nil {fs : Array Field} {k off : Nat} : OpensF enc P W fs k off (fun _ : Unit => []) (fun _ => True) :=
  ⟨fun cs n xs _ _ _ => ⟨(), trivial, fun i hi => by simp at hi⟩⟩
theorem OpensF.cons {fs : Array Field} {k off s : Nat} {f : Field} {α β : Type} {e : α → List Ce} {good : α → Prop} {e' : β → List Ce} {good' : β → Prop} (hf : fs[k]? = some f) (h : Opens enc P W f.type e good) (ho : f.offset = off) (he : ∀ a, (e a).length = s) (hr : OpensF enc P W fs (k + 1) (off + s) e' good') :
    OpensF enc P W fs k off (fun p : α × β => e p.1 ++ e' p.2) (fun p => good p.1 ∧ good' p.2) := by
  constructor
  intro cs n xs hxl hx hw
  obtain ⟨b, hb, hb2⟩ := hr.op cs n xs hxl hx hw
  have hk : k < xs.length := by rw [hxl]; exact (Array.getElem?_eq_some_iff.1 hf).1
  have h1 := hx k f hf
  rw [List.getElem?_eq_getElem hk] at h1
  obtain ⟨a, ha, hl, ha2⟩ := h.op n _ _ h1 (hw k f _ hf (List.getElem?_eq_getElem hk))
  refine ⟨(a, b), ⟨ha, hb⟩, fun i hi => ?_⟩
  by_cases c : i < (e a).length
  · refine ⟨_, ?_, by
      simp only [List.getElem_append_left c]
      exact ha2 i c⟩
    have h2 : ((cs.drop f.offset).take (P.cellsOf f.type))[i]? = some (((cs.drop f.offset).take (P.cellsOf f.type))[i]'(by omega)) := List.getElem?_eq_getElem _
    rw [List.getElem?_take] at h2
    split at h2
    · rw [List.getElem?_drop] at h2
      rw [← h2]
      congr 1
      omega
    · cases h2
  · have hi' : i - (e a).length < (e' b).length := by simp only [List.length_append] at hi; omega
    obtain ⟨v, h2, h3⟩ := hb2 (i - (e a).length) hi'
    refine ⟨v, ?_, ?_⟩
    · rw [← h2, he]
      congr 1
      have := he a
      omega
    · simp only [List.getElem_append_right (Nat.le_of_not_lt c)]
      exact h3
theorem Opens.struct {t : TypeId} {fs : Array Field} {α : Type} {e : α → List Ce} {good : α → Prop} {s : Nat} (ht : P.underlying t = some (.struct fs)) (h : OpensF enc P W fs 0 0 e good) (hs : P.cellsOf t = s) (he : ∀ a, (e a).length = s) : Opens enc P W t e good := by
  constructor
  intro fuel cs x h1 h2
  obtain ⟨xs, n, rfl, rfl, hl, hxl, hx⟩ := DataW.trod_struct ht h1
  obtain ⟨a, ha, ha2⟩ := h.op cs n xs hxl hx (fun i f y hf hy m hm => h2 m (by
    simp only [DataW.weights, ht]
    refine DataW.weights_mem_each (j := i) (t := f.type) (d := y.1) ?_ ?_ m hm
    · rw [List.getElem?_map, Array.getElem?_toList, hf]; rfl
    · rw [List.getElem?_map, hy]; rfl))
  refine ⟨a, ha, by rw [he, hl, hs], fun i hi => ?_⟩
  obtain ⟨v, h3, h4⟩ := ha2 i hi
  rw [Nat.zero_add] at h3
  obtain ⟨_, rfl⟩ := List.getElem?_eq_some_iff.1 h3
  exact h4
/-- An argument of a row. -/
theorem Opens.agg {t : TypeId} {fs : Array Field} {α : Type} {e : α → List Ce} {good : α → Prop} (h : Opens enc P W t e good) (ht : P.underlying t = some (.struct fs)) {r : Reach} {b0 : Nat} {v : Value} (hv : Value.okWide P W r b0 t v) {d : DataW H} {ps : List MemPlace} (hd : DataW.Trod enc P W 0 (fun _ => true) true t v d ps) (hw : ∀ n ∈ d.weights P t, n ≤ reachBytes) :
    ∃ a, good a ∧ RpV (Cx.at W) (.agg (e a)) v := by
  simp only [Value.okWide, ht] at hv
  obtain ⟨cs, rfl, _, _⟩ := hv
  obtain ⟨fuel, hf⟩ := hd
  obtain ⟨a, ha, hl, hr⟩ := h.op fuel _ _ hf hw
  refine ⟨a, ha, .agg (by simpa [Value.cells] using hl) fun i hi => ?_⟩
  have := hr i hi
  simpa [Value.cells] using this
theorem Opens.c {t : TypeId} {α : Type} {e : α → Ce} {good : α → Prop} (h : Opens enc P W t (fun a => [e a]) good) {v : Value} (hv : v.cells = #[v]) {d : DataW H} {ps : List MemPlace} (hd : DataW.Trod enc P W 0 (fun _ => true) true t v d ps) (hw : ∀ n ∈ d.weights P t, n ≤ reachBytes) :
    ∃ a, good a ∧ RpV (Cx.at W) (.c (e a)) v := by
  obtain ⟨fuel, hf⟩ := hd
  rw [hv] at hf
  obtain ⟨a, ha, hl, hr⟩ := h.op fuel _ _ hf hw
  exact ⟨a, ha, .c (hr 0 (by simp))⟩
theorem cells_slice {t el : TypeId} (ht : P.underlying t = some (.slice el)) {r : Reach} {b0 : Nat} {v : Value} (hv : Value.okWide P W r b0 t v) : v.cells = #[v] := by
  obtain ⟨a, len, cap, rfl⟩ := okWide_slice ht hv
  rfl
theorem cells_int {t : TypeId} {k : IntKind} (ht : P.underlying t = some (.int k)) {r : Reach} {b0 : Nat} {v : Value} (hv : Value.okWide P W r b0 t v) : v.cells = #[v] := by
  obtain ⟨n, rfl⟩ := okWide_int ht hv
  rfl
end
end Go.Proofs.YtcfpdongfdhgjaaGreat.Am

/- What the rows say of values and entries. -/
set_option linter.unusedVariables false
set_option linter.unusedSimpArgs false
namespace Go.Proofs.YtcfpdongfdhgjaaGreat.Am
open Go.RowKit Go.ChangeShapes Go.WideShapes

section
variable {H : Type} {enc : TypeId × Value → H} {W : World}
theorem openV : Opens enc Tryz.prog W 138 encV LenV := 
  (Opens.struct (s := 3) Tryz.underlying138 (.cons (s := 1) rfl (.int Tryz.underlying2) rfl (fun _ => rfl) (.cons (s := 1) rfl (.int Tryz.underlying2) rfl (fun _ => rfl) (.cons (s := 1) rfl (.str Tryz.underlying9) rfl (fun _ => rfl) .nil))) (by kernel_rfl) (fun _ => rfl)).iso (fun p => Val.mk p.1 p.2.1 p.2.2.1) (fun _ => rfl) fun p h => Nat.le_trans h.2.2.1 (by decide)
theorem openVs : Opens enc Tryz.prog W 55 (fun l : List Val => [.fz (l.map encV)]) (fun l => l.length ≤ 140737488351232 ∧ ∀ v ∈ l, LenV v) :=
  (Opens.slice (s := 3) Tryz.underlying55 openV (by kernel_rfl) (by decide) (fun _ => rfl)).iso id (fun _ => rfl) fun l h => ⟨Nat.le_trans (Nat.le_mul_of_pos_right _ (of_decide_eq_true (by kernel_rfl))) h.1, h.2⟩
end
end Go.Proofs.YtcfpdongfdhgjaaGreat.Am

/- The laws' helpers on types, printed by a program: Tok, Check, Unique, Fk, Col, Table, Term, Select, Trigger, Set, Row, Stmt. -/
set_option linter.unusedVariables false
set_option linter.unusedSimpArgs false
namespace Go.Proofs.YtcfpdongfdhgjaaGreat.Am
open Go.RowKit Go.ChangeShapes Go.WideShapes
section
variable {H : Type} {enc : TypeId × Value → H} {W : World}
theorem openIs : Opens enc Tryz.prog W 41 (fun l : List Int => [.fz (l.map encI)]) (fun l => l.length ≤ 140737488351232) :=
  (Opens.slice (s := 1) Tryz.underlying41 (.int Tryz.underlying2) (by kernel_rfl) (by decide) (fun _ => rfl)).iso id (fun _ => rfl) fun l h => Nat.le_trans (Nat.le_mul_of_pos_right _ (of_decide_eq_true (by kernel_rfl))) h.1
theorem openTok : Opens enc Tryz.prog W 140 encTok (bTok 1125899906842624) :=
  (Opens.struct (s := 5) Tryz.underlying140 (.cons (s := 1) rfl (.int Tryz.underlying2) rfl (fun _ => rfl) (.cons (s := 1) rfl (.int Tryz.underlying2) rfl (fun _ => rfl) (.cons (s := 3) rfl openV rfl (fun _ => rfl) .nil))) (by kernel_rfl) (fun _ => rfl)).iso (fun p => Tok.mk p.1 p.2.1 p.2.2.1) (fun _ => rfl) fun p h => h.2.2.1
theorem openToks : Opens enc Tryz.prog W 38 (fun l : List Tok => [.fz (l.map encTok)]) (fun l => l.length ≤ 140737488351232 ∧ ∀ v ∈ l, bTok 1125899906842624 v) :=
  (Opens.slice (s := 5) Tryz.underlying38 openTok (by kernel_rfl) (by decide) (fun _ => rfl)).iso id (fun _ => rfl) fun l h => ⟨Nat.le_trans (Nat.le_mul_of_pos_right _ (of_decide_eq_true (by kernel_rfl))) h.1, h.2⟩
theorem openChk : Opens enc Tryz.prog W 312 encChk (bChk 1125899906842624) :=
  (Opens.struct (s := 1) Tryz.underlying312 (.cons (s := 1) rfl openToks rfl (fun _ => rfl) .nil) (by kernel_rfl) (fun _ => rfl)).iso (fun p => Chk.mk p.1) (fun _ => rfl) fun p h => ⟨Nat.le_trans h.1.1 (by decide), h.1.2⟩
theorem openChks : Opens enc Tryz.prog W 110 (fun l : List Chk => [.fz (l.map encChk)]) (fun l => l.length ≤ 140737488351232 ∧ ∀ v ∈ l, bChk 1125899906842624 v) :=
  (Opens.slice (s := 1) Tryz.underlying110 openChk (by kernel_rfl) (by decide) (fun _ => rfl)).iso id (fun _ => rfl) fun l h => ⟨Nat.le_trans (Nat.le_mul_of_pos_right _ (of_decide_eq_true (by kernel_rfl))) h.1, h.2⟩
theorem openUniq : Opens enc Tryz.prog W 310 encUniq (bUniq 1125899906842624) :=
  (Opens.struct (s := 1) Tryz.underlying310 (.cons (s := 1) rfl openIs rfl (fun _ => rfl) .nil) (by kernel_rfl) (fun _ => rfl)).iso (fun p => Uniq.mk p.1) (fun _ => rfl) fun p h => Nat.le_trans h.1 (by decide)
theorem openUniqs : Opens enc Tryz.prog W 109 (fun l : List Uniq => [.fz (l.map encUniq)]) (fun l => l.length ≤ 140737488351232 ∧ ∀ v ∈ l, bUniq 1125899906842624 v) :=
  (Opens.slice (s := 1) Tryz.underlying109 openUniq (by kernel_rfl) (by decide) (fun _ => rfl)).iso id (fun _ => rfl) fun l h => ⟨Nat.le_trans (Nat.le_mul_of_pos_right _ (of_decide_eq_true (by kernel_rfl))) h.1, h.2⟩
theorem openFk : Opens enc Tryz.prog W 314 encFk (bFk 1125899906842624) :=
  (Opens.struct (s := 5) Tryz.underlying314 (.cons (s := 1) rfl openIs rfl (fun _ => rfl) (.cons (s := 1) rfl (.str Tryz.underlying9) rfl (fun _ => rfl) (.cons (s := 1) rfl (.int Tryz.underlying2) rfl (fun _ => rfl) (.cons (s := 1) rfl (.int Tryz.underlying2) rfl (fun _ => rfl) (.cons (s := 1) rfl (.bool Tryz.underlying4) rfl (fun _ => rfl) .nil))))) (by kernel_rfl) (fun _ => rfl)).iso (fun p => Fk.mk p.1 p.2.1 p.2.2.1 p.2.2.2.1 p.2.2.2.2.1) (fun _ => rfl) fun p h => ⟨Nat.le_trans h.1 (by decide), Nat.le_trans h.2.1 (by decide)⟩
theorem openFks : Opens enc Tryz.prog W 111 (fun l : List Fk => [.fz (l.map encFk)]) (fun l => l.length ≤ 140737488351232 ∧ ∀ v ∈ l, bFk 1125899906842624 v) :=
  (Opens.slice (s := 5) Tryz.underlying111 openFk (by kernel_rfl) (by decide) (fun _ => rfl)).iso id (fun _ => rfl) fun l h => ⟨Nat.le_trans (Nat.le_mul_of_pos_right _ (of_decide_eq_true (by kernel_rfl))) h.1, h.2⟩
theorem openCol : Opens enc Tryz.prog W 308 encCol (bCol 1125899906842624) :=
  (Opens.struct (s := 6) Tryz.underlying308 (.cons (s := 1) rfl (.str Tryz.underlying9) rfl (fun _ => rfl) (.cons (s := 1) rfl (.int Tryz.underlying2) rfl (fun _ => rfl) (.cons (s := 1) rfl (.bool Tryz.underlying4) rfl (fun _ => rfl) (.cons (s := 3) rfl openV rfl (fun _ => rfl) .nil)))) (by kernel_rfl) (fun _ => rfl)).iso (fun p => Col.mk p.1 p.2.1 p.2.2.1 p.2.2.2.1) (fun _ => rfl) fun p h => ⟨Nat.le_trans h.1 (by decide), h.2.2.2.1⟩
theorem openCols : Opens enc Tryz.prog W 108 (fun l : List Col => [.fz (l.map encCol)]) (fun l => l.length ≤ 140737488351232 ∧ ∀ v ∈ l, bCol 1125899906842624 v) :=
  (Opens.slice (s := 6) Tryz.underlying108 openCol (by kernel_rfl) (by decide) (fun _ => rfl)).iso id (fun _ => rfl) fun l h => ⟨Nat.le_trans (Nat.le_mul_of_pos_right _ (of_decide_eq_true (by kernel_rfl))) h.1, h.2⟩
theorem openTable : Opens enc Tryz.prog W 113 encTable (bTable 1125899906842624) :=
  (Opens.struct (s := 6) Tryz.underlying113 (.cons (s := 1) rfl (.str Tryz.underlying9) rfl (fun _ => rfl) (.cons (s := 1) rfl openCols rfl (fun _ => rfl) (.cons (s := 1) rfl openIs rfl (fun _ => rfl) (.cons (s := 1) rfl openUniqs rfl (fun _ => rfl) (.cons (s := 1) rfl openChks rfl (fun _ => rfl) (.cons (s := 1) rfl openFks rfl (fun _ => rfl) .nil)))))) (by kernel_rfl) (fun _ => rfl)).iso (fun p => Table.mk p.1 p.2.1 p.2.2.1 p.2.2.2.1 p.2.2.2.2.1 p.2.2.2.2.2.1) (fun _ => rfl) fun p h => ⟨Nat.le_trans h.1 (by decide), ⟨Nat.le_trans h.2.1.1 (by decide), h.2.1.2⟩, Nat.le_trans h.2.2.1 (by decide), ⟨Nat.le_trans h.2.2.2.1.1 (by decide), h.2.2.2.1.2⟩, ⟨Nat.le_trans h.2.2.2.2.1.1 (by decide), h.2.2.2.2.1.2⟩, ⟨Nat.le_trans h.2.2.2.2.2.1.1 (by decide), h.2.2.2.2.2.1.2⟩⟩
theorem openTables : Opens enc Tryz.prog W 22 (fun l : List Table => [.fz (l.map encTable)]) (fun l => l.length ≤ 140737488351232 ∧ ∀ v ∈ l, bTable 1125899906842624 v) :=
  (Opens.slice (s := 6) Tryz.underlying22 openTable (by kernel_rfl) (by decide) (fun _ => rfl)).iso id (fun _ => rfl) fun l h => ⟨Nat.le_trans (Nat.le_mul_of_pos_right _ (of_decide_eq_true (by kernel_rfl))) h.1, h.2⟩
theorem openRowD : Opens enc Tryz.prog W 329 encRowD (bRowD 1125899906842624) :=
  (Opens.struct (s := 2) Tryz.underlying329 (.cons (s := 1) rfl (.int Tryz.underlying2) rfl (fun _ => rfl) (.cons (s := 1) rfl openVs rfl (fun _ => rfl) .nil)) (by kernel_rfl) (fun _ => rfl)).iso (fun p => RowD.mk p.1 p.2.1) (fun _ => rfl) fun p h => ⟨Nat.le_trans h.2.1.1 (by decide), h.2.1.2⟩
theorem openRowDs : Opens enc Tryz.prog W 133 (fun l : List RowD => [.fz (l.map encRowD)]) (fun l => l.length ≤ 140737488351232 ∧ ∀ v ∈ l, bRowD 1125899906842624 v) :=
  (Opens.slice (s := 2) Tryz.underlying133 openRowD (by kernel_rfl) (by decide) (fun _ => rfl)).iso id (fun _ => rfl) fun l h => ⟨Nat.le_trans (Nat.le_mul_of_pos_right _ (of_decide_eq_true (by kernel_rfl))) h.1, h.2⟩
end
end Go.Proofs.YtcfpdongfdhgjaaGreat.Am

/- The laws' helpers on types, printed by a program: Data, Line, Save, Session. -/
set_option linter.unusedVariables false
set_option linter.unusedSimpArgs false
namespace Go.Proofs.YtcfpdongfdhgjaaGreat.Am
open Go.RowKit Go.ChangeShapes Go.WideShapes
section
variable {H : Type} {enc : TypeId × Value → H} {W : World}
theorem openData : Opens enc Tryz.prog W 135 encData (bData 1125899906842624) :=
  (Opens.struct (s := 1) Tryz.underlying135 (.cons (s := 1) rfl openRowDs rfl (fun _ => rfl) .nil) (by kernel_rfl) (fun _ => rfl)).iso (fun p => Data.mk p.1) (fun _ => rfl) fun p h => ⟨Nat.le_trans h.1.1 (by decide), h.1.2⟩
theorem openDatas : Opens enc Tryz.prog W 37 (fun l : List Data => [.fz (l.map encData)]) (fun l => l.length ≤ 140737488351232 ∧ ∀ v ∈ l, bData 1125899906842624 v) :=
  (Opens.slice (s := 1) Tryz.underlying37 openData (by kernel_rfl) (by decide) (fun _ => rfl)).iso id (fun _ => rfl) fun l h => ⟨Nat.le_trans (Nat.le_mul_of_pos_right _ (of_decide_eq_true (by kernel_rfl))) h.1, h.2⟩
end
end Go.Proofs.YtcfpdongfdhgjaaGreat.Am

/- The statement of the law FnExactMatching: whatever its arguments are, it returns true, leaves what was there as it was, and ends. No condition. -/
namespace Go.Proofs.YtcfpdongfdhgjaaGreat.fnExactMatching
open Go.ChangeShapes Go.WideShapes Go.ChangeAt Go.RowKit Go.Proofs.YtcfpdongfdhgjaaGreat.Am
open Go.ChangeMaps (open_string shut_string)
set_option linter.unusedVariables false
theorem own : ownKnob Tryz.prog.godebug = none := by kernel_rfl
theorem laidOut : laidOutB Tryz.prog = true := by kernel_rfl
set_option maxRecDepth 100000 in
theorem lifted (os : Os) (started : os.Started) (H : Type) (enc : TypeId × Value → H) :
    ReturnsInHanded {} Tryz.checked os 4 .any (Rows.fnExactMatchingSpec.pre6 enc Tryz.prog Tryz.f4 Rows.fnExactMatchingRow.domain false) (Rows.fnExactMatchingSpec.post enc Tryz.prog Tryz.f4 false true false false) := by
  refine returnsInHanded_of_change_sized (C := Tryz.checked) own started (by kernel_rfl) Tryz.func4
    (ChangeSpec.witness6 (enc := enc) (C := Tryz.checked) false ⟨#[], #[.slice none 0 0, .slice none 0 0, .int .i64 0, .slice none 0 0], []⟩ 8 (by kernel_rfl) (by kernel_rfl) (by kernel_rfl) (by kernel_rfl)) ?_
  intro W base args ds gs before hval0 hW hcnd hsz0 _
  have hval : ∀ (j : Nat) t v, Tryz.f4.params[j]? = some t → args[j]? = some v → Value.okWide Tryz.prog W .any base t v := hval0
  have hW' := hW
  obtain ⟨p, q, hA0, hV, rfl, hfz, hnd⟩ := hW
  have hA : DataW.TrodAll enc Tryz.prog W 0 (fun _ => true) true Tryz.f4.params.toList args.toList ds p := hA0
  rw [Tryz.params4] at hA hval
  have hsz : (DataW.weightsEach Tryz.prog (Tryz.f4.params.toList ++ Rows.fnExactMatchingSpec.plain.varTypes Tryz.prog) (ds ++ gs)).all (· ≤ reachBytes) = true := hsz0
  rw [Tryz.params4] at hsz
  obtain ⟨v0, vs0, d0, ds0, p0, q0, hargs, rfl, rfl, h0, r0⟩ := trodAll_cons hA
  obtain ⟨v1, vs1, d1, ds1, p1, q1, rfl, rfl, rfl, h1, r1⟩ := trodAll_cons r0
  obtain ⟨v2, vs2, d2, ds2, p2, q2, rfl, rfl, rfl, h2, r2⟩ := trodAll_cons r1
  obtain ⟨v3, vs3, d3, ds3, p3, q3, rfl, rfl, rfl, h3, r3⟩ := trodAll_cons r2
  obtain ⟨rfl, rfl, rfl⟩ := trodAll_nil r3
  obtain rfl : args = #[v0, v1, v2, v3] := by cases args; simp_all
  obtain ⟨rfl, rfl⟩ := trodVars_none hV
  obtain ⟨a0, g0, e0⟩ := Opens.c openTables (cells_slice Tryz.underlying22 (hval 0 22 v0 rfl rfl)) h0 (fun n hn => of_decide_eq_true (List.all_eq_true.1 hsz _ (DataW.weights_mem_each (j := 0) (t := 22) rfl rfl n hn)))
  have k0 := h0
  have lt0 : ∀ x ∈ p0, x.block < W.heap.size := by obtain ⟨m, hm⟩ := k0; exact DataW.trod_lt m _ _ _ hm
  obtain ⟨a1, g1, e1⟩ := Opens.c openDatas (cells_slice Tryz.underlying37 (hval 1 37 v1 rfl rfl)) h1 (fun n hn => of_decide_eq_true (List.all_eq_true.1 hsz _ (DataW.weights_mem_each (j := 1) (t := 37) rfl rfl n hn)))
  have k1 := h1
  have lt1 : ∀ x ∈ p1, x.block < W.heap.size := by obtain ⟨m, hm⟩ := k1; exact DataW.trod_lt m _ _ _ hm
  obtain ⟨a2, g2, e2⟩ := Opens.c (Opens.int Tryz.underlying2) (cells_int Tryz.underlying2 (hval 2 2 v2 rfl rfl)) h2 (fun n hn => of_decide_eq_true (List.all_eq_true.1 hsz _ (DataW.weights_mem_each (j := 2) (t := 2) rfl rfl n hn)))
  have k2 := h2
  have lt2 : ∀ x ∈ p2, x.block < W.heap.size := by obtain ⟨m, hm⟩ := k2; exact DataW.trod_lt m _ _ _ hm
  obtain ⟨a3, g3, e3⟩ := Opens.c openToks (cells_slice Tryz.underlying38 (hval 3 38 v3 rfl rfl)) h3 (fun n hn => of_decide_eq_true (List.all_eq_true.1 hsz _ (DataW.weights_mem_each (j := 3) (t := 38) rfl rfl n hn)))
  have k3 := h3
  have lt3 : ∀ x ∈ p3, x.block < W.heap.size := by obtain ⟨m, hm⟩ := k3; exact DataW.trod_lt m _ _ _ hm
  clear hA0 hval0 hsz0 hsz
  refine ((Matching_sound a0 a1 a2 a3 (Nat.le_trans g0.1 (by decide)) g0.2 (Nat.le_trans g1.1 (by decide)) g1.2 (Nat.le_trans g3.1 (by decide)) g3.2).calls (W := W) ⟨rfl, fun i hi => ?_⟩).mono fun e W' ⟨he, bel⟩ => ?_
  · match i, hi with
    | 0, _ => exact e0
    | 1, _ => exact e1
    | 2, _ => exact e2
    | 3, _ => exact e3
  subst he
  exact ⟨_, rfl, _, _, _, [], _, [], hW', trodAll_mk1 (shut_bool Tryz.underlying4 _), (trodAll_cons_mk (Below.trod laidOut (by kernel_rfl) (of_decide_eq_true (by kernel_rfl)) k0 bel lt0) (trodAll_cons_mk (Below.trod laidOut (by kernel_rfl) (of_decide_eq_true (by kernel_rfl)) k1 bel lt1) (trodAll_cons_mk (Below.trod laidOut (by kernel_rfl) (of_decide_eq_true (by kernel_rfl)) k2 bel lt2) (trodAll_cons_mk (Below.trod laidOut (by kernel_rfl) (of_decide_eq_true (by kernel_rfl)) k3 bel lt3) trodAll_mk0)))), rfl, bel.frame _, fun h => by cases h⟩
theorem spl {a b : Bool} (h : (a && b) = true) : a = true ∧ b = true := by cases a <;> cases b <;> simp_all
theorem and2 {a b : Bool} (h : a = true) (k : b = true) : (a && b) = true := by rw [h, k]; rfl
theorem facts0 : (Rows.fnExactMatchingRow.wf (OpenSpec.ofChange Rows.fnExactMatchingSpec) && laidOutB Tryz.pinned.checked.prog && mapsRowed Tryz.pinned.checked.prog && Tryz.f4.params.all (Tryz.pinned.checked.prog.readableRec ·) && namedTie Tryz.pinned.checked.prog Rows.fnExactMatchingRow.named Rows.fnExactMatchingSpec.vars && (Rows.fnExactMatchingRow.stops == []) && (Tryz.pinned.checked.prog.stops == []) && (Rows.fnExactMatchingRow.knobs == []) && (Tryz.pinned.checked.prog.stopKnobs == [])) = true := by kernel_rfl
theorem facts1 : ((Rows.fnExactMatchingRow.inPlace == Tryz.pinned.checked.prog.inPlace 4) && (Rows.fnExactMatchingRow.unfollowed == Tryz.pinned.checked.prog.unfollowed 4) && (Rows.fnExactMatchingRow.recurses == Tryz.pinned.checked.prog.recurses 4) && (Rows.fnExactMatchingRow.named == Tryz.pinned.checked.prog.varsNamed 4)) = true := by kernel_rfl
theorem facts2 : ((Rows.fnExactMatchingRow.maps == (Tryz.f4.params.toList ++ Rows.fnExactMatchingSpec.plain.varTypes Tryz.pinned.checked.prog).any (Tryz.pinned.checked.prog.mapsRec ·)) && (Rows.fnExactMatchingRow.ifaces == (Tryz.f4.params.toList ++ Rows.fnExactMatchingSpec.plain.varTypes Tryz.pinned.checked.prog).any (Tryz.pinned.checked.prog.ifacesRec ·)) && (Rows.fnExactMatchingRow.mapsOut == Tryz.pinned.checked.prog.mapsAmong Tryz.f4.resultTypes.toList) && (Rows.fnExactMatchingRow.loops == (Tryz.f4.params.toList ++ Rows.fnExactMatchingSpec.plain.varTypes Tryz.pinned.checked.prog).any (Tryz.pinned.checked.prog.loopsFrom ·)) && (Rows.fnExactMatchingRow.wideKeys == (Tryz.f4.params.toList ++ Rows.fnExactMatchingSpec.plain.varTypes Tryz.pinned.checked.prog ++ Tryz.f4.resultTypes.toList).any (Tryz.pinned.checked.prog.wideKeysFrom ·)) && Rows.fnExactMatchingSpec.vars.all (Tryz.pinned.checked.prog.varReadable ·)) = true := by kernel_rfl
theorem facts3 : (Tryz.f4.resultTypes.all (fun t => Tryz.pinned.checked.prog.readableRec t && decide (t < Tryz.pinned.checked.prog.types.size)) && (Rows.fnExactMatchingRow.ifacesOut == Tryz.f4.resultTypes.toList.any (Tryz.pinned.checked.prog.ifacesRec ·)) && (Rows.fnExactMatchingRow.loopsOut == Tryz.f4.resultTypes.toList.any (Tryz.pinned.checked.prog.loopsFrom ·)) && (Rows.fnExactMatchingRow.plainKeys == Tryz.pinned.checked.prog.plainKeys) && Rows.fnExactMatchingRow.shortTexts.isNone && (Tryz.pinned.checked.prog.make == some Rows.fnExactMatchingRow.make) && (Rows.fnExactMatchingRow.kinds == (if Rows.fnExactMatchingRow.domain.isEmpty then [] else Tryz.f4.params.toList.map fun t => match Tryz.pinned.checked.prog.underlying t with | some (.int k) => some k | _ => none)) && (Rows.fnExactMatchingRow.pinned == Rows.fnExactMatchingRow.pinnedBy) && (Rows.fnExactMatchingRow.veiled == (Tryz.f4.params.toList ++ Rows.fnExactMatchingSpec.plain.varTypes Tryz.pinned.checked.prog ++ Tryz.f4.resultTypes.toList).any (Tryz.pinned.checked.prog.veiledRec ·)) && Rows.fnExactMatchingRow.veiledFits Tryz.pinned.checked.prog Tryz.f4.params.toList (Tryz.f4.params.toList ++ Rows.fnExactMatchingSpec.plain.varTypes Tryz.pinned.checked.prog ++ Tryz.f4.resultTypes.toList)) = true := by kernel_rfl
theorem facts4 : (Tryz.pinned.checked.prog.stopsHeard && Tryz.pinned.checked.prog.mayEnter && (Rows.fnExactMatchingRow.lifted == Tryz.pinned.checked.prog.liftsFinal)) = true := by kernel_rfl
set_option maxRecDepth 100000 in
theorem closed : joinedFacts Tryz.pinned.checked.prog 4 Tryz.f4 Rows.fnExactMatchingSpec Rows.fnExactMatchingRow = true := by
  have g := facts0
  obtain ⟨g, p8⟩ := spl g
  obtain ⟨g, p7⟩ := spl g
  obtain ⟨g, p6⟩ := spl g
  obtain ⟨g, p5⟩ := spl g
  obtain ⟨g, p4⟩ := spl g
  obtain ⟨g, p3⟩ := spl g
  obtain ⟨g, p2⟩ := spl g
  obtain ⟨g, p1⟩ := spl g
  have p0 := g
  have g := facts1
  obtain ⟨g, p12⟩ := spl g
  obtain ⟨g, p11⟩ := spl g
  obtain ⟨g, p10⟩ := spl g
  have p9 := g
  have g := facts2
  obtain ⟨g, p18⟩ := spl g
  obtain ⟨g, p17⟩ := spl g
  obtain ⟨g, p16⟩ := spl g
  obtain ⟨g, p15⟩ := spl g
  obtain ⟨g, p14⟩ := spl g
  have p13 := g
  have g := facts3
  obtain ⟨g, p31⟩ := spl g
  obtain ⟨g, p30⟩ := spl g
  obtain ⟨g, p29⟩ := spl g
  obtain ⟨g, p28⟩ := spl g
  obtain ⟨g, p27⟩ := spl g
  obtain ⟨g, p23⟩ := spl g
  obtain ⟨g, p22⟩ := spl g
  obtain ⟨g, p21⟩ := spl g
  obtain ⟨g, p20⟩ := spl g
  have p19 := g
  have g := facts4
  obtain ⟨g, p26⟩ := spl g
  obtain ⟨g, p25⟩ := spl g
  have p24 := g
  exact (and2 (and2 (and2 (and2 (and2 (and2 (and2 (and2 (and2 (and2 (and2 (and2 (and2 (and2 (and2 (and2 (and2 (and2 (and2 (and2 (and2 (and2 (and2 (and2 (and2 (and2 (and2 (and2 (and2 (and2 (and2 p0 p1) p2) p3) p4) p5) p6) p7) p8) p9) p10) p11) p12) p13) p14) p15) p16) p17) p18) p19) p20) p21) p22) p23) p24) p25) p26) p27) p28) p29) p30) p31)
theorem over : Rows.fnExactMatchingRow.holds Tryz.pinned (OpenSpec.ofChange Rows.fnExactMatchingSpec) :=
  OpenClaim.holds_of_wide 4 Tryz.f4 rfl rfl rfl rfl rfl rfl rfl ⟨rfl, rfl, rfl, rfl, rfl⟩ rfl rfl rfl rfl rfl (by kernel_rfl) Tryz.func4 closed
    (of_decide_eq_true (by kernel_rfl)) (by unfold Func.isWrapper; first | (rw [if_pos (by decide +kernel)]; kernel_rfl) | (rw [if_neg (by decide +kernel)]; exact ⟨rfl, rfl⟩))
    (fun os started H enc _ => lifted os started H enc)
theorem proved : Rows.FnExactMatchingSaid := over
end Go.Proofs.YtcfpdongfdhgjaaGreat.fnExactMatching
namespace Go.Proofs.YtcfpdongfdhgjaaGreat
/-- The row, under a short name, for the claim. -/
theorem fnExactMatching_holds : Rows.FnExactMatchingSaid := fnExactMatching.proved
#print axioms fnExactMatching_holds
end Go.Proofs.YtcfpdongfdhgjaaGreat
