/- An index without an entry: the program and its reference. -/
import Derived.Test.YtjlhfjpnnildhaaF11
set_option linter.unusedVariables false
set_option linter.unusedSimpArgs false
namespace Go.Proofs.Ytjlhfjpnnildhaa.Am

theorem solid_bool {τ : Store} {S : Nat → Prop} (b : Bool) : HasV τ S (.c (.bool b)) (.c (.bool b)) := .c (.c (.bool b))
/-- A tree and an answer. -/
theorem newPair {σ τ : Store} {y x : Ce} {b : Bool} (h : NewV σ (.c y) (.c x) τ) : NewV σ (.tup [.c y, .c (.bool b)]) (.tup [.c x, .c (.bool b)]) τ :=
  ⟨h.1, .pair h.2 (solid_bool (S := fun _ => False) b) (fun _ h => h) (fun _ h => h.elim) (fun _ _ h => h)⟩
theorem old_map {n : Nat} {e : Entry} : ∀ x ∈ encE e, Old n x := by
  have hv : ∀ (v : Val), ∀ x ∈ encV v, Old n x := fun v x hx => (flatV v x hx).old n
  intro x hx
  simp only [encE, List.mem_cons, List.not_mem_nil, or_false] at hx
  rcases hx with rfl | rfl
  · refine .fz _ fun i j hi hj => ?_
    have hi' : i < e.key.length := by simpa using hi
    have : (e.key.map encV)[i] = encV e.key[i] := by simp
    exact hv e.key[i] _ (by rw [← this]; exact List.getElem_mem hj)
  · exact .int _ _
theorem old_maps {n : Nat} {l : List Entry} : ∀ q ∈ l.map encE, ∀ x ∈ q, Old n x := by
  intro q hq x hx
  obtain ⟨e, _, rfl⟩ := List.mem_map.1 hq
  exact old_map x hx
theorem encE_len {l : List Entry} : ∀ q ∈ l.map encE, q.length = 2 := by
  intro q hq
  obtain ⟨e, _, rfl⟩ := List.mem_map.1 hq
  rfl
theorem wantsE (e f : Entry) : (!(e == f)) = false ↔ e = f := by simp
theorem take_filter {α : Type} {p : α → Bool} {l : List α} {i : Nat} (h : i < l.length) : (l.take (i + 1)).filter p = (l.take i).filter p ++ (if p l[i] then [l[i]] else []) := by
  rw [List.take_succ_eq_append_getElem h, List.filter_append]
  congr 1
  simp only [List.filter_cons, List.filter_nil]
theorem without_length (l : List Entry) (e : Entry) : (without l e).length ≤ l.length := List.length_filter_le _ _
theorem sIndexDrop_ok (l : List Entry) (e : Entry) (hx : l.length ≤ 1099511627776) (hk : ∀ e ∈ l, e.key.length ≤ 1099511627776) (σ : Store) : Ok Try.prog 18 [.c (.fz (l.map encE)), .agg (encE e)] σ (NewV σ (.tup [.c (.fz ((dropF l e).1.map encE)), .c (.bool (dropF l e).2)])) := by
  refine Ok.run mixed c_spec_IndexDrop_ok (Nat.le_of_ble_eq_true rfl) fun hS hA => ?_
  clear hA
  repeat' first | (apply Go.seq) | (apply Go.skip) | (apply Go.region) | (apply Go.nil) | (apply Go.block) | (apply Go.blk) | (apply Go.draw) | (apply Go.segs) | (apply Go.qs) | (apply Qg.nil) | (apply Go.exit; exact rfl) | (apply Go.var2; first | exact Nat.le_add_right _ _ | assumption; decide; decide; decide; decide; exact rfl; exact rfl; exact rfl; exact rfl; exact rfl) | (apply Go.var; first | exact Nat.le_add_right _ _ | assumption; decide; exact rfl; exact rfl; exact rfl; exact rfl) | (apply Go.op; exact rfl; exact aop_alloc) | (apply Go.op; exact rfl; exact aop_new rfl rfl) | (apply Go.op; exact rfl; exact aop_mksl rfl) | (apply Go.op; exact rfl; exact aop_lenM rfl) | (apply Go.sop; exact rfl; exact aop_lenM rfl) | (apply Qg.op; exact rfl; exact aop_lenM rfl) | (apply Go.op; exact rfl; exact rfl) | (apply Go.no; exact rfl) | (apply Go.sop; exact rfl; exact rfl) | (apply Go.sno; exact rfl) | (apply Qg.op; exact rfl; exact rfl) | (apply Qg.no; exact rfl) | (apply Go.op; exact rfl; exact aop_load rfl rfl rfl (Nat.le_of_ble_eq_true rfl) rfl) | (apply Go.op; exact rfl; exact aop_store rfl rfl rfl rfl rfl rfl (Nat.le_of_ble_eq_true rfl)) | (apply Go.cond true; exact rfl) | (apply Go.cond false; exact rfl) | (apply Go.pcallB; exact rfl; exact rfl; exact rfl; exact l11Right_ok l hx hk; intro _ _) | (apply Go.spcallB; exact rfl; exact rfl; exact rfl; exact l11Right_ok l hx hk; intro _ _) | (apply Qg.pcallB; exact rfl; exact rfl; exact rfl; exact l11Right_ok l hx hk; intro _ _) | (exfalso; omega) | (apply Go.iteD; exact rfl) <;> intro _ | (apply Go.iteE; exact rfl) <;> intro _ | (apply Go.iteN; exact rfl) <;> intro _ | (apply Go.guardD; exact rfl) <;> intro _ | (apply Go.guardE; exact rfl) <;> intro _ | (apply Go.guardN; exact rfl) <;> intro _ | (apply Go.sguardD; exact rfl) <;> intro _ | (apply Go.sguardE; exact rfl) <;> intro _ | (apply Go.sguardN; exact rfl) <;> intro _ | (apply Qg.guardD; exact rfl) <;> intro _ | (apply Qg.guardE; exact rfl) <;> intro _ | (apply Qg.guardN; exact rfl) <;> intro _ | (apply Go.guard; exact rfl; fail_if_success (intro h; exact absurd h (by decide)); rotate_left; fail_if_success (intro h; exact absurd h (by decide)); rotate_right) <;> intro _ | (apply Go.sguard; exact rfl; fail_if_success (intro h; exact absurd h (by decide)); rotate_left; fail_if_success (intro h; exact absurd h (by decide)); rotate_right) <;> intro _ | (apply Qg.guard; exact rfl; fail_if_success (intro h; exact absurd h (by decide)); rotate_left; fail_if_success (intro h; exact absurd h (by decide)); rotate_right) <;> intro _ | (apply Go.ite; exact rfl; fail_if_success (intro h; exact absurd h (by decide)); rotate_left; fail_if_success (intro h; exact absurd h (by decide)); rotate_right) <;> intro _
  · rename_i h
    have : dropF l e = ([], false) := by simp_all [dropF]
    rw [this]
    exact .ret rfl (newPair ⟨.start σ, .c .nil⟩)
  rename_i hok
  refine Go.keep [0, 3, 6, 7] (Go.loops (I := fun m fr τ => ∃ i : Nat, ∃ n : Int, ∃ v junk, m = l.length - i ∧ i ≤ l.length ∧ n = i ∧ Jk 2 junk ∧
    fr = [(0, .c (.fz (l.map encE))), (3, .c (.fp (encE e))), (6, .c (vec (σ.next + 0) v ((without (l.take i) e).map encE) junk)), (7, .c (.int .i64 n))] ∧ τ = E σ [(v, (without (l.take i) e).map encE ++ junk)]) ?_ _ _ _ ⟨0, _, 0, [], rfl, Nat.zero_le _, rfl, Jk.nil, rfl, rfl⟩)
  rintro m fr τ ⟨i, n, v, junk, rfl, hi, hn, hj, rfl, rfl⟩ hrec
  by_cases hlt : i < l.length
  · have hki := hk _ (List.getElem_mem hlt)
    have htk := take_filter (p := fun x => !(x == e)) hlt
    repeat' first | (apply Go.seq) | (apply Go.skip) | (apply Go.region) | (apply Go.nil) | (apply Go.block) | (apply Go.blk) | (apply Go.draw) | (apply Go.segs) | (apply Go.qs) | (apply Qg.nil) | (apply Go.exit; exact rfl) | (apply Go.var2; first | exact Nat.le_add_right _ _ | assumption; decide; decide; decide; decide; exact rfl; exact rfl; exact rfl; exact rfl; exact rfl) | (apply Go.var; first | exact Nat.le_add_right _ _ | assumption; decide; exact rfl; exact rfl; exact rfl; exact rfl) | (apply Go.op; exact rfl; exact aop_alloc) | (apply Go.op; exact rfl; exact aop_new rfl rfl) | (apply Go.op; exact rfl; exact aop_mksl rfl) | (apply Go.op; exact rfl; exact aop_lenM rfl) | (apply Go.sop; exact rfl; exact aop_lenM rfl) | (apply Qg.op; exact rfl; exact aop_lenM rfl) | (apply Go.op; exact rfl; exact rfl) | (apply Go.no; exact rfl) | (apply Go.sop; exact rfl; exact rfl) | (apply Go.sno; exact rfl) | (apply Qg.op; exact rfl; exact rfl) | (apply Qg.no; exact rfl) | (apply Go.op; exact rfl; exact aop_load rfl rfl rfl (Nat.le_of_ble_eq_true rfl) rfl) | (apply Go.op; exact rfl; exact aop_store rfl rfl rfl rfl rfl rfl (Nat.le_of_ble_eq_true rfl)) | (apply Go.cond true; exact rfl) | (apply Go.cond false; exact rfl) | (apply Go.op; exact rfl; exact aop_iaddrM (enc := encE) rfl rfl hn hlt rfl) | (apply Go.sop; exact rfl; exact aop_iaddrM (enc := encE) rfl rfl hn hlt rfl) | (apply Qg.op; exact rfl; exact aop_iaddrM (enc := encE) rfl rfl hn hlt rfl) | (apply Go.pcallB; exact rfl; exact rfl; exact rfl; exact l11Same_ok l[i] e hki; intro _ _) | (apply Go.spcallB; exact rfl; exact rfl; exact rfl; exact l11Same_ok l[i] e hki; intro _ _) | (apply Qg.pcallB; exact rfl; exact rfl; exact rfl; exact l11Same_ok l[i] e hki; intro _ _) | (exfalso; omega) | (apply Go.iteD; exact rfl) <;> intro _ | (apply Go.iteE; exact rfl) <;> intro _ | (apply Go.iteN; exact rfl) <;> intro _ | (apply Go.guardD; exact rfl) <;> intro _ | (apply Go.guardE; exact rfl) <;> intro _ | (apply Go.guardN; exact rfl) <;> intro _ | (apply Go.sguardD; exact rfl) <;> intro _ | (apply Go.sguardE; exact rfl) <;> intro _ | (apply Go.sguardN; exact rfl) <;> intro _ | (apply Qg.guardD; exact rfl) <;> intro _ | (apply Qg.guardE; exact rfl) <;> intro _ | (apply Qg.guardN; exact rfl) <;> intro _ | (apply Go.guard; exact rfl; fail_if_success (intro h; exact absurd h (by decide)); rotate_left; fail_if_success (intro h; exact absurd h (by decide)); rotate_right) <;> intro _ | (apply Go.sguard; exact rfl; fail_if_success (intro h; exact absurd h (by decide)); rotate_left; fail_if_success (intro h; exact absurd h (by decide)); rotate_right) <;> intro _ | (apply Qg.guard; exact rfl; fail_if_success (intro h; exact absurd h (by decide)); rotate_left; fail_if_success (intro h; exact absurd h (by decide)); rotate_right) <;> intro _ | (apply Go.ite; exact rfl; fail_if_success (intro h; exact absurd h (by decide)); rotate_left; fail_if_success (intro h; exact absurd h (by decide)); rotate_right) <;> intro _
    · rename_i h1
      have hb : (((without (l.take i) e).map encE).length + 1) * 32 ≤ 140737488355328 := by
        have := without_length (l.take i) e
        rw [List.length_take] at this
        rw [List.length_map]
        omega
      refine Go.app1 (z := encE l[i]) rfl rfl rfl rfl rfl encE_len hj rfl hb fun v' junk' hj' => ?_
      repeat' first | (apply Go.seq) | (apply Go.skip) | (apply Go.region) | (apply Go.nil) | (apply Go.block) | (apply Go.blk) | (apply Go.draw) | (apply Go.segs) | (apply Go.qs) | (apply Qg.nil) | (apply Go.exit; exact rfl) | (apply Go.var2; first | exact Nat.le_add_right _ _ | assumption; decide; decide; decide; decide; exact rfl; exact rfl; exact rfl; exact rfl; exact rfl) | (apply Go.var; first | exact Nat.le_add_right _ _ | assumption; decide; exact rfl; exact rfl; exact rfl; exact rfl) | (apply Go.op; exact rfl; exact aop_alloc) | (apply Go.op; exact rfl; exact aop_new rfl rfl) | (apply Go.op; exact rfl; exact aop_mksl rfl) | (apply Go.op; exact rfl; exact aop_lenM rfl) | (apply Go.sop; exact rfl; exact aop_lenM rfl) | (apply Qg.op; exact rfl; exact aop_lenM rfl) | (apply Go.op; exact rfl; exact rfl) | (apply Go.no; exact rfl) | (apply Go.sop; exact rfl; exact rfl) | (apply Go.sno; exact rfl) | (apply Qg.op; exact rfl; exact rfl) | (apply Qg.no; exact rfl) | (apply Go.op; exact rfl; exact aop_load rfl rfl rfl (Nat.le_of_ble_eq_true rfl) rfl) | (apply Go.op; exact rfl; exact aop_store rfl rfl rfl rfl rfl rfl (Nat.le_of_ble_eq_true rfl)) | (apply Go.cond true; exact rfl) | (apply Go.cond false; exact rfl) | (exfalso; omega) | (apply Go.iteD; exact rfl) <;> intro _ | (apply Go.iteE; exact rfl) <;> intro _ | (apply Go.iteN; exact rfl) <;> intro _ | (apply Go.guardD; exact rfl) <;> intro _ | (apply Go.guardE; exact rfl) <;> intro _ | (apply Go.guardN; exact rfl) <;> intro _ | (apply Go.sguardD; exact rfl) <;> intro _ | (apply Go.sguardE; exact rfl) <;> intro _ | (apply Go.sguardN; exact rfl) <;> intro _ | (apply Qg.guardD; exact rfl) <;> intro _ | (apply Qg.guardE; exact rfl) <;> intro _ | (apply Qg.guardN; exact rfl) <;> intro _ | (apply Go.guard; exact rfl; fail_if_success (intro h; exact absurd h (by decide)); rotate_left; fail_if_success (intro h; exact absurd h (by decide)); rotate_right) <;> intro _ | (apply Go.sguard; exact rfl; fail_if_success (intro h; exact absurd h (by decide)); rotate_left; fail_if_success (intro h; exact absurd h (by decide)); rotate_right) <;> intro _ | (apply Qg.guard; exact rfl; fail_if_success (intro h; exact absurd h (by decide)); rotate_left; fail_if_success (intro h; exact absurd h (by decide)); rotate_right) <;> intro _ | (apply Go.ite; exact rfl; fail_if_success (intro h; exact absurd h (by decide)); rotate_left; fail_if_success (intro h; exact absurd h (by decide)); rotate_right) <;> intro _
      have hnew : (without (l.take (i + 1)) e).map encE = (without (l.take i) e).map encE ++ [encE l[i]] := by
        simp only [without, htk]
        simp_all
      refine Go.keep [0, 3, 6, 7] (hrec _ _ _ (by omega) ⟨i + 1, _, v', junk', rfl, hlt, wrap_succ hn (by omega), hj', ?_, ?_⟩)
      · rw [hnew] <;> try rfl
      · rw [hnew] <;> try rfl
    · rename_i h1
      have hnew : (without (l.take (i + 1)) e) = (without (l.take i) e) := by
        simp only [without, htk]
        simp_all
      refine Go.keep [0, 3, 6, 7] (hrec _ _ _ (by omega) ⟨i + 1, _, v, junk, rfl, hlt, wrap_succ hn (by omega), hj, ?_, ?_⟩)
      · rw [hnew] <;> try rfl
      · rw [hnew] <;> try rfl
  · rw [List.take_of_length_le (by omega)]
    have hwl := without_length l e
    clear hrec
    have hml : ((without l e).map encE).length = (without l e).length := by simp
    repeat' first | (apply Go.seq) | (apply Go.skip) | (apply Go.region) | (apply Go.nil) | (apply Go.block) | (apply Go.blk) | (apply Go.draw) | (apply Go.segs) | (apply Go.qs) | (apply Qg.nil) | (apply Go.exit; exact rfl) | (apply Go.var2; first | exact Nat.le_add_right _ _ | assumption; decide; decide; decide; decide; exact rfl; exact rfl; exact rfl; exact rfl; exact rfl) | (apply Go.var; first | exact Nat.le_add_right _ _ | assumption; decide; exact rfl; exact rfl; exact rfl; exact rfl) | (apply Go.op; exact rfl; exact aop_alloc) | (apply Go.op; exact rfl; exact aop_new rfl rfl) | (apply Go.op; exact rfl; exact aop_mksl rfl) | (apply Go.op; exact rfl; exact aop_lenM rfl) | (apply Go.sop; exact rfl; exact aop_lenM rfl) | (apply Qg.op; exact rfl; exact aop_lenM rfl) | (apply Go.op; exact rfl; exact rfl) | (apply Go.no; exact rfl) | (apply Go.sop; exact rfl; exact rfl) | (apply Go.sno; exact rfl) | (apply Qg.op; exact rfl; exact rfl) | (apply Qg.no; exact rfl) | (apply Go.op; exact rfl; exact aop_load rfl rfl rfl (Nat.le_of_ble_eq_true rfl) rfl) | (apply Go.op; exact rfl; exact aop_store rfl rfl rfl rfl rfl rfl (Nat.le_of_ble_eq_true rfl)) | (apply Go.cond true; exact rfl) | (apply Go.cond false; exact rfl) | (exfalso; omega) | (apply Go.iteD; exact rfl) <;> intro _ | (apply Go.iteE; exact rfl) <;> intro _ | (apply Go.iteN; exact rfl) <;> intro _ | (apply Go.guardD; exact rfl) <;> intro _ | (apply Go.guardE; exact rfl) <;> intro _ | (apply Go.guardN; exact rfl) <;> intro _ | (apply Go.sguardD; exact rfl) <;> intro _ | (apply Go.sguardE; exact rfl) <;> intro _ | (apply Go.sguardN; exact rfl) <;> intro _ | (apply Qg.guardD; exact rfl) <;> intro _ | (apply Qg.guardE; exact rfl) <;> intro _ | (apply Qg.guardN; exact rfl) <;> intro _ | (apply Go.guard; exact rfl; fail_if_success (intro h; exact absurd h (by decide)); rotate_left; fail_if_success (intro h; exact absurd h (by decide)); rotate_right) <;> intro _ | (apply Go.sguard; exact rfl; fail_if_success (intro h; exact absurd h (by decide)); rotate_left; fail_if_success (intro h; exact absurd h (by decide)); rotate_right) <;> intro _ | (apply Qg.guard; exact rfl; fail_if_success (intro h; exact absurd h (by decide)); rotate_left; fail_if_success (intro h; exact absurd h (by decide)); rotate_right) <;> intro _ | (apply Go.ite; exact rfl; fail_if_success (intro h; exact absurd h (by decide)); rotate_left; fail_if_success (intro h; exact absurd h (by decide)); rotate_right) <;> intro _
    · rename_i h
      rw [hml] at h
      have : dropF l e = ([], false) := by
        simp only [dropF]
        rw [if_neg]
        simp only [Bool.and_eq_true, decide_eq_true_eq, not_and, Classical.not_not]
        omega
      rw [this]
      refine Go.freeze hS (fr' := [(4, .c .nils), (5, .c (.bool false))]) (.frz rfl (.c (.same _ .nils)) (.frz rfl (.c (.same _ (.bool _))) .nil)) ?_
      exact .ret rfl (newPair ⟨.start σ, .c .nil⟩)
    · rename_i h
      rw [hml] at h
      have : dropF l e = (without l e, true) := by
        simp only [dropF]
        rw [if_pos]
        simp only [Bool.and_eq_true, decide_eq_true_eq]
        refine ⟨by simp_all, by omega⟩
      rw [this]
      refine Go.freeze hS (fr' := [(37, .c (.fz ((without l e).map encE)))]) (.frz rfl (.c (frz_vec rfl old_maps)) .nil) ?_
      refine Go.call _ rfl rfl rfl (l11Copy_ok (without l e) (by omega) (fun q hq => hk q (List.mem_filter.1 hq).1) _) ?_
      rintro r τ ⟨hg, hh⟩
      cases hh with
      | c hh =>
      repeat' first | (apply Go.seq) | (apply Go.skip) | (apply Go.region) | (apply Go.nil) | (apply Go.block) | (apply Go.blk) | (apply Go.draw) | (apply Go.segs) | (apply Go.qs) | (apply Qg.nil) | (apply Go.exit; exact rfl) | (apply Go.var2; first | exact Nat.le_add_right _ _ | assumption; decide; decide; decide; decide; exact rfl; exact rfl; exact rfl; exact rfl; exact rfl) | (apply Go.var; first | exact Nat.le_add_right _ _ | assumption; decide; exact rfl; exact rfl; exact rfl; exact rfl) | (apply Go.op; exact rfl; exact aop_alloc) | (apply Go.op; exact rfl; exact aop_new rfl rfl) | (apply Go.op; exact rfl; exact aop_mksl rfl) | (apply Go.op; exact rfl; exact aop_lenM rfl) | (apply Go.sop; exact rfl; exact aop_lenM rfl) | (apply Qg.op; exact rfl; exact aop_lenM rfl) | (apply Go.op; exact rfl; exact rfl) | (apply Go.no; exact rfl) | (apply Go.sop; exact rfl; exact rfl) | (apply Go.sno; exact rfl) | (apply Qg.op; exact rfl; exact rfl) | (apply Qg.no; exact rfl) | (apply Go.op; exact rfl; exact aop_load rfl rfl rfl (Nat.le_of_ble_eq_true rfl) rfl) | (apply Go.op; exact rfl; exact aop_store rfl rfl rfl rfl rfl rfl (Nat.le_of_ble_eq_true rfl)) | (apply Go.cond true; exact rfl) | (apply Go.cond false; exact rfl) | (exfalso; omega) | (apply Go.iteD; exact rfl) <;> intro _ | (apply Go.iteE; exact rfl) <;> intro _ | (apply Go.iteN; exact rfl) <;> intro _ | (apply Go.guardD; exact rfl) <;> intro _ | (apply Go.guardE; exact rfl) <;> intro _ | (apply Go.guardN; exact rfl) <;> intro _ | (apply Go.sguardD; exact rfl) <;> intro _ | (apply Go.sguardE; exact rfl) <;> intro _ | (apply Go.sguardN; exact rfl) <;> intro _ | (apply Qg.guardD; exact rfl) <;> intro _ | (apply Qg.guardE; exact rfl) <;> intro _ | (apply Qg.guardN; exact rfl) <;> intro _ | (apply Go.guard; exact rfl; fail_if_success (intro h; exact absurd h (by decide)); rotate_left; fail_if_success (intro h; exact absurd h (by decide)); rotate_right) <;> intro _ | (apply Go.sguard; exact rfl; fail_if_success (intro h; exact absurd h (by decide)); rotate_left; fail_if_success (intro h; exact absurd h (by decide)); rotate_right) <;> intro _ | (apply Qg.guard; exact rfl; fail_if_success (intro h; exact absurd h (by decide)); rotate_left; fail_if_success (intro h; exact absurd h (by decide)); rotate_right) <;> intro _ | (apply Go.ite; exact rfl; fail_if_success (intro h; exact absurd h (by decide)); rotate_left; fail_if_success (intro h; exact absurd h (by decide)); rotate_right) <;> intro _
      exact .ret rfl (newPair ⟨(Gr.start σ).trans hg, .c hh⟩)
theorem Cloned.made {σ τ : Store} {s : Nat} {ys : List (List Ce)} {r : AV} (h : Cloned σ s ys r τ) (hy : ys ≠ []) : Made σ s ys r τ := h.resolve_left fun e => hy e.1
theorem IndexDrop_ok (l : List Entry) (e : Entry) (hx : l.length ≤ 1099511627776) (hk : ∀ e ∈ l, e.key.length ≤ 1099511627776) (σ : Store) : Ok Try.prog 20 [.c (.fz (l.map encE)), .agg (encE e)] σ (NewV σ (.tup [.c (.fz ((dropF l e).1.map encE)), .c (.bool (dropF l e).2)])) := by
  refine Ok.run mixed c_impl_IndexDrop_ok (Nat.le_of_ble_eq_true rfl) fun hS hA => ?_
  clear hA
  repeat' first | (apply Go.seq) | (apply Go.skip) | (apply Go.region) | (apply Go.nil) | (apply Go.block) | (apply Go.blk) | (apply Go.draw) | (apply Go.segs) | (apply Go.qs) | (apply Qg.nil) | (apply Go.exit; exact rfl) | (apply Go.var2; first | exact Nat.le_add_right _ _ | assumption; decide; decide; decide; decide; exact rfl; exact rfl; exact rfl; exact rfl; exact rfl) | (apply Go.var; first | exact Nat.le_add_right _ _ | assumption; decide; exact rfl; exact rfl; exact rfl; exact rfl) | (apply Go.op; exact rfl; exact aop_alloc) | (apply Go.op; exact rfl; exact aop_new rfl rfl) | (apply Go.op; exact rfl; exact aop_mksl rfl) | (apply Go.op; exact rfl; exact aop_lenM rfl) | (apply Go.sop; exact rfl; exact aop_lenM rfl) | (apply Qg.op; exact rfl; exact aop_lenM rfl) | (apply Go.op; exact rfl; exact rfl) | (apply Go.no; exact rfl) | (apply Go.sop; exact rfl; exact rfl) | (apply Go.sno; exact rfl) | (apply Qg.op; exact rfl; exact rfl) | (apply Qg.no; exact rfl) | (apply Go.op; exact rfl; exact aop_load rfl rfl rfl (Nat.le_of_ble_eq_true rfl) rfl) | (apply Go.op; exact rfl; exact aop_store rfl rfl rfl rfl rfl rfl (Nat.le_of_ble_eq_true rfl)) | (apply Go.cond true; exact rfl) | (apply Go.cond false; exact rfl) | (apply Go.pcallI; exact rfl; exact rfl; exact rfl; exact indexFunc_ok l (· == e) 38 [] [.fp (encE e)] hx (fun q hq => dropFn_ok q e (hk q hq)); intro _ _) | (apply Go.spcallI; exact rfl; exact rfl; exact rfl; exact indexFunc_ok l (· == e) 38 [] [.fp (encE e)] hx (fun q hq => dropFn_ok q e (hk q hq)); intro _ _) | (apply Qg.pcallI; exact rfl; exact rfl; exact rfl; exact indexFunc_ok l (· == e) 38 [] [.fp (encE e)] hx (fun q hq => dropFn_ok q e (hk q hq)); intro _ _) | (apply Go.pcallB; exact rfl; exact rfl; exact rfl; exact areEntries_ok l hx hk; intro _ _) | (apply Go.spcallB; exact rfl; exact rfl; exact rfl; exact areEntries_ok l hx hk; intro _ _) | (apply Qg.pcallB; exact rfl; exact rfl; exact rfl; exact areEntries_ok l hx hk; intro _ _) | (exfalso; omega) | (apply Go.iteD; exact rfl) <;> intro _ | (apply Go.iteE; exact rfl) <;> intro _ | (apply Go.iteN; exact rfl) <;> intro _ | (apply Go.guardD; exact rfl) <;> intro _ | (apply Go.guardE; exact rfl) <;> intro _ | (apply Go.guardN; exact rfl) <;> intro _ | (apply Go.sguardD; exact rfl) <;> intro _ | (apply Go.sguardE; exact rfl) <;> intro _ | (apply Go.sguardN; exact rfl) <;> intro _ | (apply Qg.guardD; exact rfl) <;> intro _ | (apply Qg.guardE; exact rfl) <;> intro _ | (apply Qg.guardN; exact rfl) <;> intro _ | (apply Go.guard; exact rfl; fail_if_success (intro h; exact absurd h (by decide)); rotate_left; fail_if_success (intro h; exact absurd h (by decide)); rotate_right) <;> intro _ | (apply Go.sguard; exact rfl; fail_if_success (intro h; exact absurd h (by decide)); rotate_left; fail_if_success (intro h; exact absurd h (by decide)); rotate_right) <;> intro _ | (apply Qg.guard; exact rfl; fail_if_success (intro h; exact absurd h (by decide)); rotate_left; fail_if_success (intro h; exact absurd h (by decide)); rotate_right) <;> intro _ | (apply Go.ite; exact rfl; fail_if_success (intro h; exact absurd h (by decide)); rotate_left; fail_if_success (intro h; exact absurd h (by decide)); rotate_right) <;> intro _
  · rename_i h
    have : dropF l e = ([], false) := by simp_all [dropF]
    rw [this]
    exact .ret rfl (newPair ⟨.start σ, .c .nil⟩)
  · rename_i b1 h1 b2 h2 h3 h4
    have hok : okEnts l = true := by simp_all
    have hw : without l e = l := by
      rcases idx_without (e := e) 0 (okEnts_nodup hok) (by omega) with ⟨_, h⟩ | ⟨j, h, _⟩
      · exact h
      · omega
    have : dropF l e = ([], false) := by simp [dropF, hw]
    rw [this]
    exact .ret rfl (newPair ⟨.start σ, .c .nil⟩)
  · rename_i b1 h1 b2 h2 h3 h4
    have hok : okEnts l = true := by simp_all
    obtain ⟨j, hj1, hj2, hj3⟩ : ∃ j : Nat, b1 = (j : Int) ∧ j < l.length ∧ without l e = l.take j ++ l.drop (j + 1) := by
      rcases idx_without (e := e) 0 (okEnts_nodup hok) (by omega) with ⟨h, _⟩ | ⟨j, h, h5, h6⟩
      · omega
      · exact ⟨j, by omega, h5, h6⟩
    have hwl : (without l e).length + 1 = l.length := by
      rw [hj3, List.length_append, List.length_take, List.length_drop]
      omega
    have : dropF l e = (without l e, true) := by
      simp only [dropF]
      rw [if_pos]
      simp only [Bool.and_eq_true, decide_eq_true_eq]
      exact ⟨hok, by omega⟩
    rw [this]
    refine Go.call _ rfl rfl rfl (clone_ok mixed c_slices_Clone_Entry_ok (l.map encE) encE_len (by simp; omega) _) ?_
    intro r τ hr
    obtain ⟨v, junk, hjk, rfl, rfl⟩ := hr.made (by intro h; simp at h; subst h; simp at hj2)
    repeat' first | (apply Go.seq) | (apply Go.skip) | (apply Go.region) | (apply Go.nil) | (apply Go.block) | (apply Go.blk) | (apply Go.draw) | (apply Go.segs) | (apply Go.qs) | (apply Qg.nil) | (apply Go.exit; exact rfl) | (apply Go.var2; first | exact Nat.le_add_right _ _ | assumption; decide; decide; decide; decide; exact rfl; exact rfl; exact rfl; exact rfl; exact rfl) | (apply Go.var; first | exact Nat.le_add_right _ _ | assumption; decide; exact rfl; exact rfl; exact rfl; exact rfl) | (apply Go.op; exact rfl; exact aop_alloc) | (apply Go.op; exact rfl; exact aop_new rfl rfl) | (apply Go.op; exact rfl; exact aop_mksl rfl) | (apply Go.op; exact rfl; exact aop_lenM rfl) | (apply Go.sop; exact rfl; exact aop_lenM rfl) | (apply Qg.op; exact rfl; exact aop_lenM rfl) | (apply Go.op; exact rfl; exact rfl) | (apply Go.no; exact rfl) | (apply Go.sop; exact rfl; exact rfl) | (apply Go.sno; exact rfl) | (apply Qg.op; exact rfl; exact rfl) | (apply Qg.no; exact rfl) | (apply Go.op; exact rfl; exact aop_load rfl rfl rfl (Nat.le_of_ble_eq_true rfl) rfl) | (apply Go.op; exact rfl; exact aop_store rfl rfl rfl rfl rfl rfl (Nat.le_of_ble_eq_true rfl)) | (apply Go.cond true; exact rfl) | (apply Go.cond false; exact rfl) | (exfalso; omega) | (apply Go.iteD; exact rfl) <;> intro _ | (apply Go.iteE; exact rfl) <;> intro _ | (apply Go.iteN; exact rfl) <;> intro _ | (apply Go.guardD; exact rfl) <;> intro _ | (apply Go.guardE; exact rfl) <;> intro _ | (apply Go.guardN; exact rfl) <;> intro _ | (apply Go.sguardD; exact rfl) <;> intro _ | (apply Go.sguardE; exact rfl) <;> intro _ | (apply Go.sguardN; exact rfl) <;> intro _ | (apply Qg.guardD; exact rfl) <;> intro _ | (apply Qg.guardE; exact rfl) <;> intro _ | (apply Qg.guardN; exact rfl) <;> intro _ | (apply Go.guard; exact rfl; fail_if_success (intro h; exact absurd h (by decide)); rotate_left; fail_if_success (intro h; exact absurd h (by decide)); rotate_right) <;> intro _ | (apply Go.sguard; exact rfl; fail_if_success (intro h; exact absurd h (by decide)); rotate_left; fail_if_success (intro h; exact absurd h (by decide)); rotate_right) <;> intro _ | (apply Qg.guard; exact rfl; fail_if_success (intro h; exact absurd h (by decide)); rotate_left; fail_if_success (intro h; exact absurd h (by decide)); rotate_right) <;> intro _ | (apply Go.ite; exact rfl; fail_if_success (intro h; exact absurd h (by decide)); rotate_left; fail_if_success (intro h; exact absurd h (by decide)); rotate_right) <;> intro _
    have hw1 : IntKind.i64.wrap (b1 + 1) = ((j + 1 : Nat) : Int) := wrap_succ hj1 (by omega)
    rw [hw1, hj1]
    have hall : ∀ q ∈ l.map encE ++ junk, q.length = 2 := by
      intro q hq
      rcases List.mem_append.1 hq with h | h
      · exact encE_len q h
      · exact (hjk q h).1
    refine Go.call _ rfl rfl rfl (delete_ok mixed c_slices_Delete_Entry_ok rfl (l.map encE) junk hall _ v j (j + 1) (by omega) (by simp; omega) _ ?_) ?_
    · exact E_at
    rintro r τ ⟨rfl, rfl⟩
    have hys : (l.map encE).take j ++ (l.map encE).drop (j + 1) = (without l e).map encE := by
      rw [hj3, List.map_append, List.map_take, List.map_drop]
    rw [E_E, hys]
    generalize List.replicate (j + 1 - j) [Ce.nils, Ce.int IntKind.i64 0] ++ junk = junk2
    have hput : ∀ X, (E σ ([] ++ [(v, l.map encE ++ junk)])).put ((E σ []).next + 0) X = E σ [X] := fun X => E_put (k := 0) (by simp)
    rw [hput]
    refine Go.freeze hS (fr' := [(22, .c (.fz ((without l e).map encE)))]) (.frz rfl (.c (frz_vec (σ := σ) (k := 0) rfl old_maps)) .nil) ?_
    refine Go.call _ rfl rfl rfl (copiedEntries_ok (without l e) (by omega) (fun q hq => hk q (List.mem_filter.1 hq).1) _) ?_
    rintro r τ ⟨hg, hh⟩
    cases hh with
    | c hh =>
    repeat' first | (apply Go.seq) | (apply Go.skip) | (apply Go.region) | (apply Go.nil) | (apply Go.block) | (apply Go.blk) | (apply Go.draw) | (apply Go.segs) | (apply Go.qs) | (apply Qg.nil) | (apply Go.exit; exact rfl) | (apply Go.var2; first | exact Nat.le_add_right _ _ | assumption; decide; decide; decide; decide; exact rfl; exact rfl; exact rfl; exact rfl; exact rfl) | (apply Go.var; first | exact Nat.le_add_right _ _ | assumption; decide; exact rfl; exact rfl; exact rfl; exact rfl) | (apply Go.op; exact rfl; exact aop_alloc) | (apply Go.op; exact rfl; exact aop_new rfl rfl) | (apply Go.op; exact rfl; exact aop_mksl rfl) | (apply Go.op; exact rfl; exact aop_lenM rfl) | (apply Go.sop; exact rfl; exact aop_lenM rfl) | (apply Qg.op; exact rfl; exact aop_lenM rfl) | (apply Go.op; exact rfl; exact rfl) | (apply Go.no; exact rfl) | (apply Go.sop; exact rfl; exact rfl) | (apply Go.sno; exact rfl) | (apply Qg.op; exact rfl; exact rfl) | (apply Qg.no; exact rfl) | (apply Go.op; exact rfl; exact aop_load rfl rfl rfl (Nat.le_of_ble_eq_true rfl) rfl) | (apply Go.op; exact rfl; exact aop_store rfl rfl rfl rfl rfl rfl (Nat.le_of_ble_eq_true rfl)) | (apply Go.cond true; exact rfl) | (apply Go.cond false; exact rfl) | (exfalso; omega) | (apply Go.iteD; exact rfl) <;> intro _ | (apply Go.iteE; exact rfl) <;> intro _ | (apply Go.iteN; exact rfl) <;> intro _ | (apply Go.guardD; exact rfl) <;> intro _ | (apply Go.guardE; exact rfl) <;> intro _ | (apply Go.guardN; exact rfl) <;> intro _ | (apply Go.sguardD; exact rfl) <;> intro _ | (apply Go.sguardE; exact rfl) <;> intro _ | (apply Go.sguardN; exact rfl) <;> intro _ | (apply Qg.guardD; exact rfl) <;> intro _ | (apply Qg.guardE; exact rfl) <;> intro _ | (apply Qg.guardN; exact rfl) <;> intro _ | (apply Go.guard; exact rfl; fail_if_success (intro h; exact absurd h (by decide)); rotate_left; fail_if_success (intro h; exact absurd h (by decide)); rotate_right) <;> intro _ | (apply Go.sguard; exact rfl; fail_if_success (intro h; exact absurd h (by decide)); rotate_left; fail_if_success (intro h; exact absurd h (by decide)); rotate_right) <;> intro _ | (apply Qg.guard; exact rfl; fail_if_success (intro h; exact absurd h (by decide)); rotate_left; fail_if_success (intro h; exact absurd h (by decide)); rotate_right) <;> intro _ | (apply Go.ite; exact rfl; fail_if_success (intro h; exact absurd h (by decide)); rotate_left; fail_if_success (intro h; exact absurd h (by decide)); rotate_right) <;> intro _
    exact .ret rfl (newPair ⟨(Gr.start σ).trans hg, .c hh⟩)
end Go.Proofs.Ytjlhfjpnnildhaa.Am
