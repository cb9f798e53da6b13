/- The statement of the law FnExactTriggersOk: whatever its arguments are, it returns true, leaves what was there as it was, and ends. No condition. -/
import Derived.OpenShut
import Derived.Below
import Derived.Carry
import Derived.SizedLaws
import Derived.ChangeArms
import Derived.DataReads
import Derived.KernelRfl
import Derived.Test.YtpjfihdlbdogpaaGreatRows
import Derived.WalkKit
import Derived.ProofKit
import Derived.ShutString
import Derived.ChangeOld
import Derived.Test.YtpjfihdlbdogpaaGreatY1
import Derived.Test.YtpjfihdlbdogpaaGreatY2
import Derived.Test.YtpjfihdlbdogpaaGreatY3
import Derived.Test.YtpjfihdlbdogpaaGreatY4
import Derived.Test.YtpjfihdlbdogpaaGreatY5
/- Tables, as the reference sees them. -/
set_option linter.unusedVariables false
set_option linter.unusedSimpArgs false
namespace Go.Proofs.YtpjfihdlbdogpaaGreat.Am

theorem ColAt_ok (x0 x2 x3 x4 x5 : Ce) (l : List Col) (s : List UInt8) (hx : l.length ≤ 34359738368) : Pure Tryz.prog 116 [.agg [x0, .fz (l.map encCol), x2, x3, x4, x5], .c (.str s)] (.c (.int .i64 (idxA (fun c => c.name == s) l 0))) := by
  refine Pure.run mixed c_spec_ColAt_ok (Nat.le_of_ble_eq_true rfl) fun σ hS hA => ?_
  clear hS hA
  repeat' first | apply Go.seq | apply Go.skip | apply Go.region | apply Go.nil | apply Go.block | apply Go.blk | apply Go.draw | apply Go.segs | apply Go.qs | apply Qg.nil | (apply Go.exit; exact rfl) | (apply Go.var2; (first | exact Nat.le_add_right _ _ | assumption); (iterate 4 decide); iterate 5 exact rfl) | (apply Go.var; (first | exact Nat.le_add_right _ _ | assumption); decide; iterate 4 exact rfl) | (apply Go.op; exact rfl; (first | exact aop_alloc | exact aop_new rfl rfl | exact aop_mksl rfl | exact aop_lenM rfl | exact rfl | exact aop_load rfl rfl rfl (Nat.le_of_ble_eq_true rfl) rfl | exact aop_store rfl rfl rfl rfl rfl rfl (Nat.le_of_ble_eq_true rfl))) | (apply Go.sop; exact rfl; (first | exact aop_lenM rfl | exact rfl)) | (apply Go.no; exact rfl) | (apply Go.sno; exact rfl) | (apply Qg.op; exact rfl; (first | exact aop_lenM rfl | exact rfl)) | (apply Qg.no; exact rfl) | (apply Go.cond true; exact rfl) | (apply Go.cond false; exact rfl) | (exfalso; omega) | ((first | (apply Go.iteD; exact rfl) | (apply Go.iteE; exact rfl) | (apply Go.iteN; exact rfl) | (apply Go.guardD; exact rfl) | (apply Go.guardE; exact rfl) | (apply Go.guardN; exact rfl) | (apply Go.sguardD; exact rfl) | (apply Go.sguardE; exact rfl) | (apply Go.sguardN; exact rfl) | (apply Qg.guardD; exact rfl) | (apply Qg.guardE; exact rfl) | (apply Qg.guardN; exact rfl)) <;> intro _) | (((first | (apply Go.guard; exact rfl) | (apply Go.sguard; exact rfl) | (apply Qg.guard; exact rfl) | (apply Go.ite; exact rfl)); fail_if_success (intro h; exact absurd h (by decide)); rotate_left; fail_if_success (intro h; exact absurd h (by decide)); rotate_right) <;> intro _)
  refine Go.keep [1, 2, 5] (Go.loops (I := fun m fr τ => ∃ i : Nat, ∃ k : Int, m = l.length - i ∧ i ≤ l.length ∧ k = i ∧ idxA (fun c => c.name == s) l 0 = idxA (fun c => c.name == s) (l.drop i) k ∧
    fr = [(1, .c (.str s)), (2, .c (.fp [x0, .fz (l.map encCol), x2, x3, x4, x5])), (5, .c (.int .i64 k))] ∧ τ = E σ []) ?_ _ _ _ ⟨0, _, rfl, Nat.zero_le _, rfl, rfl, rfl, rfl⟩)
  rintro m fr τ ⟨i, k, rfl, hi, hn, hsl, rfl, rfl⟩ hrec
  by_cases hlt : i < l.length
  · repeat' first | apply Go.seq | apply Go.skip | apply Go.region | apply Go.nil | apply Go.block | apply Go.blk | apply Go.draw | apply Go.segs | apply Go.qs | apply Qg.nil | (apply Go.exit; exact rfl) | (apply Go.var2; (first | exact Nat.le_add_right _ _ | assumption); (iterate 4 decide); iterate 5 exact rfl) | (apply Go.var; (first | exact Nat.le_add_right _ _ | assumption); decide; iterate 4 exact rfl) | (apply Go.op; exact rfl; (first | exact aop_alloc | exact aop_new rfl rfl | exact aop_mksl rfl | exact aop_lenM rfl | exact rfl | exact aop_load rfl rfl rfl (Nat.le_of_ble_eq_true rfl) rfl | exact aop_store rfl rfl rfl rfl rfl rfl (Nat.le_of_ble_eq_true rfl) | exact aop_iaddrM (enc := encCol) rfl rfl hn hlt rfl)) | (apply Go.sop; exact rfl; (first | exact aop_lenM rfl | exact rfl | exact aop_iaddrM (enc := encCol) rfl rfl hn hlt rfl)) | (apply Go.no; exact rfl) | (apply Go.sno; exact rfl) | (apply Qg.op; exact rfl; (first | exact aop_lenM rfl | exact rfl | exact aop_iaddrM (enc := encCol) rfl rfl hn hlt rfl)) | (apply Qg.no; exact rfl) | (apply Go.cond true; exact rfl) | (apply Go.cond false; exact rfl) | (exfalso; omega) | ((first | (apply Go.iteD; exact rfl) | (apply Go.iteE; exact rfl) | (apply Go.iteN; exact rfl) | (apply Go.guardD; exact rfl) | (apply Go.guardE; exact rfl) | (apply Go.guardN; exact rfl) | (apply Go.sguardD; exact rfl) | (apply Go.sguardE; exact rfl) | (apply Go.sguardN; exact rfl) | (apply Qg.guardD; exact rfl) | (apply Qg.guardE; exact rfl) | (apply Qg.guardN; exact rfl)) <;> intro _) | (((first | (apply Go.guard; exact rfl) | (apply Go.sguard; exact rfl) | (apply Qg.guard; exact rfl) | (apply Go.ite; exact rfl)); fail_if_success (intro h; exact absurd h (by decide)); rotate_left; fail_if_success (intro h; exact absurd h (by decide)); rotate_right) <;> intro _)
    · refine .ret rfl (.int ?_)
      rw [hsl, List.drop_eq_getElem_cons hlt, idxA, if_pos (by assumption)]
    · rename_i h
      refine Go.keep [1, 2, 5] (hrec _ _ _ (by omega) ⟨i + 1, _, rfl, hlt, wrap_succ hn (by omega), ?_, rfl, rfl⟩)
      rw [hsl, List.drop_eq_getElem_cons hlt, idxA, if_neg (by rw [h]; simp), wrap64 (by omega) (by omega)]
  · repeat' first | apply Go.seq | apply Go.skip | apply Go.region | apply Go.nil | apply Go.block | apply Go.blk | apply Go.draw | apply Go.segs | apply Go.qs | apply Qg.nil | (apply Go.exit; exact rfl) | (apply Go.var2; (first | exact Nat.le_add_right _ _ | assumption); (iterate 4 decide); iterate 5 exact rfl) | (apply Go.var; (first | exact Nat.le_add_right _ _ | assumption); decide; iterate 4 exact rfl) | (apply Go.op; exact rfl; (first | exact aop_alloc | exact aop_new rfl rfl | exact aop_mksl rfl | exact aop_lenM rfl | exact rfl | exact aop_load rfl rfl rfl (Nat.le_of_ble_eq_true rfl) rfl | exact aop_store rfl rfl rfl rfl rfl rfl (Nat.le_of_ble_eq_true rfl))) | (apply Go.sop; exact rfl; (first | exact aop_lenM rfl | exact rfl)) | (apply Go.no; exact rfl) | (apply Go.sno; exact rfl) | (apply Qg.op; exact rfl; (first | exact aop_lenM rfl | exact rfl)) | (apply Qg.no; exact rfl) | (apply Go.cond true; exact rfl) | (apply Go.cond false; exact rfl) | (exfalso; omega) | ((first | (apply Go.iteD; exact rfl) | (apply Go.iteE; exact rfl) | (apply Go.iteN; exact rfl) | (apply Go.guardD; exact rfl) | (apply Go.guardE; exact rfl) | (apply Go.guardN; exact rfl) | (apply Go.sguardD; exact rfl) | (apply Go.sguardE; exact rfl) | (apply Go.sguardN; exact rfl) | (apply Qg.guardD; exact rfl) | (apply Qg.guardE; exact rfl) | (apply Qg.guardN; exact rfl)) <;> intro _) | (((first | (apply Go.guard; exact rfl) | (apply Go.sguard; exact rfl) | (apply Qg.guard; exact rfl) | (apply Go.ite; exact rfl)); fail_if_success (intro h; exact absurd h (by decide)); rotate_left; fail_if_success (intro h; exact absurd h (by decide)); rotate_right) <;> intro _)
    refine .ret rfl (.int ?_)
    rw [hsl, List.drop_eq_nil_of_le (by omega)]
    rfl
theorem l3At_ok (l : List Table) (s : List UInt8) (hx : l.length ≤ 34359738368) : Pure Tryz.prog 70 [.c (.fz (l.map encTable)), .c (.str s)] (.c (.int .i64 (idxA (fun t => t.name == s) l 0))) := by
  refine Pure.run mixed c_spec_l3At_ok (Nat.le_of_ble_eq_true rfl) fun σ hS hA => ?_
  clear hS hA
  repeat' first | apply Go.seq | apply Go.skip | apply Go.region | apply Go.nil | apply Go.block | apply Go.blk | apply Go.draw | apply Go.segs | apply Go.qs | apply Qg.nil | (apply Go.exit; exact rfl) | (apply Go.var2; (first | exact Nat.le_add_right _ _ | assumption); (iterate 4 decide); iterate 5 exact rfl) | (apply Go.var; (first | exact Nat.le_add_right _ _ | assumption); decide; iterate 4 exact rfl) | (apply Go.op; exact rfl; (first | exact aop_alloc | exact aop_new rfl rfl | exact aop_mksl rfl | exact aop_lenM rfl | exact rfl | exact aop_load rfl rfl rfl (Nat.le_of_ble_eq_true rfl) rfl | exact aop_store rfl rfl rfl rfl rfl rfl (Nat.le_of_ble_eq_true rfl))) | (apply Go.sop; exact rfl; (first | exact aop_lenM rfl | exact rfl)) | (apply Go.no; exact rfl) | (apply Go.sno; exact rfl) | (apply Qg.op; exact rfl; (first | exact aop_lenM rfl | exact rfl)) | (apply Qg.no; exact rfl) | (apply Go.cond true; exact rfl) | (apply Go.cond false; exact rfl) | (exfalso; omega) | ((first | (apply Go.iteD; exact rfl) | (apply Go.iteE; exact rfl) | (apply Go.iteN; exact rfl) | (apply Go.guardD; exact rfl) | (apply Go.guardE; exact rfl) | (apply Go.guardN; exact rfl) | (apply Go.sguardD; exact rfl) | (apply Go.sguardE; exact rfl) | (apply Go.sguardN; exact rfl) | (apply Qg.guardD; exact rfl) | (apply Qg.guardE; exact rfl) | (apply Qg.guardN; exact rfl)) <;> intro _) | (((first | (apply Go.guard; exact rfl) | (apply Go.sguard; exact rfl) | (apply Qg.guard; exact rfl) | (apply Go.ite; exact rfl)); fail_if_success (intro h; exact absurd h (by decide)); rotate_left; fail_if_success (intro h; exact absurd h (by decide)); rotate_right) <;> intro _)
  refine Go.keep [0, 1, 5] (Go.loops (I := fun m fr τ => ∃ i : Nat, ∃ k : Int, m = l.length - i ∧ i ≤ l.length ∧ k = i ∧ idxA (fun c => c.name == s) l 0 = idxA (fun c => c.name == s) (l.drop i) k ∧
    fr = [(0, .c (.fz (l.map encTable))), (1, .c (.str s)), (5, .c (.int .i64 k))] ∧ τ = E σ []) ?_ _ _ _ ⟨0, _, rfl, Nat.zero_le _, rfl, rfl, rfl, rfl⟩)
  rintro m fr τ ⟨i, k, rfl, hi, hn, hsl, rfl, rfl⟩ hrec
  by_cases hlt : i < l.length
  · repeat' first | apply Go.seq | apply Go.skip | apply Go.region | apply Go.nil | apply Go.block | apply Go.blk | apply Go.draw | apply Go.segs | apply Go.qs | apply Qg.nil | (apply Go.exit; exact rfl) | (apply Go.var2; (first | exact Nat.le_add_right _ _ | assumption); (iterate 4 decide); iterate 5 exact rfl) | (apply Go.var; (first | exact Nat.le_add_right _ _ | assumption); decide; iterate 4 exact rfl) | (apply Go.op; exact rfl; (first | exact aop_alloc | exact aop_new rfl rfl | exact aop_mksl rfl | exact aop_lenM rfl | exact rfl | exact aop_load rfl rfl rfl (Nat.le_of_ble_eq_true rfl) rfl | exact aop_store rfl rfl rfl rfl rfl rfl (Nat.le_of_ble_eq_true rfl) | exact aop_iaddrM (enc := encTable) rfl rfl hn hlt rfl)) | (apply Go.sop; exact rfl; (first | exact aop_lenM rfl | exact rfl | exact aop_iaddrM (enc := encTable) rfl rfl hn hlt rfl)) | (apply Go.no; exact rfl) | (apply Go.sno; exact rfl) | (apply Qg.op; exact rfl; (first | exact aop_lenM rfl | exact rfl | exact aop_iaddrM (enc := encTable) rfl rfl hn hlt rfl)) | (apply Qg.no; exact rfl) | (apply Go.cond true; exact rfl) | (apply Go.cond false; exact rfl) | (exfalso; omega) | ((first | (apply Go.iteD; exact rfl) | (apply Go.iteE; exact rfl) | (apply Go.iteN; exact rfl) | (apply Go.guardD; exact rfl) | (apply Go.guardE; exact rfl) | (apply Go.guardN; exact rfl) | (apply Go.sguardD; exact rfl) | (apply Go.sguardE; exact rfl) | (apply Go.sguardN; exact rfl) | (apply Qg.guardD; exact rfl) | (apply Qg.guardE; exact rfl) | (apply Qg.guardN; exact rfl)) <;> intro _) | (((first | (apply Go.guard; exact rfl) | (apply Go.sguard; exact rfl) | (apply Qg.guard; exact rfl) | (apply Go.ite; exact rfl)); fail_if_success (intro h; exact absurd h (by decide)); rotate_left; fail_if_success (intro h; exact absurd h (by decide)); rotate_right) <;> intro _)
    · refine .ret rfl (.int ?_)
      rw [hsl, List.drop_eq_getElem_cons hlt, idxA, if_pos (by assumption)]
    · rename_i h
      refine Go.keep [0, 1, 5] (hrec _ _ _ (by omega) ⟨i + 1, _, rfl, hlt, wrap_succ hn (by omega), ?_, rfl, rfl⟩)
      rw [hsl, List.drop_eq_getElem_cons hlt, idxA, if_neg (by rw [h]; simp), wrap64 (by omega) (by omega)]
  · repeat' first | apply Go.seq | apply Go.skip | apply Go.region | apply Go.nil | apply Go.block | apply Go.blk | apply Go.draw | apply Go.segs | apply Go.qs | apply Qg.nil | (apply Go.exit; exact rfl) | (apply Go.var2; (first | exact Nat.le_add_right _ _ | assumption); (iterate 4 decide); iterate 5 exact rfl) | (apply Go.var; (first | exact Nat.le_add_right _ _ | assumption); decide; iterate 4 exact rfl) | (apply Go.op; exact rfl; (first | exact aop_alloc | exact aop_new rfl rfl | exact aop_mksl rfl | exact aop_lenM rfl | exact rfl | exact aop_load rfl rfl rfl (Nat.le_of_ble_eq_true rfl) rfl | exact aop_store rfl rfl rfl rfl rfl rfl (Nat.le_of_ble_eq_true rfl))) | (apply Go.sop; exact rfl; (first | exact aop_lenM rfl | exact rfl)) | (apply Go.no; exact rfl) | (apply Go.sno; exact rfl) | (apply Qg.op; exact rfl; (first | exact aop_lenM rfl | exact rfl)) | (apply Qg.no; exact rfl) | (apply Go.cond true; exact rfl) | (apply Go.cond false; exact rfl) | (exfalso; omega) | ((first | (apply Go.iteD; exact rfl) | (apply Go.iteE; exact rfl) | (apply Go.iteN; exact rfl) | (apply Go.guardD; exact rfl) | (apply Go.guardE; exact rfl) | (apply Go.guardN; exact rfl) | (apply Go.sguardD; exact rfl) | (apply Go.sguardE; exact rfl) | (apply Go.sguardN; exact rfl) | (apply Qg.guardD; exact rfl) | (apply Qg.guardE; exact rfl) | (apply Qg.guardN; exact rfl)) <;> intro _) | (((first | (apply Go.guard; exact rfl) | (apply Go.sguard; exact rfl) | (apply Qg.guard; exact rfl) | (apply Go.ite; exact rfl)); fail_if_success (intro h; exact absurd h (by decide)); rotate_left; fail_if_success (intro h; exact absurd h (by decide)); rotate_right) <;> intro _)
    refine .ret rfl (.int ?_)
    rw [hsl, List.drop_eq_nil_of_le (by omega)]
    rfl
theorem any_at {α : Type} {p : α → Bool} {l : List α} {i : Nat} (hi : i < l.length) (h : p l[i] = false) : (l.any fun a => !p a) = true := List.any_eq_true.2 ⟨l[i], List.getElem_mem hi, by rw [h]; rfl⟩
theorem any_none {α : Type} {p : α → Bool} {l : List α} (h : ∀ j (hj : j < l.length), p l[j] = true) : (l.any fun a => !p a) = false := by
  rw [List.any_eq_false]
  intro a ha
  obtain ⟨j, hj, rfl⟩ := List.mem_iff_getElem.1 ha
  rw [h j hj]
  simp
theorem upto {α : Type} {p : α → Bool} {l : List α} {i : Nat} (h : ∀ j (hj : j < l.length), j < i → p l[j] = true) (hi : i < l.length) (hp : p l[i] = true) : ∀ j (hj : j < l.length), j < i + 1 → p l[j] = true := fun j hj hji => by
  by_cases e : j = i
  · subst e; exact hp
  · exact h j hj (by omega)
theorem isIn12 {k : Int} : isIn k 1 2 = (k == 1 || k == 2) := by
  rw [Bool.eq_iff_iff]
  simp [isIn]
  omega
theorem tableF_iff {t : Table} : tableF t = true ↔ isNameF t.name = true ∧ isIn t.cols.length 1 8 = true ∧ colsF t.key t.cols.length = true ∧ (t.uniques.length : Int) ≤ 3 ∧ (t.checks.length : Int) ≤ 3 ∧ (t.fks.length : Int) ≤ 3 ∧ colsDef [] t.cols = true ∧
    (t.key.any fun c => !notNullAt t c) = false ∧ (t.uniques.any fun u => !colsF u.cols t.cols.length) = false ∧ (t.checks.any fun c => !exprF c.expr t.cols.length) = false ∧ (t.fks.any fun f => !isFkF f t.cols.length) = false := by
  simp only [tableF, areColsF, isIn, Bool.and_eq_true, decide_eq_true_eq, Bool.not_eq_true']
  constructor
  · rintro ⟨h1, ⟨h2, h3, h4⟩, h5, h6, h7, h8, h9, h10, h11, h12⟩
    exact ⟨h1, ⟨by omega, h2⟩, h5, h6, h7, h8, h3, h9, h10, h11, h12⟩
  · rintro ⟨h1, ⟨h2, h2'⟩, h3, h4, h5, h6, h7, h8, h9, h10, h11⟩
    exact ⟨h1, ⟨h2', h7, by omega⟩, h3, h4, h5, h6, h8, h9, h10, h11⟩
theorem tableF_not {t : Table} (h : tableF t = true → False) : tableF t = false := by
  cases c : tableF t
  · rfl
  · exact (h c).elim
theorem sTableOk_ok (t : Table) (hb : bTable 34359738368 t) : Pure Tryz.prog 69 [.agg (encTable t)] (.c (.bool (tableF t))) := by
  refine Pure.run mixed c_spec_TableOk_ok (Nat.le_of_ble_eq_true rfl) fun σ hS hA => ?_
  clear hS hA
  obtain ⟨b1, b2, b3, b4, b5, b6⟩ := hb
  repeat' first | apply Go.seq | apply Go.skip | apply Go.region | apply Go.nil | apply Go.block | apply Go.blk | apply Go.draw | apply Go.segs | apply Go.qs | apply Qg.nil | (apply Go.exit; exact rfl) | (apply Go.var2; (first | exact Nat.le_add_right _ _ | assumption); (iterate 4 decide); iterate 5 exact rfl) | (apply Go.var; (first | exact Nat.le_add_right _ _ | assumption); decide; iterate 4 exact rfl) | (apply Go.op; exact rfl; (first | exact aop_alloc | exact aop_new rfl rfl | exact aop_mksl rfl | exact aop_lenM rfl | exact rfl | exact aop_load rfl rfl rfl (Nat.le_of_ble_eq_true rfl) rfl | exact aop_store rfl rfl rfl rfl rfl rfl (Nat.le_of_ble_eq_true rfl))) | (apply Go.sop; exact rfl; (first | exact aop_lenM rfl | exact rfl)) | (apply Go.no; exact rfl) | (apply Go.sno; exact rfl) | (apply Qg.op; exact rfl; (first | exact aop_lenM rfl | exact rfl)) | (apply Qg.no; exact rfl) | (apply Go.cond true; exact rfl) | (apply Go.cond false; exact rfl) | ((first | (apply Go.pcallB; iterate 3 exact rfl) | (apply Go.spcallB; iterate 3 exact rfl) | (apply Qg.pcallB; iterate 3 exact rfl)); (first | exact l3Name_ok t.name b1 | exact l1In_ok _ _ _ | exact l3Cols_ok t.key t.cols.length b3 (by omega) (by omega)); intro _ _) | (exfalso; omega) | ((first | (apply Go.iteD; exact rfl) | (apply Go.iteE; exact rfl) | (apply Go.iteN; exact rfl) | (apply Go.guardD; exact rfl) | (apply Go.guardE; exact rfl) | (apply Go.guardN; exact rfl) | (apply Go.sguardD; exact rfl) | (apply Go.sguardE; exact rfl) | (apply Go.sguardN; exact rfl) | (apply Qg.guardD; exact rfl) | (apply Qg.guardE; exact rfl) | (apply Qg.guardN; exact rfl)) <;> intro _) | (((first | (apply Go.guard; exact rfl) | (apply Go.sguard; exact rfl) | (apply Qg.guard; exact rfl) | (apply Go.ite; exact rfl)); fail_if_success (intro h; exact absurd h (by decide)); rotate_left; fail_if_success (intro h; exact absurd h (by decide)); rotate_right) <;> intro _)
  · exact .ret rfl (.bool (tableF_not fun h => by rename_i c p q; have h2 := (tableF_iff.1 h).1; rw [nbT p q] at h2; cases h2).symm)
  · exact .ret rfl (.bool (tableF_not fun h => by rename_i c1 p1 q1 c p q; have h2 := (tableF_iff.1 h).2.1; rw [nbT p q] at h2; cases h2).symm)
  · exact .ret rfl (.bool (tableF_not fun h => by rename_i c p q; have h2 := (tableF_iff.1 h).2.2.1; rw [nbT p q] at h2; cases h2).symm)
  · exact .ret rfl (.bool (tableF_not fun h => by have h2 := tableF_iff.1 h; omega).symm)
  · exact .ret rfl (.bool (tableF_not fun h => by have h2 := tableF_iff.1 h; omega).symm)
  · exact .ret rfl (.bool (tableF_not fun h => by have h2 := tableF_iff.1 h; omega).symm)
  rename_i c1 p1 q1 c2 p2 q2 c3 p3 q3 g1 g2 g3
  have k1 := nbF p1 q1
  have k2 := nbF p2 q2
  have k3 := nbF p3 q3
  have hin := colsF_in k3
  have hln : 1 ≤ (t.cols.length : Int) ∧ (t.cols.length : Int) ≤ 8 := by simpa [isIn] using k2
  clear p1 q1 p2 q2 p3 q3
  -- the columns
  refine Go.keep [1, 3, 4] (Go.loops (I := fun m fr τ => ∃ i : Nat, ∃ k : Int, m = t.cols.length - i ∧ i ≤ t.cols.length ∧ k = i ∧ colsDef [] t.cols = colsDef (t.cols.take i) (t.cols.drop i) ∧
    fr = [(1, .c (.fp (encTable t))), (3, .c (.int .i64 (t.cols.length : Int))), (4, .c (.int .i64 k))] ∧ τ = E σ []) ?_ _ _ _ ⟨0, _, rfl, Nat.zero_le _, rfl, rfl, rfl, rfl⟩)
  rintro m fr τ ⟨i, k, rfl, hi, hk, hsl, rfl, rfl⟩ hrec
  by_cases hlt : i < t.cols.length
  · have hd := List.drop_eq_getElem_cons hlt
    have hbc := b2.2 _ (List.getElem_mem hlt)
    have htk : (t.cols.map encCol).take i = (t.cols.take i).map encCol := List.map_take.symm
    have hstep : colsDef [] t.cols = (colOk t.cols[i] && !((t.cols.take i).any fun d => d.name == t.cols[i].name) && colsDef (t.cols.take (i + 1)) (t.cols.drop (i + 1))) := by
      rw [hsl, hd, colsDef, List.take_succ_eq_append_getElem hlt]
    have neg : (colOk t.cols[i] = false ∨ ((t.cols.take i).any fun d => d.name == t.cols[i].name) = true) → tableF t = false := fun h => tableF_not fun hh => by
      have h2 := (tableF_iff.1 hh).2.2.2.2.2.2.1
      rw [hstep] at h2
      rcases h with h | h <;> simp [h] at h2
    have hany := any_idx (p := fun d : Col => d.name == t.cols[i].name) (l := t.cols.take i)
    repeat' first | apply Go.seq | apply Go.skip | apply Go.region | apply Go.nil | apply Go.block | apply Go.blk | apply Go.draw | apply Go.segs | apply Go.qs | apply Qg.nil | (apply Go.exit; exact rfl) | (apply Go.var2; (first | exact Nat.le_add_right _ _ | assumption); (iterate 4 decide); iterate 5 exact rfl) | (apply Go.var; (first | exact Nat.le_add_right _ _ | assumption); decide; iterate 4 exact rfl) | (apply Go.op; exact rfl; (first | exact aop_alloc | exact aop_new rfl rfl | exact aop_mksl rfl | exact aop_lenM rfl | exact rfl | exact aop_load rfl rfl rfl (Nat.le_of_ble_eq_true rfl) rfl | exact aop_store rfl rfl rfl rfl rfl rfl (Nat.le_of_ble_eq_true rfl) | exact aop_iaddrM (enc := encCol) rfl rfl hk hlt rfl | exact aop_sliceF (n := i) rfl rfl hk (by simp; omega) (fun e he => by obtain ⟨c, _, rfl⟩ := List.mem_map.1 he; rfl))) | (apply Go.sop; exact rfl; (first | exact aop_lenM rfl | exact rfl | exact aop_iaddrM (enc := encCol) rfl rfl hk hlt rfl | exact aop_sliceF (n := i) rfl rfl hk (by simp; omega) (fun e he => by obtain ⟨c, _, rfl⟩ := List.mem_map.1 he; rfl))) | (apply Go.no; exact rfl) | (apply Go.sno; exact rfl) | (apply Qg.op; exact rfl; (first | exact aop_lenM rfl | exact rfl | exact aop_iaddrM (enc := encCol) rfl rfl hk hlt rfl | exact aop_sliceF (n := i) rfl rfl hk (by simp; omega) (fun e he => by obtain ⟨c, _, rfl⟩ := List.mem_map.1 he; rfl))) | (apply Qg.no; exact rfl) | (apply Go.cond true; exact rfl) | (apply Go.cond false; exact rfl) | ((first | (apply Go.pcallB; iterate 3 exact rfl) | (apply Go.spcallB; iterate 3 exact rfl) | (apply Qg.pcallB; iterate 3 exact rfl)); exact l3Name_ok t.cols[i].name hbc.1; intro _ _) | (exfalso; omega) | ((first | (apply Go.iteD; exact rfl) | (apply Go.iteE; exact rfl) | (apply Go.iteN; exact rfl) | (apply Go.guardD; exact rfl) | (apply Go.guardE; exact rfl) | (apply Go.guardN; exact rfl) | (apply Go.sguardD; exact rfl) | (apply Go.sguardE; exact rfl) | (apply Go.sguardN; exact rfl) | (apply Qg.guardD; exact rfl) | (apply Qg.guardE; exact rfl) | (apply Qg.guardN; exact rfl)) <;> intro _) | (((first | (apply Go.guard; exact rfl) | (apply Go.sguard; exact rfl) | (apply Qg.guard; exact rfl) | (apply Go.ite; exact rfl)); fail_if_success (intro h; exact absurd h (by decide)); rotate_left; fail_if_success (intro h; exact absurd h (by decide)); rotate_right) <;> intro _)
    · rename_i c p q
      exact .ret rfl (.bool (neg (.inl (by rw [colOk, nbT p q]; rfl))).symm)
    rename_i c p q
    have hnm := nbF p q
    rw [htk]
    repeat' first | apply Go.seq | apply Go.skip | apply Go.region | apply Go.nil | apply Go.block | apply Go.blk | apply Go.draw | apply Go.segs | apply Go.qs | apply Qg.nil | (apply Go.exit; exact rfl) | (apply Go.var2; (first | exact Nat.le_add_right _ _ | assumption); (iterate 4 decide); iterate 5 exact rfl) | (apply Go.var; (first | exact Nat.le_add_right _ _ | assumption); decide; iterate 4 exact rfl) | (apply Go.op; exact rfl; (first | exact aop_alloc | exact aop_new rfl rfl | exact aop_mksl rfl | exact aop_lenM rfl | exact rfl | exact aop_load rfl rfl rfl (Nat.le_of_ble_eq_true rfl) rfl | exact aop_store rfl rfl rfl rfl rfl rfl (Nat.le_of_ble_eq_true rfl))) | (apply Go.sop; exact rfl; (first | exact aop_lenM rfl | exact rfl)) | (apply Go.no; exact rfl) | (apply Go.sno; exact rfl) | (apply Qg.op; exact rfl; (first | exact aop_lenM rfl | exact rfl)) | (apply Qg.no; exact rfl) | (apply Go.cond true; exact rfl) | (apply Go.cond false; exact rfl) | ((first | (apply Go.pcallB; iterate 3 exact rfl) | (apply Go.spcallB; iterate 3 exact rfl) | (apply Qg.pcallB; iterate 3 exact rfl)); (first | exact l1In_ok _ _ _ | exact sValOk_ok _); intro _ _) | ((first | (apply Go.pcallI; iterate 3 exact rfl) | (apply Go.spcallI; iterate 3 exact rfl) | (apply Qg.pcallI; iterate 3 exact rfl)); exact ColAt_ok (.str []) .nils .nils .nils .nils (t.cols.take i) t.cols[i].name (by simp; omega); intro _ _) | (exfalso; omega) | ((first | (apply Go.iteD; exact rfl) | (apply Go.iteE; exact rfl) | (apply Go.iteN; exact rfl) | (apply Go.guardD; exact rfl) | (apply Go.guardE; exact rfl) | (apply Go.guardN; exact rfl) | (apply Go.sguardD; exact rfl) | (apply Go.sguardE; exact rfl) | (apply Go.sguardN; exact rfl) | (apply Qg.guardD; exact rfl) | (apply Qg.guardE; exact rfl) | (apply Qg.guardN; exact rfl)) <;> intro _) | (((first | (apply Go.guard; exact rfl) | (apply Go.sguard; exact rfl) | (apply Qg.guard; exact rfl) | (apply Go.ite; exact rfl)); fail_if_success (intro h; exact absurd h (by decide)); rotate_left; fail_if_success (intro h; exact absurd h (by decide)); rotate_right) <;> intro _)
    all_goals clear p q
    all_goals try (refine .ret rfl (.bool (neg ?_).symm); clear hrec hsl hstep neg hin; simp_all [colOk, isOfF, isIn12]; done)
    all_goals have hok : (colOk t.cols[i] && !((t.cols.take i).any fun d => d.name == t.cols[i].name)) = true := (by clear hrec hsl hstep neg hin; simp_all [colOk, isOfF, isIn12])
    all_goals refine Go.keep [1, 3, 4] (hrec _ _ _ (by omega) ⟨i + 1, _, rfl, hlt, wrap_succ hk (by omega), ?_, rfl, rfl⟩)
    all_goals rw [hstep, hok, Bool.true_and]
  have hfin : colsDef [] t.cols = true := by
    rw [hsl, List.drop_eq_nil_of_le (by omega)]
    rfl
  clear hrec hsl
  repeat' first | apply Go.seq | apply Go.skip | apply Go.region | apply Go.nil | apply Go.block | apply Go.blk | apply Go.draw | apply Go.segs | apply Go.qs | apply Qg.nil | (apply Go.exit; exact rfl) | (apply Go.var2; (first | exact Nat.le_add_right _ _ | assumption); (iterate 4 decide); iterate 5 exact rfl) | (apply Go.var; (first | exact Nat.le_add_right _ _ | assumption); decide; iterate 4 exact rfl) | (apply Go.op; exact rfl; (first | exact aop_alloc | exact aop_new rfl rfl | exact aop_mksl rfl | exact aop_lenM rfl | exact rfl | exact aop_load rfl rfl rfl (Nat.le_of_ble_eq_true rfl) rfl | exact aop_store rfl rfl rfl rfl rfl rfl (Nat.le_of_ble_eq_true rfl))) | (apply Go.sop; exact rfl; (first | exact aop_lenM rfl | exact rfl)) | (apply Go.no; exact rfl) | (apply Go.sno; exact rfl) | (apply Qg.op; exact rfl; (first | exact aop_lenM rfl | exact rfl)) | (apply Qg.no; exact rfl) | (apply Go.cond true; exact rfl) | (apply Go.cond false; exact rfl) | (exfalso; omega) | ((first | (apply Go.iteD; exact rfl) | (apply Go.iteE; exact rfl) | (apply Go.iteN; exact rfl) | (apply Go.guardD; exact rfl) | (apply Go.guardE; exact rfl) | (apply Go.guardN; exact rfl) | (apply Go.sguardD; exact rfl) | (apply Go.sguardE; exact rfl) | (apply Go.sguardN; exact rfl) | (apply Qg.guardD; exact rfl) | (apply Qg.guardE; exact rfl) | (apply Qg.guardN; exact rfl)) <;> intro _) | (((first | (apply Go.guard; exact rfl) | (apply Go.sguard; exact rfl) | (apply Qg.guard; exact rfl) | (apply Go.ite; exact rfl)); fail_if_success (intro h; exact absurd h (by decide)); rotate_left; fail_if_success (intro h; exact absurd h (by decide)); rotate_right) <;> intro _)
  clear hlt hk hi
  -- the key
  refine Go.keep [1, 3, 6] (Go.loops (I := fun m fr τ => ∃ i : Nat, ∃ k : Int, m = t.key.length - i ∧ i ≤ t.key.length ∧ k = i ∧ (∀ j (hj : j < t.key.length), j < i → notNullAt t t.key[j] = true) ∧
    fr = [(1, .c (.fp (encTable t))), (3, .c (.int .i64 (t.cols.length : Int))), (6, .c (.int .i64 k))] ∧ τ = E σ []) ?_ _ _ _ ⟨0, _, rfl, Nat.zero_le _, rfl, fun j _ h => absurd h (by omega), rfl, rfl⟩)
  rintro m fr τ ⟨i, k, rfl, hi, hk, hall, rfl, rfl⟩ hrec
  by_cases hlt : i < t.key.length
  · have hc := hin _ (List.getElem_mem hlt)
    obtain ⟨n, hn⟩ : ∃ n : Nat, t.key[i] = n := ⟨t.key[i].toNat, by omega⟩
    have hn2 : n < t.cols.length := by omega
    have hnn : notNullAt t t.key[i] = t.cols[n].notNull := by simp [notNullAt, hn, hn2]
    repeat' first | apply Go.seq | apply Go.skip | apply Go.region | apply Go.nil | apply Go.block | apply Go.blk | apply Go.draw | apply Go.segs | apply Go.qs | apply Qg.nil | (apply Go.exit; exact rfl) | (apply Go.var2; (first | exact Nat.le_add_right _ _ | assumption); (iterate 4 decide); iterate 5 exact rfl) | (apply Go.var; (first | exact Nat.le_add_right _ _ | assumption); decide; iterate 4 exact rfl) | (apply Go.op; exact rfl; (first | exact aop_alloc | exact aop_new rfl rfl | exact aop_mksl rfl | exact aop_lenM rfl | exact rfl | exact aop_load rfl rfl rfl (Nat.le_of_ble_eq_true rfl) rfl | exact aop_store rfl rfl rfl rfl rfl rfl (Nat.le_of_ble_eq_true rfl) | exact aop_iaddrM (enc := encI) rfl rfl hk hlt rfl | exact aop_iaddrM (enc := encCol) rfl rfl hn hn2 rfl)) | (apply Go.sop; exact rfl; (first | exact aop_lenM rfl | exact rfl | exact aop_iaddrM (enc := encI) rfl rfl hk hlt rfl | exact aop_iaddrM (enc := encCol) rfl rfl hn hn2 rfl)) | (apply Go.no; exact rfl) | (apply Go.sno; exact rfl) | (apply Qg.op; exact rfl; (first | exact aop_lenM rfl | exact rfl | exact aop_iaddrM (enc := encI) rfl rfl hk hlt rfl | exact aop_iaddrM (enc := encCol) rfl rfl hn hn2 rfl)) | (apply Qg.no; exact rfl) | (apply Go.cond true; exact rfl) | (apply Go.cond false; exact rfl) | (exfalso; omega) | ((first | (apply Go.iteD; exact rfl) | (apply Go.iteE; exact rfl) | (apply Go.iteN; exact rfl) | (apply Go.guardD; exact rfl) | (apply Go.guardE; exact rfl) | (apply Go.guardN; exact rfl) | (apply Go.sguardD; exact rfl) | (apply Go.sguardE; exact rfl) | (apply Go.sguardN; exact rfl) | (apply Qg.guardD; exact rfl) | (apply Qg.guardE; exact rfl) | (apply Qg.guardN; exact rfl)) <;> intro _) | (((first | (apply Go.guard; exact rfl) | (apply Go.sguard; exact rfl) | (apply Qg.guard; exact rfl) | (apply Go.ite; exact rfl)); fail_if_success (intro h; exact absurd h (by decide)); rotate_left; fail_if_success (intro h; exact absurd h (by decide)); rotate_right) <;> intro _)
    · rename_i h
      exact .ret rfl (.bool (tableF_not fun hh => by
        have h2 := (tableF_iff.1 hh).2.2.2.2.2.2.2.1
        rw [any_at hlt (by rw [hnn]; simpa using h)] at h2
        cases h2).symm)
    · rename_i h
      exact Go.keep [1, 3, 6] (hrec _ _ _ (by omega) ⟨i + 1, _, rfl, hlt, wrap_succ hk (by omega), upto hall hlt (by rw [hnn]; simpa using h), rfl, rfl⟩)
  have hkey := any_none (p := notNullAt t) (l := t.key) fun j hj => hall j hj (by omega)
  clear hrec hall
  repeat' first | apply Go.seq | apply Go.skip | apply Go.region | apply Go.nil | apply Go.block | apply Go.blk | apply Go.draw | apply Go.segs | apply Go.qs | apply Qg.nil | (apply Go.exit; exact rfl) | (apply Go.var2; (first | exact Nat.le_add_right _ _ | assumption); (iterate 4 decide); iterate 5 exact rfl) | (apply Go.var; (first | exact Nat.le_add_right _ _ | assumption); decide; iterate 4 exact rfl) | (apply Go.op; exact rfl; (first | exact aop_alloc | exact aop_new rfl rfl | exact aop_mksl rfl | exact aop_lenM rfl | exact rfl | exact aop_load rfl rfl rfl (Nat.le_of_ble_eq_true rfl) rfl | exact aop_store rfl rfl rfl rfl rfl rfl (Nat.le_of_ble_eq_true rfl))) | (apply Go.sop; exact rfl; (first | exact aop_lenM rfl | exact rfl)) | (apply Go.no; exact rfl) | (apply Go.sno; exact rfl) | (apply Qg.op; exact rfl; (first | exact aop_lenM rfl | exact rfl)) | (apply Qg.no; exact rfl) | (apply Go.cond true; exact rfl) | (apply Go.cond false; exact rfl) | (exfalso; omega) | ((first | (apply Go.iteD; exact rfl) | (apply Go.iteE; exact rfl) | (apply Go.iteN; exact rfl) | (apply Go.guardD; exact rfl) | (apply Go.guardE; exact rfl) | (apply Go.guardN; exact rfl) | (apply Go.sguardD; exact rfl) | (apply Go.sguardE; exact rfl) | (apply Go.sguardN; exact rfl) | (apply Qg.guardD; exact rfl) | (apply Qg.guardE; exact rfl) | (apply Qg.guardN; exact rfl)) <;> intro _) | (((first | (apply Go.guard; exact rfl) | (apply Go.sguard; exact rfl) | (apply Qg.guard; exact rfl) | (apply Go.ite; exact rfl)); fail_if_success (intro h; exact absurd h (by decide)); rotate_left; fail_if_success (intro h; exact absurd h (by decide)); rotate_right) <;> intro _)
  clear hlt hk hi
  -- the uniques
  refine Go.keep [1, 3, 7] (Go.loops (I := fun m fr τ => ∃ i : Nat, ∃ k : Int, m = t.uniques.length - i ∧ i ≤ t.uniques.length ∧ k = i ∧ (∀ j (hj : j < t.uniques.length), j < i → colsF t.uniques[j].cols t.cols.length = true) ∧
    fr = [(1, .c (.fp (encTable t))), (3, .c (.int .i64 (t.cols.length : Int))), (7, .c (.int .i64 k))] ∧ τ = E σ []) ?_ _ _ _ ⟨0, _, rfl, Nat.zero_le _, rfl, fun j _ h => absurd h (by omega), rfl, rfl⟩)
  rintro m fr τ ⟨i, k, rfl, hi, hk, hall, rfl, rfl⟩ hrec
  by_cases hlt : i < t.uniques.length
  · repeat' first | apply Go.seq | apply Go.skip | apply Go.region | apply Go.nil | apply Go.block | apply Go.blk | apply Go.draw | apply Go.segs | apply Go.qs | apply Qg.nil | (apply Go.exit; exact rfl) | (apply Go.var2; (first | exact Nat.le_add_right _ _ | assumption); (iterate 4 decide); iterate 5 exact rfl) | (apply Go.var; (first | exact Nat.le_add_right _ _ | assumption); decide; iterate 4 exact rfl) | (apply Go.op; exact rfl; (first | exact aop_alloc | exact aop_new rfl rfl | exact aop_mksl rfl | exact aop_lenM rfl | exact rfl | exact aop_load rfl rfl rfl (Nat.le_of_ble_eq_true rfl) rfl | exact aop_store rfl rfl rfl rfl rfl rfl (Nat.le_of_ble_eq_true rfl) | exact aop_iaddrM (enc := encUniq) rfl rfl hk hlt rfl)) | (apply Go.sop; exact rfl; (first | exact aop_lenM rfl | exact rfl | exact aop_iaddrM (enc := encUniq) rfl rfl hk hlt rfl)) | (apply Go.no; exact rfl) | (apply Go.sno; exact rfl) | (apply Qg.op; exact rfl; (first | exact aop_lenM rfl | exact rfl | exact aop_iaddrM (enc := encUniq) rfl rfl hk hlt rfl)) | (apply Qg.no; exact rfl) | (apply Go.cond true; exact rfl) | (apply Go.cond false; exact rfl) | ((first | (apply Go.pcallB; iterate 3 exact rfl) | (apply Go.spcallB; iterate 3 exact rfl) | (apply Qg.pcallB; iterate 3 exact rfl)); exact l3Cols_ok t.uniques[i].cols t.cols.length (b4.2 _ (List.getElem_mem hlt)) (by omega) (by omega); intro _ _) | (exfalso; omega) | ((first | (apply Go.iteD; exact rfl) | (apply Go.iteE; exact rfl) | (apply Go.iteN; exact rfl) | (apply Go.guardD; exact rfl) | (apply Go.guardE; exact rfl) | (apply Go.guardN; exact rfl) | (apply Go.sguardD; exact rfl) | (apply Go.sguardE; exact rfl) | (apply Go.sguardN; exact rfl) | (apply Qg.guardD; exact rfl) | (apply Qg.guardE; exact rfl) | (apply Qg.guardN; exact rfl)) <;> intro _) | (((first | (apply Go.guard; exact rfl) | (apply Go.sguard; exact rfl) | (apply Qg.guard; exact rfl) | (apply Go.ite; exact rfl)); fail_if_success (intro h; exact absurd h (by decide)); rotate_left; fail_if_success (intro h; exact absurd h (by decide)); rotate_right) <;> intro _)
    · rename_i c p q
      exact .ret rfl (.bool (tableF_not fun hh => by
        have h2 := (tableF_iff.1 hh).2.2.2.2.2.2.2.2.1
        rw [any_at (p := fun u : Uniq => colsF u.cols t.cols.length) hlt (nbT p q)] at h2
        cases h2).symm)
    · rename_i c p q
      exact Go.keep [1, 3, 7] (hrec _ _ _ (by omega) ⟨i + 1, _, rfl, hlt, wrap_succ hk (by omega), upto (p := fun u : Uniq => colsF u.cols t.cols.length) hall hlt (nbF p q), rfl, rfl⟩)
  have huni := any_none (p := fun u : Uniq => colsF u.cols t.cols.length) (l := t.uniques) fun j hj => hall j hj (by omega)
  clear hrec hall
  repeat' first | apply Go.seq | apply Go.skip | apply Go.region | apply Go.nil | apply Go.block | apply Go.blk | apply Go.draw | apply Go.segs | apply Go.qs | apply Qg.nil | (apply Go.exit; exact rfl) | (apply Go.var2; (first | exact Nat.le_add_right _ _ | assumption); (iterate 4 decide); iterate 5 exact rfl) | (apply Go.var; (first | exact Nat.le_add_right _ _ | assumption); decide; iterate 4 exact rfl) | (apply Go.op; exact rfl; (first | exact aop_alloc | exact aop_new rfl rfl | exact aop_mksl rfl | exact aop_lenM rfl | exact rfl | exact aop_load rfl rfl rfl (Nat.le_of_ble_eq_true rfl) rfl | exact aop_store rfl rfl rfl rfl rfl rfl (Nat.le_of_ble_eq_true rfl))) | (apply Go.sop; exact rfl; (first | exact aop_lenM rfl | exact rfl)) | (apply Go.no; exact rfl) | (apply Go.sno; exact rfl) | (apply Qg.op; exact rfl; (first | exact aop_lenM rfl | exact rfl)) | (apply Qg.no; exact rfl) | (apply Go.cond true; exact rfl) | (apply Go.cond false; exact rfl) | (exfalso; omega) | ((first | (apply Go.iteD; exact rfl) | (apply Go.iteE; exact rfl) | (apply Go.iteN; exact rfl) | (apply Go.guardD; exact rfl) | (apply Go.guardE; exact rfl) | (apply Go.guardN; exact rfl) | (apply Go.sguardD; exact rfl) | (apply Go.sguardE; exact rfl) | (apply Go.sguardN; exact rfl) | (apply Qg.guardD; exact rfl) | (apply Qg.guardE; exact rfl) | (apply Qg.guardN; exact rfl)) <;> intro _) | (((first | (apply Go.guard; exact rfl) | (apply Go.sguard; exact rfl) | (apply Qg.guard; exact rfl) | (apply Go.ite; exact rfl)); fail_if_success (intro h; exact absurd h (by decide)); rotate_left; fail_if_success (intro h; exact absurd h (by decide)); rotate_right) <;> intro _)
  clear hlt hk hi
  -- the checks
  refine Go.keep [1, 3, 8] (Go.loops (I := fun m fr τ => ∃ i : Nat, ∃ k : Int, m = t.checks.length - i ∧ i ≤ t.checks.length ∧ k = i ∧ (∀ j (hj : j < t.checks.length), j < i → exprF t.checks[j].expr t.cols.length = true) ∧
    fr = [(1, .c (.fp (encTable t))), (3, .c (.int .i64 (t.cols.length : Int))), (8, .c (.int .i64 k))] ∧ τ = E σ []) ?_ _ _ _ ⟨0, _, rfl, Nat.zero_le _, rfl, fun j _ h => absurd h (by omega), rfl, rfl⟩)
  rintro m fr τ ⟨i, k, rfl, hi, hk, hall, rfl, rfl⟩ hrec
  by_cases hlt : i < t.checks.length
  · have hx := l2Expr_ok t.checks[i].expr t.cols.length (b5.2 _ (List.getElem_mem hlt)).1 (by omega) (by omega)
    rw [show (decide ((t.checks[i].expr.length : Int) ≤ 24) && exprAux t.cols.length 0 t.checks[i].expr) = exprF t.checks[i].expr t.cols.length from rfl] at hx
    repeat' first | apply Go.seq | apply Go.skip | apply Go.region | apply Go.nil | apply Go.block | apply Go.blk | apply Go.draw | apply Go.segs | apply Go.qs | apply Qg.nil | (apply Go.exit; exact rfl) | (apply Go.var2; (first | exact Nat.le_add_right _ _ | assumption); (iterate 4 decide); iterate 5 exact rfl) | (apply Go.var; (first | exact Nat.le_add_right _ _ | assumption); decide; iterate 4 exact rfl) | (apply Go.op; exact rfl; (first | exact aop_alloc | exact aop_new rfl rfl | exact aop_mksl rfl | exact aop_lenM rfl | exact rfl | exact aop_load rfl rfl rfl (Nat.le_of_ble_eq_true rfl) rfl | exact aop_store rfl rfl rfl rfl rfl rfl (Nat.le_of_ble_eq_true rfl) | exact aop_iaddrM (enc := encChk) rfl rfl hk hlt rfl)) | (apply Go.sop; exact rfl; (first | exact aop_lenM rfl | exact rfl | exact aop_iaddrM (enc := encChk) rfl rfl hk hlt rfl)) | (apply Go.no; exact rfl) | (apply Go.sno; exact rfl) | (apply Qg.op; exact rfl; (first | exact aop_lenM rfl | exact rfl | exact aop_iaddrM (enc := encChk) rfl rfl hk hlt rfl)) | (apply Qg.no; exact rfl) | (apply Go.cond true; exact rfl) | (apply Go.cond false; exact rfl) | ((first | (apply Go.pcallB; iterate 3 exact rfl) | (apply Go.spcallB; iterate 3 exact rfl) | (apply Qg.pcallB; iterate 3 exact rfl)); exact hx; intro _ _) | (exfalso; omega) | ((first | (apply Go.iteD; exact rfl) | (apply Go.iteE; exact rfl) | (apply Go.iteN; exact rfl) | (apply Go.guardD; exact rfl) | (apply Go.guardE; exact rfl) | (apply Go.guardN; exact rfl) | (apply Go.sguardD; exact rfl) | (apply Go.sguardE; exact rfl) | (apply Go.sguardN; exact rfl) | (apply Qg.guardD; exact rfl) | (apply Qg.guardE; exact rfl) | (apply Qg.guardN; exact rfl)) <;> intro _) | (((first | (apply Go.guard; exact rfl) | (apply Go.sguard; exact rfl) | (apply Qg.guard; exact rfl) | (apply Go.ite; exact rfl)); fail_if_success (intro h; exact absurd h (by decide)); rotate_left; fail_if_success (intro h; exact absurd h (by decide)); rotate_right) <;> intro _)
    · rename_i c p q
      exact .ret rfl (.bool (tableF_not fun hh => by
        have h2 := (tableF_iff.1 hh).2.2.2.2.2.2.2.2.2.1
        rw [any_at (p := fun u : Chk => exprF u.expr t.cols.length) hlt (nbT p q)] at h2
        cases h2).symm)
    · rename_i c p q
      exact Go.keep [1, 3, 8] (hrec _ _ _ (by omega) ⟨i + 1, _, rfl, hlt, wrap_succ hk (by omega), upto (p := fun u : Chk => exprF u.expr t.cols.length) hall hlt (nbF p q), rfl, rfl⟩)
  have hchk := any_none (p := fun u : Chk => exprF u.expr t.cols.length) (l := t.checks) fun j hj => hall j hj (by omega)
  clear hrec hall
  repeat' first | apply Go.seq | apply Go.skip | apply Go.region | apply Go.nil | apply Go.block | apply Go.blk | apply Go.draw | apply Go.segs | apply Go.qs | apply Qg.nil | (apply Go.exit; exact rfl) | (apply Go.var2; (first | exact Nat.le_add_right _ _ | assumption); (iterate 4 decide); iterate 5 exact rfl) | (apply Go.var; (first | exact Nat.le_add_right _ _ | assumption); decide; iterate 4 exact rfl) | (apply Go.op; exact rfl; (first | exact aop_alloc | exact aop_new rfl rfl | exact aop_mksl rfl | exact aop_lenM rfl | exact rfl | exact aop_load rfl rfl rfl (Nat.le_of_ble_eq_true rfl) rfl | exact aop_store rfl rfl rfl rfl rfl rfl (Nat.le_of_ble_eq_true rfl))) | (apply Go.sop; exact rfl; (first | exact aop_lenM rfl | exact rfl)) | (apply Go.no; exact rfl) | (apply Go.sno; exact rfl) | (apply Qg.op; exact rfl; (first | exact aop_lenM rfl | exact rfl)) | (apply Qg.no; exact rfl) | (apply Go.cond true; exact rfl) | (apply Go.cond false; exact rfl) | (exfalso; omega) | ((first | (apply Go.iteD; exact rfl) | (apply Go.iteE; exact rfl) | (apply Go.iteN; exact rfl) | (apply Go.guardD; exact rfl) | (apply Go.guardE; exact rfl) | (apply Go.guardN; exact rfl) | (apply Go.sguardD; exact rfl) | (apply Go.sguardE; exact rfl) | (apply Go.sguardN; exact rfl) | (apply Qg.guardD; exact rfl) | (apply Qg.guardE; exact rfl) | (apply Qg.guardN; exact rfl)) <;> intro _) | (((first | (apply Go.guard; exact rfl) | (apply Go.sguard; exact rfl) | (apply Qg.guard; exact rfl) | (apply Go.ite; exact rfl)); fail_if_success (intro h; exact absurd h (by decide)); rotate_left; fail_if_success (intro h; exact absurd h (by decide)); rotate_right) <;> intro _)
  clear hlt hk hi
  -- the references
  refine Go.keep [1, 3, 9] (Go.loops (I := fun m fr τ => ∃ i : Nat, ∃ k : Int, m = t.fks.length - i ∧ i ≤ t.fks.length ∧ k = i ∧ (∀ j (hj : j < t.fks.length), j < i → isFkF t.fks[j] t.cols.length = true) ∧
    fr = [(1, .c (.fp (encTable t))), (3, .c (.int .i64 (t.cols.length : Int))), (9, .c (.int .i64 k))] ∧ τ = E σ []) ?_ _ _ _ ⟨0, _, rfl, Nat.zero_le _, rfl, fun j _ h => absurd h (by omega), rfl, rfl⟩)
  rintro m fr τ ⟨i, k, rfl, hi, hk, hall, rfl, rfl⟩ hrec
  by_cases hlt : i < t.fks.length
  · have hbf := b6.2 _ (List.getElem_mem hlt)
    have neg : isFkF t.fks[i] t.cols.length = false → tableF t = false := fun h => tableF_not fun hh => by
      have h2 := (tableF_iff.1 hh).2.2.2.2.2.2.2.2.2.2
      rw [any_at (p := fun u : Fk => isFkF u t.cols.length) hlt h] at h2
      cases h2
    repeat' first | apply Go.seq | apply Go.skip | apply Go.region | apply Go.nil | apply Go.block | apply Go.blk | apply Go.draw | apply Go.segs | apply Go.qs | apply Qg.nil | (apply Go.exit; exact rfl) | (apply Go.var2; (first | exact Nat.le_add_right _ _ | assumption); (iterate 4 decide); iterate 5 exact rfl) | (apply Go.var; (first | exact Nat.le_add_right _ _ | assumption); decide; iterate 4 exact rfl) | (apply Go.op; exact rfl; (first | exact aop_alloc | exact aop_new rfl rfl | exact aop_mksl rfl | exact aop_lenM rfl | exact rfl | exact aop_load rfl rfl rfl (Nat.le_of_ble_eq_true rfl) rfl | exact aop_store rfl rfl rfl rfl rfl rfl (Nat.le_of_ble_eq_true rfl) | exact aop_iaddrM (enc := encFk) rfl rfl hk hlt rfl)) | (apply Go.sop; exact rfl; (first | exact aop_lenM rfl | exact rfl | exact aop_iaddrM (enc := encFk) rfl rfl hk hlt rfl)) | (apply Go.no; exact rfl) | (apply Go.sno; exact rfl) | (apply Qg.op; exact rfl; (first | exact aop_lenM rfl | exact rfl | exact aop_iaddrM (enc := encFk) rfl rfl hk hlt rfl)) | (apply Qg.no; exact rfl) | (apply Go.cond true; exact rfl) | (apply Go.cond false; exact rfl) | ((first | (apply Go.pcallB; iterate 3 exact rfl) | (apply Go.spcallB; iterate 3 exact rfl) | (apply Qg.pcallB; iterate 3 exact rfl)); (first | exact l3Cols_ok t.fks[i].cols t.cols.length hbf.1 (by omega) (by omega) | exact l3Name_ok t.fks[i].table hbf.2 | exact l1In_ok _ _ _); intro _ _) | (exfalso; omega) | ((first | (apply Go.iteD; exact rfl) | (apply Go.iteE; exact rfl) | (apply Go.iteN; exact rfl) | (apply Go.guardD; exact rfl) | (apply Go.guardE; exact rfl) | (apply Go.guardN; exact rfl) | (apply Go.sguardD; exact rfl) | (apply Go.sguardE; exact rfl) | (apply Go.sguardN; exact rfl) | (apply Qg.guardD; exact rfl) | (apply Qg.guardE; exact rfl) | (apply Qg.guardN; exact rfl)) <;> intro _) | (((first | (apply Go.guard; exact rfl) | (apply Go.sguard; exact rfl) | (apply Qg.guard; exact rfl) | (apply Go.ite; exact rfl)); fail_if_success (intro h; exact absurd h (by decide)); rotate_left; fail_if_success (intro h; exact absurd h (by decide)); rotate_right) <;> intro _)
    all_goals try (refine .ret rfl (.bool (neg ?_).symm); clear hrec neg hin hall hkey huni hchk; simp_all [isFkF]; done)
    have hok : isFkF t.fks[i] t.cols.length = true := by
      clear hrec neg hin hall hkey huni hchk
      simp_all [isFkF]
    exact Go.keep [1, 3, 9] (hrec _ _ _ (by omega) ⟨i + 1, _, rfl, hlt, wrap_succ hk (by omega), upto (p := fun u : Fk => isFkF u t.cols.length) hall hlt hok, rfl, rfl⟩)
  have hfk := any_none (p := fun u : Fk => isFkF u t.cols.length) (l := t.fks) fun j hj => hall j hj (by omega)
  clear hrec hall
  repeat' first | apply Go.seq | apply Go.skip | apply Go.region | apply Go.nil | apply Go.block | apply Go.blk | apply Go.draw | apply Go.segs | apply Go.qs | apply Qg.nil | (apply Go.exit; exact rfl) | (apply Go.var2; (first | exact Nat.le_add_right _ _ | assumption); (iterate 4 decide); iterate 5 exact rfl) | (apply Go.var; (first | exact Nat.le_add_right _ _ | assumption); decide; iterate 4 exact rfl) | (apply Go.op; exact rfl; (first | exact aop_alloc | exact aop_new rfl rfl | exact aop_mksl rfl | exact aop_lenM rfl | exact rfl | exact aop_load rfl rfl rfl (Nat.le_of_ble_eq_true rfl) rfl | exact aop_store rfl rfl rfl rfl rfl rfl (Nat.le_of_ble_eq_true rfl))) | (apply Go.sop; exact rfl; (first | exact aop_lenM rfl | exact rfl)) | (apply Go.no; exact rfl) | (apply Go.sno; exact rfl) | (apply Qg.op; exact rfl; (first | exact aop_lenM rfl | exact rfl)) | (apply Qg.no; exact rfl) | (apply Go.cond true; exact rfl) | (apply Go.cond false; exact rfl) | (exfalso; omega) | ((first | (apply Go.iteD; exact rfl) | (apply Go.iteE; exact rfl) | (apply Go.iteN; exact rfl) | (apply Go.guardD; exact rfl) | (apply Go.guardE; exact rfl) | (apply Go.guardN; exact rfl) | (apply Go.sguardD; exact rfl) | (apply Go.sguardE; exact rfl) | (apply Go.sguardN; exact rfl) | (apply Qg.guardD; exact rfl) | (apply Qg.guardE; exact rfl) | (apply Qg.guardN; exact rfl)) <;> intro _) | (((first | (apply Go.guard; exact rfl) | (apply Go.sguard; exact rfl) | (apply Qg.guard; exact rfl) | (apply Go.ite; exact rfl)); fail_if_success (intro h; exact absurd h (by decide)); rotate_left; fail_if_success (intro h; exact absurd h (by decide)); rotate_right) <;> intro _)
  refine .ret rfl (.bool ?_)
  rw [eq_comm, tableF_iff]
  exact ⟨k1, k2, k3, by omega, by omega, by omega, hfin, hkey, huni, hchk, hfk⟩
end Go.Proofs.YtpjfihdlbdogpaaGreat.Am

/- Schemas, as the program sees them. -/
set_option linter.unusedVariables false
set_option linter.unusedSimpArgs false
namespace Go.Proofs.YtpjfihdlbdogpaaGreat.Am

theorem idxA_at {α : Type} {p : α → Bool} : ∀ {l : List α} {i : Int}, 0 ≤ i → idxA p l i = -1 ∨ ∃ n : Nat, ∃ h : n < l.length, idxA p l i = i + n ∧ p l[n] = true
  | [], i, h => .inl rfl
  | a :: r, i, h => by
    simp only [idxA]
    split
    · exact .inr ⟨0, by simp, by simp, by assumption⟩
    · rcases idxA_at (p := p) (l := r) (i := i + 1) (by omega) with h1 | ⟨n, hn, h1, h2⟩
      · exact .inl h1
      · exact .inr ⟨n + 1, by simpa using hn, by omega, by simpa using h2⟩
theorem TableAt1_ok (t : Table) (s : List UInt8) : Pure Tryz.prog 81 [.agg (encTable t), .c (.fp [.str s])] (.c (.bool (t.name == s))) := by
  refine Pure.run mixed c_impl_TableAt_1_ok (Nat.le_of_ble_eq_true rfl) fun σ hS hA => ?_
  clear hS hA
  repeat' first | apply Go.seq | apply Go.skip | apply Go.region | apply Go.nil | apply Go.block | apply Go.blk | apply Go.draw | apply Go.segs | apply Go.qs | apply Qg.nil | (apply Go.exit; exact rfl) | (apply Go.var2; (first | exact Nat.le_add_right _ _ | assumption); (iterate 4 decide); iterate 5 exact rfl) | (apply Go.var; (first | exact Nat.le_add_right _ _ | assumption); decide; iterate 4 exact rfl) | (apply Go.op; exact rfl; (first | exact aop_alloc | exact aop_new rfl rfl | exact aop_mksl rfl | exact aop_lenM rfl | exact rfl | exact aop_load rfl rfl rfl (Nat.le_of_ble_eq_true rfl) rfl | exact aop_store rfl rfl rfl rfl rfl rfl (Nat.le_of_ble_eq_true rfl))) | (apply Go.sop; exact rfl; (first | exact aop_lenM rfl | exact rfl)) | (apply Go.no; exact rfl) | (apply Go.sno; exact rfl) | (apply Qg.op; exact rfl; (first | exact aop_lenM rfl | exact rfl)) | (apply Qg.no; exact rfl) | (apply Go.cond true; exact rfl) | (apply Go.cond false; exact rfl) | (exfalso; omega) | ((first | (apply Go.iteD; exact rfl) | (apply Go.iteE; exact rfl) | (apply Go.iteN; exact rfl) | (apply Go.guardD; exact rfl) | (apply Go.guardE; exact rfl) | (apply Go.guardN; exact rfl) | (apply Go.sguardD; exact rfl) | (apply Go.sguardE; exact rfl) | (apply Go.sguardN; exact rfl) | (apply Qg.guardD; exact rfl) | (apply Qg.guardE; exact rfl) | (apply Qg.guardN; exact rfl)) <;> intro _) | (((first | (apply Go.guard; exact rfl) | (apply Go.sguard; exact rfl) | (apply Qg.guard; exact rfl) | (apply Go.ite; exact rfl)); fail_if_success (intro h; exact absurd h (by decide)); rotate_left; fail_if_success (intro h; exact absurd h (by decide)); rotate_right) <;> intro _)
  all_goals refine .ret rfl (.bool ?_)
  all_goals simp_all
theorem TableAt_ok (l : List Table) (s : List UInt8) (hx : l.length ≤ 34359738368) : Pure Tryz.prog 34 [.c (.fz (l.map encTable)), .c (.str s)] (.c (.int .i64 (idxA (fun t => t.name == s) l 0))) := by
  refine Pure.run mixed c_impl_TableAt_ok (Nat.le_of_ble_eq_true rfl) fun σ hS hA => ?_
  clear hS hA
  repeat' first | apply Go.seq | apply Go.skip | apply Go.region | apply Go.nil | apply Go.block | apply Go.blk | apply Go.draw | apply Go.segs | apply Go.qs | apply Qg.nil | (apply Go.exit; exact rfl) | (apply Go.var2; (first | exact Nat.le_add_right _ _ | assumption); (iterate 4 decide); iterate 5 exact rfl) | (apply Go.var; (first | exact Nat.le_add_right _ _ | assumption); decide; iterate 4 exact rfl) | (apply Go.op; exact rfl; (first | exact aop_alloc | exact aop_new rfl rfl | exact aop_mksl rfl | exact aop_lenM rfl | exact rfl | exact aop_load rfl rfl rfl (Nat.le_of_ble_eq_true rfl) rfl | exact aop_store rfl rfl rfl rfl rfl rfl (Nat.le_of_ble_eq_true rfl))) | (apply Go.sop; exact rfl; (first | exact aop_lenM rfl | exact rfl)) | (apply Go.no; exact rfl) | (apply Go.sno; exact rfl) | (apply Qg.op; exact rfl; (first | exact aop_lenM rfl | exact rfl)) | (apply Qg.no; exact rfl) | (apply Go.cond true; exact rfl) | (apply Go.cond false; exact rfl) | ((first | (apply Go.pcall; iterate 3 exact rfl) | (apply Go.spcall; iterate 3 exact rfl) | (apply Qg.pcall; iterate 3 exact rfl)); exact indexFuncA_ok mixed c_slices_IndexFunc_Table_ok encTable (fun t => .agg (encTable t)) (fun _ => rfl) (fun _ => rfl) l (fun t => t.name == s) _ [] [.fp [.str s]] hx (fun j hj _ => TableAt1_ok _ _)) | (exfalso; omega) | ((first | (apply Go.iteD; exact rfl) | (apply Go.iteE; exact rfl) | (apply Go.iteN; exact rfl) | (apply Go.guardD; exact rfl) | (apply Go.guardE; exact rfl) | (apply Go.guardN; exact rfl) | (apply Go.sguardD; exact rfl) | (apply Go.sguardE; exact rfl) | (apply Go.sguardN; exact rfl) | (apply Qg.guardD; exact rfl) | (apply Qg.guardE; exact rfl) | (apply Qg.guardN; exact rfl)) <;> intro _) | (((first | (apply Go.guard; exact rfl) | (apply Go.sguard; exact rfl) | (apply Qg.guard; exact rfl) | (apply Go.ite; exact rfl)); fail_if_success (intro h; exact absurd h (by decide)); rotate_left; fail_if_success (intro h; exact absurd h (by decide)); rotate_right) <;> intro _)
  exact .ret rfl (.int rfl)
def kindAt (t : Table) (c : Int) : Int := match t.cols[c.toNat]? with | some x => x.kind | none => 0
def kindsEq (u t : Table) : List Int → List Int → Bool
  | a :: r, c :: q => kindAt u a == kindAt t c && kindsEq u t r q
  | _, _ => true
def metAt (u t : Table) (f : Fk) : Bool := decide (u.key.length = f.cols.length) && kindsEq u t u.key f.cols
def metF (s : List Table) (t : Table) (f : Fk) : Bool := s.any (fun u => u.name == f.table) && (match s[(idxA (fun u => u.name == f.table) s 0).toNat]? with | some u => metAt u t f | none => false)
theorem kindAt_at {t : Table} {c : Int} {n : Nat} (h : c = n) (hn : n < t.cols.length) : kindAt t c = t.cols[n].kind := by
  simp [kindAt, h, hn]
theorem metF_no {s : List Table} {t : Table} {f : Fk} (h : idxA (fun u => u.name == f.table) s 0 = -1) : metF s t f = false := by
  have := any_idx (p := fun u : Table => u.name == f.table) (l := s)
  rw [h] at this
  rw [metF, ← this]
  rfl
theorem metF_yes {s : List Table} {t : Table} {f : Fk} {n : Nat} (h : idxA (fun u => u.name == f.table) s 0 = n) (hn : n < s.length) : metF s t f = metAt s[n] t f := by
  have := any_idx (p := fun u : Table => u.name == f.table) (l := s)
  rw [h] at this
  rw [metF, ← this, h, decide_eq_true (by omega)]
  simp [hn]
theorem isMet_ok (s : List Table) (t : Table) (f : Fk) (hx : s.length ≤ 34359738368) (hs : ∀ u ∈ s, u.key.length ≤ 34359738368 ∧ ∀ c ∈ u.key, 0 ≤ c ∧ c < u.cols.length) (hf0 : f.cols.length ≤ 34359738368) (hf : ∀ c ∈ f.cols, 0 ≤ c ∧ c < t.cols.length) : Pure Tryz.prog 87 [.c (.fz (s.map encTable)), .agg (encTable t), .agg (encFk f)] (.c (.bool (metF s t f))) := by
  refine Pure.run mixed c_impl_isMet_ok (Nat.le_of_ble_eq_true rfl) fun σ hS hA => ?_
  clear hS hA
  repeat' first | apply Go.seq | apply Go.skip | apply Go.region | apply Go.nil | apply Go.block | apply Go.blk | apply Go.draw | apply Go.segs | apply Go.qs | apply Qg.nil | (apply Go.exit; exact rfl) | (apply Go.var2; (first | exact Nat.le_add_right _ _ | assumption); (iterate 4 decide); iterate 5 exact rfl) | (apply Go.var; (first | exact Nat.le_add_right _ _ | assumption); decide; iterate 4 exact rfl) | (apply Go.op; exact rfl; (first | exact aop_alloc | exact aop_new rfl rfl | exact aop_mksl rfl | exact aop_lenM rfl | exact rfl | exact aop_load rfl rfl rfl (Nat.le_of_ble_eq_true rfl) rfl | exact aop_store rfl rfl rfl rfl rfl rfl (Nat.le_of_ble_eq_true rfl))) | (apply Go.sop; exact rfl; (first | exact aop_lenM rfl | exact rfl)) | (apply Go.no; exact rfl) | (apply Go.sno; exact rfl) | (apply Qg.op; exact rfl; (first | exact aop_lenM rfl | exact rfl)) | (apply Qg.no; exact rfl) | (apply Go.cond true; exact rfl) | (apply Go.cond false; exact rfl)
  refine .pcall rfl rfl rfl (TableAt_ok s f.table hx) ?_
  rcases idxA_at (p := fun u : Table => u.name == f.table) (l := s) (i := 0) (Int.le_refl _) with hq | ⟨n, hn, hq, hp⟩
  · have hm := metF_no (t := t) hq
    rw [hq]
    repeat' first | apply Go.seq | apply Go.skip | apply Go.region | apply Go.nil | apply Go.block | apply Go.blk | apply Go.draw | apply Go.segs | apply Go.qs | apply Qg.nil | (apply Go.exit; exact rfl) | (apply Go.var2; (first | exact Nat.le_add_right _ _ | assumption); (iterate 4 decide); iterate 5 exact rfl) | (apply Go.var; (first | exact Nat.le_add_right _ _ | assumption); decide; iterate 4 exact rfl) | (apply Go.op; exact rfl; (first | exact aop_alloc | exact aop_new rfl rfl | exact aop_mksl rfl | exact aop_lenM rfl | exact rfl | exact aop_load rfl rfl rfl (Nat.le_of_ble_eq_true rfl) rfl | exact aop_store rfl rfl rfl rfl rfl rfl (Nat.le_of_ble_eq_true rfl))) | (apply Go.sop; exact rfl; (first | exact aop_lenM rfl | exact rfl)) | (apply Go.no; exact rfl) | (apply Go.sno; exact rfl) | (apply Qg.op; exact rfl; (first | exact aop_lenM rfl | exact rfl)) | (apply Qg.no; exact rfl) | (apply Go.cond true; exact rfl) | (apply Go.cond false; exact rfl) | (exfalso; omega) | ((first | (apply Go.iteD; exact rfl) | (apply Go.iteE; exact rfl) | (apply Go.iteN; exact rfl) | (apply Go.guardD; exact rfl) | (apply Go.guardE; exact rfl) | (apply Go.guardN; exact rfl) | (apply Go.sguardD; exact rfl) | (apply Go.sguardE; exact rfl) | (apply Go.sguardN; exact rfl) | (apply Qg.guardD; exact rfl) | (apply Qg.guardE; exact rfl) | (apply Qg.guardN; exact rfl)) <;> intro _) | (((first | (apply Go.guard; exact rfl) | (apply Go.sguard; exact rfl) | (apply Qg.guard; exact rfl) | (apply Go.ite; exact rfl)); fail_if_success (intro h; exact absurd h (by decide)); rotate_left; fail_if_success (intro h; exact absurd h (by decide)); rotate_right) <;> intro _)
    exact .ret rfl (.bool hm.symm)
  rw [Int.zero_add] at hq
  have hm := metF_yes (t := t) hq hn
  have hsn := hs _ (List.getElem_mem hn)
  rw [hq]
  have hnz : ¬ ((n : Int) < 0) := by omega
  repeat' first | apply Go.seq | apply Go.skip | apply Go.region | apply Go.nil | apply Go.block | apply Go.blk | apply Go.draw | apply Go.segs | apply Go.qs | apply Qg.nil | (apply Go.exit; exact rfl) | (apply Go.var2; (first | exact Nat.le_add_right _ _ | assumption); (iterate 4 decide); iterate 5 exact rfl) | (apply Go.var; (first | exact Nat.le_add_right _ _ | assumption); decide; iterate 4 exact rfl) | (apply Go.op; exact rfl; (first | exact aop_alloc | exact aop_new rfl rfl | exact aop_mksl rfl | exact aop_lenM rfl | exact rfl | exact aop_load rfl rfl rfl (Nat.le_of_ble_eq_true rfl) rfl | exact aop_store rfl rfl rfl rfl rfl rfl (Nat.le_of_ble_eq_true rfl) | exact aop_iaddrM (enc := encTable) rfl rfl rfl hn rfl)) | (apply Go.sop; exact rfl; (first | exact aop_lenM rfl | exact rfl | exact aop_iaddrM (enc := encTable) rfl rfl rfl hn rfl)) | (apply Go.no; exact rfl) | (apply Go.sno; exact rfl) | (apply Qg.op; exact rfl; (first | exact aop_lenM rfl | exact rfl | exact aop_iaddrM (enc := encTable) rfl rfl rfl hn rfl)) | (apply Qg.no; exact rfl) | (apply Go.cond true; exact rfl) | (apply Go.cond false; exact rfl) | (exfalso; omega) | ((first | (apply Go.iteD; exact rfl) | (apply Go.iteE; exact rfl) | (apply Go.iteN; exact rfl) | (apply Go.guardD; exact rfl) | (apply Go.guardE; exact rfl) | (apply Go.guardN; exact rfl) | (apply Go.sguardD; exact rfl) | (apply Go.sguardE; exact rfl) | (apply Go.sguardN; exact rfl) | (apply Qg.guardD; exact rfl) | (apply Qg.guardE; exact rfl) | (apply Qg.guardN; exact rfl)) <;> intro _) | (((first | (apply Go.guard; exact rfl) | (apply Go.sguard; exact rfl) | (apply Qg.guard; exact rfl) | (apply Go.ite; exact rfl)); fail_if_success (intro h; exact absurd h (by decide)); rotate_left; fail_if_success (intro h; exact absurd h (by decide)); rotate_right) <;> intro _)
  · refine .ret rfl (.bool ?_)
    rename_i h
    rw [hm, metAt, decide_eq_false (by omega)]
    rfl
  rename_i hlen
  refine Go.keep [0, 4, 7, 29, 30, 31] (Go.loops (I := fun m fr τ => ∃ i : Nat, ∃ k : Int, m = f.cols.length - i ∧ i ≤ f.cols.length ∧ k = i ∧ kindsEq s[n] t s[n].key f.cols = kindsEq s[n] t (s[n].key.drop i) (f.cols.drop i) ∧
    fr = [(0, .c (.fz (s.map encTable))), (4, .c (.fp (encTable t))), (7, .c (.int .i64 (n : Int))), (29, .c (.fz (f.cols.map encI))), (30, .c (.int .i64 (f.cols.length : Int))), (31, .c (.int .i64 k))] ∧ τ = E σ []) ?_ _ _ _ ⟨0, _, rfl, Nat.zero_le _, rfl, rfl, rfl, rfl⟩)
  rintro m fr τ ⟨i, k, rfl, hi, hk, hsl, rfl, rfl⟩ hrec
  by_cases hlt : i < f.cols.length
  · have hlt2 : i < s[n].key.length := by omega
    have h1 := hsn.2 _ (List.getElem_mem hlt2)
    have h2 := hf _ (List.getElem_mem hlt)
    obtain ⟨a, ha⟩ : ∃ a : Nat, s[n].key[i] = a := ⟨s[n].key[i].toNat, by omega⟩
    obtain ⟨c, hc⟩ : ∃ c : Nat, f.cols[i] = c := ⟨f.cols[i].toNat, by omega⟩
    have ha2 : a < s[n].cols.length := by omega
    have hc2 : c < t.cols.length := by omega
    have e1 := kindAt_at ha ha2
    have e2 := kindAt_at hc hc2
    have hstep : kindsEq s[n] t s[n].key f.cols = (s[n].cols[a].kind == t.cols[c].kind && kindsEq s[n] t (s[n].key.drop (i + 1)) (f.cols.drop (i + 1))) := by
      rw [hsl, List.drop_eq_getElem_cons hlt, List.drop_eq_getElem_cons hlt2, kindsEq, e1, e2]
    repeat' first | apply Go.seq | apply Go.skip | apply Go.region | apply Go.nil | apply Go.block | apply Go.blk | apply Go.draw | apply Go.segs | apply Go.qs | apply Qg.nil | (apply Go.exit; exact rfl) | (apply Go.var2; (first | exact Nat.le_add_right _ _ | assumption); (iterate 4 decide); iterate 5 exact rfl) | (apply Go.var; (first | exact Nat.le_add_right _ _ | assumption); decide; iterate 4 exact rfl) | (apply Go.op; exact rfl; (first | exact aop_alloc | exact aop_new rfl rfl | exact aop_mksl rfl | exact aop_lenM rfl | exact rfl | exact aop_load rfl rfl rfl (Nat.le_of_ble_eq_true rfl) rfl | exact aop_store rfl rfl rfl rfl rfl rfl (Nat.le_of_ble_eq_true rfl) | exact aop_iaddrM (enc := encI) rfl rfl hk hlt rfl | exact aop_iaddrM (enc := encTable) rfl rfl rfl hn rfl | exact aop_iaddrM (enc := encI) rfl rfl hk hlt2 rfl | exact aop_iaddrM (enc := encCol) rfl rfl ha ha2 rfl | exact aop_iaddrM (enc := encCol) rfl rfl hc hc2 rfl)) | (apply Go.sop; exact rfl; (first | exact aop_lenM rfl | exact rfl | exact aop_iaddrM (enc := encI) rfl rfl hk hlt rfl | exact aop_iaddrM (enc := encTable) rfl rfl rfl hn rfl | exact aop_iaddrM (enc := encI) rfl rfl hk hlt2 rfl | exact aop_iaddrM (enc := encCol) rfl rfl ha ha2 rfl | exact aop_iaddrM (enc := encCol) rfl rfl hc hc2 rfl)) | (apply Go.no; exact rfl) | (apply Go.sno; exact rfl) | (apply Qg.op; exact rfl; (first | exact aop_lenM rfl | exact rfl | exact aop_iaddrM (enc := encI) rfl rfl hk hlt rfl | exact aop_iaddrM (enc := encTable) rfl rfl rfl hn rfl | exact aop_iaddrM (enc := encI) rfl rfl hk hlt2 rfl | exact aop_iaddrM (enc := encCol) rfl rfl ha ha2 rfl | exact aop_iaddrM (enc := encCol) rfl rfl hc hc2 rfl)) | (apply Qg.no; exact rfl) | (apply Go.cond true; exact rfl) | (apply Go.cond false; exact rfl) | (exfalso; omega) | ((first | (apply Go.iteD; exact rfl) | (apply Go.iteE; exact rfl) | (apply Go.iteN; exact rfl) | (apply Go.guardD; exact rfl) | (apply Go.guardE; exact rfl) | (apply Go.guardN; exact rfl) | (apply Go.sguardD; exact rfl) | (apply Go.sguardE; exact rfl) | (apply Go.sguardN; exact rfl) | (apply Qg.guardD; exact rfl) | (apply Qg.guardE; exact rfl) | (apply Qg.guardN; exact rfl)) <;> intro _) | (((first | (apply Go.guard; exact rfl) | (apply Go.sguard; exact rfl) | (apply Qg.guard; exact rfl) | (apply Go.ite; exact rfl)); fail_if_success (intro h; exact absurd h (by decide)); rotate_left; fail_if_success (intro h; exact absurd h (by decide)); rotate_right) <;> intro _)
    · refine .ret rfl (.bool ?_)
      rename_i h
      rw [hm, metAt, hstep, beq_eq_false_iff_ne.2 h]
      simp
    · rename_i h
      refine Go.keep [0, 4, 7, 29, 30, 31] (hrec _ _ _ (by omega) ⟨i + 1, _, rfl, hlt, wrap_succ hk (by omega), ?_, rfl, rfl⟩)
      rw [hstep, h]
      simp
  · repeat' first | apply Go.seq | apply Go.skip | apply Go.region | apply Go.nil | apply Go.block | apply Go.blk | apply Go.draw | apply Go.segs | apply Go.qs | apply Qg.nil | (apply Go.exit; exact rfl) | (apply Go.var2; (first | exact Nat.le_add_right _ _ | assumption); (iterate 4 decide); iterate 5 exact rfl) | (apply Go.var; (first | exact Nat.le_add_right _ _ | assumption); decide; iterate 4 exact rfl) | (apply Go.op; exact rfl; (first | exact aop_alloc | exact aop_new rfl rfl | exact aop_mksl rfl | exact aop_lenM rfl | exact rfl | exact aop_load rfl rfl rfl (Nat.le_of_ble_eq_true rfl) rfl | exact aop_store rfl rfl rfl rfl rfl rfl (Nat.le_of_ble_eq_true rfl))) | (apply Go.sop; exact rfl; (first | exact aop_lenM rfl | exact rfl)) | (apply Go.no; exact rfl) | (apply Go.sno; exact rfl) | (apply Qg.op; exact rfl; (first | exact aop_lenM rfl | exact rfl)) | (apply Qg.no; exact rfl) | (apply Go.cond true; exact rfl) | (apply Go.cond false; exact rfl) | (exfalso; omega) | ((first | (apply Go.iteD; exact rfl) | (apply Go.iteE; exact rfl) | (apply Go.iteN; exact rfl) | (apply Go.guardD; exact rfl) | (apply Go.guardE; exact rfl) | (apply Go.guardN; exact rfl) | (apply Go.sguardD; exact rfl) | (apply Go.sguardE; exact rfl) | (apply Go.sguardN; exact rfl) | (apply Qg.guardD; exact rfl) | (apply Qg.guardE; exact rfl) | (apply Qg.guardN; exact rfl)) <;> intro _) | (((first | (apply Go.guard; exact rfl) | (apply Go.sguard; exact rfl) | (apply Qg.guard; exact rfl) | (apply Go.ite; exact rfl)); fail_if_success (intro h; exact absurd h (by decide)); rotate_left; fail_if_success (intro h; exact absurd h (by decide)); rotate_right) <;> intro _)
    refine .ret rfl (.bool ?_)
    rw [hm, metAt, hsl, List.drop_eq_nil_of_le (by omega), decide_eq_true (by omega)]
    cases s[n].key.drop i <;> rfl
def namesAux : List Table → List Table → Bool
  | _, [] => true
  | pre, t :: r => tableF t && !(pre.any fun u => u.name == t.name) && namesAux (pre ++ [t]) r
def schemaF (s : List Table) : Bool := decide ((s.length : Int) ≤ 5) && (namesAux [] s && !(s.any fun t => t.fks.any fun f => !metF s t f))
theorem namesAux_ok : ∀ {l pre : List Table}, namesAux pre l = true → ∀ t ∈ l, tableF t = true
  | [], _, _, t, h => by simp at h
  | a :: r, pre, h, t, ht => by
    simp only [namesAux, Bool.and_eq_true] at h
    rcases List.mem_cons.1 ht with rfl | ht
    · exact h.1.1
    · exact namesAux_ok h.2 t ht
theorem tableF_key {t : Table} (h : tableF t = true) : ∀ c ∈ t.key, 0 ≤ c ∧ c < t.cols.length := colsF_in (tableF_iff.1 h).2.2.1
theorem tableF_fk {t : Table} (h : tableF t = true) {f : Fk} (hf : f ∈ t.fks) : ∀ c ∈ f.cols, 0 ≤ c ∧ c < t.cols.length := by
  have h1 := (tableF_iff.1 h).2.2.2.2.2.2.2.2.2.2
  rw [List.any_eq_false] at h1
  have := h1 f hf
  simp only [Bool.not_eq_true', Bool.not_eq_false, isFkF, Bool.and_eq_true] at this
  exact colsF_in this.1
theorem SchemaOk11_ok (s : List Table) (t : Table) (f : Fk) (hx : s.length ≤ 34359738368) (hs : ∀ u ∈ s, u.key.length ≤ 34359738368 ∧ ∀ c ∈ u.key, 0 ≤ c ∧ c < u.cols.length) (hf0 : f.cols.length ≤ 34359738368) (hf : ∀ c ∈ f.cols, 0 ≤ c ∧ c < t.cols.length) : Pure Tryz.prog 86 [.agg (encFk f), .c (.fp [.fz (s.map encTable)]), .c (.fp (encTable t))] (.c (.bool (!metF s t f))) := by
  refine Pure.run mixed c_impl_SchemaOk_1_1_ok (Nat.le_of_ble_eq_true rfl) fun σ hS hA => ?_
  clear hS hA
  repeat' first | apply Go.seq | apply Go.skip | apply Go.region | apply Go.nil | apply Go.block | apply Go.blk | apply Go.draw | apply Go.segs | apply Go.qs | apply Qg.nil | (apply Go.exit; exact rfl) | (apply Go.var2; (first | exact Nat.le_add_right _ _ | assumption); (iterate 4 decide); iterate 5 exact rfl) | (apply Go.var; (first | exact Nat.le_add_right _ _ | assumption); decide; iterate 4 exact rfl) | (apply Go.op; exact rfl; (first | exact aop_alloc | exact aop_new rfl rfl | exact aop_mksl rfl | exact aop_lenM rfl | exact rfl | exact aop_load rfl rfl rfl (Nat.le_of_ble_eq_true rfl) rfl | exact aop_store rfl rfl rfl rfl rfl rfl (Nat.le_of_ble_eq_true rfl))) | (apply Go.sop; exact rfl; (first | exact aop_lenM rfl | exact rfl)) | (apply Go.no; exact rfl) | (apply Go.sno; exact rfl) | (apply Qg.op; exact rfl; (first | exact aop_lenM rfl | exact rfl)) | (apply Qg.no; exact rfl) | (apply Go.cond true; exact rfl) | (apply Go.cond false; exact rfl) | ((first | (apply Go.pcall; iterate 3 exact rfl) | (apply Go.spcall; iterate 3 exact rfl) | (apply Qg.pcall; iterate 3 exact rfl)); exact isMet_ok s t f hx hs hf0 hf) | (exfalso; omega) | ((first | (apply Go.iteD; exact rfl) | (apply Go.iteE; exact rfl) | (apply Go.iteN; exact rfl) | (apply Go.guardD; exact rfl) | (apply Go.guardE; exact rfl) | (apply Go.guardN; exact rfl) | (apply Go.sguardD; exact rfl) | (apply Go.sguardE; exact rfl) | (apply Go.sguardN; exact rfl) | (apply Qg.guardD; exact rfl) | (apply Qg.guardE; exact rfl) | (apply Qg.guardN; exact rfl)) <;> intro _) | (((first | (apply Go.guard; exact rfl) | (apply Go.sguard; exact rfl) | (apply Qg.guard; exact rfl) | (apply Go.ite; exact rfl)); fail_if_success (intro h; exact absurd h (by decide)); rotate_left; fail_if_success (intro h; exact absurd h (by decide)); rotate_right) <;> intro _)
  exact .ret rfl (.bool rfl)
theorem SchemaOk1_ok (s : List Table) (t : Table) (hx : s.length ≤ 34359738368) (hs : ∀ u ∈ s, u.key.length ≤ 34359738368 ∧ ∀ c ∈ u.key, 0 ≤ c ∧ c < u.cols.length) (hb : bTable 34359738368 t) (hf : ∀ f ∈ t.fks, ∀ c ∈ f.cols, 0 ≤ c ∧ c < t.cols.length) : Pure Tryz.prog 84 [.agg (encTable t), .c (.fp [.fz (s.map encTable)])] (.c (.bool (t.fks.any fun f => !metF s t f))) := by
  refine Pure.run mixed c_impl_SchemaOk_1_ok (Nat.le_of_ble_eq_true rfl) fun σ hS hA => ?_
  clear hS hA
  have b6 := hb.2.2.2.2.2
  repeat' first | apply Go.seq | apply Go.skip | apply Go.region | apply Go.nil | apply Go.block | apply Go.blk | apply Go.draw | apply Go.segs | apply Go.qs | apply Qg.nil | (apply Go.exit; exact rfl) | (apply Go.var2; (first | exact Nat.le_add_right _ _ | assumption); (iterate 4 decide); iterate 5 exact rfl) | (apply Go.var; (first | exact Nat.le_add_right _ _ | assumption); decide; iterate 4 exact rfl) | (apply Go.op; exact rfl; (first | exact aop_alloc | exact aop_new rfl rfl | exact aop_mksl rfl | exact aop_lenM rfl | exact rfl | exact aop_load rfl rfl rfl (Nat.le_of_ble_eq_true rfl) rfl | exact aop_store rfl rfl rfl rfl rfl rfl (Nat.le_of_ble_eq_true rfl))) | (apply Go.sop; exact rfl; (first | exact aop_lenM rfl | exact rfl)) | (apply Go.no; exact rfl) | (apply Go.sno; exact rfl) | (apply Qg.op; exact rfl; (first | exact aop_lenM rfl | exact rfl)) | (apply Qg.no; exact rfl) | (apply Go.cond true; exact rfl) | (apply Go.cond false; exact rfl) | ((first | (apply Go.pcall; iterate 3 exact rfl) | (apply Go.spcall; iterate 3 exact rfl) | (apply Qg.pcall; iterate 3 exact rfl)); exact containsFuncA_ok mixed c_slices_ContainsFunc_Fk_ok c_slices_IndexFunc_Fk_ok encFk (fun u => .agg (encFk u)) (fun _ => rfl) (fun _ => rfl) t.fks (fun f => !metF s t f) _ [] [.fp [.fz (s.map encTable)], .fp (encTable t)] b6.1 (fun j hj _ => SchemaOk11_ok s t _ hx hs (b6.2 _ (List.getElem_mem hj)).1 (hf _ (List.getElem_mem hj)))) | (exfalso; omega) | ((first | (apply Go.iteD; exact rfl) | (apply Go.iteE; exact rfl) | (apply Go.iteN; exact rfl) | (apply Go.guardD; exact rfl) | (apply Go.guardE; exact rfl) | (apply Go.guardN; exact rfl) | (apply Go.sguardD; exact rfl) | (apply Go.sguardE; exact rfl) | (apply Go.sguardN; exact rfl) | (apply Qg.guardD; exact rfl) | (apply Qg.guardE; exact rfl) | (apply Qg.guardN; exact rfl)) <;> intro _) | (((first | (apply Go.guard; exact rfl) | (apply Go.sguard; exact rfl) | (apply Qg.guard; exact rfl) | (apply Go.ite; exact rfl)); fail_if_success (intro h; exact absurd h (by decide)); rotate_left; fail_if_success (intro h; exact absurd h (by decide)); rotate_right) <;> intro _)
  exact .ret rfl (.bool rfl)
theorem encTable_len {l : List Table} : ∀ e ∈ l.map encTable, e.length = 6 := fun e he => by
  obtain ⟨t, _, rfl⟩ := List.mem_map.1 he
  rfl
theorem SchemaOk_ok (s : List Table) (hx : s.length ≤ 34359738368) (hb : ∀ t ∈ s, bTable 34359738368 t) : Pure Tryz.prog 35 [.c (.fz (s.map encTable))] (.c (.bool (schemaF s))) := by
  refine Pure.run mixed c_impl_SchemaOk_ok (Nat.le_of_ble_eq_true rfl) fun σ hS hA => ?_
  clear hS hA
  repeat' first | apply Go.seq | apply Go.skip | apply Go.region | apply Go.nil | apply Go.block | apply Go.blk | apply Go.draw | apply Go.segs | apply Go.qs | apply Qg.nil | (apply Go.exit; exact rfl) | (apply Go.var2; (first | exact Nat.le_add_right _ _ | assumption); (iterate 4 decide); iterate 5 exact rfl) | (apply Go.var; (first | exact Nat.le_add_right _ _ | assumption); decide; iterate 4 exact rfl) | (apply Go.op; exact rfl; (first | exact aop_alloc | exact aop_new rfl rfl | exact aop_mksl rfl | exact aop_lenM rfl | exact rfl | exact aop_load rfl rfl rfl (Nat.le_of_ble_eq_true rfl) rfl | exact aop_store rfl rfl rfl rfl rfl rfl (Nat.le_of_ble_eq_true rfl))) | (apply Go.sop; exact rfl; (first | exact aop_lenM rfl | exact rfl)) | (apply Go.no; exact rfl) | (apply Go.sno; exact rfl) | (apply Qg.op; exact rfl; (first | exact aop_lenM rfl | exact rfl)) | (apply Qg.no; exact rfl) | (apply Go.cond true; exact rfl) | (apply Go.cond false; exact rfl) | (exfalso; omega) | ((first | (apply Go.iteD; exact rfl) | (apply Go.iteE; exact rfl) | (apply Go.iteN; exact rfl) | (apply Go.guardD; exact rfl) | (apply Go.guardE; exact rfl) | (apply Go.guardN; exact rfl) | (apply Go.sguardD; exact rfl) | (apply Go.sguardE; exact rfl) | (apply Go.sguardN; exact rfl) | (apply Qg.guardD; exact rfl) | (apply Qg.guardE; exact rfl) | (apply Qg.guardN; exact rfl)) <;> intro _) | (((first | (apply Go.guard; exact rfl) | (apply Go.sguard; exact rfl) | (apply Qg.guard; exact rfl) | (apply Go.ite; exact rfl)); fail_if_success (intro h; exact absurd h (by decide)); rotate_left; fail_if_success (intro h; exact absurd h (by decide)); rotate_right) <;> intro _)
  · refine .ret rfl (.bool ?_)
    rw [schemaF, decide_eq_false (by omega)]
    rfl
  rename_i h5
  refine Go.keep [1, 8, 9, 10] (Go.loops (I := fun m fr τ => ∃ i : Nat, ∃ k : Int, m = s.length - i ∧ i ≤ s.length ∧ k = i ∧ namesAux [] s = namesAux (s.take i) (s.drop i) ∧
    fr = [(1, .c (.fp [.fz (s.map encTable)])), (8, .c (.fz (s.map encTable))), (9, .c (.int .i64 (s.length : Int))), (10, .c (.int .i64 k))] ∧ τ = E σ []) ?_ _ _ _ ⟨0, _, rfl, Nat.zero_le _, rfl, rfl, rfl, rfl⟩)
  rintro m fr τ ⟨i, k, rfl, hi, hk, hsl, rfl, rfl⟩ hrec
  by_cases hlt : i < s.length
  · have hd := List.drop_eq_getElem_cons hlt
    have htk : (s.map encTable).take i = (s.take i).map encTable := List.map_take.symm
    have hstep : namesAux [] s = (tableF s[i] && !((s.take i).any fun d => d.name == s[i].name) && namesAux (s.take (i + 1)) (s.drop (i + 1))) := by
      rw [hsl, hd, namesAux, List.take_succ_eq_append_getElem hlt]
    have neg : (tableF s[i] = false ∨ ((s.take i).any fun d => d.name == s[i].name) = true) → schemaF s = false := by
      rintro (h | h)
      · rw [schemaF, hstep, h]; simp
      · rw [schemaF, hstep, h]; simp
    have hany := any_idx (p := fun d : Table => d.name == s[i].name) (l := s.take i)
    repeat' first | apply Go.seq | apply Go.skip | apply Go.region | apply Go.nil | apply Go.block | apply Go.blk | apply Go.draw | apply Go.segs | apply Go.qs | apply Qg.nil | (apply Go.exit; exact rfl) | (apply Go.var2; (first | exact Nat.le_add_right _ _ | assumption); (iterate 4 decide); iterate 5 exact rfl) | (apply Go.var; (first | exact Nat.le_add_right _ _ | assumption); decide; iterate 4 exact rfl) | (apply Go.op; exact rfl; (first | exact aop_alloc | exact aop_new rfl rfl | exact aop_mksl rfl | exact aop_lenM rfl | exact rfl | exact aop_load rfl rfl rfl (Nat.le_of_ble_eq_true rfl) rfl | exact aop_store rfl rfl rfl rfl rfl rfl (Nat.le_of_ble_eq_true rfl) | exact aop_iaddrM (enc := encTable) rfl rfl hk hlt rfl | exact aop_sliceF (n := i) rfl rfl hk (by simp; omega) encTable_len)) | (apply Go.sop; exact rfl; (first | exact aop_lenM rfl | exact rfl | exact aop_iaddrM (enc := encTable) rfl rfl hk hlt rfl | exact aop_sliceF (n := i) rfl rfl hk (by simp; omega) encTable_len)) | (apply Go.no; exact rfl) | (apply Go.sno; exact rfl) | (apply Qg.op; exact rfl; (first | exact aop_lenM rfl | exact rfl | exact aop_iaddrM (enc := encTable) rfl rfl hk hlt rfl | exact aop_sliceF (n := i) rfl rfl hk (by simp; omega) encTable_len)) | (apply Qg.no; exact rfl) | (apply Go.cond true; exact rfl) | (apply Go.cond false; exact rfl) | ((first | (apply Go.pcallB; iterate 3 exact rfl) | (apply Go.spcallB; iterate 3 exact rfl) | (apply Qg.pcallB; iterate 3 exact rfl)); exact TableOk_ok s[i] (hb _ (List.getElem_mem hlt)); intro _ _) | (exfalso; omega) | ((first | (apply Go.iteD; exact rfl) | (apply Go.iteE; exact rfl) | (apply Go.iteN; exact rfl) | (apply Go.guardD; exact rfl) | (apply Go.guardE; exact rfl) | (apply Go.guardN; exact rfl) | (apply Go.sguardD; exact rfl) | (apply Go.sguardE; exact rfl) | (apply Go.sguardN; exact rfl) | (apply Qg.guardD; exact rfl) | (apply Qg.guardE; exact rfl) | (apply Qg.guardN; exact rfl)) <;> intro _) | (((first | (apply Go.guard; exact rfl) | (apply Go.sguard; exact rfl) | (apply Qg.guard; exact rfl) | (apply Go.ite; exact rfl)); fail_if_success (intro h; exact absurd h (by decide)); rotate_left; fail_if_success (intro h; exact absurd h (by decide)); rotate_right) <;> intro _)
    · rename_i c p q
      exact .ret rfl (.bool (neg (.inl (nbT p q))).symm)
    rename_i c p q
    rw [htk]
    repeat' first | apply Go.seq | apply Go.skip | apply Go.region | apply Go.nil | apply Go.block | apply Go.blk | apply Go.draw | apply Go.segs | apply Go.qs | apply Qg.nil | (apply Go.exit; exact rfl) | (apply Go.var2; (first | exact Nat.le_add_right _ _ | assumption); (iterate 4 decide); iterate 5 exact rfl) | (apply Go.var; (first | exact Nat.le_add_right _ _ | assumption); decide; iterate 4 exact rfl) | (apply Go.op; exact rfl; (first | exact aop_alloc | exact aop_new rfl rfl | exact aop_mksl rfl | exact aop_lenM rfl | exact rfl | exact aop_load rfl rfl rfl (Nat.le_of_ble_eq_true rfl) rfl | exact aop_store rfl rfl rfl rfl rfl rfl (Nat.le_of_ble_eq_true rfl))) | (apply Go.sop; exact rfl; (first | exact aop_lenM rfl | exact rfl)) | (apply Go.no; exact rfl) | (apply Go.sno; exact rfl) | (apply Qg.op; exact rfl; (first | exact aop_lenM rfl | exact rfl)) | (apply Qg.no; exact rfl) | (apply Go.cond true; exact rfl) | (apply Go.cond false; exact rfl) | ((first | (apply Go.pcallI; iterate 3 exact rfl) | (apply Go.spcallI; iterate 3 exact rfl) | (apply Qg.pcallI; iterate 3 exact rfl)); exact TableAt_ok (s.take i) s[i].name (by simp; omega); intro _ _) | (exfalso; omega) | ((first | (apply Go.iteD; exact rfl) | (apply Go.iteE; exact rfl) | (apply Go.iteN; exact rfl) | (apply Go.guardD; exact rfl) | (apply Go.guardE; exact rfl) | (apply Go.guardN; exact rfl) | (apply Go.sguardD; exact rfl) | (apply Go.sguardE; exact rfl) | (apply Go.sguardN; exact rfl) | (apply Qg.guardD; exact rfl) | (apply Qg.guardE; exact rfl) | (apply Qg.guardN; exact rfl)) <;> intro _) | (((first | (apply Go.guard; exact rfl) | (apply Go.sguard; exact rfl) | (apply Qg.guard; exact rfl) | (apply Go.ite; exact rfl)); fail_if_success (intro h; exact absurd h (by decide)); rotate_left; fail_if_success (intro h; exact absurd h (by decide)); rotate_right) <;> intro _)
    · rename_i z hz hz2
      refine .ret rfl (.bool (neg (.inr ?_)).symm)
      rw [← hany, hz]
      simpa using hz2
    · rename_i z hz hz2
      refine Go.keep [1, 8, 9, 10] (hrec _ _ _ (by omega) ⟨i + 1, _, rfl, hlt, wrap_succ hk (by omega), ?_, rfl, rfl⟩)
      rw [hstep, nbF p q, ← hany, hz, decide_eq_false (by omega)]
      rfl
  have hfin : namesAux [] s = true := by
    rw [hsl, List.drop_eq_nil_of_le (by omega)]
    rfl
  have hok := namesAux_ok hfin
  clear hrec hsl
  repeat' first | apply Go.seq | apply Go.skip | apply Go.region | apply Go.nil | apply Go.block | apply Go.blk | apply Go.draw | apply Go.segs | apply Go.qs | apply Qg.nil | (apply Go.exit; exact rfl) | (apply Go.var2; (first | exact Nat.le_add_right _ _ | assumption); (iterate 4 decide); iterate 5 exact rfl) | (apply Go.var; (first | exact Nat.le_add_right _ _ | assumption); decide; iterate 4 exact rfl) | (apply Go.op; exact rfl; (first | exact aop_alloc | exact aop_new rfl rfl | exact aop_mksl rfl | exact aop_lenM rfl | exact rfl | exact aop_load rfl rfl rfl (Nat.le_of_ble_eq_true rfl) rfl | exact aop_store rfl rfl rfl rfl rfl rfl (Nat.le_of_ble_eq_true rfl))) | (apply Go.sop; exact rfl; (first | exact aop_lenM rfl | exact rfl)) | (apply Go.no; exact rfl) | (apply Go.sno; exact rfl) | (apply Qg.op; exact rfl; (first | exact aop_lenM rfl | exact rfl)) | (apply Qg.no; exact rfl) | (apply Go.cond true; exact rfl) | (apply Go.cond false; exact rfl) | ((first | (apply Go.pcall; iterate 3 exact rfl) | (apply Go.spcall; iterate 3 exact rfl) | (apply Qg.pcall; iterate 3 exact rfl)); exact containsFuncA_ok mixed c_slices_ContainsFunc_Table_ok c_slices_IndexFunc_Table_ok encTable (fun u => .agg (encTable u)) (fun _ => rfl) (fun _ => rfl) s (fun t => t.fks.any fun f => !metF s t f) _ [] [.fp [.fz (s.map encTable)]] hx (fun j hj _ => SchemaOk1_ok s _ hx (fun u hu => ⟨(hb u hu).2.2.1, tableF_key (hok u hu)⟩) (hb _ (List.getElem_mem hj)) (fun f hf => tableF_fk (hok _ (List.getElem_mem hj)) hf))) | (exfalso; omega) | ((first | (apply Go.iteD; exact rfl) | (apply Go.iteE; exact rfl) | (apply Go.iteN; exact rfl) | (apply Go.guardD; exact rfl) | (apply Go.guardE; exact rfl) | (apply Go.guardN; exact rfl) | (apply Go.sguardD; exact rfl) | (apply Go.sguardE; exact rfl) | (apply Go.sguardN; exact rfl) | (apply Qg.guardD; exact rfl) | (apply Qg.guardE; exact rfl) | (apply Qg.guardN; exact rfl)) <;> intro _) | (((first | (apply Go.guard; exact rfl) | (apply Go.sguard; exact rfl) | (apply Qg.guard; exact rfl) | (apply Go.ite; exact rfl)); fail_if_success (intro h; exact absurd h (by decide)); rotate_left; fail_if_success (intro h; exact absurd h (by decide)); rotate_right) <;> intro _)
  refine .ret rfl (.bool ?_)
  rw [schemaF, hfin, decide_eq_true (by omega)]
  rfl
end Go.Proofs.YtpjfihdlbdogpaaGreat.Am

/- Schemas, as the reference sees them. -/
set_option linter.unusedVariables false
set_option linter.unusedSimpArgs false
namespace Go.Proofs.YtpjfihdlbdogpaaGreat.Am

theorem schemaF_not {s : List Table} (h : schemaF s = true → False) : schemaF s = false := by
  cases c : schemaF s
  · rfl
  · exact (h c).elim
theorem schemaF_iff {s : List Table} : schemaF s = true ↔ (s.length : Int) ≤ 5 ∧ namesAux [] s = true ∧ (s.any fun t => t.fks.any fun f => !metF s t f) = false := by
  simp only [schemaF, Bool.and_eq_true, decide_eq_true_eq, Bool.not_eq_true']
theorem sSchemaOk_ok (s : List Table) (hx : s.length ≤ 34359738368) (hb : ∀ t ∈ s, bTable 34359738368 t) : Pure Tryz.prog 28 [.c (.fz (s.map encTable))] (.c (.bool (schemaF s))) := by
  refine Pure.run mixed c_spec_SchemaOk_ok (Nat.le_of_ble_eq_true rfl) fun σ hS hA => ?_
  clear hS hA
  repeat' first | apply Go.seq | apply Go.skip | apply Go.region | apply Go.nil | apply Go.block | apply Go.blk | apply Go.draw | apply Go.segs | apply Go.qs | apply Qg.nil | (apply Go.exit; exact rfl) | (apply Go.var2; (first | exact Nat.le_add_right _ _ | assumption); (iterate 4 decide); iterate 5 exact rfl) | (apply Go.var; (first | exact Nat.le_add_right _ _ | assumption); decide; iterate 4 exact rfl) | (apply Go.op; exact rfl; (first | exact aop_alloc | exact aop_new rfl rfl | exact aop_mksl rfl | exact aop_lenM rfl | exact rfl | exact aop_load rfl rfl rfl (Nat.le_of_ble_eq_true rfl) rfl | exact aop_store rfl rfl rfl rfl rfl rfl (Nat.le_of_ble_eq_true rfl))) | (apply Go.sop; exact rfl; (first | exact aop_lenM rfl | exact rfl)) | (apply Go.no; exact rfl) | (apply Go.sno; exact rfl) | (apply Qg.op; exact rfl; (first | exact aop_lenM rfl | exact rfl)) | (apply Qg.no; exact rfl) | (apply Go.cond true; exact rfl) | (apply Go.cond false; exact rfl) | (exfalso; omega) | ((first | (apply Go.iteD; exact rfl) | (apply Go.iteE; exact rfl) | (apply Go.iteN; exact rfl) | (apply Go.guardD; exact rfl) | (apply Go.guardE; exact rfl) | (apply Go.guardN; exact rfl) | (apply Go.sguardD; exact rfl) | (apply Go.sguardE; exact rfl) | (apply Go.sguardN; exact rfl) | (apply Qg.guardD; exact rfl) | (apply Qg.guardE; exact rfl) | (apply Qg.guardN; exact rfl)) <;> intro _) | (((first | (apply Go.guard; exact rfl) | (apply Go.sguard; exact rfl) | (apply Qg.guard; exact rfl) | (apply Go.ite; exact rfl)); fail_if_success (intro h; exact absurd h (by decide)); rotate_left; fail_if_success (intro h; exact absurd h (by decide)); rotate_right) <;> intro _)
  refine Go.keep [0, 3] (Go.loops (I := fun m fr τ => ∃ i : Nat, ∃ k : Int, m = s.length - i ∧ i ≤ s.length ∧ k = i ∧ namesAux [] s = namesAux (s.take i) (s.drop i) ∧
    fr = [(0, .c (.fz (s.map encTable))), (3, .c (.int .i64 k))] ∧ τ = E σ []) ?_ _ _ _ ⟨0, _, rfl, Nat.zero_le _, rfl, rfl, rfl, rfl⟩)
  rintro m fr τ ⟨i, k, rfl, hi, hk, hsl, rfl, rfl⟩ hrec
  by_cases hlt : i < s.length
  · have hd := List.drop_eq_getElem_cons hlt
    have htk : (s.map encTable).take i = (s.take i).map encTable := List.map_take.symm
    have hstep : namesAux [] s = (tableF s[i] && !((s.take i).any fun d => d.name == s[i].name) && namesAux (s.take (i + 1)) (s.drop (i + 1))) := by
      rw [hsl, hd, namesAux, List.take_succ_eq_append_getElem hlt]
    have neg : (tableF s[i] = false ∨ ((s.take i).any fun d => d.name == s[i].name) = true) → schemaF s = false := by
      rintro (h | h)
      · rw [schemaF, hstep, h]; simp
      · rw [schemaF, hstep, h]; simp
    have hany := any_idx (p := fun d : Table => d.name == s[i].name) (l := s.take i)
    repeat' first | apply Go.seq | apply Go.skip | apply Go.region | apply Go.nil | apply Go.block | apply Go.blk | apply Go.draw | apply Go.segs | apply Go.qs | apply Qg.nil | (apply Go.exit; exact rfl) | (apply Go.var2; (first | exact Nat.le_add_right _ _ | assumption); (iterate 4 decide); iterate 5 exact rfl) | (apply Go.var; (first | exact Nat.le_add_right _ _ | assumption); decide; iterate 4 exact rfl) | (apply Go.op; exact rfl; (first | exact aop_alloc | exact aop_new rfl rfl | exact aop_mksl rfl | exact aop_lenM rfl | exact rfl | exact aop_load rfl rfl rfl (Nat.le_of_ble_eq_true rfl) rfl | exact aop_store rfl rfl rfl rfl rfl rfl (Nat.le_of_ble_eq_true rfl) | exact aop_iaddrM (enc := encTable) rfl rfl hk hlt rfl | exact aop_sliceF (n := i) rfl rfl hk (by simp; omega) encTable_len)) | (apply Go.sop; exact rfl; (first | exact aop_lenM rfl | exact rfl | exact aop_iaddrM (enc := encTable) rfl rfl hk hlt rfl | exact aop_sliceF (n := i) rfl rfl hk (by simp; omega) encTable_len)) | (apply Go.no; exact rfl) | (apply Go.sno; exact rfl) | (apply Qg.op; exact rfl; (first | exact aop_lenM rfl | exact rfl | exact aop_iaddrM (enc := encTable) rfl rfl hk hlt rfl | exact aop_sliceF (n := i) rfl rfl hk (by simp; omega) encTable_len)) | (apply Qg.no; exact rfl) | (apply Go.cond true; exact rfl) | (apply Go.cond false; exact rfl) | ((first | (apply Go.pcallB; iterate 3 exact rfl) | (apply Go.spcallB; iterate 3 exact rfl) | (apply Qg.pcallB; iterate 3 exact rfl)); exact sTableOk_ok s[i] (hb _ (List.getElem_mem hlt)); intro _ _) | (exfalso; omega) | ((first | (apply Go.iteD; exact rfl) | (apply Go.iteE; exact rfl) | (apply Go.iteN; exact rfl) | (apply Go.guardD; exact rfl) | (apply Go.guardE; exact rfl) | (apply Go.guardN; exact rfl) | (apply Go.sguardD; exact rfl) | (apply Go.sguardE; exact rfl) | (apply Go.sguardN; exact rfl) | (apply Qg.guardD; exact rfl) | (apply Qg.guardE; exact rfl) | (apply Qg.guardN; exact rfl)) <;> intro _) | (((first | (apply Go.guard; exact rfl) | (apply Go.sguard; exact rfl) | (apply Qg.guard; exact rfl) | (apply Go.ite; exact rfl)); fail_if_success (intro h; exact absurd h (by decide)); rotate_left; fail_if_success (intro h; exact absurd h (by decide)); rotate_right) <;> intro _)
    · rename_i c p q
      exact .ret rfl (.bool (neg (.inl (nbT p q))).symm)
    rename_i c p q
    rw [htk]
    repeat' first | apply Go.seq | apply Go.skip | apply Go.region | apply Go.nil | apply Go.block | apply Go.blk | apply Go.draw | apply Go.segs | apply Go.qs | apply Qg.nil | (apply Go.exit; exact rfl) | (apply Go.var2; (first | exact Nat.le_add_right _ _ | assumption); (iterate 4 decide); iterate 5 exact rfl) | (apply Go.var; (first | exact Nat.le_add_right _ _ | assumption); decide; iterate 4 exact rfl) | (apply Go.op; exact rfl; (first | exact aop_alloc | exact aop_new rfl rfl | exact aop_mksl rfl | exact aop_lenM rfl | exact rfl | exact aop_load rfl rfl rfl (Nat.le_of_ble_eq_true rfl) rfl | exact aop_store rfl rfl rfl rfl rfl rfl (Nat.le_of_ble_eq_true rfl))) | (apply Go.sop; exact rfl; (first | exact aop_lenM rfl | exact rfl)) | (apply Go.no; exact rfl) | (apply Go.sno; exact rfl) | (apply Qg.op; exact rfl; (first | exact aop_lenM rfl | exact rfl)) | (apply Qg.no; exact rfl) | (apply Go.cond true; exact rfl) | (apply Go.cond false; exact rfl) | ((first | (apply Go.pcallI; iterate 3 exact rfl) | (apply Go.spcallI; iterate 3 exact rfl) | (apply Qg.pcallI; iterate 3 exact rfl)); exact l3At_ok (s.take i) s[i].name (by simp; omega); intro _ _) | (exfalso; omega) | ((first | (apply Go.iteD; exact rfl) | (apply Go.iteE; exact rfl) | (apply Go.iteN; exact rfl) | (apply Go.guardD; exact rfl) | (apply Go.guardE; exact rfl) | (apply Go.guardN; exact rfl) | (apply Go.sguardD; exact rfl) | (apply Go.sguardE; exact rfl) | (apply Go.sguardN; exact rfl) | (apply Qg.guardD; exact rfl) | (apply Qg.guardE; exact rfl) | (apply Qg.guardN; exact rfl)) <;> intro _) | (((first | (apply Go.guard; exact rfl) | (apply Go.sguard; exact rfl) | (apply Qg.guard; exact rfl) | (apply Go.ite; exact rfl)); fail_if_success (intro h; exact absurd h (by decide)); rotate_left; fail_if_success (intro h; exact absurd h (by decide)); rotate_right) <;> intro _)
    · rename_i z hz hz2
      refine .ret rfl (.bool (neg (.inr ?_)).symm)
      rw [← hany, hz]
      simpa using hz2
    · rename_i z hz hz2
      refine Go.keep [0, 3] (hrec _ _ _ (by omega) ⟨i + 1, _, rfl, hlt, wrap_succ hk (by omega), ?_, rfl, rfl⟩)
      rw [hstep, nbF p q, ← hany, hz, decide_eq_false (by omega)]
      rfl
  have hfin : namesAux [] s = true := by
    rw [hsl, List.drop_eq_nil_of_le (by omega)]
    rfl
  have hok := namesAux_ok hfin
  clear hrec hsl
  repeat' first | apply Go.seq | apply Go.skip | apply Go.region | apply Go.nil | apply Go.block | apply Go.blk | apply Go.draw | apply Go.segs | apply Go.qs | apply Qg.nil | (apply Go.exit; exact rfl) | (apply Go.var2; (first | exact Nat.le_add_right _ _ | assumption); (iterate 4 decide); iterate 5 exact rfl) | (apply Go.var; (first | exact Nat.le_add_right _ _ | assumption); decide; iterate 4 exact rfl) | (apply Go.op; exact rfl; (first | exact aop_alloc | exact aop_new rfl rfl | exact aop_mksl rfl | exact aop_lenM rfl | exact rfl | exact aop_load rfl rfl rfl (Nat.le_of_ble_eq_true rfl) rfl | exact aop_store rfl rfl rfl rfl rfl rfl (Nat.le_of_ble_eq_true rfl))) | (apply Go.sop; exact rfl; (first | exact aop_lenM rfl | exact rfl)) | (apply Go.no; exact rfl) | (apply Go.sno; exact rfl) | (apply Qg.op; exact rfl; (first | exact aop_lenM rfl | exact rfl)) | (apply Qg.no; exact rfl) | (apply Go.cond true; exact rfl) | (apply Go.cond false; exact rfl) | (exfalso; omega) | ((first | (apply Go.iteD; exact rfl) | (apply Go.iteE; exact rfl) | (apply Go.iteN; exact rfl) | (apply Go.guardD; exact rfl) | (apply Go.guardE; exact rfl) | (apply Go.guardN; exact rfl) | (apply Go.sguardD; exact rfl) | (apply Go.sguardE; exact rfl) | (apply Go.sguardN; exact rfl) | (apply Qg.guardD; exact rfl) | (apply Qg.guardE; exact rfl) | (apply Qg.guardN; exact rfl)) <;> intro _) | (((first | (apply Go.guard; exact rfl) | (apply Go.sguard; exact rfl) | (apply Qg.guard; exact rfl) | (apply Go.ite; exact rfl)); fail_if_success (intro h; exact absurd h (by decide)); rotate_left; fail_if_success (intro h; exact absurd h (by decide)); rotate_right) <;> intro _)
  clear hlt hk hi
  -- the references
  refine Go.keep [0, 4] (Go.loops (I := fun m fr τ => ∃ i : Nat, ∃ k : Int, m = s.length - i ∧ i ≤ s.length ∧ k = i ∧ (∀ j (hj : j < s.length), j < i → (!(s[j].fks.any fun f => !metF s s[j] f)) = true) ∧
    fr = [(0, .c (.fz (s.map encTable))), (4, .c (.int .i64 k))] ∧ τ = E σ []) ?_ _ _ _ ⟨0, _, rfl, Nat.zero_le _, rfl, fun j _ h => absurd h (by omega), rfl, rfl⟩)
  rintro m fr τ ⟨i, k, rfl, hi, hk, hall, rfl, rfl⟩ hrec
  by_cases hlt : i < s.length
  · have hmem := List.getElem_mem hlt
    have hti := hok _ hmem
    have b6 := (hb _ hmem).2.2.2.2.2
    repeat' first | apply Go.seq | apply Go.skip | apply Go.region | apply Go.nil | apply Go.block | apply Go.blk | apply Go.draw | apply Go.segs | apply Go.qs | apply Qg.nil | (apply Go.exit; exact rfl) | (apply Go.var2; (first | exact Nat.le_add_right _ _ | assumption); (iterate 4 decide); iterate 5 exact rfl) | (apply Go.var; (first | exact Nat.le_add_right _ _ | assumption); decide; iterate 4 exact rfl) | (apply Go.op; exact rfl; (first | exact aop_alloc | exact aop_new rfl rfl | exact aop_mksl rfl | exact aop_lenM rfl | exact rfl | exact aop_load rfl rfl rfl (Nat.le_of_ble_eq_true rfl) rfl | exact aop_store rfl rfl rfl rfl rfl rfl (Nat.le_of_ble_eq_true rfl))) | (apply Go.sop; exact rfl; (first | exact aop_lenM rfl | exact rfl)) | (apply Go.no; exact rfl) | (apply Go.sno; exact rfl) | (apply Qg.op; exact rfl; (first | exact aop_lenM rfl | exact rfl)) | (apply Qg.no; exact rfl) | (apply Go.cond true; exact rfl) | (apply Go.cond false; exact rfl) | (exfalso; omega) | ((first | (apply Go.iteD; exact rfl) | (apply Go.iteE; exact rfl) | (apply Go.iteN; exact rfl) | (apply Go.guardD; exact rfl) | (apply Go.guardE; exact rfl) | (apply Go.guardN; exact rfl) | (apply Go.sguardD; exact rfl) | (apply Go.sguardE; exact rfl) | (apply Go.sguardN; exact rfl) | (apply Qg.guardD; exact rfl) | (apply Qg.guardE; exact rfl) | (apply Qg.guardN; exact rfl)) <;> intro _) | (((first | (apply Go.guard; exact rfl) | (apply Go.sguard; exact rfl) | (apply Qg.guard; exact rfl) | (apply Go.ite; exact rfl)); fail_if_success (intro h; exact absurd h (by decide)); rotate_left; fail_if_success (intro h; exact absurd h (by decide)); rotate_right) <;> intro _)
    refine Go.keep [0, 4, 5] (Go.loops (I := fun m fr τ => ∃ i2 : Nat, ∃ k2 : Int, m = s[i].fks.length - i2 ∧ i2 ≤ s[i].fks.length ∧ k2 = i2 ∧ (∀ j (hj : j < s[i].fks.length), j < i2 → metF s s[i] s[i].fks[j] = true) ∧
      fr = [(0, .c (.fz (s.map encTable))), (4, .c (.int .i64 k)), (5, .c (.int .i64 k2))] ∧ τ = E σ []) ?_ _ _ _ ⟨0, _, rfl, Nat.zero_le _, rfl, fun j _ h => absurd h (by omega), rfl, rfl⟩)
    rintro m fr τ ⟨i2, k2, rfl, hi2, hk2, hall2, rfl, rfl⟩ hrec2
    by_cases hlt2 : i2 < s[i].fks.length
    · have hfm := List.getElem_mem hlt2
      have hf := tableF_fk hti hfm
      have hf0 := (b6.2 _ hfm).1
      have neg : metF s s[i] s[i].fks[i2] = false → schemaF s = false := fun h => schemaF_not fun hh => by
        have h2 := (schemaF_iff.1 hh).2.2
        rw [List.any_eq_false] at h2
        exact h2 _ hmem (List.any_eq_true.2 ⟨_, hfm, by rw [h]; rfl⟩)
      repeat' first | apply Go.seq | apply Go.skip | apply Go.region | apply Go.nil | apply Go.block | apply Go.blk | apply Go.draw | apply Go.segs | apply Go.qs | apply Qg.nil | (apply Go.exit; exact rfl) | (apply Go.var2; (first | exact Nat.le_add_right _ _ | assumption); (iterate 4 decide); iterate 5 exact rfl) | (apply Go.var; (first | exact Nat.le_add_right _ _ | assumption); decide; iterate 4 exact rfl) | (apply Go.op; exact rfl; (first | exact aop_alloc | exact aop_new rfl rfl | exact aop_mksl rfl | exact aop_lenM rfl | exact rfl | exact aop_load rfl rfl rfl (Nat.le_of_ble_eq_true rfl) rfl | exact aop_store rfl rfl rfl rfl rfl rfl (Nat.le_of_ble_eq_true rfl) | exact aop_iaddrM (enc := encTable) rfl rfl hk hlt rfl | exact aop_iaddrM (enc := encFk) rfl rfl hk2 hlt2 rfl)) | (apply Go.sop; exact rfl; (first | exact aop_lenM rfl | exact rfl | exact aop_iaddrM (enc := encTable) rfl rfl hk hlt rfl | exact aop_iaddrM (enc := encFk) rfl rfl hk2 hlt2 rfl)) | (apply Go.no; exact rfl) | (apply Go.sno; exact rfl) | (apply Qg.op; exact rfl; (first | exact aop_lenM rfl | exact rfl | exact aop_iaddrM (enc := encTable) rfl rfl hk hlt rfl | exact aop_iaddrM (enc := encFk) rfl rfl hk2 hlt2 rfl)) | (apply Qg.no; exact rfl) | (apply Go.cond true; exact rfl) | (apply Go.cond false; exact rfl) | (exfalso; omega) | ((first | (apply Go.iteD; exact rfl) | (apply Go.iteE; exact rfl) | (apply Go.iteN; exact rfl) | (apply Go.guardD; exact rfl) | (apply Go.guardE; exact rfl) | (apply Go.guardN; exact rfl) | (apply Go.sguardD; exact rfl) | (apply Go.sguardE; exact rfl) | (apply Go.sguardN; exact rfl) | (apply Qg.guardD; exact rfl) | (apply Qg.guardE; exact rfl) | (apply Qg.guardN; exact rfl)) <;> intro _) | (((first | (apply Go.guard; exact rfl) | (apply Go.sguard; exact rfl) | (apply Qg.guard; exact rfl) | (apply Go.ite; exact rfl)); fail_if_success (intro h; exact absurd h (by decide)); rotate_left; fail_if_success (intro h; exact absurd h (by decide)); rotate_right) <;> intro _)
      refine .pcall rfl rfl rfl (l3At_ok s s[i].fks[i2].table hx) ?_
      rcases idxA_at (p := fun u : Table => u.name == s[i].fks[i2].table) (l := s) (i := 0) (Int.le_refl _) with hq | ⟨n, hn, hq, hp⟩
      · have hm := metF_no (t := s[i]) hq
        rw [hq]
        repeat' first | apply Go.seq | apply Go.skip | apply Go.region | apply Go.nil | apply Go.block | apply Go.blk | apply Go.draw | apply Go.segs | apply Go.qs | apply Qg.nil | (apply Go.exit; exact rfl) | (apply Go.var2; (first | exact Nat.le_add_right _ _ | assumption); (iterate 4 decide); iterate 5 exact rfl) | (apply Go.var; (first | exact Nat.le_add_right _ _ | assumption); decide; iterate 4 exact rfl) | (apply Go.op; exact rfl; (first | exact aop_alloc | exact aop_new rfl rfl | exact aop_mksl rfl | exact aop_lenM rfl | exact rfl | exact aop_load rfl rfl rfl (Nat.le_of_ble_eq_true rfl) rfl | exact aop_store rfl rfl rfl rfl rfl rfl (Nat.le_of_ble_eq_true rfl))) | (apply Go.sop; exact rfl; (first | exact aop_lenM rfl | exact rfl)) | (apply Go.no; exact rfl) | (apply Go.sno; exact rfl) | (apply Qg.op; exact rfl; (first | exact aop_lenM rfl | exact rfl)) | (apply Qg.no; exact rfl) | (apply Go.cond true; exact rfl) | (apply Go.cond false; exact rfl) | (exfalso; omega) | ((first | (apply Go.iteD; exact rfl) | (apply Go.iteE; exact rfl) | (apply Go.iteN; exact rfl) | (apply Go.guardD; exact rfl) | (apply Go.guardE; exact rfl) | (apply Go.guardN; exact rfl) | (apply Go.sguardD; exact rfl) | (apply Go.sguardE; exact rfl) | (apply Go.sguardN; exact rfl) | (apply Qg.guardD; exact rfl) | (apply Qg.guardE; exact rfl) | (apply Qg.guardN; exact rfl)) <;> intro _) | (((first | (apply Go.guard; exact rfl) | (apply Go.sguard; exact rfl) | (apply Qg.guard; exact rfl) | (apply Go.ite; exact rfl)); fail_if_success (intro h; exact absurd h (by decide)); rotate_left; fail_if_success (intro h; exact absurd h (by decide)); rotate_right) <;> intro _)
        exact .ret rfl (.bool (neg hm).symm)
      rw [Int.zero_add] at hq
      have hm := metF_yes (t := s[i]) hq hn
      have hsk := tableF_key (hok _ (List.getElem_mem hn))
      rw [hq]
      have hnz : ¬ ((n : Int) < 0) := by omega
      repeat' first | apply Go.seq | apply Go.skip | apply Go.region | apply Go.nil | apply Go.block | apply Go.blk | apply Go.draw | apply Go.segs | apply Go.qs | apply Qg.nil | (apply Go.exit; exact rfl) | (apply Go.var2; (first | exact Nat.le_add_right _ _ | assumption); (iterate 4 decide); iterate 5 exact rfl) | (apply Go.var; (first | exact Nat.le_add_right _ _ | assumption); decide; iterate 4 exact rfl) | (apply Go.op; exact rfl; (first | exact aop_alloc | exact aop_new rfl rfl | exact aop_mksl rfl | exact aop_lenM rfl | exact rfl | exact aop_load rfl rfl rfl (Nat.le_of_ble_eq_true rfl) rfl | exact aop_store rfl rfl rfl rfl rfl rfl (Nat.le_of_ble_eq_true rfl) | exact aop_iaddrM (enc := encTable) rfl rfl rfl hn rfl)) | (apply Go.sop; exact rfl; (first | exact aop_lenM rfl | exact rfl | exact aop_iaddrM (enc := encTable) rfl rfl rfl hn rfl)) | (apply Go.no; exact rfl) | (apply Go.sno; exact rfl) | (apply Qg.op; exact rfl; (first | exact aop_lenM rfl | exact rfl | exact aop_iaddrM (enc := encTable) rfl rfl rfl hn rfl)) | (apply Qg.no; exact rfl) | (apply Go.cond true; exact rfl) | (apply Go.cond false; exact rfl) | (exfalso; omega) | ((first | (apply Go.iteD; exact rfl) | (apply Go.iteE; exact rfl) | (apply Go.iteN; exact rfl) | (apply Go.guardD; exact rfl) | (apply Go.guardE; exact rfl) | (apply Go.guardN; exact rfl) | (apply Go.sguardD; exact rfl) | (apply Go.sguardE; exact rfl) | (apply Go.sguardN; exact rfl) | (apply Qg.guardD; exact rfl) | (apply Qg.guardE; exact rfl) | (apply Qg.guardN; exact rfl)) <;> intro _) | (((first | (apply Go.guard; exact rfl) | (apply Go.sguard; exact rfl) | (apply Qg.guard; exact rfl) | (apply Go.ite; exact rfl)); fail_if_success (intro h; exact absurd h (by decide)); rotate_left; fail_if_success (intro h; exact absurd h (by decide)); rotate_right) <;> intro _)
      · rename_i h
        refine .ret rfl (.bool (neg ?_).symm)
        rw [hm, metAt, decide_eq_false (by omega)]
        rfl
      rename_i hlen
      refine Go.keep [0, 4, 5, 6, 7, 8] (Go.loops (I := fun m fr τ => ∃ i3 : Nat, ∃ k3 : Int, m = s[i].fks[i2].cols.length - i3 ∧ i3 ≤ s[i].fks[i2].cols.length ∧ k3 = i3 ∧ kindsEq s[n] s[i] s[n].key s[i].fks[i2].cols = kindsEq s[n] s[i] (s[n].key.drop i3) (s[i].fks[i2].cols.drop i3) ∧
        fr = [(0, .c (.fz (s.map encTable))), (4, .c (.int .i64 k)), (5, .c (.int .i64 k2)), (6, .c (.fp (encFk s[i].fks[i2]))), (7, .c (.int .i64 (n : Int))), (8, .c (.int .i64 k3))] ∧ τ = E σ []) ?_ _ _ _ ⟨0, _, rfl, Nat.zero_le _, rfl, rfl, rfl, rfl⟩)
      rintro m fr τ ⟨i3, k3, rfl, hi3, hk3, hsl, rfl, rfl⟩ hrec3
      by_cases hlt3 : i3 < s[i].fks[i2].cols.length
      · have hlt4 : i3 < s[n].key.length := by omega
        have h1 := hsk _ (List.getElem_mem hlt4)
        have h2 := hf _ (List.getElem_mem hlt3)
        obtain ⟨a, ha⟩ : ∃ a : Nat, s[n].key[i3] = a := ⟨s[n].key[i3].toNat, by omega⟩
        obtain ⟨c, hc⟩ : ∃ c : Nat, s[i].fks[i2].cols[i3] = c := ⟨s[i].fks[i2].cols[i3].toNat, by omega⟩
        have ha2 : a < s[n].cols.length := by omega
        have hc2 : c < s[i].cols.length := by omega
        have e1 := kindAt_at ha ha2
        have e2 := kindAt_at hc hc2
        have hstep : kindsEq s[n] s[i] s[n].key s[i].fks[i2].cols = (s[n].cols[a].kind == s[i].cols[c].kind && kindsEq s[n] s[i] (s[n].key.drop (i3 + 1)) (s[i].fks[i2].cols.drop (i3 + 1))) := by
          rw [hsl, List.drop_eq_getElem_cons hlt3, List.drop_eq_getElem_cons hlt4, kindsEq, e1, e2]
        repeat' first | apply Go.seq | apply Go.skip | apply Go.region | apply Go.nil | apply Go.block | apply Go.blk | apply Go.draw | apply Go.segs | apply Go.qs | apply Qg.nil | (apply Go.exit; exact rfl) | (apply Go.var2; (first | exact Nat.le_add_right _ _ | assumption); (iterate 4 decide); iterate 5 exact rfl) | (apply Go.var; (first | exact Nat.le_add_right _ _ | assumption); decide; iterate 4 exact rfl) | (apply Go.op; exact rfl; (first | exact aop_alloc | exact aop_new rfl rfl | exact aop_mksl rfl | exact aop_lenM rfl | exact rfl | exact aop_load rfl rfl rfl (Nat.le_of_ble_eq_true rfl) rfl | exact aop_store rfl rfl rfl rfl rfl rfl (Nat.le_of_ble_eq_true rfl) | exact aop_iaddrM (enc := encTable) rfl rfl hk hlt rfl | exact aop_iaddrM (enc := encI) rfl rfl hk3 hlt3 rfl | exact aop_iaddrM (enc := encTable) rfl rfl rfl hn rfl | exact aop_iaddrM (enc := encI) rfl rfl hk3 hlt4 rfl | exact aop_iaddrM (enc := encCol) rfl rfl ha ha2 rfl | exact aop_iaddrM (enc := encCol) rfl rfl hc hc2 rfl)) | (apply Go.sop; exact rfl; (first | exact aop_lenM rfl | exact rfl | exact aop_iaddrM (enc := encTable) rfl rfl hk hlt rfl | exact aop_iaddrM (enc := encI) rfl rfl hk3 hlt3 rfl | exact aop_iaddrM (enc := encTable) rfl rfl rfl hn rfl | exact aop_iaddrM (enc := encI) rfl rfl hk3 hlt4 rfl | exact aop_iaddrM (enc := encCol) rfl rfl ha ha2 rfl | exact aop_iaddrM (enc := encCol) rfl rfl hc hc2 rfl)) | (apply Go.no; exact rfl) | (apply Go.sno; exact rfl) | (apply Qg.op; exact rfl; (first | exact aop_lenM rfl | exact rfl | exact aop_iaddrM (enc := encTable) rfl rfl hk hlt rfl | exact aop_iaddrM (enc := encI) rfl rfl hk3 hlt3 rfl | exact aop_iaddrM (enc := encTable) rfl rfl rfl hn rfl | exact aop_iaddrM (enc := encI) rfl rfl hk3 hlt4 rfl | exact aop_iaddrM (enc := encCol) rfl rfl ha ha2 rfl | exact aop_iaddrM (enc := encCol) rfl rfl hc hc2 rfl)) | (apply Qg.no; exact rfl) | (apply Go.cond true; exact rfl) | (apply Go.cond false; exact rfl) | (exfalso; omega) | ((first | (apply Go.iteD; exact rfl) | (apply Go.iteE; exact rfl) | (apply Go.iteN; exact rfl) | (apply Go.guardD; exact rfl) | (apply Go.guardE; exact rfl) | (apply Go.guardN; exact rfl) | (apply Go.sguardD; exact rfl) | (apply Go.sguardE; exact rfl) | (apply Go.sguardN; exact rfl) | (apply Qg.guardD; exact rfl) | (apply Qg.guardE; exact rfl) | (apply Qg.guardN; exact rfl)) <;> intro _) | (((first | (apply Go.guard; exact rfl) | (apply Go.sguard; exact rfl) | (apply Qg.guard; exact rfl) | (apply Go.ite; exact rfl)); fail_if_success (intro h; exact absurd h (by decide)); rotate_left; fail_if_success (intro h; exact absurd h (by decide)); rotate_right) <;> intro _)
        · rename_i h
          refine .ret rfl (.bool (neg ?_).symm)
          rw [hm, metAt, hstep, beq_eq_false_iff_ne.2 fun e => h e.symm]
          simp
        · rename_i h
          refine Go.keep [0, 4, 5, 6, 7, 8] (hrec3 _ _ _ (by omega) ⟨i3 + 1, _, rfl, hlt3, wrap_succ hk3 (by omega), ?_, rfl, rfl⟩)
          rw [hstep, h]
          simp
      · have hmt : metF s s[i] s[i].fks[i2] = true := by
          rw [hm, metAt, hsl, List.drop_eq_nil_of_le (by omega), decide_eq_true (by omega)]
          cases s[n].key.drop i3 <;> rfl
        clear hrec3
        repeat' first | apply Go.seq | apply Go.skip | apply Go.region | apply Go.nil | apply Go.block | apply Go.blk | apply Go.draw | apply Go.segs | apply Go.qs | apply Qg.nil | (apply Go.exit; exact rfl) | (apply Go.var2; (first | exact Nat.le_add_right _ _ | assumption); (iterate 4 decide); iterate 5 exact rfl) | (apply Go.var; (first | exact Nat.le_add_right _ _ | assumption); decide; iterate 4 exact rfl) | (apply Go.op; exact rfl; (first | exact aop_alloc | exact aop_new rfl rfl | exact aop_mksl rfl | exact aop_lenM rfl | exact rfl | exact aop_load rfl rfl rfl (Nat.le_of_ble_eq_true rfl) rfl | exact aop_store rfl rfl rfl rfl rfl rfl (Nat.le_of_ble_eq_true rfl))) | (apply Go.sop; exact rfl; (first | exact aop_lenM rfl | exact rfl)) | (apply Go.no; exact rfl) | (apply Go.sno; exact rfl) | (apply Qg.op; exact rfl; (first | exact aop_lenM rfl | exact rfl)) | (apply Qg.no; exact rfl) | (apply Go.cond true; exact rfl) | (apply Go.cond false; exact rfl) | (exfalso; omega) | ((first | (apply Go.iteD; exact rfl) | (apply Go.iteE; exact rfl) | (apply Go.iteN; exact rfl) | (apply Go.guardD; exact rfl) | (apply Go.guardE; exact rfl) | (apply Go.guardN; exact rfl) | (apply Go.sguardD; exact rfl) | (apply Go.sguardE; exact rfl) | (apply Go.sguardN; exact rfl) | (apply Qg.guardD; exact rfl) | (apply Qg.guardE; exact rfl) | (apply Qg.guardN; exact rfl)) <;> intro _) | (((first | (apply Go.guard; exact rfl) | (apply Go.sguard; exact rfl) | (apply Qg.guard; exact rfl) | (apply Go.ite; exact rfl)); fail_if_success (intro h; exact absurd h (by decide)); rotate_left; fail_if_success (intro h; exact absurd h (by decide)); rotate_right) <;> intro _)
        exact Go.keep [0, 4, 5] (hrec2 _ _ _ (by omega) ⟨i2 + 1, _, rfl, hlt2, wrap_succ hk2 (by omega), upto (p := fun f => metF s s[i] f) hall2 hlt2 hmt, rfl, rfl⟩)
    · have hany := any_none (p := fun f => metF s s[i] f) (l := s[i].fks) fun j hj => hall2 j hj (by omega)
      clear hrec2
      repeat' first | apply Go.seq | apply Go.skip | apply Go.region | apply Go.nil | apply Go.block | apply Go.blk | apply Go.draw | apply Go.segs | apply Go.qs | apply Qg.nil | (apply Go.exit; exact rfl) | (apply Go.var2; (first | exact Nat.le_add_right _ _ | assumption); (iterate 4 decide); iterate 5 exact rfl) | (apply Go.var; (first | exact Nat.le_add_right _ _ | assumption); decide; iterate 4 exact rfl) | (apply Go.op; exact rfl; (first | exact aop_alloc | exact aop_new rfl rfl | exact aop_mksl rfl | exact aop_lenM rfl | exact rfl | exact aop_load rfl rfl rfl (Nat.le_of_ble_eq_true rfl) rfl | exact aop_store rfl rfl rfl rfl rfl rfl (Nat.le_of_ble_eq_true rfl) | exact aop_iaddrM (enc := encTable) rfl rfl hk hlt rfl)) | (apply Go.sop; exact rfl; (first | exact aop_lenM rfl | exact rfl | exact aop_iaddrM (enc := encTable) rfl rfl hk hlt rfl)) | (apply Go.no; exact rfl) | (apply Go.sno; exact rfl) | (apply Qg.op; exact rfl; (first | exact aop_lenM rfl | exact rfl | exact aop_iaddrM (enc := encTable) rfl rfl hk hlt rfl)) | (apply Qg.no; exact rfl) | (apply Go.cond true; exact rfl) | (apply Go.cond false; exact rfl) | (exfalso; omega) | ((first | (apply Go.iteD; exact rfl) | (apply Go.iteE; exact rfl) | (apply Go.iteN; exact rfl) | (apply Go.guardD; exact rfl) | (apply Go.guardE; exact rfl) | (apply Go.guardN; exact rfl) | (apply Go.sguardD; exact rfl) | (apply Go.sguardE; exact rfl) | (apply Go.sguardN; exact rfl) | (apply Qg.guardD; exact rfl) | (apply Qg.guardE; exact rfl) | (apply Qg.guardN; exact rfl)) <;> intro _) | (((first | (apply Go.guard; exact rfl) | (apply Go.sguard; exact rfl) | (apply Qg.guard; exact rfl) | (apply Go.ite; exact rfl)); fail_if_success (intro h; exact absurd h (by decide)); rotate_left; fail_if_success (intro h; exact absurd h (by decide)); rotate_right) <;> intro _)
      exact Go.keep [0, 4] (hrec _ _ _ (by omega) ⟨i + 1, _, rfl, hlt, wrap_succ hk (by omega), upto (p := fun t : Table => !(t.fks.any fun f => !metF s t f)) hall hlt (by rw [hany]; rfl), rfl, rfl⟩)
  · have hany := any_none (p := fun t : Table => !(t.fks.any fun f => !metF s t f)) (l := s) fun j hj => hall j hj (by omega)
    clear hrec
    repeat' first | apply Go.seq | apply Go.skip | apply Go.region | apply Go.nil | apply Go.block | apply Go.blk | apply Go.draw | apply Go.segs | apply Go.qs | apply Qg.nil | (apply Go.exit; exact rfl) | (apply Go.var2; (first | exact Nat.le_add_right _ _ | assumption); (iterate 4 decide); iterate 5 exact rfl) | (apply Go.var; (first | exact Nat.le_add_right _ _ | assumption); decide; iterate 4 exact rfl) | (apply Go.op; exact rfl; (first | exact aop_alloc | exact aop_new rfl rfl | exact aop_mksl rfl | exact aop_lenM rfl | exact rfl | exact aop_load rfl rfl rfl (Nat.le_of_ble_eq_true rfl) rfl | exact aop_store rfl rfl rfl rfl rfl rfl (Nat.le_of_ble_eq_true rfl))) | (apply Go.sop; exact rfl; (first | exact aop_lenM rfl | exact rfl)) | (apply Go.no; exact rfl) | (apply Go.sno; exact rfl) | (apply Qg.op; exact rfl; (first | exact aop_lenM rfl | exact rfl)) | (apply Qg.no; exact rfl) | (apply Go.cond true; exact rfl) | (apply Go.cond false; exact rfl) | (exfalso; omega) | ((first | (apply Go.iteD; exact rfl) | (apply Go.iteE; exact rfl) | (apply Go.iteN; exact rfl) | (apply Go.guardD; exact rfl) | (apply Go.guardE; exact rfl) | (apply Go.guardN; exact rfl) | (apply Go.sguardD; exact rfl) | (apply Go.sguardE; exact rfl) | (apply Go.sguardN; exact rfl) | (apply Qg.guardD; exact rfl) | (apply Qg.guardE; exact rfl) | (apply Qg.guardN; exact rfl)) <;> intro _) | (((first | (apply Go.guard; exact rfl) | (apply Go.sguard; exact rfl) | (apply Qg.guard; exact rfl) | (apply Go.ite; exact rfl)); fail_if_success (intro h; exact absurd h (by decide)); rotate_left; fail_if_success (intro h; exact absurd h (by decide)); rotate_right) <;> intro _)
    refine .ret rfl (.bool ?_)
    simp only [Bool.not_not] at hany
    rw [schemaF, hfin, hany]
    simp
end Go.Proofs.YtpjfihdlbdogpaaGreat.Am

/- Queries: the program and its reference. -/
set_option linter.unusedVariables false
set_option linter.unusedSimpArgs false
namespace Go.Proofs.YtpjfihdlbdogpaaGreat.Am

def tabAt (s : List Table) (nm : List UInt8) : Option Table := if s.any (fun u => u.name == nm) then s[(idxA (fun u => u.name == nm) s 0).toNat]? else none
theorem tabAt_no {s : List Table} {nm : List UInt8} (h : idxA (fun u => u.name == nm) s 0 = -1) : tabAt s nm = none := by
  have := any_idx (p := fun u : Table => u.name == nm) (l := s)
  rw [h] at this
  rw [tabAt, ← this]
  rfl
theorem tabAt_yes {s : List Table} {nm : List UInt8} {n : Nat} (h : idxA (fun u => u.name == nm) s 0 = n) (hn : n < s.length) : tabAt s nm = some s[n] := by
  have := any_idx (p := fun u : Table => u.name == nm) (l := s)
  rw [h] at this
  rw [tabAt, ← this, h, decide_eq_true (by omega)]
  simp [hn]
theorem schemaF_cols {s : List Table} (h : schemaF s = true) : ∀ t ∈ s, 1 ≤ t.cols.length ∧ t.cols.length ≤ 8 := fun t ht => by
  have := (tableF_iff.1 (namesAux_ok (schemaF_iff.1 h).2.1 t ht)).2.1
  simp only [isIn, Bool.and_eq_true, decide_eq_true_eq] at this
  omega
def termsF (l : List Term) (n : Int) : Bool := !(l.any fun x => !exprF x.expr n)
def whereF (e : List Tok) (n : Int) : Bool := (e.length : Int) == 0 || exprF e n
theorem areTerms1_ok (x : Term) (n : Int) (hb : bTerm 34359738368 x) (h0 : 0 ≤ n) (h1 : n ≤ 16) : Pure Tryz.prog 89 [.agg (encTerm x), .c (.fp [.int .i64 n])] (.c (.bool (!exprF x.expr n))) := by
  refine Pure.run mixed c_impl_areTerms_1_ok (Nat.le_of_ble_eq_true rfl) fun σ hS hA => ?_
  clear hS hA
  have hc := ExprOk_ok x.expr n hb.1
  rw [exprF_eq h0 h1] at hc
  repeat' first | apply Go.seq | apply Go.skip | apply Go.region | apply Go.nil | apply Go.block | apply Go.blk | apply Go.draw | apply Go.segs | apply Go.qs | apply Qg.nil | (apply Go.exit; exact rfl) | (apply Go.var2; (first | exact Nat.le_add_right _ _ | assumption); (iterate 4 decide); iterate 5 exact rfl) | (apply Go.var; (first | exact Nat.le_add_right _ _ | assumption); decide; iterate 4 exact rfl) | (apply Go.op; exact rfl; (first | exact aop_alloc | exact aop_new rfl rfl | exact aop_mksl rfl | exact aop_lenM rfl | exact rfl | exact aop_load rfl rfl rfl (Nat.le_of_ble_eq_true rfl) rfl | exact aop_store rfl rfl rfl rfl rfl rfl (Nat.le_of_ble_eq_true rfl))) | (apply Go.sop; exact rfl; (first | exact aop_lenM rfl | exact rfl)) | (apply Go.no; exact rfl) | (apply Go.sno; exact rfl) | (apply Qg.op; exact rfl; (first | exact aop_lenM rfl | exact rfl)) | (apply Qg.no; exact rfl) | (apply Go.cond true; exact rfl) | (apply Go.cond false; exact rfl) | ((first | (apply Go.pcall; iterate 3 exact rfl) | (apply Go.spcall; iterate 3 exact rfl) | (apply Qg.pcall; iterate 3 exact rfl)); exact hc) | (exfalso; omega) | ((first | (apply Go.iteD; exact rfl) | (apply Go.iteE; exact rfl) | (apply Go.iteN; exact rfl) | (apply Go.guardD; exact rfl) | (apply Go.guardE; exact rfl) | (apply Go.guardN; exact rfl) | (apply Go.sguardD; exact rfl) | (apply Go.sguardE; exact rfl) | (apply Go.sguardN; exact rfl) | (apply Qg.guardD; exact rfl) | (apply Qg.guardE; exact rfl) | (apply Qg.guardN; exact rfl)) <;> intro _) | (((first | (apply Go.guard; exact rfl) | (apply Go.sguard; exact rfl) | (apply Qg.guard; exact rfl) | (apply Go.ite; exact rfl)); fail_if_success (intro h; exact absurd h (by decide)); rotate_left; fail_if_success (intro h; exact absurd h (by decide)); rotate_right) <;> intro _)
  exact .ret rfl (.bool rfl)
theorem areTerms_ok (l : List Term) (n : Int) (hx : l.length ≤ 34359738368) (hb : ∀ x ∈ l, bTerm 34359738368 x) (h0 : 0 ≤ n) (h1 : n ≤ 16) : Pure Tryz.prog 37 [.c (.fz (l.map encTerm)), .c (.int .i64 n)] (.c (.bool (termsF l n))) := by
  refine Pure.run mixed c_impl_areTerms_ok (Nat.le_of_ble_eq_true rfl) fun σ hS hA => ?_
  clear hS hA
  repeat' first | apply Go.seq | apply Go.skip | apply Go.region | apply Go.nil | apply Go.block | apply Go.blk | apply Go.draw | apply Go.segs | apply Go.qs | apply Qg.nil | (apply Go.exit; exact rfl) | (apply Go.var2; (first | exact Nat.le_add_right _ _ | assumption); (iterate 4 decide); iterate 5 exact rfl) | (apply Go.var; (first | exact Nat.le_add_right _ _ | assumption); decide; iterate 4 exact rfl) | (apply Go.op; exact rfl; (first | exact aop_alloc | exact aop_new rfl rfl | exact aop_mksl rfl | exact aop_lenM rfl | exact rfl | exact aop_load rfl rfl rfl (Nat.le_of_ble_eq_true rfl) rfl | exact aop_store rfl rfl rfl rfl rfl rfl (Nat.le_of_ble_eq_true rfl))) | (apply Go.sop; exact rfl; (first | exact aop_lenM rfl | exact rfl)) | (apply Go.no; exact rfl) | (apply Go.sno; exact rfl) | (apply Qg.op; exact rfl; (first | exact aop_lenM rfl | exact rfl)) | (apply Qg.no; exact rfl) | (apply Go.cond true; exact rfl) | (apply Go.cond false; exact rfl) | ((first | (apply Go.pcall; iterate 3 exact rfl) | (apply Go.spcall; iterate 3 exact rfl) | (apply Qg.pcall; iterate 3 exact rfl)); exact containsFuncA_ok mixed c_slices_ContainsFunc_Term_ok c_slices_IndexFunc_Term_ok encTerm (fun u => .agg (encTerm u)) (fun _ => rfl) (fun _ => rfl) l (fun x => !exprF x.expr n) _ [] [.fp [.int .i64 n]] hx (fun j hj _ => areTerms1_ok _ _ (hb _ (List.getElem_mem hj)) h0 h1)) | (exfalso; omega) | ((first | (apply Go.iteD; exact rfl) | (apply Go.iteE; exact rfl) | (apply Go.iteN; exact rfl) | (apply Go.guardD; exact rfl) | (apply Go.guardE; exact rfl) | (apply Go.guardN; exact rfl) | (apply Go.sguardD; exact rfl) | (apply Go.sguardE; exact rfl) | (apply Go.sguardN; exact rfl) | (apply Qg.guardD; exact rfl) | (apply Qg.guardE; exact rfl) | (apply Qg.guardN; exact rfl)) <;> intro _) | (((first | (apply Go.guard; exact rfl) | (apply Go.sguard; exact rfl) | (apply Qg.guard; exact rfl) | (apply Go.ite; exact rfl)); fail_if_success (intro h; exact absurd h (by decide)); rotate_left; fail_if_success (intro h; exact absurd h (by decide)); rotate_right) <;> intro _)
  exact .ret rfl (.bool rfl)
theorem isWhere_ok (e : List Tok) (n : Int) (hx : e.length ≤ 34359738368) (h0 : 0 ≤ n) (h1 : n ≤ 16) : Pure Tryz.prog 38 [.c (.fz (e.map encTok)), .c (.int .i64 n)] (.c (.bool (whereF e n))) := by
  refine Pure.run mixed c_impl_isWhere_ok (Nat.le_of_ble_eq_true rfl) fun σ hS hA => ?_
  clear hS hA
  have hc := ExprOk_ok e n hx
  rw [exprF_eq h0 h1] at hc
  repeat' first | apply Go.seq | apply Go.skip | apply Go.region | apply Go.nil | apply Go.block | apply Go.blk | apply Go.draw | apply Go.segs | apply Go.qs | apply Qg.nil | (apply Go.exit; exact rfl) | (apply Go.var2; (first | exact Nat.le_add_right _ _ | assumption); (iterate 4 decide); iterate 5 exact rfl) | (apply Go.var; (first | exact Nat.le_add_right _ _ | assumption); decide; iterate 4 exact rfl) | (apply Go.op; exact rfl; (first | exact aop_alloc | exact aop_new rfl rfl | exact aop_mksl rfl | exact aop_lenM rfl | exact rfl | exact aop_load rfl rfl rfl (Nat.le_of_ble_eq_true rfl) rfl | exact aop_store rfl rfl rfl rfl rfl rfl (Nat.le_of_ble_eq_true rfl))) | (apply Go.sop; exact rfl; (first | exact aop_lenM rfl | exact rfl)) | (apply Go.no; exact rfl) | (apply Go.sno; exact rfl) | (apply Qg.op; exact rfl; (first | exact aop_lenM rfl | exact rfl)) | (apply Qg.no; exact rfl) | (apply Go.cond true; exact rfl) | (apply Go.cond false; exact rfl) | ((first | (apply Go.pcallB; iterate 3 exact rfl) | (apply Go.spcallB; iterate 3 exact rfl) | (apply Qg.pcallB; iterate 3 exact rfl)); exact hc; intro _ _) | (exfalso; omega) | ((first | (apply Go.iteD; exact rfl) | (apply Go.iteE; exact rfl) | (apply Go.iteN; exact rfl) | (apply Go.guardD; exact rfl) | (apply Go.guardE; exact rfl) | (apply Go.guardN; exact rfl) | (apply Go.sguardD; exact rfl) | (apply Go.sguardE; exact rfl) | (apply Go.sguardN; exact rfl) | (apply Qg.guardD; exact rfl) | (apply Qg.guardE; exact rfl) | (apply Qg.guardN; exact rfl)) <;> intro _) | (((first | (apply Go.guard; exact rfl) | (apply Go.sguard; exact rfl) | (apply Qg.guard; exact rfl) | (apply Go.ite; exact rfl)); fail_if_success (intro h; exact absurd h (by decide)); rotate_left; fail_if_success (intro h; exact absurd h (by decide)); rotate_right) <;> intro _)
  all_goals refine .ret rfl (.bool ?_)
  · rename_i h
    rw [whereF, h]
    rfl
  · rename_i h b hb
    rw [whereF, hb, beq_eq_false_iff_ne.2 h]
    rfl
def byF (l : List Int) (n : Int) : Bool := (l.length : Int) == 0 || colsF l n
def selAt (u : Table) (q : Sel) : Bool := termsF q.terms u.cols.length && (whereF q.wher u.cols.length && byF q.by_ u.cols.length)
def l10F (s : List Table) (q : Sel) : Bool := match tabAt s q.table with | none => false | some u => isIn q.terms.length 1 8 && (isIn q.most 0 60 && selAt u q)
def selectF (s : List Table) (q : Sel) : Bool := schemaF s && l10F s q
theorem SelectOk_ok (s : List Table) (q : Sel) (hx : s.length ≤ 34359738368) (hb : ∀ t ∈ s, bTable 34359738368 t) (hq : bSel 34359738368 q) : Pure Tryz.prog 11 [.c (.fz (s.map encTable)), .agg (encSel q)] (.c (.bool (selectF s q))) := by
  refine Pure.run mixed c_impl_SelectOk_ok (Nat.le_of_ble_eq_true rfl) fun σ hS hA => ?_
  clear hS hA
  obtain ⟨q1, q2, q3, q4⟩ := hq
  repeat' first | apply Go.seq | apply Go.skip | apply Go.region | apply Go.nil | apply Go.block | apply Go.blk | apply Go.draw | apply Go.segs | apply Go.qs | apply Qg.nil | (apply Go.exit; exact rfl) | (apply Go.var2; (first | exact Nat.le_add_right _ _ | assumption); (iterate 4 decide); iterate 5 exact rfl) | (apply Go.var; (first | exact Nat.le_add_right _ _ | assumption); decide; iterate 4 exact rfl) | (apply Go.op; exact rfl; (first | exact aop_alloc | exact aop_new rfl rfl | exact aop_mksl rfl | exact aop_lenM rfl | exact rfl | exact aop_load rfl rfl rfl (Nat.le_of_ble_eq_true rfl) rfl | exact aop_store rfl rfl rfl rfl rfl rfl (Nat.le_of_ble_eq_true rfl))) | (apply Go.sop; exact rfl; (first | exact aop_lenM rfl | exact rfl)) | (apply Go.no; exact rfl) | (apply Go.sno; exact rfl) | (apply Qg.op; exact rfl; (first | exact aop_lenM rfl | exact rfl)) | (apply Qg.no; exact rfl) | (apply Go.cond true; exact rfl) | (apply Go.cond false; exact rfl)
  refine .pcall rfl rfl rfl (TableAt_ok s q.table hx) ?_
  rcases idxA_at (p := fun u : Table => u.name == q.table) (l := s) (i := 0) (Int.le_refl _) with hi | ⟨n, hn, hi, hp⟩
  · have hno : selectF s q = false := by rw [selectF, l10F, tabAt_no hi]; simp
    rw [hi]
    repeat' first | apply Go.seq | apply Go.skip | apply Go.region | apply Go.nil | apply Go.block | apply Go.blk | apply Go.draw | apply Go.segs | apply Go.qs | apply Qg.nil | (apply Go.exit; exact rfl) | (apply Go.var2; (first | exact Nat.le_add_right _ _ | assumption); (iterate 4 decide); iterate 5 exact rfl) | (apply Go.var; (first | exact Nat.le_add_right _ _ | assumption); decide; iterate 4 exact rfl) | (apply Go.op; exact rfl; (first | exact aop_alloc | exact aop_new rfl rfl | exact aop_mksl rfl | exact aop_lenM rfl | exact rfl | exact aop_load rfl rfl rfl (Nat.le_of_ble_eq_true rfl) rfl | exact aop_store rfl rfl rfl rfl rfl rfl (Nat.le_of_ble_eq_true rfl))) | (apply Go.sop; exact rfl; (first | exact aop_lenM rfl | exact rfl)) | (apply Go.no; exact rfl) | (apply Go.sno; exact rfl) | (apply Qg.op; exact rfl; (first | exact aop_lenM rfl | exact rfl)) | (apply Qg.no; exact rfl) | (apply Go.cond true; exact rfl) | (apply Go.cond false; exact rfl) | ((first | (apply Go.pcallB; iterate 3 exact rfl) | (apply Go.spcallB; iterate 3 exact rfl) | (apply Qg.pcallB; iterate 3 exact rfl)); exact SchemaOk_ok s hx hb; intro _ _) | (exfalso; omega) | ((first | (apply Go.iteD; exact rfl) | (apply Go.iteE; exact rfl) | (apply Go.iteN; exact rfl) | (apply Go.guardD; exact rfl) | (apply Go.guardE; exact rfl) | (apply Go.guardN; exact rfl) | (apply Go.sguardD; exact rfl) | (apply Go.sguardE; exact rfl) | (apply Go.sguardN; exact rfl) | (apply Qg.guardD; exact rfl) | (apply Qg.guardE; exact rfl) | (apply Qg.guardN; exact rfl)) <;> intro _) | (((first | (apply Go.guard; exact rfl) | (apply Go.sguard; exact rfl) | (apply Qg.guard; exact rfl) | (apply Go.ite; exact rfl)); fail_if_success (intro h; exact absurd h (by decide)); rotate_left; fail_if_success (intro h; exact absurd h (by decide)); rotate_right) <;> intro _)
    all_goals exact .ret rfl (.bool hno.symm)
  rw [Int.zero_add] at hi
  have hyes := tabAt_yes hi hn
  have hnz : ¬ ((n : Int) < 0) := by omega
  rw [hi]
  repeat' first | apply Go.seq | apply Go.skip | apply Go.region | apply Go.nil | apply Go.block | apply Go.blk | apply Go.draw | apply Go.segs | apply Go.qs | apply Qg.nil | (apply Go.exit; exact rfl) | (apply Go.var2; (first | exact Nat.le_add_right _ _ | assumption); (iterate 4 decide); iterate 5 exact rfl) | (apply Go.var; (first | exact Nat.le_add_right _ _ | assumption); decide; iterate 4 exact rfl) | (apply Go.op; exact rfl; (first | exact aop_alloc | exact aop_new rfl rfl | exact aop_mksl rfl | exact aop_lenM rfl | exact rfl | exact aop_load rfl rfl rfl (Nat.le_of_ble_eq_true rfl) rfl | exact aop_store rfl rfl rfl rfl rfl rfl (Nat.le_of_ble_eq_true rfl))) | (apply Go.sop; exact rfl; (first | exact aop_lenM rfl | exact rfl)) | (apply Go.no; exact rfl) | (apply Go.sno; exact rfl) | (apply Qg.op; exact rfl; (first | exact aop_lenM rfl | exact rfl)) | (apply Qg.no; exact rfl) | (apply Go.cond true; exact rfl) | (apply Go.cond false; exact rfl) | ((first | (apply Go.pcallB; iterate 3 exact rfl) | (apply Go.spcallB; iterate 3 exact rfl) | (apply Qg.pcallB; iterate 3 exact rfl)); (first | exact SchemaOk_ok s hx hb | exact in_ok _ _ _); intro _ _) | (exfalso; omega) | ((first | (apply Go.iteD; exact rfl) | (apply Go.iteE; exact rfl) | (apply Go.iteN; exact rfl) | (apply Go.guardD; exact rfl) | (apply Go.guardE; exact rfl) | (apply Go.guardN; exact rfl) | (apply Go.sguardD; exact rfl) | (apply Go.sguardE; exact rfl) | (apply Go.sguardN; exact rfl) | (apply Qg.guardD; exact rfl) | (apply Qg.guardE; exact rfl) | (apply Qg.guardN; exact rfl)) <;> intro _) | (((first | (apply Go.guard; exact rfl) | (apply Go.sguard; exact rfl) | (apply Qg.guard; exact rfl) | (apply Go.ite; exact rfl)); fail_if_success (intro h; exact absurd h (by decide)); rotate_left; fail_if_success (intro h; exact absurd h (by decide)); rotate_right) <;> intro _)
  · rename_i c p k
    refine .ret rfl (.bool ?_)
    rw [selectF, nbT p k]
    rfl
  · rename_i c p k c2 p2 k2
    refine .ret rfl (.bool ?_)
    rw [selectF, l10F, hyes]
    simp only [nbT p2 k2]
    simp
  · rename_i c p k c2 p2 k2 c3 p3 k3
    refine .ret rfl (.bool ?_)
    rw [selectF, l10F, hyes]
    simp only [nbT p3 k3]
    simp
  rename_i c p k c2 p2 k2 c3 p3 k3
  have hs := nbF p k
  have hc := schemaF_cols hs _ (List.getElem_mem hn)
  have hres : selectF s q = selAt s[n] q := by
    rw [selectF, hs, l10F, hyes]
    simp only [nbF p2 k2, nbF p3 k3]
    simp
  clear p k p2 k2 p3 k3
  repeat' first | apply Go.seq | apply Go.skip | apply Go.region | apply Go.nil | apply Go.block | apply Go.blk | apply Go.draw | apply Go.segs | apply Go.qs | apply Qg.nil | (apply Go.exit; exact rfl) | (apply Go.var2; (first | exact Nat.le_add_right _ _ | assumption); (iterate 4 decide); iterate 5 exact rfl) | (apply Go.var; (first | exact Nat.le_add_right _ _ | assumption); decide; iterate 4 exact rfl) | (apply Go.op; exact rfl; (first | exact aop_alloc | exact aop_new rfl rfl | exact aop_mksl rfl | exact aop_lenM rfl | exact rfl | exact aop_load rfl rfl rfl (Nat.le_of_ble_eq_true rfl) rfl | exact aop_store rfl rfl rfl rfl rfl rfl (Nat.le_of_ble_eq_true rfl) | exact aop_iaddrM (enc := encTable) rfl rfl rfl hn rfl)) | (apply Go.sop; exact rfl; (first | exact aop_lenM rfl | exact rfl | exact aop_iaddrM (enc := encTable) rfl rfl rfl hn rfl)) | (apply Go.no; exact rfl) | (apply Go.sno; exact rfl) | (apply Qg.op; exact rfl; (first | exact aop_lenM rfl | exact rfl | exact aop_iaddrM (enc := encTable) rfl rfl rfl hn rfl)) | (apply Qg.no; exact rfl) | (apply Go.cond true; exact rfl) | (apply Go.cond false; exact rfl) | ((first | (apply Go.pcallB; iterate 3 exact rfl) | (apply Go.spcallB; iterate 3 exact rfl) | (apply Qg.pcallB; iterate 3 exact rfl)); (first | exact areTerms_ok q.terms s[n].cols.length q2.1 q2.2 (by omega) (by omega) | exact isWhere_ok q.wher s[n].cols.length q3.1 (by omega) (by omega) | exact areColumns_ok q.by_ s[n].cols.length q4 (by omega) (by omega)); intro _ _) | (exfalso; omega) | ((first | (apply Go.iteD; exact rfl) | (apply Go.iteE; exact rfl) | (apply Go.iteN; exact rfl) | (apply Go.guardD; exact rfl) | (apply Go.guardE; exact rfl) | (apply Go.guardN; exact rfl) | (apply Go.sguardD; exact rfl) | (apply Go.sguardE; exact rfl) | (apply Go.sguardN; exact rfl) | (apply Qg.guardD; exact rfl) | (apply Qg.guardE; exact rfl) | (apply Qg.guardN; exact rfl)) <;> intro _) | (((first | (apply Go.guard; exact rfl) | (apply Go.sguard; exact rfl) | (apply Qg.guard; exact rfl) | (apply Go.ite; exact rfl)); fail_if_success (intro h; exact absurd h (by decide)); rotate_left; fail_if_success (intro h; exact absurd h (by decide)); rotate_right) <;> intro _)
  all_goals refine .ret rfl (.bool ?_)
  all_goals rw [hres, selAt]
  all_goals simp_all [byF]
theorem l10Ok_ok (s : List Table) (q : Sel) (hs : schemaF s = true) (hx : s.length ≤ 34359738368) (hb : ∀ t ∈ s, bTable 34359738368 t) (hq : bSel 34359738368 q) : Pure Tryz.prog 29 [.c (.fz (s.map encTable)), .agg (encSel q)] (.c (.bool (l10F s q))) := by
  refine Pure.run mixed c_spec_l10Ok_ok (Nat.le_of_ble_eq_true rfl) fun σ hS hA => ?_
  clear hS hA
  obtain ⟨q1, q2, q3, q4⟩ := hq
  repeat' first | apply Go.seq | apply Go.skip | apply Go.region | apply Go.nil | apply Go.block | apply Go.blk | apply Go.draw | apply Go.segs | apply Go.qs | apply Qg.nil | (apply Go.exit; exact rfl) | (apply Go.var2; (first | exact Nat.le_add_right _ _ | assumption); (iterate 4 decide); iterate 5 exact rfl) | (apply Go.var; (first | exact Nat.le_add_right _ _ | assumption); decide; iterate 4 exact rfl) | (apply Go.op; exact rfl; (first | exact aop_alloc | exact aop_new rfl rfl | exact aop_mksl rfl | exact aop_lenM rfl | exact rfl | exact aop_load rfl rfl rfl (Nat.le_of_ble_eq_true rfl) rfl | exact aop_store rfl rfl rfl rfl rfl rfl (Nat.le_of_ble_eq_true rfl))) | (apply Go.sop; exact rfl; (first | exact aop_lenM rfl | exact rfl)) | (apply Go.no; exact rfl) | (apply Go.sno; exact rfl) | (apply Qg.op; exact rfl; (first | exact aop_lenM rfl | exact rfl)) | (apply Qg.no; exact rfl) | (apply Go.cond true; exact rfl) | (apply Go.cond false; exact rfl)
  refine .pcall rfl rfl rfl (l3At_ok s q.table hx) ?_
  rcases idxA_at (p := fun u : Table => u.name == q.table) (l := s) (i := 0) (Int.le_refl _) with hi | ⟨n, hn, hi, hp⟩
  · have hno : l10F s q = false := by rw [l10F, tabAt_no hi]
    rw [hi]
    repeat' first | apply Go.seq | apply Go.skip | apply Go.region | apply Go.nil | apply Go.block | apply Go.blk | apply Go.draw | apply Go.segs | apply Go.qs | apply Qg.nil | (apply Go.exit; exact rfl) | (apply Go.var2; (first | exact Nat.le_add_right _ _ | assumption); (iterate 4 decide); iterate 5 exact rfl) | (apply Go.var; (first | exact Nat.le_add_right _ _ | assumption); decide; iterate 4 exact rfl) | (apply Go.op; exact rfl; (first | exact aop_alloc | exact aop_new rfl rfl | exact aop_mksl rfl | exact aop_lenM rfl | exact rfl | exact aop_load rfl rfl rfl (Nat.le_of_ble_eq_true rfl) rfl | exact aop_store rfl rfl rfl rfl rfl rfl (Nat.le_of_ble_eq_true rfl))) | (apply Go.sop; exact rfl; (first | exact aop_lenM rfl | exact rfl)) | (apply Go.no; exact rfl) | (apply Go.sno; exact rfl) | (apply Qg.op; exact rfl; (first | exact aop_lenM rfl | exact rfl)) | (apply Qg.no; exact rfl) | (apply Go.cond true; exact rfl) | (apply Go.cond false; exact rfl) | (exfalso; omega) | ((first | (apply Go.iteD; exact rfl) | (apply Go.iteE; exact rfl) | (apply Go.iteN; exact rfl) | (apply Go.guardD; exact rfl) | (apply Go.guardE; exact rfl) | (apply Go.guardN; exact rfl) | (apply Go.sguardD; exact rfl) | (apply Go.sguardE; exact rfl) | (apply Go.sguardN; exact rfl) | (apply Qg.guardD; exact rfl) | (apply Qg.guardE; exact rfl) | (apply Qg.guardN; exact rfl)) <;> intro _) | (((first | (apply Go.guard; exact rfl) | (apply Go.sguard; exact rfl) | (apply Qg.guard; exact rfl) | (apply Go.ite; exact rfl)); fail_if_success (intro h; exact absurd h (by decide)); rotate_left; fail_if_success (intro h; exact absurd h (by decide)); rotate_right) <;> intro _)
    exact .ret rfl (.bool hno.symm)
  rw [Int.zero_add] at hi
  have hyes := tabAt_yes hi hn
  have hnz : ¬ ((n : Int) < 0) := by omega
  rw [hi]
  repeat' first | apply Go.seq | apply Go.skip | apply Go.region | apply Go.nil | apply Go.block | apply Go.blk | apply Go.draw | apply Go.segs | apply Go.qs | apply Qg.nil | (apply Go.exit; exact rfl) | (apply Go.var2; (first | exact Nat.le_add_right _ _ | assumption); (iterate 4 decide); iterate 5 exact rfl) | (apply Go.var; (first | exact Nat.le_add_right _ _ | assumption); decide; iterate 4 exact rfl) | (apply Go.op; exact rfl; (first | exact aop_alloc | exact aop_new rfl rfl | exact aop_mksl rfl | exact aop_lenM rfl | exact rfl | exact aop_load rfl rfl rfl (Nat.le_of_ble_eq_true rfl) rfl | exact aop_store rfl rfl rfl rfl rfl rfl (Nat.le_of_ble_eq_true rfl))) | (apply Go.sop; exact rfl; (first | exact aop_lenM rfl | exact rfl)) | (apply Go.no; exact rfl) | (apply Go.sno; exact rfl) | (apply Qg.op; exact rfl; (first | exact aop_lenM rfl | exact rfl)) | (apply Qg.no; exact rfl) | (apply Go.cond true; exact rfl) | (apply Go.cond false; exact rfl) | ((first | (apply Go.pcallB; iterate 3 exact rfl) | (apply Go.spcallB; iterate 3 exact rfl) | (apply Qg.pcallB; iterate 3 exact rfl)); exact l1In_ok _ _ _; intro _ _) | (exfalso; omega) | ((first | (apply Go.iteD; exact rfl) | (apply Go.iteE; exact rfl) | (apply Go.iteN; exact rfl) | (apply Go.guardD; exact rfl) | (apply Go.guardE; exact rfl) | (apply Go.guardN; exact rfl) | (apply Go.sguardD; exact rfl) | (apply Go.sguardE; exact rfl) | (apply Go.sguardN; exact rfl) | (apply Qg.guardD; exact rfl) | (apply Qg.guardE; exact rfl) | (apply Qg.guardN; exact rfl)) <;> intro _) | (((first | (apply Go.guard; exact rfl) | (apply Go.sguard; exact rfl) | (apply Qg.guard; exact rfl) | (apply Go.ite; exact rfl)); fail_if_success (intro h; exact absurd h (by decide)); rotate_left; fail_if_success (intro h; exact absurd h (by decide)); rotate_right) <;> intro _)
  · rename_i c2 p2 k2
    refine .ret rfl (.bool ?_)
    rw [l10F, hyes]
    simp only [nbT p2 k2]
    simp
  · rename_i c2 p2 k2 c3 p3 k3
    refine .ret rfl (.bool ?_)
    rw [l10F, hyes]
    simp only [nbT p3 k3]
    simp
  rename_i c2 p2 k2 c3 p3 k3
  have hc := schemaF_cols hs _ (List.getElem_mem hn)
  have hres : l10F s q = selAt s[n] q := by
    rw [l10F, hyes]
    simp only [nbF p2 k2, nbF p3 k3]
    simp
  clear p2 k2 p3 k3
  rw [hres]
  repeat' first | apply Go.seq | apply Go.skip | apply Go.region | apply Go.nil | apply Go.block | apply Go.blk | apply Go.draw | apply Go.segs | apply Go.qs | apply Qg.nil | (apply Go.exit; exact rfl) | (apply Go.var2; (first | exact Nat.le_add_right _ _ | assumption); (iterate 4 decide); iterate 5 exact rfl) | (apply Go.var; (first | exact Nat.le_add_right _ _ | assumption); decide; iterate 4 exact rfl) | (apply Go.op; exact rfl; (first | exact aop_alloc | exact aop_new rfl rfl | exact aop_mksl rfl | exact aop_lenM rfl | exact rfl | exact aop_load rfl rfl rfl (Nat.le_of_ble_eq_true rfl) rfl | exact aop_store rfl rfl rfl rfl rfl rfl (Nat.le_of_ble_eq_true rfl) | exact aop_iaddrM (enc := encTable) rfl rfl rfl hn rfl)) | (apply Go.sop; exact rfl; (first | exact aop_lenM rfl | exact rfl | exact aop_iaddrM (enc := encTable) rfl rfl rfl hn rfl)) | (apply Go.no; exact rfl) | (apply Go.sno; exact rfl) | (apply Qg.op; exact rfl; (first | exact aop_lenM rfl | exact rfl | exact aop_iaddrM (enc := encTable) rfl rfl rfl hn rfl)) | (apply Qg.no; exact rfl) | (apply Go.cond true; exact rfl) | (apply Go.cond false; exact rfl) | (exfalso; omega) | ((first | (apply Go.iteD; exact rfl) | (apply Go.iteE; exact rfl) | (apply Go.iteN; exact rfl) | (apply Go.guardD; exact rfl) | (apply Go.guardE; exact rfl) | (apply Go.guardN; exact rfl) | (apply Go.sguardD; exact rfl) | (apply Go.sguardE; exact rfl) | (apply Go.sguardN; exact rfl) | (apply Qg.guardD; exact rfl) | (apply Qg.guardE; exact rfl) | (apply Qg.guardN; exact rfl)) <;> intro _) | (((first | (apply Go.guard; exact rfl) | (apply Go.sguard; exact rfl) | (apply Qg.guard; exact rfl) | (apply Go.ite; exact rfl)); fail_if_success (intro h; exact absurd h (by decide)); rotate_left; fail_if_success (intro h; exact absurd h (by decide)); rotate_right) <;> intro _)
  refine Go.keep [3, 6, 7] (Go.loops (I := fun m fr τ => ∃ i : Nat, ∃ k : Int, m = q.terms.length - i ∧ i ≤ q.terms.length ∧ k = i ∧ (∀ j (hj : j < q.terms.length), j < i → exprF q.terms[j].expr s[n].cols.length = true) ∧
    fr = [(3, .c (.fp (encSel q))), (6, .c (.int .i64 (s[n].cols.length : Int))), (7, .c (.int .i64 k))] ∧ τ = E σ []) ?_ _ _ _ ⟨0, _, rfl, Nat.zero_le _, rfl, fun j _ h => absurd h (by omega), rfl, rfl⟩)
  rintro m fr τ ⟨i, k, rfl, hi2, hk, hall, rfl, rfl⟩ hrec
  have hex : ∀ e : List Tok, e.length ≤ 34359738368 → Pure Tryz.prog 72 [.c (.fz (e.map encTok)), .c (.int .i64 s[n].cols.length)] (.c (.bool (exprF e s[n].cols.length))) := fun e he => l2Expr_ok e _ he (by omega) (by omega)
  by_cases hlt : i < q.terms.length
  · repeat' first | apply Go.seq | apply Go.skip | apply Go.region | apply Go.nil | apply Go.block | apply Go.blk | apply Go.draw | apply Go.segs | apply Go.qs | apply Qg.nil | (apply Go.exit; exact rfl) | (apply Go.var2; (first | exact Nat.le_add_right _ _ | assumption); (iterate 4 decide); iterate 5 exact rfl) | (apply Go.var; (first | exact Nat.le_add_right _ _ | assumption); decide; iterate 4 exact rfl) | (apply Go.op; exact rfl; (first | exact aop_alloc | exact aop_new rfl rfl | exact aop_mksl rfl | exact aop_lenM rfl | exact rfl | exact aop_load rfl rfl rfl (Nat.le_of_ble_eq_true rfl) rfl | exact aop_store rfl rfl rfl rfl rfl rfl (Nat.le_of_ble_eq_true rfl) | exact aop_iaddrM (enc := encTerm) rfl rfl hk hlt rfl)) | (apply Go.sop; exact rfl; (first | exact aop_lenM rfl | exact rfl | exact aop_iaddrM (enc := encTerm) rfl rfl hk hlt rfl)) | (apply Go.no; exact rfl) | (apply Go.sno; exact rfl) | (apply Qg.op; exact rfl; (first | exact aop_lenM rfl | exact rfl | exact aop_iaddrM (enc := encTerm) rfl rfl hk hlt rfl)) | (apply Qg.no; exact rfl) | (apply Go.cond true; exact rfl) | (apply Go.cond false; exact rfl) | ((first | (apply Go.pcallB; iterate 3 exact rfl) | (apply Go.spcallB; iterate 3 exact rfl) | (apply Qg.pcallB; iterate 3 exact rfl)); exact hex q.terms[i].expr (q2.2 _ (List.getElem_mem hlt)).1; intro _ _) | (exfalso; omega) | ((first | (apply Go.iteD; exact rfl) | (apply Go.iteE; exact rfl) | (apply Go.iteN; exact rfl) | (apply Go.guardD; exact rfl) | (apply Go.guardE; exact rfl) | (apply Go.guardN; exact rfl) | (apply Go.sguardD; exact rfl) | (apply Go.sguardE; exact rfl) | (apply Go.sguardN; exact rfl) | (apply Qg.guardD; exact rfl) | (apply Qg.guardE; exact rfl) | (apply Qg.guardN; exact rfl)) <;> intro _) | (((first | (apply Go.guard; exact rfl) | (apply Go.sguard; exact rfl) | (apply Qg.guard; exact rfl) | (apply Go.ite; exact rfl)); fail_if_success (intro h; exact absurd h (by decide)); rotate_left; fail_if_success (intro h; exact absurd h (by decide)); rotate_right) <;> intro _)
    · rename_i c p k4
      refine .ret rfl (.bool ?_)
      rw [selAt, termsF, any_at (p := fun x : Term => exprF x.expr s[n].cols.length) hlt (nbT p k4)]
      rfl
    · rename_i c p k4
      exact Go.keep [3, 6, 7] (hrec _ _ _ (by omega) ⟨i + 1, _, rfl, hlt, wrap_succ hk (by omega), upto (p := fun x : Term => exprF x.expr s[n].cols.length) hall hlt (nbF p k4), rfl, rfl⟩)
  have hterms := any_none (p := fun x : Term => exprF x.expr s[n].cols.length) (l := q.terms) fun j hj => hall j hj (by omega)
  clear hrec hall
  repeat' first | apply Go.seq | apply Go.skip | apply Go.region | apply Go.nil | apply Go.block | apply Go.blk | apply Go.draw | apply Go.segs | apply Go.qs | apply Qg.nil | (apply Go.exit; exact rfl) | (apply Go.var2; (first | exact Nat.le_add_right _ _ | assumption); (iterate 4 decide); iterate 5 exact rfl) | (apply Go.var; (first | exact Nat.le_add_right _ _ | assumption); decide; iterate 4 exact rfl) | (apply Go.op; exact rfl; (first | exact aop_alloc | exact aop_new rfl rfl | exact aop_mksl rfl | exact aop_lenM rfl | exact rfl | exact aop_load rfl rfl rfl (Nat.le_of_ble_eq_true rfl) rfl | exact aop_store rfl rfl rfl rfl rfl rfl (Nat.le_of_ble_eq_true rfl))) | (apply Go.sop; exact rfl; (first | exact aop_lenM rfl | exact rfl)) | (apply Go.no; exact rfl) | (apply Go.sno; exact rfl) | (apply Qg.op; exact rfl; (first | exact aop_lenM rfl | exact rfl)) | (apply Qg.no; exact rfl) | (apply Go.cond true; exact rfl) | (apply Go.cond false; exact rfl) | ((first | (apply Go.pcallB; iterate 3 exact rfl) | (apply Go.spcallB; iterate 3 exact rfl) | (apply Qg.pcallB; iterate 3 exact rfl)); (first | exact hex q.wher q3.1 | exact l3Cols_ok q.by_ s[n].cols.length q4 (by omega) (by omega)); intro _ _) | (exfalso; omega) | ((first | (apply Go.iteD; exact rfl) | (apply Go.iteE; exact rfl) | (apply Go.iteN; exact rfl) | (apply Go.guardD; exact rfl) | (apply Go.guardE; exact rfl) | (apply Go.guardN; exact rfl) | (apply Go.sguardD; exact rfl) | (apply Go.sguardE; exact rfl) | (apply Go.sguardN; exact rfl) | (apply Qg.guardD; exact rfl) | (apply Qg.guardE; exact rfl) | (apply Qg.guardN; exact rfl)) <;> intro _) | (((first | (apply Go.guard; exact rfl) | (apply Go.sguard; exact rfl) | (apply Qg.guard; exact rfl) | (apply Go.ite; exact rfl)); fail_if_success (intro h; exact absurd h (by decide)); rotate_left; fail_if_success (intro h; exact absurd h (by decide)); rotate_right) <;> intro _)
  all_goals refine .ret rfl (.bool ?_)
  all_goals rw [selAt, termsF, hterms]
  all_goals clear hex
  all_goals simp_all [byF, whereF]
theorem sSelectOk_ok (s : List Table) (q : Sel) (hx : s.length ≤ 34359738368) (hb : ∀ t ∈ s, bTable 34359738368 t) (hq : bSel 34359738368 q) : Pure Tryz.prog 8 [.c (.fz (s.map encTable)), .agg (encSel q)] (.c (.bool (selectF s q))) := by
  refine Pure.run mixed c_spec_SelectOk_ok (Nat.le_of_ble_eq_true rfl) fun σ hS hA => ?_
  clear hS hA
  repeat' first | apply Go.seq | apply Go.skip | apply Go.region | apply Go.nil | apply Go.block | apply Go.blk | apply Go.draw | apply Go.segs | apply Go.qs | apply Qg.nil | (apply Go.exit; exact rfl) | (apply Go.var2; (first | exact Nat.le_add_right _ _ | assumption); (iterate 4 decide); iterate 5 exact rfl) | (apply Go.var; (first | exact Nat.le_add_right _ _ | assumption); decide; iterate 4 exact rfl) | (apply Go.op; exact rfl; (first | exact aop_alloc | exact aop_new rfl rfl | exact aop_mksl rfl | exact aop_lenM rfl | exact rfl | exact aop_load rfl rfl rfl (Nat.le_of_ble_eq_true rfl) rfl | exact aop_store rfl rfl rfl rfl rfl rfl (Nat.le_of_ble_eq_true rfl))) | (apply Go.sop; exact rfl; (first | exact aop_lenM rfl | exact rfl)) | (apply Go.no; exact rfl) | (apply Go.sno; exact rfl) | (apply Qg.op; exact rfl; (first | exact aop_lenM rfl | exact rfl)) | (apply Qg.no; exact rfl) | (apply Go.cond true; exact rfl) | (apply Go.cond false; exact rfl)
  refine .pcall rfl rfl rfl (sSchemaOk_ok s hx hb) ?_
  cases hs : schemaF s
  · repeat' first | apply Go.seq | apply Go.skip | apply Go.region | apply Go.nil | apply Go.block | apply Go.blk | apply Go.draw | apply Go.segs | apply Go.qs | apply Qg.nil | (apply Go.exit; exact rfl) | (apply Go.var2; (first | exact Nat.le_add_right _ _ | assumption); (iterate 4 decide); iterate 5 exact rfl) | (apply Go.var; (first | exact Nat.le_add_right _ _ | assumption); decide; iterate 4 exact rfl) | (apply Go.op; exact rfl; (first | exact aop_alloc | exact aop_new rfl rfl | exact aop_mksl rfl | exact aop_lenM rfl | exact rfl | exact aop_load rfl rfl rfl (Nat.le_of_ble_eq_true rfl) rfl | exact aop_store rfl rfl rfl rfl rfl rfl (Nat.le_of_ble_eq_true rfl))) | (apply Go.sop; exact rfl; (first | exact aop_lenM rfl | exact rfl)) | (apply Go.no; exact rfl) | (apply Go.sno; exact rfl) | (apply Qg.op; exact rfl; (first | exact aop_lenM rfl | exact rfl)) | (apply Qg.no; exact rfl) | (apply Go.cond true; exact rfl) | (apply Go.cond false; exact rfl) | (exfalso; omega) | ((first | (apply Go.iteD; exact rfl) | (apply Go.iteE; exact rfl) | (apply Go.iteN; exact rfl) | (apply Go.guardD; exact rfl) | (apply Go.guardE; exact rfl) | (apply Go.guardN; exact rfl) | (apply Go.sguardD; exact rfl) | (apply Go.sguardE; exact rfl) | (apply Go.sguardN; exact rfl) | (apply Qg.guardD; exact rfl) | (apply Qg.guardE; exact rfl) | (apply Qg.guardN; exact rfl)) <;> intro _) | (((first | (apply Go.guard; exact rfl) | (apply Go.sguard; exact rfl) | (apply Qg.guard; exact rfl) | (apply Go.ite; exact rfl)); fail_if_success (intro h; exact absurd h (by decide)); rotate_left; fail_if_success (intro h; exact absurd h (by decide)); rotate_right) <;> intro _)
    refine .ret rfl (.bool ?_)
    rw [selectF, hs]
    rfl
  · repeat' first | apply Go.seq | apply Go.skip | apply Go.region | apply Go.nil | apply Go.block | apply Go.blk | apply Go.draw | apply Go.segs | apply Go.qs | apply Qg.nil | (apply Go.exit; exact rfl) | (apply Go.var2; (first | exact Nat.le_add_right _ _ | assumption); (iterate 4 decide); iterate 5 exact rfl) | (apply Go.var; (first | exact Nat.le_add_right _ _ | assumption); decide; iterate 4 exact rfl) | (apply Go.op; exact rfl; (first | exact aop_alloc | exact aop_new rfl rfl | exact aop_mksl rfl | exact aop_lenM rfl | exact rfl | exact aop_load rfl rfl rfl (Nat.le_of_ble_eq_true rfl) rfl | exact aop_store rfl rfl rfl rfl rfl rfl (Nat.le_of_ble_eq_true rfl))) | (apply Go.sop; exact rfl; (first | exact aop_lenM rfl | exact rfl)) | (apply Go.no; exact rfl) | (apply Go.sno; exact rfl) | (apply Qg.op; exact rfl; (first | exact aop_lenM rfl | exact rfl)) | (apply Qg.no; exact rfl) | (apply Go.cond true; exact rfl) | (apply Go.cond false; exact rfl) | ((first | (apply Go.pcall; iterate 3 exact rfl) | (apply Go.spcall; iterate 3 exact rfl) | (apply Qg.pcall; iterate 3 exact rfl)); exact l10Ok_ok s q hs hx hb hq) | (exfalso; omega) | ((first | (apply Go.iteD; exact rfl) | (apply Go.iteE; exact rfl) | (apply Go.iteN; exact rfl) | (apply Go.guardD; exact rfl) | (apply Go.guardE; exact rfl) | (apply Go.guardN; exact rfl) | (apply Go.sguardD; exact rfl) | (apply Go.sguardE; exact rfl) | (apply Go.sguardN; exact rfl) | (apply Qg.guardD; exact rfl) | (apply Qg.guardE; exact rfl) | (apply Qg.guardN; exact rfl)) <;> intro _) | (((first | (apply Go.guard; exact rfl) | (apply Go.sguard; exact rfl) | (apply Qg.guard; exact rfl) | (apply Go.ite; exact rfl)); fail_if_success (intro h; exact absurd h (by decide)); rotate_left; fail_if_success (intro h; exact absurd h (by decide)); rotate_right) <;> intro _)
    refine .ret rfl (.bool ?_)
    rw [selectF, hs]
    rfl
end Go.Proofs.YtpjfihdlbdogpaaGreat.Am

/- Triggers: the program and its reference. -/
set_option linter.unusedVariables false
set_option linter.unusedSimpArgs false
namespace Go.Proofs.YtpjfihdlbdogpaaGreat.Am

def trigAt (u v : Table) (x : Trigger) : Bool := whereF x.when_ (2 * u.cols.length) && (decide ((x.terms.length : Int) = v.cols.length) && termsF x.terms (2 * u.cols.length))
def trigF (s : List Table) (x : Trigger) : Bool := match tabAt s x.table, tabAt s x.into with
  | some u, some v => isIn x.event 1 3 && trigAt u v x
  | _, _ => false
def triggersF (s : List Table) (l : List Trigger) : Bool := schemaF s && (decide ((l.length : Int) ≤ 6) && !(l.any fun x => !trigF s x))
theorem wrap2 {k : Nat} (h : k ≤ 8) : IntKind.i64.wrap (2 * (k : Int)) = 2 * k := wrap64 (by omega) (by omega)
theorem isTrigger_ok (s : List Table) (x : Trigger) (hs : schemaF s = true) (hx : s.length ≤ 34359738368) (hq : bTrigger 34359738368 x) : Pure Tryz.prog 49 [.c (.fz (s.map encTable)), .agg (encTrigger x)] (.c (.bool (trigF s x))) := by
  refine Pure.run mixed c_impl_isTrigger_ok (Nat.le_of_ble_eq_true rfl) fun σ hS hA => ?_
  clear hS hA
  obtain ⟨q1, q2, q3, q4⟩ := hq
  have c1 := TableAt_ok s x.table hx
  have c2 := TableAt_ok s x.into hx
  rcases idxA_at (p := fun u : Table => u.name == x.table) (l := s) (i := 0) (Int.le_refl _) with hi | ⟨n, hn, hi, hp⟩
  · have hno : trigF s x = false := by rw [trigF, tabAt_no hi]
    rw [hi] at c1
    repeat' first | apply Go.seq | apply Go.skip | apply Go.region | apply Go.nil | apply Go.block | apply Go.blk | apply Go.draw | apply Go.segs | apply Go.qs | apply Qg.nil | (apply Go.exit; exact rfl) | (apply Go.var2; (first | exact Nat.le_add_right _ _ | assumption); (iterate 4 decide); iterate 5 exact rfl) | (apply Go.var; (first | exact Nat.le_add_right _ _ | assumption); decide; iterate 4 exact rfl) | (apply Go.op; exact rfl; (first | exact aop_alloc | exact aop_new rfl rfl | exact aop_mksl rfl | exact aop_lenM rfl | exact rfl | exact aop_load rfl rfl rfl (Nat.le_of_ble_eq_true rfl) rfl | exact aop_store rfl rfl rfl rfl rfl rfl (Nat.le_of_ble_eq_true rfl))) | (apply Go.sop; exact rfl; (first | exact aop_lenM rfl | exact rfl)) | (apply Go.no; exact rfl) | (apply Go.sno; exact rfl) | (apply Qg.op; exact rfl; (first | exact aop_lenM rfl | exact rfl)) | (apply Qg.no; exact rfl) | (apply Go.cond true; exact rfl) | (apply Go.cond false; exact rfl) | ((first | (apply Go.pcall; iterate 3 exact rfl) | (apply Go.spcall; iterate 3 exact rfl) | (apply Qg.pcall; iterate 3 exact rfl)); exact c1) | ((first | (apply Go.pcallI; iterate 3 exact rfl) | (apply Go.spcallI; iterate 3 exact rfl) | (apply Qg.pcallI; iterate 3 exact rfl)); exact c2; intro _ _) | (exfalso; omega) | ((first | (apply Go.iteD; exact rfl) | (apply Go.iteE; exact rfl) | (apply Go.iteN; exact rfl) | (apply Go.guardD; exact rfl) | (apply Go.guardE; exact rfl) | (apply Go.guardN; exact rfl) | (apply Go.sguardD; exact rfl) | (apply Go.sguardE; exact rfl) | (apply Go.sguardN; exact rfl) | (apply Qg.guardD; exact rfl) | (apply Qg.guardE; exact rfl) | (apply Qg.guardN; exact rfl)) <;> intro _) | (((first | (apply Go.guard; exact rfl) | (apply Go.sguard; exact rfl) | (apply Qg.guard; exact rfl) | (apply Go.ite; exact rfl)); fail_if_success (intro h; exact absurd h (by decide)); rotate_left; fail_if_success (intro h; exact absurd h (by decide)); rotate_right) <;> intro _)
    exact .ret rfl (.bool hno.symm)
  rw [Int.zero_add] at hi
  have hyes := tabAt_yes hi hn
  have hnz : ¬ ((n : Int) < 0) := by omega
  rw [hi] at c1
  rcases idxA_at (p := fun u : Table => u.name == x.into) (l := s) (i := 0) (Int.le_refl _) with hj | ⟨m, hm, hj, hr⟩
  · have hno : trigF s x = false := by rw [trigF, tabAt_no hj, hyes]
    rw [hj] at c2
    repeat' first | apply Go.seq | apply Go.skip | apply Go.region | apply Go.nil | apply Go.block | apply Go.blk | apply Go.draw | apply Go.segs | apply Go.qs | apply Qg.nil | (apply Go.exit; exact rfl) | (apply Go.var2; (first | exact Nat.le_add_right _ _ | assumption); (iterate 4 decide); iterate 5 exact rfl) | (apply Go.var; (first | exact Nat.le_add_right _ _ | assumption); decide; iterate 4 exact rfl) | (apply Go.op; exact rfl; (first | exact aop_alloc | exact aop_new rfl rfl | exact aop_mksl rfl | exact aop_lenM rfl | exact rfl | exact aop_load rfl rfl rfl (Nat.le_of_ble_eq_true rfl) rfl | exact aop_store rfl rfl rfl rfl rfl rfl (Nat.le_of_ble_eq_true rfl))) | (apply Go.sop; exact rfl; (first | exact aop_lenM rfl | exact rfl)) | (apply Go.no; exact rfl) | (apply Go.sno; exact rfl) | (apply Qg.op; exact rfl; (first | exact aop_lenM rfl | exact rfl)) | (apply Qg.no; exact rfl) | (apply Go.cond true; exact rfl) | (apply Go.cond false; exact rfl) | ((first | (apply Go.pcall; iterate 3 exact rfl) | (apply Go.spcall; iterate 3 exact rfl) | (apply Qg.pcall; iterate 3 exact rfl)); (first | exact c1 | exact c2)) | (exfalso; omega) | ((first | (apply Go.iteD; exact rfl) | (apply Go.iteE; exact rfl) | (apply Go.iteN; exact rfl) | (apply Go.guardD; exact rfl) | (apply Go.guardE; exact rfl) | (apply Go.guardN; exact rfl) | (apply Go.sguardD; exact rfl) | (apply Go.sguardE; exact rfl) | (apply Go.sguardN; exact rfl) | (apply Qg.guardD; exact rfl) | (apply Qg.guardE; exact rfl) | (apply Qg.guardN; exact rfl)) <;> intro _) | (((first | (apply Go.guard; exact rfl) | (apply Go.sguard; exact rfl) | (apply Qg.guard; exact rfl) | (apply Go.ite; exact rfl)); fail_if_success (intro h; exact absurd h (by decide)); rotate_left; fail_if_success (intro h; exact absurd h (by decide)); rotate_right) <;> intro _)
    all_goals exact .ret rfl (.bool hno.symm)
  rw [Int.zero_add] at hj
  have hyes2 := tabAt_yes hj hm
  have hmz : ¬ ((m : Int) < 0) := by omega
  rw [hj] at c2
  have hc := schemaF_cols hs _ (List.getElem_mem hn)
  have hw := wrap2 hc.2
  have hres : trigF s x = (isIn x.event 1 3 && trigAt s[n] s[m] x) := by rw [trigF, hyes, hyes2]
  rw [hres]
  repeat' first | apply Go.seq | apply Go.skip | apply Go.region | apply Go.nil | apply Go.block | apply Go.blk | apply Go.draw | apply Go.segs | apply Go.qs | apply Qg.nil | (apply Go.exit; exact rfl) | (apply Go.var2; (first | exact Nat.le_add_right _ _ | assumption); (iterate 4 decide); iterate 5 exact rfl) | (apply Go.var; (first | exact Nat.le_add_right _ _ | assumption); decide; iterate 4 exact rfl) | (apply Go.op; exact rfl; (first | exact aop_alloc | exact aop_new rfl rfl | exact aop_mksl rfl | exact aop_lenM rfl | exact rfl | exact aop_load rfl rfl rfl (Nat.le_of_ble_eq_true rfl) rfl | exact aop_store rfl rfl rfl rfl rfl rfl (Nat.le_of_ble_eq_true rfl) | exact aop_iaddrM (enc := encTable) rfl rfl rfl hn rfl | exact aop_iaddrM (enc := encTable) rfl rfl rfl hm rfl)) | (apply Go.sop; exact rfl; (first | exact aop_lenM rfl | exact rfl | exact aop_iaddrM (enc := encTable) rfl rfl rfl hn rfl | exact aop_iaddrM (enc := encTable) rfl rfl rfl hm rfl)) | (apply Go.no; exact rfl) | (apply Go.sno; exact rfl) | (apply Qg.op; exact rfl; (first | exact aop_lenM rfl | exact rfl | exact aop_iaddrM (enc := encTable) rfl rfl rfl hn rfl | exact aop_iaddrM (enc := encTable) rfl rfl rfl hm rfl)) | (apply Qg.no; exact rfl) | (apply Go.cond true; exact rfl) | (apply Go.cond false; exact rfl) | ((first | (apply Go.pcall; iterate 3 exact rfl) | (apply Go.spcall; iterate 3 exact rfl) | (apply Qg.pcall; iterate 3 exact rfl)); (first | exact c1 | exact c2)) | ((first | (apply Go.pcallB; iterate 3 exact rfl) | (apply Go.spcallB; iterate 3 exact rfl) | (apply Qg.pcallB; iterate 3 exact rfl)); (first | exact in_ok _ _ _ | exact areTerms_ok x.terms (IntKind.i64.wrap (2 * (s[n].cols.length : Int))) q4.1 q4.2 (by omega) (by omega) | exact isWhere_ok x.when_ (IntKind.i64.wrap (2 * (s[n].cols.length : Int))) q2.1 (by omega) (by omega)); intro _ _) | (exfalso; omega) | ((first | (apply Go.iteD; exact rfl) | (apply Go.iteE; exact rfl) | (apply Go.iteN; exact rfl) | (apply Go.guardD; exact rfl) | (apply Go.guardE; exact rfl) | (apply Go.guardN; exact rfl) | (apply Go.sguardD; exact rfl) | (apply Go.sguardE; exact rfl) | (apply Go.sguardN; exact rfl) | (apply Qg.guardD; exact rfl) | (apply Qg.guardE; exact rfl) | (apply Qg.guardN; exact rfl)) <;> intro _) | (((first | (apply Go.guard; exact rfl) | (apply Go.sguard; exact rfl) | (apply Qg.guard; exact rfl) | (apply Go.ite; exact rfl)); fail_if_success (intro h; exact absurd h (by decide)); rotate_left; fail_if_success (intro h; exact absurd h (by decide)); rotate_right) <;> intro _)
  · rename_i b p k
    refine .ret rfl (.bool ?_)
    rw [nbT p k]
    rfl
  all_goals refine .ret rfl (.bool ?_)
  all_goals rw [trigAt, ← hw]
  all_goals clear c1 c2
  all_goals simp_all
theorem TriggersOk1_ok (s : List Table) (x : Trigger) (hs : schemaF s = true) (hx : s.length ≤ 34359738368) (hq : bTrigger 34359738368 x) : Pure Tryz.prog 48 [.agg (encTrigger x), .c (.fp [.fz (s.map encTable)])] (.c (.bool (!trigF s x))) := by
  refine Pure.run mixed c_impl_TriggersOk_1_ok (Nat.le_of_ble_eq_true rfl) fun σ hS hA => ?_
  clear hS hA
  repeat' first | apply Go.seq | apply Go.skip | apply Go.region | apply Go.nil | apply Go.block | apply Go.blk | apply Go.draw | apply Go.segs | apply Go.qs | apply Qg.nil | (apply Go.exit; exact rfl) | (apply Go.var2; (first | exact Nat.le_add_right _ _ | assumption); (iterate 4 decide); iterate 5 exact rfl) | (apply Go.var; (first | exact Nat.le_add_right _ _ | assumption); decide; iterate 4 exact rfl) | (apply Go.op; exact rfl; (first | exact aop_alloc | exact aop_new rfl rfl | exact aop_mksl rfl | exact aop_lenM rfl | exact rfl | exact aop_load rfl rfl rfl (Nat.le_of_ble_eq_true rfl) rfl | exact aop_store rfl rfl rfl rfl rfl rfl (Nat.le_of_ble_eq_true rfl))) | (apply Go.sop; exact rfl; (first | exact aop_lenM rfl | exact rfl)) | (apply Go.no; exact rfl) | (apply Go.sno; exact rfl) | (apply Qg.op; exact rfl; (first | exact aop_lenM rfl | exact rfl)) | (apply Qg.no; exact rfl) | (apply Go.cond true; exact rfl) | (apply Go.cond false; exact rfl) | ((first | (apply Go.pcall; iterate 3 exact rfl) | (apply Go.spcall; iterate 3 exact rfl) | (apply Qg.pcall; iterate 3 exact rfl)); exact isTrigger_ok s x hs hx hq) | (exfalso; omega) | ((first | (apply Go.iteD; exact rfl) | (apply Go.iteE; exact rfl) | (apply Go.iteN; exact rfl) | (apply Go.guardD; exact rfl) | (apply Go.guardE; exact rfl) | (apply Go.guardN; exact rfl) | (apply Go.sguardD; exact rfl) | (apply Go.sguardE; exact rfl) | (apply Go.sguardN; exact rfl) | (apply Qg.guardD; exact rfl) | (apply Qg.guardE; exact rfl) | (apply Qg.guardN; exact rfl)) <;> intro _) | (((first | (apply Go.guard; exact rfl) | (apply Go.sguard; exact rfl) | (apply Qg.guard; exact rfl) | (apply Go.ite; exact rfl)); fail_if_success (intro h; exact absurd h (by decide)); rotate_left; fail_if_success (intro h; exact absurd h (by decide)); rotate_right) <;> intro _)
  exact .ret rfl (.bool rfl)
theorem TriggersOk_ok (s : List Table) (l : List Trigger) (hx : s.length ≤ 34359738368) (hb : ∀ t ∈ s, bTable 34359738368 t) (hl : l.length ≤ 34359738368) (hq : ∀ x ∈ l, bTrigger 34359738368 x) : Pure Tryz.prog 17 [.c (.fz (s.map encTable)), .c (.fz (l.map encTrigger))] (.c (.bool (triggersF s l))) := by
  refine Pure.run mixed c_impl_TriggersOk_ok (Nat.le_of_ble_eq_true rfl) fun σ hS hA => ?_
  clear hS hA
  have c1 := SchemaOk_ok s hx hb
  cases hs : schemaF s
  · rw [hs] at c1
    repeat' first | apply Go.seq | apply Go.skip | apply Go.region | apply Go.nil | apply Go.block | apply Go.blk | apply Go.draw | apply Go.segs | apply Go.qs | apply Qg.nil | (apply Go.exit; exact rfl) | (apply Go.var2; (first | exact Nat.le_add_right _ _ | assumption); (iterate 4 decide); iterate 5 exact rfl) | (apply Go.var; (first | exact Nat.le_add_right _ _ | assumption); decide; iterate 4 exact rfl) | (apply Go.op; exact rfl; (first | exact aop_alloc | exact aop_new rfl rfl | exact aop_mksl rfl | exact aop_lenM rfl | exact rfl | exact aop_load rfl rfl rfl (Nat.le_of_ble_eq_true rfl) rfl | exact aop_store rfl rfl rfl rfl rfl rfl (Nat.le_of_ble_eq_true rfl))) | (apply Go.sop; exact rfl; (first | exact aop_lenM rfl | exact rfl)) | (apply Go.no; exact rfl) | (apply Go.sno; exact rfl) | (apply Qg.op; exact rfl; (first | exact aop_lenM rfl | exact rfl)) | (apply Qg.no; exact rfl) | (apply Go.cond true; exact rfl) | (apply Go.cond false; exact rfl) | ((first | (apply Go.pcall; iterate 3 exact rfl) | (apply Go.spcall; iterate 3 exact rfl) | (apply Qg.pcall; iterate 3 exact rfl)); exact c1) | (exfalso; omega) | ((first | (apply Go.iteD; exact rfl) | (apply Go.iteE; exact rfl) | (apply Go.iteN; exact rfl) | (apply Go.guardD; exact rfl) | (apply Go.guardE; exact rfl) | (apply Go.guardN; exact rfl) | (apply Go.sguardD; exact rfl) | (apply Go.sguardE; exact rfl) | (apply Go.sguardN; exact rfl) | (apply Qg.guardD; exact rfl) | (apply Qg.guardE; exact rfl) | (apply Qg.guardN; exact rfl)) <;> intro _) | (((first | (apply Go.guard; exact rfl) | (apply Go.sguard; exact rfl) | (apply Qg.guard; exact rfl) | (apply Go.ite; exact rfl)); fail_if_success (intro h; exact absurd h (by decide)); rotate_left; fail_if_success (intro h; exact absurd h (by decide)); rotate_right) <;> intro _)
    refine .ret rfl (.bool ?_)
    rw [triggersF, hs]
    rfl
  rw [hs] at c1
  repeat' first | apply Go.seq | apply Go.skip | apply Go.region | apply Go.nil | apply Go.block | apply Go.blk | apply Go.draw | apply Go.segs | apply Go.qs | apply Qg.nil | (apply Go.exit; exact rfl) | (apply Go.var2; (first | exact Nat.le_add_right _ _ | assumption); (iterate 4 decide); iterate 5 exact rfl) | (apply Go.var; (first | exact Nat.le_add_right _ _ | assumption); decide; iterate 4 exact rfl) | (apply Go.op; exact rfl; (first | exact aop_alloc | exact aop_new rfl rfl | exact aop_mksl rfl | exact aop_lenM rfl | exact rfl | exact aop_load rfl rfl rfl (Nat.le_of_ble_eq_true rfl) rfl | exact aop_store rfl rfl rfl rfl rfl rfl (Nat.le_of_ble_eq_true rfl))) | (apply Go.sop; exact rfl; (first | exact aop_lenM rfl | exact rfl)) | (apply Go.no; exact rfl) | (apply Go.sno; exact rfl) | (apply Qg.op; exact rfl; (first | exact aop_lenM rfl | exact rfl)) | (apply Qg.no; exact rfl) | (apply Go.cond true; exact rfl) | (apply Go.cond false; exact rfl) | ((first | (apply Go.pcall; iterate 3 exact rfl) | (apply Go.spcall; iterate 3 exact rfl) | (apply Qg.pcall; iterate 3 exact rfl)); exact c1) | ((first | (apply Go.pcallB; iterate 3 exact rfl) | (apply Go.spcallB; iterate 3 exact rfl) | (apply Qg.pcallB; iterate 3 exact rfl)); exact containsFuncA_ok mixed c_slices_ContainsFunc_Trigger_ok c_slices_IndexFunc_Trigger_ok encTrigger (fun u => .agg (encTrigger u)) (fun _ => rfl) (fun _ => rfl) l (fun x => !trigF s x) _ [] [.fp [.fz (s.map encTable)]] hl (fun j hj _ => TriggersOk1_ok s _ hs hx (hq _ (List.getElem_mem hj))); intro _ _) | (exfalso; omega) | ((first | (apply Go.iteD; exact rfl) | (apply Go.iteE; exact rfl) | (apply Go.iteN; exact rfl) | (apply Go.guardD; exact rfl) | (apply Go.guardE; exact rfl) | (apply Go.guardN; exact rfl) | (apply Go.sguardD; exact rfl) | (apply Go.sguardE; exact rfl) | (apply Go.sguardN; exact rfl) | (apply Qg.guardD; exact rfl) | (apply Qg.guardE; exact rfl) | (apply Qg.guardN; exact rfl)) <;> intro _) | (((first | (apply Go.guard; exact rfl) | (apply Go.sguard; exact rfl) | (apply Qg.guard; exact rfl) | (apply Go.ite; exact rfl)); fail_if_success (intro h; exact absurd h (by decide)); rotate_left; fail_if_success (intro h; exact absurd h (by decide)); rotate_right) <;> intro _)
  all_goals refine .ret rfl (.bool ?_)
  all_goals rw [triggersF, hs]
  all_goals clear c1
  · rename_i h b hb
    rw [decide_eq_true (by omega), hb]
    simp
  · rw [decide_eq_false (by omega)]
    rfl
theorem l8One_ok (s : List Table) (x : Trigger) (hs : schemaF s = true) (hx : s.length ≤ 34359738368) (hq : bTrigger 34359738368 x) : Pure Tryz.prog 45 [.c (.fz (s.map encTable)), .agg (encTrigger x)] (.c (.bool (trigF s x))) := by
  refine Pure.run mixed c_spec_l8One_ok (Nat.le_of_ble_eq_true rfl) fun σ hS hA => ?_
  clear hS hA
  obtain ⟨q1, q2, q3, q4⟩ := hq
  have c1 := l3At_ok s x.table hx
  have c2 := l3At_ok s x.into hx
  rcases idxA_at (p := fun u : Table => u.name == x.table) (l := s) (i := 0) (Int.le_refl _) with hi | ⟨n, hn, hi, hp⟩
  · have hno : trigF s x = false := by rw [trigF, tabAt_no hi]
    rw [hi] at c1
    repeat' first | apply Go.seq | apply Go.skip | apply Go.region | apply Go.nil | apply Go.block | apply Go.blk | apply Go.draw | apply Go.segs | apply Go.qs | apply Qg.nil | (apply Go.exit; exact rfl) | (apply Go.var2; (first | exact Nat.le_add_right _ _ | assumption); (iterate 4 decide); iterate 5 exact rfl) | (apply Go.var; (first | exact Nat.le_add_right _ _ | assumption); decide; iterate 4 exact rfl) | (apply Go.op; exact rfl; (first | exact aop_alloc | exact aop_new rfl rfl | exact aop_mksl rfl | exact aop_lenM rfl | exact rfl | exact aop_load rfl rfl rfl (Nat.le_of_ble_eq_true rfl) rfl | exact aop_store rfl rfl rfl rfl rfl rfl (Nat.le_of_ble_eq_true rfl))) | (apply Go.sop; exact rfl; (first | exact aop_lenM rfl | exact rfl)) | (apply Go.no; exact rfl) | (apply Go.sno; exact rfl) | (apply Qg.op; exact rfl; (first | exact aop_lenM rfl | exact rfl)) | (apply Qg.no; exact rfl) | (apply Go.cond true; exact rfl) | (apply Go.cond false; exact rfl) | ((first | (apply Go.pcall; iterate 3 exact rfl) | (apply Go.spcall; iterate 3 exact rfl) | (apply Qg.pcall; iterate 3 exact rfl)); exact c1) | ((first | (apply Go.pcallI; iterate 3 exact rfl) | (apply Go.spcallI; iterate 3 exact rfl) | (apply Qg.pcallI; iterate 3 exact rfl)); exact c2; intro _ _) | (exfalso; omega) | ((first | (apply Go.iteD; exact rfl) | (apply Go.iteE; exact rfl) | (apply Go.iteN; exact rfl) | (apply Go.guardD; exact rfl) | (apply Go.guardE; exact rfl) | (apply Go.guardN; exact rfl) | (apply Go.sguardD; exact rfl) | (apply Go.sguardE; exact rfl) | (apply Go.sguardN; exact rfl) | (apply Qg.guardD; exact rfl) | (apply Qg.guardE; exact rfl) | (apply Qg.guardN; exact rfl)) <;> intro _) | (((first | (apply Go.guard; exact rfl) | (apply Go.sguard; exact rfl) | (apply Qg.guard; exact rfl) | (apply Go.ite; exact rfl)); fail_if_success (intro h; exact absurd h (by decide)); rotate_left; fail_if_success (intro h; exact absurd h (by decide)); rotate_right) <;> intro _)
    exact .ret rfl (.bool hno.symm)
  rw [Int.zero_add] at hi
  have hyes := tabAt_yes hi hn
  have hnz : ¬ ((n : Int) < 0) := by omega
  rw [hi] at c1
  rcases idxA_at (p := fun u : Table => u.name == x.into) (l := s) (i := 0) (Int.le_refl _) with hj | ⟨m, hm, hj, hr⟩
  · have hno : trigF s x = false := by rw [trigF, tabAt_no hj, hyes]
    rw [hj] at c2
    repeat' first | apply Go.seq | apply Go.skip | apply Go.region | apply Go.nil | apply Go.block | apply Go.blk | apply Go.draw | apply Go.segs | apply Go.qs | apply Qg.nil | (apply Go.exit; exact rfl) | (apply Go.var2; (first | exact Nat.le_add_right _ _ | assumption); (iterate 4 decide); iterate 5 exact rfl) | (apply Go.var; (first | exact Nat.le_add_right _ _ | assumption); decide; iterate 4 exact rfl) | (apply Go.op; exact rfl; (first | exact aop_alloc | exact aop_new rfl rfl | exact aop_mksl rfl | exact aop_lenM rfl | exact rfl | exact aop_load rfl rfl rfl (Nat.le_of_ble_eq_true rfl) rfl | exact aop_store rfl rfl rfl rfl rfl rfl (Nat.le_of_ble_eq_true rfl))) | (apply Go.sop; exact rfl; (first | exact aop_lenM rfl | exact rfl)) | (apply Go.no; exact rfl) | (apply Go.sno; exact rfl) | (apply Qg.op; exact rfl; (first | exact aop_lenM rfl | exact rfl)) | (apply Qg.no; exact rfl) | (apply Go.cond true; exact rfl) | (apply Go.cond false; exact rfl) | ((first | (apply Go.pcall; iterate 3 exact rfl) | (apply Go.spcall; iterate 3 exact rfl) | (apply Qg.pcall; iterate 3 exact rfl)); (first | exact c1 | exact c2)) | (exfalso; omega) | ((first | (apply Go.iteD; exact rfl) | (apply Go.iteE; exact rfl) | (apply Go.iteN; exact rfl) | (apply Go.guardD; exact rfl) | (apply Go.guardE; exact rfl) | (apply Go.guardN; exact rfl) | (apply Go.sguardD; exact rfl) | (apply Go.sguardE; exact rfl) | (apply Go.sguardN; exact rfl) | (apply Qg.guardD; exact rfl) | (apply Qg.guardE; exact rfl) | (apply Qg.guardN; exact rfl)) <;> intro _) | (((first | (apply Go.guard; exact rfl) | (apply Go.sguard; exact rfl) | (apply Qg.guard; exact rfl) | (apply Go.ite; exact rfl)); fail_if_success (intro h; exact absurd h (by decide)); rotate_left; fail_if_success (intro h; exact absurd h (by decide)); rotate_right) <;> intro _)
    all_goals exact .ret rfl (.bool hno.symm)
  rw [Int.zero_add] at hj
  have hyes2 := tabAt_yes hj hm
  have hmz : ¬ ((m : Int) < 0) := by omega
  rw [hj] at c2
  have hc := schemaF_cols hs _ (List.getElem_mem hn)
  have hw := wrap2 hc.2
  have hres : trigF s x = (isIn x.event 1 3 && trigAt s[n] s[m] x) := by rw [trigF, hyes, hyes2]
  rw [hres]
  repeat' first | apply Go.seq | apply Go.skip | apply Go.region | apply Go.nil | apply Go.block | apply Go.blk | apply Go.draw | apply Go.segs | apply Go.qs | apply Qg.nil | (apply Go.exit; exact rfl) | (apply Go.var2; (first | exact Nat.le_add_right _ _ | assumption); (iterate 4 decide); iterate 5 exact rfl) | (apply Go.var; (first | exact Nat.le_add_right _ _ | assumption); decide; iterate 4 exact rfl) | (apply Go.op; exact rfl; (first | exact aop_alloc | exact aop_new rfl rfl | exact aop_mksl rfl | exact aop_lenM rfl | exact rfl | exact aop_load rfl rfl rfl (Nat.le_of_ble_eq_true rfl) rfl | exact aop_store rfl rfl rfl rfl rfl rfl (Nat.le_of_ble_eq_true rfl) | exact aop_iaddrM (enc := encTable) rfl rfl rfl hn rfl | exact aop_iaddrM (enc := encTable) rfl rfl rfl hm rfl)) | (apply Go.sop; exact rfl; (first | exact aop_lenM rfl | exact rfl | exact aop_iaddrM (enc := encTable) rfl rfl rfl hn rfl | exact aop_iaddrM (enc := encTable) rfl rfl rfl hm rfl)) | (apply Go.no; exact rfl) | (apply Go.sno; exact rfl) | (apply Qg.op; exact rfl; (first | exact aop_lenM rfl | exact rfl | exact aop_iaddrM (enc := encTable) rfl rfl rfl hn rfl | exact aop_iaddrM (enc := encTable) rfl rfl rfl hm rfl)) | (apply Qg.no; exact rfl) | (apply Go.cond true; exact rfl) | (apply Go.cond false; exact rfl) | ((first | (apply Go.pcall; iterate 3 exact rfl) | (apply Go.spcall; iterate 3 exact rfl) | (apply Qg.pcall; iterate 3 exact rfl)); (first | exact c1 | exact c2)) | ((first | (apply Go.pcallB; iterate 3 exact rfl) | (apply Go.spcallB; iterate 3 exact rfl) | (apply Qg.pcallB; iterate 3 exact rfl)); exact l1In_ok _ _ _; intro _ _) | (exfalso; omega) | ((first | (apply Go.iteD; exact rfl) | (apply Go.iteE; exact rfl) | (apply Go.iteN; exact rfl) | (apply Go.guardD; exact rfl) | (apply Go.guardE; exact rfl) | (apply Go.guardN; exact rfl) | (apply Go.sguardD; exact rfl) | (apply Go.sguardE; exact rfl) | (apply Go.sguardN; exact rfl) | (apply Qg.guardD; exact rfl) | (apply Qg.guardE; exact rfl) | (apply Qg.guardN; exact rfl)) <;> intro _) | (((first | (apply Go.guard; exact rfl) | (apply Go.sguard; exact rfl) | (apply Qg.guard; exact rfl) | (apply Go.ite; exact rfl)); fail_if_success (intro h; exact absurd h (by decide)); rotate_left; fail_if_success (intro h; exact absurd h (by decide)); rotate_right) <;> intro _)
  · rename_i b p k
    refine .ret rfl (.bool ?_)
    rw [nbT p k]
    rfl
  · rename_i b p k h
    refine .ret rfl (.bool ?_)
    rw [trigAt, decide_eq_false h]
    simp
  rename_i b p k hlen
  have hlen : (x.terms.length : Int) = s[m].cols.length := by omega
  have hres2 : (isIn x.event 1 3 && trigAt s[n] s[m] x) = (whereF x.when_ (IntKind.i64.wrap (2 * s[n].cols.length)) && termsF x.terms (IntKind.i64.wrap (2 * s[n].cols.length))) := by
    rw [nbF p k, trigAt, decide_eq_true hlen, hw]
    simp
  rw [hres2]
  clear hres hres2 p hyes hyes2 hi hj hp hr c1 c2 hlen hnz hmz
  have hex : ∀ e : List Tok, e.length ≤ 34359738368 → Pure Tryz.prog 72 [.c (.fz (e.map encTok)), .c (.int .i64 (IntKind.i64.wrap (2 * s[n].cols.length)))] (.c (.bool (exprF e (IntKind.i64.wrap (2 * s[n].cols.length))))) := fun e he => l2Expr_ok e _ he (by omega) (by omega)
  clear k
  refine Go.keep [3, 7, 8] (Go.loops (I := fun m fr τ => ∃ i : Nat, ∃ k : Int, m = x.terms.length - i ∧ i ≤ x.terms.length ∧ k = i ∧ (∀ j (hj : j < x.terms.length), j < i → exprF x.terms[j].expr (IntKind.i64.wrap (2 * s[n].cols.length)) = true) ∧
    fr = [(3, .c (.fp (encTrigger x))), (7, .c (.int .i64 (IntKind.i64.wrap (2 * s[n].cols.length)))), (8, .c (.int .i64 k))] ∧ τ = E σ []) ?_ _ _ _ ⟨0, _, rfl, Nat.zero_le _, rfl, fun j _ h => absurd h (by omega), rfl, rfl⟩)
  rintro m' fr τ ⟨i, k, rfl, hi2, hk, hall, rfl, rfl⟩ hrec
  generalize IntKind.i64.wrap (2 * (s[n].cols.length : Int)) = W at hex hall hrec ⊢
  by_cases hlt : i < x.terms.length
  · repeat' first | apply Go.seq | apply Go.skip | apply Go.region | apply Go.nil | apply Go.block | apply Go.blk | apply Go.draw | apply Go.segs | apply Go.qs | apply Qg.nil | (apply Go.exit; exact rfl) | (apply Go.var2; (first | exact Nat.le_add_right _ _ | assumption); (iterate 4 decide); iterate 5 exact rfl) | (apply Go.var; (first | exact Nat.le_add_right _ _ | assumption); decide; iterate 4 exact rfl) | (apply Go.op; exact rfl; (first | exact aop_alloc | exact aop_new rfl rfl | exact aop_mksl rfl | exact aop_lenM rfl | exact rfl | exact aop_load rfl rfl rfl (Nat.le_of_ble_eq_true rfl) rfl | exact aop_store rfl rfl rfl rfl rfl rfl (Nat.le_of_ble_eq_true rfl) | exact aop_iaddrM (enc := encTerm) rfl rfl hk hlt rfl)) | (apply Go.sop; exact rfl; (first | exact aop_lenM rfl | exact rfl | exact aop_iaddrM (enc := encTerm) rfl rfl hk hlt rfl)) | (apply Go.no; exact rfl) | (apply Go.sno; exact rfl) | (apply Qg.op; exact rfl; (first | exact aop_lenM rfl | exact rfl | exact aop_iaddrM (enc := encTerm) rfl rfl hk hlt rfl)) | (apply Qg.no; exact rfl) | (apply Go.cond true; exact rfl) | (apply Go.cond false; exact rfl) | ((first | (apply Go.pcallB; iterate 3 exact rfl) | (apply Go.spcallB; iterate 3 exact rfl) | (apply Qg.pcallB; iterate 3 exact rfl)); exact hex x.terms[i].expr (q4.2 _ (List.getElem_mem hlt)).1; intro _ _) | (exfalso; omega) | ((first | (apply Go.iteD; exact rfl) | (apply Go.iteE; exact rfl) | (apply Go.iteN; exact rfl) | (apply Go.guardD; exact rfl) | (apply Go.guardE; exact rfl) | (apply Go.guardN; exact rfl) | (apply Go.sguardD; exact rfl) | (apply Go.sguardE; exact rfl) | (apply Go.sguardN; exact rfl) | (apply Qg.guardD; exact rfl) | (apply Qg.guardE; exact rfl) | (apply Qg.guardN; exact rfl)) <;> intro _) | (((first | (apply Go.guard; exact rfl) | (apply Go.sguard; exact rfl) | (apply Qg.guard; exact rfl) | (apply Go.ite; exact rfl)); fail_if_success (intro h; exact absurd h (by decide)); rotate_left; fail_if_success (intro h; exact absurd h (by decide)); rotate_right) <;> intro _)
    · rename_i c p k4
      refine .ret rfl (.bool ?_)
      rw [termsF, any_at (p := fun x : Term => exprF x.expr W) hlt (nbT p k4)]
      simp
    · rename_i c p k4
      exact Go.keep [3, 7, 8] (hrec _ _ _ (by omega) ⟨i + 1, _, rfl, hlt, wrap_succ hk (by omega), upto (p := fun x : Term => exprF x.expr W) hall hlt (nbF p k4), rfl, rfl⟩)
  have hterms := any_none (p := fun x : Term => exprF x.expr W) (l := x.terms) fun j hj => hall j hj (by omega)
  clear hrec hall
  rw [termsF, hterms]
  repeat' first | apply Go.seq | apply Go.skip | apply Go.region | apply Go.nil | apply Go.block | apply Go.blk | apply Go.draw | apply Go.segs | apply Go.qs | apply Qg.nil | (apply Go.exit; exact rfl) | (apply Go.var2; (first | exact Nat.le_add_right _ _ | assumption); (iterate 4 decide); iterate 5 exact rfl) | (apply Go.var; (first | exact Nat.le_add_right _ _ | assumption); decide; iterate 4 exact rfl) | (apply Go.op; exact rfl; (first | exact aop_alloc | exact aop_new rfl rfl | exact aop_mksl rfl | exact aop_lenM rfl | exact rfl | exact aop_load rfl rfl rfl (Nat.le_of_ble_eq_true rfl) rfl | exact aop_store rfl rfl rfl rfl rfl rfl (Nat.le_of_ble_eq_true rfl))) | (apply Go.sop; exact rfl; (first | exact aop_lenM rfl | exact rfl)) | (apply Go.no; exact rfl) | (apply Go.sno; exact rfl) | (apply Qg.op; exact rfl; (first | exact aop_lenM rfl | exact rfl)) | (apply Qg.no; exact rfl) | (apply Go.cond true; exact rfl) | (apply Go.cond false; exact rfl) | ((first | (apply Go.pcallB; iterate 3 exact rfl) | (apply Go.spcallB; iterate 3 exact rfl) | (apply Qg.pcallB; iterate 3 exact rfl)); exact hex x.when_ q2.1; intro _ _) | (exfalso; omega) | ((first | (apply Go.iteD; exact rfl) | (apply Go.iteE; exact rfl) | (apply Go.iteN; exact rfl) | (apply Go.guardD; exact rfl) | (apply Go.guardE; exact rfl) | (apply Go.guardN; exact rfl) | (apply Go.sguardD; exact rfl) | (apply Go.sguardE; exact rfl) | (apply Go.sguardN; exact rfl) | (apply Qg.guardD; exact rfl) | (apply Qg.guardE; exact rfl) | (apply Qg.guardN; exact rfl)) <;> intro _) | (((first | (apply Go.guard; exact rfl) | (apply Go.sguard; exact rfl) | (apply Qg.guard; exact rfl) | (apply Go.ite; exact rfl)); fail_if_success (intro h; exact absurd h (by decide)); rotate_left; fail_if_success (intro h; exact absurd h (by decide)); rotate_right) <;> intro _)
  all_goals refine .ret rfl (.bool ?_)
  · rename_i h
    rw [whereF, h]
    rfl
  · rename_i h b hb
    rw [whereF, hb, beq_eq_false_iff_ne.2 h]
    simp
theorem sTriggersOk_ok (s : List Table) (l : List Trigger) (hx : s.length ≤ 34359738368) (hb : ∀ t ∈ s, bTable 34359738368 t) (hl : l.length ≤ 34359738368) (hq : ∀ x ∈ l, bTrigger 34359738368 x) : Pure Tryz.prog 15 [.c (.fz (s.map encTable)), .c (.fz (l.map encTrigger))] (.c (.bool (triggersF s l))) := by
  refine Pure.run mixed c_spec_TriggersOk_ok (Nat.le_of_ble_eq_true rfl) fun σ hS hA => ?_
  clear hS hA
  have c1 := sSchemaOk_ok s hx hb
  cases hs : schemaF s
  · rw [hs] at c1
    repeat' first | apply Go.seq | apply Go.skip | apply Go.region | apply Go.nil | apply Go.block | apply Go.blk | apply Go.draw | apply Go.segs | apply Go.qs | apply Qg.nil | (apply Go.exit; exact rfl) | (apply Go.var2; (first | exact Nat.le_add_right _ _ | assumption); (iterate 4 decide); iterate 5 exact rfl) | (apply Go.var; (first | exact Nat.le_add_right _ _ | assumption); decide; iterate 4 exact rfl) | (apply Go.op; exact rfl; (first | exact aop_alloc | exact aop_new rfl rfl | exact aop_mksl rfl | exact aop_lenM rfl | exact rfl | exact aop_load rfl rfl rfl (Nat.le_of_ble_eq_true rfl) rfl | exact aop_store rfl rfl rfl rfl rfl rfl (Nat.le_of_ble_eq_true rfl))) | (apply Go.sop; exact rfl; (first | exact aop_lenM rfl | exact rfl)) | (apply Go.no; exact rfl) | (apply Go.sno; exact rfl) | (apply Qg.op; exact rfl; (first | exact aop_lenM rfl | exact rfl)) | (apply Qg.no; exact rfl) | (apply Go.cond true; exact rfl) | (apply Go.cond false; exact rfl) | (exfalso; omega) | ((first | (apply Go.iteD; exact rfl) | (apply Go.iteE; exact rfl) | (apply Go.iteN; exact rfl) | (apply Go.guardD; exact rfl) | (apply Go.guardE; exact rfl) | (apply Go.guardN; exact rfl) | (apply Go.sguardD; exact rfl) | (apply Go.sguardE; exact rfl) | (apply Go.sguardN; exact rfl) | (apply Qg.guardD; exact rfl) | (apply Qg.guardE; exact rfl) | (apply Qg.guardN; exact rfl)) <;> intro _) | (((first | (apply Go.guard; exact rfl) | (apply Go.sguard; exact rfl) | (apply Qg.guard; exact rfl) | (apply Go.ite; exact rfl)); fail_if_success (intro h; exact absurd h (by decide)); rotate_left; fail_if_success (intro h; exact absurd h (by decide)); rotate_right) <;> intro _)
    refine Go.keep [0, 1, 5] (Go.loops (I := fun m fr τ => fr = [(0, .c (.fz (s.map encTable))), (1, .c (.fz (l.map encTrigger))), (5, .c (.int .i64 0))] ∧ τ = E σ []) ?_ 0 _ _ ⟨rfl, rfl⟩)
    rintro m' fr τ ⟨rfl, rfl⟩ hrec
    repeat' first | apply Go.seq | apply Go.skip | apply Go.region | apply Go.nil | apply Go.block | apply Go.blk | apply Go.draw | apply Go.segs | apply Go.qs | apply Qg.nil | (apply Go.exit; exact rfl) | (apply Go.var2; (first | exact Nat.le_add_right _ _ | assumption); (iterate 4 decide); iterate 5 exact rfl) | (apply Go.var; (first | exact Nat.le_add_right _ _ | assumption); decide; iterate 4 exact rfl) | (apply Go.op; exact rfl; (first | exact aop_alloc | exact aop_new rfl rfl | exact aop_mksl rfl | exact aop_lenM rfl | exact rfl | exact aop_load rfl rfl rfl (Nat.le_of_ble_eq_true rfl) rfl | exact aop_store rfl rfl rfl rfl rfl rfl (Nat.le_of_ble_eq_true rfl))) | (apply Go.sop; exact rfl; (first | exact aop_lenM rfl | exact rfl)) | (apply Go.no; exact rfl) | (apply Go.sno; exact rfl) | (apply Qg.op; exact rfl; (first | exact aop_lenM rfl | exact rfl)) | (apply Qg.no; exact rfl) | (apply Go.cond true; exact rfl) | (apply Go.cond false; exact rfl) | ((first | (apply Go.pcall; iterate 3 exact rfl) | (apply Go.spcall; iterate 3 exact rfl) | (apply Qg.pcall; iterate 3 exact rfl)); exact c1) | (exfalso; omega) | ((first | (apply Go.iteD; exact rfl) | (apply Go.iteE; exact rfl) | (apply Go.iteN; exact rfl) | (apply Go.guardD; exact rfl) | (apply Go.guardE; exact rfl) | (apply Go.guardN; exact rfl) | (apply Go.sguardD; exact rfl) | (apply Go.sguardE; exact rfl) | (apply Go.sguardN; exact rfl) | (apply Qg.guardD; exact rfl) | (apply Qg.guardE; exact rfl) | (apply Qg.guardN; exact rfl)) <;> intro _) | (((first | (apply Go.guard; exact rfl) | (apply Go.sguard; exact rfl) | (apply Qg.guard; exact rfl) | (apply Go.ite; exact rfl)); fail_if_success (intro h; exact absurd h (by decide)); rotate_left; fail_if_success (intro h; exact absurd h (by decide)); rotate_right) <;> intro _)
    refine .ret rfl (.bool ?_)
    rw [triggersF, hs]
    rfl
  rw [hs] at c1
  repeat' first | apply Go.seq | apply Go.skip | apply Go.region | apply Go.nil | apply Go.block | apply Go.blk | apply Go.draw | apply Go.segs | apply Go.qs | apply Qg.nil | (apply Go.exit; exact rfl) | (apply Go.var2; (first | exact Nat.le_add_right _ _ | assumption); (iterate 4 decide); iterate 5 exact rfl) | (apply Go.var; (first | exact Nat.le_add_right _ _ | assumption); decide; iterate 4 exact rfl) | (apply Go.op; exact rfl; (first | exact aop_alloc | exact aop_new rfl rfl | exact aop_mksl rfl | exact aop_lenM rfl | exact rfl | exact aop_load rfl rfl rfl (Nat.le_of_ble_eq_true rfl) rfl | exact aop_store rfl rfl rfl rfl rfl rfl (Nat.le_of_ble_eq_true rfl))) | (apply Go.sop; exact rfl; (first | exact aop_lenM rfl | exact rfl)) | (apply Go.no; exact rfl) | (apply Go.sno; exact rfl) | (apply Qg.op; exact rfl; (first | exact aop_lenM rfl | exact rfl)) | (apply Qg.no; exact rfl) | (apply Go.cond true; exact rfl) | (apply Go.cond false; exact rfl) | (exfalso; omega) | ((first | (apply Go.iteD; exact rfl) | (apply Go.iteE; exact rfl) | (apply Go.iteN; exact rfl) | (apply Go.guardD; exact rfl) | (apply Go.guardE; exact rfl) | (apply Go.guardN; exact rfl) | (apply Go.sguardD; exact rfl) | (apply Go.sguardE; exact rfl) | (apply Go.sguardN; exact rfl) | (apply Qg.guardD; exact rfl) | (apply Qg.guardE; exact rfl) | (apply Qg.guardN; exact rfl)) <;> intro _) | (((first | (apply Go.guard; exact rfl) | (apply Go.sguard; exact rfl) | (apply Qg.guard; exact rfl) | (apply Go.ite; exact rfl)); fail_if_success (intro h; exact absurd h (by decide)); rotate_left; fail_if_success (intro h; exact absurd h (by decide)); rotate_right) <;> intro _)
  refine Go.keep [0, 1, 5] (Go.loops (I := fun m fr τ => ∃ i : Nat, ∃ k : Int, m = l.length - i ∧ i ≤ l.length ∧ k = i ∧ (∀ j (hj : j < l.length), j < i → trigF s l[j] = true) ∧
    fr = [(0, .c (.fz (s.map encTable))), (1, .c (.fz (l.map encTrigger))), (5, .c (.int .i64 k))] ∧ τ = E σ []) ?_ _ _ _ ⟨0, _, rfl, Nat.zero_le _, rfl, fun j _ h => absurd h (by omega), rfl, rfl⟩)
  rintro m' fr τ ⟨i, k, rfl, hi2, hk, hall, rfl, rfl⟩ hrec
  by_cases hlt : i < l.length
  · repeat' first | apply Go.seq | apply Go.skip | apply Go.region | apply Go.nil | apply Go.block | apply Go.blk | apply Go.draw | apply Go.segs | apply Go.qs | apply Qg.nil | (apply Go.exit; exact rfl) | (apply Go.var2; (first | exact Nat.le_add_right _ _ | assumption); (iterate 4 decide); iterate 5 exact rfl) | (apply Go.var; (first | exact Nat.le_add_right _ _ | assumption); decide; iterate 4 exact rfl) | (apply Go.op; exact rfl; (first | exact aop_alloc | exact aop_new rfl rfl | exact aop_mksl rfl | exact aop_lenM rfl | exact rfl | exact aop_load rfl rfl rfl (Nat.le_of_ble_eq_true rfl) rfl | exact aop_store rfl rfl rfl rfl rfl rfl (Nat.le_of_ble_eq_true rfl) | exact aop_iaddrM (enc := encTrigger) rfl rfl hk hlt rfl)) | (apply Go.sop; exact rfl; (first | exact aop_lenM rfl | exact rfl | exact aop_iaddrM (enc := encTrigger) rfl rfl hk hlt rfl)) | (apply Go.no; exact rfl) | (apply Go.sno; exact rfl) | (apply Qg.op; exact rfl; (first | exact aop_lenM rfl | exact rfl | exact aop_iaddrM (enc := encTrigger) rfl rfl hk hlt rfl)) | (apply Qg.no; exact rfl) | (apply Go.cond true; exact rfl) | (apply Go.cond false; exact rfl) | ((first | (apply Go.pcall; iterate 3 exact rfl) | (apply Go.spcall; iterate 3 exact rfl) | (apply Qg.pcall; iterate 3 exact rfl)); exact c1) | ((first | (apply Go.pcallB; iterate 3 exact rfl) | (apply Go.spcallB; iterate 3 exact rfl) | (apply Qg.pcallB; iterate 3 exact rfl)); exact l8One_ok s l[i] hs hx (hq _ (List.getElem_mem hlt)); intro _ _) | (exfalso; omega) | ((first | (apply Go.iteD; exact rfl) | (apply Go.iteE; exact rfl) | (apply Go.iteN; exact rfl) | (apply Go.guardD; exact rfl) | (apply Go.guardE; exact rfl) | (apply Go.guardN; exact rfl) | (apply Go.sguardD; exact rfl) | (apply Go.sguardE; exact rfl) | (apply Go.sguardN; exact rfl) | (apply Qg.guardD; exact rfl) | (apply Qg.guardE; exact rfl) | (apply Qg.guardN; exact rfl)) <;> intro _) | (((first | (apply Go.guard; exact rfl) | (apply Go.sguard; exact rfl) | (apply Qg.guard; exact rfl) | (apply Go.ite; exact rfl)); fail_if_success (intro h; exact absurd h (by decide)); rotate_left; fail_if_success (intro h; exact absurd h (by decide)); rotate_right) <;> intro _)
    · rename_i c p k4
      refine .ret rfl (.bool ?_)
      rw [triggersF, any_at (p := fun x : Trigger => trigF s x) hlt (nbT p k4)]
      simp
    · rename_i c p k4
      exact Go.keep [0, 1, 5] (hrec _ _ _ (by omega) ⟨i + 1, _, rfl, hlt, wrap_succ hk (by omega), upto (p := fun x : Trigger => trigF s x) hall hlt (nbF p k4), rfl, rfl⟩)
  have hterms := any_none (p := fun x : Trigger => trigF s x) (l := l) fun j hj => hall j hj (by omega)
  clear hrec hall
  repeat' first | apply Go.seq | apply Go.skip | apply Go.region | apply Go.nil | apply Go.block | apply Go.blk | apply Go.draw | apply Go.segs | apply Go.qs | apply Qg.nil | (apply Go.exit; exact rfl) | (apply Go.var2; (first | exact Nat.le_add_right _ _ | assumption); (iterate 4 decide); iterate 5 exact rfl) | (apply Go.var; (first | exact Nat.le_add_right _ _ | assumption); decide; iterate 4 exact rfl) | (apply Go.op; exact rfl; (first | exact aop_alloc | exact aop_new rfl rfl | exact aop_mksl rfl | exact aop_lenM rfl | exact rfl | exact aop_load rfl rfl rfl (Nat.le_of_ble_eq_true rfl) rfl | exact aop_store rfl rfl rfl rfl rfl rfl (Nat.le_of_ble_eq_true rfl))) | (apply Go.sop; exact rfl; (first | exact aop_lenM rfl | exact rfl)) | (apply Go.no; exact rfl) | (apply Go.sno; exact rfl) | (apply Qg.op; exact rfl; (first | exact aop_lenM rfl | exact rfl)) | (apply Qg.no; exact rfl) | (apply Go.cond true; exact rfl) | (apply Go.cond false; exact rfl) | ((first | (apply Go.pcall; iterate 3 exact rfl) | (apply Go.spcall; iterate 3 exact rfl) | (apply Qg.pcall; iterate 3 exact rfl)); exact c1) | (exfalso; omega) | ((first | (apply Go.iteD; exact rfl) | (apply Go.iteE; exact rfl) | (apply Go.iteN; exact rfl) | (apply Go.guardD; exact rfl) | (apply Go.guardE; exact rfl) | (apply Go.guardN; exact rfl) | (apply Go.sguardD; exact rfl) | (apply Go.sguardE; exact rfl) | (apply Go.sguardN; exact rfl) | (apply Qg.guardD; exact rfl) | (apply Qg.guardE; exact rfl) | (apply Qg.guardN; exact rfl)) <;> intro _) | (((first | (apply Go.guard; exact rfl) | (apply Go.sguard; exact rfl) | (apply Qg.guard; exact rfl) | (apply Go.ite; exact rfl)); fail_if_success (intro h; exact absurd h (by decide)); rotate_left; fail_if_success (intro h; exact absurd h (by decide)); rotate_right) <;> intro _)
  refine .ret rfl (.bool ?_)
  rw [triggersF, hs, hterms]
  simp
end Go.Proofs.YtpjfihdlbdogpaaGreat.Am

/- The law FnExactTriggersOk: its function returns true. -/
set_option linter.unusedVariables false
set_option linter.unusedSimpArgs false
namespace Go.Proofs.YtpjfihdlbdogpaaGreat.Am

theorem aop_neB {fr : Fr} {σ : Store} {x y : Opd} {b : Bool} (hx : x.ev fr = some (.c (.bool b))) (hy : y.ev fr = some (.c (.bool b))) : aop (.eq true false [.b] x y) fr σ = some (.c (.bool false), σ) := by
  cases b <;> simp [aop, hx, hy, eqKs, eqK]
theorem TriggersOk_sound (s : List Table) (q : List Trigger) (hl : s.length ≤ 1125899906842624) (hv : ∀ t ∈ s, bTable 1125899906842624 t) (hm : q.length ≤ 1125899906842624) (hq : ∀ t ∈ q, bTrigger 1125899906842624 t) : Pure Tryz.prog 4 [.c (.fz (s.map encTable)), .c (.fz (q.map encTrigger))] (.c (.bool true)) := by
  refine Pure.run mixed c_laws_FnExactTriggersOk_ok (Nat.le_of_ble_eq_true rfl) fun σ hS hA => ?_
  clear hS hA
  have hz1 := szL_le zTable_le s 1048576 (by decide)
  repeat' first | apply Go.seq | apply Go.skip | apply Go.region | apply Go.nil | apply Go.block | apply Go.blk | apply Go.draw | apply Go.segs | apply Go.qs | apply Qg.nil | (apply Go.exit; exact rfl) | (apply Go.var2; (first | exact Nat.le_add_right _ _ | assumption); (iterate 4 decide); iterate 5 exact rfl) | (apply Go.var; (first | exact Nat.le_add_right _ _ | assumption); decide; iterate 4 exact rfl) | (apply Go.op; exact rfl; (first | exact aop_alloc | exact aop_new rfl rfl | exact aop_mksl rfl | exact aop_lenM rfl | exact rfl | exact aop_load rfl rfl rfl (Nat.le_of_ble_eq_true rfl) rfl | exact aop_store rfl rfl rfl rfl rfl rfl (Nat.le_of_ble_eq_true rfl))) | (apply Go.sop; exact rfl; (first | exact aop_lenM rfl | exact rfl)) | (apply Go.no; exact rfl) | (apply Go.sno; exact rfl) | (apply Qg.op; exact rfl; (first | exact aop_lenM rfl | exact rfl)) | (apply Qg.no; exact rfl) | (apply Go.cond true; exact rfl) | (apply Go.cond false; exact rfl) | ((first | (apply Go.pcallI; iterate 3 exact rfl) | (apply Go.spcallI; iterate 3 exact rfl) | (apply Qg.pcallI; iterate 3 exact rfl)); exact szTableS_ok s 1048576 hl hv (by decide) (by decide); intro _ _) | (exfalso; omega) | ((first | (apply Go.iteD; exact rfl) | (apply Go.iteE; exact rfl) | (apply Go.iteN; exact rfl) | (apply Go.guardD; exact rfl) | (apply Go.guardE; exact rfl) | (apply Go.guardN; exact rfl) | (apply Go.sguardD; exact rfl) | (apply Go.sguardE; exact rfl) | (apply Go.sguardN; exact rfl) | (apply Qg.guardD; exact rfl) | (apply Qg.guardE; exact rfl) | (apply Qg.guardN; exact rfl)) <;> intro _) | (((first | (apply Go.guard; exact rfl) | (apply Go.sguard; exact rfl) | (apply Qg.guard; exact rfl) | (apply Go.ite; exact rfl)); fail_if_success (intro h; exact absurd h (by decide)); rotate_left; fail_if_success (intro h; exact absurd h (by decide)); rotate_right) <;> intro _)
  · exact .ret rfl (.bool rfl)
  rename_i b1 hb1 hn1
  have hs := list_of (N := 34359738368) zTable_le (fun a l N h0 h hl => bTable_of a l N h0 h hl) (xs := s) (l := 1048576) (by decide) (by omega) (by decide)
  rw [hb1] at hz1
  clear hb1
  have hz2 := szL_le zTrigger_le q b1 (by omega)
  refine .pcall rfl rfl rfl (szTriggerS_ok q b1 hm hq (by omega) (by omega)) ?_
  have hq2 := fun h => list_of (N := 34359738368) zTrigger_le (fun a l N h0 h hl => bTrigger_of a l N h0 h hl) (xs := q) (l := b1) (by omega) h (by omega)
  generalize szL zTrigger q b1 = b2 at hz2 hq2
  repeat' first | apply Go.seq | apply Go.skip | apply Go.region | apply Go.nil | apply Go.block | apply Go.blk | apply Go.draw | apply Go.segs | apply Go.qs | apply Qg.nil | (apply Go.exit; exact rfl) | (apply Go.var2; (first | exact Nat.le_add_right _ _ | assumption); (iterate 4 decide); iterate 5 exact rfl) | (apply Go.var; (first | exact Nat.le_add_right _ _ | assumption); decide; iterate 4 exact rfl) | (apply Go.op; exact rfl; (first | exact aop_alloc | exact aop_new rfl rfl | exact aop_mksl rfl | exact aop_lenM rfl | exact rfl | exact aop_load rfl rfl rfl (Nat.le_of_ble_eq_true rfl) rfl | exact aop_store rfl rfl rfl rfl rfl rfl (Nat.le_of_ble_eq_true rfl))) | (apply Go.sop; exact rfl; (first | exact aop_lenM rfl | exact rfl)) | (apply Go.no; exact rfl) | (apply Go.sno; exact rfl) | (apply Qg.op; exact rfl; (first | exact aop_lenM rfl | exact rfl)) | (apply Qg.no; exact rfl) | (apply Go.cond true; exact rfl) | (apply Go.cond false; exact rfl) | (exfalso; omega) | ((first | (apply Go.iteD; exact rfl) | (apply Go.iteE; exact rfl) | (apply Go.iteN; exact rfl) | (apply Go.guardD; exact rfl) | (apply Go.guardE; exact rfl) | (apply Go.guardN; exact rfl) | (apply Go.sguardD; exact rfl) | (apply Go.sguardE; exact rfl) | (apply Go.sguardN; exact rfl) | (apply Qg.guardD; exact rfl) | (apply Qg.guardE; exact rfl) | (apply Qg.guardN; exact rfl)) <;> intro _) | (((first | (apply Go.guard; exact rfl) | (apply Go.sguard; exact rfl) | (apply Qg.guard; exact rfl) | (apply Go.ite; exact rfl)); fail_if_success (intro h; exact absurd h (by decide)); rotate_left; fail_if_success (intro h; exact absurd h (by decide)); rotate_right) <;> intro _)
  · exact .ret rfl (.bool rfl)
  rename_i hn2
  have hq2 := hq2 (by omega)
  clear hz1 hz2
  obtain ⟨hs1, hs2⟩ := hs
  obtain ⟨hq1, hq2⟩ := hq2
  have c1 := New.pure (toTableS_ok s hs1 hs2)
  have c2 := New.pure (toTriggerS_ok q hq1 hq2)
  have c3 := sTriggersOk_ok s q hs1 hs2 hq1 hq2
  have c4 := TriggersOk_ok s q hs1 hs2 hq1 hq2
  have c5 := eqTableS_ok s s hs1 hs2
  have c6 := eqTriggerS_ok q q hq1 hq2
  rw [beq_self_eq_true] at c5 c6
  generalize triggersF s q = B at c3 c4
  clear hs1 hs2 hq1 hq2 hq hl hv hm
  repeat' first | apply Go.seq | apply Go.skip | apply Go.region | apply Go.nil | apply Go.block | apply Go.blk | apply Go.draw | apply Go.segs | apply Go.qs | apply Qg.nil | (apply Go.exit; exact rfl) | (apply Go.var2; (first | exact Nat.le_add_right _ _ | assumption); (iterate 4 decide); iterate 5 exact rfl) | (apply Go.var; (first | exact Nat.le_add_right _ _ | assumption); decide; iterate 4 exact rfl) | (apply Go.op; exact rfl; (first | exact aop_alloc | exact aop_new rfl rfl | exact aop_mksl rfl | exact aop_lenM rfl | exact aop_neB rfl rfl | exact rfl | exact aop_load rfl rfl rfl (Nat.le_of_ble_eq_true rfl) rfl | exact aop_store rfl rfl rfl rfl rfl rfl (Nat.le_of_ble_eq_true rfl))) | (apply Go.sop; exact rfl; (first | exact aop_lenM rfl | exact aop_neB rfl rfl | exact rfl)) | (apply Go.no; exact rfl) | (apply Go.sno; exact rfl) | (apply Qg.op; exact rfl; (first | exact aop_lenM rfl | exact rfl)) | (apply Qg.no; exact rfl) | (apply Go.cond true; exact rfl) | (apply Go.cond false; exact rfl) | ((first | (apply Go.pcall; iterate 3 exact rfl) | (apply Go.spcall; iterate 3 exact rfl) | (apply Qg.pcall; iterate 3 exact rfl)); (first | exact c1 | exact c2 | exact c3 | exact c4 | exact c5 | exact c6)) | (exfalso; omega) | ((first | (apply Go.iteD; exact rfl) | (apply Go.iteE; exact rfl) | (apply Go.iteN; exact rfl) | (apply Go.guardD; exact rfl) | (apply Go.guardE; exact rfl) | (apply Go.guardN; exact rfl) | (apply Go.sguardD; exact rfl) | (apply Go.sguardE; exact rfl) | (apply Go.sguardN; exact rfl) | (apply Qg.guardD; exact rfl) | (apply Qg.guardE; exact rfl) | (apply Qg.guardN; exact rfl)) <;> intro _) | (((first | (apply Go.guard; exact rfl) | (apply Go.sguard; exact rfl) | (apply Qg.guard; exact rfl) | (apply Go.ite; exact rfl)); fail_if_success (intro h; exact absurd h (by decide)); rotate_left; fail_if_success (intro h; exact absurd h (by decide)); rotate_right) <;> intro _)
  all_goals first
    | exact .ret rfl (.bool rfl)
    | (exfalso; simp_all; done)
end Go.Proofs.YtpjfihdlbdogpaaGreat.Am

/- The abstract machine, part 27: a row's arguments as abstract values, and what a contract says of a call. -/
set_option linter.unusedVariables false
set_option linter.unusedSimpArgs false
namespace Go.Proofs.YtpjfihdlbdogpaaGreat.Am
open Go.RowKit Go.ChangeShapes Go.WideShapes

/-- A world of which nothing is ours. -/
def Cx.at (W : World) : Cx := ⟨fun _ _ => ⟨0, 0, 0, false⟩, fun _ _ => False, fun _ => False, W⟩
theorem Rl.at (W : World) : Rl (Cx.at W) (Store.none 0) :=
  ⟨fun _ _ h => h.elim, fun id v es hg => by simp [Store.none] at hg, fun b => ⟨fun h => h.elim, fun ⟨id, v, es, hg, _⟩ => by simp [Store.none] at hg⟩, fun id v es id' v' es' hg => by simp [Store.none] at hg, fun id v es hg => by simp [Store.none] at hg⟩
theorem rpv_bool {D : Cx} {b : Bool} {v : Value} (h : RpV D (.c (.bool b)) v) : v = .bool b := by
  cases h with
  | c h => cases h; rfl
theorem Pure.calls {P : Program} {f : Nat} {args : List AV} {b : Bool} (h : Pure P f args (.c (.bool b))) {W : World} {cargs : Array Value} (ha : ∃ hl : cargs.size = args.length, ∀ i (hi : i < args.length), RpV (Cx.at W) args[i] (cargs[i]'(by omega))) :
    Calls P f cargs W fun e w' => e = .returned (.bool b) ∧ Below W.heap.size W w' := by
  refine ((h.at_ (Store.none 0)).2 (Cx.at W) cargs (Rl.at W) ha).mono ?_
  rintro e w' ⟨D, σ', r, v, rfl, rfl, ⟨rfl, rfl⟩, hR, hv, hle⟩
  exact ⟨by rw [rpv_bool hv], ⟨hle.os, hle.tape, hle.output, hle.size, fun k hk => hle.keep k hk (fun h => h.elim)⟩⟩

section
variable {H : Type} {enc : TypeId × Value → H} {P : Program} {W : World}
/-- What the rows say of a value of a type, as abstract cells. -/
structure Opens (enc : TypeId × Value → H) (P : Program) (W : World) (t : TypeId) {α : Type} (e : α → List Ce) (good : α → Prop) : Prop where
  op : ∀ fuel cs x, DataW.trod enc P W 0 (fun _ => true) true fuel t cs = some x → (∀ n ∈ x.1.weights P t, n ≤ reachBytes) →
    ∃ a, good a ∧ ∃ hl : cs.length = (e a).length, ∀ i (hi : i < (e a).length), Rp (Cx.at W) (e a)[i] (cs[i]'(by omega))
theorem Opens.one {t : TypeId} {α : Type} {e : α → List Ce} {good : α → Prop} (h : ∀ fuel cs x, DataW.trod enc P W 0 (fun _ => true) true fuel t cs = some x → (∀ n ∈ x.1.weights P t, n ≤ reachBytes) → ∃ a y v, good a ∧ e a = [y] ∧ cs = [v] ∧ Rp (Cx.at W) y v) : Opens enc P W t e good := by
  constructor
  intro fuel cs x h1 h2
  obtain ⟨a, y, v, hg, he, rfl, hr⟩ := h fuel cs x h1 h2
  refine ⟨a, hg, by simp [he], fun i hi => ?_⟩
  have hi' : i = 0 := by rw [he] at hi; simpa using hi
  subst hi'
  simp only [he, List.getElem_cons_zero]
  exact hr
theorem Opens.iso {t : TypeId} {α β : Type} {e : β → List Ce} {good : β → Prop} (h : Opens enc P W t e good) (g : β → α) {e' : α → List Ce} {good' : α → Prop} (he : ∀ b, e' (g b) = e b) (hg : ∀ b, good b → good' (g b)) : Opens enc P W t e' good' := by
  constructor
  intro fuel cs x h1 h2
  obtain ⟨a, h3, hl, h4⟩ := h.op fuel cs x h1 h2
  refine ⟨g a, hg a h3, by rw [he]; exact hl, fun i hi => ?_⟩
  simp only [he]
  exact h4 i (by rw [he] at hi; exact hi)
theorem Opens.int {t : TypeId} {k : IntKind} (ht : P.underlying t = some (.int k)) : Opens enc P W t (fun n : Int => [.int k n]) (fun n => (Lit.int k n).wf = true) := by
  refine Opens.one fun fuel cs x h1 _ => ?_
  obtain ⟨n, rfl, rfl, hw⟩ := DataW.trod_int ht h1
  exact ⟨n, _, _, hw, rfl, rfl, .int k n⟩
theorem Opens.bool {t : TypeId} (ht : P.underlying t = some .bool) : Opens enc P W t (fun b : Bool => [.bool b]) (fun _ => True) := by
  refine Opens.one fun fuel cs x h1 _ => ?_
  obtain ⟨n, rfl, rfl⟩ := DataW.trod_bool ht h1
  exact ⟨n, _, _, trivial, rfl, rfl, .bool n⟩
theorem Opens.str {t : TypeId} (ht : P.underlying t = some .string) : Opens enc P W t (fun s : List UInt8 => [.str s]) (fun s => s.length ≤ 140737488351232) := by
  refine Opens.one fun fuel cs x h1 h2 => ?_
  obtain ⟨s, rfl, rfl, hs⟩ := DataW.trod_string ht h1
  refine ⟨s.data.toList, _, _, ?_, rfl, rfl, .str _⟩
  have := h2 s.data.toList.length (by simp [DataW.weights])
  exact this
theorem list_choice {α : Type} {p : Nat → α → Prop} : ∀ n, (∀ i, i < n → ∃ a, p i a) → ∃ l : List α, l.length = n ∧ ∀ i (hi : i < l.length), p i l[i]
  | 0, _ => ⟨[], rfl, fun i hi => by simp at hi⟩
  | n + 1, h => by
    obtain ⟨l, h1, h2⟩ := list_choice n fun i hi => h i (by omega)
    obtain ⟨a, ha⟩ := h n (by omega)
    refine ⟨l ++ [a], by simp [h1], fun i hi => ?_⟩
    by_cases e : i < l.length
    · rw [List.getElem_append_left e]; exact h2 i e
    · have : i = l.length := by simp at hi; omega
      subst this
      have e1 : (l ++ [a])[l.length]'hi = a := by rw [List.getElem_append_right (Nat.le_refl _)]; simp
      rw [e1, h1]
      exact ha
theorem weightsAll_mem {e : TypeId} : ∀ {l : List (DataW H)} {d : DataW H} {n : Nat}, d ∈ l → n ∈ d.weights P e → n ∈ DataW.weightsAll P e l
  | y :: r, d, n, h, hn => by
    simp only [DataW.weightsAll, List.mem_append]
    rcases List.mem_cons.1 h with rfl | h
    · exact .inl hn
    · exact .inr (weightsAll_mem h hn)
theorem add_add {a : Addr} (h : a.spot = none) (m j : Nat) : (a.add m).add j = ⟨a.block, a.off + (m + j), none⟩ := by
  obtain ⟨b, o, s⟩ := a
  subst h
  simp only [Addr.add]
  split <;> split <;> simp_all [Nat.add_assoc]
theorem spot_of_cell {w : World} {a : Addr} {v : Value} (h : w.cell? a = some v) : a.spot = none ∧ a.block < w.heap.size := by
  unfold World.cell? at h
  split at h
  · rename_i hb
    refine ⟨?_, ?_⟩
    · split at h
      · cases h
      · rename_i hs
        simpa using hs
    · exact (Array.getElem?_eq_some_iff.1 hb).1
  · cases h
theorem Opens.slice {t el : TypeId} {α : Type} {e : α → List Ce} {good : α → Prop} {s : Nat} (ht : P.underlying t = some (.slice el)) (h : Opens enc P W el e good) (hs : P.cellsOf el = s) (hs0 : 0 < s) (he : ∀ a, (e a).length = s) :
    Opens enc P W t (fun l : List α => [.fz (l.map e)]) (fun l => l.length * P.bytesOf el ≤ 140737488351232 ∧ ∀ a ∈ l, good a) := by
  refine Opens.one fun fuel cs x h1 h2 => ?_
  rcases DataW.trod_slice ht h1 with ⟨rfl, rfl⟩ | ⟨a, len, cap, elems, rest, n, _, rfl, rfl, hb, hl, hm, hlen, hel, hsp, hns⟩
  · exact ⟨[], _, _, ⟨by simp, by simp⟩, rfl, rfl, .fz0 _ _⟩
  rw [hs] at hel
  have each : ∀ i, i < len → ∃ y, good y ∧ ∀ j (hj : j < (e y).length), ∃ v, W.cell? ((a.add (i * s)).add j) = some v ∧ Rp (Cx.at W) (e y)[j] v := by
    intro i hi
    have hi' : i < elems.length := by omega
    have h3 := hel i hi
    rw [List.getElem?_eq_getElem hi', Option.bind_eq_some_iff] at h3
    obtain ⟨cs, hc, hd⟩ := h3
    obtain ⟨y, hy, hl, hr⟩ := h.op n cs _ hd (fun m hm => h2 m (by
      simp only [DataW.weights, ht]
      refine List.mem_cons_of_mem _ (List.mem_append_left _ (weightsAll_mem (d := elems[i].1) (List.mem_map_of_mem (List.getElem_mem hi')) hm))))
    obtain ⟨_, hcl, hcc⟩ := World.cells?_some hc
    refine ⟨y, hy, fun j hj => ⟨cs[j]'(by omega), ?_, hr j hj⟩⟩
    rw [hcc j (by rw [← he y]; exact hj), List.getElem?_eq_getElem]
  obtain ⟨l, hll, hl2⟩ := list_choice len each
  refine ⟨l, _, _, ⟨?_, fun y hy => ?_⟩, rfl, rfl, ?_⟩
  · have := h2 _ (by
      simp only [DataW.weights, ht]
      exact List.mem_cons_self)
    simp only [List.length_map] at this
    have h5 : l.length * P.bytesOf el ≤ (elems.length + rest.length) * P.bytesOf el := Nat.mul_le_mul_right _ (by omega)
    exact Nat.le_trans h5 this
  · obtain ⟨i, hi, rfl⟩ := List.mem_iff_getElem.1 hy
    exact (hl2 i hi).1
  · rcases Nat.eq_zero_or_pos len with h0 | h0
    · have hl0 : l = [] := List.eq_nil_of_length_eq_zero (by omega)
      subst hl0
      subst h0
      exact .fz0 _ _
    · obtain ⟨v0, hv0, _⟩ := (hl2 0 (by omega)).2 0 (by rw [he]; exact hs0)
      have hsp0 : a.spot = none ∧ a.block < W.heap.size := by
        have := spot_of_cell hv0
        simpa [Addr.add] using this
      obtain ⟨b, o, sp⟩ := a
      obtain ⟨rfl, hbl⟩ := hsp0
      have hlm : (l.map e).length = len := by simp [hll]
      have key := Rp.fz (C := Cx.at W) (l.map e) b o cap s (fun i j => (W.cell? ⟨b, o + (i * s + j), none⟩).getD .nilFunc) hbl (fun h => h.elim) (by omega) (fun i hi => by simp [he]) (fun i j hi hj => by
        rw [hlm] at hi
        obtain ⟨v, hv, _⟩ := (hl2 i (by omega)).2 j (by rw [he]; exact hj)
        rw [add_add rfl] at hv
        show W.cell? _ = _
        rw [hv]
        rfl) (fun i j hi hj => by
        rw [hlm] at hi
        have hj' : j < (e (l[i]'(by omega))).length := by simpa using hj
        obtain ⟨v, hv, hr⟩ := (hl2 i (by omega)).2 j hj'
        rw [add_add rfl] at hv
        simp only [hv, Option.getD_some, List.getElem_map]
        exact hr)
      rw [hlm] at key
      exact key

/-- .. of the fields of a struct, from one on. -/
structure OpensF (enc : TypeId × Value → H) (P : Program) (W : World) (fs : Array Field) (k off : Nat) {α : Type} (e : α → List Ce) (good : α → Prop) : Prop where
  op : ∀ (cs : List Value) (n : Nat) (xs : List (DataW H × List MemPlace)), xs.length = fs.size → (∀ (i : Nat) (f : Field), fs[i]? = some f → DataW.trod enc P W 0 (fun _ => true) true n f.type ((cs.drop f.offset).take (P.cellsOf f.type)) = xs[i]?) →
    (∀ (i : Nat) (f : Field) (x : DataW H × List MemPlace), fs[i]? = some f → xs[i]? = some x → ∀ m ∈ x.1.weights P f.type, m ≤ reachBytes) →
    ∃ a, good a ∧ ∀ i (hi : i < (e a).length), ∃ v, cs[off + i]? = some v ∧ Rp (Cx.at W) (e a)[i] v
theorem OpensF.nil {fs : Array Field} {k off : Nat} : OpensF enc P W fs k off (fun _ : Unit => []) (fun _ => True) :=
  ⟨fun cs n xs _ _ _ => ⟨(), trivial, fun i hi => by simp at hi⟩⟩
theorem OpensF.cons {fs : Array Field} {k off s : Nat} {f : Field} {α β : Type} {e : α → List Ce} {good : α → Prop} {e' : β → List Ce} {good' : β → Prop} (hf : fs[k]? = some f) (h : Opens enc P W f.type e good) (ho : f.offset = off) (he : ∀ a, (e a).length = s) (hr : OpensF enc P W fs (k + 1) (off + s) e' good') :
    OpensF enc P W fs k off (fun p : α × β => e p.1 ++ e' p.2) (fun p => good p.1 ∧ good' p.2) := by
  constructor
  intro cs n xs hxl hx hw
  obtain ⟨b, hb, hb2⟩ := hr.op cs n xs hxl hx hw
  have hk : k < xs.length := by rw [hxl]; exact (Array.getElem?_eq_some_iff.1 hf).1
  have h1 := hx k f hf
  rw [List.getElem?_eq_getElem hk] at h1
  obtain ⟨a, ha, hl, ha2⟩ := h.op n _ _ h1 (hw k f _ hf (List.getElem?_eq_getElem hk))
  refine ⟨(a, b), ⟨ha, hb⟩, fun i hi => ?_⟩
  by_cases c : i < (e a).length
  · refine ⟨_, ?_, by
      simp only [List.getElem_append_left c]
      exact ha2 i c⟩
    have h2 : ((cs.drop f.offset).take (P.cellsOf f.type))[i]? = some (((cs.drop f.offset).take (P.cellsOf f.type))[i]'(by omega)) := List.getElem?_eq_getElem _
    rw [List.getElem?_take] at h2
    split at h2
    · rw [List.getElem?_drop] at h2
      rw [← h2]
      congr 1
      omega
    · cases h2
  · have hi' : i - (e a).length < (e' b).length := by simp only [List.length_append] at hi; omega
    obtain ⟨v, h2, h3⟩ := hb2 (i - (e a).length) hi'
    refine ⟨v, ?_, ?_⟩
    · rw [← h2, he]
      congr 1
      have := he a
      omega
    · simp only [List.getElem_append_right (Nat.le_of_not_lt c)]
      exact h3
theorem Opens.struct {t : TypeId} {fs : Array Field} {α : Type} {e : α → List Ce} {good : α → Prop} {s : Nat} (ht : P.underlying t = some (.struct fs)) (h : OpensF enc P W fs 0 0 e good) (hs : P.cellsOf t = s) (he : ∀ a, (e a).length = s) : Opens enc P W t e good := by
  constructor
  intro fuel cs x h1 h2
  obtain ⟨xs, n, rfl, rfl, hl, hxl, hx⟩ := DataW.trod_struct ht h1
  obtain ⟨a, ha, ha2⟩ := h.op cs n xs hxl hx (fun i f y hf hy m hm => h2 m (by
    simp only [DataW.weights, ht]
    refine DataW.weights_mem_each (j := i) (t := f.type) (d := y.1) ?_ ?_ m hm
    · rw [List.getElem?_map, Array.getElem?_toList, hf]; rfl
    · rw [List.getElem?_map, hy]; rfl))
  refine ⟨a, ha, by rw [he, hl, hs], fun i hi => ?_⟩
  obtain ⟨v, h3, h4⟩ := ha2 i hi
  rw [Nat.zero_add] at h3
  obtain ⟨_, rfl⟩ := List.getElem?_eq_some_iff.1 h3
  exact h4
/-- An argument of a row. -/
theorem Opens.agg {t : TypeId} {fs : Array Field} {α : Type} {e : α → List Ce} {good : α → Prop} (h : Opens enc P W t e good) (ht : P.underlying t = some (.struct fs)) {r : Reach} {b0 : Nat} {v : Value} (hv : Value.okWide P W r b0 t v) {d : DataW H} {ps : List MemPlace} (hd : DataW.Trod enc P W 0 (fun _ => true) true t v d ps) (hw : ∀ n ∈ d.weights P t, n ≤ reachBytes) :
    ∃ a, good a ∧ RpV (Cx.at W) (.agg (e a)) v := by
  simp only [Value.okWide, ht] at hv
  obtain ⟨cs, rfl, _, _⟩ := hv
  obtain ⟨fuel, hf⟩ := hd
  obtain ⟨a, ha, hl, hr⟩ := h.op fuel _ _ hf hw
  refine ⟨a, ha, .agg (by simpa [Value.cells] using hl) fun i hi => ?_⟩
  have := hr i hi
  simpa [Value.cells] using this
theorem Opens.c {t : TypeId} {α : Type} {e : α → Ce} {good : α → Prop} (h : Opens enc P W t (fun a => [e a]) good) {v : Value} (hv : v.cells = #[v]) {d : DataW H} {ps : List MemPlace} (hd : DataW.Trod enc P W 0 (fun _ => true) true t v d ps) (hw : ∀ n ∈ d.weights P t, n ≤ reachBytes) :
    ∃ a, good a ∧ RpV (Cx.at W) (.c (e a)) v := by
  obtain ⟨fuel, hf⟩ := hd
  rw [hv] at hf
  obtain ⟨a, ha, hl, hr⟩ := h.op fuel _ _ hf hw
  exact ⟨a, ha, .c (hr 0 (by simp))⟩
theorem cells_slice {t el : TypeId} (ht : P.underlying t = some (.slice el)) {r : Reach} {b0 : Nat} {v : Value} (hv : Value.okWide P W r b0 t v) : v.cells = #[v] := by
  obtain ⟨a, len, cap, rfl⟩ := okWide_slice ht hv
  rfl
theorem cells_int {t : TypeId} {k : IntKind} (ht : P.underlying t = some (.int k)) {r : Reach} {b0 : Nat} {v : Value} (hv : Value.okWide P W r b0 t v) : v.cells = #[v] := by
  obtain ⟨n, rfl⟩ := okWide_int ht hv
  rfl
theorem cells_str {t : TypeId} (ht : P.underlying t = some .string) {r : Reach} {b0 : Nat} {v : Value} (hv : Value.okWide P W r b0 t v) : v.cells = #[v] := by
  obtain ⟨n, rfl⟩ := okWide_string ht hv
  rfl
theorem cells_bool {t : TypeId} (ht : P.underlying t = some .bool) {r : Reach} {b0 : Nat} {v : Value} (hv : Value.okWide P W r b0 t v) : v.cells = #[v] := by
  obtain ⟨n, rfl⟩ := okWide_bool ht hv
  rfl
end
end Go.Proofs.YtpjfihdlbdogpaaGreat.Am

/- What the rows say of values and entries. -/
set_option linter.unusedVariables false
set_option linter.unusedSimpArgs false
namespace Go.Proofs.YtpjfihdlbdogpaaGreat.Am
open Go.RowKit Go.ChangeShapes Go.WideShapes

section
variable {H : Type} {enc : TypeId × Value → H} {W : World}
theorem openV : Opens enc Tryz.prog W 124 encV LenV := 
  (Opens.struct (s := 3) Tryz.underlying124 (.cons (s := 1) rfl (.int Tryz.underlying2) rfl (fun _ => rfl) (.cons (s := 1) rfl (.int Tryz.underlying2) rfl (fun _ => rfl) (.cons (s := 1) rfl (.str Tryz.underlying9) rfl (fun _ => rfl) .nil))) (by kernel_rfl) (fun _ => rfl)).iso (fun p => Val.mk p.1 p.2.1 p.2.2.1) (fun _ => rfl) fun p h => Nat.le_trans h.2.2.1 (by decide)
theorem openVs : Opens enc Tryz.prog W 160 (fun l : List Val => [.fz (l.map encV)]) (fun l => l.length ≤ 140737488351232 ∧ ∀ v ∈ l, LenV v) :=
  (Opens.slice (s := 3) Tryz.underlying160 openV (by kernel_rfl) (by decide) (fun _ => rfl)).iso id (fun _ => rfl) fun l h => ⟨Nat.le_trans (Nat.le_mul_of_pos_right _ (of_decide_eq_true (by kernel_rfl))) h.1, h.2⟩
end
end Go.Proofs.YtpjfihdlbdogpaaGreat.Am

/- The laws' helpers on types, printed by a program: Set, Row, Stmt. -/
set_option linter.unusedVariables false
set_option linter.unusedSimpArgs false
namespace Go.Proofs.YtpjfihdlbdogpaaGreat.Am
structure SetS where
  col : Int
  expr : List Tok
  deriving DecidableEq
def encSetS (a : SetS) : List Ce := [.int .i64 a.col, .fz (a.expr.map encTok)]
def bSetS (N : Nat) (a : SetS) : Prop := (a.expr.length ≤ N ∧ ∀ x ∈ a.expr, bTok N x)
def zSetS (a : SetS) : Int → Int := chain [(szL zTok a.expr)]
theorem zSetS_steps (a : SetS) : Steps [(szL zTok a.expr)] := (.cons (fun l h => szL_le zTok_le _ l h) .nil)
theorem zSetS_le (a : SetS) (l : Int) (h : 0 ≤ l) : zSetS a l ≤ l := chain_le (zSetS_steps a) l h
theorem bSetS_of (a : SetS) (l : Int) (N : Nat) (h0 : 0 ≤ l) (h : 0 ≤ zSetS a l) (hl : l ≤ N) : bSetS N a := by
  have hh := chain_all (zSetS_steps a) l h0 h
  obtain ⟨q0, u0, v0, w0⟩ := hh (szL zTok a.expr) (by simp)
  exact (list_of zTok_le bTok_of u0 w0 (by omega))
theorem szSetS_ok (a : SetS) (left : Int) (hb : bSetS 1125899906842624 a) (h0 : 0 ≤ left) (h1 : left ≤ 34359738368) : Pure Tryz.prog 100 [.agg (encSetS a), .c (.int .i64 left)] (.c (.int .i64 (zSetS a left))) := by
  refine Pure.run mixed c_laws_szSet_ok (Nat.le_of_ble_eq_true rfl) fun σ hS hA => ?_
  clear hS hA
  repeat' first | apply Go.seq | apply Go.skip | apply Go.region | apply Go.nil | apply Go.block | apply Go.blk | apply Go.draw | apply Go.segs | apply Go.qs | apply Qg.nil | (apply Go.exit; exact rfl) | (apply Go.var2; (first | exact Nat.le_add_right _ _ | assumption); (iterate 4 decide); iterate 5 exact rfl) | (apply Go.var; (first | exact Nat.le_add_right _ _ | assumption); decide; iterate 4 exact rfl) | (apply Go.op; exact rfl; (first | exact aop_alloc | exact aop_new rfl rfl | exact aop_mksl rfl | exact aop_lenM rfl | exact rfl | exact aop_load rfl rfl rfl (Nat.le_of_ble_eq_true rfl) rfl | exact aop_store rfl rfl rfl rfl rfl rfl (Nat.le_of_ble_eq_true rfl))) | (apply Go.sop; exact rfl; (first | exact aop_lenM rfl | exact rfl)) | (apply Go.no; exact rfl) | (apply Go.sno; exact rfl) | (apply Qg.op; exact rfl; (first | exact aop_lenM rfl | exact rfl)) | (apply Qg.no; exact rfl) | (apply Go.cond true; exact rfl) | (apply Go.cond false; exact rfl)
  refine .pcall rfl rfl rfl (szTokS_ok a.expr left hb.1 hb.2 (by omega) (by omega)) ?_
  have y1 := szL_le zTok_le a.expr left (by omega)
  generalize e1 : szL zTok a.expr left = l1 at y1 ⊢
  repeat' first | apply Go.seq | apply Go.skip | apply Go.region | apply Go.nil | apply Go.block | apply Go.blk | apply Go.draw | apply Go.segs | apply Go.qs | apply Qg.nil | (apply Go.exit; exact rfl) | (apply Go.var2; (first | exact Nat.le_add_right _ _ | assumption); (iterate 4 decide); iterate 5 exact rfl) | (apply Go.var; (first | exact Nat.le_add_right _ _ | assumption); decide; iterate 4 exact rfl) | (apply Go.op; exact rfl; (first | exact aop_alloc | exact aop_new rfl rfl | exact aop_mksl rfl | exact aop_lenM rfl | exact rfl | exact aop_load rfl rfl rfl (Nat.le_of_ble_eq_true rfl) rfl | exact aop_store rfl rfl rfl rfl rfl rfl (Nat.le_of_ble_eq_true rfl))) | (apply Go.sop; exact rfl; (first | exact aop_lenM rfl | exact rfl)) | (apply Go.no; exact rfl) | (apply Go.sno; exact rfl) | (apply Qg.op; exact rfl; (first | exact aop_lenM rfl | exact rfl)) | (apply Qg.no; exact rfl) | (apply Go.cond true; exact rfl) | (apply Go.cond false; exact rfl) | (exfalso; omega) | ((first | (apply Go.iteD; exact rfl) | (apply Go.iteE; exact rfl) | (apply Go.iteN; exact rfl) | (apply Go.guardD; exact rfl) | (apply Go.guardE; exact rfl) | (apply Go.guardN; exact rfl) | (apply Go.sguardD; exact rfl) | (apply Go.sguardE; exact rfl) | (apply Go.sguardN; exact rfl) | (apply Qg.guardD; exact rfl) | (apply Qg.guardE; exact rfl) | (apply Qg.guardN; exact rfl)) <;> intro _) | (((first | (apply Go.guard; exact rfl) | (apply Go.sguard; exact rfl) | (apply Qg.guard; exact rfl) | (apply Go.ite; exact rfl)); fail_if_success (intro h; exact absurd h (by decide)); rotate_left; fail_if_success (intro h; exact absurd h (by decide)); rotate_right) <;> intro _)
  · refine .ret rfl (.int ?_)
    rename_i h
    simp only [zSetS, chain, e1, if_pos h]
  rename_i g1
  refine .ret rfl (.int ?_)
  simp only [zSetS, chain, e1, if_neg g1]
theorem szSetSS_ok (xs : List SetS) (left : Int) (hx : xs.length ≤ 1125899906842624) (hv : ∀ e ∈ xs, bSetS 1125899906842624 e) (h0 : 0 ≤ left) (h1 : left ≤ 34359738368) : Pure Tryz.prog 52 [.c (.fz (xs.map encSetS)), .c (.int .i64 left)] (.c (.int .i64 (szL zSetS xs left))) :=
  szS_ok mixed c_laws_szSetS_ok encSetS zSetS xs left hx h0 h1 (fun _ => rfl) zSetS_le fun a ha l h2 h3 => szSetS_ok a l (hv a ha) h2 (by omega)
theorem toSetS_ok (a : SetS) (hb : bSetS 34359738368 a) (σ : Store) : Ok Tryz.prog 103 [.agg (encSetS a)] σ (NewL σ (encSetS a)) := by
  refine Ok.run mixed c_laws_toSet_ok (Nat.le_of_ble_eq_true rfl) fun hS hA => ?_
  clear hS hA
  repeat' first | apply Go.seq | apply Go.skip | apply Go.region | apply Go.nil | apply Go.block | apply Go.blk | apply Go.draw | apply Go.segs | apply Go.qs | apply Qg.nil | (apply Go.exit; exact rfl) | (apply Go.var2; (first | exact Nat.le_add_right _ _ | assumption); (iterate 4 decide); iterate 5 exact rfl) | (apply Go.var; (first | exact Nat.le_add_right _ _ | assumption); decide; iterate 4 exact rfl) | (apply Go.op; exact rfl; (first | exact aop_alloc | exact aop_new rfl rfl | exact aop_mksl rfl | exact aop_lenM rfl | exact rfl | exact aop_load rfl rfl rfl (Nat.le_of_ble_eq_true rfl) rfl | exact aop_store rfl rfl rfl rfl rfl rfl (Nat.le_of_ble_eq_true rfl))) | (apply Go.sop; exact rfl; (first | exact aop_lenM rfl | exact rfl)) | (apply Go.no; exact rfl) | (apply Go.sno; exact rfl) | (apply Qg.op; exact rfl; (first | exact aop_lenM rfl | exact rfl)) | (apply Qg.no; exact rfl) | (apply Go.cond true; exact rfl) | (apply Go.cond false; exact rfl) | (exfalso; omega) | ((first | (apply Go.iteD; exact rfl) | (apply Go.iteE; exact rfl) | (apply Go.iteN; exact rfl) | (apply Go.guardD; exact rfl) | (apply Go.guardE; exact rfl) | (apply Go.guardN; exact rfl) | (apply Go.sguardD; exact rfl) | (apply Go.sguardE; exact rfl) | (apply Go.sguardN; exact rfl) | (apply Qg.guardD; exact rfl) | (apply Qg.guardE; exact rfl) | (apply Qg.guardN; exact rfl)) <;> intro _) | (((first | (apply Go.guard; exact rfl) | (apply Go.sguard; exact rfl) | (apply Qg.guard; exact rfl) | (apply Go.ite; exact rfl)); fail_if_success (intro h; exact absurd h (by decide)); rotate_left; fail_if_success (intro h; exact absurd h (by decide)); rotate_right) <;> intro _)
  refine Go.call _ rfl rfl rfl (toTokS_ok a.expr hb.1 hb.2 _) ?_
  rintro r σ0 ⟨x0, m0, rfl, rfl, t0, h0⟩
  rw [E_E] at h0 ⊢
  have t0 := tidy_up t0
  have h0 := h0.new2
  repeat' first | apply Go.seq | apply Go.skip | apply Go.region | apply Go.nil | apply Go.block | apply Go.blk | apply Go.draw | apply Go.segs | apply Go.qs | apply Qg.nil | (apply Go.exit; exact rfl) | (apply Go.var2; (first | exact Nat.le_add_right _ _ | assumption); (iterate 4 decide); iterate 5 exact rfl) | (apply Go.var; (first | exact Nat.le_add_right _ _ | assumption); decide; iterate 4 exact rfl) | (apply Go.op; exact rfl; (first | exact aop_alloc | exact aop_new rfl rfl | exact aop_mksl rfl | exact aop_lenM rfl | exact rfl | exact aop_load rfl rfl rfl (Nat.le_of_ble_eq_true rfl) rfl | exact aop_store rfl rfl rfl rfl rfl rfl (Nat.le_of_ble_eq_true rfl))) | (apply Go.sop; exact rfl; (first | exact aop_lenM rfl | exact rfl)) | (apply Go.no; exact rfl) | (apply Go.sno; exact rfl) | (apply Qg.op; exact rfl; (first | exact aop_lenM rfl | exact rfl)) | (apply Qg.no; exact rfl) | (apply Go.cond true; exact rfl) | (apply Go.cond false; exact rfl) | (exfalso; omega) | ((first | (apply Go.iteD; exact rfl) | (apply Go.iteE; exact rfl) | (apply Go.iteN; exact rfl) | (apply Go.guardD; exact rfl) | (apply Go.guardE; exact rfl) | (apply Go.guardN; exact rfl) | (apply Go.sguardD; exact rfl) | (apply Go.sguardE; exact rfl) | (apply Go.sguardN; exact rfl) | (apply Qg.guardD; exact rfl) | (apply Qg.guardE; exact rfl) | (apply Qg.guardN; exact rfl)) <;> intro _) | (((first | (apply Go.guard; exact rfl) | (apply Go.sguard; exact rfl) | (apply Qg.guard; exact rfl) | (apply Go.ite; exact rfl)); fail_if_success (intro h; exact absurd h (by decide)); rotate_left; fail_if_success (intro h; exact absurd h (by decide)); rotate_right) <;> intro _)
  have hL : HasL (E σ ((0, [[.int .i64 a.col, x0]]) :: (0, [[.int .i64 a.col, x0]]) :: ([] ++ m0))) (fun a => σ.next + 2 ≤ a ∧ a < σ.next + 2 + ([] ++ m0).length) (encSetS a) [.int .i64 a.col, x0] := by
    refine HasL.mono ?_ (HasL.skip (.int _ _) (HasL.two (h0 _ _) (HasL.nil (S := fun a => a < 0)) (fun a ha hb => by (try dsimp only at ha hb); (try simp only [List.append_eq, List.length_append, List.length_nil, List.nil_append] at ha hb); omega)))
    intro a ha
    (try dsimp only at ha)
    (try simp only [List.append_eq, List.length_append, List.length_nil, List.nil_append] at ha ⊢)
    omega
  have hT := hL.tidy (n := σ.next) fun a ha => by have := ha.1; omega
  have hM : TidyL σ.next ([] ++ m0) := (tidy_pre (fun b hb => by simp at hb) t0)
  have hN : NewL σ (encSetS a) (.agg [.int .i64 a.col, x0]) (E σ ((0, [[.int .i64 a.col, x0]]) :: (0, [[.int .i64 a.col, x0]]) :: ([] ++ m0))) := by
    refine ⟨_, _, rfl, rfl, .one hT (.one hT hM), hL.mono ?_⟩
    intro a ha
    have h9 := ha.1
    have h8 := ha.2
    (try simp only [E_next, List.length_cons, List.append_eq, List.length_append, List.length_nil, List.nil_append] at h8 ⊢)
    constructor <;> omega
  exact .ret (retv_m rfl rfl rfl (Nat.le_of_ble_eq_true rfl) rfl) hN
theorem toSetSS_ok (xs : List SetS) (hx : xs.length ≤ 34359738368) (hv : ∀ e ∈ xs, bSetS 34359738368 e) (σ : Store) : Ok Tryz.prog 55 [.c (.fz (xs.map encSetS))] σ (New σ (.fz (xs.map encSetS))) :=
  toS_ok mixed c_laws_toSetS_ok encSetS xs hx (by decide) rfl (fun _ => rfl) (by intro x hx; simp only [List.mem_cons, List.not_mem_nil, or_false] at hx; rcases hx with rfl | rfl <;> constructor) (fun a ha σ => toSetS_ok a (hv a ha) σ) σ
theorem SetS_beq (a b : SetS) : (a == b) = (a.col == b.col && a.expr == b.expr) := by
  obtain ⟨a0, a1⟩ := a
  obtain ⟨b0, b1⟩ := b
  rw [Bool.eq_iff_iff]
  simp [and_assoc]
theorem eqSetS_ok (a b : SetS) (hb : bSetS 34359738368 a) : Pure Tryz.prog 109 [.agg (encSetS a), .agg (encSetS b)] (.c (.bool (a == b))) := by
  refine Pure.run mixed c_laws_eqSet_ok (Nat.le_of_ble_eq_true rfl) fun σ hS hA => ?_
  clear hS hA
  have hq := SetS_beq a b
  repeat' first | apply Go.seq | apply Go.skip | apply Go.region | apply Go.nil | apply Go.block | apply Go.blk | apply Go.draw | apply Go.segs | apply Go.qs | apply Qg.nil | (apply Go.exit; exact rfl) | (apply Go.var2; (first | exact Nat.le_add_right _ _ | assumption); (iterate 4 decide); iterate 5 exact rfl) | (apply Go.var; (first | exact Nat.le_add_right _ _ | assumption); decide; iterate 4 exact rfl) | (apply Go.op; exact rfl; (first | exact aop_alloc | exact aop_new rfl rfl | exact aop_mksl rfl | exact aop_lenM rfl | exact rfl | exact aop_load rfl rfl rfl (Nat.le_of_ble_eq_true rfl) rfl | exact aop_store rfl rfl rfl rfl rfl rfl (Nat.le_of_ble_eq_true rfl))) | (apply Go.sop; exact rfl; (first | exact aop_lenM rfl | exact rfl)) | (apply Go.no; exact rfl) | (apply Go.sno; exact rfl) | (apply Qg.op; exact rfl; (first | exact aop_lenM rfl | exact rfl)) | (apply Qg.no; exact rfl) | (apply Go.cond true; exact rfl) | (apply Go.cond false; exact rfl) | ((first | (apply Go.pcallB; iterate 3 exact rfl) | (apply Go.spcallB; iterate 3 exact rfl) | (apply Qg.pcallB; iterate 3 exact rfl)); exact eqTokS_ok a.expr b.expr hb.1 hb.2; intro _ _) | (exfalso; omega) | ((first | (apply Go.iteD; exact rfl) | (apply Go.iteE; exact rfl) | (apply Go.iteN; exact rfl) | (apply Go.guardD; exact rfl) | (apply Go.guardE; exact rfl) | (apply Go.guardN; exact rfl) | (apply Go.sguardD; exact rfl) | (apply Go.sguardE; exact rfl) | (apply Go.sguardN; exact rfl) | (apply Qg.guardD; exact rfl) | (apply Qg.guardE; exact rfl) | (apply Qg.guardN; exact rfl)) <;> intro _) | (((first | (apply Go.guard; exact rfl) | (apply Go.sguard; exact rfl) | (apply Qg.guard; exact rfl) | (apply Go.ite; exact rfl)); fail_if_success (intro h; exact absurd h (by decide)); rotate_left; fail_if_success (intro h; exact absurd h (by decide)); rotate_right) <;> intro _)
  all_goals refine .ret rfl (.bool ?_)
  all_goals rw [hq]
  all_goals clear hq hb
  all_goals simp_all
theorem eqSetSS_ok (xs ys : List SetS) (hx : xs.length ≤ 34359738368) (hv : ∀ e ∈ xs, bSetS 34359738368 e) : Pure Tryz.prog 62 [.c (.fz (xs.map encSetS)), .c (.fz (ys.map encSetS))] (.c (.bool (xs == ys))) :=
  eqS_ok mixed c_laws_eqSetS_ok encSetS xs ys hx (fun _ => rfl) fun a ha b => eqSetS_ok a b (hv a ha)
structure RowD where
  id : Int
  vals : List Val
  deriving DecidableEq
def encRowD (a : RowD) : List Ce := [.int .i64 a.id, .fz (a.vals.map encV)]
def bRowD (N : Nat) (a : RowD) : Prop := (a.vals.length ≤ N ∧ ∀ x ∈ a.vals, bV N x)
def zRowD (a : RowD) : Int → Int := chain [(szL szV a.vals)]
theorem zRowD_steps (a : RowD) : Steps [(szL szV a.vals)] := (.cons (fun l h => szL_le szV_le _ l h) .nil)
theorem zRowD_le (a : RowD) (l : Int) (h : 0 ≤ l) : zRowD a l ≤ l := chain_le (zRowD_steps a) l h
theorem bRowD_of (a : RowD) (l : Int) (N : Nat) (h0 : 0 ≤ l) (h : 0 ≤ zRowD a l) (hl : l ≤ N) : bRowD N a := by
  have hh := chain_all (zRowD_steps a) l h0 h
  obtain ⟨q0, u0, v0, w0⟩ := hh (szL szV a.vals) (by simp)
  exact (list_of szV_le (fun _ _ _ _ h hl => bV_of h hl) u0 w0 (by omega))
theorem szRowD_ok (a : RowD) (left : Int) (hb : bRowD 1125899906842624 a) (h0 : 0 ≤ left) (h1 : left ≤ 34359738368) : Pure Tryz.prog 99 [.agg (encRowD a), .c (.int .i64 left)] (.c (.int .i64 (zRowD a left))) := by
  refine Pure.run mixed c_laws_szRow_ok (Nat.le_of_ble_eq_true rfl) fun σ hS hA => ?_
  clear hS hA
  repeat' first | apply Go.seq | apply Go.skip | apply Go.region | apply Go.nil | apply Go.block | apply Go.blk | apply Go.draw | apply Go.segs | apply Go.qs | apply Qg.nil | (apply Go.exit; exact rfl) | (apply Go.var2; (first | exact Nat.le_add_right _ _ | assumption); (iterate 4 decide); iterate 5 exact rfl) | (apply Go.var; (first | exact Nat.le_add_right _ _ | assumption); decide; iterate 4 exact rfl) | (apply Go.op; exact rfl; (first | exact aop_alloc | exact aop_new rfl rfl | exact aop_mksl rfl | exact aop_lenM rfl | exact rfl | exact aop_load rfl rfl rfl (Nat.le_of_ble_eq_true rfl) rfl | exact aop_store rfl rfl rfl rfl rfl rfl (Nat.le_of_ble_eq_true rfl))) | (apply Go.sop; exact rfl; (first | exact aop_lenM rfl | exact rfl)) | (apply Go.no; exact rfl) | (apply Go.sno; exact rfl) | (apply Qg.op; exact rfl; (first | exact aop_lenM rfl | exact rfl)) | (apply Qg.no; exact rfl) | (apply Go.cond true; exact rfl) | (apply Go.cond false; exact rfl)
  refine .pcall rfl rfl rfl (szValS_ok a.vals left hb.1 hb.2 (by omega) (by omega)) ?_
  have y1 := szL_le szV_le a.vals left (by omega)
  generalize e1 : szL szV a.vals left = l1 at y1 ⊢
  repeat' first | apply Go.seq | apply Go.skip | apply Go.region | apply Go.nil | apply Go.block | apply Go.blk | apply Go.draw | apply Go.segs | apply Go.qs | apply Qg.nil | (apply Go.exit; exact rfl) | (apply Go.var2; (first | exact Nat.le_add_right _ _ | assumption); (iterate 4 decide); iterate 5 exact rfl) | (apply Go.var; (first | exact Nat.le_add_right _ _ | assumption); decide; iterate 4 exact rfl) | (apply Go.op; exact rfl; (first | exact aop_alloc | exact aop_new rfl rfl | exact aop_mksl rfl | exact aop_lenM rfl | exact rfl | exact aop_load rfl rfl rfl (Nat.le_of_ble_eq_true rfl) rfl | exact aop_store rfl rfl rfl rfl rfl rfl (Nat.le_of_ble_eq_true rfl))) | (apply Go.sop; exact rfl; (first | exact aop_lenM rfl | exact rfl)) | (apply Go.no; exact rfl) | (apply Go.sno; exact rfl) | (apply Qg.op; exact rfl; (first | exact aop_lenM rfl | exact rfl)) | (apply Qg.no; exact rfl) | (apply Go.cond true; exact rfl) | (apply Go.cond false; exact rfl) | (exfalso; omega) | ((first | (apply Go.iteD; exact rfl) | (apply Go.iteE; exact rfl) | (apply Go.iteN; exact rfl) | (apply Go.guardD; exact rfl) | (apply Go.guardE; exact rfl) | (apply Go.guardN; exact rfl) | (apply Go.sguardD; exact rfl) | (apply Go.sguardE; exact rfl) | (apply Go.sguardN; exact rfl) | (apply Qg.guardD; exact rfl) | (apply Qg.guardE; exact rfl) | (apply Qg.guardN; exact rfl)) <;> intro _) | (((first | (apply Go.guard; exact rfl) | (apply Go.sguard; exact rfl) | (apply Qg.guard; exact rfl) | (apply Go.ite; exact rfl)); fail_if_success (intro h; exact absurd h (by decide)); rotate_left; fail_if_success (intro h; exact absurd h (by decide)); rotate_right) <;> intro _)
  · refine .ret rfl (.int ?_)
    rename_i h
    simp only [zRowD, chain, e1, if_pos h]
  rename_i g1
  refine .ret rfl (.int ?_)
  simp only [zRowD, chain, e1, if_neg g1]
theorem szRowDS_ok (xs : List RowD) (left : Int) (hx : xs.length ≤ 1125899906842624) (hv : ∀ e ∈ xs, bRowD 1125899906842624 e) (h0 : 0 ≤ left) (h1 : left ≤ 34359738368) : Pure Tryz.prog 51 [.c (.fz (xs.map encRowD)), .c (.int .i64 left)] (.c (.int .i64 (szL zRowD xs left))) :=
  szS_ok mixed c_laws_szRowS_ok encRowD zRowD xs left hx h0 h1 (fun _ => rfl) zRowD_le fun a ha l h2 h3 => szRowD_ok a l (hv a ha) h2 (by omega)
theorem toRowD_ok (a : RowD) (hb : bRowD 34359738368 a) (σ : Store) : Ok Tryz.prog 102 [.agg (encRowD a)] σ (NewL σ (encRowD a)) := by
  refine Ok.run mixed c_laws_toRow_ok (Nat.le_of_ble_eq_true rfl) fun hS hA => ?_
  clear hS hA
  repeat' first | apply Go.seq | apply Go.skip | apply Go.region | apply Go.nil | apply Go.block | apply Go.blk | apply Go.draw | apply Go.segs | apply Go.qs | apply Qg.nil | (apply Go.exit; exact rfl) | (apply Go.var2; (first | exact Nat.le_add_right _ _ | assumption); (iterate 4 decide); iterate 5 exact rfl) | (apply Go.var; (first | exact Nat.le_add_right _ _ | assumption); decide; iterate 4 exact rfl) | (apply Go.op; exact rfl; (first | exact aop_alloc | exact aop_new rfl rfl | exact aop_mksl rfl | exact aop_lenM rfl | exact rfl | exact aop_load rfl rfl rfl (Nat.le_of_ble_eq_true rfl) rfl | exact aop_store rfl rfl rfl rfl rfl rfl (Nat.le_of_ble_eq_true rfl))) | (apply Go.sop; exact rfl; (first | exact aop_lenM rfl | exact rfl)) | (apply Go.no; exact rfl) | (apply Go.sno; exact rfl) | (apply Qg.op; exact rfl; (first | exact aop_lenM rfl | exact rfl)) | (apply Qg.no; exact rfl) | (apply Go.cond true; exact rfl) | (apply Go.cond false; exact rfl) | (exfalso; omega) | ((first | (apply Go.iteD; exact rfl) | (apply Go.iteE; exact rfl) | (apply Go.iteN; exact rfl) | (apply Go.guardD; exact rfl) | (apply Go.guardE; exact rfl) | (apply Go.guardN; exact rfl) | (apply Go.sguardD; exact rfl) | (apply Go.sguardE; exact rfl) | (apply Go.sguardN; exact rfl) | (apply Qg.guardD; exact rfl) | (apply Qg.guardE; exact rfl) | (apply Qg.guardN; exact rfl)) <;> intro _) | (((first | (apply Go.guard; exact rfl) | (apply Go.sguard; exact rfl) | (apply Qg.guard; exact rfl) | (apply Go.ite; exact rfl)); fail_if_success (intro h; exact absurd h (by decide)); rotate_left; fail_if_success (intro h; exact absurd h (by decide)); rotate_right) <;> intro _)
  refine Go.call _ rfl rfl rfl (toValS_ok a.vals hb.1  _) ?_
  rintro r σ0 ⟨x0, m0, rfl, rfl, t0, h0⟩
  rw [E_E] at h0 ⊢
  have t0 := tidy_up t0
  have h0 := h0.new2
  repeat' first | apply Go.seq | apply Go.skip | apply Go.region | apply Go.nil | apply Go.block | apply Go.blk | apply Go.draw | apply Go.segs | apply Go.qs | apply Qg.nil | (apply Go.exit; exact rfl) | (apply Go.var2; (first | exact Nat.le_add_right _ _ | assumption); (iterate 4 decide); iterate 5 exact rfl) | (apply Go.var; (first | exact Nat.le_add_right _ _ | assumption); decide; iterate 4 exact rfl) | (apply Go.op; exact rfl; (first | exact aop_alloc | exact aop_new rfl rfl | exact aop_mksl rfl | exact aop_lenM rfl | exact rfl | exact aop_load rfl rfl rfl (Nat.le_of_ble_eq_true rfl) rfl | exact aop_store rfl rfl rfl rfl rfl rfl (Nat.le_of_ble_eq_true rfl))) | (apply Go.sop; exact rfl; (first | exact aop_lenM rfl | exact rfl)) | (apply Go.no; exact rfl) | (apply Go.sno; exact rfl) | (apply Qg.op; exact rfl; (first | exact aop_lenM rfl | exact rfl)) | (apply Qg.no; exact rfl) | (apply Go.cond true; exact rfl) | (apply Go.cond false; exact rfl) | (exfalso; omega) | ((first | (apply Go.iteD; exact rfl) | (apply Go.iteE; exact rfl) | (apply Go.iteN; exact rfl) | (apply Go.guardD; exact rfl) | (apply Go.guardE; exact rfl) | (apply Go.guardN; exact rfl) | (apply Go.sguardD; exact rfl) | (apply Go.sguardE; exact rfl) | (apply Go.sguardN; exact rfl) | (apply Qg.guardD; exact rfl) | (apply Qg.guardE; exact rfl) | (apply Qg.guardN; exact rfl)) <;> intro _) | (((first | (apply Go.guard; exact rfl) | (apply Go.sguard; exact rfl) | (apply Qg.guard; exact rfl) | (apply Go.ite; exact rfl)); fail_if_success (intro h; exact absurd h (by decide)); rotate_left; fail_if_success (intro h; exact absurd h (by decide)); rotate_right) <;> intro _)
  have hL : HasL (E σ ((0, [[.int .i64 a.id, x0]]) :: (0, [[.int .i64 a.id, x0]]) :: ([] ++ m0))) (fun a => σ.next + 2 ≤ a ∧ a < σ.next + 2 + ([] ++ m0).length) (encRowD a) [.int .i64 a.id, x0] := by
    refine HasL.mono ?_ (HasL.skip (.int _ _) (HasL.two (h0 _ _) (HasL.nil (S := fun a => a < 0)) (fun a ha hb => by (try dsimp only at ha hb); (try simp only [List.append_eq, List.length_append, List.length_nil, List.nil_append] at ha hb); omega)))
    intro a ha
    (try dsimp only at ha)
    (try simp only [List.append_eq, List.length_append, List.length_nil, List.nil_append] at ha ⊢)
    omega
  have hT := hL.tidy (n := σ.next) fun a ha => by have := ha.1; omega
  have hM : TidyL σ.next ([] ++ m0) := (tidy_pre (fun b hb => by simp at hb) t0)
  have hN : NewL σ (encRowD a) (.agg [.int .i64 a.id, x0]) (E σ ((0, [[.int .i64 a.id, x0]]) :: (0, [[.int .i64 a.id, x0]]) :: ([] ++ m0))) := by
    refine ⟨_, _, rfl, rfl, .one hT (.one hT hM), hL.mono ?_⟩
    intro a ha
    have h9 := ha.1
    have h8 := ha.2
    (try simp only [E_next, List.length_cons, List.append_eq, List.length_append, List.length_nil, List.nil_append] at h8 ⊢)
    constructor <;> omega
  exact .ret (retv_m rfl rfl rfl (Nat.le_of_ble_eq_true rfl) rfl) hN
theorem toRowDS_ok (xs : List RowD) (hx : xs.length ≤ 34359738368) (hv : ∀ e ∈ xs, bRowD 34359738368 e) (σ : Store) : Ok Tryz.prog 54 [.c (.fz (xs.map encRowD))] σ (New σ (.fz (xs.map encRowD))) :=
  toS_ok mixed c_laws_toRowS_ok encRowD xs hx (by decide) rfl (fun _ => rfl) (by intro x hx; simp only [List.mem_cons, List.not_mem_nil, or_false] at hx; rcases hx with rfl | rfl <;> constructor) (fun a ha σ => toRowD_ok a (hv a ha) σ) σ
theorem RowD_beq (a b : RowD) : (a == b) = (a.id == b.id && a.vals == b.vals) := by
  obtain ⟨a0, a1⟩ := a
  obtain ⟨b0, b1⟩ := b
  rw [Bool.eq_iff_iff]
  simp [and_assoc]
theorem eqRowD_ok (a b : RowD) (hb : bRowD 34359738368 a) : Pure Tryz.prog 108 [.agg (encRowD a), .agg (encRowD b)] (.c (.bool (a == b))) := by
  refine Pure.run mixed c_laws_eqRow_ok (Nat.le_of_ble_eq_true rfl) fun σ hS hA => ?_
  clear hS hA
  have hq := RowD_beq a b
  repeat' first | apply Go.seq | apply Go.skip | apply Go.region | apply Go.nil | apply Go.block | apply Go.blk | apply Go.draw | apply Go.segs | apply Go.qs | apply Qg.nil | (apply Go.exit; exact rfl) | (apply Go.var2; (first | exact Nat.le_add_right _ _ | assumption); (iterate 4 decide); iterate 5 exact rfl) | (apply Go.var; (first | exact Nat.le_add_right _ _ | assumption); decide; iterate 4 exact rfl) | (apply Go.op; exact rfl; (first | exact aop_alloc | exact aop_new rfl rfl | exact aop_mksl rfl | exact aop_lenM rfl | exact rfl | exact aop_load rfl rfl rfl (Nat.le_of_ble_eq_true rfl) rfl | exact aop_store rfl rfl rfl rfl rfl rfl (Nat.le_of_ble_eq_true rfl))) | (apply Go.sop; exact rfl; (first | exact aop_lenM rfl | exact rfl)) | (apply Go.no; exact rfl) | (apply Go.sno; exact rfl) | (apply Qg.op; exact rfl; (first | exact aop_lenM rfl | exact rfl)) | (apply Qg.no; exact rfl) | (apply Go.cond true; exact rfl) | (apply Go.cond false; exact rfl) | ((first | (apply Go.pcallB; iterate 3 exact rfl) | (apply Go.spcallB; iterate 3 exact rfl) | (apply Qg.pcallB; iterate 3 exact rfl)); exact eqValS_ok a.vals b.vals hb.1; intro _ _) | (exfalso; omega) | ((first | (apply Go.iteD; exact rfl) | (apply Go.iteE; exact rfl) | (apply Go.iteN; exact rfl) | (apply Go.guardD; exact rfl) | (apply Go.guardE; exact rfl) | (apply Go.guardN; exact rfl) | (apply Go.sguardD; exact rfl) | (apply Go.sguardE; exact rfl) | (apply Go.sguardN; exact rfl) | (apply Qg.guardD; exact rfl) | (apply Qg.guardE; exact rfl) | (apply Qg.guardN; exact rfl)) <;> intro _) | (((first | (apply Go.guard; exact rfl) | (apply Go.sguard; exact rfl) | (apply Qg.guard; exact rfl) | (apply Go.ite; exact rfl)); fail_if_success (intro h; exact absurd h (by decide)); rotate_left; fail_if_success (intro h; exact absurd h (by decide)); rotate_right) <;> intro _)
  all_goals refine .ret rfl (.bool ?_)
  all_goals rw [hq]
  all_goals clear hq hb
  all_goals simp_all
theorem eqRowDS_ok (xs ys : List RowD) (hx : xs.length ≤ 34359738368) (hv : ∀ e ∈ xs, bRowD 34359738368 e) : Pure Tryz.prog 61 [.c (.fz (xs.map encRowD)), .c (.fz (ys.map encRowD))] (.c (.bool (xs == ys))) :=
  eqS_ok mixed c_laws_eqRowS_ok encRowD xs ys hx (fun _ => rfl) fun a ha b => eqRowD_ok a b (hv a ha)
structure Stmt where
  kind : Int
  table : List UInt8
  rows : List RowD
  wher : List Tok
  sets : List SetS
  policy : Int
  deriving DecidableEq
def encStmt (a : Stmt) : List Ce := [.int .i64 a.kind, .str a.table, .fz (a.rows.map encRowD), .fz (a.wher.map encTok), .fz (a.sets.map encSetS), .int .i64 a.policy]
def bStmt (N : Nat) (a : Stmt) : Prop := a.table.length ≤ N ∧ (a.rows.length ≤ N ∧ ∀ x ∈ a.rows, bRowD N x) ∧ (a.wher.length ≤ N ∧ ∀ x ∈ a.wher, bTok N x) ∧ (a.sets.length ≤ N ∧ ∀ x ∈ a.sets, bSetS N x)
def zStmt (a : Stmt) : Int → Int := chain [(fun l => l - a.table.length), (szL zRowD a.rows), (szL zTok a.wher), (szL zSetS a.sets)]
theorem zStmt_steps (a : Stmt) : Steps [(fun l => l - a.table.length), (szL zRowD a.rows), (szL zTok a.wher), (szL zSetS a.sets)] := (.cons (step_str _) (.cons (fun l h => szL_le zRowD_le _ l h) (.cons (fun l h => szL_le zTok_le _ l h) (.cons (fun l h => szL_le zSetS_le _ l h) .nil))))
theorem zStmt_le (a : Stmt) (l : Int) (h : 0 ≤ l) : zStmt a l ≤ l := chain_le (zStmt_steps a) l h
theorem bStmt_of (a : Stmt) (l : Int) (N : Nat) (h0 : 0 ≤ l) (h : 0 ≤ zStmt a l) (hl : l ≤ N) : bStmt N a := by
  have hh := chain_all (zStmt_steps a) l h0 h
  obtain ⟨q0, u0, v0, w0⟩ := hh (fun l => l - a.table.length) (by simp)
  obtain ⟨q1, u1, v1, w1⟩ := hh (szL zRowD a.rows) (by simp)
  obtain ⟨q2, u2, v2, w2⟩ := hh (szL zTok a.wher) (by simp)
  obtain ⟨q3, u3, v3, w3⟩ := hh (szL zSetS a.sets) (by simp)
  exact ⟨(by (try simp only at w0); omega), (list_of zRowD_le bRowD_of u1 w1 (by omega)), (list_of zTok_le bTok_of u2 w2 (by omega)), (list_of zSetS_le bSetS_of u3 w3 (by omega))⟩
theorem szStmt_ok (a : Stmt) (left : Int) (hb : bStmt 1125899906842624 a) (h0 : 0 ≤ left) (h1 : left ≤ 34359738368) : Pure Tryz.prog 19 [.agg (encStmt a), .c (.int .i64 left)] (.c (.int .i64 (zStmt a left))) := by
  refine Pure.run mixed c_laws_szStmt_ok (Nat.le_of_ble_eq_true rfl) fun σ hS hA => ?_
  clear hS hA
  have w1 : 0 ≤ left → IntKind.i64.wrap (left - a.table.length) = left - a.table.length := fun h => wrap64 (by have : a.table.length ≤ 1125899906842624 := hb.1; omega) (by omega)
  repeat' first | apply Go.seq | apply Go.skip | apply Go.region | apply Go.nil | apply Go.block | apply Go.blk | apply Go.draw | apply Go.segs | apply Go.qs | apply Qg.nil | (apply Go.exit; exact rfl) | (apply Go.var2; (first | exact Nat.le_add_right _ _ | assumption); (iterate 4 decide); iterate 5 exact rfl) | (apply Go.var; (first | exact Nat.le_add_right _ _ | assumption); decide; iterate 4 exact rfl) | (apply Go.op; exact rfl; (first | exact aop_alloc | exact aop_new rfl rfl | exact aop_mksl rfl | exact aop_lenM rfl | exact rfl | exact aop_load rfl rfl rfl (Nat.le_of_ble_eq_true rfl) rfl | exact aop_store rfl rfl rfl rfl rfl rfl (Nat.le_of_ble_eq_true rfl))) | (apply Go.sop; exact rfl; (first | exact aop_lenM rfl | exact rfl)) | (apply Go.no; exact rfl) | (apply Go.sno; exact rfl) | (apply Qg.op; exact rfl; (first | exact aop_lenM rfl | exact rfl)) | (apply Qg.no; exact rfl) | (apply Go.cond true; exact rfl) | (apply Go.cond false; exact rfl) | (exfalso; omega) | ((first | (apply Go.iteD; exact rfl) | (apply Go.iteE; exact rfl) | (apply Go.iteN; exact rfl) | (apply Go.guardD; exact rfl) | (apply Go.guardE; exact rfl) | (apply Go.guardN; exact rfl) | (apply Go.sguardD; exact rfl) | (apply Go.sguardE; exact rfl) | (apply Go.sguardN; exact rfl) | (apply Qg.guardD; exact rfl) | (apply Qg.guardE; exact rfl) | (apply Qg.guardN; exact rfl)) <;> intro _) | (((first | (apply Go.guard; exact rfl) | (apply Go.sguard; exact rfl) | (apply Qg.guard; exact rfl) | (apply Go.ite; exact rfl)); fail_if_success (intro h; exact absurd h (by decide)); rotate_left; fail_if_success (intro h; exact absurd h (by decide)); rotate_right) <;> intro _)
  · refine .ret rfl (.int ?_)
    rename_i h
    have v1 := w1 (by omega)
    simp only [v1] at h
    simp only [zStmt, chain, if_pos h]
  rename_i g1
  have v1 := w1 (by omega)
  simp only [v1] at g1 ⊢
  obtain ⟨l1, e1⟩ : ∃ q, left - (a.table.length : Int) = q := ⟨_, rfl⟩
  rw [e1] at g1 ⊢
  refine .pcall rfl rfl rfl (szRowDS_ok a.rows l1 hb.2.1.1 hb.2.1.2 (by omega) (by omega)) ?_
  have y2 := szL_le zRowD_le a.rows l1 (by omega)
  generalize e2 : szL zRowD a.rows l1 = l2 at y2 ⊢
  repeat' first | apply Go.seq | apply Go.skip | apply Go.region | apply Go.nil | apply Go.block | apply Go.blk | apply Go.draw | apply Go.segs | apply Go.qs | apply Qg.nil | (apply Go.exit; exact rfl) | (apply Go.var2; (first | exact Nat.le_add_right _ _ | assumption); (iterate 4 decide); iterate 5 exact rfl) | (apply Go.var; (first | exact Nat.le_add_right _ _ | assumption); decide; iterate 4 exact rfl) | (apply Go.op; exact rfl; (first | exact aop_alloc | exact aop_new rfl rfl | exact aop_mksl rfl | exact aop_lenM rfl | exact rfl | exact aop_load rfl rfl rfl (Nat.le_of_ble_eq_true rfl) rfl | exact aop_store rfl rfl rfl rfl rfl rfl (Nat.le_of_ble_eq_true rfl))) | (apply Go.sop; exact rfl; (first | exact aop_lenM rfl | exact rfl)) | (apply Go.no; exact rfl) | (apply Go.sno; exact rfl) | (apply Qg.op; exact rfl; (first | exact aop_lenM rfl | exact rfl)) | (apply Qg.no; exact rfl) | (apply Go.cond true; exact rfl) | (apply Go.cond false; exact rfl) | (exfalso; omega) | ((first | (apply Go.iteD; exact rfl) | (apply Go.iteE; exact rfl) | (apply Go.iteN; exact rfl) | (apply Go.guardD; exact rfl) | (apply Go.guardE; exact rfl) | (apply Go.guardN; exact rfl) | (apply Go.sguardD; exact rfl) | (apply Go.sguardE; exact rfl) | (apply Go.sguardN; exact rfl) | (apply Qg.guardD; exact rfl) | (apply Qg.guardE; exact rfl) | (apply Qg.guardN; exact rfl)) <;> intro _) | (((first | (apply Go.guard; exact rfl) | (apply Go.sguard; exact rfl) | (apply Qg.guard; exact rfl) | (apply Go.ite; exact rfl)); fail_if_success (intro h; exact absurd h (by decide)); rotate_left; fail_if_success (intro h; exact absurd h (by decide)); rotate_right) <;> intro _)
  · refine .ret rfl (.int ?_)
    rename_i h
    simp only [zStmt, chain, e1, if_neg g1, e2, if_pos h]
  rename_i g2
  refine .pcall rfl rfl rfl (szTokS_ok a.wher l2 hb.2.2.1.1 hb.2.2.1.2 (by omega) (by omega)) ?_
  have y3 := szL_le zTok_le a.wher l2 (by omega)
  generalize e3 : szL zTok a.wher l2 = l3 at y3 ⊢
  repeat' first | apply Go.seq | apply Go.skip | apply Go.region | apply Go.nil | apply Go.block | apply Go.blk | apply Go.draw | apply Go.segs | apply Go.qs | apply Qg.nil | (apply Go.exit; exact rfl) | (apply Go.var2; (first | exact Nat.le_add_right _ _ | assumption); (iterate 4 decide); iterate 5 exact rfl) | (apply Go.var; (first | exact Nat.le_add_right _ _ | assumption); decide; iterate 4 exact rfl) | (apply Go.op; exact rfl; (first | exact aop_alloc | exact aop_new rfl rfl | exact aop_mksl rfl | exact aop_lenM rfl | exact rfl | exact aop_load rfl rfl rfl (Nat.le_of_ble_eq_true rfl) rfl | exact aop_store rfl rfl rfl rfl rfl rfl (Nat.le_of_ble_eq_true rfl))) | (apply Go.sop; exact rfl; (first | exact aop_lenM rfl | exact rfl)) | (apply Go.no; exact rfl) | (apply Go.sno; exact rfl) | (apply Qg.op; exact rfl; (first | exact aop_lenM rfl | exact rfl)) | (apply Qg.no; exact rfl) | (apply Go.cond true; exact rfl) | (apply Go.cond false; exact rfl) | (exfalso; omega) | ((first | (apply Go.iteD; exact rfl) | (apply Go.iteE; exact rfl) | (apply Go.iteN; exact rfl) | (apply Go.guardD; exact rfl) | (apply Go.guardE; exact rfl) | (apply Go.guardN; exact rfl) | (apply Go.sguardD; exact rfl) | (apply Go.sguardE; exact rfl) | (apply Go.sguardN; exact rfl) | (apply Qg.guardD; exact rfl) | (apply Qg.guardE; exact rfl) | (apply Qg.guardN; exact rfl)) <;> intro _) | (((first | (apply Go.guard; exact rfl) | (apply Go.sguard; exact rfl) | (apply Qg.guard; exact rfl) | (apply Go.ite; exact rfl)); fail_if_success (intro h; exact absurd h (by decide)); rotate_left; fail_if_success (intro h; exact absurd h (by decide)); rotate_right) <;> intro _)
  · refine .ret rfl (.int ?_)
    rename_i h
    simp only [zStmt, chain, e1, if_neg g1, e2, if_neg g2, e3, if_pos h]
  rename_i g3
  refine .pcall rfl rfl rfl (szSetSS_ok a.sets l3 hb.2.2.2.1 hb.2.2.2.2 (by omega) (by omega)) ?_
  have y4 := szL_le zSetS_le a.sets l3 (by omega)
  generalize e4 : szL zSetS a.sets l3 = l4 at y4 ⊢
  repeat' first | apply Go.seq | apply Go.skip | apply Go.region | apply Go.nil | apply Go.block | apply Go.blk | apply Go.draw | apply Go.segs | apply Go.qs | apply Qg.nil | (apply Go.exit; exact rfl) | (apply Go.var2; (first | exact Nat.le_add_right _ _ | assumption); (iterate 4 decide); iterate 5 exact rfl) | (apply Go.var; (first | exact Nat.le_add_right _ _ | assumption); decide; iterate 4 exact rfl) | (apply Go.op; exact rfl; (first | exact aop_alloc | exact aop_new rfl rfl | exact aop_mksl rfl | exact aop_lenM rfl | exact rfl | exact aop_load rfl rfl rfl (Nat.le_of_ble_eq_true rfl) rfl | exact aop_store rfl rfl rfl rfl rfl rfl (Nat.le_of_ble_eq_true rfl))) | (apply Go.sop; exact rfl; (first | exact aop_lenM rfl | exact rfl)) | (apply Go.no; exact rfl) | (apply Go.sno; exact rfl) | (apply Qg.op; exact rfl; (first | exact aop_lenM rfl | exact rfl)) | (apply Qg.no; exact rfl) | (apply Go.cond true; exact rfl) | (apply Go.cond false; exact rfl) | (exfalso; omega) | ((first | (apply Go.iteD; exact rfl) | (apply Go.iteE; exact rfl) | (apply Go.iteN; exact rfl) | (apply Go.guardD; exact rfl) | (apply Go.guardE; exact rfl) | (apply Go.guardN; exact rfl) | (apply Go.sguardD; exact rfl) | (apply Go.sguardE; exact rfl) | (apply Go.sguardN; exact rfl) | (apply Qg.guardD; exact rfl) | (apply Qg.guardE; exact rfl) | (apply Qg.guardN; exact rfl)) <;> intro _) | (((first | (apply Go.guard; exact rfl) | (apply Go.sguard; exact rfl) | (apply Qg.guard; exact rfl) | (apply Go.ite; exact rfl)); fail_if_success (intro h; exact absurd h (by decide)); rotate_left; fail_if_success (intro h; exact absurd h (by decide)); rotate_right) <;> intro _)
  · refine .ret rfl (.int ?_)
    rename_i h
    simp only [zStmt, chain, e1, if_neg g1, e2, if_neg g2, e3, if_neg g3, e4, if_pos h]
  rename_i g4
  refine .ret rfl (.int ?_)
  simp only [zStmt, chain, e1, if_neg g1, e2, if_neg g2, e3, if_neg g3, e4, if_neg g4]
theorem toStmt_ok (a : Stmt) (hb : bStmt 34359738368 a) (σ : Store) : Ok Tryz.prog 21 [.agg (encStmt a)] σ (NewL σ (encStmt a)) := by
  refine Ok.run mixed c_laws_toStmt_ok (Nat.le_of_ble_eq_true rfl) fun hS hA => ?_
  clear hS hA
  repeat' first | apply Go.seq | apply Go.skip | apply Go.region | apply Go.nil | apply Go.block | apply Go.blk | apply Go.draw | apply Go.segs | apply Go.qs | apply Qg.nil | (apply Go.exit; exact rfl) | (apply Go.var2; (first | exact Nat.le_add_right _ _ | assumption); (iterate 4 decide); iterate 5 exact rfl) | (apply Go.var; (first | exact Nat.le_add_right _ _ | assumption); decide; iterate 4 exact rfl) | (apply Go.op; exact rfl; (first | exact aop_alloc | exact aop_new rfl rfl | exact aop_mksl rfl | exact aop_lenM rfl | exact rfl | exact aop_load rfl rfl rfl (Nat.le_of_ble_eq_true rfl) rfl | exact aop_store rfl rfl rfl rfl rfl rfl (Nat.le_of_ble_eq_true rfl))) | (apply Go.sop; exact rfl; (first | exact aop_lenM rfl | exact rfl)) | (apply Go.no; exact rfl) | (apply Go.sno; exact rfl) | (apply Qg.op; exact rfl; (first | exact aop_lenM rfl | exact rfl)) | (apply Qg.no; exact rfl) | (apply Go.cond true; exact rfl) | (apply Go.cond false; exact rfl) | (exfalso; omega) | ((first | (apply Go.iteD; exact rfl) | (apply Go.iteE; exact rfl) | (apply Go.iteN; exact rfl) | (apply Go.guardD; exact rfl) | (apply Go.guardE; exact rfl) | (apply Go.guardN; exact rfl) | (apply Go.sguardD; exact rfl) | (apply Go.sguardE; exact rfl) | (apply Go.sguardN; exact rfl) | (apply Qg.guardD; exact rfl) | (apply Qg.guardE; exact rfl) | (apply Qg.guardN; exact rfl)) <;> intro _) | (((first | (apply Go.guard; exact rfl) | (apply Go.sguard; exact rfl) | (apply Qg.guard; exact rfl) | (apply Go.ite; exact rfl)); fail_if_success (intro h; exact absurd h (by decide)); rotate_left; fail_if_success (intro h; exact absurd h (by decide)); rotate_right) <;> intro _)
  refine Go.call _ rfl rfl rfl (toRowDS_ok a.rows hb.2.1.1 hb.2.1.2 _) ?_
  rintro r σ0 ⟨x0, m0, rfl, rfl, t0, h0⟩
  rw [E_E] at h0 ⊢
  have t0 := tidy_up t0
  have h0 := h0.new2
  repeat' first | apply Go.seq | apply Go.skip | apply Go.region | apply Go.nil | apply Go.block | apply Go.blk | apply Go.draw | apply Go.segs | apply Go.qs | apply Qg.nil | (apply Go.exit; exact rfl) | (apply Go.var2; (first | exact Nat.le_add_right _ _ | assumption); (iterate 4 decide); iterate 5 exact rfl) | (apply Go.var; (first | exact Nat.le_add_right _ _ | assumption); decide; iterate 4 exact rfl) | (apply Go.op; exact rfl; (first | exact aop_alloc | exact aop_new rfl rfl | exact aop_mksl rfl | exact aop_lenM rfl | exact rfl | exact aop_load rfl rfl rfl (Nat.le_of_ble_eq_true rfl) rfl | exact aop_store rfl rfl rfl rfl rfl rfl (Nat.le_of_ble_eq_true rfl))) | (apply Go.sop; exact rfl; (first | exact aop_lenM rfl | exact rfl)) | (apply Go.no; exact rfl) | (apply Go.sno; exact rfl) | (apply Qg.op; exact rfl; (first | exact aop_lenM rfl | exact rfl)) | (apply Qg.no; exact rfl) | (apply Go.cond true; exact rfl) | (apply Go.cond false; exact rfl) | (exfalso; omega) | ((first | (apply Go.iteD; exact rfl) | (apply Go.iteE; exact rfl) | (apply Go.iteN; exact rfl) | (apply Go.guardD; exact rfl) | (apply Go.guardE; exact rfl) | (apply Go.guardN; exact rfl) | (apply Go.sguardD; exact rfl) | (apply Go.sguardE; exact rfl) | (apply Go.sguardN; exact rfl) | (apply Qg.guardD; exact rfl) | (apply Qg.guardE; exact rfl) | (apply Qg.guardN; exact rfl)) <;> intro _) | (((first | (apply Go.guard; exact rfl) | (apply Go.sguard; exact rfl) | (apply Qg.guard; exact rfl) | (apply Go.ite; exact rfl)); fail_if_success (intro h; exact absurd h (by decide)); rotate_left; fail_if_success (intro h; exact absurd h (by decide)); rotate_right) <;> intro _)
  refine Go.call _ rfl rfl rfl (toTokS_ok a.wher hb.2.2.1.1 hb.2.2.1.2 _) ?_
  rintro r σ1 ⟨x1, m1, rfl, rfl, t1, h1⟩
  rw [E_E] at h1 ⊢
  have t1 := tidy_up t1
  have h1 := h1.new2
  have h0 := Has.more h0 (fun a ha => by have h9 := ha.1; have h8 := ha.2; simp only [List.append_eq, List.length_nil, List.length_append, List.nil_append] at h9 h8 ⊢; omega) m1
  repeat' first | apply Go.seq | apply Go.skip | apply Go.region | apply Go.nil | apply Go.block | apply Go.blk | apply Go.draw | apply Go.segs | apply Go.qs | apply Qg.nil | (apply Go.exit; exact rfl) | (apply Go.var2; (first | exact Nat.le_add_right _ _ | assumption); (iterate 4 decide); iterate 5 exact rfl) | (apply Go.var; (first | exact Nat.le_add_right _ _ | assumption); decide; iterate 4 exact rfl) | (apply Go.op; exact rfl; (first | exact aop_alloc | exact aop_new rfl rfl | exact aop_mksl rfl | exact aop_lenM rfl | exact rfl | exact aop_load rfl rfl rfl (Nat.le_of_ble_eq_true rfl) rfl | exact aop_store rfl rfl rfl rfl rfl rfl (Nat.le_of_ble_eq_true rfl))) | (apply Go.sop; exact rfl; (first | exact aop_lenM rfl | exact rfl)) | (apply Go.no; exact rfl) | (apply Go.sno; exact rfl) | (apply Qg.op; exact rfl; (first | exact aop_lenM rfl | exact rfl)) | (apply Qg.no; exact rfl) | (apply Go.cond true; exact rfl) | (apply Go.cond false; exact rfl) | (exfalso; omega) | ((first | (apply Go.iteD; exact rfl) | (apply Go.iteE; exact rfl) | (apply Go.iteN; exact rfl) | (apply Go.guardD; exact rfl) | (apply Go.guardE; exact rfl) | (apply Go.guardN; exact rfl) | (apply Go.sguardD; exact rfl) | (apply Go.sguardE; exact rfl) | (apply Go.sguardN; exact rfl) | (apply Qg.guardD; exact rfl) | (apply Qg.guardE; exact rfl) | (apply Qg.guardN; exact rfl)) <;> intro _) | (((first | (apply Go.guard; exact rfl) | (apply Go.sguard; exact rfl) | (apply Qg.guard; exact rfl) | (apply Go.ite; exact rfl)); fail_if_success (intro h; exact absurd h (by decide)); rotate_left; fail_if_success (intro h; exact absurd h (by decide)); rotate_right) <;> intro _)
  refine Go.call _ rfl rfl rfl (toSetSS_ok a.sets hb.2.2.2.1 hb.2.2.2.2 _) ?_
  rintro r σ2 ⟨x2, m2, rfl, rfl, t2, h2⟩
  rw [E_E] at h2 ⊢
  have t2 := tidy_up t2
  have h2 := h2.new2
  have h0 := Has.more h0 (fun a ha => by have h9 := ha.1; have h8 := ha.2; simp only [List.append_eq, List.length_nil, List.length_append, List.nil_append] at h9 h8 ⊢; omega) m2
  have h1 := Has.more h1 (fun a ha => by have h9 := ha.1; have h8 := ha.2; simp only [List.append_eq, List.length_nil, List.length_append, List.nil_append] at h9 h8 ⊢; omega) m2
  repeat' first | apply Go.seq | apply Go.skip | apply Go.region | apply Go.nil | apply Go.block | apply Go.blk | apply Go.draw | apply Go.segs | apply Go.qs | apply Qg.nil | (apply Go.exit; exact rfl) | (apply Go.var2; (first | exact Nat.le_add_right _ _ | assumption); (iterate 4 decide); iterate 5 exact rfl) | (apply Go.var; (first | exact Nat.le_add_right _ _ | assumption); decide; iterate 4 exact rfl) | (apply Go.op; exact rfl; (first | exact aop_alloc | exact aop_new rfl rfl | exact aop_mksl rfl | exact aop_lenM rfl | exact rfl | exact aop_load rfl rfl rfl (Nat.le_of_ble_eq_true rfl) rfl | exact aop_store rfl rfl rfl rfl rfl rfl (Nat.le_of_ble_eq_true rfl))) | (apply Go.sop; exact rfl; (first | exact aop_lenM rfl | exact rfl)) | (apply Go.no; exact rfl) | (apply Go.sno; exact rfl) | (apply Qg.op; exact rfl; (first | exact aop_lenM rfl | exact rfl)) | (apply Qg.no; exact rfl) | (apply Go.cond true; exact rfl) | (apply Go.cond false; exact rfl) | (exfalso; omega) | ((first | (apply Go.iteD; exact rfl) | (apply Go.iteE; exact rfl) | (apply Go.iteN; exact rfl) | (apply Go.guardD; exact rfl) | (apply Go.guardE; exact rfl) | (apply Go.guardN; exact rfl) | (apply Go.sguardD; exact rfl) | (apply Go.sguardE; exact rfl) | (apply Go.sguardN; exact rfl) | (apply Qg.guardD; exact rfl) | (apply Qg.guardE; exact rfl) | (apply Qg.guardN; exact rfl)) <;> intro _) | (((first | (apply Go.guard; exact rfl) | (apply Go.sguard; exact rfl) | (apply Qg.guard; exact rfl) | (apply Go.ite; exact rfl)); fail_if_success (intro h; exact absurd h (by decide)); rotate_left; fail_if_success (intro h; exact absurd h (by decide)); rotate_right) <;> intro _)
  have hL : HasL (E σ ((0, [[.int .i64 a.kind, .str a.table, x0, x1, x2, .int .i64 a.policy]]) :: (0, [[.int .i64 a.kind, .str a.table, x0, x1, x2, .int .i64 a.policy]]) :: ([] ++ m0 ++ m1 ++ m2))) (fun a => σ.next + 2 ≤ a ∧ a < σ.next + 2 + ([] ++ m0 ++ m1 ++ m2).length) (encStmt a) [.int .i64 a.kind, .str a.table, x0, x1, x2, .int .i64 a.policy] := by
    refine HasL.mono ?_ (HasL.skip (.int _ _) (HasL.skip (.str _) (HasL.two (h0 _ _) (HasL.two (h1 _ _) (HasL.two (h2 _ _) (HasL.skip (.int _ _) (HasL.nil (S := fun a => a < 0))) (fun a ha hb => by (try dsimp only at ha hb); (try simp only [List.append_eq, List.length_append, List.length_nil, List.nil_append] at ha hb); omega)) (fun a ha hb => by (try dsimp only at ha hb); (try simp only [List.append_eq, List.length_append, List.length_nil, List.nil_append] at ha hb); omega)) (fun a ha hb => by (try dsimp only at ha hb); (try simp only [List.append_eq, List.length_append, List.length_nil, List.nil_append] at ha hb); omega))))
    intro a ha
    (try dsimp only at ha)
    (try simp only [List.append_eq, List.length_append, List.length_nil, List.nil_append] at ha ⊢)
    omega
  have hT := hL.tidy (n := σ.next) fun a ha => by have := ha.1; omega
  have hM : TidyL σ.next ([] ++ m0 ++ m1 ++ m2) := (tidy_pre (tidy_pre (tidy_pre (fun b hb => by simp at hb) t0) t1) t2)
  have hN : NewL σ (encStmt a) (.agg [.int .i64 a.kind, .str a.table, x0, x1, x2, .int .i64 a.policy]) (E σ ((0, [[.int .i64 a.kind, .str a.table, x0, x1, x2, .int .i64 a.policy]]) :: (0, [[.int .i64 a.kind, .str a.table, x0, x1, x2, .int .i64 a.policy]]) :: ([] ++ m0 ++ m1 ++ m2))) := by
    refine ⟨_, _, rfl, rfl, .one hT (.one hT hM), hL.mono ?_⟩
    intro a ha
    have h9 := ha.1
    have h8 := ha.2
    (try simp only [E_next, List.length_cons, List.append_eq, List.length_append, List.length_nil, List.nil_append] at h8 ⊢)
    constructor <;> omega
  exact .ret (retv_m rfl rfl rfl (Nat.le_of_ble_eq_true rfl) rfl) hN
theorem Stmt_beq (a b : Stmt) : (a == b) = (a.kind == b.kind && a.table == b.table && a.rows == b.rows && a.wher == b.wher && a.sets == b.sets && a.policy == b.policy) := by
  obtain ⟨a0, a1, a2, a3, a4, a5⟩ := a
  obtain ⟨b0, b1, b2, b3, b4, b5⟩ := b
  rw [Bool.eq_iff_iff]
  simp [and_assoc]
theorem eqStmt_ok (a b : Stmt) (hb : bStmt 34359738368 a) : Pure Tryz.prog 23 [.agg (encStmt a), .agg (encStmt b)] (.c (.bool (a == b))) := by
  refine Pure.run mixed c_laws_eqStmt_ok (Nat.le_of_ble_eq_true rfl) fun σ hS hA => ?_
  clear hS hA
  have hq := Stmt_beq a b
  repeat' first | apply Go.seq | apply Go.skip | apply Go.region | apply Go.nil | apply Go.block | apply Go.blk | apply Go.draw | apply Go.segs | apply Go.qs | apply Qg.nil | (apply Go.exit; exact rfl) | (apply Go.var2; (first | exact Nat.le_add_right _ _ | assumption); (iterate 4 decide); iterate 5 exact rfl) | (apply Go.var; (first | exact Nat.le_add_right _ _ | assumption); decide; iterate 4 exact rfl) | (apply Go.op; exact rfl; (first | exact aop_alloc | exact aop_new rfl rfl | exact aop_mksl rfl | exact aop_lenM rfl | exact rfl | exact aop_load rfl rfl rfl (Nat.le_of_ble_eq_true rfl) rfl | exact aop_store rfl rfl rfl rfl rfl rfl (Nat.le_of_ble_eq_true rfl))) | (apply Go.sop; exact rfl; (first | exact aop_lenM rfl | exact rfl)) | (apply Go.no; exact rfl) | (apply Go.sno; exact rfl) | (apply Qg.op; exact rfl; (first | exact aop_lenM rfl | exact rfl)) | (apply Qg.no; exact rfl) | (apply Go.cond true; exact rfl) | (apply Go.cond false; exact rfl) | ((first | (apply Go.pcallB; iterate 3 exact rfl) | (apply Go.spcallB; iterate 3 exact rfl) | (apply Qg.pcallB; iterate 3 exact rfl)); (first | exact eqRowDS_ok a.rows b.rows hb.2.1.1 hb.2.1.2 | exact eqTokS_ok a.wher b.wher hb.2.2.1.1 hb.2.2.1.2 | exact eqSetSS_ok a.sets b.sets hb.2.2.2.1 hb.2.2.2.2); intro _ _) | (exfalso; omega) | ((first | (apply Go.iteD; exact rfl) | (apply Go.iteE; exact rfl) | (apply Go.iteN; exact rfl) | (apply Go.guardD; exact rfl) | (apply Go.guardE; exact rfl) | (apply Go.guardN; exact rfl) | (apply Go.sguardD; exact rfl) | (apply Go.sguardE; exact rfl) | (apply Go.sguardN; exact rfl) | (apply Qg.guardD; exact rfl) | (apply Qg.guardE; exact rfl) | (apply Qg.guardN; exact rfl)) <;> intro _) | (((first | (apply Go.guard; exact rfl) | (apply Go.sguard; exact rfl) | (apply Qg.guard; exact rfl) | (apply Go.ite; exact rfl)); fail_if_success (intro h; exact absurd h (by decide)); rotate_left; fail_if_success (intro h; exact absurd h (by decide)); rotate_right) <;> intro _)
  all_goals refine .ret rfl (.bool ?_)
  all_goals rw [hq]
  all_goals clear hq hb
  all_goals simp_all
end Go.Proofs.YtpjfihdlbdogpaaGreat.Am

/- The laws' helpers on types, printed by a program: Tok, Check, Unique, Fk, Col, Table, Term, Select, Trigger, Set, Row, Stmt. -/
set_option linter.unusedVariables false
set_option linter.unusedSimpArgs false
namespace Go.Proofs.YtpjfihdlbdogpaaGreat.Am
open Go.RowKit Go.ChangeShapes Go.WideShapes
section
variable {H : Type} {enc : TypeId × Value → H} {W : World}
theorem openIs : Opens enc Tryz.prog W 25 (fun l : List Int => [.fz (l.map encI)]) (fun l => l.length ≤ 140737488351232) :=
  (Opens.slice (s := 1) Tryz.underlying25 (.int Tryz.underlying2) (by kernel_rfl) (by decide) (fun _ => rfl)).iso id (fun _ => rfl) fun l h => Nat.le_trans (Nat.le_mul_of_pos_right _ (of_decide_eq_true (by kernel_rfl))) h.1
theorem openTok : Opens enc Tryz.prog W 126 encTok (bTok 1125899906842624) :=
  (Opens.struct (s := 5) Tryz.underlying126 (.cons (s := 1) rfl (.int Tryz.underlying2) rfl (fun _ => rfl) (.cons (s := 1) rfl (.int Tryz.underlying2) rfl (fun _ => rfl) (.cons (s := 3) rfl openV rfl (fun _ => rfl) .nil))) (by kernel_rfl) (fun _ => rfl)).iso (fun p => Tok.mk p.1 p.2.1 p.2.2.1) (fun _ => rfl) fun p h => h.2.2.1
theorem openToks : Opens enc Tryz.prog W 24 (fun l : List Tok => [.fz (l.map encTok)]) (fun l => l.length ≤ 140737488351232 ∧ ∀ v ∈ l, bTok 1125899906842624 v) :=
  (Opens.slice (s := 5) Tryz.underlying24 openTok (by kernel_rfl) (by decide) (fun _ => rfl)).iso id (fun _ => rfl) fun l h => ⟨Nat.le_trans (Nat.le_mul_of_pos_right _ (of_decide_eq_true (by kernel_rfl))) h.1, h.2⟩
theorem openChk : Opens enc Tryz.prog W 183 encChk (bChk 1125899906842624) :=
  (Opens.struct (s := 1) Tryz.underlying183 (.cons (s := 1) rfl openToks rfl (fun _ => rfl) .nil) (by kernel_rfl) (fun _ => rfl)).iso (fun p => Chk.mk p.1) (fun _ => rfl) fun p h => ⟨Nat.le_trans h.1.1 (by decide), h.1.2⟩
theorem openChks : Opens enc Tryz.prog W 64 (fun l : List Chk => [.fz (l.map encChk)]) (fun l => l.length ≤ 140737488351232 ∧ ∀ v ∈ l, bChk 1125899906842624 v) :=
  (Opens.slice (s := 1) Tryz.underlying64 openChk (by kernel_rfl) (by decide) (fun _ => rfl)).iso id (fun _ => rfl) fun l h => ⟨Nat.le_trans (Nat.le_mul_of_pos_right _ (of_decide_eq_true (by kernel_rfl))) h.1, h.2⟩
theorem openUniq : Opens enc Tryz.prog W 181 encUniq (bUniq 1125899906842624) :=
  (Opens.struct (s := 1) Tryz.underlying181 (.cons (s := 1) rfl openIs rfl (fun _ => rfl) .nil) (by kernel_rfl) (fun _ => rfl)).iso (fun p => Uniq.mk p.1) (fun _ => rfl) fun p h => Nat.le_trans h.1 (by decide)
theorem openUniqs : Opens enc Tryz.prog W 63 (fun l : List Uniq => [.fz (l.map encUniq)]) (fun l => l.length ≤ 140737488351232 ∧ ∀ v ∈ l, bUniq 1125899906842624 v) :=
  (Opens.slice (s := 1) Tryz.underlying63 openUniq (by kernel_rfl) (by decide) (fun _ => rfl)).iso id (fun _ => rfl) fun l h => ⟨Nat.le_trans (Nat.le_mul_of_pos_right _ (of_decide_eq_true (by kernel_rfl))) h.1, h.2⟩
theorem openFk : Opens enc Tryz.prog W 185 encFk (bFk 1125899906842624) :=
  (Opens.struct (s := 5) Tryz.underlying185 (.cons (s := 1) rfl openIs rfl (fun _ => rfl) (.cons (s := 1) rfl (.str Tryz.underlying9) rfl (fun _ => rfl) (.cons (s := 1) rfl (.int Tryz.underlying2) rfl (fun _ => rfl) (.cons (s := 1) rfl (.int Tryz.underlying2) rfl (fun _ => rfl) (.cons (s := 1) rfl (.bool Tryz.underlying4) rfl (fun _ => rfl) .nil))))) (by kernel_rfl) (fun _ => rfl)).iso (fun p => Fk.mk p.1 p.2.1 p.2.2.1 p.2.2.2.1 p.2.2.2.2.1) (fun _ => rfl) fun p h => ⟨Nat.le_trans h.1 (by decide), Nat.le_trans h.2.1 (by decide)⟩
theorem openFks : Opens enc Tryz.prog W 65 (fun l : List Fk => [.fz (l.map encFk)]) (fun l => l.length ≤ 140737488351232 ∧ ∀ v ∈ l, bFk 1125899906842624 v) :=
  (Opens.slice (s := 5) Tryz.underlying65 openFk (by kernel_rfl) (by decide) (fun _ => rfl)).iso id (fun _ => rfl) fun l h => ⟨Nat.le_trans (Nat.le_mul_of_pos_right _ (of_decide_eq_true (by kernel_rfl))) h.1, h.2⟩
theorem openCol : Opens enc Tryz.prog W 178 encCol (bCol 1125899906842624) :=
  (Opens.struct (s := 6) Tryz.underlying178 (.cons (s := 1) rfl (.str Tryz.underlying9) rfl (fun _ => rfl) (.cons (s := 1) rfl (.int Tryz.underlying2) rfl (fun _ => rfl) (.cons (s := 1) rfl (.bool Tryz.underlying4) rfl (fun _ => rfl) (.cons (s := 3) rfl openV rfl (fun _ => rfl) .nil)))) (by kernel_rfl) (fun _ => rfl)).iso (fun p => Col.mk p.1 p.2.1 p.2.2.1 p.2.2.2.1) (fun _ => rfl) fun p h => ⟨Nat.le_trans h.1 (by decide), h.2.2.2.1⟩
theorem openCols : Opens enc Tryz.prog W 62 (fun l : List Col => [.fz (l.map encCol)]) (fun l => l.length ≤ 140737488351232 ∧ ∀ v ∈ l, bCol 1125899906842624 v) :=
  (Opens.slice (s := 6) Tryz.underlying62 openCol (by kernel_rfl) (by decide) (fun _ => rfl)).iso id (fun _ => rfl) fun l h => ⟨Nat.le_trans (Nat.le_mul_of_pos_right _ (of_decide_eq_true (by kernel_rfl))) h.1, h.2⟩
theorem openTable : Opens enc Tryz.prog W 67 encTable (bTable 1125899906842624) :=
  (Opens.struct (s := 6) Tryz.underlying67 (.cons (s := 1) rfl (.str Tryz.underlying9) rfl (fun _ => rfl) (.cons (s := 1) rfl openCols rfl (fun _ => rfl) (.cons (s := 1) rfl openIs rfl (fun _ => rfl) (.cons (s := 1) rfl openUniqs rfl (fun _ => rfl) (.cons (s := 1) rfl openChks rfl (fun _ => rfl) (.cons (s := 1) rfl openFks rfl (fun _ => rfl) .nil)))))) (by kernel_rfl) (fun _ => rfl)).iso (fun p => Table.mk p.1 p.2.1 p.2.2.1 p.2.2.2.1 p.2.2.2.2.1 p.2.2.2.2.2.1) (fun _ => rfl) fun p h => ⟨Nat.le_trans h.1 (by decide), ⟨Nat.le_trans h.2.1.1 (by decide), h.2.1.2⟩, Nat.le_trans h.2.2.1 (by decide), ⟨Nat.le_trans h.2.2.2.1.1 (by decide), h.2.2.2.1.2⟩, ⟨Nat.le_trans h.2.2.2.2.1.1 (by decide), h.2.2.2.2.1.2⟩, ⟨Nat.le_trans h.2.2.2.2.2.1.1 (by decide), h.2.2.2.2.2.1.2⟩⟩
theorem openTables : Opens enc Tryz.prog W 22 (fun l : List Table => [.fz (l.map encTable)]) (fun l => l.length ≤ 140737488351232 ∧ ∀ v ∈ l, bTable 1125899906842624 v) :=
  (Opens.slice (s := 6) Tryz.underlying22 openTable (by kernel_rfl) (by decide) (fun _ => rfl)).iso id (fun _ => rfl) fun l h => ⟨Nat.le_trans (Nat.le_mul_of_pos_right _ (of_decide_eq_true (by kernel_rfl))) h.1, h.2⟩
theorem openTerm : Opens enc Tryz.prog W 121 encTerm (bTerm 1125899906842624) :=
  (Opens.struct (s := 1) Tryz.underlying121 (.cons (s := 1) rfl openToks rfl (fun _ => rfl) .nil) (by kernel_rfl) (fun _ => rfl)).iso (fun p => Term.mk p.1) (fun _ => rfl) fun p h => ⟨Nat.le_trans h.1.1 (by decide), h.1.2⟩
theorem openTerms : Opens enc Tryz.prog W 23 (fun l : List Term => [.fz (l.map encTerm)]) (fun l => l.length ≤ 140737488351232 ∧ ∀ v ∈ l, bTerm 1125899906842624 v) :=
  (Opens.slice (s := 1) Tryz.underlying23 openTerm (by kernel_rfl) (by decide) (fun _ => rfl)).iso id (fun _ => rfl) fun l h => ⟨Nat.le_trans (Nat.le_mul_of_pos_right _ (of_decide_eq_true (by kernel_rfl))) h.1, h.2⟩
theorem openSel : Opens enc Tryz.prog W 27 encSel (bSel 1125899906842624) :=
  (Opens.struct (s := 5) Tryz.underlying27 (.cons (s := 1) rfl (.str Tryz.underlying9) rfl (fun _ => rfl) (.cons (s := 1) rfl openTerms rfl (fun _ => rfl) (.cons (s := 1) rfl openToks rfl (fun _ => rfl) (.cons (s := 1) rfl openIs rfl (fun _ => rfl) (.cons (s := 1) rfl (.int Tryz.underlying2) rfl (fun _ => rfl) .nil))))) (by kernel_rfl) (fun _ => rfl)).iso (fun p => Sel.mk p.1 p.2.1 p.2.2.1 p.2.2.2.1 p.2.2.2.2.1) (fun _ => rfl) fun p h => ⟨Nat.le_trans h.1 (by decide), ⟨Nat.le_trans h.2.1.1 (by decide), h.2.1.2⟩, ⟨Nat.le_trans h.2.2.1.1 (by decide), h.2.2.1.2⟩, Nat.le_trans h.2.2.2.1 (by decide)⟩
theorem openTrigger : Opens enc Tryz.prog W 93 encTrigger (bTrigger 1125899906842624) :=
  (Opens.struct (s := 5) Tryz.underlying93 (.cons (s := 1) rfl (.str Tryz.underlying9) rfl (fun _ => rfl) (.cons (s := 1) rfl (.int Tryz.underlying2) rfl (fun _ => rfl) (.cons (s := 1) rfl openToks rfl (fun _ => rfl) (.cons (s := 1) rfl (.str Tryz.underlying9) rfl (fun _ => rfl) (.cons (s := 1) rfl openTerms rfl (fun _ => rfl) .nil))))) (by kernel_rfl) (fun _ => rfl)).iso (fun p => Trigger.mk p.1 p.2.1 p.2.2.1 p.2.2.2.1 p.2.2.2.2.1) (fun _ => rfl) fun p h => ⟨Nat.le_trans h.1 (by decide), ⟨Nat.le_trans h.2.2.1.1 (by decide), h.2.2.1.2⟩, Nat.le_trans h.2.2.2.1 (by decide), ⟨Nat.le_trans h.2.2.2.2.1.1 (by decide), h.2.2.2.2.1.2⟩⟩
theorem openTriggers : Opens enc Tryz.prog W 41 (fun l : List Trigger => [.fz (l.map encTrigger)]) (fun l => l.length ≤ 140737488351232 ∧ ∀ v ∈ l, bTrigger 1125899906842624 v) :=
  (Opens.slice (s := 5) Tryz.underlying41 openTrigger (by kernel_rfl) (by decide) (fun _ => rfl)).iso id (fun _ => rfl) fun l h => ⟨Nat.le_trans (Nat.le_mul_of_pos_right _ (of_decide_eq_true (by kernel_rfl))) h.1, h.2⟩
theorem openSetS : Opens enc Tryz.prog W 165 encSetS (bSetS 1125899906842624) :=
  (Opens.struct (s := 2) Tryz.underlying165 (.cons (s := 1) rfl (.int Tryz.underlying2) rfl (fun _ => rfl) (.cons (s := 1) rfl openToks rfl (fun _ => rfl) .nil)) (by kernel_rfl) (fun _ => rfl)).iso (fun p => SetS.mk p.1 p.2.1) (fun _ => rfl) fun p h => ⟨Nat.le_trans h.2.1.1 (by decide), h.2.1.2⟩
theorem openSetSs : Opens enc Tryz.prog W 49 (fun l : List SetS => [.fz (l.map encSetS)]) (fun l => l.length ≤ 140737488351232 ∧ ∀ v ∈ l, bSetS 1125899906842624 v) :=
  (Opens.slice (s := 2) Tryz.underlying49 openSetS (by kernel_rfl) (by decide) (fun _ => rfl)).iso id (fun _ => rfl) fun l h => ⟨Nat.le_trans (Nat.le_mul_of_pos_right _ (of_decide_eq_true (by kernel_rfl))) h.1, h.2⟩
theorem openRowD : Opens enc Tryz.prog W 162 encRowD (bRowD 1125899906842624) :=
  (Opens.struct (s := 2) Tryz.underlying162 (.cons (s := 1) rfl (.int Tryz.underlying2) rfl (fun _ => rfl) (.cons (s := 1) rfl openVs rfl (fun _ => rfl) .nil)) (by kernel_rfl) (fun _ => rfl)).iso (fun p => RowD.mk p.1 p.2.1) (fun _ => rfl) fun p h => ⟨Nat.le_trans h.2.1.1 (by decide), h.2.1.2⟩
theorem openRowDs : Opens enc Tryz.prog W 48 (fun l : List RowD => [.fz (l.map encRowD)]) (fun l => l.length ≤ 140737488351232 ∧ ∀ v ∈ l, bRowD 1125899906842624 v) :=
  (Opens.slice (s := 2) Tryz.underlying48 openRowD (by kernel_rfl) (by decide) (fun _ => rfl)).iso id (fun _ => rfl) fun l h => ⟨Nat.le_trans (Nat.le_mul_of_pos_right _ (of_decide_eq_true (by kernel_rfl))) h.1, h.2⟩
theorem openStmt : Opens enc Tryz.prog W 51 encStmt (bStmt 1125899906842624) :=
  (Opens.struct (s := 6) Tryz.underlying51 (.cons (s := 1) rfl (.int Tryz.underlying2) rfl (fun _ => rfl) (.cons (s := 1) rfl (.str Tryz.underlying9) rfl (fun _ => rfl) (.cons (s := 1) rfl openRowDs rfl (fun _ => rfl) (.cons (s := 1) rfl openToks rfl (fun _ => rfl) (.cons (s := 1) rfl openSetSs rfl (fun _ => rfl) (.cons (s := 1) rfl (.int Tryz.underlying2) rfl (fun _ => rfl) .nil)))))) (by kernel_rfl) (fun _ => rfl)).iso (fun p => Stmt.mk p.1 p.2.1 p.2.2.1 p.2.2.2.1 p.2.2.2.2.1 p.2.2.2.2.2.1) (fun _ => rfl) fun p h => ⟨Nat.le_trans h.2.1 (by decide), ⟨Nat.le_trans h.2.2.1.1 (by decide), h.2.2.1.2⟩, ⟨Nat.le_trans h.2.2.2.1.1 (by decide), h.2.2.2.1.2⟩, ⟨Nat.le_trans h.2.2.2.2.1.1 (by decide), h.2.2.2.2.1.2⟩⟩
end
end Go.Proofs.YtpjfihdlbdogpaaGreat.Am

/- The statement of the law FnExactTriggersOk: whatever its arguments are, it returns true, leaves what was there as it was, and ends. No condition. -/
namespace Go.Proofs.YtpjfihdlbdogpaaGreat.fnExactTriggersOk
open Go.ChangeShapes Go.WideShapes Go.ChangeAt Go.RowKit Go.Proofs.YtpjfihdlbdogpaaGreat.Am
open Go.ChangeMaps (open_string shut_string)
set_option linter.unusedVariables false
theorem own : ownKnob Tryz.prog.godebug = none := by kernel_rfl
theorem laidOut : laidOutB Tryz.prog = true := by kernel_rfl
set_option maxRecDepth 100000 in
theorem lifted (os : Os) (started : os.Started) (H : Type) (enc : TypeId × Value → H) :
    ReturnsInHanded {} Tryz.checked os 4 .any (Rows.fnExactTriggersOkSpec.pre6 enc Tryz.prog Tryz.f4 Rows.fnExactTriggersOkRow.domain false) (Rows.fnExactTriggersOkSpec.post enc Tryz.prog Tryz.f4 false true false false) := by
  refine returnsInHanded_of_change_sized (C := Tryz.checked) own started (by kernel_rfl) Tryz.func4
    (ChangeSpec.witness6 (enc := enc) (C := Tryz.checked) false ⟨#[], #[.slice none 0 0, .slice none 0 0], []⟩ 8 (by kernel_rfl) (by kernel_rfl) (by kernel_rfl) (by kernel_rfl)) ?_
  intro W base args ds gs before hval0 hW hcnd hsz0 _
  have hval : ∀ (j : Nat) t v, Tryz.f4.params[j]? = some t → args[j]? = some v → Value.okWide Tryz.prog W .any base t v := hval0
  have hW' := hW
  obtain ⟨p, q, hA0, hV, rfl, hfz, hnd⟩ := hW
  have hA : DataW.TrodAll enc Tryz.prog W 0 (fun _ => true) true Tryz.f4.params.toList args.toList ds p := hA0
  rw [Tryz.params4] at hA hval
  have hsz : (DataW.weightsEach Tryz.prog (Tryz.f4.params.toList ++ Rows.fnExactTriggersOkSpec.plain.varTypes Tryz.prog) (ds ++ gs)).all (· ≤ reachBytes) = true := hsz0
  rw [Tryz.params4] at hsz
  obtain ⟨v0, vs0, d0, ds0, p0, q0, hargs, rfl, rfl, h0, r0⟩ := trodAll_cons hA
  obtain ⟨v1, vs1, d1, ds1, p1, q1, rfl, rfl, rfl, h1, r1⟩ := trodAll_cons r0
  obtain ⟨rfl, rfl, rfl⟩ := trodAll_nil r1
  obtain rfl : args = #[v0, v1] := by cases args; simp_all
  obtain ⟨rfl, rfl⟩ := trodVars_none hV
  obtain ⟨a0, g0, e0⟩ := Opens.c openTables (cells_slice Tryz.underlying22 (hval 0 22 v0 rfl rfl)) h0 (fun n hn => of_decide_eq_true (List.all_eq_true.1 hsz _ (DataW.weights_mem_each (j := 0) (t := 22) rfl rfl n hn)))
  have k0 := h0
  have lt0 : ∀ x ∈ p0, x.block < W.heap.size := by obtain ⟨m, hm⟩ := k0; exact DataW.trod_lt m _ _ _ hm
  obtain ⟨a1, g1, e1⟩ := Opens.c openTriggers (cells_slice Tryz.underlying41 (hval 1 41 v1 rfl rfl)) h1 (fun n hn => of_decide_eq_true (List.all_eq_true.1 hsz _ (DataW.weights_mem_each (j := 1) (t := 41) rfl rfl n hn)))
  have k1 := h1
  have lt1 : ∀ x ∈ p1, x.block < W.heap.size := by obtain ⟨m, hm⟩ := k1; exact DataW.trod_lt m _ _ _ hm
  clear hA0 hval0 hsz0 hsz
  refine ((TriggersOk_sound a0 a1 (Nat.le_trans g0.1 (by decide)) g0.2 (Nat.le_trans g1.1 (by decide)) g1.2).calls (W := W) ⟨rfl, fun i hi => ?_⟩).mono fun e W' ⟨he, bel⟩ => ?_
  · match i, hi with
    | 0, _ => exact e0
    | 1, _ => exact e1
  subst he
  exact ⟨_, rfl, _, _, _, [], _, [], hW', trodAll_mk1 (shut_bool Tryz.underlying4 _), (trodAll_cons_mk (Below.trod laidOut (by kernel_rfl) (of_decide_eq_true (by kernel_rfl)) k0 bel lt0) (trodAll_cons_mk (Below.trod laidOut (by kernel_rfl) (of_decide_eq_true (by kernel_rfl)) k1 bel lt1) trodAll_mk0)), rfl, bel.frame _, fun h => by cases h⟩
theorem over : Rows.fnExactTriggersOkRow.holds Tryz.pinned (OpenSpec.ofChange Rows.fnExactTriggersOkSpec) :=
  OpenClaim.holds_of_wide 4 Tryz.f4 rfl rfl rfl rfl rfl rfl rfl ⟨rfl, rfl, rfl, rfl, rfl⟩ rfl rfl rfl rfl rfl (by kernel_rfl) Tryz.func4 (by kernel_rfl)
    (of_decide_eq_true (by kernel_rfl)) (by unfold Func.isWrapper; first | (rw [if_pos (by decide +kernel)]; kernel_rfl) | (rw [if_neg (by decide +kernel)]; exact ⟨rfl, rfl⟩))
    (fun os started H enc _ => lifted os started H enc)
theorem proved : Rows.FnExactTriggersOkSaid := over
end Go.Proofs.YtpjfihdlbdogpaaGreat.fnExactTriggersOk
namespace Go.Proofs.YtpjfihdlbdogpaaGreat
/-- The row, under a short name, for the claim. -/
theorem fnExactTriggersOk_holds : Rows.FnExactTriggersOkSaid := fnExactTriggersOk.proved
#print axioms fnExactTriggersOk_holds
end Go.Proofs.YtpjfihdlbdogpaaGreat
