/- Entries: contracts of the functions that read them. -/
import Derived.Test.YtjlhfjpnnildhaaF1
set_option linter.unusedVariables false
set_option linter.unusedSimpArgs false
namespace Go.Proofs.Ytjlhfjpnnildhaa.Am

structure Entry where
  key : List Val
  id : Int
  deriving DecidableEq
def encE (e : Entry) : List Ce := [.fz (e.key.map encV), .int .i64 e.id]
def entOrd (e f : Entry) : Int := orI [orderOf e.key f.key, cmpI e.id f.id]
theorem entryOrder_ok (e f : Entry) (hx : e.key.length ≤ 1099511627776) (hl : e.key.length = f.key.length) : Pure Try.prog 48 [.agg (encE e), .agg (encE f)] (.c (.int .i64 (entOrd e f))) := by
  refine Pure.run mixed c_impl_entryOrder_ok (Nat.le_of_ble_eq_true rfl) fun σ hS hA => ?_
  clear hS hA
  repeat' first | (apply Go.seq) | (apply Go.skip) | (apply Go.region) | (apply Go.nil) | (apply Go.block) | (apply Go.blk) | (apply Go.draw) | (apply Go.segs) | (apply Go.qs) | (apply Qg.nil) | (apply Go.exit; exact rfl) | (apply Go.var2; exact Nat.le_add_right _ _; decide; decide; decide; decide; exact rfl; exact rfl; exact rfl; exact rfl; exact rfl) | (apply Go.var; exact Nat.le_add_right _ _; decide; exact rfl; exact rfl; exact rfl; exact rfl) | (apply Go.op; exact rfl; exact aop_alloc) | (apply Go.op; exact rfl; exact aop_new rfl rfl) | (apply Go.op; exact rfl; exact aop_mksl rfl) | (apply Go.op; exact rfl; exact aop_lenM rfl) | (apply Go.sop; exact rfl; exact aop_lenM rfl) | (apply Qg.op; exact rfl; exact aop_lenM rfl) | (apply Go.op; exact rfl; exact rfl) | (apply Go.no; exact rfl) | (apply Go.sop; exact rfl; exact rfl) | (apply Go.sno; exact rfl) | (apply Qg.op; exact rfl; exact rfl) | (apply Qg.no; exact rfl) | (apply Go.op; exact rfl; exact aop_load rfl rfl rfl (Nat.le_of_ble_eq_true rfl) rfl) | (apply Go.op; exact rfl; exact aop_store rfl rfl rfl rfl rfl rfl (Nat.le_of_ble_eq_true rfl)) | (apply Go.cond true; exact rfl) | (apply Go.cond false; exact rfl) | (apply Go.pcall; exact rfl; exact rfl; exact rfl; exact orderOf_ok _ _ hx hl) | (apply Go.spcall; exact rfl; exact rfl; exact rfl; exact orderOf_ok _ _ hx hl) | (apply Qg.pcall; exact rfl; exact rfl; exact rfl; exact orderOf_ok _ _ hx hl) | (apply Go.pcall; exact rfl; exact rfl; exact rfl; exact Compare_ok _ _) | (apply Go.spcall; exact rfl; exact rfl; exact rfl; exact Compare_ok _ _) | (apply Qg.pcall; exact rfl; exact rfl; exact rfl; exact Compare_ok _ _) | (apply Go.pcall; exact rfl; exact rfl; exact rfl; exact Or_ok [orderOf e.key f.key, cmpI e.id f.id] (by simp)) | (apply Go.spcall; exact rfl; exact rfl; exact rfl; exact Or_ok [orderOf e.key f.key, cmpI e.id f.id] (by simp)) | (apply Qg.pcall; exact rfl; exact rfl; exact rfl; exact Or_ok [orderOf e.key f.key, cmpI e.id f.id] (by simp)) | (exfalso; omega) | (apply Go.iteD; exact rfl) <;> intro _ | (apply Go.iteE; exact rfl) <;> intro _ | (apply Go.iteN; exact rfl) <;> intro _ | (apply Go.guardD; exact rfl) <;> intro _ | (apply Go.guardE; exact rfl) <;> intro _ | (apply Go.guardN; exact rfl) <;> intro _ | (apply Go.sguardD; exact rfl) <;> intro _ | (apply Go.sguardE; exact rfl) <;> intro _ | (apply Go.sguardN; exact rfl) <;> intro _ | (apply Qg.guardD; exact rfl) <;> intro _ | (apply Qg.guardE; exact rfl) <;> intro _ | (apply Qg.guardN; exact rfl) <;> intro _ | (apply Go.guard; exact rfl) <;> intro _ | (apply Go.sguard; exact rfl) <;> intro _ | (apply Qg.guard; exact rfl) <;> intro _ | (apply Go.ite; exact rfl) <;> intro _
  exact .ret rfl (.int rfl)
def lessK : List Val → List Val → Int → Int → Bool
  | v :: r, w :: s, a, b => if l1Ord v w = 0 then lessK r s a b else decide (l1Ord v w < 0)
  | _, _, a, b => decide (a < b)
theorem lessK_end {xs ys : List Val} {a b : Int} (h : xs = [] ∨ ys = []) : lessK xs ys a b = decide (a < b) := by
  rcases h with rfl | rfl
  · rfl
  · cases xs <;> rfl
theorem l11Less_ok (e f : Entry) (hx : e.key.length ≤ 1099511627776) : Pure Try.prog 51 [.agg (encE e), .agg (encE f)] (.c (.bool (lessK e.key f.key e.id f.id))) := by
  refine Pure.run mixed c_spec_l11Less_ok (Nat.le_of_ble_eq_true rfl) fun σ hS hA => ?_
  clear hS hA
  repeat' first | (apply Go.seq) | (apply Go.skip) | (apply Go.region) | (apply Go.nil) | (apply Go.block) | (apply Go.blk) | (apply Go.draw) | (apply Go.segs) | (apply Go.qs) | (apply Qg.nil) | (apply Go.exit; exact rfl) | (apply Go.var2; exact Nat.le_add_right _ _; decide; decide; decide; decide; exact rfl; exact rfl; exact rfl; exact rfl; exact rfl) | (apply Go.var; exact Nat.le_add_right _ _; decide; exact rfl; exact rfl; exact rfl; exact rfl) | (apply Go.op; exact rfl; exact aop_alloc) | (apply Go.op; exact rfl; exact aop_new rfl rfl) | (apply Go.op; exact rfl; exact aop_mksl rfl) | (apply Go.op; exact rfl; exact aop_lenM rfl) | (apply Go.sop; exact rfl; exact aop_lenM rfl) | (apply Qg.op; exact rfl; exact aop_lenM rfl) | (apply Go.op; exact rfl; exact rfl) | (apply Go.no; exact rfl) | (apply Go.sop; exact rfl; exact rfl) | (apply Go.sno; exact rfl) | (apply Qg.op; exact rfl; exact rfl) | (apply Qg.no; exact rfl) | (apply Go.op; exact rfl; exact aop_load rfl rfl rfl (Nat.le_of_ble_eq_true rfl) rfl) | (apply Go.op; exact rfl; exact aop_store rfl rfl rfl rfl rfl rfl (Nat.le_of_ble_eq_true rfl)) | (apply Go.cond true; exact rfl) | (apply Go.cond false; exact rfl) | (exfalso; omega) | (apply Go.iteD; exact rfl) <;> intro _ | (apply Go.iteE; exact rfl) <;> intro _ | (apply Go.iteN; exact rfl) <;> intro _ | (apply Go.guardD; exact rfl) <;> intro _ | (apply Go.guardE; exact rfl) <;> intro _ | (apply Go.guardN; exact rfl) <;> intro _ | (apply Go.sguardD; exact rfl) <;> intro _ | (apply Go.sguardE; exact rfl) <;> intro _ | (apply Go.sguardN; exact rfl) <;> intro _ | (apply Qg.guardD; exact rfl) <;> intro _ | (apply Qg.guardE; exact rfl) <;> intro _ | (apply Qg.guardN; exact rfl) <;> intro _ | (apply Go.guard; exact rfl) <;> intro _ | (apply Go.sguard; exact rfl) <;> intro _ | (apply Qg.guard; exact rfl) <;> intro _ | (apply Go.ite; exact rfl) <;> intro _
  refine Go.keep [2, 3, 5] (Go.loops (I := fun m fr τ => ∃ i : Nat, ∃ n : Int, m = e.key.length - i ∧ i ≤ e.key.length ∧ n = i ∧ lessK e.key f.key e.id f.id = lessK (e.key.drop i) (f.key.drop i) e.id f.id ∧
    fr = [(2, .c (.fp (encE e))), (3, .c (.fp (encE f))), (5, .c (.int .i64 n))] ∧ τ = E σ []) ?_ _ _ _ ⟨0, _, rfl, Nat.zero_le _, rfl, rfl, rfl, rfl⟩)
  rintro m fr τ ⟨i, n, rfl, hi, hn, hs, rfl, rfl⟩ hrec
  repeat' first | (apply Go.seq) | (apply Go.skip) | (apply Go.region) | (apply Go.nil) | (apply Go.block) | (apply Go.blk) | (apply Go.draw) | (apply Go.segs) | (apply Go.qs) | (apply Qg.nil) | (apply Go.exit; exact rfl) | (apply Go.var2; exact Nat.le_add_right _ _; decide; decide; decide; decide; exact rfl; exact rfl; exact rfl; exact rfl; exact rfl) | (apply Go.var; exact Nat.le_add_right _ _; decide; exact rfl; exact rfl; exact rfl; exact rfl) | (apply Go.op; exact rfl; exact aop_alloc) | (apply Go.op; exact rfl; exact aop_new rfl rfl) | (apply Go.op; exact rfl; exact aop_mksl rfl) | (apply Go.op; exact rfl; exact aop_lenM rfl) | (apply Go.sop; exact rfl; exact aop_lenM rfl) | (apply Qg.op; exact rfl; exact aop_lenM rfl) | (apply Go.op; exact rfl; exact rfl) | (apply Go.no; exact rfl) | (apply Go.sop; exact rfl; exact rfl) | (apply Go.sno; exact rfl) | (apply Qg.op; exact rfl; exact rfl) | (apply Qg.no; exact rfl) | (apply Go.op; exact rfl; exact aop_load rfl rfl rfl (Nat.le_of_ble_eq_true rfl) rfl) | (apply Go.op; exact rfl; exact aop_store rfl rfl rfl rfl rfl rfl (Nat.le_of_ble_eq_true rfl)) | (apply Go.cond true; exact rfl) | (apply Go.cond false; exact rfl) | (apply Go.op; exact rfl; exact aop_iaddrM (enc := encV) rfl rfl hn (by first | omega | (clear hrec; simp only [List.length_map] at *; omega)) rfl) | (apply Go.sop; exact rfl; exact aop_iaddrM (enc := encV) rfl rfl hn (by first | omega | (clear hrec; simp only [List.length_map] at *; omega)) rfl) | (apply Qg.op; exact rfl; exact aop_iaddrM (enc := encV) rfl rfl hn (by first | omega | (clear hrec; simp only [List.length_map] at *; omega)) rfl) | (apply Go.pcallI; exact rfl; exact rfl; exact rfl; exact l1Order_ok e.key[i] f.key[i]; intro _ _) | (apply Go.spcallI; exact rfl; exact rfl; exact rfl; exact l1Order_ok e.key[i] f.key[i]; intro _ _) | (apply Qg.pcallI; exact rfl; exact rfl; exact rfl; exact l1Order_ok e.key[i] f.key[i]; intro _ _) | (exfalso; omega) | (apply Go.iteD; exact rfl) <;> intro _ | (apply Go.iteE; exact rfl) <;> intro _ | (apply Go.iteN; exact rfl) <;> intro _ | (apply Go.guardD; exact rfl) <;> intro _ | (apply Go.guardE; exact rfl) <;> intro _ | (apply Go.guardN; exact rfl) <;> intro _ | (apply Go.sguardD; exact rfl) <;> intro _ | (apply Go.sguardE; exact rfl) <;> intro _ | (apply Go.sguardN; exact rfl) <;> intro _ | (apply Qg.guardD; exact rfl) <;> intro _ | (apply Qg.guardE; exact rfl) <;> intro _ | (apply Qg.guardN; exact rfl) <;> intro _ | (apply Go.guard; exact rfl) <;> intro _ | (apply Go.sguard; exact rfl) <;> intro _ | (apply Qg.guard; exact rfl) <;> intro _ | (apply Go.ite; exact rfl) <;> intro _
  · refine .ret rfl (.bool ?_)
    rw [hs, List.drop_eq_getElem_cons (i := i) (by first | omega | (clear hrec; simp only [List.length_map] at *; omega)), List.drop_eq_getElem_cons (i := i) (by first | omega | (clear hrec; simp only [List.length_map] at *; omega))]
    simp only [lessK]
    clear hrec
    simp_all
  · refine Go.keep [2, 3, 5] (hrec _ _ _ (by first | omega | (clear hrec; simp only [List.length_map] at *; omega)) ⟨i + 1, _, rfl, (by first | omega | (clear hrec; simp only [List.length_map] at *; omega)), (wrap_succ hn (by omega)), ?_, rfl, rfl⟩)
    rw [hs, List.drop_eq_getElem_cons (i := i) (by first | omega | (clear hrec; simp only [List.length_map] at *; omega)), List.drop_eq_getElem_cons (i := i) (by first | omega | (clear hrec; simp only [List.length_map] at *; omega))]
    simp only [lessK]
    clear hrec
    simp_all
  · refine .ret rfl (.bool ?_)
    rw [hs, lessK_end]
    rw [List.drop_eq_nil_iff, List.drop_eq_nil_iff]
    omega
  · refine .ret rfl (.bool ?_)
    rw [hs, lessK_end]
    rw [List.drop_eq_nil_iff, List.drop_eq_nil_iff]
    omega
end Go.Proofs.Ytjlhfjpnnildhaa.Am
