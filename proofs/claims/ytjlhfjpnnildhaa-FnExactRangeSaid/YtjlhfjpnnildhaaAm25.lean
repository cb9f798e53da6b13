/- The abstract machine, part 25: the laws' helpers on slices of structs, once for all: sizes, equality. -/
import Derived.Test.YtjlhfjpnnildhaaAm24
set_option linter.unusedVariables false
set_option linter.unusedSimpArgs false
namespace Go.Proofs.Ytjlhfjpnnildhaa.Am
open Go.RowKit

/-- What is left of a measure behind a list. -/
def szList {α : Type} (g : α → Int → Int) : List α → Int → Int
  | [], left => left
  | x :: r, left => if g x left < 0 then -1 else szList g r (g x left)
def szL {α : Type} (g : α → Int → Int) (xs : List α) (left : Int) : Int := if left - xs.length < 0 then -1 else szList g xs (left - xs.length)
theorem szList_le {α : Type} {g : α → Int → Int} (hg : ∀ a l, 0 ≤ l → g a l ≤ l) : ∀ (xs : List α) (left : Int), 0 ≤ left → szList g xs left ≤ left
  | [], left, h => Int.le_refl _
  | x :: r, left, h => by
    simp only [szList]
    have := hg x left h
    split
    · omega
    · have := szList_le hg r (g x left) (by omega)
      omega
theorem szL_le {α : Type} {g : α → Int → Int} (hg : ∀ a l, 0 ≤ l → g a l ≤ l) (xs : List α) (left : Int) (h : 0 ≤ left) : szL g xs left ≤ left := by
  simp only [szL]
  split
  · omega
  · have := szList_le hg xs (left - xs.length) (by omega)
    omega
/-- What was measured is small. -/
theorem szList_mem {α : Type} {g : α → Int → Int} (hg : ∀ a l, 0 ≤ l → g a l ≤ l) : ∀ {xs : List α} {left : Int}, 0 ≤ left → 0 ≤ szList g xs left → ∀ x ∈ xs, ∃ l, 0 ≤ l ∧ l ≤ left ∧ 0 ≤ g x l
  | y :: r, left, h, hs, x, hx => by
    simp only [szList] at hs
    split at hs
    · omega
    · rename_i h0
      have h1 := hg y left h
      rcases List.mem_cons.1 hx with rfl | hx
      · exact ⟨left, h, Int.le_refl _, by omega⟩
      · obtain ⟨l, a, b, c⟩ := szList_mem hg (by omega) hs x hx
        exact ⟨l, a, by omega, c⟩
theorem szL_mem {α : Type} {g : α → Int → Int} (hg : ∀ a l, 0 ≤ l → g a l ≤ l) {xs : List α} {left : Int} (h : 0 ≤ left) (hs : 0 ≤ szL g xs left) : (xs.length : Int) ≤ left ∧ ∀ x ∈ xs, ∃ l, 0 ≤ l ∧ l ≤ left ∧ 0 ≤ g x l := by
  simp only [szL] at hs
  split at hs
  · omega
  · refine ⟨by omega, fun x hx => ?_⟩
    obtain ⟨l, a, b, c⟩ := szList_mem hg (by omega) hs x hx
    exact ⟨l, a, by omega, c⟩

def szSCode (s f : Nat) : AFn := ⟨27, [.t 4], (.seq (.region [⟨some 4, .op (.mv (.k (.int .i64 0))), none⟩]) (.seq (.region [⟨some 6, .op (.mv (.t 1)), none⟩, ⟨some 7, .op (.mv (.t 0)), none⟩, ⟨some 8, .op (.len false (.t 7)), none⟩, ⟨some 9, .op (.bin .sub (.t 6) (.t 8)), none⟩, ⟨some 1, .op (.mv (.t 9)), none⟩]) (.seq (.seq (.region [⟨some 10, .op (.mv (.t 1)), none⟩, ⟨some 11, .op (.bin .lss (.t 10) (.k (.int .i64 0))), none⟩]) (.cond (.t 11) (.seq (.region [⟨some 4, .op (.mv (.k (.int .i64 (-1)))), none⟩]) .ret) .skip)) (.seq (.seq (.region [⟨some 5, .op (.mv (.k (.int .i64 0))), none⟩]) (.block 0 (.loop (.seq (.seq (.region [⟨some 12, .op (.mv (.t 5)), none⟩, ⟨some 13, .op (.mv (.t 0)), none⟩, ⟨some 14, .op (.len false (.t 13)), none⟩, ⟨some 15, .op (.bin .lss (.t 12) (.t 14)), none⟩]) (.cond (.t 15) .skip (.exit 0))) (.seq (.block 1 (.seq (.region [⟨some 18, .op (.mv (.t 0)), none⟩, ⟨some 19, .op (.mv (.t 5)), none⟩, ⟨some 20, .op (.iaddr s (.t 18) (.t 19)), none⟩, ⟨some 21, .op (.load true s (.t 20)), none⟩, ⟨some 22, .op (.mv (.t 1)), none⟩, ⟨some 23, .call (.f f) [(.t 21), (.t 22)], none⟩, ⟨some 1, .op (.mv (.t 23)), none⟩]) (.seq (.region [⟨some 24, .op (.mv (.t 1)), none⟩, ⟨some 25, .op (.bin .lss (.t 24) (.k (.int .i64 0))), none⟩]) (.cond (.t 25) (.seq (.region [⟨some 4, .op (.mv (.k (.int .i64 (-1)))), none⟩]) .ret) .skip)))) (.region [⟨some 16, .op (.mv (.t 5)), none⟩, ⟨some 17, .op (.bin .add (.t 16) (.k (.int .i64 1))), none⟩, ⟨some 5, .op (.mv (.t 17)), none⟩])))))) (.seq (.region [⟨some 26, .op (.mv (.t 1)), none⟩, ⟨some 4, .op (.mv (.t 26)), none⟩]) .ret)))))⟩
theorem szS_ok {P : Program} (hm : P.follows .mixedOrders = true) {fz : List Nat} {n s f : Nat} (hc : compFn P fz n = some (szSCode s f)) {α : Type} (enc : α → List Ce) (g : α → Int → Int) (xs : List α) (left : Int) (hx : xs.length ≤ 1125899906842624) (h0 : 0 ≤ left) (h1 : left ≤ 1099511627776) (hs : ∀ a, (enc a).length = s)
    (hg : ∀ a l, 0 ≤ l → g a l ≤ l) (hf : ∀ a ∈ xs, ∀ l, 0 ≤ l → l ≤ left → Pure P f [.agg (enc a), .c (.int .i64 l)] (.c (.int .i64 (g a l)))) : Pure P n [.c (.fz (xs.map enc)), .c (.int .i64 left)] (.c (.int .i64 (szL g xs left))) := by
  refine Pure.run hm hc (Nat.le_of_ble_eq_true rfl) fun σ hS hA => ?_
  clear hS hA
  have hw : IntKind.i64.wrap (left - xs.length) = left - xs.length := wrap64 (by omega) (by omega)
  repeat' first | (apply Go.seq) | (apply Go.skip) | (apply Go.region) | (apply Go.nil) | (apply Go.block) | (apply Go.blk) | (apply Go.draw) | (apply Go.segs) | (apply Go.qs) | (apply Qg.nil) | (apply Go.exit; exact rfl) | (apply Go.var2; exact Nat.le_add_right _ _; decide; decide; decide; decide; exact rfl; exact rfl; exact rfl; exact rfl; exact rfl) | (apply Go.var; exact Nat.le_add_right _ _; decide; exact rfl; exact rfl; exact rfl; exact rfl) | (apply Go.op; exact rfl; exact aop_alloc) | (apply Go.op; exact rfl; exact aop_new rfl rfl) | (apply Go.op; exact rfl; exact aop_mksl rfl) | (apply Go.op; exact rfl; exact aop_lenM rfl) | (apply Go.sop; exact rfl; exact aop_lenM rfl) | (apply Qg.op; exact rfl; exact aop_lenM rfl) | (apply Go.op; exact rfl; exact rfl) | (apply Go.no; exact rfl) | (apply Go.sop; exact rfl; exact rfl) | (apply Go.sno; exact rfl) | (apply Qg.op; exact rfl; exact rfl) | (apply Qg.no; exact rfl) | (apply Go.op; exact rfl; exact aop_load rfl rfl rfl (Nat.le_of_ble_eq_true rfl) rfl) | (apply Go.op; exact rfl; exact aop_store rfl rfl rfl rfl rfl rfl (Nat.le_of_ble_eq_true rfl)) | (apply Go.cond true; exact rfl) | (apply Go.cond false; exact rfl) | (exfalso; omega) | (apply Go.iteD; exact rfl) <;> intro _ | (apply Go.iteE; exact rfl) <;> intro _ | (apply Go.iteN; exact rfl) <;> intro _ | (apply Go.guardD; exact rfl) <;> intro _ | (apply Go.guardE; exact rfl) <;> intro _ | (apply Go.guardN; exact rfl) <;> intro _ | (apply Go.sguardD; exact rfl) <;> intro _ | (apply Go.sguardE; exact rfl) <;> intro _ | (apply Go.sguardN; exact rfl) <;> intro _ | (apply Qg.guardD; exact rfl) <;> intro _ | (apply Qg.guardE; exact rfl) <;> intro _ | (apply Qg.guardN; exact rfl) <;> intro _ | (apply Go.guard; exact rfl) <;> intro _ | (apply Go.sguard; exact rfl) <;> intro _ | (apply Qg.guard; exact rfl) <;> intro _ | (apply Go.ite; exact rfl) <;> intro _
  · refine .ret rfl (.int ?_)
    rename_i h
    rw [hw] at h
    rw [szL, if_pos h]
  rename_i hnn
  rw [hw] at hnn
  have hsz : szL g xs left = szList g xs (left - xs.length) := by rw [szL, if_neg hnn]
  rw [hsz, hw]
  refine Go.keep [0, 1, 5] (Go.loops (I := fun m fr τ => ∃ i : Nat, ∃ n l : Int, m = xs.length - i ∧ i ≤ xs.length ∧ n = i ∧ (0 ≤ l ∧ l ≤ left ∧ szList g xs (left - xs.length) = szList g (xs.drop i) l) ∧
    fr = [(0, .c (.fz (xs.map enc))), (1, .c (.int .i64 l)), (5, .c (.int .i64 n))] ∧ τ = E σ []) ?_ _ _ _ ⟨0, _, _, rfl, Nat.zero_le _, rfl, ⟨by omega, by omega, rfl⟩, rfl, rfl⟩)
  rintro m fr τ ⟨i, n, l, rfl, hi, hn, ⟨hl0, hl1, hsl⟩, rfl, rfl⟩ hrec
  by_cases hlt : i < xs.length
  · have hp := hf _ (List.getElem_mem hlt) l hl0 hl1
    have hgl := hg xs[i] l hl0
    repeat' first | (apply Go.seq) | (apply Go.skip) | (apply Go.region) | (apply Go.nil) | (apply Go.block) | (apply Go.blk) | (apply Go.draw) | (apply Go.segs) | (apply Go.qs) | (apply Qg.nil) | (apply Go.exit; exact rfl) | (apply Go.var2; exact Nat.le_add_right _ _; decide; decide; decide; decide; exact rfl; exact rfl; exact rfl; exact rfl; exact rfl) | (apply Go.var; exact Nat.le_add_right _ _; decide; exact rfl; exact rfl; exact rfl; exact rfl) | (apply Go.op; exact rfl; exact aop_alloc) | (apply Go.op; exact rfl; exact aop_new rfl rfl) | (apply Go.op; exact rfl; exact aop_mksl rfl) | (apply Go.op; exact rfl; exact aop_lenM rfl) | (apply Go.sop; exact rfl; exact aop_lenM rfl) | (apply Qg.op; exact rfl; exact aop_lenM rfl) | (apply Go.op; exact rfl; exact rfl) | (apply Go.no; exact rfl) | (apply Go.sop; exact rfl; exact rfl) | (apply Go.sno; exact rfl) | (apply Qg.op; exact rfl; exact rfl) | (apply Qg.no; exact rfl) | (apply Go.op; exact rfl; exact aop_load rfl rfl rfl (Nat.le_of_ble_eq_true rfl) rfl) | (apply Go.op; exact rfl; exact aop_store rfl rfl rfl rfl rfl rfl (Nat.le_of_ble_eq_true rfl)) | (apply Go.cond true; exact rfl) | (apply Go.cond false; exact rfl) | (apply Go.op; exact rfl; exact aop_iaddrM rfl rfl hn hlt (hs _)) | (apply Go.sop; exact rfl; exact aop_iaddrM rfl rfl hn hlt (hs _)) | (apply Qg.op; exact rfl; exact aop_iaddrM rfl rfl hn hlt (hs _)) | (apply Go.op; exact rfl; exact aop_loadF rfl (hs _)) | (apply Go.sop; exact rfl; exact aop_loadF rfl (hs _)) | (apply Qg.op; exact rfl; exact aop_loadF rfl (hs _)) | (apply Go.pcallI; exact rfl; exact rfl; exact rfl; exact hp; intro _ _) | (apply Go.spcallI; exact rfl; exact rfl; exact rfl; exact hp; intro _ _) | (apply Qg.pcallI; exact rfl; exact rfl; exact rfl; exact hp; intro _ _) | (exfalso; omega) | (apply Go.iteD; exact rfl) <;> intro _ | (apply Go.iteE; exact rfl) <;> intro _ | (apply Go.iteN; exact rfl) <;> intro _ | (apply Go.guardD; exact rfl) <;> intro _ | (apply Go.guardE; exact rfl) <;> intro _ | (apply Go.guardN; exact rfl) <;> intro _ | (apply Go.sguardD; exact rfl) <;> intro _ | (apply Go.sguardE; exact rfl) <;> intro _ | (apply Go.sguardN; exact rfl) <;> intro _ | (apply Qg.guardD; exact rfl) <;> intro _ | (apply Qg.guardE; exact rfl) <;> intro _ | (apply Qg.guardN; exact rfl) <;> intro _ | (apply Go.guard; exact rfl) <;> intro _ | (apply Go.sguard; exact rfl) <;> intro _ | (apply Qg.guard; exact rfl) <;> intro _ | (apply Go.ite; exact rfl) <;> intro _
    · refine .ret rfl (.int ?_)
      rw [hsl, List.drop_eq_getElem_cons hlt, szList, if_pos (by omega)]
    · refine Go.keep [0, 1, 5] (hrec _ _ _ (by omega) ⟨i + 1, _, _, rfl, hlt, wrap_succ hn (by omega), ⟨?_, ?_, ?_⟩, rfl, rfl⟩)
      · omega
      · omega
      · rw [hsl, List.drop_eq_getElem_cons hlt, szList, if_neg (by omega)]
        congr 1
  · repeat' first | (apply Go.seq) | (apply Go.skip) | (apply Go.region) | (apply Go.nil) | (apply Go.block) | (apply Go.blk) | (apply Go.draw) | (apply Go.segs) | (apply Go.qs) | (apply Qg.nil) | (apply Go.exit; exact rfl) | (apply Go.var2; exact Nat.le_add_right _ _; decide; decide; decide; decide; exact rfl; exact rfl; exact rfl; exact rfl; exact rfl) | (apply Go.var; exact Nat.le_add_right _ _; decide; exact rfl; exact rfl; exact rfl; exact rfl) | (apply Go.op; exact rfl; exact aop_alloc) | (apply Go.op; exact rfl; exact aop_new rfl rfl) | (apply Go.op; exact rfl; exact aop_mksl rfl) | (apply Go.op; exact rfl; exact aop_lenM rfl) | (apply Go.sop; exact rfl; exact aop_lenM rfl) | (apply Qg.op; exact rfl; exact aop_lenM rfl) | (apply Go.op; exact rfl; exact rfl) | (apply Go.no; exact rfl) | (apply Go.sop; exact rfl; exact rfl) | (apply Go.sno; exact rfl) | (apply Qg.op; exact rfl; exact rfl) | (apply Qg.no; exact rfl) | (apply Go.op; exact rfl; exact aop_load rfl rfl rfl (Nat.le_of_ble_eq_true rfl) rfl) | (apply Go.op; exact rfl; exact aop_store rfl rfl rfl rfl rfl rfl (Nat.le_of_ble_eq_true rfl)) | (apply Go.cond true; exact rfl) | (apply Go.cond false; exact rfl) | (exfalso; omega) | (apply Go.iteD; exact rfl) <;> intro _ | (apply Go.iteE; exact rfl) <;> intro _ | (apply Go.iteN; exact rfl) <;> intro _ | (apply Go.guardD; exact rfl) <;> intro _ | (apply Go.guardE; exact rfl) <;> intro _ | (apply Go.guardN; exact rfl) <;> intro _ | (apply Go.sguardD; exact rfl) <;> intro _ | (apply Go.sguardE; exact rfl) <;> intro _ | (apply Go.sguardN; exact rfl) <;> intro _ | (apply Qg.guardD; exact rfl) <;> intro _ | (apply Qg.guardE; exact rfl) <;> intro _ | (apply Qg.guardN; exact rfl) <;> intro _ | (apply Go.guard; exact rfl) <;> intro _ | (apply Go.sguard; exact rfl) <;> intro _ | (apply Qg.guard; exact rfl) <;> intro _ | (apply Go.ite; exact rfl) <;> intro _
    refine .ret rfl (.int ?_)
    rw [hsl, List.drop_eq_nil_of_le (by omega)]
    rfl

def eqSCode (s f : Nat) : AFn := ⟨27, [.t 4], (.seq (.region [⟨some 4, .op (.mv (.k (.bool false))), none⟩]) (.seq (.seq (.region [⟨some 6, .op (.mv (.t 0)), none⟩, ⟨some 7, .op (.len false (.t 6)), none⟩, ⟨some 8, .op (.mv (.t 1)), none⟩, ⟨some 9, .op (.len false (.t 8)), none⟩, ⟨some 10, .op (.bin .neq (.t 7) (.t 9)), none⟩]) (.cond (.t 10) (.seq (.region [⟨some 4, .op (.mv (.k (.bool false))), none⟩]) .ret) .skip)) (.seq (.seq (.region [⟨some 5, .op (.mv (.k (.int .i64 0))), none⟩]) (.block 0 (.loop (.seq (.seq (.region [⟨some 11, .op (.mv (.t 5)), none⟩, ⟨some 12, .op (.mv (.t 0)), none⟩, ⟨some 13, .op (.len false (.t 12)), none⟩, ⟨some 14, .op (.bin .lss (.t 11) (.t 13)), none⟩]) (.cond (.t 14) .skip (.exit 0))) (.seq (.block 1 (.seq (.draw [[⟨some 17, .op (.mv (.t 0)), none⟩, ⟨some 18, .op (.mv (.t 5)), none⟩, ⟨some 19, .op (.iaddr s (.t 17) (.t 18)), none⟩, ⟨some 20, .op (.load true s (.t 19)), none⟩, ⟨some 21, .op (.mv (.t 1)), none⟩, ⟨some 22, .op (.mv (.t 5)), none⟩, ⟨some 23, .op (.iaddr s (.t 21) (.t 22)), none⟩, ⟨some 24, .op (.load true s (.t 23)), none⟩], [⟨some 25, .call (.f f) [(.t 20), (.t 24)], none⟩], [⟨some 26, .op (.un .not (.t 25)), none⟩]]) (.cond (.t 26) (.seq (.region [⟨some 4, .op (.mv (.k (.bool false))), none⟩]) .ret) .skip))) (.region [⟨some 15, .op (.mv (.t 5)), none⟩, ⟨some 16, .op (.bin .add (.t 15) (.k (.int .i64 1))), none⟩, ⟨some 5, .op (.mv (.t 16)), none⟩])))))) (.seq (.region [⟨some 4, .op (.mv (.k (.bool true))), none⟩]) .ret))))⟩
theorem eqS_ok {P : Program} (hm : P.follows .mixedOrders = true) {fz : List Nat} {n s f : Nat} (hc : compFn P fz n = some (eqSCode s f)) {α : Type} [DecidableEq α] (enc : α → List Ce) (xs ys : List α) (hx : xs.length ≤ 1099511627776) (hs : ∀ a, (enc a).length = s)
    (hf : ∀ a ∈ xs, ∀ b, Pure P f [.agg (enc a), .agg (enc b)] (.c (.bool (a == b)))) : Pure P n [.c (.fz (xs.map enc)), .c (.fz (ys.map enc))] (.c (.bool (xs == ys))) := by
  refine Pure.run hm hc (Nat.le_of_ble_eq_true rfl) fun σ hS hA => ?_
  clear hS hA
  repeat' first | (apply Go.seq) | (apply Go.skip) | (apply Go.region) | (apply Go.nil) | (apply Go.block) | (apply Go.blk) | (apply Go.draw) | (apply Go.segs) | (apply Go.qs) | (apply Qg.nil) | (apply Go.exit; exact rfl) | (apply Go.var2; exact Nat.le_add_right _ _; decide; decide; decide; decide; exact rfl; exact rfl; exact rfl; exact rfl; exact rfl) | (apply Go.var; exact Nat.le_add_right _ _; decide; exact rfl; exact rfl; exact rfl; exact rfl) | (apply Go.op; exact rfl; exact aop_alloc) | (apply Go.op; exact rfl; exact aop_new rfl rfl) | (apply Go.op; exact rfl; exact aop_mksl rfl) | (apply Go.op; exact rfl; exact aop_lenM rfl) | (apply Go.sop; exact rfl; exact aop_lenM rfl) | (apply Qg.op; exact rfl; exact aop_lenM rfl) | (apply Go.op; exact rfl; exact rfl) | (apply Go.no; exact rfl) | (apply Go.sop; exact rfl; exact rfl) | (apply Go.sno; exact rfl) | (apply Qg.op; exact rfl; exact rfl) | (apply Qg.no; exact rfl) | (apply Go.op; exact rfl; exact aop_load rfl rfl rfl (Nat.le_of_ble_eq_true rfl) rfl) | (apply Go.op; exact rfl; exact aop_store rfl rfl rfl rfl rfl rfl (Nat.le_of_ble_eq_true rfl)) | (apply Go.cond true; exact rfl) | (apply Go.cond false; exact rfl) | (exfalso; omega) | (apply Go.iteD; exact rfl) <;> intro _ | (apply Go.iteE; exact rfl) <;> intro _ | (apply Go.iteN; exact rfl) <;> intro _ | (apply Go.guardD; exact rfl) <;> intro _ | (apply Go.guardE; exact rfl) <;> intro _ | (apply Go.guardN; exact rfl) <;> intro _ | (apply Go.sguardD; exact rfl) <;> intro _ | (apply Go.sguardE; exact rfl) <;> intro _ | (apply Go.sguardN; exact rfl) <;> intro _ | (apply Qg.guardD; exact rfl) <;> intro _ | (apply Qg.guardE; exact rfl) <;> intro _ | (apply Qg.guardN; exact rfl) <;> intro _ | (apply Go.guard; exact rfl) <;> intro _ | (apply Go.sguard; exact rfl) <;> intro _ | (apply Qg.guard; exact rfl) <;> intro _ | (apply Go.ite; exact rfl) <;> intro _
  · refine .ret rfl (.bool ?_)
    rw [eq_comm, beq_eq_false_iff_ne]
    rintro rfl
    simp at *
  refine Go.keep [0, 1, 5] (Go.loops (I := fun m fr τ => ∃ i : Nat, ∃ n : Int, m = xs.length - i ∧ i ≤ xs.length ∧ n = i ∧ (xs.length = ys.length ∧ (xs == ys) = (xs.drop i == ys.drop i)) ∧
    fr = [(0, .c (.fz (xs.map enc))), (1, .c (.fz (ys.map enc))), (5, .c (.int .i64 n))] ∧ τ = E σ []) ?_ _ _ _ ⟨0, _, rfl, Nat.zero_le _, rfl, ⟨by omega, rfl⟩, rfl, rfl⟩)
  rintro m fr τ ⟨i, n, rfl, hi, hn, ⟨hl, hsl⟩, rfl, rfl⟩ hrec
  by_cases hlt : i < xs.length
  · have hlt2 : i < ys.length := by omega
    have hp := hf _ (List.getElem_mem hlt) ys[i]
    repeat' first | (apply Go.seq) | (apply Go.skip) | (apply Go.region) | (apply Go.nil) | (apply Go.block) | (apply Go.blk) | (apply Go.draw) | (apply Go.segs) | (apply Go.qs) | (apply Qg.nil) | (apply Go.exit; exact rfl) | (apply Go.var2; exact Nat.le_add_right _ _; decide; decide; decide; decide; exact rfl; exact rfl; exact rfl; exact rfl; exact rfl) | (apply Go.var; exact Nat.le_add_right _ _; decide; exact rfl; exact rfl; exact rfl; exact rfl) | (apply Go.op; exact rfl; exact aop_alloc) | (apply Go.op; exact rfl; exact aop_new rfl rfl) | (apply Go.op; exact rfl; exact aop_mksl rfl) | (apply Go.op; exact rfl; exact aop_lenM rfl) | (apply Go.sop; exact rfl; exact aop_lenM rfl) | (apply Qg.op; exact rfl; exact aop_lenM rfl) | (apply Go.op; exact rfl; exact rfl) | (apply Go.no; exact rfl) | (apply Go.sop; exact rfl; exact rfl) | (apply Go.sno; exact rfl) | (apply Qg.op; exact rfl; exact rfl) | (apply Qg.no; exact rfl) | (apply Go.op; exact rfl; exact aop_load rfl rfl rfl (Nat.le_of_ble_eq_true rfl) rfl) | (apply Go.op; exact rfl; exact aop_store rfl rfl rfl rfl rfl rfl (Nat.le_of_ble_eq_true rfl)) | (apply Go.cond true; exact rfl) | (apply Go.cond false; exact rfl) | (apply Go.op; exact rfl; exact aop_iaddrM rfl rfl hn hlt (hs _)) | (apply Go.sop; exact rfl; exact aop_iaddrM rfl rfl hn hlt (hs _)) | (apply Qg.op; exact rfl; exact aop_iaddrM rfl rfl hn hlt (hs _)) | (apply Go.op; exact rfl; exact aop_iaddrM rfl rfl hn hlt2 (hs _)) | (apply Go.sop; exact rfl; exact aop_iaddrM rfl rfl hn hlt2 (hs _)) | (apply Qg.op; exact rfl; exact aop_iaddrM rfl rfl hn hlt2 (hs _)) | (apply Go.op; exact rfl; exact aop_loadF rfl (hs _)) | (apply Go.sop; exact rfl; exact aop_loadF rfl (hs _)) | (apply Qg.op; exact rfl; exact aop_loadF rfl (hs _)) | (apply Go.pcallB; exact rfl; exact rfl; exact rfl; exact hp; intro _ _) | (apply Go.spcallB; exact rfl; exact rfl; exact rfl; exact hp; intro _ _) | (apply Qg.pcallB; exact rfl; exact rfl; exact rfl; exact hp; intro _ _) | (exfalso; omega) | (apply Go.iteD; exact rfl) <;> intro _ | (apply Go.iteE; exact rfl) <;> intro _ | (apply Go.iteN; exact rfl) <;> intro _ | (apply Go.guardD; exact rfl) <;> intro _ | (apply Go.guardE; exact rfl) <;> intro _ | (apply Go.guardN; exact rfl) <;> intro _ | (apply Go.sguardD; exact rfl) <;> intro _ | (apply Go.sguardE; exact rfl) <;> intro _ | (apply Go.sguardN; exact rfl) <;> intro _ | (apply Qg.guardD; exact rfl) <;> intro _ | (apply Qg.guardE; exact rfl) <;> intro _ | (apply Qg.guardN; exact rfl) <;> intro _ | (apply Go.guard; exact rfl) <;> intro _ | (apply Go.sguard; exact rfl) <;> intro _ | (apply Qg.guard; exact rfl) <;> intro _ | (apply Go.ite; exact rfl) <;> intro _
    · refine .ret rfl (.bool ?_)
      rw [hsl, List.drop_eq_getElem_cons hlt, List.drop_eq_getElem_cons hlt2, List.cons_beq_cons]
      clear hrec
      simp_all
    · refine Go.keep [0, 1, 5] (hrec _ _ _ (by omega) ⟨i + 1, _, rfl, hlt, wrap_succ hn (by omega), ⟨hl, ?_⟩, rfl, rfl⟩)
      rw [hsl, List.drop_eq_getElem_cons hlt, List.drop_eq_getElem_cons hlt2, List.cons_beq_cons]
      clear hrec
      simp_all
  · repeat' first | (apply Go.seq) | (apply Go.skip) | (apply Go.region) | (apply Go.nil) | (apply Go.block) | (apply Go.blk) | (apply Go.draw) | (apply Go.segs) | (apply Go.qs) | (apply Qg.nil) | (apply Go.exit; exact rfl) | (apply Go.var2; exact Nat.le_add_right _ _; decide; decide; decide; decide; exact rfl; exact rfl; exact rfl; exact rfl; exact rfl) | (apply Go.var; exact Nat.le_add_right _ _; decide; exact rfl; exact rfl; exact rfl; exact rfl) | (apply Go.op; exact rfl; exact aop_alloc) | (apply Go.op; exact rfl; exact aop_new rfl rfl) | (apply Go.op; exact rfl; exact aop_mksl rfl) | (apply Go.op; exact rfl; exact aop_lenM rfl) | (apply Go.sop; exact rfl; exact aop_lenM rfl) | (apply Qg.op; exact rfl; exact aop_lenM rfl) | (apply Go.op; exact rfl; exact rfl) | (apply Go.no; exact rfl) | (apply Go.sop; exact rfl; exact rfl) | (apply Go.sno; exact rfl) | (apply Qg.op; exact rfl; exact rfl) | (apply Qg.no; exact rfl) | (apply Go.op; exact rfl; exact aop_load rfl rfl rfl (Nat.le_of_ble_eq_true rfl) rfl) | (apply Go.op; exact rfl; exact aop_store rfl rfl rfl rfl rfl rfl (Nat.le_of_ble_eq_true rfl)) | (apply Go.cond true; exact rfl) | (apply Go.cond false; exact rfl) | (exfalso; omega) | (apply Go.iteD; exact rfl) <;> intro _ | (apply Go.iteE; exact rfl) <;> intro _ | (apply Go.iteN; exact rfl) <;> intro _ | (apply Go.guardD; exact rfl) <;> intro _ | (apply Go.guardE; exact rfl) <;> intro _ | (apply Go.guardN; exact rfl) <;> intro _ | (apply Go.sguardD; exact rfl) <;> intro _ | (apply Go.sguardE; exact rfl) <;> intro _ | (apply Go.sguardN; exact rfl) <;> intro _ | (apply Qg.guardD; exact rfl) <;> intro _ | (apply Qg.guardE; exact rfl) <;> intro _ | (apply Qg.guardN; exact rfl) <;> intro _ | (apply Go.guard; exact rfl) <;> intro _ | (apply Go.sguard; exact rfl) <;> intro _ | (apply Qg.guard; exact rfl) <;> intro _ | (apply Go.ite; exact rfl) <;> intro _
    refine .ret rfl (.bool ?_)
    rw [hsl, List.drop_eq_nil_of_le (by omega), List.drop_eq_nil_of_le (by omega)]
    rfl
theorem retv_m {fr : Fr} {σ : Store} {l : List (Nat × List (List Ce))} {k v i t j s : Nat} {g : Bool} {es : List (List Ce)} {e : List Ce} {x : AV} (hp : look fr t = some (.c (.ptr (σ.next + k) v i j))) (hl : l[k]? = some (v, es)) (he : es[i]? = some e) (hj : j ≤ e.length) (hx : takeA g s (e.drop j) = some x) :
    retv fr (E σ l) [.m t g s] = some x := by
  simp [retv, revs, RV.ev, hp, Store.at_, E_at, hl, he, hj, hx]
theorem Tidy.mono {n m : Nat} (h : n ≤ m) {x : Ce} (ht : Tidy m x) : Tidy n x := by
  cases ht with
  | flat h => exact .flat h
  | sl id v i m c h => exact .sl _ _ _ _ _ (by omega)
  | ptr id v i j h => exact .ptr _ _ _ _ (by omega)
theorem TidyL.nil {n : Nat} : TidyL n [] := fun b hb => by simp at hb
theorem TidyL.cons {n v : Nat} {es : List (List Ce)} {l : List (Nat × List (List Ce))} (h : ∀ e ∈ es, ∀ x ∈ e, Tidy n x) (hl : TidyL n l) : TidyL n ((v, es) :: l) := by
  intro b hb e he x hx
  rcases List.mem_cons.1 hb with rfl | hb
  · exact h e he x hx
  · exact hl b hb e he x hx
theorem TidyL.one {n v : Nat} {e : List Ce} {l : List (Nat × List (List Ce))} (h : ∀ x ∈ e, Tidy n x) (hl : TidyL n l) : TidyL n ((v, [e]) :: l) :=
  .cons (fun e' he x hx => by simp at he; subst he; exact h x hx) hl
theorem TidyL.mono {n m : Nat} (h : n ≤ m) {l : List (Nat × List (List Ce))} (hl : TidyL m l) : TidyL n l := fun b hb e he x hx => (hl b hb e he x hx).mono h
theorem E_two {σ : Store} {a a' b b' : Nat × List (List Ce)} {l : List (Nat × List (List Ce))} {id : Nat} (h : σ.next + 2 ≤ id) : (E σ (a' :: b' :: l)).get id = (E σ (a :: b :: l)).get id := by
  rw [E_ge (by omega), E_ge (by omega)]
  obtain ⟨q, hq⟩ : ∃ q, id - σ.next = q + 2 := ⟨id - σ.next - 2, by omega⟩
  rw [hq]
  rfl
end Go.Proofs.Ytjlhfjpnnildhaa.Am
