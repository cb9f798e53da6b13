/- Joined texts: Am25, F5, Am26, F6, F7, Am28, F8, Am29, Am30, K1, M0, M1, K2, K3, K4, M3, M2, N0, S1, S2. -/
import Derived.Test.YtcfpdongfdhgjaaGreatJb1
import Derived.Test.YtcfpdongfdhgjaaGreatJb2
import Derived.Test.YtcfpdongfdhgjaaGreatJb3
/- The abstract machine, part 25: the laws' helpers on slices of structs, once for all: sizes, equality. -/
set_option linter.unusedVariables false
set_option linter.unusedSimpArgs false
namespace Go.Proofs.YtcfpdongfdhgjaaGreat.Am
open Go.RowKit

/-- What is left of a measure behind a list. -/
def szList {α : Type} (g : α → Int → Int) : List α → Int → Int
  | [], left => left
  | x :: r, left => if g x left < 0 then -1 else szList g r (g x left)
def szL {α : Type} (g : α → Int → Int) (xs : List α) (left : Int) : Int := if left - xs.length < 0 then -1 else szList g xs (left - xs.length)
theorem szList_le {α : Type} {g : α → Int → Int} (hg : ∀ a l, 0 ≤ l → g a l ≤ l) : ∀ (xs : List α) (left : Int), 0 ≤ left → szList g xs left ≤ left
  | [], left, h => Int.le_refl _
  | x :: r, left, h => by
    simp only [szList]
    have := hg x left h
    split
    · omega
    · have := szList_le hg r (g x left) (by omega)
      omega
theorem szL_le {α : Type} {g : α → Int → Int} (hg : ∀ a l, 0 ≤ l → g a l ≤ l) (xs : List α) (left : Int) (h : 0 ≤ left) : szL g xs left ≤ left := by
  simp only [szL]
  split
  · omega
  · have := szList_le hg xs (left - xs.length) (by omega)
    omega
/-- What was measured is small. -/
theorem szList_mem {α : Type} {g : α → Int → Int} (hg : ∀ a l, 0 ≤ l → g a l ≤ l) : ∀ {xs : List α} {left : Int}, 0 ≤ left → 0 ≤ szList g xs left → ∀ x ∈ xs, ∃ l, 0 ≤ l ∧ l ≤ left ∧ 0 ≤ g x l
  | y :: r, left, h, hs, x, hx => by
    simp only [szList] at hs
    split at hs
    · omega
    · rename_i h0
      have h1 := hg y left h
      rcases List.mem_cons.1 hx with rfl | hx
      · exact ⟨left, h, Int.le_refl _, by omega⟩
      · obtain ⟨l, a, b, c⟩ := szList_mem hg (by omega) hs x hx
        exact ⟨l, a, by omega, c⟩
theorem szL_mem {α : Type} {g : α → Int → Int} (hg : ∀ a l, 0 ≤ l → g a l ≤ l) {xs : List α} {left : Int} (h : 0 ≤ left) (hs : 0 ≤ szL g xs left) : (xs.length : Int) ≤ left ∧ ∀ x ∈ xs, ∃ l, 0 ≤ l ∧ l ≤ left ∧ 0 ≤ g x l := by
  simp only [szL] at hs
  split at hs
  · omega
  · refine ⟨by omega, fun x hx => ?_⟩
    obtain ⟨l, a, b, c⟩ := szList_mem hg (by omega) hs x hx
    exact ⟨l, a, by omega, c⟩

def szSCode (s f : Nat) : AFn := ⟨27, [.t 4], (.seq (.region [⟨some 4, .op (.mv (.k (.int .i64 0))), none⟩]) (.seq (.region [⟨some 6, .op (.mv (.t 1)), none⟩, ⟨some 7, .op (.mv (.t 0)), none⟩, ⟨some 8, .op (.len false (.t 7)), none⟩, ⟨some 9, .op (.bin .sub (.t 6) (.t 8)), none⟩, ⟨some 1, .op (.mv (.t 9)), none⟩]) (.seq (.seq (.region [⟨some 10, .op (.mv (.t 1)), none⟩, ⟨some 11, .op (.bin .lss (.t 10) (.k (.int .i64 0))), none⟩]) (.cond (.t 11) (.seq (.region [⟨some 4, .op (.mv (.k (.int .i64 (-1)))), none⟩]) .ret) .skip)) (.seq (.seq (.region [⟨some 5, .op (.mv (.k (.int .i64 0))), none⟩]) (.block 0 (.loop (.seq (.seq (.region [⟨some 12, .op (.mv (.t 5)), none⟩, ⟨some 13, .op (.mv (.t 0)), none⟩, ⟨some 14, .op (.len false (.t 13)), none⟩, ⟨some 15, .op (.bin .lss (.t 12) (.t 14)), none⟩]) (.cond (.t 15) .skip (.exit 0))) (.seq (.block 1 (.seq (.region [⟨some 18, .op (.mv (.t 0)), none⟩, ⟨some 19, .op (.mv (.t 5)), none⟩, ⟨some 20, .op (.iaddr s (.t 18) (.t 19)), none⟩, ⟨some 21, .op (.load true s (.t 20)), none⟩, ⟨some 22, .op (.mv (.t 1)), none⟩, ⟨some 23, .call (.f f) [(.t 21), (.t 22)], none⟩, ⟨some 1, .op (.mv (.t 23)), none⟩]) (.seq (.region [⟨some 24, .op (.mv (.t 1)), none⟩, ⟨some 25, .op (.bin .lss (.t 24) (.k (.int .i64 0))), none⟩]) (.cond (.t 25) (.seq (.region [⟨some 4, .op (.mv (.k (.int .i64 (-1)))), none⟩]) .ret) .skip)))) (.region [⟨some 16, .op (.mv (.t 5)), none⟩, ⟨some 17, .op (.bin .add (.t 16) (.k (.int .i64 1))), none⟩, ⟨some 5, .op (.mv (.t 17)), none⟩])))))) (.seq (.region [⟨some 26, .op (.mv (.t 1)), none⟩, ⟨some 4, .op (.mv (.t 26)), none⟩]) .ret)))))⟩
theorem szS_ok {P : Program} (hm : P.follows .mixedOrders = true) {fz : List Nat} {n s f : Nat} (hc : compFn P fz n = some (szSCode s f)) {α : Type} (enc : α → List Ce) (g : α → Int → Int) (xs : List α) (left : Int) (hx : xs.length ≤ 1125899906842624) (h0 : 0 ≤ left) (h1 : left ≤ 34359738368) (hs : ∀ a, (enc a).length = s)
    (hg : ∀ a l, 0 ≤ l → g a l ≤ l) (hf : ∀ a ∈ xs, ∀ l, 0 ≤ l → l ≤ left → Pure P f [.agg (enc a), .c (.int .i64 l)] (.c (.int .i64 (g a l)))) : Pure P n [.c (.fz (xs.map enc)), .c (.int .i64 left)] (.c (.int .i64 (szL g xs left))) := by
  refine Pure.run hm hc (Nat.le_of_ble_eq_true rfl) fun σ hS hA => ?_
  clear hS hA
  have hw : IntKind.i64.wrap (left - xs.length) = left - xs.length := wrap64 (by omega) (by omega)
  repeat' first | (apply Go.adm; exact rfl) | apply Go.qs | apply Qg.nil | ((first | apply Go.v2 | apply Go.v1); (first | exact leAdd | assumption); iterate 6 exact rfl) | ((first | apply Go.op | apply Go.sop | apply Qg.op); exact rfl; (first | exact aop_alloc | exact aop_new rfl rfl | exact aop_mksl rfl | exact aop_lenM rfl | exact rfl | exact aL rfl rfl rfl rfl rfl | exact aS rfl rfl rfl rfl rfl rfl rfl)) | ((first | apply Go.no | apply Go.sno | apply Qg.no); exact rfl) | (exfalso; omega) | (((first | apply Go.iQ | apply Go.gQ | apply Go.sQ | apply Qg.gQ); exact rfl; (first | exact .d | exact .e | exact .n | ((fail_if_success exact bqt); (fail_if_success exact bqf); exact .b))) <;> intro _)
  · refine .ret rfl (.int ?_)
    rename_i h
    rw [hw] at h
    rw [szL, if_pos h]
  rename_i hnn
  rw [hw] at hnn
  have hsz : szL g xs left = szList g xs (left - xs.length) := by rw [szL, if_neg hnn]
  rw [hsz, hw]
  refine Go.keep [0, 1, 5] (Go.loops (I := fun m fr τ => ∃ i : Nat, ∃ n l : Int, m = xs.length - i ∧ i ≤ xs.length ∧ n = i ∧ (0 ≤ l ∧ l ≤ left ∧ szList g xs (left - xs.length) = szList g (xs.drop i) l) ∧
    fr = [(0, .c (.fz (xs.map enc))), (1, .c (.int .i64 l)), (5, .c (.int .i64 n))] ∧ τ = E σ []) ?_ _ _ _ ⟨0, _, _, rfl, Nat.zero_le _, rfl, ⟨by omega, by omega, rfl⟩, rfl, rfl⟩)
  rintro m fr τ ⟨i, n, l, rfl, hi, hn, ⟨hl0, hl1, hsl⟩, rfl, rfl⟩ hrec
  by_cases hlt : i < xs.length
  · have hp := hf _ (List.getElem_mem hlt) l hl0 hl1
    have hgl := hg xs[i] l hl0
    repeat' first | (apply Go.adm; exact rfl) | apply Go.qs | apply Qg.nil | ((first | apply Go.v2 | apply Go.v1); (first | exact leAdd | assumption); iterate 6 exact rfl) | ((first | apply Go.op | apply Go.sop | apply Qg.op); exact rfl; (first | exact aop_alloc | exact aop_new rfl rfl | exact aop_mksl rfl | exact aop_lenM rfl | exact rfl | exact aL rfl rfl rfl rfl rfl | exact aS rfl rfl rfl rfl rfl rfl rfl | exact aop_iaddrM rfl rfl hn hlt (hs _) | exact aop_loadF rfl (hs _))) | ((first | apply Go.no | apply Go.sno | apply Qg.no); exact rfl) | ((first | apply Go.pcallI | apply Go.spcallI | apply Qg.pcallI); (iterate 3 exact rfl); exact hp; intro _ _) | (exfalso; omega) | (((first | apply Go.iQ | apply Go.gQ | apply Go.sQ | apply Qg.gQ); exact rfl; (first | exact .d | exact .e | exact .n | ((fail_if_success exact bqt); (fail_if_success exact bqf); exact .b))) <;> intro _)
    · refine .ret rfl (.int ?_)
      rw [hsl, List.drop_eq_getElem_cons hlt, szList, if_pos (by omega)]
    · refine Go.keep [0, 1, 5] (hrec _ _ _ (by omega) ⟨i + 1, _, _, rfl, hlt, wrap_succ hn (by omega), ⟨?_, ?_, ?_⟩, rfl, rfl⟩)
      · omega
      · omega
      · rw [hsl, List.drop_eq_getElem_cons hlt, szList, if_neg (by omega)]
        congr 1
  · repeat' first | (apply Go.adm; exact rfl) | apply Go.qs | apply Qg.nil | ((first | apply Go.v2 | apply Go.v1); (first | exact leAdd | assumption); iterate 6 exact rfl) | ((first | apply Go.op | apply Go.sop | apply Qg.op); exact rfl; (first | exact aop_alloc | exact aop_new rfl rfl | exact aop_mksl rfl | exact aop_lenM rfl | exact rfl | exact aL rfl rfl rfl rfl rfl | exact aS rfl rfl rfl rfl rfl rfl rfl)) | ((first | apply Go.no | apply Go.sno | apply Qg.no); exact rfl) | (exfalso; omega) | (((first | apply Go.iQ | apply Go.gQ | apply Go.sQ | apply Qg.gQ); exact rfl; (first | exact .d | exact .e | exact .n | ((fail_if_success exact bqt); (fail_if_success exact bqf); exact .b))) <;> intro _)
    refine .ret rfl (.int ?_)
    rw [hsl, List.drop_eq_nil_of_le (by omega)]
    rfl

def eqSCode (s f : Nat) : AFn := ⟨27, [.t 4], (.seq (.region [⟨some 4, .op (.mv (.k (.bool false))), none⟩]) (.seq (.seq (.region [⟨some 6, .op (.mv (.t 0)), none⟩, ⟨some 7, .op (.len false (.t 6)), none⟩, ⟨some 8, .op (.mv (.t 1)), none⟩, ⟨some 9, .op (.len false (.t 8)), none⟩, ⟨some 10, .op (.bin .neq (.t 7) (.t 9)), none⟩]) (.cond (.t 10) (.seq (.region [⟨some 4, .op (.mv (.k (.bool false))), none⟩]) .ret) .skip)) (.seq (.seq (.region [⟨some 5, .op (.mv (.k (.int .i64 0))), none⟩]) (.block 0 (.loop (.seq (.seq (.region [⟨some 11, .op (.mv (.t 5)), none⟩, ⟨some 12, .op (.mv (.t 0)), none⟩, ⟨some 13, .op (.len false (.t 12)), none⟩, ⟨some 14, .op (.bin .lss (.t 11) (.t 13)), none⟩]) (.cond (.t 14) .skip (.exit 0))) (.seq (.block 1 (.seq (.draw [[⟨some 17, .op (.mv (.t 0)), none⟩, ⟨some 18, .op (.mv (.t 5)), none⟩, ⟨some 19, .op (.iaddr s (.t 17) (.t 18)), none⟩, ⟨some 20, .op (.load true s (.t 19)), none⟩, ⟨some 21, .op (.mv (.t 1)), none⟩, ⟨some 22, .op (.mv (.t 5)), none⟩, ⟨some 23, .op (.iaddr s (.t 21) (.t 22)), none⟩, ⟨some 24, .op (.load true s (.t 23)), none⟩], [⟨some 25, .call (.f f) [(.t 20), (.t 24)], none⟩], [⟨some 26, .op (.un .not (.t 25)), none⟩]]) (.cond (.t 26) (.seq (.region [⟨some 4, .op (.mv (.k (.bool false))), none⟩]) .ret) .skip))) (.region [⟨some 15, .op (.mv (.t 5)), none⟩, ⟨some 16, .op (.bin .add (.t 15) (.k (.int .i64 1))), none⟩, ⟨some 5, .op (.mv (.t 16)), none⟩])))))) (.seq (.region [⟨some 4, .op (.mv (.k (.bool true))), none⟩]) .ret))))⟩
theorem eqS_ok {P : Program} (hm : P.follows .mixedOrders = true) {fz : List Nat} {n s f : Nat} (hc : compFn P fz n = some (eqSCode s f)) {α : Type} [DecidableEq α] (enc : α → List Ce) (xs ys : List α) (hx : xs.length ≤ 34359738368) (hs : ∀ a, (enc a).length = s)
    (hf : ∀ a ∈ xs, ∀ b, Pure P f [.agg (enc a), .agg (enc b)] (.c (.bool (a == b)))) : Pure P n [.c (.fz (xs.map enc)), .c (.fz (ys.map enc))] (.c (.bool (xs == ys))) := by
  refine Pure.run hm hc (Nat.le_of_ble_eq_true rfl) fun σ hS hA => ?_
  clear hS hA
  repeat' first | (apply Go.adm; exact rfl) | apply Go.qs | apply Qg.nil | ((first | apply Go.v2 | apply Go.v1); (first | exact leAdd | assumption); iterate 6 exact rfl) | ((first | apply Go.op | apply Go.sop | apply Qg.op); exact rfl; (first | exact aop_alloc | exact aop_new rfl rfl | exact aop_mksl rfl | exact aop_lenM rfl | exact rfl | exact aL rfl rfl rfl rfl rfl | exact aS rfl rfl rfl rfl rfl rfl rfl)) | ((first | apply Go.no | apply Go.sno | apply Qg.no); exact rfl) | (exfalso; omega) | (((first | apply Go.iQ | apply Go.gQ | apply Go.sQ | apply Qg.gQ); exact rfl; (first | exact .d | exact .e | exact .n | ((fail_if_success exact bqt); (fail_if_success exact bqf); exact .b))) <;> intro _)
  · refine .ret rfl (.bool ?_)
    rw [eq_comm, beq_eq_false_iff_ne]
    rintro rfl
    simp at *
  refine Go.keep [0, 1, 5] (Go.loops (I := fun m fr τ => ∃ i : Nat, ∃ n : Int, m = xs.length - i ∧ i ≤ xs.length ∧ n = i ∧ (xs.length = ys.length ∧ (xs == ys) = (xs.drop i == ys.drop i)) ∧
    fr = [(0, .c (.fz (xs.map enc))), (1, .c (.fz (ys.map enc))), (5, .c (.int .i64 n))] ∧ τ = E σ []) ?_ _ _ _ ⟨0, _, rfl, Nat.zero_le _, rfl, ⟨by omega, rfl⟩, rfl, rfl⟩)
  rintro m fr τ ⟨i, n, rfl, hi, hn, ⟨hl, hsl⟩, rfl, rfl⟩ hrec
  by_cases hlt : i < xs.length
  · have hlt2 : i < ys.length := by omega
    have hp := hf _ (List.getElem_mem hlt) ys[i]
    repeat' first | (apply Go.adm; exact rfl) | apply Go.qs | apply Qg.nil | ((first | apply Go.v2 | apply Go.v1); (first | exact leAdd | assumption); iterate 6 exact rfl) | ((first | apply Go.op | apply Go.sop | apply Qg.op); exact rfl; (first | exact aop_alloc | exact aop_new rfl rfl | exact aop_mksl rfl | exact aop_lenM rfl | exact rfl | exact aL rfl rfl rfl rfl rfl | exact aS rfl rfl rfl rfl rfl rfl rfl | exact aop_iaddrM rfl rfl hn hlt (hs _) | exact aop_iaddrM rfl rfl hn hlt2 (hs _) | exact aop_loadF rfl (hs _))) | ((first | apply Go.no | apply Go.sno | apply Qg.no); exact rfl) | ((first | apply Go.pcallB | apply Go.spcallB | apply Qg.pcallB); (iterate 3 exact rfl); exact hp; intro _ _) | (exfalso; omega) | (((first | apply Go.iQ | apply Go.gQ | apply Go.sQ | apply Qg.gQ); exact rfl; (first | exact .d | exact .e | exact .n | ((fail_if_success exact bqt); (fail_if_success exact bqf); exact .b))) <;> intro _)
    · refine .ret rfl (.bool ?_)
      rw [hsl, List.drop_eq_getElem_cons hlt, List.drop_eq_getElem_cons hlt2, List.cons_beq_cons]
      clear hrec
      simp_all
    · refine Go.keep [0, 1, 5] (hrec _ _ _ (by omega) ⟨i + 1, _, rfl, hlt, wrap_succ hn (by omega), ⟨hl, ?_⟩, rfl, rfl⟩)
      rw [hsl, List.drop_eq_getElem_cons hlt, List.drop_eq_getElem_cons hlt2, List.cons_beq_cons]
      clear hrec
      simp_all
  · repeat' first | (apply Go.adm; exact rfl) | apply Go.qs | apply Qg.nil | ((first | apply Go.v2 | apply Go.v1); (first | exact leAdd | assumption); iterate 6 exact rfl) | ((first | apply Go.op | apply Go.sop | apply Qg.op); exact rfl; (first | exact aop_alloc | exact aop_new rfl rfl | exact aop_mksl rfl | exact aop_lenM rfl | exact rfl | exact aL rfl rfl rfl rfl rfl | exact aS rfl rfl rfl rfl rfl rfl rfl)) | ((first | apply Go.no | apply Go.sno | apply Qg.no); exact rfl) | (exfalso; omega) | (((first | apply Go.iQ | apply Go.gQ | apply Go.sQ | apply Qg.gQ); exact rfl; (first | exact .d | exact .e | exact .n | ((fail_if_success exact bqt); (fail_if_success exact bqf); exact .b))) <;> intro _)
    refine .ret rfl (.bool ?_)
    rw [hsl, List.drop_eq_nil_of_le (by omega), List.drop_eq_nil_of_le (by omega)]
    rfl
theorem retv_m {fr : Fr} {σ : Store} {l : List (Nat × List (List Ce))} {k v i t j s : Nat} {g : Bool} {es : List (List Ce)} {e : List Ce} {x : AV} (hp : look fr t = some (.c (.ptr (σ.next + k) v i j))) (hl : l[k]? = some (v, es)) (he : es[i]? = some e) (hj : j ≤ e.length) (hx : takeA g s (e.drop j) = some x) :
    retv fr (E σ l) [.m t g s] = some x := by
  simp [retv, revs, RV.ev, hp, Store.at_, E_at, hl, he, hj, hx]
theorem Tidy.mono {n m : Nat} (h : n ≤ m) {x : Ce} (ht : Tidy m x) : Tidy n x := by
  cases ht with
  | flat h => exact .flat h
  | sl id v i m c h => exact .sl _ _ _ _ _ (by omega)
  | ptr id v i j h => exact .ptr _ _ _ _ (by omega)
theorem TidyL.nil {n : Nat} : TidyL n [] := fun b hb => by simp at hb
theorem TidyL.cons {n v : Nat} {es : List (List Ce)} {l : List (Nat × List (List Ce))} (h : ∀ e ∈ es, ∀ x ∈ e, Tidy n x) (hl : TidyL n l) : TidyL n ((v, es) :: l) := by
  intro b hb e he x hx
  rcases List.mem_cons.1 hb with rfl | hb
  · exact h e he x hx
  · exact hl b hb e he x hx
theorem TidyL.one {n v : Nat} {e : List Ce} {l : List (Nat × List (List Ce))} (h : ∀ x ∈ e, Tidy n x) (hl : TidyL n l) : TidyL n ((v, [e]) :: l) :=
  .cons (fun e' he x hx => by simp at he; subst he; exact h x hx) hl
theorem TidyL.mono {n m : Nat} (h : n ≤ m) {l : List (Nat × List (List Ce))} (hl : TidyL m l) : TidyL n l := fun b hb e he x hx => (hl b hb e he x hx).mono h
theorem E_two {σ : Store} {a a' b b' : Nat × List (List Ce)} {l : List (Nat × List (List Ce))} {id : Nat} (h : σ.next + 2 ≤ id) : (E σ (a' :: b' :: l)).get id = (E σ (a :: b :: l)).get id := by
  rw [E_ge (by omega), E_ge (by omega)]
  obtain ⟨q, hq⟩ : ∃ q, id - σ.next = q + 2 := ⟨id - σ.next - 2, by omega⟩
  rw [hq]
  rfl
end Go.Proofs.YtcfpdongfdhgjaaGreat.Am

/- The laws' helpers on values and entries: sizes, copies, equality. -/
set_option linter.unusedVariables false
set_option linter.unusedSimpArgs false
namespace Go.Proofs.YtcfpdongfdhgjaaGreat.Am

def szV (v : Val) (left : Int) : Int := if left - v.s.length < 0 then -1 else left - v.s.length
theorem szV_le (v : Val) (l : Int) (h : 0 ≤ l) : szV v l ≤ l := by
  simp only [szV]
  split <;> omega
theorem szVal_ok (v : Val) (left : Int) (hx : v.s.length ≤ 1125899906842624) (h0 : 0 ≤ left) (h1 : left ≤ 34359738368) : Pure Tryz.prog 103 [.agg (encV v), .c (.int .i64 left)] (.c (.int .i64 (szV v left))) := by
  refine Pure.run mixed c_laws_szVal_ok (Nat.le_of_ble_eq_true rfl) fun σ hS hA => ?_
  clear hS hA
  have hw : IntKind.i64.wrap (left - v.s.length) = left - v.s.length := wrap64 (by omega) (by omega)
  repeat' first | (apply Go.adm; exact rfl) | apply Go.qs | apply Qg.nil | ((first | apply Go.v2 | apply Go.v1); (first | exact leAdd | assumption); iterate 6 exact rfl) | ((first | apply Go.op | apply Go.sop | apply Qg.op); exact rfl; (first | exact aop_alloc | exact aop_new rfl rfl | exact aop_mksl rfl | exact aop_lenM rfl | exact rfl | exact aL rfl rfl rfl rfl rfl | exact aS rfl rfl rfl rfl rfl rfl rfl)) | ((first | apply Go.no | apply Go.sno | apply Qg.no); exact rfl) | (exfalso; omega) | (((first | apply Go.iQ | apply Go.gQ | apply Go.sQ | apply Qg.gQ); exact rfl; (first | exact .d | exact .e | exact .n | ((fail_if_success exact bqt); (fail_if_success exact bqf); exact .b))) <;> intro _)
  · refine .ret rfl (.int ?_)
    rename_i h
    rw [hw] at h
    rw [szV, if_pos h]
  · refine .ret rfl (.int ?_)
    rename_i h
    rw [hw] at h ⊢
    rw [szV, if_neg h]
def LenV (v : Val) : Prop := v.s.length ≤ 1125899906842624
theorem szValS_ok (xs : List Val) (left : Int) (hx : xs.length ≤ 1125899906842624) (hv : ∀ v ∈ xs, LenV v) (h0 : 0 ≤ left) (h1 : left ≤ 34359738368) : Pure Tryz.prog 35 [.c (.fz (xs.map encV)), .c (.int .i64 left)] (.c (.int .i64 (szL szV xs left))) :=
  szS_ok mixed c_laws_szValS_ok encV szV xs left hx h0 h1 (fun _ => rfl) szV_le fun a ha l h2 h3 => szVal_ok a l (hv a ha) h2 (by omega)
theorem flatV (v : Val) : ∀ x ∈ encV v, Flat x := by
  intro x hx
  simp only [encV, List.mem_cons, List.not_mem_nil, or_false] at hx
  rcases hx with rfl | rfl | rfl <;> constructor
theorem toVal_ok (v : Val) (σ : Store) : Ok Tryz.prog 109 [.agg (encV v)] σ (NewL σ (encV v)) := by
  refine Ok.run mixed c_laws_toVal_ok (Nat.le_of_ble_eq_true rfl) fun hS hA => ?_
  clear hS hA
  repeat' first | (apply Go.adm; exact rfl) | apply Go.qs | apply Qg.nil | ((first | apply Go.v2 | apply Go.v1); (first | exact leAdd | assumption); iterate 6 exact rfl) | ((first | apply Go.op | apply Go.sop | apply Qg.op); exact rfl; (first | exact aop_alloc | exact aop_new rfl rfl | exact aop_mksl rfl | exact aop_lenM rfl | exact rfl | exact aL rfl rfl rfl rfl rfl | exact aS rfl rfl rfl rfl rfl rfl rfl)) | ((first | apply Go.no | apply Go.sno | apply Qg.no); exact rfl) | (exfalso; omega) | (((first | apply Go.iQ | apply Go.gQ | apply Go.sQ | apply Qg.gQ); exact rfl; (first | exact .d | exact .e | exact .n | ((fail_if_success exact bqt); (fail_if_success exact bqf); exact .b))) <;> intro _)
  refine .ret (retv_m rfl rfl rfl (Nat.le_of_ble_eq_true rfl) rfl) ⟨encV v, _, rfl, rfl, ?_, .flat (flatV v)⟩
  show TidyL σ.next [(0, [encV v]), (0, [encV v])]
  exact .one (fun x hx => .flat (flatV v x hx)) (.one (fun x hx => .flat (flatV v x hx)) .nil)
theorem toValS_ok (xs : List Val) (hx : xs.length ≤ 34359738368) (σ : Store) : Ok Tryz.prog 38 [.c (.fz (xs.map encV))] σ (New σ (.fz (xs.map encV))) :=
  toS_ok mixed c_laws_toValS_ok encV xs hx (by decide) rfl (fun _ => rfl) (by intro x hx; simp only [List.mem_cons, List.not_mem_nil, or_false] at hx; rcases hx with rfl | rfl | rfl <;> constructor) (fun a _ σ => toVal_ok a σ) σ
end Go.Proofs.YtcfpdongfdhgjaaGreat.Am

/- The abstract machine, part 26: writing into owned trees; the laws' marks. -/
set_option linter.unusedVariables false
set_option linter.unusedSimpArgs false
namespace Go.Proofs.YtcfpdongfdhgjaaGreat.Am
open Go.RowKit

/-- What a slice's tree is made of. -/
theorem Has.open {σ : Store} {S : Nat → Prop} {ys : List (List Ce)} {x : Ce} (h : Has σ S (.fz ys) x) (hne : 0 < ys.length) : ∃ (id v s : Nat) (cs junk : List (List Ce)) (T : Nat → Nat → Nat → Prop), x = .sl id v 0 ys.length (ys.length + junk.length) ∧ σ.get id = some (v, cs ++ junk) ∧ S id ∧ ∃ hl : cs.length = ys.length,
    ∃ hs : ∀ i (hi : i < ys.length), (cs[i]'(by omega)).length = ys[i].length, (∀ e ∈ cs ++ junk, e.length = s) ∧ (∀ e ∈ junk, ∀ x ∈ e, Flat x) ∧ (∀ i j a, T i j a → S a ∧ a ≠ id) ∧ (∀ i j i' j' a, T i j a → T i' j' a → i = i' ∧ j = j') ∧
      ∀ i j (hi : i < ys.length) (hj : j < ys[i].length), Has σ (T i j) ys[i][j] ((cs[i]'(by omega))[j]'(by have := hs i hi; omega)) := by
  cases h with
  | c h => cases h
  | nil => simp at hne
  | o ys id v s cs junk T hg hS hl hs hall hj hT hd h => exact ⟨id, v, s, cs, junk, T, rfl, hg, hS, hl, hs, hall, hj, hT, hd, h⟩
theorem splice_set {e : List Ce} {j : Nat} {z : Ce} (h : j < e.length) : splice e j [z] = e.set j z := by
  simp only [splice, List.length_singleton]
  rw [List.set_eq_take_append_cons_drop, if_pos h]
  simp
/-- A flat cell of the tree's upper block is written. -/
theorem Has.write {σ : Store} {S : Nat → Prop} {ys : List (List Ce)} {x : Ce} (h : Has σ S (.fz ys) x) {i j : Nat} (hi : i < ys.length) (hj : j < ys[i].length) : ∃ (id v : Nat) (c : Nat) (es : List (List Ce)) (e : List Ce), x = .sl id v 0 ys.length c ∧ σ.get id = some (v, es) ∧ es[0 + i]? = some e ∧ e.length = ys[i].length ∧ S id ∧
    ∀ z, Flat z → Has (σ.put id (v, es.set (0 + i) (splice e (0 + j) [z]))) S (.fz (ys.set i (ys[i].set j z))) x := by
  obtain ⟨id, v, s, cs, junk, T, rfl, hg, hS, hl, hs, hall, hjk, hT, hd, hh⟩ := h.open (by omega)
  have hic : i < cs.length := by omega
  refine ⟨id, v, _, cs ++ junk, cs[i], rfl, hg, by rw [Nat.zero_add, List.getElem?_append_left hic, List.getElem?_eq_getElem hic], hs i hi, hS, fun z hz => ?_⟩
  have hlen : cs[i].length = ys[i].length := hs i hi
  simp only [Nat.zero_add]
  rw [splice_set (by omega), List.set_append_left _ _ hic]
  have hy : (ys.set i (ys[i].set j z)).length = ys.length := by simp
  have key := Has.o (σ := σ.put id (v, cs.set i (cs[i].set j z) ++ junk)) (S := S) (ys.set i (ys[i].set j z)) id v s (cs.set i (cs[i].set j z)) junk T (put_self rfl) hS (by simp [hl])
    (fun k hk => by
      have hk' : k < ys.length := by simpa using hk
      by_cases e : k = i
      · subst e; simp [hlen]
      · rw [List.getElem_set_ne (Ne.symm e), List.getElem_set_ne (Ne.symm e)]; exact hs k hk')
    (fun e he => by
      rcases List.mem_append.1 he with h1 | h1
      · rcases List.mem_or_eq_of_mem_set h1 with h2 | h2
        · exact hall e (List.mem_append_left _ h2)
        · subst h2
          rw [List.length_set]
          exact hall _ (List.mem_append_left _ (List.getElem_mem hic))
      · exact hall e (List.mem_append_right _ h1)) hjk hT hd
    (fun k m hk hm => by
      have hk' : k < ys.length := by simpa using hk
      have fr : ∀ {k m} {y x : Ce}, Has σ (T k m) y x → Has (σ.put id (v, cs.set i (cs[i].set j z) ++ junk)) (T k m) y x := fun h => h.frame fun a ha => put_ne (hT _ _ a ha).2
      by_cases e : k = i
      · subst e
        have e1 : (ys.set k (ys[k].set j z))[k] = ys[k].set j z := by simp
        have e2 : (cs.set k (cs[k].set j z))[k]'(by simp; omega) = cs[k].set j z := by simp
        simp only [e1, e2]
        by_cases e3 : m = j
        · subst e3
          simp only [List.getElem_set_self]
          exact .c hz
        · have hm' : m < ys[k].length := by simpa using hm
          rw [List.getElem_set_ne (Ne.symm e3), List.getElem_set_ne (Ne.symm e3)]
          exact fr (hh k m hk' hm')
      · have e1 : (ys.set i (ys[i].set j z))[k] = ys[k] := by rw [List.getElem_set_ne (Ne.symm e)]
        have e2 : (cs.set i (cs[i].set j z))[k]'(by simp; omega) = cs[k]'(by omega) := by rw [List.getElem_set_ne (Ne.symm e)]
        simp only [e1, e2]
        exact fr (hh k m hk' (by simpa only [e1] using hm)))
  rw [hy] at key
  exact key
/-- A tree below is handed on and comes back changed. -/
theorem Has.child {σ : Store} {S : Nat → Prop} {ys : List (List Ce)} {x : Ce} (h : Has σ S (.fz ys) x) {i j : Nat} (hi : i < ys.length) (hj : j < ys[i].length) : ∃ (id v : Nat) (c : Nat) (es : List (List Ce)) (e : List Ce) (T : Nat → Prop), x = .sl id v 0 ys.length c ∧ σ.get id = some (v, es) ∧ es[0 + i]? = some e ∧ e.length = ys[i].length ∧ (∀ a, T a → S a) ∧
    ∃ hj' : j < e.length, Has σ T ys[i][j] e[j] ∧ ∀ σ' y', (∀ a, ¬ T a → σ'.get a = σ.get a) → Has σ' T y' e[j] → Has σ' S (.fz (ys.set i (ys[i].set j y'))) x := by
  obtain ⟨id, v, s, cs, junk, T, rfl, hg, hS, hl, hs, hall, hjk, hT, hd, hh⟩ := h.open (by omega)
  have hic : i < cs.length := by omega
  have hlen : cs[i].length = ys[i].length := hs i hi
  refine ⟨id, v, _, cs ++ junk, cs[i], T i j, rfl, hg, by rw [Nat.zero_add, List.getElem?_append_left hic, List.getElem?_eq_getElem hic], hlen, fun a ha => (hT i j a ha).1, by omega, hh i j hi hj, fun σ' y' hf hy' => ?_⟩
  have hy : (ys.set i (ys[i].set j y')).length = ys.length := by simp
  have key := Has.o (σ := σ') (S := S) (ys.set i (ys[i].set j y')) id v s cs junk T (by rw [hf id (fun h => (hT i j id h).2 rfl)]; exact hg) hS (by simp [hl])
    (fun k hk => by
      have hk' : k < ys.length := by simpa using hk
      by_cases e : k = i
      · subst e; simp [hlen]
      · rw [List.getElem_set_ne (Ne.symm e)]; exact hs k hk') hall hjk hT hd
    (fun k m hk hm => by
      have hk' : k < ys.length := by simpa using hk
      have fr : ∀ {k m} {y x : Ce}, ¬ (k = i ∧ m = j) → Has σ (T k m) y x → Has σ' (T k m) y x := fun hne h => h.frame fun a ha => hf a fun h2 => hne (hd _ _ _ _ a ha h2)
      by_cases e : k = i
      · subst e
        have e1 : (ys.set k (ys[k].set j y'))[k] = ys[k].set j y' := by simp
        simp only [e1]
        by_cases e3 : m = j
        · subst e3
          simp only [List.getElem_set_self]
          exact hy'
        · have hm' : m < ys[k].length := by simpa using hm
          rw [List.getElem_set_ne (Ne.symm e3)]
          exact fr (by omega) (hh k m hk' hm')
      · have e1 : (ys.set i (ys[i].set j y'))[k] = ys[k] := by rw [List.getElem_set_ne (Ne.symm e)]
        simp only [e1]
        exact fr (by omega) (hh k m hk' (by simpa only [e1] using hm)))
  rw [hy] at key
  exact key

/-! ### Operations on a block of a store, whichever it is -/
theorem aop_iaddrO {fr : Fr} {σ : Store} {s id v i m c n : Nat} {x y : Opd} {kd : IntKind} {es : List (List Ce)} {z : Int} (hx : x.ev fr = some (.c (.sl id v i m c))) (hy : y.ev fr = some (.c (.int kd z))) (hz : z = (n : Int)) (hn : n < m) (hl : σ.get id = some (v, es)) {e : List Ce} (he : es[i + n]? = some e) (hs : e.length = s) :
    aop (.iaddr s x y) fr σ = some (.c (.ptr id v (i + n) 0), σ) := by
  subst hz
  simp [aop, hx, hy, iaddrA, hn, hl, he, hs]
theorem aop_storeO {fr : Fr} {σ : Store} {id v i j : Nat} {a y : Opd} {es : List (List Ce)} {e : List Ce} {z : Ce} (ha : a.ev fr = some (.c (.ptr id v i j))) (hy : y.ev fr = some (.c z)) (hl : σ.get id = some (v, es)) (he : es[i]? = some e) (hj : j < e.length) :
    aop (.store 1 a y) fr σ = some (.un, σ.put id (v, es.set i (splice e j [z]))) := by
  have : j + 1 ≤ e.length := by omega
  simp [aop, ha, hy, AV.cells, hl, he, this]
theorem aop_loadO {fr : Fr} {σ : Store} {id v i j : Nat} {a : Opd} {es : List (List Ce)} {e : List Ce} (ha : a.ev fr = some (.c (.ptr id v i j))) (hl : σ.get id = some (v, es)) (he : es[i]? = some e) (hj : j < e.length) :
    aop (.load false 1 a) fr σ = some (.c e[j], σ) := by
  have h1 : j ≤ e.length := by omega
  have h2 : e.drop j = e[j] :: e.drop (j + 1) := List.drop_eq_getElem_cons hj
  simp only [aop, ha, Store.at_, hl, he, if_true, Option.bind_some, if_pos h1, h2, takeA]
  rfl

theorem aop_lenH {fr : Fr} {σ : Store} {S : Nat → Prop} {ys : List (List Ce)} {x : Ce} {o : Opd} (hx : o.ev fr = some (.c x)) (h : Has σ S (.fz ys) x) : aop (.len false o) fr σ = some (.c (.int .i64 (ys.length : Int)), σ) := by
  cases h with
  | c h => cases h
  | nil => simp [aop, hx]
  | o ys id v s cs junk T hg hS hl hs hall hj hT hd h => simp [aop, hx]

/-- The call marks a tree, in place. -/
structure Marks (P : Program) (f : Nat) (y y' : Ce) (k k' : Int) : Prop where
  at_ : ∀ σ S x, Has σ S y x → Ok P f [.c x, .c (.int .i64 k)] σ (fun r σ' => r = .c (.int .i64 k') ∧ σ'.next = σ.next ∧ (∀ a, ¬ S a → σ'.get a = σ.get a) ∧ Has σ' S y' x)

/-- The marks' loop: B marks one element. -/
def markSCode (nt q : Nat) (B : AC) : AFn := ⟨nt, [.t 4], (.seq (.region [⟨some 4, .op (.mv (.k (.int .i64 0))), none⟩]) (.seq (.seq (.region [⟨some 5, .op (.mv (.k (.int .i64 0))), none⟩]) (.block 0 (.loop (.seq (.seq (.region [⟨some 6, .op (.mv (.t 5)), none⟩, ⟨some 7, .op (.mv (.t 0)), none⟩, ⟨some 8, .op (.len false (.t 7)), none⟩, ⟨some 9, .op (.bin .lss (.t 6) (.t 8)), none⟩]) (.cond (.t 9) .skip (.exit 0))) (.seq (.block 1 B) (.region [⟨some 10, .op (.mv (.t 5)), none⟩, ⟨some 11, .op (.bin .add (.t 10) (.k (.int .i64 1))), none⟩, ⟨some 5, .op (.mv (.t 11)), none⟩])))))) (.seq (.region [⟨some q, .op (.mv (.t 1)), none⟩, ⟨some 4, .op (.mv (.t q)), none⟩]) .ret)))⟩
def markL {α : Type} (m : α → Int → α) (c : α → Int) : List α → Int → List α
  | [], _ => []
  | a :: r, k => m a k :: markL m c r (k + c a)
def cntL {α : Type} (c : α → Int) : List α → Int
  | [] => 0
  | a :: r => c a + cntL c r
theorem markL_length {α : Type} {m : α → Int → α} {c : α → Int} : ∀ {xs : List α} {k : Int}, (markL m c xs k).length = xs.length
  | [], k => rfl
  | a :: r, k => by simp [markL, markL_length]
theorem markL_append {α : Type} {m : α → Int → α} {c : α → Int} : ∀ {xs ys : List α} {k : Int}, markL m c (xs ++ ys) k = markL m c xs k ++ markL m c ys (k + cntL c xs)
  | [], ys, k => by simp [markL, cntL]
  | a :: r, ys, k => by
    simp only [List.cons_append, markL, markL_append, cntL]
    rw [Int.add_assoc]
theorem cntL_append {α : Type} {c : α → Int} : ∀ {xs ys : List α}, cntL c (xs ++ ys) = cntL c xs + cntL c ys
  | [], ys => by simp [cntL]
  | a :: r, ys => by
    simp only [List.cons_append, cntL, cntL_append]
    omega
theorem cntL_nonneg {α : Type} {c : α → Int} (h : ∀ a, 0 ≤ c a) : ∀ xs : List α, 0 ≤ cntL c xs
  | [] => Int.le_refl _
  | a :: r => by
    have := cntL_nonneg h r
    have := h a
    simp only [cntL]
    omega
theorem markS_ok {P : Program} (hm : P.follows .mixedOrders = true) {fz : List Nat} {n nt q : Nat} {B : AC} (hc : compFn P fz n = some (markSCode nt q B)) (hnt : 2 ≤ nt) (hq : 12 ≤ q) {α : Type} (enc : α → List Ce) (m : α → Int → α) (c : α → Int) (hc0 : ∀ a, 0 ≤ c a) (xs : List α) (k : Int) (hx : xs.length ≤ 34359738368) (hk0 : 0 ≤ k) (hk : k + cntL c xs ≤ 34359738368)
    (hB : ∀ (n0 : Nat) (rets : List RV) (R : AV → Store → Prop) (K : List AK) (σ τ : Store) (S : Nat → Prop) (x : Ce) (i : Nat) (ni : Int) (ki : Int) (ys : List α) (hi : i < ys.length) (fr : Fr), n0 ≤ τ.next → ys.length ≤ 34359738368 → ni = (i : Int) → 0 ≤ ki → ki + c ys[i] ≤ 34359738368 →
      look fr 0 = some (.c x) → look fr 1 = some (.c (.int .i64 ki)) → look fr 5 = some (.c (.int .i64 ni)) → ys[i] ∈ xs → Has τ S (.fz (ys.map enc)) x →
      (∀ fr' τ', look fr' 0 = some (.c x) → look fr' 1 = some (.c (.int .i64 (ki + c ys[i]))) → look fr' 5 = some (.c (.int .i64 ni)) → τ'.next = τ.next → (∀ a, ¬ S a → τ'.get a = τ.get a) → Has τ' S (.fz ((ys.set i (m ys[i] ki)).map enc)) x → Go P n0 nt rets R K fr' τ') →
      Go P n0 nt rets R (.code B :: K) fr τ) : Marks P n (.fz (xs.map enc)) (.fz ((markL m c xs k).map enc)) k (k + cntL c xs) := by
  constructor
  intro σ S x hh
  refine .old hc fun hS hA => .of_go hm hc (by simpa [markSCode] using hnt) ?_
  have hlen : (xs.map enc).length = xs.length := by simp
  repeat' first | (apply Go.adm; exact rfl) | apply Go.qs | apply Qg.nil | ((first | apply Go.v2 | apply Go.v1); (first | exact leAdd | assumption); iterate 6 exact rfl) | ((first | apply Go.op | apply Go.sop | apply Qg.op); exact rfl; (first | exact aop_alloc | exact aop_new rfl rfl | exact aop_mksl rfl | exact aop_lenM rfl | exact rfl | exact aL rfl rfl rfl rfl rfl | exact aS rfl rfl rfl rfl rfl rfl rfl)) | ((first | apply Go.no | apply Go.sno | apply Qg.no); exact rfl) | (exfalso; omega) | (((first | apply Go.iQ | apply Go.gQ | apply Go.sQ | apply Qg.gQ); exact rfl; (first | exact .d | exact .e | exact .n | ((fail_if_success exact bqt); (fail_if_success exact bqf); exact .b))) <;> intro _)
  refine Go.keep [0, 1, 5] (Go.loops (I := fun mm fr τ => ∃ i : Nat, ∃ n ki : Int, mm = xs.length - i ∧ i ≤ xs.length ∧ n = i ∧ (ki = k + cntL c (xs.take i) ∧ τ.next = σ.next ∧ (∀ a, ¬ S a → τ.get a = σ.get a) ∧ Has τ S (.fz ((markL m c (xs.take i) k ++ xs.drop i).map enc)) x) ∧
    fr = [(0, .c x), (1, .c (.int .i64 ki)), (5, .c (.int .i64 n))]) ?_ _ _ _ ⟨0, _, _, rfl, Nat.zero_le _, rfl, ⟨by simp [cntL], rfl, fun _ _ => rfl, by simpa [markL] using hh⟩, rfl⟩)
  rintro mm fr τ ⟨i, n, ki, rfl, hi, hn, ⟨hki, hnx, hfr, hhi⟩, rfl⟩ hrec
  by_cases hlt : i < xs.length
  · have hmap : (((markL m c (xs.take i) k ++ xs.drop i).map enc).length : Int) = xs.length := by simp [markL_length]; omega
    repeat' first | (apply Go.adm; exact rfl) | apply Go.qs | apply Qg.nil | ((first | apply Go.v2 | apply Go.v1); (first | exact leAdd | assumption); iterate 6 exact rfl) | ((first | apply Go.op | apply Go.sop | apply Qg.op); exact rfl; (first | exact aop_alloc | exact aop_new rfl rfl | exact aop_mksl rfl | exact aop_lenM rfl | exact rfl | exact aL rfl rfl rfl rfl rfl | exact aS rfl rfl rfl rfl rfl rfl rfl | exact aop_lenH rfl hhi)) | ((first | apply Go.no | apply Go.sno | apply Qg.no); exact rfl) | (exfalso; omega) | (((first | apply Go.iQ | apply Go.gQ | apply Go.sQ | apply Qg.gQ); exact rfl; (first | exact .d | exact .e | exact .n | ((fail_if_success exact bqt); (fail_if_success exact bqf); exact .b))) <;> intro _)
    rw [hmap]
    repeat' first | (apply Go.adm; exact rfl) | apply Go.qs | apply Qg.nil | ((first | apply Go.v2 | apply Go.v1); (first | exact leAdd | assumption); iterate 6 exact rfl) | ((first | apply Go.op | apply Go.sop | apply Qg.op); exact rfl; (first | exact aop_alloc | exact aop_new rfl rfl | exact aop_mksl rfl | exact aop_lenM rfl | exact rfl | exact aL rfl rfl rfl rfl rfl | exact aS rfl rfl rfl rfl rfl rfl rfl)) | ((first | apply Go.no | apply Go.sno | apply Qg.no); exact rfl) | (exfalso; omega) | (((first | apply Go.iQ | apply Go.gQ | apply Go.sQ | apply Qg.gQ); exact rfl; (first | exact .d | exact .e | exact .n | ((fail_if_success exact bqt); (fail_if_success exact bqf); exact .b))) <;> intro _)
    · have hyl : (markL m c (xs.take i) k ++ xs.drop i).length = xs.length := by simp [markL_length]; omega
      have hyi : (markL m c (xs.take i) k ++ xs.drop i)[i]'(by omega) = xs[i] := by
        rw [List.getElem_append_right (by simp [markL_length]; omega)]
        simp [markL_length, Nat.min_eq_left (Nat.le_of_lt hlt)]
      have htk : xs.take (i + 1) = xs.take i ++ [xs[i]] := List.take_succ_eq_append_getElem hlt
      have hcs : cntL c (xs.take (i + 1)) = cntL c (xs.take i) + c xs[i] := by rw [htk, cntL_append]; simp [cntL]
      have hle : cntL c (xs.take (i + 1)) ≤ cntL c xs := by
        have h1 : cntL c xs = cntL c (xs.take (i + 1)) + cntL c (xs.drop (i + 1)) := by rw [← cntL_append, List.take_append_drop]
        have := cntL_nonneg hc0 (xs.drop (i + 1))
        omega
      have hn0 := cntL_nonneg hc0 (xs.take i)
      refine hB _ _ _ _ σ τ S _ i n ki (markL m c (xs.take i) k ++ xs.drop i) (by omega) _ (by omega) (by omega) hn (by omega) (by rw [hyi]; omega) rfl rfl rfl (by rw [hyi]; exact List.getElem_mem hlt) hhi ?_
      intro fr' τ' h0 h1 h5 hnx' hfr' hh'
      rw [hyi] at h1 hh'
      refine .same (fr' := (0, .c x) :: (1, .c (.int .i64 (ki + c xs[i]))) :: (5, .c (.int .i64 n)) :: fr') (fun t => ?_) ?_
      · simp only [look]
        split
        · rename_i e; subst e; exact h0.symm
        · split
          · rename_i e; subst e; exact h1.symm
          · split
            · rename_i e; subst e; exact h5.symm
            · rfl
      repeat' first | (apply Go.adm; exact rfl) | apply Go.qs | apply Qg.nil | ((first | apply Go.v2 | apply Go.v1); (first | exact leAdd | assumption); iterate 6 exact rfl) | ((first | apply Go.op | apply Go.sop | apply Qg.op); exact rfl; (first | exact aop_alloc | exact aop_new rfl rfl | exact aop_mksl rfl | exact aop_lenM rfl | exact rfl | exact aL rfl rfl rfl rfl rfl | exact aS rfl rfl rfl rfl rfl rfl rfl)) | ((first | apply Go.no | apply Go.sno | apply Qg.no); exact rfl) | (exfalso; omega) | (((first | apply Go.iQ | apply Go.gQ | apply Go.sQ | apply Qg.gQ); exact rfl; (first | exact .d | exact .e | exact .n | ((fail_if_success exact bqt); (fail_if_success exact bqf); exact .b))) <;> intro _)
      refine Go.keep [0, 1, 5] (hrec _ _ _ (by omega) ⟨i + 1, _, _, rfl, hlt, wrap_succ hn (by omega), ⟨by omega, by omega, fun a ha => (hfr' a ha).trans (hfr a ha), ?_⟩, rfl⟩)
      have he : (markL m c (xs.take i) k ++ xs.drop i).set i (m xs[i] ki) = markL m c (xs.take (i + 1)) k ++ xs.drop (i + 1) := by
        have h00 : i - (markL m c (xs.take i) k).length = 0 := by simp [markL_length]; omega
        rw [htk, markL_append, List.set_append_right _ _ (by simp [markL_length]; omega), h00, List.drop_eq_getElem_cons hlt, List.set_cons_zero, List.append_assoc, hki]
        rfl
      rw [← he]
      exact hh'
  · have hmap : (((markL m c (xs.take i) k ++ xs.drop i).map enc).length : Int) = xs.length := by simp [markL_length]; omega
    repeat' first | (apply Go.adm; exact rfl) | apply Go.qs | apply Qg.nil | ((first | apply Go.v2 | apply Go.v1); (first | exact leAdd | assumption); iterate 6 exact rfl) | ((first | apply Go.op | apply Go.sop | apply Qg.op); exact rfl; (first | exact aop_alloc | exact aop_new rfl rfl | exact aop_mksl rfl | exact aop_lenM rfl | exact rfl | exact aL rfl rfl rfl rfl rfl | exact aS rfl rfl rfl rfl rfl rfl rfl | exact aop_lenH rfl hhi)) | ((first | apply Go.no | apply Go.sno | apply Qg.no); exact rfl) | (exfalso; omega) | (((first | apply Go.iQ | apply Go.gQ | apply Go.sQ | apply Qg.gQ); exact rfl; (first | exact .d | exact .e | exact .n | ((fail_if_success exact bqt); (fail_if_success exact bqf); exact .b))) <;> intro _)
    rw [hmap]
    repeat' first | (apply Go.adm; exact rfl) | apply Go.qs | apply Qg.nil | ((first | apply Go.v2 | apply Go.v1); (first | exact leAdd | assumption); iterate 6 exact rfl) | ((first | apply Go.op | apply Go.sop | apply Qg.op); exact rfl; (first | exact aop_alloc | exact aop_new rfl rfl | exact aop_mksl rfl | exact aop_lenM rfl | exact rfl | exact aL rfl rfl rfl rfl rfl | exact aS rfl rfl rfl rfl rfl rfl rfl)) | ((first | apply Go.no | apply Go.sno | apply Qg.no); exact rfl) | (exfalso; omega) | (((first | apply Go.iQ | apply Go.gQ | apply Go.sQ | apply Qg.gQ); exact rfl; (first | exact .d | exact .e | exact .n | ((fail_if_success exact bqt); (fail_if_success exact bqf); exact .b))) <;> intro _)
    · refine .op (v := .c (.int .i64 ki)) (σ' := τ) rfl (by simp [aop, Opd.ev, putA, look]) ?_
      repeat' first | (apply Go.adm; exact rfl) | apply Go.qs | apply Qg.nil | ((first | apply Go.v2 | apply Go.v1); (first | exact leAdd | assumption); iterate 6 exact rfl) | ((first | apply Go.op | apply Go.sop | apply Qg.op); exact rfl; (first | exact aop_alloc | exact aop_new rfl rfl | exact aop_mksl rfl | exact aop_lenM rfl | exact rfl | exact aL rfl rfl rfl rfl rfl | exact aS rfl rfl rfl rfl rfl rfl rfl)) | ((first | apply Go.no | apply Go.sno | apply Qg.no); exact rfl) | (exfalso; omega) | (((first | apply Go.iQ | apply Go.gQ | apply Go.sQ | apply Qg.gQ); exact rfl; (first | exact .d | exact .e | exact .n | ((fail_if_success exact bqt); (fail_if_success exact bqf); exact .b))) <;> intro _)
      have hii : i = xs.length := by omega
      subst hii
      rw [List.take_length] at hki hhi
      rw [List.drop_length, List.append_nil] at hhi
      refine .ret rfl ⟨by rw [hki], hnx, hfr, hhi⟩
end Go.Proofs.YtcfpdongfdhgjaaGreat.Am

/- The laws' marks on values and entries. -/
set_option linter.unusedVariables false
set_option linter.unusedSimpArgs false
namespace Go.Proofs.YtcfpdongfdhgjaaGreat.Am

def mDig : Nat → Nat → List UInt8 → List UInt8
  | 0, _, acc => acc
  | f + 1, n, acc => if n = 0 then acc else mDig f (n / 10) (UInt8.ofNat (48 + n % 10) :: acc)
def mText (k : Int) : List UInt8 := if k ≤ 0 then [109, 48] else 109 :: mDig 13 k.toNat []
theorem mDig_zero : ∀ {f : Nat} {acc : List UInt8}, mDig f 0 acc = acc
  | 0, _ => rfl
  | f + 1, _ => rfl
theorem aop_cat {fr : Fr} {σ : Store} {x y : Opd} {a b : List UInt8} (hx : x.ev fr = some (.c (.str a))) (hy : y.ev fr = some (.c (.str b))) (h : a.length + b.length ≤ 9223372036854775807) : aop (.bin .add x y) fr σ = some (.c (.str (a ++ b)), σ) := by
  simp [aop, hx, hy, binA, h]
theorem aop_rem {fr : Fr} {σ : Store} {x y : Opd} {k : IntKind} {a b : Int} (hx : x.ev fr = some (.c (.int k a))) (hy : y.ev fr = some (.c (.int k b))) (h : b ≠ 0) : aop (.bin .rem x y) fr σ = some (.c (.int k (a.tmod b)), σ) := by
  simp [aop, hx, hy, binA, h]
theorem aop_quo {fr : Fr} {σ : Store} {x y : Opd} {k : IntKind} {a b : Int} (hx : x.ev fr = some (.c (.int k a))) (hy : y.ev fr = some (.c (.int k b))) (h : b ≠ 0) : aop (.bin .quo x y) fr σ = some (.c (.int k (k.wrap (a.tdiv b))), σ) := by
  simp [aop, hx, hy, binA, h]
theorem wrapU8 {n : Int} (h1 : 0 ≤ n) (h2 : n ≤ 255) : IntKind.u8.wrap n = n := by
  rw [IntKind.wrap_u8]
  omega
theorem markText_ok (k : Int) (hk : k ≤ 34359738368) : Pure Tryz.prog 79 [.c (.int .i64 k)] (.c (.str (mText k))) := by
  refine Pure.run mixed c_laws_markText_ok (Nat.le_of_ble_eq_true rfl) fun σ hS hA => ?_
  clear hS hA
  repeat' first | (apply Go.adm; exact rfl) | apply Go.qs | apply Qg.nil | ((first | apply Go.v2 | apply Go.v1); (first | exact leAdd | assumption); iterate 6 exact rfl) | ((first | apply Go.op | apply Go.sop | apply Qg.op); exact rfl; (first | exact aop_alloc | exact aop_new rfl rfl | exact aop_mksl rfl | exact aop_lenM rfl | exact rfl | exact aL rfl rfl rfl rfl rfl | exact aS rfl rfl rfl rfl rfl rfl rfl)) | ((first | apply Go.no | apply Go.sno | apply Qg.no); exact rfl) | (exfalso; omega) | (((first | apply Go.iQ | apply Go.gQ | apply Go.sQ | apply Qg.gQ); exact rfl; (first | exact .d | exact .e | exact .n | ((fail_if_success exact bqt); (fail_if_success exact bqf); exact .b))) <;> intro _)
  · refine .ret rfl (.str ?_)
    rw [mText, if_pos (by assumption)]
  rename_i hpos
  refine Go.keep [0, 3] (Go.loops (I := fun m fr τ => ∃ n : Nat, ∃ ni : Int, ∃ acc : List UInt8, ni = n ∧ n < 10 ^ m ∧ m ≤ 13 ∧ mText k = 109 :: mDig m n acc ∧ acc.length + m ≤ 13 ∧
    fr = [(0, .c (.int .i64 ni)), (3, .c (.str acc))] ∧ τ = E σ []) ?_ 13 _ _ ⟨k.toNat, _, [], by omega, by omega, Nat.le_refl _, by rw [mText, if_neg hpos], by simp, rfl, rfl⟩)
  rintro m fr τ ⟨n, ni, acc, hn, hlt, hm, hs, hal, rfl, rfl⟩ hrec
  match m, hlt, hm, hs, hal, hrec with
  | 0, hlt, hm, hs, hal, hrec =>
    have : n = 0 := by simpa using hlt
    subst this
    repeat' first | (apply Go.adm; exact rfl) | apply Go.qs | apply Qg.nil | ((first | apply Go.v2 | apply Go.v1); (first | exact leAdd | assumption); iterate 6 exact rfl) | ((first | apply Go.op | apply Go.sop | apply Qg.op); exact rfl; (first | exact aop_alloc | exact aop_new rfl rfl | exact aop_mksl rfl | exact aop_lenM rfl | exact rfl | exact aL rfl rfl rfl rfl rfl | exact aS rfl rfl rfl rfl rfl rfl rfl | exact aop_cat rfl rfl (by simp; omega) | exact aop_rem rfl rfl (by decide) | exact aop_quo rfl rfl (by decide))) | ((first | apply Go.no | apply Go.sno | apply Qg.no); exact rfl) | (exfalso; omega) | (((first | apply Go.iQ | apply Go.gQ | apply Go.sQ | apply Qg.gQ); exact rfl; (first | exact .d | exact .e | exact .n | ((fail_if_success exact bqt); (fail_if_success exact bqf); exact .b))) <;> intro _)
    refine .ret rfl (.str ?_)
    rw [hs, mDig_zero]
    rfl
  | m + 1, hlt, hm, hs, hal, hrec =>
    have hb : n ≤ 10 ^ 13 := Nat.le_trans (Nat.le_of_lt hlt) (Nat.pow_le_pow_right (by decide) hm)
    by_cases h0 : n = 0
    · subst h0
      repeat' first | (apply Go.adm; exact rfl) | apply Go.qs | apply Qg.nil | ((first | apply Go.v2 | apply Go.v1); (first | exact leAdd | assumption); iterate 6 exact rfl) | ((first | apply Go.op | apply Go.sop | apply Qg.op); exact rfl; (first | exact aop_alloc | exact aop_new rfl rfl | exact aop_mksl rfl | exact aop_lenM rfl | exact rfl | exact aL rfl rfl rfl rfl rfl | exact aS rfl rfl rfl rfl rfl rfl rfl | exact aop_cat rfl rfl (by simp; omega) | exact aop_rem rfl rfl (by decide) | exact aop_quo rfl rfl (by decide))) | ((first | apply Go.no | apply Go.sno | apply Qg.no); exact rfl) | (exfalso; omega) | (((first | apply Go.iQ | apply Go.gQ | apply Go.sQ | apply Qg.gQ); exact rfl; (first | exact .d | exact .e | exact .n | ((fail_if_success exact bqt); (fail_if_success exact bqf); exact .b))) <;> intro _)
      refine .ret rfl (.str ?_)
      rw [hs, mDig_zero]
      rfl
    · repeat' first | (apply Go.adm; exact rfl) | apply Go.qs | apply Qg.nil | ((first | apply Go.v2 | apply Go.v1); (first | exact leAdd | assumption); iterate 6 exact rfl) | ((first | apply Go.op | apply Go.sop | apply Qg.op); exact rfl; (first | exact aop_alloc | exact aop_new rfl rfl | exact aop_mksl rfl | exact aop_lenM rfl | exact rfl | exact aL rfl rfl rfl rfl rfl | exact aS rfl rfl rfl rfl rfl rfl rfl | exact aop_cat rfl rfl (by simp; omega) | exact aop_rem rfl rfl (by decide) | exact aop_quo rfl rfl (by decide))) | ((first | apply Go.no | apply Go.sno | apply Qg.no); exact rfl) | (exfalso; omega) | (((first | apply Go.iQ | apply Go.gQ | apply Go.sQ | apply Qg.gQ); exact rfl; (first | exact .d | exact .e | exact .n | ((fail_if_success exact bqt); (fail_if_success exact bqf); exact .b))) <;> intro _)
      have q1 : (n : Int).tdiv 10 = ((n / 10 : Nat) : Int) := rfl
      have q2 : (n : Int).tmod 10 = ((n % 10 : Nat) : Int) := rfl
      have e1 : IntKind.i64.wrap (ni.tdiv 10) = ((n / 10 : Nat) : Int) := by
        rw [hn, q1, wrap64 (by omega) (by omega)]
      have e2 : (IntKind.u8.wrap (IntKind.i64.wrap (48 + ni.tmod 10))) = ((48 + n % 10 : Nat) : Int) := by
        rw [hn, q2, wrap64 (by omega) (by omega), wrapU8 (by omega) (by omega)]
        omega
      refine Go.keep [0, 3] (hrec m _ _ (by omega) ⟨n / 10, _, _, e1, ?_, by omega, ?_, ?_, rfl, rfl⟩)
      · rw [Nat.div_lt_iff_lt_mul (by decide), ← Nat.pow_succ]
        exact hlt
      · rw [hs, mDig, if_neg h0, e2]
        rfl
      · simp
        omega

def markI (a k : Int) : Int := k
def markV (v : Val) (k : Int) : Val := ⟨k, k + 1, mText (k + 2)⟩
theorem look_three {fr : Fr} {x0 x1 x5 : AV} (h0 : look fr 0 = some x0) (h1 : look fr 1 = some x1) (h5 : look fr 5 = some x5) (t : Nat) : look ((0, x0) :: (1, x1) :: (5, x5) :: fr) t = look fr t := by
  simp only [look]
  split
  · rename_i e; subst e; exact h0.symm
  · split
    · rename_i e; subst e; exact h1.symm
    · split
      · rename_i e; subst e; exact h5.symm
      · rfl
theorem put_off {σ : Store} {S : Nat → Prop} {id : Nat} {x : Nat × List (List Ce)} (hS : S id) (a : Nat) (h : ¬ S a) : (σ.put id x).get a = σ.get a := put_ne (fun e => h (by rw [e]; exact hS))
theorem markInt64S_ok (xs : List Int) (k : Int) (hx : xs.length ≤ 34359738368) (hk0 : 0 ≤ k) (hk : k + cntL (fun _ => 1) xs ≤ 34359738368) : Marks Tryz.prog 32 (.fz (xs.map encI)) (.fz ((markL markI (fun _ => 1) xs k).map encI)) k (k + cntL (fun _ => 1) xs) := by
  refine markS_ok (nt := 19) (q := 18) mixed c_laws_markInt64S_ok (by decide) (by decide) encI markI (fun _ => 1) (fun _ => by decide) xs k hx hk0 hk ?_
  intro n0 rets R K σ τ S x i ni ki ys hi fr hn0 hyl hni hki0 hki1 h0 h1 h5 hmem hh hnext
  have hi' : i < (ys.map encI).length := by simpa using hi
  have hyi : (ys.map encI)[i] = encI ys[i] := by simp
  obtain ⟨id, v, c, es, e, rfl, hg, he, hel, hS, hw⟩ := hh.write (i := i) (j := 0) hi' (by simp [encI])
  have hel1 : e.length = 1 := by rw [hel, hyi]; rfl
  refine .same (look_three h0 h1 h5) ?_
  repeat' first | (apply Go.adm; exact rfl) | apply Go.qs | apply Qg.nil | ((first | apply Go.v2 | apply Go.v1); (first | exact leAdd | assumption); iterate 6 exact rfl) | ((first | apply Go.op | apply Go.sop | apply Qg.op); exact rfl; (first | exact aop_alloc | exact aop_new rfl rfl | exact aop_mksl rfl | exact aop_lenM rfl | exact rfl | exact aL rfl rfl rfl rfl rfl | exact aS rfl rfl rfl rfl rfl rfl rfl | exact aop_iaddrO rfl rfl hni hi' hg he hel1 | exact aop_storeO rfl rfl hg he (by omega))) | ((first | apply Go.no | apply Go.sno | apply Qg.no); exact rfl) | (exfalso; omega) | (((first | apply Go.iQ | apply Go.gQ | apply Go.sQ | apply Qg.gQ); exact rfl; (first | exact .d | exact .e | exact .n | ((fail_if_success exact bqt); (fail_if_success exact bqf); exact .b))) <;> intro _)
  have hw1 : IntKind.i64.wrap (ki + 1) = ki + 1 := wrap64 (by omega) (by omega)
  refine hnext _ _ rfl (congrArg (fun z => some (AV.c (Ce.int .i64 z))) hw1) rfl rfl (fun a ha => put_off hS a ha) ?_
  have := hw (.int .i64 ki) (.int _ _)
  rw [hyi] at this
  rw [List.map_set]
  exact this
end Go.Proofs.YtcfpdongfdhgjaaGreat.Am

/- The laws' marks on values and entries, and whether they are held. -/
set_option linter.unusedVariables false
set_option linter.unusedSimpArgs false
namespace Go.Proofs.YtcfpdongfdhgjaaGreat.Am

theorem sl_inj {id v i n c id' v' i' n' c' : Nat} (h : Ce.sl id v i n c = Ce.sl id' v' i' n' c') : id = id' ∧ v = v' ∧ n = n' := by
  injection h with a b c d
  exact ⟨a, b, d⟩
theorem markValS_ok (xs : List Val) (k : Int) (hx : xs.length ≤ 34359738368) (hk0 : 0 ≤ k) (hk : k + cntL (fun _ => 3) xs ≤ 34359738368) : Marks Tryz.prog 43 (.fz (xs.map encV)) (.fz ((markL markV (fun _ => 3) xs k).map encV)) k (k + cntL (fun _ => 3) xs) := by
  refine markS_ok (nt := 35) (q := 34) mixed c_laws_markValS_ok (by decide) (by decide) encV markV (fun _ => 3) (fun _ => by decide) xs k hx hk0 hk ?_
  intro n0 rets R K σ τ S x i ni ki ys hi fr hn0 hyl hni hki0 hki1 h0 h1 h5 hmem hh hnext
  have hi' : i < (ys.map encV).length := by simpa using hi
  have hyi : (ys.map encV)[i] = encV ys[i] := by simp
  obtain ⟨id, v, c, es, e, rfl, hg, he, hel, hS, hw⟩ := hh.write (i := i) (j := 0) hi' (by simp [encV])
  have hel1 : e.length = 3 := by rw [hel, hyi]; rfl
  have hw1 : IntKind.i64.wrap (ki + 1) = ki + 1 := wrap64 (by omega) (by omega)
  have hw2 : IntKind.i64.wrap (ki + 1 + 1) = ki + 2 := by rw [wrap64 (by omega) (by omega)]; omega
  have hw3 : IntKind.i64.wrap (ki + 2 + 1) = ki + 3 := by rw [wrap64 (by omega) (by omega)]; omega
  refine .same (look_three h0 h1 h5) ?_
  have hh1 := hw (.int .i64 ki) (.int _ _)
  obtain ⟨id1, v1, c1, es1, e1, hx1, hg1, he1, hel1', hS1, hwb⟩ := hh1.write (i := i) (j := 1) (by simpa using hi') (by simp [encV])
  obtain ⟨rfl, rfl, -⟩ := sl_inj hx1
  have hh2 := hwb (.int .i64 (ki + 1)) (.int _ _)
  obtain ⟨id2, v2, c2, es2, e2, hx2, hg2, he2, hel2', hS2, hwc⟩ := hh2.write (i := i) (j := 2) (by simpa using hi') (by simp [encV])
  obtain ⟨rfl, rfl, -⟩ := sl_inj hx2
  have hh3 := hwc (.str (mText (ki + 2))) (.str _)
  have hel2 : e1.length = 3 := by rw [hel1']; simp [encV]
  have hel3 : e2.length = 3 := by rw [hel2']; simp [encV]
  repeat' first | (apply Go.adm; exact rfl) | apply Go.qs | apply Qg.nil | ((first | apply Go.v2 | apply Go.v1); (first | exact leAdd | assumption); iterate 6 exact rfl) | ((first | apply Go.op | apply Go.sop | apply Qg.op); exact rfl; (first | exact aop_alloc | exact aop_new rfl rfl | exact aop_mksl rfl | exact aop_lenM rfl | exact rfl | exact aL rfl rfl rfl rfl rfl | exact aS rfl rfl rfl rfl rfl rfl rfl | exact aop_iaddrO rfl rfl hni hi' hg he hel1 | exact aop_storeO rfl rfl hg he (by omega))) | ((first | apply Go.no | apply Go.sno | apply Qg.no); exact rfl) | (exfalso; omega) | (((first | apply Go.iQ | apply Go.gQ | apply Go.sQ | apply Qg.gQ); exact rfl; (first | exact .d | exact .e | exact .n | ((fail_if_success exact bqt); (fail_if_success exact bqf); exact .b))) <;> intro _)
  rw [hw1]
  repeat' first | (apply Go.adm; exact rfl) | apply Go.qs | apply Qg.nil | ((first | apply Go.v2 | apply Go.v1); (first | exact leAdd | assumption); iterate 6 exact rfl) | ((first | apply Go.op | apply Go.sop | apply Qg.op); exact rfl; (first | exact aop_alloc | exact aop_new rfl rfl | exact aop_mksl rfl | exact aop_lenM rfl | exact rfl | exact aL rfl rfl rfl rfl rfl | exact aS rfl rfl rfl rfl rfl rfl rfl | exact aop_iaddrO rfl rfl hni hi' hg1 he1 hel2 | exact aop_storeO rfl rfl hg1 he1 (by omega))) | ((first | apply Go.no | apply Go.sno | apply Qg.no); exact rfl) | (exfalso; omega) | (((first | apply Go.iQ | apply Go.gQ | apply Go.sQ | apply Qg.gQ); exact rfl; (first | exact .d | exact .e | exact .n | ((fail_if_success exact bqt); (fail_if_success exact bqf); exact .b))) <;> intro _)
  rw [hw2]
  repeat' first | (apply Go.adm; exact rfl) | apply Go.qs | apply Qg.nil | ((first | apply Go.v2 | apply Go.v1); (first | exact leAdd | assumption); iterate 6 exact rfl) | ((first | apply Go.op | apply Go.sop | apply Qg.op); exact rfl; (first | exact aop_alloc | exact aop_new rfl rfl | exact aop_mksl rfl | exact aop_lenM rfl | exact rfl | exact aL rfl rfl rfl rfl rfl | exact aS rfl rfl rfl rfl rfl rfl rfl | exact aop_iaddrO rfl rfl hni hi' hg2 he2 hel3 | exact aop_storeO rfl rfl hg2 he2 (by omega))) | ((first | apply Go.no | apply Go.sno | apply Qg.no); exact rfl) | ((first | apply Go.pcall | apply Go.spcall | apply Qg.pcall); (iterate 3 exact rfl); exact markText_ok _ (by omega)) | (exfalso; omega) | (((first | apply Go.iQ | apply Go.gQ | apply Go.sQ | apply Qg.gQ); exact rfl; (first | exact .d | exact .e | exact .n | ((fail_if_success exact bqt); (fail_if_success exact bqf); exact .b))) <;> intro _)
  refine hnext _ _ rfl (congrArg (fun z => some (AV.c (Ce.int .i64 z))) hw3) rfl rfl (fun a ha => ?_) ?_
  · rw [put_off hS a ha, put_off hS a ha, put_off hS a ha]
  · simp only [List.set_set, List.getElem_set_self, hyi] at hh3
    rw [List.map_set]
    exact hh3
end Go.Proofs.YtcfpdongfdhgjaaGreat.Am

/- The abstract machine, part 28: trees that grow; several results. -/
set_option linter.unusedVariables false
set_option linter.unusedSimpArgs false
namespace Go.Proofs.YtcfpdongfdhgjaaGreat.Am
open Go.RowKit

/-- A store with blocks more, whose cells lead nowhere below. -/
def Gr (σ τ : Store) : Prop := ∃ l, τ = E σ l ∧ TidyL σ.next l
theorem Gr.start (σ : Store) : Gr σ (E σ []) := ⟨[], rfl, fun b hb => by simp at hb⟩
theorem Gr.next {σ τ : Store} (h : Gr σ τ) : σ.next ≤ τ.next := by
  obtain ⟨l, rfl, _⟩ := h
  simp [E_next]
theorem Gr.lt {σ τ : Store} (h : Gr σ τ) {a : Nat} (ha : a < σ.next) : τ.get a = σ.get a := by
  obtain ⟨l, rfl, _⟩ := h
  exact E_lt ha
theorem Gr.trans {σ τ ρ : Store} (h : Gr σ τ) (k : Gr τ ρ) : Gr σ ρ := by
  obtain ⟨l, rfl, h1⟩ := h
  obtain ⟨m, rfl, h2⟩ := k
  refine ⟨l ++ m, E_E, fun b hb e he x hx => ?_⟩
  rcases List.mem_append.1 hb with hb | hb
  · exact h1 b hb e he x hx
  · exact (h2 b hb e he x hx).mono (by simp [E_next])
theorem Gr.new {σ τ : Store} (h : Gr σ τ) {v : Nat} {es : List (List Ce)} (ht : ∀ e ∈ es, ∀ x ∈ e, Tidy σ.next x) : Gr σ (τ.new (v, es)) := by
  obtain ⟨l, rfl, h1⟩ := h
  refine ⟨l ++ [(v, es)], E_new, fun b hb e he x hx => ?_⟩
  rcases List.mem_append.1 hb with hb | hb
  · exact h1 b hb e he x hx
  · simp at hb
    subst hb
    exact ht e he x hx
theorem Gr.put {σ τ : Store} (h : Gr σ τ) {id v : Nat} {es : List (List Ce)} (h0 : σ.next ≤ id) (h1 : id < τ.next) (ht : ∀ e ∈ es, ∀ x ∈ e, Tidy σ.next x) : Gr σ (τ.put id (v, es)) := by
  obtain ⟨l, rfl, h2⟩ := h
  obtain ⟨k, rfl⟩ : ∃ k, id = σ.next + k := ⟨id - σ.next, by omega⟩
  rw [E_next] at h1
  refine ⟨l.set k (v, es), E_put (by omega), fun b hb e he x hx => ?_⟩
  rcases List.mem_or_eq_of_mem_set hb with hb | hb
  · exact h2 b hb e he x hx
  · subst hb
    exact ht e he x hx
theorem Gr.tidy {σ τ : Store} (h : Gr σ τ) {id : Nat} {y : Nat × List (List Ce)} (h0 : σ.next ≤ id) (hg : τ.get id = some y) : ∀ e ∈ y.2, ∀ x ∈ e, Tidy σ.next x := by
  obtain ⟨l, rfl, h2⟩ := h
  rw [E_ge (by omega)] at hg
  exact h2 y (List.mem_of_getElem? hg)
/-- A slice's tree whose block holds elements of size s. -/
structure Row (τ : Store) (S : Nat → Prop) (s : Nat) (ys : List (List Ce)) (x : Ce) : Prop where
  has : Has τ S (.fz ys) x
  sz : ∀ id v i n c w es, x = .sl id v i n c → τ.get id = some (w, es) → ∀ e ∈ es, e.length = s
theorem Row.mono {τ : Store} {S S' : Nat → Prop} {s : Nat} {ys : List (List Ce)} {x : Ce} (h : Row τ S s ys x) (hS : ∀ a, S a → S' a) : Row τ S' s ys x := ⟨h.has.mono hS, h.sz⟩
theorem Row.frame {τ τ' : Store} {S : Nat → Prop} {s : Nat} {ys : List (List Ce)} {x : Ce} (h : Row τ S s ys x) (hf : ∀ a, S a → τ'.get a = τ.get a) : Row τ' S s ys x := by
  refine ⟨h.has.frame hf, fun id v i n c w es hx hg => ?_⟩
  have hS : S id := by
    have := h.has
    subst hx
    cases this with
    | o ys id v s cs junk T hg hS => exact hS
  exact h.sz id v i n c w es hx (by rw [← hf id hS]; exact hg)
theorem Row.nils {τ : Store} {S : Nat → Prop} {s : Nat} : Row τ S s [] .nils := ⟨.nil, fun id v i n c w es hx => by cases hx⟩
theorem Has.one {τ : Store} {id v s : Nat} {S : Nat → Prop} (hg : τ.get id = some (v, [])) (hS : S id) : Has τ S (.fz []) (.sl id v 0 0 0) :=
  .o [] id v s [] [] (fun _ _ _ => False) hg hS rfl (fun i hi => by simp at hi) (fun e he => by simp at he) (fun e he => by simp at he) (fun _ _ _ h => h.elim) (fun _ _ _ _ _ h => h.elim) (fun i j hi => by simp at hi)
theorem Row.empty {τ : Store} {id v s : Nat} {S : Nat → Prop} (hg : τ.get id = some (v, [])) (hS : S id) : Row τ S s [] (.sl id v 0 0 0) :=
  ⟨.one (s := s) hg hS, fun id' v' i n c w es hx h => by cases hx; rw [hg] at h; cases h; intro e he; simp at he⟩

/-- One more element, with what it owns. -/
theorem Row.push {τ : Store} {S : Nat → Prop} {s bytes : Nat} {ys : List (List Ce)} {x : Ce} (h : Row τ S s ys x) (hS : ∀ a, S a → a < τ.next) {T : Nat → Prop} {e ye : List Ce} (he : HasL τ T ye e) (hT : ∀ a, T a → a < τ.next) (hd : ∀ a, S a → ¬ T a)
    (hes : ye.length = s) (hb : (ys.length + 1) * bytes ≤ 140737488355328) :
    ∃ x' τ', appA τ s bytes x [e] = some (x', τ') ∧ τ.next ≤ τ'.next ∧ (∀ a, a < τ.next → ¬ S a → τ'.get a = τ.get a) ∧ Row τ' (fun a => S a ∨ T a ∨ (τ.next ≤ a ∧ a < τ'.next)) s (ys ++ [ye]) x' ∧
      ∀ σ, Gr σ τ → (∀ a, S a → σ.next ≤ a) → (∀ z ∈ e, Tidy σ.next z) → Gr σ τ' := by
  obtain ⟨U, he1, he2, he3, he4⟩ := he
  have hel : e.length = s := by omega
  have hall1 : ∀ q ∈ [e], q.length = s := fun q hq => by simp at hq; subst hq; exact hel
  cases h.has with
  | c h' => cases h'
  | nil =>
    refine ⟨.sl τ.next 0 0 1 1, τ.new (0, [e]), ?_, Nat.le_succ _, fun a ha _ => ?_, ⟨?_, ?_⟩, fun σ hg _ ht => hg.new fun q hq => by simp at hq; subst hq; exact ht⟩
    · unfold appA
      rw [if_pos hall1]
      simp only [List.length_singleton]
      rw [if_pos (by simpa using hb)]
    · show (if a = τ.next then _ else _) = _
      rw [if_neg (by omega)]
    · have hgn : (τ.new (0, [e])).get τ.next = some (0, [e]) := if_pos rfl
      have hfr : ∀ a, T a → (τ.new (0, [e])).get a = τ.get a := fun a ha => if_neg (by have := hT a ha; omega)
      exact Has.o [ye] τ.next 0 s [e] [] (fun i j a => i = 0 ∧ U j a) hgn (.inr (.inr ⟨Nat.le_refl _, Nat.lt_succ_self _⟩)) rfl (fun i hi => by
          have : i = 0 := by simpa using hi
          subst this
          exact he1) (fun q hq => hall1 q (by simpa using hq)) (fun q hq => by simp at hq) (fun i j a ha => ⟨.inr (.inl (he2 j a ha.2)), by have := hT a (he2 j a ha.2); omega⟩) (fun i j i' j' a h1 h2 => ⟨h1.1.trans h2.1.symm, he3 j j' a h1.2 h2.2⟩)
        (fun i j hi hj => by
          have : i = 0 := by simpa using hi
          subst this
          exact ((he4 j hj (by simp at hj ⊢; omega)).frame fun a ha => hfr a (he2 j a ha)).mono fun a ha => ⟨rfl, ha⟩)
    · intro id v i n c w es hx hg
      cases hx
      have : (τ.new (0, [e])).get τ.next = some (0, [e]) := if_pos rfl
      rw [this] at hg
      cases hg
      exact hall1
  | o ys id v s' cs junk T0 hg hSid hl hsz hall hj hT0 hd0 hh =>
    have hall' : ∀ q ∈ cs ++ junk, q.length = s := h.sz _ _ _ _ _ _ _ rfl hg
    have hidl := hS id hSid
    -- the new tree, whatever spare room is left
    have tree : ∀ (v' : Nat) (junk' : List (List Ce)), (∀ q ∈ junk', q ∈ junk) → Row (τ.put id (v', cs ++ [e] ++ junk')) (fun a => S a ∨ T a ∨ (τ.next ≤ a ∧ a < (τ.put id (v', cs ++ [e] ++ junk')).next)) s (ys ++ [ye]) (.sl id v' 0 (ys ++ [ye]).length ((ys ++ [ye]).length + junk'.length)) := by
      intro v' junk' hjj
      have hgn : (τ.put id (v', cs ++ [e] ++ junk')).get id = some (v', cs ++ [e] ++ junk') := if_pos rfl
      have hne : ∀ a, a ≠ id → (τ.put id (v', cs ++ [e] ++ junk')).get a = τ.get a := fun a ha => if_neg ha
      have hall2 : ∀ q ∈ cs ++ [e] ++ junk', q.length = s := by
        intro q hq
        simp only [List.mem_append] at hq
        rcases hq with (hq | hq) | hq
        · exact hall' q (List.mem_append_left _ hq)
        · exact hall1 q hq
        · exact hall' q (List.mem_append_right _ (hjj q hq))
      refine ⟨Has.o (ys ++ [ye]) id v' s (cs ++ [e]) junk' (fun i j a => (i < ys.length ∧ T0 i j a) ∨ (i = ys.length ∧ U j a)) hgn (Or.inl hSid) (by simp [hl]) (fun i hi => ?_) hall2 (fun q hq => hj q (hjj q hq)) (fun i j a ha => ?_) (fun i j i' j' a h1 h2 => ?_) (fun i j hi hjy => ?_), fun id' v2 i n c w es hx hg' => ?_⟩
      · by_cases c : i < ys.length
        · rw [List.getElem_append_left (by omega), List.getElem_append_left c]; exact hsz i c
        · have hi2 : i = ys.length := by simp at hi; omega
          subst hi2
          rw [List.getElem_append_right (by omega), List.getElem_append_right (by omega)]
          simp [hl, he1]
      · rcases ha with ⟨_, ha⟩ | ⟨_, ha⟩
        · exact ⟨.inl (hT0 i j a ha).1, (hT0 i j a ha).2⟩
        · refine ⟨.inr (.inl (he2 j a ha)), fun e' => ?_⟩
          subst e'
          exact hd _ hSid (he2 j _ ha)
      · rcases h1 with ⟨c1, h1⟩ | ⟨c1, h1⟩ <;> rcases h2 with ⟨c2, h2⟩ | ⟨c2, h2⟩
        · exact hd0 _ _ _ _ a h1 h2
        · exact absurd (he2 _ _ h2) (hd a (hT0 _ _ a h1).1)
        · exact absurd (he2 _ _ h1) (hd a (hT0 _ _ a h2).1)
        · exact ⟨by omega, he3 _ _ a h1 h2⟩
      · by_cases c : i < ys.length
        · have e1 : (ys ++ [ye])[i] = ys[i] := List.getElem_append_left c
          have e2 : (cs ++ [e])[i]'(by simp; omega) = cs[i]'(by omega) := List.getElem_append_left (by omega)
          simp only [e1, e2]
          exact ((hh i j c (by rw [← e1]; exact hjy)).frame fun a ha => hne a (hT0 i j a ha).2).mono fun a ha => .inl ⟨c, ha⟩
        · have hi2 : i = ys.length := by simp at hi; omega
          subst hi2
          have e1 : (ys ++ [ye])[ys.length]'hi = ye := by rw [List.getElem_append_right (by omega)]; simp
          have e2 : (cs ++ [e])[ys.length]'(by simp; omega) = e := by rw [List.getElem_append_right (by omega)]; simp [hl]
          simp only [e1, e2]
          have hjy' : j < ye.length := by rw [← e1]; exact hjy
          exact ((he4 j hjy' (by omega)).frame fun a ha => hne a fun e' => by subst e'; exact hd _ hSid (he2 j _ ha)).mono fun a ha => .inr ⟨trivial, ha⟩
      · cases hx
        rw [hgn] at hg'
        cases hg'
        exact hall2
    have hfr : ∀ (v' : Nat) (es' : List (List Ce)) (a : Nat), a < τ.next → ¬ S a → (τ.put id (v', es')).get a = τ.get a := fun v' es' a _ ha => if_neg fun e => ha (by rw [e]; exact hSid)
    have hgr : ∀ (v' : Nat) (junk' : List (List Ce)), (∀ q ∈ junk', q ∈ junk) → ∀ σ, Gr σ τ → (∀ a, S a → σ.next ≤ a) → (∀ z ∈ e, Tidy σ.next z) → Gr σ (τ.put id (v', cs ++ [e] ++ junk')) := by
      intro v' junk' hjj σ hG hlo ht
      refine hG.put (hlo id hSid) hidl fun q hq => ?_
      have hold := hG.tidy (hlo id hSid) hg
      simp only [List.mem_append] at hq
      rcases hq with (hq | hq) | hq
      · exact hold q (List.mem_append_left _ hq)
      · simp at hq; subst hq; exact ht
      · exact hold q (List.mem_append_right _ (hjj q hq))
    by_cases c : 1 ≤ junk.length
    · refine ⟨.sl id v 0 (ys ++ [ye]).length ((ys ++ [ye]).length + (junk.drop 1).length), τ.put id (v, cs ++ [e] ++ junk.drop 1), ?_, Nat.le_refl _, hfr v (cs ++ [e] ++ junk.drop 1), ?_, hgr v (junk.drop 1) fun q hq => List.mem_of_mem_drop hq⟩
      · have e2 : splice (cs ++ junk) (0 + ys.length) [e] = cs ++ [e] ++ junk.drop 1 := by
          simp only [splice, Nat.zero_add, List.length_singleton]
          rw [← hl, List.take_left' rfl, List.drop_append]
          rw [List.drop_eq_nil_of_le (by omega), Nat.add_sub_cancel_left]
          simp
        unfold appA
        rw [if_pos hall1]
        simp only [hg]
        rw [if_pos ⟨trivial, by simp [hl], by omega, hall'⟩, if_pos (by simp; omega), e2]
        simp only [List.length_append, List.length_singleton, List.length_drop]
        rw [show ys.length + 1 + (junk.length - 1) = ys.length + junk.length by omega]
      · exact tree v (junk.drop 1) fun q hq => List.mem_of_mem_drop hq
    · refine ⟨.sl id (v + 1) 0 (ys ++ [ye]).length ((ys ++ [ye]).length + 0), τ.put id (v + 1, cs ++ [e] ++ []), ?_, Nat.le_refl _, hfr (v + 1) (cs ++ [e] ++ []), ?_, hgr (v + 1) [] fun q hq => by simp at hq⟩
      · unfold appA
        rw [if_pos hall1]
        simp only [hg]
        have e3 : (List.drop 0 (cs ++ junk)).take ys.length = cs := by rw [List.drop_zero, ← hl, List.take_left' rfl]
        rw [if_pos ⟨trivial, by simp [hl], by omega, hall'⟩, if_neg (by simp only [List.length_singleton]; omega), if_pos (by simpa using hb), e3]
        simp
      · exact tree (v + 1) [] fun q hq => by simp at hq

/-! ### Values of several cells -/
inductive HasV (τ : Store) : (Nat → Prop) → AV → AV → Prop where
  | c {S : Nat → Prop} {y x : Ce} (h : Has τ S y x) : HasV τ S (.c y) (.c x)
  | agg {S : Nat → Prop} {ys xs : List Ce} (h : HasL τ S ys xs) : HasV τ S (.agg ys) (.agg xs)
  | tup {S : Nat → Prop} {ys xs : List AV} (U : Nat → Nat → Prop) (hl : xs.length = ys.length) (hU : ∀ i a, U i a → S a) (hd : ∀ i i' a, U i a → U i' a → i = i') (h : ∀ i (hy : i < ys.length) (hx : i < xs.length), HasV τ (U i) ys[i] xs[i]) : HasV τ S (.tup ys) (.tup xs)
theorem HasV.frame {τ τ' : Store} {S : Nat → Prop} {y x : AV} (h : HasV τ S y x) : (∀ a, S a → τ'.get a = τ.get a) → HasV τ' S y x := by
  induction h with
  | c h => exact fun hf => .c (h.frame hf)
  | agg h => exact fun hf => .agg (h.frame hf)
  | tup U hl hU hd h ih => exact fun hf => .tup U hl hU hd fun i hy hx => ih i hy hx fun a ha => hf a (hU i a ha)
theorem HasV.mono' {τ : Store} {S S' : Nat → Prop} {y x : AV} (h : HasV τ S y x) (hS : ∀ a, S a → S' a) : HasV τ S' y x := by
  cases h with
  | c h => exact .c (h.mono hS)
  | agg h => exact .agg (h.mono hS)
  | tup U hl hU hd h => exact .tup U hl (fun i a ha => hS a (hU i a ha)) hd h
theorem HasL.frz {τ : Store} {S : Nat → Prop} {ys xs : List Ce} (h : HasL τ S ys xs) {n : Nat} (hn : ∀ a, S a → n ≤ a) : FrzV τ n (.agg xs) (.agg ys) := by
  obtain ⟨U, h1, h2, h3, h4⟩ := h
  exact .agg h1.symm fun i hi => (h4 i (by omega) hi).frz fun a ha => hn a (h2 i a ha)
theorem HasV.frz {τ : Store} {S : Nat → Prop} {y x : AV} (h : HasV τ S y x) : ∀ {n : Nat}, (∀ a, S a → n ≤ a) → FrzV τ n x y := by
  induction h with
  | c h => exact fun hn => .c (h.frz hn)
  | agg h => exact fun hn => h.frz hn
  | tup U hl hU hd h ih => exact fun hn => .tup hl.symm fun i hi => ih i (by omega) hi fun a ha => hn a (hU i a ha)
theorem HasV.tidy {τ : Store} {S : Nat → Prop} {y x : AV} (h : HasV τ S y x) {n : Nat} : (∀ a, S a → n ≤ a) → ∀ z ∈ x.all, Tidy n z := by
  induction h with
  | c h =>
    intro hn z hz
    simp [AV.all] at hz
    subst hz
    exact h.tidy hn
  | agg h =>
    intro hn z hz
    obtain ⟨U, h1, h2, h3, h4⟩ := h
    simp only [AV.all] at hz
    obtain ⟨j, hj, rfl⟩ := List.mem_iff_getElem.1 hz
    exact (h4 j (by omega) hj).tidy fun a ha => hn a (h2 j a ha)
  | tup U hl hU hd h ih =>
    intro hn z hz
    obtain ⟨i, hi, hz⟩ := mem_allL (by simpa only [AV.all] using hz)
    exact ih i (by omega) hi (fun a ha => hn a (hU i a ha)) z hz
theorem HasL.tidy {τ : Store} {S : Nat → Prop} {ys xs : List Ce} (h : HasL τ S ys xs) {n : Nat} (hn : ∀ a, S a → n ≤ a) : ∀ z ∈ xs, Tidy n z :=
  (HasV.agg h).tidy hn
theorem HasL.two {τ : Store} {S S' : Nat → Prop} {y x : Ce} {ys xs : List Ce} (h : Has τ S y x) (k : HasL τ S' ys xs) (hd : ∀ a, S a → ¬ S' a) : HasL τ (fun a => S a ∨ S' a) (y :: ys) (x :: xs) := by
  obtain ⟨U, h1, h2, h3, h4⟩ := k
  refine ⟨fun j a => (j = 0 ∧ S a) ∨ ∃ m, j = m + 1 ∧ U m a, by simp [h1], fun j a ha => ?_, fun j j' a h h' => ?_, fun j hy hx => ?_⟩
  · rcases ha with ⟨_, ha⟩ | ⟨m, _, ha⟩
    · exact .inl ha
    · exact .inr (h2 m a ha)
  · rcases h with ⟨c, h⟩ | ⟨m, c, h⟩ <;> rcases h' with ⟨c', h'⟩ | ⟨m', c', h'⟩
    · omega
    · exact absurd (h2 _ _ h') (hd a h)
    · exact absurd (h2 _ _ h) (hd a h')
    · have := h3 m m' a h h'
      omega
  · cases j with
    | zero => exact h.mono fun a ha => .inl ⟨rfl, ha⟩
    | succ j => exact (h4 j (by simpa using hy) (by simpa using hx)).mono fun a ha => .inr ⟨j, rfl, ha⟩
theorem HasL.nil {τ : Store} {S : Nat → Prop} : HasL τ S [] [] := ⟨fun _ _ => False, rfl, fun _ _ h => h.elim, fun _ _ _ h => h.elim, fun j hy => by simp at hy⟩
theorem HasV.pair {τ : Store} {S S1 S2 : Nat → Prop} {y1 x1 y2 x2 : AV} (h1 : HasV τ S1 y1 x1) (h2 : HasV τ S2 y2 x2) (s1 : ∀ a, S1 a → S a) (s2 : ∀ a, S2 a → S a) (hd : ∀ a, S1 a → ¬ S2 a) : HasV τ S (.tup [y1, y2]) (.tup [x1, x2]) := by
  refine .tup (fun i a => (i = 0 ∧ S1 a) ∨ (i = 1 ∧ S2 a)) rfl (fun i a ha => ?_) (fun i i' a h h' => ?_) (fun i hy hx => ?_)
  · rcases ha with ⟨_, ha⟩ | ⟨_, ha⟩
    · exact s1 a ha
    · exact s2 a ha
  · rcases h with ⟨c, h⟩ | ⟨c, h⟩ <;> rcases h' with ⟨c', h'⟩ | ⟨c', h'⟩
    · omega
    · exact absurd h' (hd a h)
    · exact absurd h (hd a h')
    · omega
  · match i, hy, hx with
    | 0, _, _ => exact h1.mono' fun a ha => .inl ⟨rfl, ha⟩
    | 1, _, _ => exact h2.mono' fun a ha => .inr ⟨rfl, ha⟩
/-- The call makes anew what reads as y. -/
def NewV (σ : Store) (y : AV) (r : AV) (τ : Store) : Prop := Gr σ τ ∧ HasV τ (fun a => σ.next ≤ a ∧ a < τ.next) y r
theorem New.v {σ τ : Store} {y : Ce} {r : AV} (h : New σ y r τ) : NewV σ (.c y) r τ := by
  obtain ⟨x, l, rfl, rfl, ht, hh⟩ := h
  exact ⟨⟨l, rfl, ht⟩, .c hh⟩
theorem NewV.n {σ τ : Store} {y : Ce} {r : AV} (h : NewV σ (.c y) r τ) : New σ y r τ := by
  obtain ⟨⟨l, rfl, ht⟩, hh⟩ := h
  cases hh with
  | c hh => exact ⟨_, l, rfl, rfl, ht, hh⟩
theorem NewL.v {σ τ : Store} {ys : List Ce} {r : AV} (h : NewL σ ys r τ) : NewV σ (.agg ys) r τ := by
  obtain ⟨x, l, rfl, rfl, ht, hh⟩ := h
  exact ⟨⟨l, rfl, ht⟩, .agg hh⟩
theorem NewV.l {σ τ : Store} {ys : List Ce} {r : AV} (h : NewV σ (.agg ys) r τ) : NewL σ ys r τ := by
  obtain ⟨⟨l, rfl, ht⟩, hh⟩ := h
  cases hh with
  | agg hh => exact ⟨_, l, rfl, rfl, ht, hh⟩
theorem NewV.pure {P : Program} {f : Nat} {args : List AV} {y : AV} (h : ∀ σ, Ok P f args σ (NewV σ y)) : Pure P f args y := by
  constructor
  intro σ
  refine .old' (h σ) fun hS ha => Ok.pure (h σ) y (fun id y hy => (hS id y hy).1) ?_
  rintro r σ1 ⟨hg, hh⟩
  exact ⟨fun id y hy => by rw [hg.lt (hS id y hy).1]; exact hy, hh.frz fun a ha => ha.1⟩
theorem E_inj {σ : Store} {l m : List (Nat × List (List Ce))} (h : E σ l = E σ m) : l = m := by
  refine List.ext_getElem? fun k => ?_
  have := congrArg (fun s => s.get (σ.next + k)) h
  simpa only [E_at] using this
theorem Ok.lentV {P : Program} {f : Nat} {args args' : List AV} {σ : Store} {y : AV} (h : ∀ σ, Ok P f args' σ (NewV σ y)) (hl : args'.length = args.length)
    (hf : ∀ i (hi : i < args.length), FrzV σ 0 args[i] (args'[i]'(by omega)) ∨ args[i] = args'[i]'(by omega)) : Ok P f args σ (NewV σ y) := by
  refine (Ok.lent (h (Store.none σ.next)) hl hf ?_).mono ?_
  · rintro r τ ⟨⟨l, rfl, ht⟩, hh⟩
    exact ⟨l, rfl, ht, hh.tidy fun a ha => ha.1⟩
  · rintro r σ' ⟨l, rfl, ⟨l', e, ht⟩, hh⟩
    obtain rfl := E_inj e
    refine ⟨⟨l, rfl, ht⟩, hh.frame fun a ha => ?_⟩
    have h1 : ¬ a < σ.next := by have := ha.1; exact Nat.not_lt.2 this
    rw [E_ge h1, E_ge (by exact h1)]
    rfl
/-- Arguments, some of them lent. -/
inductive Lend (σ : Store) : List AV → List AV → Prop where
  | nil : Lend σ [] []
  | own {x y : AV} {us bs : List AV} (h : FrzV σ 0 x y) (r : Lend σ us bs) : Lend σ (x :: us) (y :: bs)
  | same {a : AV} {us bs : List AV} (r : Lend σ us bs) : Lend σ (a :: us) (a :: bs)
theorem Lend.spec {σ : Store} {us bs : List AV} (h : Lend σ us bs) : ∃ hl : bs.length = us.length, ∀ i (hi : i < us.length), FrzV σ 0 us[i] (bs[i]'(by omega)) ∨ us[i] = bs[i]'(by omega) := by
  induction h with
  | nil => exact ⟨rfl, fun i hi => by simp at hi⟩
  | own h r ih =>
    obtain ⟨hl, hz⟩ := ih
    refine ⟨by simp [hl], fun i hi => ?_⟩
    cases i with
    | zero => exact .inl h
    | succ i => exact hz i (by simpa using hi)
  | same r ih =>
    obtain ⟨hl, hz⟩ := ih
    refine ⟨by simp [hl], fun i hi => ?_⟩
    cases i with
    | zero => exact .inr rfl
    | succ i => exact hz i (by simpa using hi)
theorem Lend.pure {P : Program} {σ : Store} {n : Nat} {args args' : List AV} {r : AV} (h : Lend σ args args') (hp : Pure P n args' r) (hs : Solid r) : Ok P n args σ (fun r' σ' => r' = r ∧ σ' = σ) :=
  let ⟨hl, hz⟩ := h.spec
  Ok.lend (hp.at_ _) hs hl hz
theorem Lend.new {P : Program} {σ : Store} {n : Nat} {args args' : List AV} {y : AV} (h : Lend σ args args') (hp : ∀ σ, Ok P n args' σ (NewV σ y)) : Ok P n args σ (NewV σ y) :=
  let ⟨hl, hz⟩ := h.spec
  Ok.lentV hp hl hz
theorem HasV.lend {τ : Store} {S : Nat → Prop} {y x : AV} (h : HasV τ S y x) : FrzV τ 0 x y := h.frz fun _ _ => Nat.zero_le _
section
variable {P : Program} {n0 nt : Nat} {rets : List RV} {R : AV → Store → Prop} {K : List AK} {fr : Fr} {σ : Store}
theorem Go.lcall {d : Option Nat} {f : Opd} {args : List Opd} {g : Option (Nat × Bool)} {rest : List AOper} {n : Nat} {pre cap : List Ce} {vs args' : List AV} {r : AV} (hw : wants fr g = some true) (hf : f.ev fr = some (.c (.fn n pre cap))) (ha : evs fr args = some vs)
    (hp : Pure P n args' r) (hs : Solid r) (hz : Lend σ (pre.map AV.c ++ vs ++ cap.map AV.c) args') (h : Go P n0 nt rets R (.ops rest :: K) (putA fr d r) σ) : Go P n0 nt rets R (.ops (⟨d, .call f args, g⟩ :: rest) :: K) fr σ :=
  .call _ hw hf ha (hz.pure hp hs) (by rintro r' σ' ⟨rfl, rfl⟩; exact h)
/-- A lent call in a part by itself. -/
theorem Go.slcall {d : Option Nat} {f : Opd} {args : List Opd} {g : Option (Nat × Bool)} {rest : List (List AOper)} {n : Nat} {pre cap : List Ce} {vs args' : List AV} {r : AV} (hw : wants fr g = some true) (hf : f.ev fr = some (.c (.fn n pre cap))) (ha : evs fr args = some vs)
    (hp : Pure P n args' r) (hs : Solid r) (hz : Lend σ (pre.map AV.c ++ vs ++ cap.map AV.c) args') (h : Go P n0 nt rets R (.segs rest :: K) (putA fr d r) σ) : Go P n0 nt rets R (.segs ([⟨d, .call f args, g⟩] :: rest) :: K) fr σ :=
  .scall _ hw hf ha (hz.pure hp hs) (by rintro r' σ' ⟨rfl, rfl⟩; exact h)
end
/-- The end, in words of the caller's store alone. -/
def Ends (σ : Store) (r2 : AV) (r : AV) (σ' : Store) : Prop := (∀ id, id < σ.next → σ'.get id = σ.get id) ∧ FrzV σ' σ.next r r2
theorem Pure.run2 {P : Program} (hm : P.follows .mixedOrders = true) {fz : List Nat} {f : Nat} {af : AFn} (h : compFn P fz f = some af) {args : List AV} {r2 : AV} (hn : args.length ≤ af.nt)
    (hg : ∀ σ, OldS σ → Go P σ.next af.nt af.rets (Ends σ r2) [.code af.body] (frOf 0 args) (E σ [])) : Pure P f args r2 := by
  constructor
  intro σ
  refine .old h fun hS ha => ?_
  refine Ok.pure (Ok.run hm h hn (fun hS _ => hg σ hS)) r2 (fun id y hy => (hS id y hy).1) ?_
  rintro r σ1 ⟨h1, h2⟩
  exact ⟨fun id y hy => by rw [h1 id (hS id y hy).1]; exact hy, h2⟩

/-! ### A slice that grows by elements that own something -/
structure Grow (σ τ : Store) (s : Nat) (ys : List (List Ce)) (x : Ce) : Prop where
  gr : Gr σ τ
  row : Row τ (fun a => σ.next ≤ a ∧ a < τ.next) s ys x
theorem Grow.nils {σ τ : Store} {s : Nat} (h : Gr σ τ) : Grow σ τ s [] .nils := ⟨h, .nils⟩
theorem Grow.empty {σ : Store} {s : Nat} : Grow σ (E σ [(0, [])]) s [] (.sl (σ.next + 0) 0 0 0 0) :=
  ⟨⟨[(0, [])], rfl, fun b hb e he => by simp at hb; subst hb; simp at he⟩, .empty (v := 0) (by rw [E_at]; rfl) ⟨Nat.le_add_right _ _, by simp [E_next]⟩⟩
theorem Grow.v {σ τ : Store} {s : Nat} {ys : List (List Ce)} {x : Ce} (h : Grow σ τ s ys x) : NewV σ (.c (.fz ys)) (.c x) τ := ⟨h.gr, .c h.row.has⟩
/-- .. while something else is made. -/
theorem Grow.later {σ τ ρ : Store} {s : Nat} {ys : List (List Ce)} {x : Ce} (h : Grow σ τ s ys x) (g : Gr τ ρ) : Gr σ ρ ∧ Row ρ (fun a => σ.next ≤ a ∧ a < τ.next) s ys x :=
  ⟨h.gr.trans g, h.row.frame fun a ha => g.lt ha.2⟩
section
variable {P : Program} {n0 nt : Nat} {rets : List RV} {R : AV → Store → Prop} {K : List AK} {fr : Fr} {σ : Store}
theorem Go.qd {s1 s2 : AOper} {seg : List AOper} {rest : List (List AOper)} (h : Qc P (fun F τ => Go P n0 nt rets R (.segs rest :: K) F τ) (s1 :: s2 :: seg) fr σ) : Go P n0 nt rets R (.segs ((s1 :: s2 :: seg) :: rest) :: K) fr σ := .qc _ h fun _ _ h => h
theorem Qc.pcall {Z : Fr → Store → Prop} {d : Option Nat} {f : Opd} {args : List Opd} {g : Option (Nat × Bool)} {rest : List AOper} {n : Nat} {pre cap : List Ce} {vs : List AV} {r : AV} (hw : wants fr g = some true) (hf : f.ev fr = some (.c (.fn n pre cap))) (ha : evs fr args = some vs)
    (hp : Pure P n (pre.map .c ++ vs ++ cap.map .c) r) (h : Qc P Z rest (putA fr d r) σ) : Qc P Z (⟨d, .call f args, g⟩ :: rest) fr σ :=
  .call _ hw hf ha (hp.at_ σ) (by rintro r' σ' ⟨rfl, rfl⟩; exact h)
theorem aop_grow {σ0 : Store} {n s bytes : Nat} {ys : List (List Ce)} {ye e : List Ce} {xc : Ce} {x y : Opd} (hx : x.ev fr = some (.c xc)) (hy : y.ev fr = some (.c (.fz [e]))) (hg : Gr σ0 σ) (hr : Row σ (fun a => σ0.next ≤ a ∧ a < n) s ys xc) (h0 : σ0.next ≤ n) (hn : n ≤ σ.next) (hch : HasL σ (fun a => n ≤ a ∧ a < σ.next) ye e)
    (hes : ye.length = s) (hb : (ys.length + 1) * bytes ≤ 140737488355328) : ∃ x' τ', aop (.app s bytes x y) fr σ = some (.c x', τ') ∧ Grow σ0 τ' s (ys ++ [ye]) x' := by
  obtain ⟨x', τ', h1, h2, h3, h4, h5⟩ := hr.push (fun a ha => by have := ha.2; omega) hch (fun a ha => ha.2) (fun a ha ha' => by have := ha.2; have := ha'.1; omega) hes hb
  refine ⟨x', τ', ?_, h5 σ0 hg (fun a ha => ha.1) (hch.tidy fun a ha => by have := ha.1; omega), h4.mono fun a ha => ?_⟩
  · simp only [aop, hx, hy, Store.els, Option.bind_some, h1, Option.map_some]
  · rcases ha with ha | ha | ha <;> have := ha.1 <;> have := ha.2 <;> constructor <;> omega
theorem Go.grow {σ0 : Store} {d : Option Nat} {g : Option (Nat × Bool)} {rest : List AOper} {n s bytes : Nat} {ys : List (List Ce)} {ye e : List Ce} {xc : Ce} {x y : Opd} (hw : wants fr g = some true) (hx : x.ev fr = some (.c xc)) (hy : y.ev fr = some (.c (.fz [e]))) (hg : Gr σ0 σ ∧ Row σ (fun a => σ0.next ≤ a ∧ a < n) s ys xc) (h0 : σ0.next ≤ n) (hn : n ≤ σ.next) (hch : HasL σ (fun a => n ≤ a ∧ a < σ.next) ye e)
    (hes : ye.length = s) (hb : (ys.length + 1) * bytes ≤ 140737488355328) (h : ∀ x' τ', Grow σ0 τ' s (ys ++ [ye]) x' → Go P n0 nt rets R (.ops rest :: K) (putA fr d (.c x')) τ') : Go P n0 nt rets R (.ops (⟨d, .op (.app s bytes x y), g⟩ :: rest) :: K) fr σ :=
  let ⟨_, _, h1, h2⟩ := aop_grow (bytes := bytes) hx hy hg.1 hg.2 h0 hn hch hes hb
  .op hw h1 (h _ _ h2)
end
end Go.Proofs.YtcfpdongfdhgjaaGreat.Am

/- The law FnExactRange: its function returns true. -/
set_option linter.unusedVariables false
set_option linter.unusedSimpArgs false
namespace Go.Proofs.YtcfpdongfdhgjaaGreat.Am

theorem flatI (xs : List Int) : ∀ e ∈ xs.map encI, e.length = 1 ∧ ∀ x ∈ e, Flat x := by
  intro e he
  obtain ⟨a, _, rfl⟩ := List.mem_map.1 he
  refine ⟨rfl, fun x hx => ?_⟩
  simp only [encI, List.mem_cons, List.not_mem_nil, or_false] at hx
  subst hx
  exact .int _ _
theorem eqInt64S_ok (xs ys : List Int) (hx : xs.length ≤ 34359738368) : Pure Tryz.prog 27 [.c (.fz (xs.map encI)), .c (.fz (ys.map encI))] (.c (.bool (xs == ys))) := by
  refine Pure.run mixed c_laws_eqInt64S_ok (Nat.le_of_ble_eq_true rfl) fun σ hS hA => ?_
  clear hS hA
  repeat' first | (apply Go.adm; exact rfl) | apply Go.qs | apply Qg.nil | ((first | apply Go.v2 | apply Go.v1); (first | exact leAdd | assumption); iterate 6 exact rfl) | ((first | apply Go.op | apply Go.sop | apply Qg.op); exact rfl; (first | exact aop_alloc | exact aop_new rfl rfl | exact aop_mksl rfl | exact aop_lenM rfl | exact rfl | exact aL rfl rfl rfl rfl rfl | exact aS rfl rfl rfl rfl rfl rfl rfl)) | ((first | apply Go.no | apply Go.sno | apply Qg.no); exact rfl) | (exfalso; omega) | (((first | apply Go.iQ | apply Go.gQ | apply Go.sQ | apply Qg.gQ); exact rfl; (first | exact .d | exact .e | exact .n | ((fail_if_success exact bqt); (fail_if_success exact bqf); exact .b))) <;> intro _)
  · refine .ret rfl (.bool ?_)
    rw [eq_comm, beq_eq_false_iff_ne]
    rintro rfl
    simp at *
  refine Go.keep [0, 1, 5] (Go.loops (I := fun m fr τ => ∃ i : Nat, ∃ n : Int, m = xs.length - i ∧ i ≤ xs.length ∧ n = i ∧ (xs.length = ys.length ∧ (xs == ys) = (xs.drop i == ys.drop i)) ∧
    fr = [(0, .c (.fz (xs.map encI))), (1, .c (.fz (ys.map encI))), (5, .c (.int .i64 n))] ∧ τ = E σ []) ?_ _ _ _ ⟨0, _, rfl, Nat.zero_le _, rfl, ⟨by omega, rfl⟩, rfl, rfl⟩)
  rintro m fr τ ⟨i, n, rfl, hi, hn, ⟨hl, hsl⟩, rfl, rfl⟩ hrec
  by_cases hlt : i < xs.length
  · have hlt2 : i < ys.length := by omega
    repeat' first | (apply Go.adm; exact rfl) | apply Go.qs | apply Qg.nil | ((first | apply Go.v2 | apply Go.v1); (first | exact leAdd | assumption); iterate 6 exact rfl) | ((first | apply Go.op | apply Go.sop | apply Qg.op); exact rfl; (first | exact aop_alloc | exact aop_new rfl rfl | exact aop_mksl rfl | exact aop_lenM rfl | exact rfl | exact aL rfl rfl rfl rfl rfl | exact aS rfl rfl rfl rfl rfl rfl rfl | exact aop_iaddrM (enc := encI) rfl rfl hn hlt rfl | exact aop_iaddrM (enc := encI) rfl rfl hn hlt2 rfl)) | ((first | apply Go.no | apply Go.sno | apply Qg.no); exact rfl) | (exfalso; omega) | (((first | apply Go.iQ | apply Go.gQ | apply Go.sQ | apply Qg.gQ); exact rfl; (first | exact .d | exact .e | exact .n | ((fail_if_success exact bqt); (fail_if_success exact bqf); exact .b))) <;> intro _)
    · refine .ret rfl (.bool ?_)
      rw [hsl, List.drop_eq_getElem_cons hlt, List.drop_eq_getElem_cons hlt2, List.cons_beq_cons]
      clear hrec
      simp_all
    · refine Go.keep [0, 1, 5] (hrec _ _ _ (by omega) ⟨i + 1, _, rfl, hlt, wrap_succ hn (by omega), ⟨hl, ?_⟩, rfl, rfl⟩)
      rw [hsl, List.drop_eq_getElem_cons hlt, List.drop_eq_getElem_cons hlt2, List.cons_beq_cons]
      clear hrec
      simp_all
  · repeat' first | (apply Go.adm; exact rfl) | apply Go.qs | apply Qg.nil | ((first | apply Go.v2 | apply Go.v1); (first | exact leAdd | assumption); iterate 6 exact rfl) | ((first | apply Go.op | apply Go.sop | apply Qg.op); exact rfl; (first | exact aop_alloc | exact aop_new rfl rfl | exact aop_mksl rfl | exact aop_lenM rfl | exact rfl | exact aL rfl rfl rfl rfl rfl | exact aS rfl rfl rfl rfl rfl rfl rfl)) | ((first | apply Go.no | apply Go.sno | apply Qg.no); exact rfl) | (exfalso; omega) | (((first | apply Go.iQ | apply Go.gQ | apply Go.sQ | apply Qg.gQ); exact rfl; (first | exact .d | exact .e | exact .n | ((fail_if_success exact bqt); (fail_if_success exact bqf); exact .b))) <;> intro _)
    refine .ret rfl (.bool ?_)
    rw [hsl, List.drop_eq_nil_of_le (by omega), List.drop_eq_nil_of_le (by omega)]
    rfl
theorem cnt3 (xs : List Val) : cntL (fun _ => 3) xs = 3 * xs.length := by
  induction xs with
  | nil => rfl
  | cons a r ih => simp only [cntL, ih, List.length_cons]; omega
theorem cnt1 (xs : List Int) : cntL (fun _ => 1) xs = xs.length := by
  induction xs with
  | nil => rfl
  | cons a r ih => simp only [cntL, ih, List.length_cons]; omega
end Go.Proofs.YtcfpdongfdhgjaaGreat.Am

/- The abstract machine, part 29: slices.Clone, once for all types. -/
set_option linter.unusedVariables false
set_option linter.unusedSimpArgs false
namespace Go.Proofs.YtcfpdongfdhgjaaGreat.Am

/-- What a clone is. -/
def Cloned (σ : Store) (s : Nat) (ys : List (List Ce)) (r : AV) (τ : Store) : Prop := (ys = [] ∧ r = .c .nils ∧ τ = E σ []) ∨ Made σ s ys r τ
theorem Cloned.new {σ τ : Store} {s : Nat} {ys : List (List Ce)} {r : AV} (h : Cloned σ s ys r τ) (hy : ∀ e ∈ ys, e.length = s ∧ ∀ x ∈ e, Flat x) : NewV σ (.c (.fz ys)) r τ := by
  rcases h with ⟨rfl, rfl, rfl⟩ | h
  · exact ⟨.start σ, .c .nil⟩
  · exact (Made.new hy h).v

/-! ### Freezing in the middle -/
/-- A frame some of whose values are known as frozen ones. -/
inductive FrzFr (τ : Store) (n : Nat) (fr : Fr) : Fr → Prop where
  | nil : FrzFr τ n fr []
  | frz {t : Nat} {y x : AV} {r : Fr} (hl : look fr t = some y) (h : FrzV τ n y x) (k : FrzFr τ n fr r) : FrzFr τ n fr ((t, x) :: r)
theorem FrzFr.at_ {τ : Store} {n : Nat} {fr fr' : Fr} (h : FrzFr τ n fr fr') : ∀ t x, look fr' t = some x → ∃ y, look fr t = some y ∧ FrzV τ n y x := by
  induction h with
  | nil => intro t x hx; simp [look] at hx
  | @frz t0 y x0 r hl hz k ih =>
    intro t x hx
    simp only [look] at hx
    split at hx
    · rename_i e
      subst e
      injection hx with hx
      subst hx
      exact ⟨y, hl, hz⟩
    · exact ih t x hx
/-! ### Slices of an owned slice -/
section
variable {fr : Fr} {σ : Store}
theorem aop_slice {s id v b n c : Nat} {x : Opd} {lo hi mx : Option Opd} {lo' hi' mx' : Option AV} {l h m : Nat} {es : List (List Ce)} (hx : x.ev fr = some (.c (.sl id v b n c))) (h1 : evo fr lo = some lo') (h2 : evo fr hi = some hi') (h3 : evo fr mx = some mx') (hl : bound 0 lo' = some l) (hh : bound n hi' = some h) (hm : bound c mx' = some m)
    (hg : σ.get id = some (v, es)) (hs : ∀ e ∈ es, e.length = s) (hlh : l ≤ h) (hhm : h ≤ m) (hmc : m ≤ c) : aop (.slice s x lo hi mx) fr σ = some (.c (.sl id v (b + l) (h - l) (m - l)), σ) := by
  have : sliceA σ s (.sl id v b n c) lo' hi' mx' = some (.sl id v (b + l) (h - l) (m - l)) := by
    simp only [sliceA, hl, hh, hm, hg]
    exact if_pos ⟨trivial, hs, hlh, hhm, hmc⟩
  simp only [aop, hx, h1, h2, h3, this, Option.map_some]
end

/-! ### slices.Delete, once for all types -/
end Go.Proofs.YtcfpdongfdhgjaaGreat.Am

/- The abstract machine, part 30: slices.IndexFunc, ContainsFunc, Index, Contains, once for all types. -/
set_option linter.unusedVariables false
set_option linter.unusedSimpArgs false
namespace Go.Proofs.YtcfpdongfdhgjaaGreat.Am

def indexFuncCode (g : Bool) (s : Nat) : AFn := ⟨19, [.t 4], (.seq (.region [⟨some 4, .op (.mv (.k (.int .i64 0))), none⟩]) (.seq (.seq (.region [⟨some 6, .op (.mv (.t 0)), none⟩, ⟨some 7, .op (.len false (.t 6)), none⟩, ⟨some 8, .op (.mv (.k (.int .i64 0))), none⟩]) (.block 0 (.loop (.seq (.region [⟨some 9, .op (.bin .lss (.t 8) (.t 7)), none⟩]) (.seq (.cond (.t 9) .skip (.exit 0)) (.seq (.block 1 (.seq (.region [⟨some 10, .op (.mv (.t 8)), none⟩, ⟨some 5, .op (.mv (.t 10)), none⟩]) (.seq (.region [⟨some 11, .op (.mv (.t 1)), none⟩, ⟨some 12, .op (.mv (.t 0)), none⟩, ⟨some 13, .op (.mv (.t 5)), none⟩, ⟨some 14, .op (.iaddr s (.t 12) (.t 13)), none⟩, ⟨some 15, .op (.load g s (.t 14)), none⟩, ⟨some 16, .call (.t 11) [(.t 15)], none⟩]) (.cond (.t 16) (.seq (.region [⟨some 17, .op (.mv (.t 5)), none⟩, ⟨some 4, .op (.mv (.t 17)), none⟩]) .ret) .skip)))) (.region [⟨some 18, .op (.bin .add (.t 8) (.k (.int .i64 1))), none⟩, ⟨some 8, .op (.mv (.t 18)), none⟩]))))))) (.seq (.region [⟨some 4, .op (.mv (.k (.int .i64 (-1)))), none⟩]) .ret)))⟩
def idxA {α : Type} (p : α → Bool) : List α → Int → Int
  | [], _ => -1
  | a :: r, i => if p a then i else idxA p r (i + 1)
theorem idxA_any {α : Type} {p : α → Bool} : ∀ {l : List α} {i : Int}, 0 ≤ i → (l.any p = true ↔ 0 ≤ idxA p l i)
  | [], i, h => by simp [idxA]
  | a :: r, i, h => by
    have := idxA_any (p := p) (l := r) (i := i + 1) (by omega)
    simp only [List.any_cons, idxA]
    cases p a
    · simp only [Bool.false_or, Bool.false_eq_true, if_false]; exact this
    · simp [h]
theorem aop_loadG {fr : Fr} {σ : Store} {g : Bool} {s : Nat} {a : Opd} {cs : List Ce} {v : AV} (ha : a.ev fr = some (.c (.fp cs))) (h : takeA g s cs = some v) : aop (.load g s a) fr σ = some (v, σ) := by
  simp [aop, ha, Store.at_, h]
theorem indexFuncA_ok {P : Program} (hm : P.follows .mixedOrders = true) {fz : List Nat} {n s : Nat} {g : Bool} (hc : compFn P fz n = some (indexFuncCode g s)) {α : Type} (enc : α → List Ce) (arg : α → AV) (hs : ∀ a, (enc a).length = s) (harg : ∀ a, takeA g s (enc a) = some (arg a)) (l : List α) (p : α → Bool) (f : Nat) (pre cap : List Ce) (hx : l.length ≤ 34359738368)
    (hp : ∀ i (hi : i < l.length), (∀ j (hj : j < i), p (l[j]'(by omega)) = false) → Pure P f (pre.map .c ++ [arg l[i]] ++ cap.map .c) (.c (.bool (p l[i])))) : Pure P n [.c (.fz (l.map enc)), .c (.fn f pre cap)] (.c (.int .i64 (idxA p l 0))) := by
  refine Pure.run hm hc (Nat.le_of_ble_eq_true rfl) fun σ hS hA => ?_
  clear hS hA
  repeat' first | (apply Go.adm; exact rfl) | apply Go.qs | apply Qg.nil | ((first | apply Go.v2 | apply Go.v1); (first | exact leAdd | assumption); iterate 6 exact rfl) | ((first | apply Go.op | apply Go.sop | apply Qg.op); exact rfl; (first | exact aop_alloc | exact aop_new rfl rfl | exact aop_mksl rfl | exact aop_lenM rfl | exact rfl | exact aL rfl rfl rfl rfl rfl | exact aS rfl rfl rfl rfl rfl rfl rfl)) | ((first | apply Go.no | apply Go.sno | apply Qg.no); exact rfl) | (exfalso; omega) | (((first | apply Go.iQ | apply Go.gQ | apply Go.sQ | apply Qg.gQ); exact rfl; (first | exact .d | exact .e | exact .n | ((fail_if_success exact bqt); (fail_if_success exact bqf); exact .b))) <;> intro _)
  refine Go.keep [0, 1, 7, 8] (Go.loops (I := fun m fr τ => ∃ i : Nat, ∃ k : Int, m = l.length - i ∧ i ≤ l.length ∧ k = i ∧ (idxA p l 0 = idxA p (l.drop i) k ∧ ∀ j (hj : j < i) (hl : j < l.length), p l[j] = false) ∧
    fr = [(0, .c (.fz (l.map enc))), (1, .c (.fn f pre cap)), (7, .c (.int .i64 (l.length : Int))), (8, .c (.int .i64 k))] ∧ τ = E σ []) ?_ _ _ _ ⟨0, _, rfl, Nat.zero_le _, rfl, ⟨rfl, fun j hj => by omega⟩, rfl, rfl⟩)
  rintro m fr τ ⟨i, k, rfl, hi, hn, ⟨hsl, hno⟩, rfl, rfl⟩ hrec
  by_cases hlt : i < l.length
  · repeat' first | (apply Go.adm; exact rfl) | apply Go.qs | apply Qg.nil | ((first | apply Go.v2 | apply Go.v1); (first | exact leAdd | assumption); iterate 6 exact rfl) | ((first | apply Go.op | apply Go.sop | apply Qg.op); exact rfl; (first | exact aop_alloc | exact aop_new rfl rfl | exact aop_mksl rfl | exact aop_lenM rfl | exact rfl | exact aL rfl rfl rfl rfl rfl | exact aS rfl rfl rfl rfl rfl rfl rfl | exact aop_iaddrM (enc := enc) rfl rfl hn hlt (hs _) | exact aop_loadG rfl (harg l[i]))) | ((first | apply Go.no | apply Go.sno | apply Qg.no); exact rfl) | ((first | apply Go.pcallB | apply Go.spcallB | apply Qg.pcallB); (iterate 3 exact rfl); exact hp i hlt (fun j hj => hno j hj (by omega)); intro _ _) | (exfalso; omega) | (((first | apply Go.iQ | apply Go.gQ | apply Go.sQ | apply Qg.gQ); exact rfl; (first | exact .d | exact .e | exact .n | ((fail_if_success exact bqt); (fail_if_success exact bqf); exact .b))) <;> intro _)
    · refine .ret rfl (.int ?_)
      rw [hsl, List.drop_eq_getElem_cons hlt, idxA, if_pos (by simp_all)]
    · rename_i b hb h
      refine Go.keep [0, 1, 7, 8] (hrec _ _ _ (by omega) ⟨i + 1, _, rfl, hlt, wrap_succ hn (by omega), ⟨?_, fun j hj hl => ?_⟩, rfl, rfl⟩)
      · rw [hsl, List.drop_eq_getElem_cons hlt, idxA, if_neg (by rw [hb, h]; simp), wrap64 (by omega) (by omega)]
      · by_cases e : j = i
        · subst e; rw [hb, h]
        · exact hno j (by omega) hl
  · repeat' first | (apply Go.adm; exact rfl) | apply Go.qs | apply Qg.nil | ((first | apply Go.v2 | apply Go.v1); (first | exact leAdd | assumption); iterate 6 exact rfl) | ((first | apply Go.op | apply Go.sop | apply Qg.op); exact rfl; (first | exact aop_alloc | exact aop_new rfl rfl | exact aop_mksl rfl | exact aop_lenM rfl | exact rfl | exact aL rfl rfl rfl rfl rfl | exact aS rfl rfl rfl rfl rfl rfl rfl)) | ((first | apply Go.no | apply Go.sno | apply Qg.no); exact rfl) | (exfalso; omega) | (((first | apply Go.iQ | apply Go.gQ | apply Go.sQ | apply Qg.gQ); exact rfl; (first | exact .d | exact .e | exact .n | ((fail_if_success exact bqt); (fail_if_success exact bqf); exact .b))) <;> intro _)
    refine .ret rfl (.int ?_)
    rw [hsl, List.drop_eq_nil_of_le (by omega)]
    rfl
def containsFuncCode (f : Nat) : AFn := ⟨9, [.t 4], (.seq (.region [⟨some 4, .op (.mv (.k (.bool false))), none⟩]) (.seq (.region [⟨some 5, .op (.mv (.t 0)), none⟩, ⟨some 6, .op (.mv (.t 1)), none⟩, ⟨some 7, .call (.f f) [(.t 5), (.t 6)], none⟩, ⟨some 8, .op (.bin .geq (.t 7) (.k (.int .i64 0))), none⟩, ⟨some 4, .op (.mv (.t 8)), none⟩]) .ret))⟩
theorem any_idx {α : Type} {p : α → Bool} {l : List α} : decide (0 ≤ idxA p l 0) = l.any p := by
  have := idxA_any (p := p) (l := l) (i := 0) (by omega)
  cases h : l.any p
  · rw [decide_eq_false_iff_not, ← this, h]; simp
  · rw [decide_eq_true_iff, ← this, h]
theorem containsFuncA_ok {P : Program} (hm : P.follows .mixedOrders = true) {fz fz' : List Nat} {n n' s : Nat} {g : Bool} (hc : compFn P fz n = some (containsFuncCode n')) (hc' : compFn P fz' n' = some (indexFuncCode g s)) {α : Type} (enc : α → List Ce) (arg : α → AV) (hs : ∀ a, (enc a).length = s) (harg : ∀ a, takeA g s (enc a) = some (arg a)) (l : List α) (p : α → Bool) (f : Nat) (pre cap : List Ce) (hx : l.length ≤ 34359738368)
    (hp : ∀ i (hi : i < l.length), (∀ j (hj : j < i), p (l[j]'(by omega)) = false) → Pure P f (pre.map .c ++ [arg l[i]] ++ cap.map .c) (.c (.bool (p l[i])))) : Pure P n [.c (.fz (l.map enc)), .c (.fn f pre cap)] (.c (.bool (l.any p))) := by
  refine Pure.run hm hc (Nat.le_of_ble_eq_true rfl) fun σ hS hA => ?_
  clear hS hA
  repeat' first | (apply Go.adm; exact rfl) | apply Go.qs | apply Qg.nil | ((first | apply Go.v2 | apply Go.v1); (first | exact leAdd | assumption); iterate 6 exact rfl) | ((first | apply Go.op | apply Go.sop | apply Qg.op); exact rfl; (first | exact aop_alloc | exact aop_new rfl rfl | exact aop_mksl rfl | exact aop_lenM rfl | exact rfl | exact aL rfl rfl rfl rfl rfl | exact aS rfl rfl rfl rfl rfl rfl rfl)) | ((first | apply Go.no | apply Go.sno | apply Qg.no); exact rfl) | ((first | apply Go.pcall | apply Go.spcall | apply Qg.pcall); (iterate 3 exact rfl); exact indexFuncA_ok hm hc' enc arg hs harg l p f pre cap hx hp) | (exfalso; omega) | (((first | apply Go.iQ | apply Go.gQ | apply Go.sQ | apply Qg.gQ); exact rfl; (first | exact .d | exact .e | exact .n | ((fail_if_success exact bqt); (fail_if_success exact bqf); exact .b))) <;> intro _)
  exact .ret rfl (.bool any_idx)
/-- slices.Index and Contains of numbers. -/
def indexIntCode : AFn := ⟨19, [.t 4], (.seq (.region [⟨some 4, .op (.mv (.k (.int .i64 0))), none⟩]) (.seq (.seq (.region [⟨some 6, .op (.mv (.t 0)), none⟩, ⟨some 7, .op (.len false (.t 6)), none⟩, ⟨some 8, .op (.mv (.k (.int .i64 0))), none⟩]) (.block 0 (.loop (.seq (.region [⟨some 9, .op (.bin .lss (.t 8) (.t 7)), none⟩]) (.seq (.cond (.t 9) .skip (.exit 0)) (.seq (.block 1 (.seq (.region [⟨some 10, .op (.mv (.t 8)), none⟩, ⟨some 5, .op (.mv (.t 10)), none⟩]) (.seq (.region [⟨some 11, .op (.mv (.t 1)), none⟩, ⟨some 12, .op (.mv (.t 0)), none⟩, ⟨some 13, .op (.mv (.t 5)), none⟩, ⟨some 14, .op (.iaddr 1 (.t 12) (.t 13)), none⟩, ⟨some 15, .op (.load false 1 (.t 14)), none⟩, ⟨some 16, .op (.bin .eql (.t 11) (.t 15)), none⟩]) (.cond (.t 16) (.seq (.region [⟨some 17, .op (.mv (.t 5)), none⟩, ⟨some 4, .op (.mv (.t 17)), none⟩]) .ret) .skip)))) (.region [⟨some 18, .op (.bin .add (.t 8) (.k (.int .i64 1))), none⟩, ⟨some 8, .op (.mv (.t 18)), none⟩]))))))) (.seq (.region [⟨some 4, .op (.mv (.k (.int .i64 (-1)))), none⟩]) .ret)))⟩
theorem indexInt_ok {P : Program} (hm : P.follows .mixedOrders = true) {fz : List Nat} {n : Nat} (hc : compFn P fz n = some indexIntCode) (l : List Int) (v : Int) (hx : l.length ≤ 34359738368) : Pure P n [.c (.fz (l.map fun n => [.int .i64 n])), .c (.int .i64 v)] (.c (.int .i64 (idxA (fun a => v == a) l 0))) := by
  refine Pure.run hm hc (Nat.le_of_ble_eq_true rfl) fun σ hS hA => ?_
  clear hS hA
  repeat' first | (apply Go.adm; exact rfl) | apply Go.qs | apply Qg.nil | ((first | apply Go.v2 | apply Go.v1); (first | exact leAdd | assumption); iterate 6 exact rfl) | ((first | apply Go.op | apply Go.sop | apply Qg.op); exact rfl; (first | exact aop_alloc | exact aop_new rfl rfl | exact aop_mksl rfl | exact aop_lenM rfl | exact rfl | exact aL rfl rfl rfl rfl rfl | exact aS rfl rfl rfl rfl rfl rfl rfl)) | ((first | apply Go.no | apply Go.sno | apply Qg.no); exact rfl) | (exfalso; omega) | (((first | apply Go.iQ | apply Go.gQ | apply Go.sQ | apply Qg.gQ); exact rfl; (first | exact .d | exact .e | exact .n | ((fail_if_success exact bqt); (fail_if_success exact bqf); exact .b))) <;> intro _)
  refine Go.keep [0, 1, 7, 8] (Go.loops (I := fun m fr τ => ∃ i : Nat, ∃ k : Int, m = l.length - i ∧ i ≤ l.length ∧ k = i ∧ idxA (fun a => v == a) l 0 = idxA (fun a => v == a) (l.drop i) k ∧
    fr = [(0, .c (.fz (l.map fun n => [.int .i64 n]))), (1, .c (.int .i64 v)), (7, .c (.int .i64 (l.length : Int))), (8, .c (.int .i64 k))] ∧ τ = E σ []) ?_ _ _ _ ⟨0, _, rfl, Nat.zero_le _, rfl, rfl, rfl, rfl⟩)
  rintro m fr τ ⟨i, k, rfl, hi, hn, hsl, rfl, rfl⟩ hrec
  by_cases hlt : i < l.length
  · repeat' first | (apply Go.adm; exact rfl) | apply Go.qs | apply Qg.nil | ((first | apply Go.v2 | apply Go.v1); (first | exact leAdd | assumption); iterate 6 exact rfl) | ((first | apply Go.op | apply Go.sop | apply Qg.op); exact rfl; (first | exact aop_alloc | exact aop_new rfl rfl | exact aop_mksl rfl | exact aop_lenM rfl | exact rfl | exact aL rfl rfl rfl rfl rfl | exact aS rfl rfl rfl rfl rfl rfl rfl | exact aop_iaddrM (enc := fun n => [.int .i64 n]) rfl rfl hn hlt rfl)) | ((first | apply Go.no | apply Go.sno | apply Qg.no); exact rfl) | (exfalso; omega) | (((first | apply Go.iQ | apply Go.gQ | apply Go.sQ | apply Qg.gQ); exact rfl; (first | exact .d | exact .e | exact .n | ((fail_if_success exact bqt); (fail_if_success exact bqf); exact .b))) <;> intro _)
    · refine .ret rfl (.int ?_)
      rw [hsl, List.drop_eq_getElem_cons hlt, idxA, if_pos (by simp_all)]
    · rename_i h
      refine Go.keep [0, 1, 7, 8] (hrec _ _ _ (by omega) ⟨i + 1, _, rfl, hlt, wrap_succ hn (by omega), ?_, rfl, rfl⟩)
      rw [hsl, List.drop_eq_getElem_cons hlt, idxA, if_neg (by simpa using h), wrap64 (by omega) (by omega)]
  · repeat' first | (apply Go.adm; exact rfl) | apply Go.qs | apply Qg.nil | ((first | apply Go.v2 | apply Go.v1); (first | exact leAdd | assumption); iterate 6 exact rfl) | ((first | apply Go.op | apply Go.sop | apply Qg.op); exact rfl; (first | exact aop_alloc | exact aop_new rfl rfl | exact aop_mksl rfl | exact aop_lenM rfl | exact rfl | exact aL rfl rfl rfl rfl rfl | exact aS rfl rfl rfl rfl rfl rfl rfl)) | ((first | apply Go.no | apply Go.sno | apply Qg.no); exact rfl) | (exfalso; omega) | (((first | apply Go.iQ | apply Go.gQ | apply Go.sQ | apply Qg.gQ); exact rfl; (first | exact .d | exact .e | exact .n | ((fail_if_success exact bqt); (fail_if_success exact bqf); exact .b))) <;> intro _)
    refine .ret rfl (.int ?_)
    rw [hsl, List.drop_eq_nil_of_le (by omega)]
    rfl
theorem containsInt_ok {P : Program} (hm : P.follows .mixedOrders = true) {fz fz' : List Nat} {n n' : Nat} (hc : compFn P fz n = some (containsFuncCode n')) (hc' : compFn P fz' n' = some indexIntCode) (l : List Int) (v : Int) (hx : l.length ≤ 34359738368) : Pure P n [.c (.fz (l.map fun n => [.int .i64 n])), .c (.int .i64 v)] (.c (.bool (l.any fun a => v == a))) := by
  refine Pure.run hm hc (Nat.le_of_ble_eq_true rfl) fun σ hS hA => ?_
  clear hS hA
  repeat' first | (apply Go.adm; exact rfl) | apply Go.qs | apply Qg.nil | ((first | apply Go.v2 | apply Go.v1); (first | exact leAdd | assumption); iterate 6 exact rfl) | ((first | apply Go.op | apply Go.sop | apply Qg.op); exact rfl; (first | exact aop_alloc | exact aop_new rfl rfl | exact aop_mksl rfl | exact aop_lenM rfl | exact rfl | exact aL rfl rfl rfl rfl rfl | exact aS rfl rfl rfl rfl rfl rfl rfl)) | ((first | apply Go.no | apply Go.sno | apply Qg.no); exact rfl) | ((first | apply Go.pcall | apply Go.spcall | apply Qg.pcall); (iterate 3 exact rfl); exact indexInt_ok hm hc' l v hx) | (exfalso; omega) | (((first | apply Go.iQ | apply Go.gQ | apply Go.sQ | apply Qg.gQ); exact rfl; (first | exact .d | exact .e | exact .n | ((fail_if_success exact bqt); (fail_if_success exact bqf); exact .b))) <;> intro _)
  exact .ret rfl (.bool any_idx)
end Go.Proofs.YtcfpdongfdhgjaaGreat.Am

/- The laws' helpers on types, printed by a program: Tok, Check, Unique, Fk, Col. -/
set_option linter.unusedVariables false
set_option linter.unusedSimpArgs false
namespace Go.Proofs.YtcfpdongfdhgjaaGreat.Am
/-- Sizes taken off one behind the other. -/
def chain : List (Int → Int) → Int → Int
  | [], l => l
  | f :: r, l => if f l < 0 then -1 else chain r (f l)
inductive Steps : List (Int → Int) → Prop where
  | nil : Steps []
  | cons {f : Int → Int} {r : List (Int → Int)} (h : ∀ l, 0 ≤ l → f l ≤ l) (k : Steps r) : Steps (f :: r)
theorem chain_le {fs : List (Int → Int)} (h : Steps fs) : ∀ l, 0 ≤ l → chain fs l ≤ l := by
  induction h with
  | nil => intro l _; exact Int.le_refl _
  | @cons f0 r h _ ih =>
    intro l hl
    simp only [chain]
    split
    · omega
    · have := h l hl
      have := ih (f0 l) (by omega)
      omega
theorem chain_all {fs : List (Int → Int)} (h : Steps fs) : ∀ l, 0 ≤ l → 0 ≤ chain fs l → ∀ f ∈ fs, ∃ q, 0 ≤ q ∧ q ≤ l ∧ 0 ≤ f q := by
  induction h with
  | nil => intro l _ _ f hf; simp at hf
  | @cons f0 r h _ ih =>
    intro l hl hc f hf
    simp only [chain] at hc
    split at hc
    · omega
    · rename_i h0
      rcases List.mem_cons.1 hf with rfl | hf
      · exact ⟨l, hl, Int.le_refl _, by omega⟩
      · obtain ⟨q, h1, h2, h3⟩ := ih _ (by omega) hc f hf
        have := h l hl
        exact ⟨q, h1, by omega, h3⟩
theorem step_str (s : List UInt8) : ∀ l : Int, 0 ≤ l → l - s.length ≤ l := fun l _ => by omega
def zI (xs : List Int) (l : Int) : Int := if l - xs.length < 0 then -1 else l - xs.length
theorem step_ints (xs : List Int) : ∀ l : Int, 0 ≤ l → zI xs l ≤ l := fun l _ => by
  simp only [zI]
  split <;> omega
def bV (N : Nat) (v : Val) : Prop := v.s.length ≤ N
theorem bV_of {v : Val} {l : Int} {N : Nat} (h : 0 ≤ szV v l) (hl : l ≤ N) : bV N v := by
  simp only [szV] at h
  simp only [bV]
  split at h <;> omega
theorem ints_of {xs : List Int} {l : Int} {N : Nat} (h : 0 ≤ zI xs l) (hl : l ≤ N) : xs.length ≤ N := by
  simp only [zI] at h
  split at h <;> omega
theorem list_of {α : Type} {g : α → Int → Int} {b : Nat → α → Prop} (hg : ∀ a l, 0 ≤ l → g a l ≤ l) (hb : ∀ a l (N : Nat), 0 ≤ l → 0 ≤ g a l → l ≤ N → b N a) {xs : List α} {l : Int} {N : Nat} (h0 : 0 ≤ l) (h : 0 ≤ szL g xs l) (hl : l ≤ N) : xs.length ≤ N ∧ ∀ x ∈ xs, b N x := by
  obtain ⟨h1, h2⟩ := szL_mem hg (xs := xs) (left := l) h0 h
  refine ⟨by omega, fun x hx => ?_⟩
  obtain ⟨q, a, b, c⟩ := h2 x hx
  exact hb x q N a c (by omega)
theorem szInt64S_ok (xs : List Int) (left : Int) (hx : xs.length ≤ 1125899906842624) (h0 : 0 ≤ left) (h1 : left ≤ 34359738368) : Pure Tryz.prog 154 [.c (.fz (xs.map encI)), .c (.int .i64 left)] (.c (.int .i64 (zI xs left))) := by
  refine Pure.run mixed c_laws_szInt64S_ok (Nat.le_of_ble_eq_true rfl) fun σ hS hA => ?_
  clear hS hA
  have hw : IntKind.i64.wrap (left - xs.length) = left - xs.length := wrap64 (by omega) (by omega)
  repeat' first | (apply Go.adm; exact rfl) | apply Go.qs | apply Qg.nil | ((first | apply Go.v2 | apply Go.v1); (first | exact leAdd | assumption); iterate 6 exact rfl) | ((first | apply Go.op | apply Go.sop | apply Qg.op); exact rfl; (first | exact aop_alloc | exact aop_new rfl rfl | exact aop_mksl rfl | exact aop_lenM rfl | exact rfl | exact aL rfl rfl rfl rfl rfl | exact aS rfl rfl rfl rfl rfl rfl rfl)) | ((first | apply Go.no | apply Go.sno | apply Qg.no); exact rfl) | (exfalso; omega) | (((first | apply Go.iQ | apply Go.gQ | apply Go.sQ | apply Qg.gQ); exact rfl; (first | exact .d | exact .e | exact .n | ((fail_if_success exact bqt); (fail_if_success exact bqf); exact .b))) <;> intro _)
  · refine .ret rfl (.int ?_)
    rename_i h
    rw [hw] at h
    rw [zI, if_pos h]
  · refine .ret rfl (.int ?_)
    rename_i h
    rw [hw] at h ⊢
    rw [zI, if_neg h]
theorem toInt64S_ok (xs : List Int) (hx : xs.length ≤ 34359738368) (σ : Store) : Ok Tryz.prog 51 [.c (.fz (xs.map encI))] σ (New σ (.fz (xs.map encI))) := by
  refine Makes.new (s := 1) (flatI xs) (Makes.run mixed c_laws_toInt64S_ok (Nat.le_of_ble_eq_true rfl) fun σ hS hA => ?_) σ
  clear hS hA
  repeat' first | (apply Go.adm; exact rfl) | apply Go.qs | apply Qg.nil | ((first | apply Go.v2 | apply Go.v1); (first | exact leAdd | assumption); iterate 6 exact rfl) | ((first | apply Go.op | apply Go.sop | apply Qg.op); exact rfl; (first | exact aop_alloc | exact aop_new rfl rfl | exact aop_mksl rfl | exact aop_lenM rfl | exact rfl | exact aL rfl rfl rfl rfl rfl | exact aS rfl rfl rfl rfl rfl rfl rfl | exact aop_mkslice rfl rfl (show 8 * xs.length ≤ 140737488355328 by omega))) | ((first | apply Go.no | apply Go.sno | apply Qg.no); exact rfl) | (exfalso; omega) | (((first | apply Go.iQ | apply Go.gQ | apply Go.sQ | apply Qg.gQ); exact rfl; (first | exact .d | exact .e | exact .n | ((fail_if_success exact bqt); (fail_if_success exact bqf); exact .b))) <;> intro _)
  refine Go.keep [0, 3, 4] (Go.loops (I := fun m fr τ => ∃ i : Nat, ∃ n : Int, ∃ cs : List (List Ce), m = xs.length - i ∧ i ≤ xs.length ∧ n = i ∧ (cs.length = xs.length ∧ (∀ e ∈ cs, e.length = 1) ∧ ∀ j (h1 : j < xs.length) (h2 : j < cs.length), j < i → cs[j] = encI xs[j]) ∧
    fr = [(0, .c (.fz (xs.map encI))), (3, .c (.sl (σ.next + 0) 0 0 xs.length xs.length)), (4, .c (.int .i64 n))] ∧ τ = E σ [(0, cs)]) ?_ _ _ _ ⟨0, _, List.replicate xs.length [.int .i64 0], rfl, Nat.zero_le _, rfl, ⟨by simp, fun e he => by rw [List.eq_of_mem_replicate he]; rfl, fun j _ _ h => absurd h (by omega)⟩, rfl, rfl⟩)
  rintro m fr τ ⟨i, n, cs, rfl, hi, hn, ⟨hcl, hcs, hh⟩, rfl, rfl⟩ hrec
  by_cases hlt : i < xs.length
  · have hlc : i < cs.length := by omega
    have he : cs[0 + i]? = some cs[i] := by simp [hlc]
    have hel : cs[i].length = 1 := hcs _ (List.getElem_mem hlc)
    repeat' first | (apply Go.adm; exact rfl) | apply Go.qs | apply Qg.nil | ((first | apply Go.v2 | apply Go.v1); (first | exact leAdd | assumption); iterate 6 exact rfl) | ((first | apply Go.op | apply Go.sop | apply Qg.op); exact rfl; (first | exact aop_alloc | exact aop_new rfl rfl | exact aop_mksl rfl | exact aop_lenM rfl | exact rfl | exact aL rfl rfl rfl rfl rfl | exact aS rfl rfl rfl rfl rfl rfl rfl | exact aop_iaddrM (enc := encI) rfl rfl hn hlt rfl | exact aop_iaddr (k := 0) (n := i) rfl rfl hn hlt rfl he hel | exact aop_store (k := 0) rfl rfl rfl rfl he rfl (by omega))) | ((first | apply Go.no | apply Go.sno | apply Qg.no); exact rfl) | (exfalso; omega) | (((first | apply Go.iQ | apply Go.gQ | apply Go.sQ | apply Qg.gQ); exact rfl; (first | exact .d | exact .e | exact .n | ((fail_if_success exact bqt); (fail_if_success exact bqf); exact .b))) <;> intro _)
    have hsp : splice cs[i] 0 [Ce.int IntKind.i64 xs[i]] = encI xs[i] := splice_all hel rfl
    rw [hsp]
    refine Go.keep [0, 3, 4] (hrec _ _ _ (by omega) ⟨i + 1, _, cs.set (0 + i) (encI xs[i]), rfl, hlt, wrap_succ hn (by omega), ⟨by simp [hcl], fun e he' => ?_, fun j h1 h2 hj => ?_⟩, rfl, rfl⟩)
    · rcases List.mem_or_eq_of_mem_set he' with h | h
      · exact hcs _ h
      · rw [h]; rfl
    · by_cases e : j = i
      · subst e; simp
      · rw [List.getElem_set_ne (by omega)]
        exact hh j h1 (by simpa using h2) (by omega)
  · repeat' first | (apply Go.adm; exact rfl) | apply Go.qs | apply Qg.nil | ((first | apply Go.v2 | apply Go.v1); (first | exact leAdd | assumption); iterate 6 exact rfl) | ((first | apply Go.op | apply Go.sop | apply Qg.op); exact rfl; (first | exact aop_alloc | exact aop_new rfl rfl | exact aop_mksl rfl | exact aop_lenM rfl | exact rfl | exact aL rfl rfl rfl rfl rfl | exact aS rfl rfl rfl rfl rfl rfl rfl)) | ((first | apply Go.no | apply Go.sno | apply Qg.no); exact rfl) | (exfalso; omega) | (((first | apply Go.iQ | apply Go.gQ | apply Go.sQ | apply Qg.gQ); exact rfl; (first | exact .d | exact .e | exact .n | ((fail_if_success exact bqt); (fail_if_success exact bqf); exact .b))) <;> intro _)
    have hcs2 : cs = xs.map encI := List.ext_getElem (by simp [hcl]) fun j h1 h2 => by
      rw [List.getElem_map]
      exact hh j (by simpa using h2) h1 (by simp at h2; omega)
    subst hcs2
    refine .ret rfl ⟨0, [], Jk.nil, ?_, by simp⟩
    simp [vec]
/-- Blocks 0 and 1 are a function's variables: what lies behind them stays. -/
theorem Has.more {σ : Store} {S : Nat → Prop} {y x : Ce} {l : List (Nat × List (List Ce))} (h : ∀ A B, Has (E σ (A :: B :: l)) S y x) (hS : ∀ a, S a → σ.next + 2 ≤ a ∧ a < σ.next + 2 + l.length) (m : List (Nat × List (List Ce))) : ∀ A B, Has (E σ (A :: B :: (l ++ m))) S y x := by
  intro A B
  refine (h A B).frame fun a ha => ?_
  have := hS a ha
  rw [E_ge (by omega), E_ge (by omega)]
  obtain ⟨q, hq⟩ : ∃ q, a - σ.next = q + 2 := ⟨a - σ.next - 2, by omega⟩
  rw [hq]
  simp only [List.getElem?_cons_succ]
  rw [List.getElem?_append_left (by omega)]
theorem Has.new2 {σ : Store} {y x : Ce} {A0 B0 : Nat × List (List Ce)} {l l2 : List (Nat × List (List Ce))} (h : Has (E σ ((A0 :: B0 :: l) ++ l2)) (fun a => (E σ (A0 :: B0 :: l)).next ≤ a ∧ a < (E σ ((A0 :: B0 :: l) ++ l2)).next) y x) :
    ∀ A B, Has (E σ (A :: B :: (l ++ l2))) (fun a => σ.next + 2 + l.length ≤ a ∧ a < σ.next + 2 + (l ++ l2).length) y x := by
  intro A B
  refine (h.frame fun a ha => ?_).mono fun a ha => ?_
  · have := ha.1
    simp only [E_next, List.length_cons] at this
    exact E_two (by omega)
  · have h1 := ha.1
    have h2 := ha.2
    simp only [E_next, List.length_cons, List.length_append] at h1 h2 ⊢
    omega
theorem HasL.skip {τ : Store} {S : Nat → Prop} {c : Ce} {ys xs : List Ce} (hc : Flat c) (k : HasL τ S ys xs) : HasL τ S (c :: ys) (c :: xs) :=
  (HasL.two (S := fun _ => False) (.c hc) k (fun _ h => h.elim)).mono fun a ha => ha.elim (fun h => h.elim) id
theorem tidy_pre {n : Nat} {l m : List (Nat × List (List Ce))} (h : TidyL n l) (k : TidyL n m) : TidyL n (l ++ m) := fun b hb => (List.mem_append.1 hb).elim (h b) (k b)
theorem tidy_up {σ : Store} {l l2 : List (Nat × List (List Ce))} (h : TidyL (E σ l).next l2) : TidyL σ.next l2 := fun b hb e he x hx => (h b hb e he x hx).mono (by simp [E_next])

structure Tok where
  kind : Int
  col : Int
  v : Val
  deriving DecidableEq
def encTok (a : Tok) : List Ce := [.int .i64 a.kind, .int .i64 a.col, .int .i64 a.v.k, .int .i64 a.v.n, .str a.v.s]
theorem flatTok (a : Tok) : ∀ x ∈ encTok a, Flat x := by
  intro x hx
  simp only [encTok, List.mem_cons, List.not_mem_nil, or_false] at hx
  rcases hx with rfl | rfl | rfl | rfl | rfl <;> constructor
def bTok (N : Nat) (a : Tok) : Prop := bV N a.v
def zTok (a : Tok) : Int → Int := chain [(szV a.v)]
theorem zTok_steps (a : Tok) : Steps [(szV a.v)] := (.cons (fun l h => szV_le _ l h) .nil)
theorem zTok_le (a : Tok) (l : Int) (h : 0 ≤ l) : zTok a l ≤ l := chain_le (zTok_steps a) l h
theorem bTok_of (a : Tok) (l : Int) (N : Nat) (h0 : 0 ≤ l) (h : 0 ≤ zTok a l) (hl : l ≤ N) : bTok N a := by
  have hh := chain_all (zTok_steps a) l h0 h
  obtain ⟨q0, u0, v0, w0⟩ := hh (szV a.v) (by simp)
  exact (bV_of w0 (by omega))
theorem szTok_ok (a : Tok) (left : Int) (hb : bTok 1125899906842624 a) (h0 : 0 ≤ left) (h1 : left ≤ 34359738368) : Pure Tryz.prog 89 [.agg (encTok a), .c (.int .i64 left)] (.c (.int .i64 (zTok a left))) := by
  refine Pure.run mixed c_laws_szTok_ok (Nat.le_of_ble_eq_true rfl) fun σ hS hA => ?_
  clear hS hA
  repeat' first | (apply Go.adm; exact rfl) | apply Go.qs | apply Qg.nil | ((first | apply Go.v2 | apply Go.v1); (first | exact leAdd | assumption); iterate 6 exact rfl) | ((first | apply Go.op | apply Go.sop | apply Qg.op); exact rfl; (first | exact aop_alloc | exact aop_new rfl rfl | exact aop_mksl rfl | exact aop_lenM rfl | exact rfl | exact aL rfl rfl rfl rfl rfl | exact aS rfl rfl rfl rfl rfl rfl rfl)) | ((first | apply Go.no | apply Go.sno | apply Qg.no); exact rfl)
  refine .pcall rfl rfl rfl (szVal_ok a.v left hb (by omega) (by omega)) ?_
  have y1 := szV_le a.v left (by omega)
  generalize e1 : szV a.v left = l1 at y1 ⊢
  repeat' first | (apply Go.adm; exact rfl) | apply Go.qs | apply Qg.nil | ((first | apply Go.v2 | apply Go.v1); (first | exact leAdd | assumption); iterate 6 exact rfl) | ((first | apply Go.op | apply Go.sop | apply Qg.op); exact rfl; (first | exact aop_alloc | exact aop_new rfl rfl | exact aop_mksl rfl | exact aop_lenM rfl | exact rfl | exact aL rfl rfl rfl rfl rfl | exact aS rfl rfl rfl rfl rfl rfl rfl)) | ((first | apply Go.no | apply Go.sno | apply Qg.no); exact rfl) | (exfalso; omega) | (((first | apply Go.iQ | apply Go.gQ | apply Go.sQ | apply Qg.gQ); exact rfl; (first | exact .d | exact .e | exact .n | ((fail_if_success exact bqt); (fail_if_success exact bqf); exact .b))) <;> intro _)
  · refine .ret rfl (.int ?_)
    rename_i h
    simp only [zTok, chain, e1, if_pos h]
  rename_i g1
  refine .ret rfl (.int ?_)
  simp only [zTok, chain, e1, if_neg g1]
theorem szTokS_ok (xs : List Tok) (left : Int) (hx : xs.length ≤ 1125899906842624) (hv : ∀ e ∈ xs, bTok 1125899906842624 e) (h0 : 0 ≤ left) (h1 : left ≤ 34359738368) : Pure Tryz.prog 22 [.c (.fz (xs.map encTok)), .c (.int .i64 left)] (.c (.int .i64 (szL zTok xs left))) :=
  szS_ok mixed c_laws_szTokS_ok encTok zTok xs left hx h0 h1 (fun _ => rfl) zTok_le fun a ha l h2 h3 => szTok_ok a l (hv a ha) h2 (by omega)
theorem toTok_ok (a : Tok) (hb : bTok 34359738368 a) (σ : Store) : Ok Tryz.prog 94 [.agg (encTok a)] σ (NewL σ (encTok a)) := by
  refine Ok.run mixed c_laws_toTok_ok (Nat.le_of_ble_eq_true rfl) fun hS hA => ?_
  clear hS hA
  repeat' first | (apply Go.adm; exact rfl) | apply Go.qs | apply Qg.nil | ((first | apply Go.v2 | apply Go.v1); (first | exact leAdd | assumption); iterate 6 exact rfl) | ((first | apply Go.op | apply Go.sop | apply Qg.op); exact rfl; (first | exact aop_alloc | exact aop_new rfl rfl | exact aop_mksl rfl | exact aop_lenM rfl | exact rfl | exact aL rfl rfl rfl rfl rfl | exact aS rfl rfl rfl rfl rfl rfl rfl)) | ((first | apply Go.no | apply Go.sno | apply Qg.no); exact rfl) | ((first | apply Go.pcall | apply Go.spcall | apply Qg.pcall); (iterate 3 exact rfl); exact NewL.pure (toVal_ok a.v)) | (exfalso; omega) | (((first | apply Go.iQ | apply Go.gQ | apply Go.sQ | apply Qg.gQ); exact rfl; (first | exact .d | exact .e | exact .n | ((fail_if_success exact bqt); (fail_if_success exact bqf); exact .b))) <;> intro _)
  refine .ret (retv_m rfl rfl rfl (Nat.le_of_ble_eq_true rfl) rfl) ⟨encTok a, _, rfl, rfl, ?_, .flat (flatTok a)⟩
  show TidyL σ.next [(0, [encTok a]), (0, [encTok a])]
  exact .one (fun x hx => .flat (flatTok a x hx)) (.one (fun x hx => .flat (flatTok a x hx)) .nil)
theorem toTokS_ok (xs : List Tok) (hx : xs.length ≤ 34359738368) (hv : ∀ e ∈ xs, bTok 34359738368 e) (σ : Store) : Ok Tryz.prog 25 [.c (.fz (xs.map encTok))] σ (New σ (.fz (xs.map encTok))) :=
  toS_ok mixed c_laws_toTokS_ok encTok xs hx (by decide) rfl (fun _ => rfl) (by intro x hx; simp only [List.mem_cons, List.not_mem_nil, or_false] at hx; rcases hx with rfl | rfl | rfl | rfl | rfl <;> constructor) (fun a ha σ => toTok_ok a (hv a ha) σ) σ
theorem Tok_beq (a b : Tok) : (a == b) = (a.kind == b.kind && a.col == b.col && a.v == b.v) := by
  obtain ⟨a0, a1, a2⟩ := a
  obtain ⟨b0, b1, b2⟩ := b
  rw [Bool.eq_iff_iff]
  simp [and_assoc]
theorem eqTok_ok (a b : Tok) (hb : bTok 34359738368 a) : Pure Tryz.prog 100 [.agg (encTok a), .agg (encTok b)] (.c (.bool (a == b))) := by
  refine Pure.run mixed c_laws_eqTok_ok (Nat.le_of_ble_eq_true rfl) fun σ hS hA => ?_
  clear hS hA
  have hq := Tok_beq a b
  repeat' first | (apply Go.adm; exact rfl) | apply Go.qs | apply Qg.nil | ((first | apply Go.v2 | apply Go.v1); (first | exact leAdd | assumption); iterate 6 exact rfl) | ((first | apply Go.op | apply Go.sop | apply Qg.op); exact rfl; (first | exact aop_alloc | exact aop_new rfl rfl | exact aop_mksl rfl | exact aop_lenM rfl | exact rfl | exact aL rfl rfl rfl rfl rfl | exact aS rfl rfl rfl rfl rfl rfl rfl)) | ((first | apply Go.no | apply Go.sno | apply Qg.no); exact rfl) | ((first | apply Go.pcallB | apply Go.spcallB | apply Qg.pcallB); (iterate 3 exact rfl); exact eqVal_ok a.v b.v; intro _ _) | (exfalso; omega) | (((first | apply Go.iQ | apply Go.gQ | apply Go.sQ | apply Qg.gQ); exact rfl; (first | exact .d | exact .e | exact .n | ((fail_if_success exact bqt); (fail_if_success exact bqf); exact .b))) <;> intro _)
  all_goals refine .ret rfl (.bool ?_)
  all_goals rw [hq]
  all_goals clear hq hb
  all_goals simp_all
theorem eqTokS_ok (xs ys : List Tok) (hx : xs.length ≤ 34359738368) (hv : ∀ e ∈ xs, bTok 34359738368 e) : Pure Tryz.prog 29 [.c (.fz (xs.map encTok)), .c (.fz (ys.map encTok))] (.c (.bool (xs == ys))) :=
  eqS_ok mixed c_laws_eqTokS_ok encTok xs ys hx (fun _ => rfl) fun a ha b => eqTok_ok a b (hv a ha)
structure Chk where
  expr : List Tok
  deriving DecidableEq
def encChk (a : Chk) : List Ce := [.fz (a.expr.map encTok)]
def bChk (N : Nat) (a : Chk) : Prop := (a.expr.length ≤ N ∧ ∀ x ∈ a.expr, bTok N x)
def zChk (a : Chk) : Int → Int := chain [(szL zTok a.expr)]
theorem zChk_steps (a : Chk) : Steps [(szL zTok a.expr)] := (.cons (fun l h => szL_le zTok_le _ l h) .nil)
theorem zChk_le (a : Chk) (l : Int) (h : 0 ≤ l) : zChk a l ≤ l := chain_le (zChk_steps a) l h
theorem bChk_of (a : Chk) (l : Int) (N : Nat) (h0 : 0 ≤ l) (h : 0 ≤ zChk a l) (hl : l ≤ N) : bChk N a := by
  have hh := chain_all (zChk_steps a) l h0 h
  obtain ⟨q0, u0, v0, w0⟩ := hh (szL zTok a.expr) (by simp)
  exact (list_of zTok_le bTok_of u0 w0 (by omega))
theorem szChk_ok (a : Chk) (left : Int) (hb : bChk 1125899906842624 a) (h0 : 0 ≤ left) (h1 : left ≤ 34359738368) : Pure Tryz.prog 257 [.agg (encChk a), .c (.int .i64 left)] (.c (.int .i64 (zChk a left))) := by
  refine Pure.run mixed c_laws_szCheck_ok (Nat.le_of_ble_eq_true rfl) fun σ hS hA => ?_
  clear hS hA
  repeat' first | (apply Go.adm; exact rfl) | apply Go.qs | apply Qg.nil | ((first | apply Go.v2 | apply Go.v1); (first | exact leAdd | assumption); iterate 6 exact rfl) | ((first | apply Go.op | apply Go.sop | apply Qg.op); exact rfl; (first | exact aop_alloc | exact aop_new rfl rfl | exact aop_mksl rfl | exact aop_lenM rfl | exact rfl | exact aL rfl rfl rfl rfl rfl | exact aS rfl rfl rfl rfl rfl rfl rfl)) | ((first | apply Go.no | apply Go.sno | apply Qg.no); exact rfl)
  refine .pcall rfl rfl rfl (szTokS_ok a.expr left hb.1 hb.2 (by omega) (by omega)) ?_
  have y1 := szL_le zTok_le a.expr left (by omega)
  generalize e1 : szL zTok a.expr left = l1 at y1 ⊢
  repeat' first | (apply Go.adm; exact rfl) | apply Go.qs | apply Qg.nil | ((first | apply Go.v2 | apply Go.v1); (first | exact leAdd | assumption); iterate 6 exact rfl) | ((first | apply Go.op | apply Go.sop | apply Qg.op); exact rfl; (first | exact aop_alloc | exact aop_new rfl rfl | exact aop_mksl rfl | exact aop_lenM rfl | exact rfl | exact aL rfl rfl rfl rfl rfl | exact aS rfl rfl rfl rfl rfl rfl rfl)) | ((first | apply Go.no | apply Go.sno | apply Qg.no); exact rfl) | (exfalso; omega) | (((first | apply Go.iQ | apply Go.gQ | apply Go.sQ | apply Qg.gQ); exact rfl; (first | exact .d | exact .e | exact .n | ((fail_if_success exact bqt); (fail_if_success exact bqf); exact .b))) <;> intro _)
  · refine .ret rfl (.int ?_)
    rename_i h
    simp only [zChk, chain, e1, if_pos h]
  rename_i g1
  refine .ret rfl (.int ?_)
  simp only [zChk, chain, e1, if_neg g1]
theorem szChkS_ok (xs : List Chk) (left : Int) (hx : xs.length ≤ 1125899906842624) (hv : ∀ e ∈ xs, bChk 1125899906842624 e) (h0 : 0 ≤ left) (h1 : left ≤ 34359738368) : Pure Tryz.prog 177 [.c (.fz (xs.map encChk)), .c (.int .i64 left)] (.c (.int .i64 (szL zChk xs left))) :=
  szS_ok mixed c_laws_szCheckS_ok encChk zChk xs left hx h0 h1 (fun _ => rfl) zChk_le fun a ha l h2 h3 => szChk_ok a l (hv a ha) h2 (by omega)
theorem toChk_ok (a : Chk) (hb : bChk 34359738368 a) (σ : Store) : Ok Tryz.prog 262 [.agg (encChk a)] σ (NewL σ (encChk a)) := by
  refine Ok.run mixed c_laws_toCheck_ok (Nat.le_of_ble_eq_true rfl) fun hS hA => ?_
  clear hS hA
  repeat' first | (apply Go.adm; exact rfl) | apply Go.qs | apply Qg.nil | ((first | apply Go.v2 | apply Go.v1); (first | exact leAdd | assumption); iterate 6 exact rfl) | ((first | apply Go.op | apply Go.sop | apply Qg.op); exact rfl; (first | exact aop_alloc | exact aop_new rfl rfl | exact aop_mksl rfl | exact aop_lenM rfl | exact rfl | exact aL rfl rfl rfl rfl rfl | exact aS rfl rfl rfl rfl rfl rfl rfl)) | ((first | apply Go.no | apply Go.sno | apply Qg.no); exact rfl) | (exfalso; omega) | (((first | apply Go.iQ | apply Go.gQ | apply Go.sQ | apply Qg.gQ); exact rfl; (first | exact .d | exact .e | exact .n | ((fail_if_success exact bqt); (fail_if_success exact bqf); exact .b))) <;> intro _)
  refine Go.call _ rfl rfl rfl (toTokS_ok a.expr hb.1 hb.2 _) ?_
  rintro r σ0 ⟨x0, m0, rfl, rfl, t0, h0⟩
  rw [E_E] at h0 ⊢
  have t0 := tidy_up t0
  have h0 := h0.new2
  repeat' first | (apply Go.adm; exact rfl) | apply Go.qs | apply Qg.nil | ((first | apply Go.v2 | apply Go.v1); (first | exact leAdd | assumption); iterate 6 exact rfl) | ((first | apply Go.op | apply Go.sop | apply Qg.op); exact rfl; (first | exact aop_alloc | exact aop_new rfl rfl | exact aop_mksl rfl | exact aop_lenM rfl | exact rfl | exact aL rfl rfl rfl rfl rfl | exact aS rfl rfl rfl rfl rfl rfl rfl)) | ((first | apply Go.no | apply Go.sno | apply Qg.no); exact rfl) | (exfalso; omega) | (((first | apply Go.iQ | apply Go.gQ | apply Go.sQ | apply Qg.gQ); exact rfl; (first | exact .d | exact .e | exact .n | ((fail_if_success exact bqt); (fail_if_success exact bqf); exact .b))) <;> intro _)
  have hL : HasL (E σ ((0, [[x0]]) :: (0, [[x0]]) :: ([] ++ m0))) (fun a => σ.next + 2 ≤ a ∧ a < σ.next + 2 + ([] ++ m0).length) (encChk a) [x0] := by
    refine HasL.mono ?_ (HasL.two (h0 _ _) (HasL.nil (S := fun a => a < 0)) (fun a ha hb => by (try dsimp only at ha hb); (try simp only [List.append_eq, List.length_append, List.length_nil, List.nil_append] at ha hb); omega))
    intro a ha
    (try dsimp only at ha)
    (try simp only [List.append_eq, List.length_append, List.length_nil, List.nil_append] at ha ⊢)
    omega
  have hT := hL.tidy (n := σ.next) fun a ha => by have := ha.1; omega
  have hM : TidyL σ.next ([] ++ m0) := (tidy_pre (fun b hb => by simp at hb) t0)
  have hN : NewL σ (encChk a) (.agg [x0]) (E σ ((0, [[x0]]) :: (0, [[x0]]) :: ([] ++ m0))) := by
    refine ⟨_, _, rfl, rfl, .one hT (.one hT hM), hL.mono ?_⟩
    intro a ha
    have h9 := ha.1
    have h8 := ha.2
    (try simp only [E_next, List.length_cons, List.append_eq, List.length_append, List.length_nil, List.nil_append] at h8 ⊢)
    constructor <;> omega
  exact .ret (retv_m rfl rfl rfl (Nat.le_of_ble_eq_true rfl) rfl) hN
theorem toChkS_ok (xs : List Chk) (hx : xs.length ≤ 34359738368) (hv : ∀ e ∈ xs, bChk 34359738368 e) (σ : Store) : Ok Tryz.prog 184 [.c (.fz (xs.map encChk))] σ (New σ (.fz (xs.map encChk))) :=
  toS_ok mixed c_laws_toCheckS_ok encChk xs hx (by decide) rfl (fun _ => rfl) (by intro x hx; simp only [List.mem_cons, List.not_mem_nil, or_false] at hx; rcases hx with rfl <;> constructor) (fun a ha σ => toChk_ok a (hv a ha) σ) σ
theorem Chk_beq (a b : Chk) : (a == b) = (a.expr == b.expr) := by
  obtain ⟨a0⟩ := a
  obtain ⟨b0⟩ := b
  rw [Bool.eq_iff_iff]
  simp [and_assoc]
theorem eqChk_ok (a b : Chk) (hb : bChk 34359738368 a) : Pure Tryz.prog 272 [.agg (encChk a), .agg (encChk b)] (.c (.bool (a == b))) := by
  refine Pure.run mixed c_laws_eqCheck_ok (Nat.le_of_ble_eq_true rfl) fun σ hS hA => ?_
  clear hS hA
  have hq := Chk_beq a b
  repeat' first | (apply Go.adm; exact rfl) | apply Go.qs | apply Qg.nil | ((first | apply Go.v2 | apply Go.v1); (first | exact leAdd | assumption); iterate 6 exact rfl) | ((first | apply Go.op | apply Go.sop | apply Qg.op); exact rfl; (first | exact aop_alloc | exact aop_new rfl rfl | exact aop_mksl rfl | exact aop_lenM rfl | exact rfl | exact aL rfl rfl rfl rfl rfl | exact aS rfl rfl rfl rfl rfl rfl rfl)) | ((first | apply Go.no | apply Go.sno | apply Qg.no); exact rfl) | ((first | apply Go.pcallB | apply Go.spcallB | apply Qg.pcallB); (iterate 3 exact rfl); exact eqTokS_ok a.expr b.expr hb.1 hb.2; intro _ _) | (exfalso; omega) | (((first | apply Go.iQ | apply Go.gQ | apply Go.sQ | apply Qg.gQ); exact rfl; (first | exact .d | exact .e | exact .n | ((fail_if_success exact bqt); (fail_if_success exact bqf); exact .b))) <;> intro _)
  all_goals refine .ret rfl (.bool ?_)
  all_goals rw [hq]
  all_goals clear hq hb
  all_goals simp_all
theorem eqChkS_ok (xs ys : List Chk) (hx : xs.length ≤ 34359738368) (hv : ∀ e ∈ xs, bChk 34359738368 e) : Pure Tryz.prog 193 [.c (.fz (xs.map encChk)), .c (.fz (ys.map encChk))] (.c (.bool (xs == ys))) :=
  eqS_ok mixed c_laws_eqCheckS_ok encChk xs ys hx (fun _ => rfl) fun a ha b => eqChk_ok a b (hv a ha)
structure Uniq where
  cols : List Int
  deriving DecidableEq
def encUniq (a : Uniq) : List Ce := [.fz (a.cols.map encI)]
def bUniq (N : Nat) (a : Uniq) : Prop := a.cols.length ≤ N
def zUniq (a : Uniq) : Int → Int := chain [(zI a.cols)]
theorem zUniq_steps (a : Uniq) : Steps [(zI a.cols)] := (.cons (step_ints _) .nil)
theorem zUniq_le (a : Uniq) (l : Int) (h : 0 ≤ l) : zUniq a l ≤ l := chain_le (zUniq_steps a) l h
theorem bUniq_of (a : Uniq) (l : Int) (N : Nat) (h0 : 0 ≤ l) (h : 0 ≤ zUniq a l) (hl : l ≤ N) : bUniq N a := by
  have hh := chain_all (zUniq_steps a) l h0 h
  obtain ⟨q0, u0, v0, w0⟩ := hh (zI a.cols) (by simp)
  exact (ints_of w0 (by omega))
theorem szUniq_ok (a : Uniq) (left : Int) (hb : bUniq 1125899906842624 a) (h0 : 0 ≤ left) (h1 : left ≤ 34359738368) : Pure Tryz.prog 256 [.agg (encUniq a), .c (.int .i64 left)] (.c (.int .i64 (zUniq a left))) := by
  refine Pure.run mixed c_laws_szUnique_ok (Nat.le_of_ble_eq_true rfl) fun σ hS hA => ?_
  clear hS hA
  repeat' first | (apply Go.adm; exact rfl) | apply Go.qs | apply Qg.nil | ((first | apply Go.v2 | apply Go.v1); (first | exact leAdd | assumption); iterate 6 exact rfl) | ((first | apply Go.op | apply Go.sop | apply Qg.op); exact rfl; (first | exact aop_alloc | exact aop_new rfl rfl | exact aop_mksl rfl | exact aop_lenM rfl | exact rfl | exact aL rfl rfl rfl rfl rfl | exact aS rfl rfl rfl rfl rfl rfl rfl)) | ((first | apply Go.no | apply Go.sno | apply Qg.no); exact rfl)
  refine .pcall rfl rfl rfl (szInt64S_ok a.cols left hb (by omega) (by omega)) ?_
  have y1 := step_ints a.cols left (by omega)
  generalize e1 : zI a.cols left = l1 at y1 ⊢
  repeat' first | (apply Go.adm; exact rfl) | apply Go.qs | apply Qg.nil | ((first | apply Go.v2 | apply Go.v1); (first | exact leAdd | assumption); iterate 6 exact rfl) | ((first | apply Go.op | apply Go.sop | apply Qg.op); exact rfl; (first | exact aop_alloc | exact aop_new rfl rfl | exact aop_mksl rfl | exact aop_lenM rfl | exact rfl | exact aL rfl rfl rfl rfl rfl | exact aS rfl rfl rfl rfl rfl rfl rfl)) | ((first | apply Go.no | apply Go.sno | apply Qg.no); exact rfl) | (exfalso; omega) | (((first | apply Go.iQ | apply Go.gQ | apply Go.sQ | apply Qg.gQ); exact rfl; (first | exact .d | exact .e | exact .n | ((fail_if_success exact bqt); (fail_if_success exact bqf); exact .b))) <;> intro _)
  · refine .ret rfl (.int ?_)
    rename_i h
    simp only [zUniq, chain, e1, if_pos h]
  rename_i g1
  refine .ret rfl (.int ?_)
  simp only [zUniq, chain, e1, if_neg g1]
theorem szUniqS_ok (xs : List Uniq) (left : Int) (hx : xs.length ≤ 1125899906842624) (hv : ∀ e ∈ xs, bUniq 1125899906842624 e) (h0 : 0 ≤ left) (h1 : left ≤ 34359738368) : Pure Tryz.prog 176 [.c (.fz (xs.map encUniq)), .c (.int .i64 left)] (.c (.int .i64 (szL zUniq xs left))) :=
  szS_ok mixed c_laws_szUniqueS_ok encUniq zUniq xs left hx h0 h1 (fun _ => rfl) zUniq_le fun a ha l h2 h3 => szUniq_ok a l (hv a ha) h2 (by omega)
theorem toUniq_ok (a : Uniq) (hb : bUniq 34359738368 a) (σ : Store) : Ok Tryz.prog 261 [.agg (encUniq a)] σ (NewL σ (encUniq a)) := by
  refine Ok.run mixed c_laws_toUnique_ok (Nat.le_of_ble_eq_true rfl) fun hS hA => ?_
  clear hS hA
  repeat' first | (apply Go.adm; exact rfl) | apply Go.qs | apply Qg.nil | ((first | apply Go.v2 | apply Go.v1); (first | exact leAdd | assumption); iterate 6 exact rfl) | ((first | apply Go.op | apply Go.sop | apply Qg.op); exact rfl; (first | exact aop_alloc | exact aop_new rfl rfl | exact aop_mksl rfl | exact aop_lenM rfl | exact rfl | exact aL rfl rfl rfl rfl rfl | exact aS rfl rfl rfl rfl rfl rfl rfl)) | ((first | apply Go.no | apply Go.sno | apply Qg.no); exact rfl) | (exfalso; omega) | (((first | apply Go.iQ | apply Go.gQ | apply Go.sQ | apply Qg.gQ); exact rfl; (first | exact .d | exact .e | exact .n | ((fail_if_success exact bqt); (fail_if_success exact bqf); exact .b))) <;> intro _)
  refine Go.call _ rfl rfl rfl (toInt64S_ok a.cols hb _) ?_
  rintro r σ0 ⟨x0, m0, rfl, rfl, t0, h0⟩
  rw [E_E] at h0 ⊢
  have t0 := tidy_up t0
  have h0 := h0.new2
  repeat' first | (apply Go.adm; exact rfl) | apply Go.qs | apply Qg.nil | ((first | apply Go.v2 | apply Go.v1); (first | exact leAdd | assumption); iterate 6 exact rfl) | ((first | apply Go.op | apply Go.sop | apply Qg.op); exact rfl; (first | exact aop_alloc | exact aop_new rfl rfl | exact aop_mksl rfl | exact aop_lenM rfl | exact rfl | exact aL rfl rfl rfl rfl rfl | exact aS rfl rfl rfl rfl rfl rfl rfl)) | ((first | apply Go.no | apply Go.sno | apply Qg.no); exact rfl) | (exfalso; omega) | (((first | apply Go.iQ | apply Go.gQ | apply Go.sQ | apply Qg.gQ); exact rfl; (first | exact .d | exact .e | exact .n | ((fail_if_success exact bqt); (fail_if_success exact bqf); exact .b))) <;> intro _)
  have hL : HasL (E σ ((0, [[x0]]) :: (0, [[x0]]) :: ([] ++ m0))) (fun a => σ.next + 2 ≤ a ∧ a < σ.next + 2 + ([] ++ m0).length) (encUniq a) [x0] := by
    refine HasL.mono ?_ (HasL.two (h0 _ _) (HasL.nil (S := fun a => a < 0)) (fun a ha hb => by (try dsimp only at ha hb); (try simp only [List.append_eq, List.length_append, List.length_nil, List.nil_append] at ha hb); omega))
    intro a ha
    (try dsimp only at ha)
    (try simp only [List.append_eq, List.length_append, List.length_nil, List.nil_append] at ha ⊢)
    omega
  have hT := hL.tidy (n := σ.next) fun a ha => by have := ha.1; omega
  have hM : TidyL σ.next ([] ++ m0) := (tidy_pre (fun b hb => by simp at hb) t0)
  have hN : NewL σ (encUniq a) (.agg [x0]) (E σ ((0, [[x0]]) :: (0, [[x0]]) :: ([] ++ m0))) := by
    refine ⟨_, _, rfl, rfl, .one hT (.one hT hM), hL.mono ?_⟩
    intro a ha
    have h9 := ha.1
    have h8 := ha.2
    (try simp only [E_next, List.length_cons, List.append_eq, List.length_append, List.length_nil, List.nil_append] at h8 ⊢)
    constructor <;> omega
  exact .ret (retv_m rfl rfl rfl (Nat.le_of_ble_eq_true rfl) rfl) hN
theorem toUniqS_ok (xs : List Uniq) (hx : xs.length ≤ 34359738368) (hv : ∀ e ∈ xs, bUniq 34359738368 e) (σ : Store) : Ok Tryz.prog 183 [.c (.fz (xs.map encUniq))] σ (New σ (.fz (xs.map encUniq))) :=
  toS_ok mixed c_laws_toUniqueS_ok encUniq xs hx (by decide) rfl (fun _ => rfl) (by intro x hx; simp only [List.mem_cons, List.not_mem_nil, or_false] at hx; rcases hx with rfl <;> constructor) (fun a ha σ => toUniq_ok a (hv a ha) σ) σ
theorem Uniq_beq (a b : Uniq) : (a == b) = (a.cols == b.cols) := by
  obtain ⟨a0⟩ := a
  obtain ⟨b0⟩ := b
  rw [Bool.eq_iff_iff]
  simp [and_assoc]
theorem eqUniq_ok (a b : Uniq) (hb : bUniq 34359738368 a) : Pure Tryz.prog 271 [.agg (encUniq a), .agg (encUniq b)] (.c (.bool (a == b))) := by
  refine Pure.run mixed c_laws_eqUnique_ok (Nat.le_of_ble_eq_true rfl) fun σ hS hA => ?_
  clear hS hA
  have hq := Uniq_beq a b
  repeat' first | (apply Go.adm; exact rfl) | apply Go.qs | apply Qg.nil | ((first | apply Go.v2 | apply Go.v1); (first | exact leAdd | assumption); iterate 6 exact rfl) | ((first | apply Go.op | apply Go.sop | apply Qg.op); exact rfl; (first | exact aop_alloc | exact aop_new rfl rfl | exact aop_mksl rfl | exact aop_lenM rfl | exact rfl | exact aL rfl rfl rfl rfl rfl | exact aS rfl rfl rfl rfl rfl rfl rfl)) | ((first | apply Go.no | apply Go.sno | apply Qg.no); exact rfl) | ((first | apply Go.pcallB | apply Go.spcallB | apply Qg.pcallB); (iterate 3 exact rfl); exact eqInt64S_ok a.cols b.cols hb; intro _ _) | (exfalso; omega) | (((first | apply Go.iQ | apply Go.gQ | apply Go.sQ | apply Qg.gQ); exact rfl; (first | exact .d | exact .e | exact .n | ((fail_if_success exact bqt); (fail_if_success exact bqf); exact .b))) <;> intro _)
  all_goals refine .ret rfl (.bool ?_)
  all_goals rw [hq]
  all_goals clear hq hb
  all_goals simp_all
theorem eqUniqS_ok (xs ys : List Uniq) (hx : xs.length ≤ 34359738368) (hv : ∀ e ∈ xs, bUniq 34359738368 e) : Pure Tryz.prog 192 [.c (.fz (xs.map encUniq)), .c (.fz (ys.map encUniq))] (.c (.bool (xs == ys))) :=
  eqS_ok mixed c_laws_eqUniqueS_ok encUniq xs ys hx (fun _ => rfl) fun a ha b => eqUniq_ok a b (hv a ha)
structure Fk where
  cols : List Int
  table : List UInt8
  onDelete : Int
  onUpdate : Int
  deferred : Bool
  deriving DecidableEq
def encFk (a : Fk) : List Ce := [.fz (a.cols.map encI), .str a.table, .int .i64 a.onDelete, .int .i64 a.onUpdate, .bool a.deferred]
def bFk (N : Nat) (a : Fk) : Prop := a.cols.length ≤ N ∧ a.table.length ≤ N
def zFk (a : Fk) : Int → Int := chain [(zI a.cols), (fun l => l - a.table.length)]
theorem zFk_steps (a : Fk) : Steps [(zI a.cols), (fun l => l - a.table.length)] := (.cons (step_ints _) (.cons (step_str _) .nil))
theorem zFk_le (a : Fk) (l : Int) (h : 0 ≤ l) : zFk a l ≤ l := chain_le (zFk_steps a) l h
theorem bFk_of (a : Fk) (l : Int) (N : Nat) (h0 : 0 ≤ l) (h : 0 ≤ zFk a l) (hl : l ≤ N) : bFk N a := by
  have hh := chain_all (zFk_steps a) l h0 h
  obtain ⟨q0, u0, v0, w0⟩ := hh (zI a.cols) (by simp)
  obtain ⟨q1, u1, v1, w1⟩ := hh (fun l => l - a.table.length) (by simp)
  exact ⟨(ints_of w0 (by omega)), (by (try simp only at w1); omega)⟩
theorem szFk_ok (a : Fk) (left : Int) (hb : bFk 1125899906842624 a) (h0 : 0 ≤ left) (h1 : left ≤ 34359738368) : Pure Tryz.prog 258 [.agg (encFk a), .c (.int .i64 left)] (.c (.int .i64 (zFk a left))) := by
  refine Pure.run mixed c_laws_szFk_ok (Nat.le_of_ble_eq_true rfl) fun σ hS hA => ?_
  clear hS hA
  repeat' first | (apply Go.adm; exact rfl) | apply Go.qs | apply Qg.nil | ((first | apply Go.v2 | apply Go.v1); (first | exact leAdd | assumption); iterate 6 exact rfl) | ((first | apply Go.op | apply Go.sop | apply Qg.op); exact rfl; (first | exact aop_alloc | exact aop_new rfl rfl | exact aop_mksl rfl | exact aop_lenM rfl | exact rfl | exact aL rfl rfl rfl rfl rfl | exact aS rfl rfl rfl rfl rfl rfl rfl)) | ((first | apply Go.no | apply Go.sno | apply Qg.no); exact rfl)
  refine .pcall rfl rfl rfl (szInt64S_ok a.cols left hb.1 (by omega) (by omega)) ?_
  have y1 := step_ints a.cols left (by omega)
  generalize e1 : zI a.cols left = l1 at y1 ⊢
  have w2 : 0 ≤ l1 → IntKind.i64.wrap (l1 - a.table.length) = l1 - a.table.length := fun h => wrap64 (by have : a.table.length ≤ 1125899906842624 := hb.2; omega) (by omega)
  repeat' first | (apply Go.adm; exact rfl) | apply Go.qs | apply Qg.nil | ((first | apply Go.v2 | apply Go.v1); (first | exact leAdd | assumption); iterate 6 exact rfl) | ((first | apply Go.op | apply Go.sop | apply Qg.op); exact rfl; (first | exact aop_alloc | exact aop_new rfl rfl | exact aop_mksl rfl | exact aop_lenM rfl | exact rfl | exact aL rfl rfl rfl rfl rfl | exact aS rfl rfl rfl rfl rfl rfl rfl)) | ((first | apply Go.no | apply Go.sno | apply Qg.no); exact rfl) | (exfalso; omega) | (((first | apply Go.iQ | apply Go.gQ | apply Go.sQ | apply Qg.gQ); exact rfl; (first | exact .d | exact .e | exact .n | ((fail_if_success exact bqt); (fail_if_success exact bqf); exact .b))) <;> intro _)
  · refine .ret rfl (.int ?_)
    rename_i h
    simp only [zFk, chain, e1, if_pos h]
  · refine .ret rfl (.int ?_)
    rename_i g1 h
    have v2 := w2 (by omega)
    simp only [v2] at h
    simp only [zFk, chain, e1, if_neg g1, if_pos h]
  rename_i g1 g2
  have v2 := w2 (by omega)
  simp only [v2] at g2 ⊢
  obtain ⟨l2, e2⟩ : ∃ q, l1 - (a.table.length : Int) = q := ⟨_, rfl⟩
  rw [e2] at g2 ⊢
  refine .ret rfl (.int ?_)
  simp only [zFk, chain, e1, e2, if_neg g1, if_neg g2]
theorem szFkS_ok (xs : List Fk) (left : Int) (hx : xs.length ≤ 1125899906842624) (hv : ∀ e ∈ xs, bFk 1125899906842624 e) (h0 : 0 ≤ left) (h1 : left ≤ 34359738368) : Pure Tryz.prog 178 [.c (.fz (xs.map encFk)), .c (.int .i64 left)] (.c (.int .i64 (szL zFk xs left))) :=
  szS_ok mixed c_laws_szFkS_ok encFk zFk xs left hx h0 h1 (fun _ => rfl) zFk_le fun a ha l h2 h3 => szFk_ok a l (hv a ha) h2 (by omega)
theorem toFk_ok (a : Fk) (hb : bFk 34359738368 a) (σ : Store) : Ok Tryz.prog 263 [.agg (encFk a)] σ (NewL σ (encFk a)) := by
  refine Ok.run mixed c_laws_toFk_ok (Nat.le_of_ble_eq_true rfl) fun hS hA => ?_
  clear hS hA
  repeat' first | (apply Go.adm; exact rfl) | apply Go.qs | apply Qg.nil | ((first | apply Go.v2 | apply Go.v1); (first | exact leAdd | assumption); iterate 6 exact rfl) | ((first | apply Go.op | apply Go.sop | apply Qg.op); exact rfl; (first | exact aop_alloc | exact aop_new rfl rfl | exact aop_mksl rfl | exact aop_lenM rfl | exact rfl | exact aL rfl rfl rfl rfl rfl | exact aS rfl rfl rfl rfl rfl rfl rfl)) | ((first | apply Go.no | apply Go.sno | apply Qg.no); exact rfl) | (exfalso; omega) | (((first | apply Go.iQ | apply Go.gQ | apply Go.sQ | apply Qg.gQ); exact rfl; (first | exact .d | exact .e | exact .n | ((fail_if_success exact bqt); (fail_if_success exact bqf); exact .b))) <;> intro _)
  refine Go.call _ rfl rfl rfl (toInt64S_ok a.cols hb.1 _) ?_
  rintro r σ0 ⟨x0, m0, rfl, rfl, t0, h0⟩
  rw [E_E] at h0 ⊢
  have t0 := tidy_up t0
  have h0 := h0.new2
  repeat' first | (apply Go.adm; exact rfl) | apply Go.qs | apply Qg.nil | ((first | apply Go.v2 | apply Go.v1); (first | exact leAdd | assumption); iterate 6 exact rfl) | ((first | apply Go.op | apply Go.sop | apply Qg.op); exact rfl; (first | exact aop_alloc | exact aop_new rfl rfl | exact aop_mksl rfl | exact aop_lenM rfl | exact rfl | exact aL rfl rfl rfl rfl rfl | exact aS rfl rfl rfl rfl rfl rfl rfl)) | ((first | apply Go.no | apply Go.sno | apply Qg.no); exact rfl) | (exfalso; omega) | (((first | apply Go.iQ | apply Go.gQ | apply Go.sQ | apply Qg.gQ); exact rfl; (first | exact .d | exact .e | exact .n | ((fail_if_success exact bqt); (fail_if_success exact bqf); exact .b))) <;> intro _)
  have hL : HasL (E σ ((0, [[x0, .str a.table, .int .i64 a.onDelete, .int .i64 a.onUpdate, .bool a.deferred]]) :: (0, [[x0, .str a.table, .int .i64 a.onDelete, .int .i64 a.onUpdate, .bool a.deferred]]) :: ([] ++ m0))) (fun a => σ.next + 2 ≤ a ∧ a < σ.next + 2 + ([] ++ m0).length) (encFk a) [x0, .str a.table, .int .i64 a.onDelete, .int .i64 a.onUpdate, .bool a.deferred] := by
    refine HasL.mono ?_ (HasL.two (h0 _ _) (HasL.skip (.str _) (HasL.skip (.int _ _) (HasL.skip (.int _ _) (HasL.skip (.bool _) (HasL.nil (S := fun a => a < 0)))))) (fun a ha hb => by (try dsimp only at ha hb); (try simp only [List.append_eq, List.length_append, List.length_nil, List.nil_append] at ha hb); omega))
    intro a ha
    (try dsimp only at ha)
    (try simp only [List.append_eq, List.length_append, List.length_nil, List.nil_append] at ha ⊢)
    omega
  have hT := hL.tidy (n := σ.next) fun a ha => by have := ha.1; omega
  have hM : TidyL σ.next ([] ++ m0) := (tidy_pre (fun b hb => by simp at hb) t0)
  have hN : NewL σ (encFk a) (.agg [x0, .str a.table, .int .i64 a.onDelete, .int .i64 a.onUpdate, .bool a.deferred]) (E σ ((0, [[x0, .str a.table, .int .i64 a.onDelete, .int .i64 a.onUpdate, .bool a.deferred]]) :: (0, [[x0, .str a.table, .int .i64 a.onDelete, .int .i64 a.onUpdate, .bool a.deferred]]) :: ([] ++ m0))) := by
    refine ⟨_, _, rfl, rfl, .one hT (.one hT hM), hL.mono ?_⟩
    intro a ha
    have h9 := ha.1
    have h8 := ha.2
    (try simp only [E_next, List.length_cons, List.append_eq, List.length_append, List.length_nil, List.nil_append] at h8 ⊢)
    constructor <;> omega
  exact .ret (retv_m rfl rfl rfl (Nat.le_of_ble_eq_true rfl) rfl) hN
theorem toFkS_ok (xs : List Fk) (hx : xs.length ≤ 34359738368) (hv : ∀ e ∈ xs, bFk 34359738368 e) (σ : Store) : Ok Tryz.prog 185 [.c (.fz (xs.map encFk))] σ (New σ (.fz (xs.map encFk))) :=
  toS_ok mixed c_laws_toFkS_ok encFk xs hx (by decide) rfl (fun _ => rfl) (by intro x hx; simp only [List.mem_cons, List.not_mem_nil, or_false] at hx; rcases hx with rfl | rfl | rfl | rfl | rfl <;> constructor) (fun a ha σ => toFk_ok a (hv a ha) σ) σ
theorem Fk_beq (a b : Fk) : (a == b) = (a.cols == b.cols && a.table == b.table && a.onDelete == b.onDelete && a.onUpdate == b.onUpdate && a.deferred == b.deferred) := by
  obtain ⟨a0, a1, a2, a3, a4⟩ := a
  obtain ⟨b0, b1, b2, b3, b4⟩ := b
  rw [Bool.eq_iff_iff]
  simp [and_assoc]
theorem eqFk_ok (a b : Fk) (hb : bFk 34359738368 a) : Pure Tryz.prog 273 [.agg (encFk a), .agg (encFk b)] (.c (.bool (a == b))) := by
  refine Pure.run mixed c_laws_eqFk_ok (Nat.le_of_ble_eq_true rfl) fun σ hS hA => ?_
  clear hS hA
  have hq := Fk_beq a b
  repeat' first | (apply Go.adm; exact rfl) | apply Go.qs | apply Qg.nil | ((first | apply Go.v2 | apply Go.v1); (first | exact leAdd | assumption); iterate 6 exact rfl) | ((first | apply Go.op | apply Go.sop | apply Qg.op); exact rfl; (first | exact aop_alloc | exact aop_new rfl rfl | exact aop_mksl rfl | exact aop_lenM rfl | exact rfl | exact aL rfl rfl rfl rfl rfl | exact aS rfl rfl rfl rfl rfl rfl rfl)) | ((first | apply Go.no | apply Go.sno | apply Qg.no); exact rfl) | ((first | apply Go.pcallB | apply Go.spcallB | apply Qg.pcallB); (iterate 3 exact rfl); exact eqInt64S_ok a.cols b.cols hb.1; intro _ _) | (exfalso; omega) | (((first | apply Go.iQ | apply Go.gQ | apply Go.sQ | apply Qg.gQ); exact rfl; (first | exact .d | exact .e | exact .n | ((fail_if_success exact bqt); (fail_if_success exact bqf); exact .b))) <;> intro _)
  all_goals refine .ret rfl (.bool ?_)
  all_goals rw [hq]
  all_goals clear hq hb
  all_goals simp_all
theorem eqFkS_ok (xs ys : List Fk) (hx : xs.length ≤ 34359738368) (hv : ∀ e ∈ xs, bFk 34359738368 e) : Pure Tryz.prog 194 [.c (.fz (xs.map encFk)), .c (.fz (ys.map encFk))] (.c (.bool (xs == ys))) :=
  eqS_ok mixed c_laws_eqFkS_ok encFk xs ys hx (fun _ => rfl) fun a ha b => eqFk_ok a b (hv a ha)
structure Col where
  name : List UInt8
  kind : Int
  notNull : Bool
  dflt : Val
  deriving DecidableEq
def encCol (a : Col) : List Ce := [.str a.name, .int .i64 a.kind, .bool a.notNull, .int .i64 a.dflt.k, .int .i64 a.dflt.n, .str a.dflt.s]
theorem flatCol (a : Col) : ∀ x ∈ encCol a, Flat x := by
  intro x hx
  simp only [encCol, List.mem_cons, List.not_mem_nil, or_false] at hx
  rcases hx with rfl | rfl | rfl | rfl | rfl | rfl <;> constructor
def bCol (N : Nat) (a : Col) : Prop := a.name.length ≤ N ∧ bV N a.dflt
def zCol (a : Col) : Int → Int := chain [(fun l => l - a.name.length), (szV a.dflt)]
theorem zCol_steps (a : Col) : Steps [(fun l => l - a.name.length), (szV a.dflt)] := (.cons (step_str _) (.cons (fun l h => szV_le _ l h) .nil))
theorem zCol_le (a : Col) (l : Int) (h : 0 ≤ l) : zCol a l ≤ l := chain_le (zCol_steps a) l h
theorem bCol_of (a : Col) (l : Int) (N : Nat) (h0 : 0 ≤ l) (h : 0 ≤ zCol a l) (hl : l ≤ N) : bCol N a := by
  have hh := chain_all (zCol_steps a) l h0 h
  obtain ⟨q0, u0, v0, w0⟩ := hh (fun l => l - a.name.length) (by simp)
  obtain ⟨q1, u1, v1, w1⟩ := hh (szV a.dflt) (by simp)
  exact ⟨(by (try simp only at w0); omega), (bV_of w1 (by omega))⟩
theorem szCol_ok (a : Col) (left : Int) (hb : bCol 1125899906842624 a) (h0 : 0 ≤ left) (h1 : left ≤ 34359738368) : Pure Tryz.prog 255 [.agg (encCol a), .c (.int .i64 left)] (.c (.int .i64 (zCol a left))) := by
  refine Pure.run mixed c_laws_szCol_ok (Nat.le_of_ble_eq_true rfl) fun σ hS hA => ?_
  clear hS hA
  have w1 : 0 ≤ left → IntKind.i64.wrap (left - a.name.length) = left - a.name.length := fun h => wrap64 (by have : a.name.length ≤ 1125899906842624 := hb.1; omega) (by omega)
  repeat' first | (apply Go.adm; exact rfl) | apply Go.qs | apply Qg.nil | ((first | apply Go.v2 | apply Go.v1); (first | exact leAdd | assumption); iterate 6 exact rfl) | ((first | apply Go.op | apply Go.sop | apply Qg.op); exact rfl; (first | exact aop_alloc | exact aop_new rfl rfl | exact aop_mksl rfl | exact aop_lenM rfl | exact rfl | exact aL rfl rfl rfl rfl rfl | exact aS rfl rfl rfl rfl rfl rfl rfl)) | ((first | apply Go.no | apply Go.sno | apply Qg.no); exact rfl) | (exfalso; omega) | (((first | apply Go.iQ | apply Go.gQ | apply Go.sQ | apply Qg.gQ); exact rfl; (first | exact .d | exact .e | exact .n | ((fail_if_success exact bqt); (fail_if_success exact bqf); exact .b))) <;> intro _)
  · refine .ret rfl (.int ?_)
    rename_i h
    have v1 := w1 (by omega)
    simp only [v1] at h
    simp only [zCol, chain, if_pos h]
  rename_i g1
  have v1 := w1 (by omega)
  simp only [v1] at g1 ⊢
  obtain ⟨l1, e1⟩ : ∃ q, left - (a.name.length : Int) = q := ⟨_, rfl⟩
  rw [e1] at g1 ⊢
  refine .pcall rfl rfl rfl (szVal_ok a.dflt l1 hb.2 (by omega) (by omega)) ?_
  have y2 := szV_le a.dflt l1 (by omega)
  generalize e2 : szV a.dflt l1 = l2 at y2 ⊢
  repeat' first | (apply Go.adm; exact rfl) | apply Go.qs | apply Qg.nil | ((first | apply Go.v2 | apply Go.v1); (first | exact leAdd | assumption); iterate 6 exact rfl) | ((first | apply Go.op | apply Go.sop | apply Qg.op); exact rfl; (first | exact aop_alloc | exact aop_new rfl rfl | exact aop_mksl rfl | exact aop_lenM rfl | exact rfl | exact aL rfl rfl rfl rfl rfl | exact aS rfl rfl rfl rfl rfl rfl rfl)) | ((first | apply Go.no | apply Go.sno | apply Qg.no); exact rfl) | (exfalso; omega) | (((first | apply Go.iQ | apply Go.gQ | apply Go.sQ | apply Qg.gQ); exact rfl; (first | exact .d | exact .e | exact .n | ((fail_if_success exact bqt); (fail_if_success exact bqf); exact .b))) <;> intro _)
  · refine .ret rfl (.int ?_)
    rename_i h
    simp only [zCol, chain, e1, if_neg g1, e2, if_pos h]
  rename_i g2
  refine .ret rfl (.int ?_)
  simp only [zCol, chain, e1, if_neg g1, e2, if_neg g2]
theorem szColS_ok (xs : List Col) (left : Int) (hx : xs.length ≤ 1125899906842624) (hv : ∀ e ∈ xs, bCol 1125899906842624 e) (h0 : 0 ≤ left) (h1 : left ≤ 34359738368) : Pure Tryz.prog 175 [.c (.fz (xs.map encCol)), .c (.int .i64 left)] (.c (.int .i64 (szL zCol xs left))) :=
  szS_ok mixed c_laws_szColS_ok encCol zCol xs left hx h0 h1 (fun _ => rfl) zCol_le fun a ha l h2 h3 => szCol_ok a l (hv a ha) h2 (by omega)
theorem toCol_ok (a : Col) (hb : bCol 34359738368 a) (σ : Store) : Ok Tryz.prog 260 [.agg (encCol a)] σ (NewL σ (encCol a)) := by
  refine Ok.run mixed c_laws_toCol_ok (Nat.le_of_ble_eq_true rfl) fun hS hA => ?_
  clear hS hA
  repeat' first | (apply Go.adm; exact rfl) | apply Go.qs | apply Qg.nil | ((first | apply Go.v2 | apply Go.v1); (first | exact leAdd | assumption); iterate 6 exact rfl) | ((first | apply Go.op | apply Go.sop | apply Qg.op); exact rfl; (first | exact aop_alloc | exact aop_new rfl rfl | exact aop_mksl rfl | exact aop_lenM rfl | exact rfl | exact aL rfl rfl rfl rfl rfl | exact aS rfl rfl rfl rfl rfl rfl rfl)) | ((first | apply Go.no | apply Go.sno | apply Qg.no); exact rfl) | ((first | apply Go.pcall | apply Go.spcall | apply Qg.pcall); (iterate 3 exact rfl); exact NewL.pure (toVal_ok a.dflt)) | (exfalso; omega) | (((first | apply Go.iQ | apply Go.gQ | apply Go.sQ | apply Qg.gQ); exact rfl; (first | exact .d | exact .e | exact .n | ((fail_if_success exact bqt); (fail_if_success exact bqf); exact .b))) <;> intro _)
  refine .ret (retv_m rfl rfl rfl (Nat.le_of_ble_eq_true rfl) rfl) ⟨encCol a, _, rfl, rfl, ?_, .flat (flatCol a)⟩
  show TidyL σ.next [(0, [encCol a]), (0, [encCol a])]
  exact .one (fun x hx => .flat (flatCol a x hx)) (.one (fun x hx => .flat (flatCol a x hx)) .nil)
theorem toColS_ok (xs : List Col) (hx : xs.length ≤ 34359738368) (hv : ∀ e ∈ xs, bCol 34359738368 e) (σ : Store) : Ok Tryz.prog 182 [.c (.fz (xs.map encCol))] σ (New σ (.fz (xs.map encCol))) :=
  toS_ok mixed c_laws_toColS_ok encCol xs hx (by decide) rfl (fun _ => rfl) (by intro x hx; simp only [List.mem_cons, List.not_mem_nil, or_false] at hx; rcases hx with rfl | rfl | rfl | rfl | rfl | rfl <;> constructor) (fun a ha σ => toCol_ok a (hv a ha) σ) σ
theorem Col_beq (a b : Col) : (a == b) = (a.name == b.name && a.kind == b.kind && a.notNull == b.notNull && a.dflt == b.dflt) := by
  obtain ⟨a0, a1, a2, a3⟩ := a
  obtain ⟨b0, b1, b2, b3⟩ := b
  rw [Bool.eq_iff_iff]
  simp [and_assoc]
theorem eqCol_ok (a b : Col) (hb : bCol 34359738368 a) : Pure Tryz.prog 270 [.agg (encCol a), .agg (encCol b)] (.c (.bool (a == b))) := by
  refine Pure.run mixed c_laws_eqCol_ok (Nat.le_of_ble_eq_true rfl) fun σ hS hA => ?_
  clear hS hA
  have hq := Col_beq a b
  repeat' first | (apply Go.adm; exact rfl) | apply Go.qs | apply Qg.nil | ((first | apply Go.v2 | apply Go.v1); (first | exact leAdd | assumption); iterate 6 exact rfl) | ((first | apply Go.op | apply Go.sop | apply Qg.op); exact rfl; (first | exact aop_alloc | exact aop_new rfl rfl | exact aop_mksl rfl | exact aop_lenM rfl | exact rfl | exact aL rfl rfl rfl rfl rfl | exact aS rfl rfl rfl rfl rfl rfl rfl)) | ((first | apply Go.no | apply Go.sno | apply Qg.no); exact rfl) | ((first | apply Go.pcallB | apply Go.spcallB | apply Qg.pcallB); (iterate 3 exact rfl); exact eqVal_ok a.dflt b.dflt; intro _ _) | (exfalso; omega) | (((first | apply Go.iQ | apply Go.gQ | apply Go.sQ | apply Qg.gQ); exact rfl; (first | exact .d | exact .e | exact .n | ((fail_if_success exact bqt); (fail_if_success exact bqf); exact .b))) <;> intro _)
  all_goals refine .ret rfl (.bool ?_)
  all_goals rw [hq]
  all_goals clear hq hb
  all_goals simp_all
theorem eqColS_ok (xs ys : List Col) (hx : xs.length ≤ 34359738368) (hv : ∀ e ∈ xs, bCol 34359738368 e) : Pure Tryz.prog 191 [.c (.fz (xs.map encCol)), .c (.fz (ys.map encCol))] (.c (.bool (xs == ys))) :=
  eqS_ok mixed c_laws_eqColS_ok encCol xs ys hx (fun _ => rfl) fun a ha b => eqCol_ok a b (hv a ha)
end Go.Proofs.YtcfpdongfdhgjaaGreat.Am

/- Marks by fields, and how many marks a value takes. -/
set_option linter.unusedVariables false
set_option linter.unusedSimpArgs false
namespace Go.Proofs.YtcfpdongfdhgjaaGreat.Am

theorem Has.shape {σ : Store} {S : Nat → Prop} {ys : List (List Ce)} {x : Ce} (h : Has σ S (.fz ys) x) {i : Nat} (hi : i < ys.length) : ∃ id v c, x = .sl id v 0 ys.length c := by
  obtain ⟨id, v, s, cs, junk, T, rfl, _⟩ := h.open (by omega)
  exact ⟨_, _, _, rfl⟩
/-- One cell of one element is written. -/
theorem Has.wr {σ : Store} {S : Nat → Prop} {zs : List (List Ce)} {e : List Ce} {id v n c i j : Nat} (h : Has σ S (.fz (zs.set i e)) (.sl id v 0 n c)) (hi : i < zs.length) (hj : j < e.length) :
    ∃ (es : List (List Ce)) (e' : List Ce), σ.get id = some (v, es) ∧ es[0 + i]? = some e' ∧ e'.length = e.length ∧ S id ∧
      ∀ z, Flat z → Has (σ.put id (v, es.set (0 + i) (splice e' (0 + j) [z]))) S (.fz (zs.set i (e.set j z))) (.sl id v 0 n c) ∧
        (∀ a, ¬ S a → (σ.put id (v, es.set (0 + i) (splice e' (0 + j) [z]))).get a = σ.get a) ∧ (σ.put id (v, es.set (0 + i) (splice e' (0 + j) [z]))).next = σ.next := by
  have hi' : i < (zs.set i e).length := by simpa using hi
  have hii : (zs.set i e)[i] = e := by simp
  obtain ⟨id1, v1, c1, es, e', hx, hg, he, hel, hS, hw⟩ := h.write (i := i) (j := j) hi' (by rw [hii]; exact hj)
  obtain ⟨rfl, rfl, -⟩ := sl_inj hx
  refine ⟨es, e', hg, he, by rw [hel, hii], hS, fun z hz => ⟨?_, fun a ha => put_off hS a ha, rfl⟩⟩
  have := hw z hz
  rw [List.set_set, hii] at this
  exact this
/-- A child of one element is given to a call. -/
theorem Has.ch {σ : Store} {S : Nat → Prop} {zs : List (List Ce)} {e : List Ce} {y : Ce} {id v n c i j : Nat} (h : Has σ S (.fz (zs.set i e)) (.sl id v 0 n c)) (hi : i < zs.length) (hj : j < e.length) (hy : e[j] = y) :
    ∃ (es : List (List Ce)) (e' : List Ce) (T : Nat → Prop), σ.get id = some (v, es) ∧ es[0 + i]? = some e' ∧ e'.length = e.length ∧ (∀ a, T a → S a) ∧
      ∃ hj' : j < e'.length, Has σ T y e'[j] ∧ ∀ σ' y', (∀ a, ¬ T a → σ'.get a = σ.get a) → Has σ' T y' e'[j] → Has σ' S (.fz (zs.set i (e.set j y'))) (.sl id v 0 n c) := by
  have hi' : i < (zs.set i e).length := by simpa using hi
  have hii : (zs.set i e)[i] = e := by simp
  obtain ⟨id1, v1, c1, es, e', T, hx, hg, he, hel, hTS, hj', hch, hback⟩ := h.child (i := i) (j := j) hi' (by rw [hii]; exact hj)
  obtain ⟨rfl, rfl, -⟩ := sl_inj hx
  subst hy
  refine ⟨es, e', T, hg, he, by rw [hel, hii], hTS, hj', ?_, fun σ' y' hf hh => ?_⟩
  · have e0 : (zs.set i e)[i][j]'(by rw [hii]; exact hj) = e[j] := by simp
    rw [← e0]
    exact hch
  · have := hback σ' y' hf hh
    rw [List.set_set, hii] at this
    exact this
/-- Counts along the sizes' chain. -/
inductive Cnts : List (Int → Int) → Int → Prop where
  | nil : Cnts [] 0
  | cons {f : Int → Int} {r : List (Int → Int)} {c d : Int} (h : ∀ q, 0 ≤ q → 0 ≤ f q → c ≤ 8 * (q - f q)) (k : Cnts r d) : Cnts (f :: r) (c + d)
theorem chain_cnt {fs : List (Int → Int)} {c : Int} (h : Cnts fs c) : ∀ l, 0 ≤ l → 0 ≤ chain fs l → c ≤ 8 * (l - chain fs l) := by
  induction h with
  | nil => intro l _ _; simp only [chain]; omega
  | @cons f r c d h _ ih =>
    intro l hl hc
    simp only [chain] at hc ⊢
    split at hc
    · omega
    · rename_i h0
      rw [if_neg h0]
      have := h l hl (by omega)
      have := ih (f l) (by omega) hc
      omega
theorem szList_cnt8 {α : Type} {g : α → Int → Int} {c : α → Int} (hg : ∀ a l, 0 ≤ l → g a l ≤ l) (hc : ∀ a l, 0 ≤ l → 0 ≤ g a l → c a ≤ 8 * (l - g a l) + 8) : ∀ (xs : List α) (left : Int), 0 ≤ left → 0 ≤ szList g xs left → cntL c xs ≤ 8 * (left - szList g xs left) + 8 * xs.length
  | [], left, h, hs => by simp [szList, cntL]
  | a :: r, left, h, hs => by
    simp only [szList] at hs ⊢
    split at hs
    · omega
    · rename_i h0
      rw [if_neg h0]
      have h1 := szList_cnt8 hg hc r (g a left) (by omega) hs
      have h2 := hc a left h (by omega)
      simp only [cntL, List.length_cons]
      omega
theorem szL_cnt8 {α : Type} {g : α → Int → Int} {c : α → Int} (hg : ∀ a l, 0 ≤ l → g a l ≤ l) (hc : ∀ a l, 0 ≤ l → 0 ≤ g a l → c a ≤ 8 * (l - g a l) + 8) (xs : List α) (left : Int) (h : 0 ≤ left) (hs : 0 ≤ szL g xs left) : cntL c xs ≤ 8 * (left - szL g xs left) := by
  simp only [szL] at hs ⊢
  split at hs
  · omega
  · rename_i h0
    rw [if_neg h0]
    have := szList_cnt8 hg hc xs (left - xs.length) (by omega) hs
    omega
theorem cnt_str (s : List UInt8) : ∀ q : Int, 0 ≤ q → 0 ≤ q - s.length → (0 : Int) ≤ 8 * (q - (q - s.length)) := fun q _ _ => by omega
theorem cnt_ints (xs : List Int) : ∀ q : Int, 0 ≤ q → 0 ≤ zI xs q → cntL (fun _ => 1) xs ≤ 8 * (q - zI xs q) := fun q _ h => by
  simp only [zI] at h ⊢
  rw [cnt1]
  split at h
  · omega
  · rename_i h0; rw [if_neg h0]; omega
theorem szV_cnt (v : Val) (l : Int) (h : 0 ≤ l) (hs : 0 ≤ szV v l) : (3 : Int) ≤ 8 * (l - szV v l) + 8 := by
  have := szV_le v l h
  omega
end Go.Proofs.YtcfpdongfdhgjaaGreat.Am

/- The laws' helpers on types, printed by a program: Tok, Check, Unique, Fk, Col. -/
set_option linter.unusedVariables false
set_option linter.unusedSimpArgs false
namespace Go.Proofs.YtcfpdongfdhgjaaGreat.Am
def markTok (a : Tok) (k : Int) : Tok := ⟨k, k + 1, ⟨k + 1 + 1, k + 1 + 1 + 1, mText (k + 1 + 1 + 1 + 1)⟩⟩
def cntTok (a : Tok) : Int := 5
theorem cntTok_nonneg (a : Tok) : 0 ≤ cntTok a := by
  simp only [cntTok]
  omega
theorem cntTok_sz (a : Tok) (l : Int) (h : 0 ≤ l) (hs : 0 ≤ zTok a l) : cntTok a ≤ 8 * (l - zTok a l) + 8 := by
  have := chain_cnt (fs := [(szV a.v)]) (.cons (c := 0) (fun q h hs => by have := szV_le a.v q h; omega) .nil) l h hs
  simp only [cntTok]
  simp only [zTok] at hs ⊢
  omega
theorem markTokS_ok (xs : List Tok) (k : Int) (hx : xs.length ≤ 34359738368) (hb : ∀ a ∈ xs, bTok 34359738368 a) (hk0 : 0 ≤ k) (hk : k + cntL cntTok xs ≤ 34359738368) : Marks Tryz.prog 31 (.fz (xs.map encTok)) (.fz ((markL markTok cntTok xs k).map encTok)) k (k + cntL cntTok xs) := by
  refine markS_ok mixed c_laws_markTokS_ok (Nat.le_of_ble_eq_true rfl) (Nat.le_of_ble_eq_true rfl) encTok markTok cntTok cntTok_nonneg xs k hx hk0 hk ?_
  intro n0 rets R K σ τ S x i ni ki ys hi fr hn0 hyl hni hki0 hki1 h0 h1 h5 hmem hh hnext
  have hi' : i < (ys.map encTok).length := by simpa using hi
  have hyi : (ys.map encTok)[i] = encTok ys[i] := by simp
  have hb := hb _ hmem
  obtain ⟨id, v, c, rfl⟩ := hh.shape hi'
  have hh : Has τ S (.fz ((ys.map encTok).set i (encTok ys[i]))) (.sl id v 0 (ys.map encTok).length c) := by rw [← hyi, List.set_getElem_self]; exact hh
  have hfr : ∀ a, ¬ S a → τ.get a = τ.get a := fun _ _ => rfl
  have hnx : τ.next = τ.next := rfl
  refine .same (look_three h0 h1 h5) ?_
  have hset : ∀ q, (ys.set i q).map encTok = (ys.map encTok).set i (encTok q) := fun q => List.map_set
  simp only [cntTok] at hki1
  obtain ⟨es0, e0, hg0, he0, hel0, hS0, hw0⟩ := hh.wr (j := 0) hi' (Nat.le_of_ble_eq_true rfl)
  have hel0 : e0.length = 5 := hel0
  obtain ⟨hh, hf0, hn0⟩ := hw0 (.int .i64 ki) (.int _ _)
  have hfr := fun a (ha : ¬ S a) => (hf0 a ha).trans (hfr a ha)
  have hnx := hn0.trans hnx
  repeat' first | (apply Go.adm; exact rfl) | apply Go.qs | apply Qg.nil | ((first | apply Go.op | apply Go.sop | apply Qg.op); exact rfl; (first | exact rfl | exact aop_iaddrO rfl rfl hni hi' hg0 he0 hel0 | exact aop_storeO rfl rfl hg0 he0 (by omega))) | (apply Go.no; exact rfl)
  obtain ⟨k0, hk0⟩ : ∃ z, ki + 1 = z := ⟨_, rfl⟩
  rw [show IntKind.i64.wrap (ki + 1) = k0 by rw [wrap64 (by omega) (by omega)]; exact hk0]
  obtain ⟨es1, e1, hg1, he1, hel1, hS1, hw1⟩ := hh.wr (j := 1) hi' (Nat.le_of_ble_eq_true rfl)
  have hel1 : e1.length = 5 := hel1
  obtain ⟨hh, hf1, hn1⟩ := hw1 (.int .i64 k0) (.int _ _)
  have hfr := fun a (ha : ¬ S a) => (hf1 a ha).trans (hfr a ha)
  have hnx := hn1.trans hnx
  repeat' first | (apply Go.adm; exact rfl) | apply Go.qs | apply Qg.nil | ((first | apply Go.op | apply Go.sop | apply Qg.op); exact rfl; (first | exact rfl | exact aop_iaddrO rfl rfl hni hi' hg1 he1 hel1 | exact aop_storeO rfl rfl hg1 he1 (by omega))) | (apply Go.no; exact rfl)
  obtain ⟨k1, hk1⟩ : ∃ z, k0 + 1 = z := ⟨_, rfl⟩
  rw [show IntKind.i64.wrap (k0 + 1) = k1 by rw [wrap64 (by omega) (by omega)]; exact hk1]
  obtain ⟨es2, e2, hg2, he2, hel2, hS2, hw2⟩ := hh.wr (j := 2) hi' (Nat.le_of_ble_eq_true rfl)
  have hel2 : e2.length = 5 := hel2
  obtain ⟨hh, hf2, hn2⟩ := hw2 (.int .i64 k1) (.int _ _)
  have hfr := fun a (ha : ¬ S a) => (hf2 a ha).trans (hfr a ha)
  have hnx := hn2.trans hnx
  repeat' first | (apply Go.adm; exact rfl) | apply Go.qs | apply Qg.nil | ((first | apply Go.op | apply Go.sop | apply Qg.op); exact rfl; (first | exact rfl | exact aop_iaddrO rfl rfl hni hi' hg2 he2 hel2 | exact aop_storeO rfl rfl hg2 he2 (by omega))) | (apply Go.no; exact rfl)
  obtain ⟨k2, hk2⟩ : ∃ z, k1 + 1 = z := ⟨_, rfl⟩
  rw [show IntKind.i64.wrap (k1 + 1) = k2 by rw [wrap64 (by omega) (by omega)]; exact hk2]
  obtain ⟨es3, e3, hg3, he3, hel3, hS3, hw3⟩ := hh.wr (j := 3) hi' (Nat.le_of_ble_eq_true rfl)
  have hel3 : e3.length = 5 := hel3
  obtain ⟨hh, hf3, hn3⟩ := hw3 (.int .i64 k2) (.int _ _)
  have hfr := fun a (ha : ¬ S a) => (hf3 a ha).trans (hfr a ha)
  have hnx := hn3.trans hnx
  repeat' first | (apply Go.adm; exact rfl) | apply Go.qs | apply Qg.nil | ((first | apply Go.op | apply Go.sop | apply Qg.op); exact rfl; (first | exact rfl | exact aop_iaddrO rfl rfl hni hi' hg3 he3 hel3 | exact aop_storeO rfl rfl hg3 he3 (by omega))) | (apply Go.no; exact rfl)
  obtain ⟨k3, hk3⟩ : ∃ z, k2 + 1 = z := ⟨_, rfl⟩
  rw [show IntKind.i64.wrap (k2 + 1) = k3 by rw [wrap64 (by omega) (by omega)]; exact hk3]
  obtain ⟨es4, e4, hg4, he4, hel4, hS4, hw4⟩ := hh.wr (j := 4) hi' (Nat.le_of_ble_eq_true rfl)
  have hel4 : e4.length = 5 := hel4
  obtain ⟨hh, hf4, hn4⟩ := hw4 (.str (mText k3)) (.str _)
  have hfr := fun a (ha : ¬ S a) => (hf4 a ha).trans (hfr a ha)
  have hnx := hn4.trans hnx
  repeat' first | (apply Go.adm; exact rfl) | apply Go.qs | apply Qg.nil | ((first | apply Go.op | apply Go.sop | apply Qg.op); exact rfl; (first | exact rfl | exact aop_iaddrO rfl rfl hni hi' hg4 he4 hel4 | exact aop_storeO rfl rfl hg4 he4 (by omega))) | (apply Go.no; exact rfl) | ((first | apply Go.pcall | apply Go.spcall | apply Qg.pcall); (iterate 3 exact rfl); exact markText_ok _ (by omega))
  obtain ⟨k4, hk4⟩ : ∃ z, k3 + 1 = z := ⟨_, rfl⟩
  rw [show IntKind.i64.wrap (k3 + 1) = k4 by rw [wrap64 (by omega) (by omega)]; exact hk4]
  have hkend : k4 = ki + cntTok ys[i] := by simp only [cntTok]; omega
  refine hnext _ _ rfl (congrArg (fun z => some (AV.c (Ce.int .i64 z))) hkend) rfl hnx hfr ?_
  rw [hset]
  subst hk0 hk1 hk2 hk3 hk4
  exact hh
def markChk (a : Chk) (k : Int) : Chk := ⟨markL markTok cntTok a.expr (k)⟩
def cntChk (a : Chk) : Int := 0 + cntL cntTok a.expr
theorem cntChk_nonneg (a : Chk) : 0 ≤ cntChk a := by
  have := cntL_nonneg (c := cntTok) cntTok_nonneg a.expr
  simp only [cntChk]
  omega
theorem cntChk_sz (a : Chk) (l : Int) (h : 0 ≤ l) (hs : 0 ≤ zChk a l) : cntChk a ≤ 8 * (l - zChk a l) + 8 := by
  have := chain_cnt (fs := [(szL zTok a.expr)]) (.cons (c := cntL cntTok a.expr) (fun q h hs => szL_cnt8 zTok_le cntTok_sz a.expr q h hs) .nil) l h hs
  simp only [cntChk]
  simp only [zChk] at hs ⊢
  omega
theorem markChkS_ok (xs : List Chk) (k : Int) (hx : xs.length ≤ 34359738368) (hb : ∀ a ∈ xs, bChk 34359738368 a) (hk0 : 0 ≤ k) (hk : k + cntL cntChk xs ≤ 34359738368) : Marks Tryz.prog 82 (.fz (xs.map encChk)) (.fz ((markL markChk cntChk xs k).map encChk)) k (k + cntL cntChk xs) := by
  refine markS_ok mixed c_laws_markCheckS_ok (Nat.le_of_ble_eq_true rfl) (Nat.le_of_ble_eq_true rfl) encChk markChk cntChk cntChk_nonneg xs k hx hk0 hk ?_
  intro n0 rets R K σ τ S x i ni ki ys hi fr hn0 hyl hni hki0 hki1 h0 h1 h5 hmem hh hnext
  have hi' : i < (ys.map encChk).length := by simpa using hi
  have hyi : (ys.map encChk)[i] = encChk ys[i] := by simp
  have hb := hb _ hmem
  obtain ⟨id, v, c, rfl⟩ := hh.shape hi'
  have hh : Has τ S (.fz ((ys.map encChk).set i (encChk ys[i]))) (.sl id v 0 (ys.map encChk).length c) := by rw [← hyi, List.set_getElem_self]; exact hh
  have hfr : ∀ a, ¬ S a → τ.get a = τ.get a := fun _ _ => rfl
  have hnx : τ.next = τ.next := rfl
  refine .same (look_three h0 h1 h5) ?_
  have hset : ∀ q, (ys.set i q).map encChk = (ys.map encChk).set i (encChk q) := fun q => List.map_set
  have hc0 := cntL_nonneg (c := cntTok) cntTok_nonneg ys[i].expr
  simp only [cntChk] at hki1
  obtain ⟨es0, e0, T0, hg0, he0, hel0, hTS0, hj0, hch0, hback0⟩ := hh.ch (j := 0) (y := .fz (ys[i].expr.map encTok)) hi' (Nat.le_of_ble_eq_true rfl) rfl
  repeat' first | (apply Go.adm; exact rfl) | apply Go.qs | apply Qg.nil | ((first | apply Go.op | apply Go.sop | apply Qg.op); exact rfl; (first | exact rfl | exact aop_iaddrO rfl rfl hni hi' hg0 he0 hel0 | exact aop_loadO rfl hg0 he0 (show 0 + 0 < e0.length by omega))) | (apply Go.no; exact rfl)
  refine Go.call _ rfl rfl rfl ((markTokS_ok ys[i].expr ki hb.1 hb.2 (by omega) (by omega)).at_ _ T0 _ hch0) ?_
  rintro r τ0 ⟨rfl, hn0, hf0, hhc0⟩
  have hh := hback0 τ0 _ hf0 hhc0
  have hfr := fun a (ha : ¬ S a) => (hf0 a (fun h => ha (hTS0 a h))).trans (hfr a ha)
  have hnx := hn0.trans hnx
  obtain ⟨k0, hk0⟩ : ∃ z, ki + cntL cntTok ys[i].expr = z := ⟨_, rfl⟩
  rw [hk0]
  clear hg0 he0 hel0 hch0 hback0 hf0 hn0 hhc0
  repeat' first | (apply Go.adm; exact rfl) | apply Go.qs | apply Qg.nil | ((first | apply Go.op | apply Go.sop | apply Qg.op); exact rfl; (first | exact rfl)) | (apply Go.no; exact rfl)
  have hkend : k0 = ki + cntChk ys[i] := by simp only [cntChk]; omega
  refine hnext _ _ rfl (congrArg (fun z => some (AV.c (Ce.int .i64 z))) hkend) rfl hnx hfr ?_
  rw [hset]
  subst hk0
  exact hh
def markUniq (a : Uniq) (k : Int) : Uniq := ⟨markL markI (fun _ => 1) a.cols (k)⟩
def cntUniq (a : Uniq) : Int := 0 + cntL (fun _ => 1) a.cols
theorem cntUniq_nonneg (a : Uniq) : 0 ≤ cntUniq a := by
  have := cntL_nonneg (c := (fun _ => 1)) (fun _ => by decide) a.cols
  simp only [cntUniq]
  omega
theorem cntUniq_sz (a : Uniq) (l : Int) (h : 0 ≤ l) (hs : 0 ≤ zUniq a l) : cntUniq a ≤ 8 * (l - zUniq a l) + 8 := by
  have := chain_cnt (fs := [(zI a.cols)]) (.cons (c := cntL (fun _ => 1) a.cols) (cnt_ints a.cols) .nil) l h hs
  simp only [cntUniq]
  simp only [zUniq] at hs ⊢
  omega
theorem markUniqS_ok (xs : List Uniq) (k : Int) (hx : xs.length ≤ 34359738368) (hb : ∀ a ∈ xs, bUniq 34359738368 a) (hk0 : 0 ≤ k) (hk : k + cntL cntUniq xs ≤ 34359738368) : Marks Tryz.prog 81 (.fz (xs.map encUniq)) (.fz ((markL markUniq cntUniq xs k).map encUniq)) k (k + cntL cntUniq xs) := by
  refine markS_ok mixed c_laws_markUniqueS_ok (Nat.le_of_ble_eq_true rfl) (Nat.le_of_ble_eq_true rfl) encUniq markUniq cntUniq cntUniq_nonneg xs k hx hk0 hk ?_
  intro n0 rets R K σ τ S x i ni ki ys hi fr hn0 hyl hni hki0 hki1 h0 h1 h5 hmem hh hnext
  have hi' : i < (ys.map encUniq).length := by simpa using hi
  have hyi : (ys.map encUniq)[i] = encUniq ys[i] := by simp
  have hb := hb _ hmem
  obtain ⟨id, v, c, rfl⟩ := hh.shape hi'
  have hh : Has τ S (.fz ((ys.map encUniq).set i (encUniq ys[i]))) (.sl id v 0 (ys.map encUniq).length c) := by rw [← hyi, List.set_getElem_self]; exact hh
  have hfr : ∀ a, ¬ S a → τ.get a = τ.get a := fun _ _ => rfl
  have hnx : τ.next = τ.next := rfl
  refine .same (look_three h0 h1 h5) ?_
  have hset : ∀ q, (ys.set i q).map encUniq = (ys.map encUniq).set i (encUniq q) := fun q => List.map_set
  have hc0 := cntL_nonneg (c := (fun _ => 1)) (fun _ => by decide) ys[i].cols
  simp only [cntUniq] at hki1
  obtain ⟨es0, e0, T0, hg0, he0, hel0, hTS0, hj0, hch0, hback0⟩ := hh.ch (j := 0) (y := .fz (ys[i].cols.map encI)) hi' (Nat.le_of_ble_eq_true rfl) rfl
  repeat' first | (apply Go.adm; exact rfl) | apply Go.qs | apply Qg.nil | ((first | apply Go.op | apply Go.sop | apply Qg.op); exact rfl; (first | exact rfl | exact aop_iaddrO rfl rfl hni hi' hg0 he0 hel0 | exact aop_loadO rfl hg0 he0 (show 0 + 0 < e0.length by omega))) | (apply Go.no; exact rfl)
  refine Go.call _ rfl rfl rfl ((markInt64S_ok ys[i].cols ki hb  (by omega) (by omega)).at_ _ T0 _ hch0) ?_
  rintro r τ0 ⟨rfl, hn0, hf0, hhc0⟩
  have hh := hback0 τ0 _ hf0 hhc0
  have hfr := fun a (ha : ¬ S a) => (hf0 a (fun h => ha (hTS0 a h))).trans (hfr a ha)
  have hnx := hn0.trans hnx
  obtain ⟨k0, hk0⟩ : ∃ z, ki + cntL (fun _ => 1) ys[i].cols = z := ⟨_, rfl⟩
  rw [hk0]
  clear hg0 he0 hel0 hch0 hback0 hf0 hn0 hhc0
  repeat' first | (apply Go.adm; exact rfl) | apply Go.qs | apply Qg.nil | ((first | apply Go.op | apply Go.sop | apply Qg.op); exact rfl; (first | exact rfl)) | (apply Go.no; exact rfl)
  have hkend : k0 = ki + cntUniq ys[i] := by simp only [cntUniq]; omega
  refine hnext _ _ rfl (congrArg (fun z => some (AV.c (Ce.int .i64 z))) hkend) rfl hnx hfr ?_
  rw [hset]
  subst hk0
  exact hh
def markFk (a : Fk) (k : Int) : Fk := ⟨markL markI (fun _ => 1) a.cols (k), mText (k + cntL (fun _ => 1) a.cols), k + cntL (fun _ => 1) a.cols + 1, k + cntL (fun _ => 1) a.cols + 1 + 1, (k + cntL (fun _ => 1) a.cols + 1 + 1 + 1).tmod 3 == 0⟩
def cntFk (a : Fk) : Int := 4 + cntL (fun _ => 1) a.cols
theorem cntFk_nonneg (a : Fk) : 0 ≤ cntFk a := by
  have := cntL_nonneg (c := (fun _ => 1)) (fun _ => by decide) a.cols
  simp only [cntFk]
  omega
theorem cntFk_sz (a : Fk) (l : Int) (h : 0 ≤ l) (hs : 0 ≤ zFk a l) : cntFk a ≤ 8 * (l - zFk a l) + 8 := by
  have := chain_cnt (fs := [(zI a.cols), (fun l => l - a.table.length)]) (.cons (c := cntL (fun _ => 1) a.cols) (cnt_ints a.cols) (.cons (c := 0) (cnt_str a.table) .nil)) l h hs
  simp only [cntFk]
  simp only [zFk] at hs ⊢
  omega
theorem markFkS_ok (xs : List Fk) (k : Int) (hx : xs.length ≤ 34359738368) (hb : ∀ a ∈ xs, bFk 34359738368 a) (hk0 : 0 ≤ k) (hk : k + cntL cntFk xs ≤ 34359738368) : Marks Tryz.prog 83 (.fz (xs.map encFk)) (.fz ((markL markFk cntFk xs k).map encFk)) k (k + cntL cntFk xs) := by
  refine markS_ok mixed c_laws_markFkS_ok (Nat.le_of_ble_eq_true rfl) (Nat.le_of_ble_eq_true rfl) encFk markFk cntFk cntFk_nonneg xs k hx hk0 hk ?_
  intro n0 rets R K σ τ S x i ni ki ys hi fr hn0 hyl hni hki0 hki1 h0 h1 h5 hmem hh hnext
  have hi' : i < (ys.map encFk).length := by simpa using hi
  have hyi : (ys.map encFk)[i] = encFk ys[i] := by simp
  have hb := hb _ hmem
  obtain ⟨id, v, c, rfl⟩ := hh.shape hi'
  have hh : Has τ S (.fz ((ys.map encFk).set i (encFk ys[i]))) (.sl id v 0 (ys.map encFk).length c) := by rw [← hyi, List.set_getElem_self]; exact hh
  have hfr : ∀ a, ¬ S a → τ.get a = τ.get a := fun _ _ => rfl
  have hnx : τ.next = τ.next := rfl
  refine .same (look_three h0 h1 h5) ?_
  have hset : ∀ q, (ys.set i q).map encFk = (ys.map encFk).set i (encFk q) := fun q => List.map_set
  have hc0 := cntL_nonneg (c := (fun _ => 1)) (fun _ => by decide) ys[i].cols
  simp only [cntFk] at hki1
  obtain ⟨es0, e0, T0, hg0, he0, hel0, hTS0, hj0, hch0, hback0⟩ := hh.ch (j := 0) (y := .fz (ys[i].cols.map encI)) hi' (Nat.le_of_ble_eq_true rfl) rfl
  repeat' first | (apply Go.adm; exact rfl) | apply Go.qs | apply Qg.nil | ((first | apply Go.op | apply Go.sop | apply Qg.op); exact rfl; (first | exact rfl | exact aop_iaddrO rfl rfl hni hi' hg0 he0 hel0 | exact aop_loadO rfl hg0 he0 (show 0 + 0 < e0.length by omega))) | (apply Go.no; exact rfl)
  refine Go.call _ rfl rfl rfl ((markInt64S_ok ys[i].cols ki hb.1  (by omega) (by omega)).at_ _ T0 _ hch0) ?_
  rintro r τ0 ⟨rfl, hn0, hf0, hhc0⟩
  have hh := hback0 τ0 _ hf0 hhc0
  have hfr := fun a (ha : ¬ S a) => (hf0 a (fun h => ha (hTS0 a h))).trans (hfr a ha)
  have hnx := hn0.trans hnx
  obtain ⟨k0, hk0⟩ : ∃ z, ki + cntL (fun _ => 1) ys[i].cols = z := ⟨_, rfl⟩
  rw [hk0]
  clear hg0 he0 hel0 hch0 hback0 hf0 hn0 hhc0
  obtain ⟨es1, e1, hg1, he1, hel1, hS1, hw1⟩ := hh.wr (j := 1) hi' (Nat.le_of_ble_eq_true rfl)
  have hel1 : e1.length = 5 := hel1
  obtain ⟨hh, hf1, hn1⟩ := hw1 (.str (mText k0)) (.str _)
  have hfr := fun a (ha : ¬ S a) => (hf1 a ha).trans (hfr a ha)
  have hnx := hn1.trans hnx
  repeat' first | (apply Go.adm; exact rfl) | apply Go.qs | apply Qg.nil | ((first | apply Go.op | apply Go.sop | apply Qg.op); exact rfl; (first | exact rfl | exact aop_iaddrO rfl rfl hni hi' hg1 he1 hel1 | exact aop_storeO rfl rfl hg1 he1 (by omega))) | (apply Go.no; exact rfl) | ((first | apply Go.pcall | apply Go.spcall | apply Qg.pcall); (iterate 3 exact rfl); exact markText_ok _ (by omega))
  obtain ⟨k1, hk1⟩ : ∃ z, k0 + 1 = z := ⟨_, rfl⟩
  rw [show IntKind.i64.wrap (k0 + 1) = k1 by rw [wrap64 (by omega) (by omega)]; exact hk1]
  obtain ⟨es2, e2, hg2, he2, hel2, hS2, hw2⟩ := hh.wr (j := 2) hi' (Nat.le_of_ble_eq_true rfl)
  have hel2 : e2.length = 5 := hel2
  obtain ⟨hh, hf2, hn2⟩ := hw2 (.int .i64 k1) (.int _ _)
  have hfr := fun a (ha : ¬ S a) => (hf2 a ha).trans (hfr a ha)
  have hnx := hn2.trans hnx
  repeat' first | (apply Go.adm; exact rfl) | apply Go.qs | apply Qg.nil | ((first | apply Go.op | apply Go.sop | apply Qg.op); exact rfl; (first | exact rfl | exact aop_iaddrO rfl rfl hni hi' hg2 he2 hel2 | exact aop_storeO rfl rfl hg2 he2 (by omega))) | (apply Go.no; exact rfl)
  obtain ⟨k2, hk2⟩ : ∃ z, k1 + 1 = z := ⟨_, rfl⟩
  rw [show IntKind.i64.wrap (k1 + 1) = k2 by rw [wrap64 (by omega) (by omega)]; exact hk2]
  obtain ⟨es3, e3, hg3, he3, hel3, hS3, hw3⟩ := hh.wr (j := 3) hi' (Nat.le_of_ble_eq_true rfl)
  have hel3 : e3.length = 5 := hel3
  obtain ⟨hh, hf3, hn3⟩ := hw3 (.int .i64 k2) (.int _ _)
  have hfr := fun a (ha : ¬ S a) => (hf3 a ha).trans (hfr a ha)
  have hnx := hn3.trans hnx
  repeat' first | (apply Go.adm; exact rfl) | apply Go.qs | apply Qg.nil | ((first | apply Go.op | apply Go.sop | apply Qg.op); exact rfl; (first | exact rfl | exact aop_iaddrO rfl rfl hni hi' hg3 he3 hel3 | exact aop_storeO rfl rfl hg3 he3 (by omega))) | (apply Go.no; exact rfl)
  obtain ⟨k3, hk3⟩ : ∃ z, k2 + 1 = z := ⟨_, rfl⟩
  rw [show IntKind.i64.wrap (k2 + 1) = k3 by rw [wrap64 (by omega) (by omega)]; exact hk3]
  obtain ⟨es4, e4, hg4, he4, hel4, hS4, hw4⟩ := hh.wr (j := 4) hi' (Nat.le_of_ble_eq_true rfl)
  have hel4 : e4.length = 5 := hel4
  obtain ⟨hh, hf4, hn4⟩ := hw4 (.bool ((k3).tmod 3 == 0)) (.bool _)
  have hfr := fun a (ha : ¬ S a) => (hf4 a ha).trans (hfr a ha)
  have hnx := hn4.trans hnx
  repeat' first | (apply Go.adm; exact rfl) | apply Go.qs | apply Qg.nil | ((first | apply Go.op | apply Go.sop | apply Qg.op); exact rfl; (first | exact rfl | exact aop_iaddrO rfl rfl hni hi' hg4 he4 hel4 | exact aop_storeO rfl rfl hg4 he4 (by omega) | exact aop_rem rfl rfl (by decide))) | (apply Go.no; exact rfl)
  obtain ⟨k4, hk4⟩ : ∃ z, k3 + 1 = z := ⟨_, rfl⟩
  rw [show IntKind.i64.wrap (k3 + 1) = k4 by rw [wrap64 (by omega) (by omega)]; exact hk4]
  have hkend : k4 = ki + cntFk ys[i] := by simp only [cntFk]; omega
  refine hnext _ _ rfl (congrArg (fun z => some (AV.c (Ce.int .i64 z))) hkend) rfl hnx hfr ?_
  rw [hset]
  subst hk0 hk1 hk2 hk3 hk4
  exact hh
def markCol (a : Col) (k : Int) : Col := ⟨mText (k), k + 1, (k + 1 + 1).tmod 3 == 0, ⟨k + 1 + 1 + 1, k + 1 + 1 + 1 + 1, mText (k + 1 + 1 + 1 + 1 + 1)⟩⟩
def cntCol (a : Col) : Int := 6
theorem cntCol_nonneg (a : Col) : 0 ≤ cntCol a := by
  simp only [cntCol]
  omega
theorem cntCol_sz (a : Col) (l : Int) (h : 0 ≤ l) (hs : 0 ≤ zCol a l) : cntCol a ≤ 8 * (l - zCol a l) + 8 := by
  have := chain_cnt (fs := [(fun l => l - a.name.length), (szV a.dflt)]) (.cons (c := 0) (cnt_str a.name) (.cons (c := 0) (fun q h hs => by have := szV_le a.dflt q h; omega) .nil)) l h hs
  simp only [cntCol]
  simp only [zCol] at hs ⊢
  omega
theorem markColS_ok (xs : List Col) (k : Int) (hx : xs.length ≤ 34359738368) (hb : ∀ a ∈ xs, bCol 34359738368 a) (hk0 : 0 ≤ k) (hk : k + cntL cntCol xs ≤ 34359738368) : Marks Tryz.prog 80 (.fz (xs.map encCol)) (.fz ((markL markCol cntCol xs k).map encCol)) k (k + cntL cntCol xs) := by
  refine markS_ok mixed c_laws_markColS_ok (Nat.le_of_ble_eq_true rfl) (Nat.le_of_ble_eq_true rfl) encCol markCol cntCol cntCol_nonneg xs k hx hk0 hk ?_
  intro n0 rets R K σ τ S x i ni ki ys hi fr hn0 hyl hni hki0 hki1 h0 h1 h5 hmem hh hnext
  have hi' : i < (ys.map encCol).length := by simpa using hi
  have hyi : (ys.map encCol)[i] = encCol ys[i] := by simp
  have hb := hb _ hmem
  obtain ⟨id, v, c, rfl⟩ := hh.shape hi'
  have hh : Has τ S (.fz ((ys.map encCol).set i (encCol ys[i]))) (.sl id v 0 (ys.map encCol).length c) := by rw [← hyi, List.set_getElem_self]; exact hh
  have hfr : ∀ a, ¬ S a → τ.get a = τ.get a := fun _ _ => rfl
  have hnx : τ.next = τ.next := rfl
  refine .same (look_three h0 h1 h5) ?_
  have hset : ∀ q, (ys.set i q).map encCol = (ys.map encCol).set i (encCol q) := fun q => List.map_set
  simp only [cntCol] at hki1
  obtain ⟨es0, e0, hg0, he0, hel0, hS0, hw0⟩ := hh.wr (j := 0) hi' (Nat.le_of_ble_eq_true rfl)
  have hel0 : e0.length = 6 := hel0
  obtain ⟨hh, hf0, hn0⟩ := hw0 (.str (mText ki)) (.str _)
  have hfr := fun a (ha : ¬ S a) => (hf0 a ha).trans (hfr a ha)
  have hnx := hn0.trans hnx
  repeat' first | (apply Go.adm; exact rfl) | apply Go.qs | apply Qg.nil | ((first | apply Go.op | apply Go.sop | apply Qg.op); exact rfl; (first | exact rfl | exact aop_iaddrO rfl rfl hni hi' hg0 he0 hel0 | exact aop_storeO rfl rfl hg0 he0 (by omega))) | (apply Go.no; exact rfl) | ((first | apply Go.pcall | apply Go.spcall | apply Qg.pcall); (iterate 3 exact rfl); exact markText_ok _ (by omega))
  obtain ⟨k0, hk0⟩ : ∃ z, ki + 1 = z := ⟨_, rfl⟩
  rw [show IntKind.i64.wrap (ki + 1) = k0 by rw [wrap64 (by omega) (by omega)]; exact hk0]
  obtain ⟨es1, e1, hg1, he1, hel1, hS1, hw1⟩ := hh.wr (j := 1) hi' (Nat.le_of_ble_eq_true rfl)
  have hel1 : e1.length = 6 := hel1
  obtain ⟨hh, hf1, hn1⟩ := hw1 (.int .i64 k0) (.int _ _)
  have hfr := fun a (ha : ¬ S a) => (hf1 a ha).trans (hfr a ha)
  have hnx := hn1.trans hnx
  repeat' first | (apply Go.adm; exact rfl) | apply Go.qs | apply Qg.nil | ((first | apply Go.op | apply Go.sop | apply Qg.op); exact rfl; (first | exact rfl | exact aop_iaddrO rfl rfl hni hi' hg1 he1 hel1 | exact aop_storeO rfl rfl hg1 he1 (by omega))) | (apply Go.no; exact rfl)
  obtain ⟨k1, hk1⟩ : ∃ z, k0 + 1 = z := ⟨_, rfl⟩
  rw [show IntKind.i64.wrap (k0 + 1) = k1 by rw [wrap64 (by omega) (by omega)]; exact hk1]
  obtain ⟨es2, e2, hg2, he2, hel2, hS2, hw2⟩ := hh.wr (j := 2) hi' (Nat.le_of_ble_eq_true rfl)
  have hel2 : e2.length = 6 := hel2
  obtain ⟨hh, hf2, hn2⟩ := hw2 (.bool ((k1).tmod 3 == 0)) (.bool _)
  have hfr := fun a (ha : ¬ S a) => (hf2 a ha).trans (hfr a ha)
  have hnx := hn2.trans hnx
  repeat' first | (apply Go.adm; exact rfl) | apply Go.qs | apply Qg.nil | ((first | apply Go.op | apply Go.sop | apply Qg.op); exact rfl; (first | exact rfl | exact aop_iaddrO rfl rfl hni hi' hg2 he2 hel2 | exact aop_storeO rfl rfl hg2 he2 (by omega) | exact aop_rem rfl rfl (by decide))) | (apply Go.no; exact rfl)
  obtain ⟨k2, hk2⟩ : ∃ z, k1 + 1 = z := ⟨_, rfl⟩
  rw [show IntKind.i64.wrap (k1 + 1) = k2 by rw [wrap64 (by omega) (by omega)]; exact hk2]
  obtain ⟨es3, e3, hg3, he3, hel3, hS3, hw3⟩ := hh.wr (j := 3) hi' (Nat.le_of_ble_eq_true rfl)
  have hel3 : e3.length = 6 := hel3
  obtain ⟨hh, hf3, hn3⟩ := hw3 (.int .i64 k2) (.int _ _)
  have hfr := fun a (ha : ¬ S a) => (hf3 a ha).trans (hfr a ha)
  have hnx := hn3.trans hnx
  repeat' first | (apply Go.adm; exact rfl) | apply Go.qs | apply Qg.nil | ((first | apply Go.op | apply Go.sop | apply Qg.op); exact rfl; (first | exact rfl | exact aop_iaddrO rfl rfl hni hi' hg3 he3 hel3 | exact aop_storeO rfl rfl hg3 he3 (by omega))) | (apply Go.no; exact rfl)
  obtain ⟨k3, hk3⟩ : ∃ z, k2 + 1 = z := ⟨_, rfl⟩
  rw [show IntKind.i64.wrap (k2 + 1) = k3 by rw [wrap64 (by omega) (by omega)]; exact hk3]
  obtain ⟨es4, e4, hg4, he4, hel4, hS4, hw4⟩ := hh.wr (j := 4) hi' (Nat.le_of_ble_eq_true rfl)
  have hel4 : e4.length = 6 := hel4
  obtain ⟨hh, hf4, hn4⟩ := hw4 (.int .i64 k3) (.int _ _)
  have hfr := fun a (ha : ¬ S a) => (hf4 a ha).trans (hfr a ha)
  have hnx := hn4.trans hnx
  repeat' first | (apply Go.adm; exact rfl) | apply Go.qs | apply Qg.nil | ((first | apply Go.op | apply Go.sop | apply Qg.op); exact rfl; (first | exact rfl | exact aop_iaddrO rfl rfl hni hi' hg4 he4 hel4 | exact aop_storeO rfl rfl hg4 he4 (by omega))) | (apply Go.no; exact rfl)
  obtain ⟨k4, hk4⟩ : ∃ z, k3 + 1 = z := ⟨_, rfl⟩
  rw [show IntKind.i64.wrap (k3 + 1) = k4 by rw [wrap64 (by omega) (by omega)]; exact hk4]
  obtain ⟨es5, e5, hg5, he5, hel5, hS5, hw5⟩ := hh.wr (j := 5) hi' (Nat.le_of_ble_eq_true rfl)
  have hel5 : e5.length = 6 := hel5
  obtain ⟨hh, hf5, hn5⟩ := hw5 (.str (mText k4)) (.str _)
  have hfr := fun a (ha : ¬ S a) => (hf5 a ha).trans (hfr a ha)
  have hnx := hn5.trans hnx
  repeat' first | (apply Go.adm; exact rfl) | apply Go.qs | apply Qg.nil | ((first | apply Go.op | apply Go.sop | apply Qg.op); exact rfl; (first | exact rfl | exact aop_iaddrO rfl rfl hni hi' hg5 he5 hel5 | exact aop_storeO rfl rfl hg5 he5 (by omega))) | (apply Go.no; exact rfl) | ((first | apply Go.pcall | apply Go.spcall | apply Qg.pcall); (iterate 3 exact rfl); exact markText_ok _ (by omega))
  obtain ⟨k5, hk5⟩ : ∃ z, k4 + 1 = z := ⟨_, rfl⟩
  rw [show IntKind.i64.wrap (k4 + 1) = k5 by rw [wrap64 (by omega) (by omega)]; exact hk5]
  have hkend : k5 = ki + cntCol ys[i] := by simp only [cntCol]; omega
  refine hnext _ _ rfl (congrArg (fun z => some (AV.c (Ce.int .i64 z))) hkend) rfl hnx hfr ?_
  rw [hset]
  subst hk0 hk1 hk2 hk3 hk4 hk5
  exact hh
end Go.Proofs.YtcfpdongfdhgjaaGreat.Am

/- The laws' helpers on types, printed by a program: Table, Term, Select, Trigger. -/
set_option linter.unusedVariables false
set_option linter.unusedSimpArgs false
namespace Go.Proofs.YtcfpdongfdhgjaaGreat.Am
structure Table where
  name : List UInt8
  cols : List Col
  key : List Int
  uniques : List Uniq
  checks : List Chk
  fks : List Fk
  deriving DecidableEq
def encTable (a : Table) : List Ce := [.str a.name, .fz (a.cols.map encCol), .fz (a.key.map encI), .fz (a.uniques.map encUniq), .fz (a.checks.map encChk), .fz (a.fks.map encFk)]
def bTable (N : Nat) (a : Table) : Prop := a.name.length ≤ N ∧ (a.cols.length ≤ N ∧ ∀ x ∈ a.cols, bCol N x) ∧ a.key.length ≤ N ∧ (a.uniques.length ≤ N ∧ ∀ x ∈ a.uniques, bUniq N x) ∧ (a.checks.length ≤ N ∧ ∀ x ∈ a.checks, bChk N x) ∧ (a.fks.length ≤ N ∧ ∀ x ∈ a.fks, bFk N x)
def zTable (a : Table) : Int → Int := chain [(fun l => l - a.name.length), (szL zCol a.cols), (zI a.key), (szL zUniq a.uniques), (szL zChk a.checks), (szL zFk a.fks)]
theorem zTable_steps (a : Table) : Steps [(fun l => l - a.name.length), (szL zCol a.cols), (zI a.key), (szL zUniq a.uniques), (szL zChk a.checks), (szL zFk a.fks)] := (.cons (step_str _) (.cons (fun l h => szL_le zCol_le _ l h) (.cons (step_ints _) (.cons (fun l h => szL_le zUniq_le _ l h) (.cons (fun l h => szL_le zChk_le _ l h) (.cons (fun l h => szL_le zFk_le _ l h) .nil))))))
theorem zTable_le (a : Table) (l : Int) (h : 0 ≤ l) : zTable a l ≤ l := chain_le (zTable_steps a) l h
theorem bTable_of (a : Table) (l : Int) (N : Nat) (h0 : 0 ≤ l) (h : 0 ≤ zTable a l) (hl : l ≤ N) : bTable N a := by
  have hh := chain_all (zTable_steps a) l h0 h
  obtain ⟨q0, u0, v0, w0⟩ := hh (fun l => l - a.name.length) (by simp)
  obtain ⟨q1, u1, v1, w1⟩ := hh (szL zCol a.cols) (by simp)
  obtain ⟨q2, u2, v2, w2⟩ := hh (zI a.key) (by simp)
  obtain ⟨q3, u3, v3, w3⟩ := hh (szL zUniq a.uniques) (by simp)
  obtain ⟨q4, u4, v4, w4⟩ := hh (szL zChk a.checks) (by simp)
  obtain ⟨q5, u5, v5, w5⟩ := hh (szL zFk a.fks) (by simp)
  exact ⟨(by (try simp only at w0); omega), (list_of zCol_le bCol_of u1 w1 (by omega)), (ints_of w2 (by omega)), (list_of zUniq_le bUniq_of u3 w3 (by omega)), (list_of zChk_le bChk_of u4 w4 (by omega)), (list_of zFk_le bFk_of u5 w5 (by omega))⟩
theorem szTable_ok (a : Table) (left : Int) (hb : bTable 1125899906842624 a) (h0 : 0 ≤ left) (h1 : left ≤ 34359738368) : Pure Tryz.prog 71 [.agg (encTable a), .c (.int .i64 left)] (.c (.int .i64 (zTable a left))) := by
  refine Pure.run mixed c_laws_szTable_ok (Nat.le_of_ble_eq_true rfl) fun σ hS hA => ?_
  clear hS hA
  have w1 : 0 ≤ left → IntKind.i64.wrap (left - a.name.length) = left - a.name.length := fun h => wrap64 (by have : a.name.length ≤ 1125899906842624 := hb.1; omega) (by omega)
  repeat' first | (apply Go.adm; exact rfl) | apply Go.qs | apply Qg.nil | ((first | apply Go.v2 | apply Go.v1); (first | exact leAdd | assumption); iterate 6 exact rfl) | ((first | apply Go.op | apply Go.sop | apply Qg.op); exact rfl; (first | exact aop_alloc | exact aop_new rfl rfl | exact aop_mksl rfl | exact aop_lenM rfl | exact rfl | exact aL rfl rfl rfl rfl rfl | exact aS rfl rfl rfl rfl rfl rfl rfl)) | ((first | apply Go.no | apply Go.sno | apply Qg.no); exact rfl) | (exfalso; omega) | (((first | apply Go.iQ | apply Go.gQ | apply Go.sQ | apply Qg.gQ); exact rfl; (first | exact .d | exact .e | exact .n | ((fail_if_success exact bqt); (fail_if_success exact bqf); exact .b))) <;> intro _)
  · refine .ret rfl (.int ?_)
    rename_i h
    have v1 := w1 (by omega)
    simp only [v1] at h
    simp only [zTable, chain, if_pos h]
  rename_i g1
  have v1 := w1 (by omega)
  simp only [v1] at g1 ⊢
  obtain ⟨l1, e1⟩ : ∃ q, left - (a.name.length : Int) = q := ⟨_, rfl⟩
  rw [e1] at g1 ⊢
  refine .pcall rfl rfl rfl (szColS_ok a.cols l1 hb.2.1.1 hb.2.1.2 (by omega) (by omega)) ?_
  have y2 := szL_le zCol_le a.cols l1 (by omega)
  generalize e2 : szL zCol a.cols l1 = l2 at y2 ⊢
  repeat' first | (apply Go.adm; exact rfl) | apply Go.qs | apply Qg.nil | ((first | apply Go.v2 | apply Go.v1); (first | exact leAdd | assumption); iterate 6 exact rfl) | ((first | apply Go.op | apply Go.sop | apply Qg.op); exact rfl; (first | exact aop_alloc | exact aop_new rfl rfl | exact aop_mksl rfl | exact aop_lenM rfl | exact rfl | exact aL rfl rfl rfl rfl rfl | exact aS rfl rfl rfl rfl rfl rfl rfl)) | ((first | apply Go.no | apply Go.sno | apply Qg.no); exact rfl) | (exfalso; omega) | (((first | apply Go.iQ | apply Go.gQ | apply Go.sQ | apply Qg.gQ); exact rfl; (first | exact .d | exact .e | exact .n | ((fail_if_success exact bqt); (fail_if_success exact bqf); exact .b))) <;> intro _)
  · refine .ret rfl (.int ?_)
    rename_i h
    simp only [zTable, chain, e1, if_neg g1, e2, if_pos h]
  rename_i g2
  refine .pcall rfl rfl rfl (szInt64S_ok a.key l2 hb.2.2.1 (by omega) (by omega)) ?_
  have y3 := step_ints a.key l2 (by omega)
  generalize e3 : zI a.key l2 = l3 at y3 ⊢
  repeat' first | (apply Go.adm; exact rfl) | apply Go.qs | apply Qg.nil | ((first | apply Go.v2 | apply Go.v1); (first | exact leAdd | assumption); iterate 6 exact rfl) | ((first | apply Go.op | apply Go.sop | apply Qg.op); exact rfl; (first | exact aop_alloc | exact aop_new rfl rfl | exact aop_mksl rfl | exact aop_lenM rfl | exact rfl | exact aL rfl rfl rfl rfl rfl | exact aS rfl rfl rfl rfl rfl rfl rfl)) | ((first | apply Go.no | apply Go.sno | apply Qg.no); exact rfl) | (exfalso; omega) | (((first | apply Go.iQ | apply Go.gQ | apply Go.sQ | apply Qg.gQ); exact rfl; (first | exact .d | exact .e | exact .n | ((fail_if_success exact bqt); (fail_if_success exact bqf); exact .b))) <;> intro _)
  · refine .ret rfl (.int ?_)
    rename_i h
    simp only [zTable, chain, e1, if_neg g1, e2, if_neg g2, e3, if_pos h]
  rename_i g3
  refine .pcall rfl rfl rfl (szUniqS_ok a.uniques l3 hb.2.2.2.1.1 hb.2.2.2.1.2 (by omega) (by omega)) ?_
  have y4 := szL_le zUniq_le a.uniques l3 (by omega)
  generalize e4 : szL zUniq a.uniques l3 = l4 at y4 ⊢
  repeat' first | (apply Go.adm; exact rfl) | apply Go.qs | apply Qg.nil | ((first | apply Go.v2 | apply Go.v1); (first | exact leAdd | assumption); iterate 6 exact rfl) | ((first | apply Go.op | apply Go.sop | apply Qg.op); exact rfl; (first | exact aop_alloc | exact aop_new rfl rfl | exact aop_mksl rfl | exact aop_lenM rfl | exact rfl | exact aL rfl rfl rfl rfl rfl | exact aS rfl rfl rfl rfl rfl rfl rfl)) | ((first | apply Go.no | apply Go.sno | apply Qg.no); exact rfl) | (exfalso; omega) | (((first | apply Go.iQ | apply Go.gQ | apply Go.sQ | apply Qg.gQ); exact rfl; (first | exact .d | exact .e | exact .n | ((fail_if_success exact bqt); (fail_if_success exact bqf); exact .b))) <;> intro _)
  · refine .ret rfl (.int ?_)
    rename_i h
    simp only [zTable, chain, e1, if_neg g1, e2, if_neg g2, e3, if_neg g3, e4, if_pos h]
  rename_i g4
  refine .pcall rfl rfl rfl (szChkS_ok a.checks l4 hb.2.2.2.2.1.1 hb.2.2.2.2.1.2 (by omega) (by omega)) ?_
  have y5 := szL_le zChk_le a.checks l4 (by omega)
  generalize e5 : szL zChk a.checks l4 = l5 at y5 ⊢
  repeat' first | (apply Go.adm; exact rfl) | apply Go.qs | apply Qg.nil | ((first | apply Go.v2 | apply Go.v1); (first | exact leAdd | assumption); iterate 6 exact rfl) | ((first | apply Go.op | apply Go.sop | apply Qg.op); exact rfl; (first | exact aop_alloc | exact aop_new rfl rfl | exact aop_mksl rfl | exact aop_lenM rfl | exact rfl | exact aL rfl rfl rfl rfl rfl | exact aS rfl rfl rfl rfl rfl rfl rfl)) | ((first | apply Go.no | apply Go.sno | apply Qg.no); exact rfl) | (exfalso; omega) | (((first | apply Go.iQ | apply Go.gQ | apply Go.sQ | apply Qg.gQ); exact rfl; (first | exact .d | exact .e | exact .n | ((fail_if_success exact bqt); (fail_if_success exact bqf); exact .b))) <;> intro _)
  · refine .ret rfl (.int ?_)
    rename_i h
    simp only [zTable, chain, e1, if_neg g1, e2, if_neg g2, e3, if_neg g3, e4, if_neg g4, e5, if_pos h]
  rename_i g5
  refine .pcall rfl rfl rfl (szFkS_ok a.fks l5 hb.2.2.2.2.2.1 hb.2.2.2.2.2.2 (by omega) (by omega)) ?_
  have y6 := szL_le zFk_le a.fks l5 (by omega)
  generalize e6 : szL zFk a.fks l5 = l6 at y6 ⊢
  repeat' first | (apply Go.adm; exact rfl) | apply Go.qs | apply Qg.nil | ((first | apply Go.v2 | apply Go.v1); (first | exact leAdd | assumption); iterate 6 exact rfl) | ((first | apply Go.op | apply Go.sop | apply Qg.op); exact rfl; (first | exact aop_alloc | exact aop_new rfl rfl | exact aop_mksl rfl | exact aop_lenM rfl | exact rfl | exact aL rfl rfl rfl rfl rfl | exact aS rfl rfl rfl rfl rfl rfl rfl)) | ((first | apply Go.no | apply Go.sno | apply Qg.no); exact rfl) | (exfalso; omega) | (((first | apply Go.iQ | apply Go.gQ | apply Go.sQ | apply Qg.gQ); exact rfl; (first | exact .d | exact .e | exact .n | ((fail_if_success exact bqt); (fail_if_success exact bqf); exact .b))) <;> intro _)
  · refine .ret rfl (.int ?_)
    rename_i h
    simp only [zTable, chain, e1, if_neg g1, e2, if_neg g2, e3, if_neg g3, e4, if_neg g4, e5, if_neg g5, e6, if_pos h]
  rename_i g6
  refine .ret rfl (.int ?_)
  simp only [zTable, chain, e1, if_neg g1, e2, if_neg g2, e3, if_neg g3, e4, if_neg g4, e5, if_neg g5, e6, if_neg g6]
theorem szTableS_ok (xs : List Table) (left : Int) (hx : xs.length ≤ 1125899906842624) (hv : ∀ e ∈ xs, bTable 1125899906842624 e) (h0 : 0 ≤ left) (h1 : left ≤ 34359738368) : Pure Tryz.prog 12 [.c (.fz (xs.map encTable)), .c (.int .i64 left)] (.c (.int .i64 (szL zTable xs left))) :=
  szS_ok mixed c_laws_szTableS_ok encTable zTable xs left hx h0 h1 (fun _ => rfl) zTable_le fun a ha l h2 h3 => szTable_ok a l (hv a ha) h2 (by omega)
theorem toTable_ok (a : Table) (hb : bTable 34359738368 a) (σ : Store) : Ok Tryz.prog 74 [.agg (encTable a)] σ (NewL σ (encTable a)) := by
  refine Ok.run mixed c_laws_toTable_ok (Nat.le_of_ble_eq_true rfl) fun hS hA => ?_
  clear hS hA
  repeat' first | (apply Go.adm; exact rfl) | apply Go.qs | apply Qg.nil | ((first | apply Go.v2 | apply Go.v1); (first | exact leAdd | assumption); iterate 6 exact rfl) | ((first | apply Go.op | apply Go.sop | apply Qg.op); exact rfl; (first | exact aop_alloc | exact aop_new rfl rfl | exact aop_mksl rfl | exact aop_lenM rfl | exact rfl | exact aL rfl rfl rfl rfl rfl | exact aS rfl rfl rfl rfl rfl rfl rfl)) | ((first | apply Go.no | apply Go.sno | apply Qg.no); exact rfl) | (exfalso; omega) | (((first | apply Go.iQ | apply Go.gQ | apply Go.sQ | apply Qg.gQ); exact rfl; (first | exact .d | exact .e | exact .n | ((fail_if_success exact bqt); (fail_if_success exact bqf); exact .b))) <;> intro _)
  refine Go.call _ rfl rfl rfl (toColS_ok a.cols hb.2.1.1 hb.2.1.2 _) ?_
  rintro r σ0 ⟨x0, m0, rfl, rfl, t0, h0⟩
  rw [E_E] at h0 ⊢
  have t0 := tidy_up t0
  have h0 := h0.new2
  repeat' first | (apply Go.adm; exact rfl) | apply Go.qs | apply Qg.nil | ((first | apply Go.v2 | apply Go.v1); (first | exact leAdd | assumption); iterate 6 exact rfl) | ((first | apply Go.op | apply Go.sop | apply Qg.op); exact rfl; (first | exact aop_alloc | exact aop_new rfl rfl | exact aop_mksl rfl | exact aop_lenM rfl | exact rfl | exact aL rfl rfl rfl rfl rfl | exact aS rfl rfl rfl rfl rfl rfl rfl)) | ((first | apply Go.no | apply Go.sno | apply Qg.no); exact rfl) | (exfalso; omega) | (((first | apply Go.iQ | apply Go.gQ | apply Go.sQ | apply Qg.gQ); exact rfl; (first | exact .d | exact .e | exact .n | ((fail_if_success exact bqt); (fail_if_success exact bqf); exact .b))) <;> intro _)
  refine Go.call _ rfl rfl rfl (toInt64S_ok a.key hb.2.2.1 _) ?_
  rintro r σ1 ⟨x1, m1, rfl, rfl, t1, h1⟩
  rw [E_E] at h1 ⊢
  have t1 := tidy_up t1
  have h1 := h1.new2
  have h0 := Has.more h0 (fun a ha => by have h9 := ha.1; have h8 := ha.2; simp only [List.append_eq, List.length_nil, List.length_append, List.nil_append] at h9 h8 ⊢; omega) m1
  repeat' first | (apply Go.adm; exact rfl) | apply Go.qs | apply Qg.nil | ((first | apply Go.v2 | apply Go.v1); (first | exact leAdd | assumption); iterate 6 exact rfl) | ((first | apply Go.op | apply Go.sop | apply Qg.op); exact rfl; (first | exact aop_alloc | exact aop_new rfl rfl | exact aop_mksl rfl | exact aop_lenM rfl | exact rfl | exact aL rfl rfl rfl rfl rfl | exact aS rfl rfl rfl rfl rfl rfl rfl)) | ((first | apply Go.no | apply Go.sno | apply Qg.no); exact rfl) | (exfalso; omega) | (((first | apply Go.iQ | apply Go.gQ | apply Go.sQ | apply Qg.gQ); exact rfl; (first | exact .d | exact .e | exact .n | ((fail_if_success exact bqt); (fail_if_success exact bqf); exact .b))) <;> intro _)
  refine Go.call _ rfl rfl rfl (toUniqS_ok a.uniques hb.2.2.2.1.1 hb.2.2.2.1.2 _) ?_
  rintro r σ2 ⟨x2, m2, rfl, rfl, t2, h2⟩
  rw [E_E] at h2 ⊢
  have t2 := tidy_up t2
  have h2 := h2.new2
  have h0 := Has.more h0 (fun a ha => by have h9 := ha.1; have h8 := ha.2; simp only [List.append_eq, List.length_nil, List.length_append, List.nil_append] at h9 h8 ⊢; omega) m2
  have h1 := Has.more h1 (fun a ha => by have h9 := ha.1; have h8 := ha.2; simp only [List.append_eq, List.length_nil, List.length_append, List.nil_append] at h9 h8 ⊢; omega) m2
  repeat' first | (apply Go.adm; exact rfl) | apply Go.qs | apply Qg.nil | ((first | apply Go.v2 | apply Go.v1); (first | exact leAdd | assumption); iterate 6 exact rfl) | ((first | apply Go.op | apply Go.sop | apply Qg.op); exact rfl; (first | exact aop_alloc | exact aop_new rfl rfl | exact aop_mksl rfl | exact aop_lenM rfl | exact rfl | exact aL rfl rfl rfl rfl rfl | exact aS rfl rfl rfl rfl rfl rfl rfl)) | ((first | apply Go.no | apply Go.sno | apply Qg.no); exact rfl) | (exfalso; omega) | (((first | apply Go.iQ | apply Go.gQ | apply Go.sQ | apply Qg.gQ); exact rfl; (first | exact .d | exact .e | exact .n | ((fail_if_success exact bqt); (fail_if_success exact bqf); exact .b))) <;> intro _)
  refine Go.call _ rfl rfl rfl (toChkS_ok a.checks hb.2.2.2.2.1.1 hb.2.2.2.2.1.2 _) ?_
  rintro r σ3 ⟨x3, m3, rfl, rfl, t3, h3⟩
  rw [E_E] at h3 ⊢
  have t3 := tidy_up t3
  have h3 := h3.new2
  have h0 := Has.more h0 (fun a ha => by have h9 := ha.1; have h8 := ha.2; simp only [List.append_eq, List.length_nil, List.length_append, List.nil_append] at h9 h8 ⊢; omega) m3
  have h1 := Has.more h1 (fun a ha => by have h9 := ha.1; have h8 := ha.2; simp only [List.append_eq, List.length_nil, List.length_append, List.nil_append] at h9 h8 ⊢; omega) m3
  have h2 := Has.more h2 (fun a ha => by have h9 := ha.1; have h8 := ha.2; simp only [List.append_eq, List.length_nil, List.length_append, List.nil_append] at h9 h8 ⊢; omega) m3
  repeat' first | (apply Go.adm; exact rfl) | apply Go.qs | apply Qg.nil | ((first | apply Go.v2 | apply Go.v1); (first | exact leAdd | assumption); iterate 6 exact rfl) | ((first | apply Go.op | apply Go.sop | apply Qg.op); exact rfl; (first | exact aop_alloc | exact aop_new rfl rfl | exact aop_mksl rfl | exact aop_lenM rfl | exact rfl | exact aL rfl rfl rfl rfl rfl | exact aS rfl rfl rfl rfl rfl rfl rfl)) | ((first | apply Go.no | apply Go.sno | apply Qg.no); exact rfl) | (exfalso; omega) | (((first | apply Go.iQ | apply Go.gQ | apply Go.sQ | apply Qg.gQ); exact rfl; (first | exact .d | exact .e | exact .n | ((fail_if_success exact bqt); (fail_if_success exact bqf); exact .b))) <;> intro _)
  refine Go.call _ rfl rfl rfl (toFkS_ok a.fks hb.2.2.2.2.2.1 hb.2.2.2.2.2.2 _) ?_
  rintro r σ4 ⟨x4, m4, rfl, rfl, t4, h4⟩
  rw [E_E] at h4 ⊢
  have t4 := tidy_up t4
  have h4 := h4.new2
  have h0 := Has.more h0 (fun a ha => by have h9 := ha.1; have h8 := ha.2; simp only [List.append_eq, List.length_nil, List.length_append, List.nil_append] at h9 h8 ⊢; omega) m4
  have h1 := Has.more h1 (fun a ha => by have h9 := ha.1; have h8 := ha.2; simp only [List.append_eq, List.length_nil, List.length_append, List.nil_append] at h9 h8 ⊢; omega) m4
  have h2 := Has.more h2 (fun a ha => by have h9 := ha.1; have h8 := ha.2; simp only [List.append_eq, List.length_nil, List.length_append, List.nil_append] at h9 h8 ⊢; omega) m4
  have h3 := Has.more h3 (fun a ha => by have h9 := ha.1; have h8 := ha.2; simp only [List.append_eq, List.length_nil, List.length_append, List.nil_append] at h9 h8 ⊢; omega) m4
  repeat' first | (apply Go.adm; exact rfl) | apply Go.qs | apply Qg.nil | ((first | apply Go.v2 | apply Go.v1); (first | exact leAdd | assumption); iterate 6 exact rfl) | ((first | apply Go.op | apply Go.sop | apply Qg.op); exact rfl; (first | exact aop_alloc | exact aop_new rfl rfl | exact aop_mksl rfl | exact aop_lenM rfl | exact rfl | exact aL rfl rfl rfl rfl rfl | exact aS rfl rfl rfl rfl rfl rfl rfl)) | ((first | apply Go.no | apply Go.sno | apply Qg.no); exact rfl) | (exfalso; omega) | (((first | apply Go.iQ | apply Go.gQ | apply Go.sQ | apply Qg.gQ); exact rfl; (first | exact .d | exact .e | exact .n | ((fail_if_success exact bqt); (fail_if_success exact bqf); exact .b))) <;> intro _)
  have hL : HasL (E σ ((0, [[.str a.name, x0, x1, x2, x3, x4]]) :: (0, [[.str a.name, x0, x1, x2, x3, x4]]) :: ([] ++ m0 ++ m1 ++ m2 ++ m3 ++ m4))) (fun a => σ.next + 2 ≤ a ∧ a < σ.next + 2 + ([] ++ m0 ++ m1 ++ m2 ++ m3 ++ m4).length) (encTable a) [.str a.name, x0, x1, x2, x3, x4] := by
    refine HasL.mono ?_ (HasL.skip (.str _) (HasL.two (h0 _ _) (HasL.two (h1 _ _) (HasL.two (h2 _ _) (HasL.two (h3 _ _) (HasL.two (h4 _ _) (HasL.nil (S := fun a => a < 0)) (fun a ha hb => by (try dsimp only at ha hb); (try simp only [List.append_eq, List.length_append, List.length_nil, List.nil_append] at ha hb); omega)) (fun a ha hb => by (try dsimp only at ha hb); (try simp only [List.append_eq, List.length_append, List.length_nil, List.nil_append] at ha hb); omega)) (fun a ha hb => by (try dsimp only at ha hb); (try simp only [List.append_eq, List.length_append, List.length_nil, List.nil_append] at ha hb); omega)) (fun a ha hb => by (try dsimp only at ha hb); (try simp only [List.append_eq, List.length_append, List.length_nil, List.nil_append] at ha hb); omega)) (fun a ha hb => by (try dsimp only at ha hb); (try simp only [List.append_eq, List.length_append, List.length_nil, List.nil_append] at ha hb); omega)))
    intro a ha
    (try dsimp only at ha)
    (try simp only [List.append_eq, List.length_append, List.length_nil, List.nil_append] at ha ⊢)
    omega
  have hT := hL.tidy (n := σ.next) fun a ha => by have := ha.1; omega
  have hM : TidyL σ.next ([] ++ m0 ++ m1 ++ m2 ++ m3 ++ m4) := (tidy_pre (tidy_pre (tidy_pre (tidy_pre (tidy_pre (fun b hb => by simp at hb) t0) t1) t2) t3) t4)
  have hN : NewL σ (encTable a) (.agg [.str a.name, x0, x1, x2, x3, x4]) (E σ ((0, [[.str a.name, x0, x1, x2, x3, x4]]) :: (0, [[.str a.name, x0, x1, x2, x3, x4]]) :: ([] ++ m0 ++ m1 ++ m2 ++ m3 ++ m4))) := by
    refine ⟨_, _, rfl, rfl, .one hT (.one hT hM), hL.mono ?_⟩
    intro a ha
    have h9 := ha.1
    have h8 := ha.2
    (try simp only [E_next, List.length_cons, List.append_eq, List.length_append, List.length_nil, List.nil_append] at h8 ⊢)
    constructor <;> omega
  exact .ret (retv_m rfl rfl rfl (Nat.le_of_ble_eq_true rfl) rfl) hN
theorem toTableS_ok (xs : List Table) (hx : xs.length ≤ 34359738368) (hv : ∀ e ∈ xs, bTable 34359738368 e) (σ : Store) : Ok Tryz.prog 14 [.c (.fz (xs.map encTable))] σ (New σ (.fz (xs.map encTable))) :=
  toS_ok mixed c_laws_toTableS_ok encTable xs hx (by decide) rfl (fun _ => rfl) (by intro x hx; simp only [List.mem_cons, List.not_mem_nil, or_false] at hx; rcases hx with rfl | rfl | rfl | rfl | rfl | rfl <;> constructor) (fun a ha σ => toTable_ok a (hv a ha) σ) σ
theorem Table_beq (a b : Table) : (a == b) = (a.name == b.name && a.cols == b.cols && a.key == b.key && a.uniques == b.uniques && a.checks == b.checks && a.fks == b.fks) := by
  obtain ⟨a0, a1, a2, a3, a4, a5⟩ := a
  obtain ⟨b0, b1, b2, b3, b4, b5⟩ := b
  rw [Bool.eq_iff_iff]
  simp [and_assoc]
theorem eqTable_ok (a b : Table) (hb : bTable 34359738368 a) : Pure Tryz.prog 78 [.agg (encTable a), .agg (encTable b)] (.c (.bool (a == b))) := by
  refine Pure.run mixed c_laws_eqTable_ok (Nat.le_of_ble_eq_true rfl) fun σ hS hA => ?_
  clear hS hA
  have hq := Table_beq a b
  repeat' first | (apply Go.adm; exact rfl) | apply Go.qs | apply Qg.nil | ((first | apply Go.v2 | apply Go.v1); (first | exact leAdd | assumption); iterate 6 exact rfl) | ((first | apply Go.op | apply Go.sop | apply Qg.op); exact rfl; (first | exact aop_alloc | exact aop_new rfl rfl | exact aop_mksl rfl | exact aop_lenM rfl | exact rfl | exact aL rfl rfl rfl rfl rfl | exact aS rfl rfl rfl rfl rfl rfl rfl)) | ((first | apply Go.no | apply Go.sno | apply Qg.no); exact rfl) | ((first | apply Go.pcallB | apply Go.spcallB | apply Qg.pcallB); (iterate 3 exact rfl); (first | exact eqColS_ok a.cols b.cols hb.2.1.1 hb.2.1.2 | exact eqInt64S_ok a.key b.key hb.2.2.1 | exact eqUniqS_ok a.uniques b.uniques hb.2.2.2.1.1 hb.2.2.2.1.2 | exact eqChkS_ok a.checks b.checks hb.2.2.2.2.1.1 hb.2.2.2.2.1.2 | exact eqFkS_ok a.fks b.fks hb.2.2.2.2.2.1 hb.2.2.2.2.2.2); intro _ _) | (exfalso; omega) | (((first | apply Go.iQ | apply Go.gQ | apply Go.sQ | apply Qg.gQ); exact rfl; (first | exact .d | exact .e | exact .n | ((fail_if_success exact bqt); (fail_if_success exact bqf); exact .b))) <;> intro _)
  all_goals refine .ret rfl (.bool ?_)
  all_goals rw [hq]
  all_goals clear hq hb
  all_goals simp_all
theorem eqTableS_ok (xs ys : List Table) (hx : xs.length ≤ 34359738368) (hv : ∀ e ∈ xs, bTable 34359738368 e) : Pure Tryz.prog 17 [.c (.fz (xs.map encTable)), .c (.fz (ys.map encTable))] (.c (.bool (xs == ys))) :=
  eqS_ok mixed c_laws_eqTableS_ok encTable xs ys hx (fun _ => rfl) fun a ha b => eqTable_ok a b (hv a ha)
structure Term where
  expr : List Tok
  deriving DecidableEq
structure Sel where
  table : List UInt8
  terms : List Term
  wher : List Tok
  by_ : List Int
  most : Int
  deriving DecidableEq
structure Trigger where
  table : List UInt8
  event : Int
  when_ : List Tok
  into : List UInt8
  terms : List Term
  deriving DecidableEq
end Go.Proofs.YtcfpdongfdhgjaaGreat.Am

/- The laws' helpers on types, printed by a program: Set, Row, Stmt. -/
set_option linter.unusedVariables false
set_option linter.unusedSimpArgs false
namespace Go.Proofs.YtcfpdongfdhgjaaGreat.Am
structure SetS where
  col : Int
  expr : List Tok
  deriving DecidableEq
structure RowD where
  id : Int
  vals : List Val
  deriving DecidableEq
def encRowD (a : RowD) : List Ce := [.int .i64 a.id, .fz (a.vals.map encV)]
def bRowD (N : Nat) (a : RowD) : Prop := (a.vals.length ≤ N ∧ ∀ x ∈ a.vals, bV N x)
def zRowD (a : RowD) : Int → Int := chain [(szL szV a.vals)]
theorem zRowD_steps (a : RowD) : Steps [(szL szV a.vals)] := (.cons (fun l h => szL_le szV_le _ l h) .nil)
theorem zRowD_le (a : RowD) (l : Int) (h : 0 ≤ l) : zRowD a l ≤ l := chain_le (zRowD_steps a) l h
theorem bRowD_of (a : RowD) (l : Int) (N : Nat) (h0 : 0 ≤ l) (h : 0 ≤ zRowD a l) (hl : l ≤ N) : bRowD N a := by
  have hh := chain_all (zRowD_steps a) l h0 h
  obtain ⟨q0, u0, v0, w0⟩ := hh (szL szV a.vals) (by simp)
  exact (list_of szV_le (fun _ _ _ _ h hl => bV_of h hl) u0 w0 (by omega))
theorem szRowD_ok (a : RowD) (left : Int) (hb : bRowD 1125899906842624 a) (h0 : 0 ≤ left) (h1 : left ≤ 34359738368) : Pure Tryz.prog 275 [.agg (encRowD a), .c (.int .i64 left)] (.c (.int .i64 (zRowD a left))) := by
  refine Pure.run mixed c_laws_szRow_ok (Nat.le_of_ble_eq_true rfl) fun σ hS hA => ?_
  clear hS hA
  repeat' first | (apply Go.adm; exact rfl) | apply Go.qs | apply Qg.nil | ((first | apply Go.v2 | apply Go.v1); (first | exact leAdd | assumption); iterate 6 exact rfl) | ((first | apply Go.op | apply Go.sop | apply Qg.op); exact rfl; (first | exact aop_alloc | exact aop_new rfl rfl | exact aop_mksl rfl | exact aop_lenM rfl | exact rfl | exact aL rfl rfl rfl rfl rfl | exact aS rfl rfl rfl rfl rfl rfl rfl)) | ((first | apply Go.no | apply Go.sno | apply Qg.no); exact rfl)
  refine .pcall rfl rfl rfl (szValS_ok a.vals left hb.1 hb.2 (by omega) (by omega)) ?_
  have y1 := szL_le szV_le a.vals left (by omega)
  generalize e1 : szL szV a.vals left = l1 at y1 ⊢
  repeat' first | (apply Go.adm; exact rfl) | apply Go.qs | apply Qg.nil | ((first | apply Go.v2 | apply Go.v1); (first | exact leAdd | assumption); iterate 6 exact rfl) | ((first | apply Go.op | apply Go.sop | apply Qg.op); exact rfl; (first | exact aop_alloc | exact aop_new rfl rfl | exact aop_mksl rfl | exact aop_lenM rfl | exact rfl | exact aL rfl rfl rfl rfl rfl | exact aS rfl rfl rfl rfl rfl rfl rfl)) | ((first | apply Go.no | apply Go.sno | apply Qg.no); exact rfl) | (exfalso; omega) | (((first | apply Go.iQ | apply Go.gQ | apply Go.sQ | apply Qg.gQ); exact rfl; (first | exact .d | exact .e | exact .n | ((fail_if_success exact bqt); (fail_if_success exact bqf); exact .b))) <;> intro _)
  · refine .ret rfl (.int ?_)
    rename_i h
    simp only [zRowD, chain, e1, if_pos h]
  rename_i g1
  refine .ret rfl (.int ?_)
  simp only [zRowD, chain, e1, if_neg g1]
theorem szRowDS_ok (xs : List RowD) (left : Int) (hx : xs.length ≤ 1125899906842624) (hv : ∀ e ∈ xs, bRowD 1125899906842624 e) (h0 : 0 ≤ left) (h1 : left ≤ 34359738368) : Pure Tryz.prog 200 [.c (.fz (xs.map encRowD)), .c (.int .i64 left)] (.c (.int .i64 (szL zRowD xs left))) :=
  szS_ok mixed c_laws_szRowS_ok encRowD zRowD xs left hx h0 h1 (fun _ => rfl) zRowD_le fun a ha l h2 h3 => szRowD_ok a l (hv a ha) h2 (by omega)
theorem toRowD_ok (a : RowD) (hb : bRowD 34359738368 a) (σ : Store) : Ok Tryz.prog 277 [.agg (encRowD a)] σ (NewL σ (encRowD a)) := by
  refine Ok.run mixed c_laws_toRow_ok (Nat.le_of_ble_eq_true rfl) fun hS hA => ?_
  clear hS hA
  repeat' first | (apply Go.adm; exact rfl) | apply Go.qs | apply Qg.nil | ((first | apply Go.v2 | apply Go.v1); (first | exact leAdd | assumption); iterate 6 exact rfl) | ((first | apply Go.op | apply Go.sop | apply Qg.op); exact rfl; (first | exact aop_alloc | exact aop_new rfl rfl | exact aop_mksl rfl | exact aop_lenM rfl | exact rfl | exact aL rfl rfl rfl rfl rfl | exact aS rfl rfl rfl rfl rfl rfl rfl)) | ((first | apply Go.no | apply Go.sno | apply Qg.no); exact rfl) | (exfalso; omega) | (((first | apply Go.iQ | apply Go.gQ | apply Go.sQ | apply Qg.gQ); exact rfl; (first | exact .d | exact .e | exact .n | ((fail_if_success exact bqt); (fail_if_success exact bqf); exact .b))) <;> intro _)
  refine Go.call _ rfl rfl rfl (toValS_ok a.vals hb.1  _) ?_
  rintro r σ0 ⟨x0, m0, rfl, rfl, t0, h0⟩
  rw [E_E] at h0 ⊢
  have t0 := tidy_up t0
  have h0 := h0.new2
  repeat' first | (apply Go.adm; exact rfl) | apply Go.qs | apply Qg.nil | ((first | apply Go.v2 | apply Go.v1); (first | exact leAdd | assumption); iterate 6 exact rfl) | ((first | apply Go.op | apply Go.sop | apply Qg.op); exact rfl; (first | exact aop_alloc | exact aop_new rfl rfl | exact aop_mksl rfl | exact aop_lenM rfl | exact rfl | exact aL rfl rfl rfl rfl rfl | exact aS rfl rfl rfl rfl rfl rfl rfl)) | ((first | apply Go.no | apply Go.sno | apply Qg.no); exact rfl) | (exfalso; omega) | (((first | apply Go.iQ | apply Go.gQ | apply Go.sQ | apply Qg.gQ); exact rfl; (first | exact .d | exact .e | exact .n | ((fail_if_success exact bqt); (fail_if_success exact bqf); exact .b))) <;> intro _)
  have hL : HasL (E σ ((0, [[.int .i64 a.id, x0]]) :: (0, [[.int .i64 a.id, x0]]) :: ([] ++ m0))) (fun a => σ.next + 2 ≤ a ∧ a < σ.next + 2 + ([] ++ m0).length) (encRowD a) [.int .i64 a.id, x0] := by
    refine HasL.mono ?_ (HasL.skip (.int _ _) (HasL.two (h0 _ _) (HasL.nil (S := fun a => a < 0)) (fun a ha hb => by (try dsimp only at ha hb); (try simp only [List.append_eq, List.length_append, List.length_nil, List.nil_append] at ha hb); omega)))
    intro a ha
    (try dsimp only at ha)
    (try simp only [List.append_eq, List.length_append, List.length_nil, List.nil_append] at ha ⊢)
    omega
  have hT := hL.tidy (n := σ.next) fun a ha => by have := ha.1; omega
  have hM : TidyL σ.next ([] ++ m0) := (tidy_pre (fun b hb => by simp at hb) t0)
  have hN : NewL σ (encRowD a) (.agg [.int .i64 a.id, x0]) (E σ ((0, [[.int .i64 a.id, x0]]) :: (0, [[.int .i64 a.id, x0]]) :: ([] ++ m0))) := by
    refine ⟨_, _, rfl, rfl, .one hT (.one hT hM), hL.mono ?_⟩
    intro a ha
    have h9 := ha.1
    have h8 := ha.2
    (try simp only [E_next, List.length_cons, List.append_eq, List.length_append, List.length_nil, List.nil_append] at h8 ⊢)
    constructor <;> omega
  exact .ret (retv_m rfl rfl rfl (Nat.le_of_ble_eq_true rfl) rfl) hN
theorem toRowDS_ok (xs : List RowD) (hx : xs.length ≤ 34359738368) (hv : ∀ e ∈ xs, bRowD 34359738368 e) (σ : Store) : Ok Tryz.prog 202 [.c (.fz (xs.map encRowD))] σ (New σ (.fz (xs.map encRowD))) :=
  toS_ok mixed c_laws_toRowS_ok encRowD xs hx (by decide) rfl (fun _ => rfl) (by intro x hx; simp only [List.mem_cons, List.not_mem_nil, or_false] at hx; rcases hx with rfl | rfl <;> constructor) (fun a ha σ => toRowD_ok a (hv a ha) σ) σ
theorem RowD_beq (a b : RowD) : (a == b) = (a.id == b.id && a.vals == b.vals) := by
  obtain ⟨a0, a1⟩ := a
  obtain ⟨b0, b1⟩ := b
  rw [Bool.eq_iff_iff]
  simp [and_assoc]
theorem eqRowD_ok (a b : RowD) (hb : bRowD 34359738368 a) : Pure Tryz.prog 278 [.agg (encRowD a), .agg (encRowD b)] (.c (.bool (a == b))) := by
  refine Pure.run mixed c_laws_eqRow_ok (Nat.le_of_ble_eq_true rfl) fun σ hS hA => ?_
  clear hS hA
  have hq := RowD_beq a b
  repeat' first | (apply Go.adm; exact rfl) | apply Go.qs | apply Qg.nil | ((first | apply Go.v2 | apply Go.v1); (first | exact leAdd | assumption); iterate 6 exact rfl) | ((first | apply Go.op | apply Go.sop | apply Qg.op); exact rfl; (first | exact aop_alloc | exact aop_new rfl rfl | exact aop_mksl rfl | exact aop_lenM rfl | exact rfl | exact aL rfl rfl rfl rfl rfl | exact aS rfl rfl rfl rfl rfl rfl rfl)) | ((first | apply Go.no | apply Go.sno | apply Qg.no); exact rfl) | ((first | apply Go.pcallB | apply Go.spcallB | apply Qg.pcallB); (iterate 3 exact rfl); exact eqValS_ok a.vals b.vals hb.1; intro _ _) | (exfalso; omega) | (((first | apply Go.iQ | apply Go.gQ | apply Go.sQ | apply Qg.gQ); exact rfl; (first | exact .d | exact .e | exact .n | ((fail_if_success exact bqt); (fail_if_success exact bqf); exact .b))) <;> intro _)
  all_goals refine .ret rfl (.bool ?_)
  all_goals rw [hq]
  all_goals clear hq hb
  all_goals simp_all
theorem eqRowDS_ok (xs ys : List RowD) (hx : xs.length ≤ 34359738368) (hv : ∀ e ∈ xs, bRowD 34359738368 e) : Pure Tryz.prog 204 [.c (.fz (xs.map encRowD)), .c (.fz (ys.map encRowD))] (.c (.bool (xs == ys))) :=
  eqS_ok mixed c_laws_eqRowS_ok encRowD xs ys hx (fun _ => rfl) fun a ha b => eqRowD_ok a b (hv a ha)
structure Stmt where
  kind : Int
  table : List UInt8
  rows : List RowD
  wher : List Tok
  sets : List SetS
  policy : Int
  deriving DecidableEq
end Go.Proofs.YtcfpdongfdhgjaaGreat.Am

/- The laws' helpers on types, printed by a program: Data, Line, Save, Session. -/
set_option linter.unusedVariables false
set_option linter.unusedSimpArgs false
namespace Go.Proofs.YtcfpdongfdhgjaaGreat.Am
structure Data where
  rows : List RowD
  deriving DecidableEq
def encData (a : Data) : List Ce := [.fz (a.rows.map encRowD)]
def bData (N : Nat) (a : Data) : Prop := (a.rows.length ≤ N ∧ ∀ x ∈ a.rows, bRowD N x)
def zData (a : Data) : Int → Int := chain [(szL zRowD a.rows)]
theorem zData_steps (a : Data) : Steps [(szL zRowD a.rows)] := (.cons (fun l h => szL_le zRowD_le _ l h) .nil)
theorem zData_le (a : Data) (l : Int) (h : 0 ≤ l) : zData a l ≤ l := chain_le (zData_steps a) l h
theorem bData_of (a : Data) (l : Int) (N : Nat) (h0 : 0 ≤ l) (h : 0 ≤ zData a l) (hl : l ≤ N) : bData N a := by
  have hh := chain_all (zData_steps a) l h0 h
  obtain ⟨q0, u0, v0, w0⟩ := hh (szL zRowD a.rows) (by simp)
  exact (list_of zRowD_le bRowD_of u0 w0 (by omega))
theorem szData_ok (a : Data) (left : Int) (hb : bData 1125899906842624 a) (h0 : 0 ≤ left) (h1 : left ≤ 34359738368) : Pure Tryz.prog 88 [.agg (encData a), .c (.int .i64 left)] (.c (.int .i64 (zData a left))) := by
  refine Pure.run mixed c_laws_szData_ok (Nat.le_of_ble_eq_true rfl) fun σ hS hA => ?_
  clear hS hA
  repeat' first | (apply Go.adm; exact rfl) | apply Go.qs | apply Qg.nil | ((first | apply Go.v2 | apply Go.v1); (first | exact leAdd | assumption); iterate 6 exact rfl) | ((first | apply Go.op | apply Go.sop | apply Qg.op); exact rfl; (first | exact aop_alloc | exact aop_new rfl rfl | exact aop_mksl rfl | exact aop_lenM rfl | exact rfl | exact aL rfl rfl rfl rfl rfl | exact aS rfl rfl rfl rfl rfl rfl rfl)) | ((first | apply Go.no | apply Go.sno | apply Qg.no); exact rfl)
  refine .pcall rfl rfl rfl (szRowDS_ok a.rows left hb.1 hb.2 (by omega) (by omega)) ?_
  have y1 := szL_le zRowD_le a.rows left (by omega)
  generalize e1 : szL zRowD a.rows left = l1 at y1 ⊢
  repeat' first | (apply Go.adm; exact rfl) | apply Go.qs | apply Qg.nil | ((first | apply Go.v2 | apply Go.v1); (first | exact leAdd | assumption); iterate 6 exact rfl) | ((first | apply Go.op | apply Go.sop | apply Qg.op); exact rfl; (first | exact aop_alloc | exact aop_new rfl rfl | exact aop_mksl rfl | exact aop_lenM rfl | exact rfl | exact aL rfl rfl rfl rfl rfl | exact aS rfl rfl rfl rfl rfl rfl rfl)) | ((first | apply Go.no | apply Go.sno | apply Qg.no); exact rfl) | (exfalso; omega) | (((first | apply Go.iQ | apply Go.gQ | apply Go.sQ | apply Qg.gQ); exact rfl; (first | exact .d | exact .e | exact .n | ((fail_if_success exact bqt); (fail_if_success exact bqf); exact .b))) <;> intro _)
  · refine .ret rfl (.int ?_)
    rename_i h
    simp only [zData, chain, e1, if_pos h]
  rename_i g1
  refine .ret rfl (.int ?_)
  simp only [zData, chain, e1, if_neg g1]
theorem szDataS_ok (xs : List Data) (left : Int) (hx : xs.length ≤ 1125899906842624) (hv : ∀ e ∈ xs, bData 1125899906842624 e) (h0 : 0 ≤ left) (h1 : left ≤ 34359738368) : Pure Tryz.prog 21 [.c (.fz (xs.map encData)), .c (.int .i64 left)] (.c (.int .i64 (szL zData xs left))) :=
  szS_ok mixed c_laws_szDataS_ok encData zData xs left hx h0 h1 (fun _ => rfl) zData_le fun a ha l h2 h3 => szData_ok a l (hv a ha) h2 (by omega)
theorem toData_ok (a : Data) (hb : bData 34359738368 a) (σ : Store) : Ok Tryz.prog 93 [.agg (encData a)] σ (NewL σ (encData a)) := by
  refine Ok.run mixed c_laws_toData_ok (Nat.le_of_ble_eq_true rfl) fun hS hA => ?_
  clear hS hA
  repeat' first | (apply Go.adm; exact rfl) | apply Go.qs | apply Qg.nil | ((first | apply Go.v2 | apply Go.v1); (first | exact leAdd | assumption); iterate 6 exact rfl) | ((first | apply Go.op | apply Go.sop | apply Qg.op); exact rfl; (first | exact aop_alloc | exact aop_new rfl rfl | exact aop_mksl rfl | exact aop_lenM rfl | exact rfl | exact aL rfl rfl rfl rfl rfl | exact aS rfl rfl rfl rfl rfl rfl rfl)) | ((first | apply Go.no | apply Go.sno | apply Qg.no); exact rfl) | (exfalso; omega) | (((first | apply Go.iQ | apply Go.gQ | apply Go.sQ | apply Qg.gQ); exact rfl; (first | exact .d | exact .e | exact .n | ((fail_if_success exact bqt); (fail_if_success exact bqf); exact .b))) <;> intro _)
  refine Go.call _ rfl rfl rfl (toRowDS_ok a.rows hb.1 hb.2 _) ?_
  rintro r σ0 ⟨x0, m0, rfl, rfl, t0, h0⟩
  rw [E_E] at h0 ⊢
  have t0 := tidy_up t0
  have h0 := h0.new2
  repeat' first | (apply Go.adm; exact rfl) | apply Go.qs | apply Qg.nil | ((first | apply Go.v2 | apply Go.v1); (first | exact leAdd | assumption); iterate 6 exact rfl) | ((first | apply Go.op | apply Go.sop | apply Qg.op); exact rfl; (first | exact aop_alloc | exact aop_new rfl rfl | exact aop_mksl rfl | exact aop_lenM rfl | exact rfl | exact aL rfl rfl rfl rfl rfl | exact aS rfl rfl rfl rfl rfl rfl rfl)) | ((first | apply Go.no | apply Go.sno | apply Qg.no); exact rfl) | (exfalso; omega) | (((first | apply Go.iQ | apply Go.gQ | apply Go.sQ | apply Qg.gQ); exact rfl; (first | exact .d | exact .e | exact .n | ((fail_if_success exact bqt); (fail_if_success exact bqf); exact .b))) <;> intro _)
  have hL : HasL (E σ ((0, [[x0]]) :: (0, [[x0]]) :: ([] ++ m0))) (fun a => σ.next + 2 ≤ a ∧ a < σ.next + 2 + ([] ++ m0).length) (encData a) [x0] := by
    refine HasL.mono ?_ (HasL.two (h0 _ _) (HasL.nil (S := fun a => a < 0)) (fun a ha hb => by (try dsimp only at ha hb); (try simp only [List.append_eq, List.length_append, List.length_nil, List.nil_append] at ha hb); omega))
    intro a ha
    (try dsimp only at ha)
    (try simp only [List.append_eq, List.length_append, List.length_nil, List.nil_append] at ha ⊢)
    omega
  have hT := hL.tidy (n := σ.next) fun a ha => by have := ha.1; omega
  have hM : TidyL σ.next ([] ++ m0) := (tidy_pre (fun b hb => by simp at hb) t0)
  have hN : NewL σ (encData a) (.agg [x0]) (E σ ((0, [[x0]]) :: (0, [[x0]]) :: ([] ++ m0))) := by
    refine ⟨_, _, rfl, rfl, .one hT (.one hT hM), hL.mono ?_⟩
    intro a ha
    have h9 := ha.1
    have h8 := ha.2
    (try simp only [E_next, List.length_cons, List.append_eq, List.length_append, List.length_nil, List.nil_append] at h8 ⊢)
    constructor <;> omega
  exact .ret (retv_m rfl rfl rfl (Nat.le_of_ble_eq_true rfl) rfl) hN
theorem toDataS_ok (xs : List Data) (hx : xs.length ≤ 34359738368) (hv : ∀ e ∈ xs, bData 34359738368 e) (σ : Store) : Ok Tryz.prog 24 [.c (.fz (xs.map encData))] σ (New σ (.fz (xs.map encData))) :=
  toS_ok mixed c_laws_toDataS_ok encData xs hx (by decide) rfl (fun _ => rfl) (by intro x hx; simp only [List.mem_cons, List.not_mem_nil, or_false] at hx; rcases hx with rfl <;> constructor) (fun a ha σ => toData_ok a (hv a ha) σ) σ
theorem Data_beq (a b : Data) : (a == b) = (a.rows == b.rows) := by
  obtain ⟨a0⟩ := a
  obtain ⟨b0⟩ := b
  rw [Bool.eq_iff_iff]
  simp [and_assoc]
theorem eqData_ok (a b : Data) (hb : bData 34359738368 a) : Pure Tryz.prog 99 [.agg (encData a), .agg (encData b)] (.c (.bool (a == b))) := by
  refine Pure.run mixed c_laws_eqData_ok (Nat.le_of_ble_eq_true rfl) fun σ hS hA => ?_
  clear hS hA
  have hq := Data_beq a b
  repeat' first | (apply Go.adm; exact rfl) | apply Go.qs | apply Qg.nil | ((first | apply Go.v2 | apply Go.v1); (first | exact leAdd | assumption); iterate 6 exact rfl) | ((first | apply Go.op | apply Go.sop | apply Qg.op); exact rfl; (first | exact aop_alloc | exact aop_new rfl rfl | exact aop_mksl rfl | exact aop_lenM rfl | exact rfl | exact aL rfl rfl rfl rfl rfl | exact aS rfl rfl rfl rfl rfl rfl rfl)) | ((first | apply Go.no | apply Go.sno | apply Qg.no); exact rfl) | ((first | apply Go.pcallB | apply Go.spcallB | apply Qg.pcallB); (iterate 3 exact rfl); exact eqRowDS_ok a.rows b.rows hb.1 hb.2; intro _ _) | (exfalso; omega) | (((first | apply Go.iQ | apply Go.gQ | apply Go.sQ | apply Qg.gQ); exact rfl; (first | exact .d | exact .e | exact .n | ((fail_if_success exact bqt); (fail_if_success exact bqf); exact .b))) <;> intro _)
  all_goals refine .ret rfl (.bool ?_)
  all_goals rw [hq]
  all_goals clear hq hb
  all_goals simp_all
theorem eqDataS_ok (xs ys : List Data) (hx : xs.length ≤ 34359738368) (hv : ∀ e ∈ xs, bData 34359738368 e) : Pure Tryz.prog 28 [.c (.fz (xs.map encData)), .c (.fz (ys.map encData))] (.c (.bool (xs == ys))) :=
  eqS_ok mixed c_laws_eqDataS_ok encData xs ys hx (fun _ => rfl) fun a ha b => eqData_ok a b (hv a ha)
structure Line where
  vals : List Val
  deriving DecidableEq
def encLine (a : Line) : List Ce := [.fz (a.vals.map encV)]
def bLine (N : Nat) (a : Line) : Prop := (a.vals.length ≤ N ∧ ∀ x ∈ a.vals, bV N x)
theorem Line_beq (a b : Line) : (a == b) = (a.vals == b.vals) := by
  obtain ⟨a0⟩ := a
  obtain ⟨b0⟩ := b
  rw [Bool.eq_iff_iff]
  simp [and_assoc]
theorem eqLine_ok (a b : Line) (hb : bLine 34359738368 a) : Pure Tryz.prog 121 [.agg (encLine a), .agg (encLine b)] (.c (.bool (a == b))) := by
  refine Pure.run mixed c_laws_eqLine_ok (Nat.le_of_ble_eq_true rfl) fun σ hS hA => ?_
  clear hS hA
  have hq := Line_beq a b
  repeat' first | (apply Go.adm; exact rfl) | apply Go.qs | apply Qg.nil | ((first | apply Go.v2 | apply Go.v1); (first | exact leAdd | assumption); iterate 6 exact rfl) | ((first | apply Go.op | apply Go.sop | apply Qg.op); exact rfl; (first | exact aop_alloc | exact aop_new rfl rfl | exact aop_mksl rfl | exact aop_lenM rfl | exact rfl | exact aL rfl rfl rfl rfl rfl | exact aS rfl rfl rfl rfl rfl rfl rfl)) | ((first | apply Go.no | apply Go.sno | apply Qg.no); exact rfl) | ((first | apply Go.pcallB | apply Go.spcallB | apply Qg.pcallB); (iterate 3 exact rfl); exact eqValS_ok a.vals b.vals hb.1; intro _ _) | (exfalso; omega) | (((first | apply Go.iQ | apply Go.gQ | apply Go.sQ | apply Qg.gQ); exact rfl; (first | exact .d | exact .e | exact .n | ((fail_if_success exact bqt); (fail_if_success exact bqf); exact .b))) <;> intro _)
  all_goals refine .ret rfl (.bool ?_)
  all_goals rw [hq]
  all_goals clear hq hb
  all_goals simp_all
theorem eqLineS_ok (xs ys : List Line) (hx : xs.length ≤ 34359738368) (hv : ∀ e ∈ xs, bLine 34359738368 e) : Pure Tryz.prog 46 [.c (.fz (xs.map encLine)), .c (.fz (ys.map encLine))] (.c (.bool (xs == ys))) :=
  eqS_ok mixed c_laws_eqLineS_ok encLine xs ys hx (fun _ => rfl) fun a ha b => eqLine_ok a b (hv a ha)
structure Save where
  name : List UInt8
  db : List Data
  deriving DecidableEq
structure Session where
  schema : List Table
  db : List Data
  isOpen : Bool
  start : List Data
  saves : List Save
  deriving DecidableEq
end Go.Proofs.YtcfpdongfdhgjaaGreat.Am

/- The laws' helpers on types, printed by a program: Row, Data, Line. -/
set_option linter.unusedVariables false
set_option linter.unusedSimpArgs false
namespace Go.Proofs.YtcfpdongfdhgjaaGreat.Am
def markRowD (a : RowD) (k : Int) : RowD := ⟨k, markL markV (fun _ => 3) a.vals (k + 1)⟩
def cntRowD (a : RowD) : Int := 1 + cntL (fun _ => 3) a.vals
theorem cntRowD_nonneg (a : RowD) : 0 ≤ cntRowD a := by
  have := cntL_nonneg (c := (fun _ => 3)) (fun _ => by decide) a.vals
  simp only [cntRowD]
  omega
theorem cntRowD_sz (a : RowD) (l : Int) (h : 0 ≤ l) (hs : 0 ≤ zRowD a l) : cntRowD a ≤ 8 * (l - zRowD a l) + 8 := by
  have := chain_cnt (fs := [(szL szV a.vals)]) (.cons (c := cntL (fun _ => 3) a.vals) (fun q h hs => szL_cnt8 szV_le szV_cnt a.vals q h hs) .nil) l h hs
  simp only [cntRowD]
  simp only [zRowD] at hs ⊢
  omega
theorem markRowDS_ok (xs : List RowD) (k : Int) (hx : xs.length ≤ 34359738368) (hb : ∀ a ∈ xs, bRowD 34359738368 a) (hk0 : 0 ≤ k) (hk : k + cntL cntRowD xs ≤ 34359738368) : Marks Tryz.prog 101 (.fz (xs.map encRowD)) (.fz ((markL markRowD cntRowD xs k).map encRowD)) k (k + cntL cntRowD xs) := by
  refine markS_ok mixed c_laws_markRowS_ok (Nat.le_of_ble_eq_true rfl) (Nat.le_of_ble_eq_true rfl) encRowD markRowD cntRowD cntRowD_nonneg xs k hx hk0 hk ?_
  intro n0 rets R K σ τ S x i ni ki ys hi fr hn0 hyl hni hki0 hki1 h0 h1 h5 hmem hh hnext
  have hi' : i < (ys.map encRowD).length := by simpa using hi
  have hyi : (ys.map encRowD)[i] = encRowD ys[i] := by simp
  have hb := hb _ hmem
  obtain ⟨id, v, c, rfl⟩ := hh.shape hi'
  have hh : Has τ S (.fz ((ys.map encRowD).set i (encRowD ys[i]))) (.sl id v 0 (ys.map encRowD).length c) := by rw [← hyi, List.set_getElem_self]; exact hh
  have hfr : ∀ a, ¬ S a → τ.get a = τ.get a := fun _ _ => rfl
  have hnx : τ.next = τ.next := rfl
  refine .same (look_three h0 h1 h5) ?_
  have hset : ∀ q, (ys.set i q).map encRowD = (ys.map encRowD).set i (encRowD q) := fun q => List.map_set
  have hc0 := cntL_nonneg (c := (fun _ => 3)) (fun _ => by decide) ys[i].vals
  simp only [cntRowD] at hki1
  obtain ⟨es0, e0, hg0, he0, hel0, hS0, hw0⟩ := hh.wr (j := 0) hi' (Nat.le_of_ble_eq_true rfl)
  have hel0 : e0.length = 2 := hel0
  obtain ⟨hh, hf0, hn0⟩ := hw0 (.int .i64 ki) (.int _ _)
  have hfr := fun a (ha : ¬ S a) => (hf0 a ha).trans (hfr a ha)
  have hnx := hn0.trans hnx
  repeat' first | (apply Go.adm; exact rfl) | apply Go.qs | apply Qg.nil | ((first | apply Go.op | apply Go.sop | apply Qg.op); exact rfl; (first | exact rfl | exact aop_iaddrO rfl rfl hni hi' hg0 he0 hel0 | exact aop_storeO rfl rfl hg0 he0 (by omega))) | (apply Go.no; exact rfl)
  obtain ⟨k0, hk0⟩ : ∃ z, ki + 1 = z := ⟨_, rfl⟩
  rw [show IntKind.i64.wrap (ki + 1) = k0 by rw [wrap64 (by omega) (by omega)]; exact hk0]
  obtain ⟨es1, e1, T1, hg1, he1, hel1, hTS1, hj1, hch1, hback1⟩ := hh.ch (j := 1) (y := .fz (ys[i].vals.map encV)) hi' (Nat.le_of_ble_eq_true rfl) rfl
  repeat' first | (apply Go.adm; exact rfl) | apply Go.qs | apply Qg.nil | ((first | apply Go.op | apply Go.sop | apply Qg.op); exact rfl; (first | exact rfl | exact aop_iaddrO rfl rfl hni hi' hg1 he1 hel1 | exact aop_loadO rfl hg1 he1 (show 0 + 1 < e1.length by omega))) | (apply Go.no; exact rfl)
  refine Go.call _ rfl rfl rfl ((markValS_ok ys[i].vals k0 hb.1 (by omega) (by omega)).at_ _ T1 _ hch1) ?_
  rintro r τ1 ⟨rfl, hn1, hf1, hhc1⟩
  have hh := hback1 τ1 _ hf1 hhc1
  have hfr := fun a (ha : ¬ S a) => (hf1 a (fun h => ha (hTS1 a h))).trans (hfr a ha)
  have hnx := hn1.trans hnx
  obtain ⟨k1, hk1⟩ : ∃ z, k0 + cntL (fun _ => 3) ys[i].vals = z := ⟨_, rfl⟩
  rw [hk1]
  clear hg1 he1 hel1 hch1 hback1 hf1 hn1 hhc1
  repeat' first | (apply Go.adm; exact rfl) | apply Go.qs | apply Qg.nil | ((first | apply Go.op | apply Go.sop | apply Qg.op); exact rfl; (first | exact rfl)) | (apply Go.no; exact rfl)
  have hkend : k1 = ki + cntRowD ys[i] := by simp only [cntRowD]; omega
  refine hnext _ _ rfl (congrArg (fun z => some (AV.c (Ce.int .i64 z))) hkend) rfl hnx hfr ?_
  rw [hset]
  subst hk0 hk1
  exact hh
def markData (a : Data) (k : Int) : Data := ⟨markL markRowD cntRowD a.rows (k)⟩
def cntData (a : Data) : Int := 0 + cntL cntRowD a.rows
theorem cntData_nonneg (a : Data) : 0 ≤ cntData a := by
  have := cntL_nonneg (c := cntRowD) cntRowD_nonneg a.rows
  simp only [cntData]
  omega
theorem cntData_sz (a : Data) (l : Int) (h : 0 ≤ l) (hs : 0 ≤ zData a l) : cntData a ≤ 8 * (l - zData a l) + 8 := by
  have := chain_cnt (fs := [(szL zRowD a.rows)]) (.cons (c := cntL cntRowD a.rows) (fun q h hs => szL_cnt8 zRowD_le cntRowD_sz a.rows q h hs) .nil) l h hs
  simp only [cntData]
  simp only [zData] at hs ⊢
  omega
theorem markDataS_ok (xs : List Data) (k : Int) (hx : xs.length ≤ 34359738368) (hb : ∀ a ∈ xs, bData 34359738368 a) (hk0 : 0 ≤ k) (hk : k + cntL cntData xs ≤ 34359738368) : Marks Tryz.prog 30 (.fz (xs.map encData)) (.fz ((markL markData cntData xs k).map encData)) k (k + cntL cntData xs) := by
  refine markS_ok mixed c_laws_markDataS_ok (Nat.le_of_ble_eq_true rfl) (Nat.le_of_ble_eq_true rfl) encData markData cntData cntData_nonneg xs k hx hk0 hk ?_
  intro n0 rets R K σ τ S x i ni ki ys hi fr hn0 hyl hni hki0 hki1 h0 h1 h5 hmem hh hnext
  have hi' : i < (ys.map encData).length := by simpa using hi
  have hyi : (ys.map encData)[i] = encData ys[i] := by simp
  have hb := hb _ hmem
  obtain ⟨id, v, c, rfl⟩ := hh.shape hi'
  have hh : Has τ S (.fz ((ys.map encData).set i (encData ys[i]))) (.sl id v 0 (ys.map encData).length c) := by rw [← hyi, List.set_getElem_self]; exact hh
  have hfr : ∀ a, ¬ S a → τ.get a = τ.get a := fun _ _ => rfl
  have hnx : τ.next = τ.next := rfl
  refine .same (look_three h0 h1 h5) ?_
  have hset : ∀ q, (ys.set i q).map encData = (ys.map encData).set i (encData q) := fun q => List.map_set
  have hc0 := cntL_nonneg (c := cntRowD) cntRowD_nonneg ys[i].rows
  simp only [cntData] at hki1
  obtain ⟨es0, e0, T0, hg0, he0, hel0, hTS0, hj0, hch0, hback0⟩ := hh.ch (j := 0) (y := .fz (ys[i].rows.map encRowD)) hi' (Nat.le_of_ble_eq_true rfl) rfl
  repeat' first | (apply Go.adm; exact rfl) | apply Go.qs | apply Qg.nil | ((first | apply Go.op | apply Go.sop | apply Qg.op); exact rfl; (first | exact rfl | exact aop_iaddrO rfl rfl hni hi' hg0 he0 hel0 | exact aop_loadO rfl hg0 he0 (show 0 + 0 < e0.length by omega))) | (apply Go.no; exact rfl)
  refine Go.call _ rfl rfl rfl ((markRowDS_ok ys[i].rows ki hb.1 hb.2 (by omega) (by omega)).at_ _ T0 _ hch0) ?_
  rintro r τ0 ⟨rfl, hn0, hf0, hhc0⟩
  have hh := hback0 τ0 _ hf0 hhc0
  have hfr := fun a (ha : ¬ S a) => (hf0 a (fun h => ha (hTS0 a h))).trans (hfr a ha)
  have hnx := hn0.trans hnx
  obtain ⟨k0, hk0⟩ : ∃ z, ki + cntL cntRowD ys[i].rows = z := ⟨_, rfl⟩
  rw [hk0]
  clear hg0 he0 hel0 hch0 hback0 hf0 hn0 hhc0
  repeat' first | (apply Go.adm; exact rfl) | apply Go.qs | apply Qg.nil | ((first | apply Go.op | apply Go.sop | apply Qg.op); exact rfl; (first | exact rfl)) | (apply Go.no; exact rfl)
  have hkend : k0 = ki + cntData ys[i] := by simp only [cntData]; omega
  refine hnext _ _ rfl (congrArg (fun z => some (AV.c (Ce.int .i64 z))) hkend) rfl hnx hfr ?_
  rw [hset]
  subst hk0
  exact hh
def markLine (a : Line) (k : Int) : Line := ⟨markL markV (fun _ => 3) a.vals (k)⟩
def cntLine (a : Line) : Int := 0 + cntL (fun _ => 3) a.vals
theorem cntLine_nonneg (a : Line) : 0 ≤ cntLine a := by
  have := cntL_nonneg (c := (fun _ => 3)) (fun _ => by decide) a.vals
  simp only [cntLine]
  omega
theorem markLineS_ok (xs : List Line) (k : Int) (hx : xs.length ≤ 34359738368) (hb : ∀ a ∈ xs, bLine 34359738368 a) (hk0 : 0 ≤ k) (hk : k + cntL cntLine xs ≤ 34359738368) : Marks Tryz.prog 47 (.fz (xs.map encLine)) (.fz ((markL markLine cntLine xs k).map encLine)) k (k + cntL cntLine xs) := by
  refine markS_ok mixed c_laws_markLineS_ok (Nat.le_of_ble_eq_true rfl) (Nat.le_of_ble_eq_true rfl) encLine markLine cntLine cntLine_nonneg xs k hx hk0 hk ?_
  intro n0 rets R K σ τ S x i ni ki ys hi fr hn0 hyl hni hki0 hki1 h0 h1 h5 hmem hh hnext
  have hi' : i < (ys.map encLine).length := by simpa using hi
  have hyi : (ys.map encLine)[i] = encLine ys[i] := by simp
  have hb := hb _ hmem
  obtain ⟨id, v, c, rfl⟩ := hh.shape hi'
  have hh : Has τ S (.fz ((ys.map encLine).set i (encLine ys[i]))) (.sl id v 0 (ys.map encLine).length c) := by rw [← hyi, List.set_getElem_self]; exact hh
  have hfr : ∀ a, ¬ S a → τ.get a = τ.get a := fun _ _ => rfl
  have hnx : τ.next = τ.next := rfl
  refine .same (look_three h0 h1 h5) ?_
  have hset : ∀ q, (ys.set i q).map encLine = (ys.map encLine).set i (encLine q) := fun q => List.map_set
  have hc0 := cntL_nonneg (c := (fun _ => 3)) (fun _ => by decide) ys[i].vals
  simp only [cntLine] at hki1
  obtain ⟨es0, e0, T0, hg0, he0, hel0, hTS0, hj0, hch0, hback0⟩ := hh.ch (j := 0) (y := .fz (ys[i].vals.map encV)) hi' (Nat.le_of_ble_eq_true rfl) rfl
  repeat' first | (apply Go.adm; exact rfl) | apply Go.qs | apply Qg.nil | ((first | apply Go.op | apply Go.sop | apply Qg.op); exact rfl; (first | exact rfl | exact aop_iaddrO rfl rfl hni hi' hg0 he0 hel0 | exact aop_loadO rfl hg0 he0 (show 0 + 0 < e0.length by omega))) | (apply Go.no; exact rfl)
  refine Go.call _ rfl rfl rfl ((markValS_ok ys[i].vals ki hb.1 (by omega) (by omega)).at_ _ T0 _ hch0) ?_
  rintro r τ0 ⟨rfl, hn0, hf0, hhc0⟩
  have hh := hback0 τ0 _ hf0 hhc0
  have hfr := fun a (ha : ¬ S a) => (hf0 a (fun h => ha (hTS0 a h))).trans (hfr a ha)
  have hnx := hn0.trans hnx
  obtain ⟨k0, hk0⟩ : ∃ z, ki + cntL (fun _ => 3) ys[i].vals = z := ⟨_, rfl⟩
  rw [hk0]
  clear hg0 he0 hel0 hch0 hback0 hf0 hn0 hhc0
  repeat' first | (apply Go.adm; exact rfl) | apply Go.qs | apply Qg.nil | ((first | apply Go.op | apply Go.sop | apply Qg.op); exact rfl; (first | exact rfl)) | (apply Go.no; exact rfl)
  have hkend : k0 = ki + cntLine ys[i] := by simp only [cntLine]; omega
  refine hnext _ _ rfl (congrArg (fun z => some (AV.c (Ce.int .i64 z))) hkend) rfl hnx hfr ?_
  rw [hset]
  subst hk0
  exact hh
end Go.Proofs.YtcfpdongfdhgjaaGreat.Am

/- The laws' helpers on types, printed by a program: Table, Term, Trigger. -/
set_option linter.unusedVariables false
set_option linter.unusedSimpArgs false
namespace Go.Proofs.YtcfpdongfdhgjaaGreat.Am
def markTable (a : Table) (k : Int) : Table := ⟨mText (k), markL markCol cntCol a.cols (k + 1), markL markI (fun _ => 1) a.key (k + 1 + cntL cntCol a.cols), markL markUniq cntUniq a.uniques (k + 1 + cntL cntCol a.cols + cntL (fun _ => 1) a.key), markL markChk cntChk a.checks (k + 1 + cntL cntCol a.cols + cntL (fun _ => 1) a.key + cntL cntUniq a.uniques), markL markFk cntFk a.fks (k + 1 + cntL cntCol a.cols + cntL (fun _ => 1) a.key + cntL cntUniq a.uniques + cntL cntChk a.checks)⟩
def cntTable (a : Table) : Int := 1 + cntL cntCol a.cols + cntL (fun _ => 1) a.key + cntL cntUniq a.uniques + cntL cntChk a.checks + cntL cntFk a.fks
theorem cntTable_nonneg (a : Table) : 0 ≤ cntTable a := by
  have := cntL_nonneg (c := cntCol) cntCol_nonneg a.cols
  have := cntL_nonneg (c := (fun _ => 1)) (fun _ => by decide) a.key
  have := cntL_nonneg (c := cntUniq) cntUniq_nonneg a.uniques
  have := cntL_nonneg (c := cntChk) cntChk_nonneg a.checks
  have := cntL_nonneg (c := cntFk) cntFk_nonneg a.fks
  simp only [cntTable]
  omega
theorem cntTable_sz (a : Table) (l : Int) (h : 0 ≤ l) (hs : 0 ≤ zTable a l) : cntTable a ≤ 8 * (l - zTable a l) + 8 := by
  have := chain_cnt (fs := [(fun l => l - a.name.length), (szL zCol a.cols), (zI a.key), (szL zUniq a.uniques), (szL zChk a.checks), (szL zFk a.fks)]) (.cons (c := 0) (cnt_str a.name) (.cons (c := cntL cntCol a.cols) (fun q h hs => szL_cnt8 zCol_le cntCol_sz a.cols q h hs) (.cons (c := cntL (fun _ => 1) a.key) (cnt_ints a.key) (.cons (c := cntL cntUniq a.uniques) (fun q h hs => szL_cnt8 zUniq_le cntUniq_sz a.uniques q h hs) (.cons (c := cntL cntChk a.checks) (fun q h hs => szL_cnt8 zChk_le cntChk_sz a.checks q h hs) (.cons (c := cntL cntFk a.fks) (fun q h hs => szL_cnt8 zFk_le cntFk_sz a.fks q h hs) .nil)))))) l h hs
  simp only [cntTable]
  simp only [zTable] at hs ⊢
  omega
theorem markTableS_ok (xs : List Table) (k : Int) (hx : xs.length ≤ 34359738368) (hb : ∀ a ∈ xs, bTable 34359738368 a) (hk0 : 0 ≤ k) (hk : k + cntL cntTable xs ≤ 34359738368) : Marks Tryz.prog 18 (.fz (xs.map encTable)) (.fz ((markL markTable cntTable xs k).map encTable)) k (k + cntL cntTable xs) := by
  refine markS_ok mixed c_laws_markTableS_ok (Nat.le_of_ble_eq_true rfl) (Nat.le_of_ble_eq_true rfl) encTable markTable cntTable cntTable_nonneg xs k hx hk0 hk ?_
  intro n0 rets R K σ τ S x i ni ki ys hi fr hn0 hyl hni hki0 hki1 h0 h1 h5 hmem hh hnext
  have hi' : i < (ys.map encTable).length := by simpa using hi
  have hyi : (ys.map encTable)[i] = encTable ys[i] := by simp
  have hb := hb _ hmem
  obtain ⟨id, v, c, rfl⟩ := hh.shape hi'
  have hh : Has τ S (.fz ((ys.map encTable).set i (encTable ys[i]))) (.sl id v 0 (ys.map encTable).length c) := by rw [← hyi, List.set_getElem_self]; exact hh
  have hfr : ∀ a, ¬ S a → τ.get a = τ.get a := fun _ _ => rfl
  have hnx : τ.next = τ.next := rfl
  refine .same (look_three h0 h1 h5) ?_
  have hset : ∀ q, (ys.set i q).map encTable = (ys.map encTable).set i (encTable q) := fun q => List.map_set
  have hc0 := cntL_nonneg (c := cntCol) cntCol_nonneg ys[i].cols
  have hc1 := cntL_nonneg (c := (fun _ => 1)) (fun _ => by decide) ys[i].key
  have hc2 := cntL_nonneg (c := cntUniq) cntUniq_nonneg ys[i].uniques
  have hc3 := cntL_nonneg (c := cntChk) cntChk_nonneg ys[i].checks
  have hc4 := cntL_nonneg (c := cntFk) cntFk_nonneg ys[i].fks
  simp only [cntTable] at hki1
  obtain ⟨es0, e0, hg0, he0, hel0, hS0, hw0⟩ := hh.wr (j := 0) hi' (Nat.le_of_ble_eq_true rfl)
  have hel0 : e0.length = 6 := hel0
  obtain ⟨hh, hf0, hn0⟩ := hw0 (.str (mText ki)) (.str _)
  have hfr := fun a (ha : ¬ S a) => (hf0 a ha).trans (hfr a ha)
  have hnx := hn0.trans hnx
  repeat' first | (apply Go.adm; exact rfl) | apply Go.qs | apply Qg.nil | ((first | apply Go.op | apply Go.sop | apply Qg.op); exact rfl; (first | exact rfl | exact aop_iaddrO rfl rfl hni hi' hg0 he0 hel0 | exact aop_storeO rfl rfl hg0 he0 (by omega))) | (apply Go.no; exact rfl) | ((first | apply Go.pcall | apply Go.spcall | apply Qg.pcall); (iterate 3 exact rfl); exact markText_ok _ (by omega))
  obtain ⟨k0, hk0⟩ : ∃ z, ki + 1 = z := ⟨_, rfl⟩
  rw [show IntKind.i64.wrap (ki + 1) = k0 by rw [wrap64 (by omega) (by omega)]; exact hk0]
  obtain ⟨es1, e1, T1, hg1, he1, hel1, hTS1, hj1, hch1, hback1⟩ := hh.ch (j := 1) (y := .fz (ys[i].cols.map encCol)) hi' (Nat.le_of_ble_eq_true rfl) rfl
  repeat' first | (apply Go.adm; exact rfl) | apply Go.qs | apply Qg.nil | ((first | apply Go.op | apply Go.sop | apply Qg.op); exact rfl; (first | exact rfl | exact aop_iaddrO rfl rfl hni hi' hg1 he1 hel1 | exact aop_loadO rfl hg1 he1 (show 0 + 1 < e1.length by omega))) | (apply Go.no; exact rfl)
  refine Go.call _ rfl rfl rfl ((markColS_ok ys[i].cols k0 hb.2.1.1 hb.2.1.2 (by omega) (by omega)).at_ _ T1 _ hch1) ?_
  rintro r τ1 ⟨rfl, hn1, hf1, hhc1⟩
  have hh := hback1 τ1 _ hf1 hhc1
  have hfr := fun a (ha : ¬ S a) => (hf1 a (fun h => ha (hTS1 a h))).trans (hfr a ha)
  have hnx := hn1.trans hnx
  obtain ⟨k1, hk1⟩ : ∃ z, k0 + cntL cntCol ys[i].cols = z := ⟨_, rfl⟩
  rw [hk1]
  clear hg1 he1 hel1 hch1 hback1 hf1 hn1 hhc1
  obtain ⟨es2, e2, T2, hg2, he2, hel2, hTS2, hj2, hch2, hback2⟩ := hh.ch (j := 2) (y := .fz (ys[i].key.map encI)) hi' (Nat.le_of_ble_eq_true rfl) rfl
  repeat' first | (apply Go.adm; exact rfl) | apply Go.qs | apply Qg.nil | ((first | apply Go.op | apply Go.sop | apply Qg.op); exact rfl; (first | exact rfl | exact aop_iaddrO rfl rfl hni hi' hg2 he2 hel2 | exact aop_loadO rfl hg2 he2 (show 0 + 2 < e2.length by omega))) | (apply Go.no; exact rfl)
  refine Go.call _ rfl rfl rfl ((markInt64S_ok ys[i].key k1 hb.2.2.1  (by omega) (by omega)).at_ _ T2 _ hch2) ?_
  rintro r τ2 ⟨rfl, hn2, hf2, hhc2⟩
  have hh := hback2 τ2 _ hf2 hhc2
  have hfr := fun a (ha : ¬ S a) => (hf2 a (fun h => ha (hTS2 a h))).trans (hfr a ha)
  have hnx := hn2.trans hnx
  obtain ⟨k2, hk2⟩ : ∃ z, k1 + cntL (fun _ => 1) ys[i].key = z := ⟨_, rfl⟩
  rw [hk2]
  clear hg2 he2 hel2 hch2 hback2 hf2 hn2 hhc2
  obtain ⟨es3, e3, T3, hg3, he3, hel3, hTS3, hj3, hch3, hback3⟩ := hh.ch (j := 3) (y := .fz (ys[i].uniques.map encUniq)) hi' (Nat.le_of_ble_eq_true rfl) rfl
  repeat' first | (apply Go.adm; exact rfl) | apply Go.qs | apply Qg.nil | ((first | apply Go.op | apply Go.sop | apply Qg.op); exact rfl; (first | exact rfl | exact aop_iaddrO rfl rfl hni hi' hg3 he3 hel3 | exact aop_loadO rfl hg3 he3 (show 0 + 3 < e3.length by omega))) | (apply Go.no; exact rfl)
  refine Go.call _ rfl rfl rfl ((markUniqS_ok ys[i].uniques k2 hb.2.2.2.1.1 hb.2.2.2.1.2 (by omega) (by omega)).at_ _ T3 _ hch3) ?_
  rintro r τ3 ⟨rfl, hn3, hf3, hhc3⟩
  have hh := hback3 τ3 _ hf3 hhc3
  have hfr := fun a (ha : ¬ S a) => (hf3 a (fun h => ha (hTS3 a h))).trans (hfr a ha)
  have hnx := hn3.trans hnx
  obtain ⟨k3, hk3⟩ : ∃ z, k2 + cntL cntUniq ys[i].uniques = z := ⟨_, rfl⟩
  rw [hk3]
  clear hg3 he3 hel3 hch3 hback3 hf3 hn3 hhc3
  obtain ⟨es4, e4, T4, hg4, he4, hel4, hTS4, hj4, hch4, hback4⟩ := hh.ch (j := 4) (y := .fz (ys[i].checks.map encChk)) hi' (Nat.le_of_ble_eq_true rfl) rfl
  repeat' first | (apply Go.adm; exact rfl) | apply Go.qs | apply Qg.nil | ((first | apply Go.op | apply Go.sop | apply Qg.op); exact rfl; (first | exact rfl | exact aop_iaddrO rfl rfl hni hi' hg4 he4 hel4 | exact aop_loadO rfl hg4 he4 (show 0 + 4 < e4.length by omega))) | (apply Go.no; exact rfl)
  refine Go.call _ rfl rfl rfl ((markChkS_ok ys[i].checks k3 hb.2.2.2.2.1.1 hb.2.2.2.2.1.2 (by omega) (by omega)).at_ _ T4 _ hch4) ?_
  rintro r τ4 ⟨rfl, hn4, hf4, hhc4⟩
  have hh := hback4 τ4 _ hf4 hhc4
  have hfr := fun a (ha : ¬ S a) => (hf4 a (fun h => ha (hTS4 a h))).trans (hfr a ha)
  have hnx := hn4.trans hnx
  obtain ⟨k4, hk4⟩ : ∃ z, k3 + cntL cntChk ys[i].checks = z := ⟨_, rfl⟩
  rw [hk4]
  clear hg4 he4 hel4 hch4 hback4 hf4 hn4 hhc4
  obtain ⟨es5, e5, T5, hg5, he5, hel5, hTS5, hj5, hch5, hback5⟩ := hh.ch (j := 5) (y := .fz (ys[i].fks.map encFk)) hi' (Nat.le_of_ble_eq_true rfl) rfl
  repeat' first | (apply Go.adm; exact rfl) | apply Go.qs | apply Qg.nil | ((first | apply Go.op | apply Go.sop | apply Qg.op); exact rfl; (first | exact rfl | exact aop_iaddrO rfl rfl hni hi' hg5 he5 hel5 | exact aop_loadO rfl hg5 he5 (show 0 + 5 < e5.length by omega))) | (apply Go.no; exact rfl)
  refine Go.call _ rfl rfl rfl ((markFkS_ok ys[i].fks k4 hb.2.2.2.2.2.1 hb.2.2.2.2.2.2 (by omega) (by omega)).at_ _ T5 _ hch5) ?_
  rintro r τ5 ⟨rfl, hn5, hf5, hhc5⟩
  have hh := hback5 τ5 _ hf5 hhc5
  have hfr := fun a (ha : ¬ S a) => (hf5 a (fun h => ha (hTS5 a h))).trans (hfr a ha)
  have hnx := hn5.trans hnx
  obtain ⟨k5, hk5⟩ : ∃ z, k4 + cntL cntFk ys[i].fks = z := ⟨_, rfl⟩
  rw [hk5]
  clear hg5 he5 hel5 hch5 hback5 hf5 hn5 hhc5
  repeat' first | (apply Go.adm; exact rfl) | apply Go.qs | apply Qg.nil | ((first | apply Go.op | apply Go.sop | apply Qg.op); exact rfl; (first | exact rfl)) | (apply Go.no; exact rfl)
  have hkend : k5 = ki + cntTable ys[i] := by simp only [cntTable]; omega
  refine hnext _ _ rfl (congrArg (fun z => some (AV.c (Ce.int .i64 z))) hkend) rfl hnx hfr ?_
  rw [hset]
  subst hk0 hk1 hk2 hk3 hk4 hk5
  exact hh
end Go.Proofs.YtcfpdongfdhgjaaGreat.Am

/- What the laws with marks have in common. -/
set_option linter.unusedVariables false
set_option linter.unusedSimpArgs false
namespace Go.Proofs.YtcfpdongfdhgjaaGreat.Am

theorem aop_neB {fr : Fr} {σ : Store} {x y : Opd} {b : Bool} (hx : x.ev fr = some (.c (.bool b))) (hy : y.ev fr = some (.c (.bool b))) : aop (.eq true false [.b] x y) fr σ = some (.c (.bool false), σ) := by
  cases b <;> simp [aop, hx, hy, eqKs, eqK]
theorem solid_end {σ : Store} {τ : Store} {b : Bool} : FrzV τ σ.next (.c (.bool b)) (.c (.bool b)) := .refl (by intro y hy; simp [AV.all] at hy; subst hy; exact .bool _)
theorem New.openC {σ τ : Store} {y : Ce} {r : AV} (h : New σ y r τ) : ∃ x, r = .c x ∧ Gr σ τ ∧ Has τ (fun a => σ.next ≤ a ∧ a < τ.next) y x := by
  obtain ⟨x, l, rfl, rfl, ht, hh⟩ := h
  exact ⟨x, rfl, ⟨l, rfl, ht⟩, hh⟩
theorem NewL.openC {σ τ : Store} {ys : List Ce} {r : AV} (h : NewL σ ys r τ) : ∃ xs, r = .agg xs ∧ Gr σ τ ∧ HasL τ (fun a => σ.next ≤ a ∧ a < τ.next) ys xs := by
  obtain ⟨x, l, rfl, rfl, ht, hh⟩ := h
  exact ⟨x, rfl, ⟨l, rfl, ht⟩, hh⟩
theorem has_flat {σ : Store} {S : Nat → Prop} {y x : Ce} (hf : Flat y) (h : Has σ S y x) : x = y := by
  cases hf <;> (cases h; rfl)
theorem hasV_flat {σ : Store} {S : Nat → Prop} {y : Ce} {x : AV} (hf : Flat y) (h : HasV σ S (.c y) x) : x = .c y := by
  cases h with
  | c h => rw [has_flat hf h]
theorem newtup_open {σ τ : Store} {ys : List AV} {r : AV} (h : NewV σ (.tup ys) r τ) : ∃ xs, ∃ U : Nat → Nat → Prop, ∃ hl : xs.length = ys.length, r = .tup xs ∧ Gr σ τ ∧ (∀ i a, U i a → σ.next ≤ a ∧ a < τ.next) ∧ ∀ i (hy : i < ys.length) (hx : i < xs.length), HasV τ (U i) ys[i] xs[i] := by
  obtain ⟨hg, hh⟩ := h
  generalize hy0 : AV.tup ys = y0 at hh
  cases hh with
  | c h => cases hy0
  | agg h => cases hy0
  | @tup S ys' xs U hl hU hd h =>
    injection hy0 with hy0
    subst hy0
    exact ⟨xs, U, hl, rfl, hg, fun i a ha => hU i a ha, h⟩
theorem new2_open {σ τ : Store} {y f : Ce} {r : AV} (hf : Flat f) (h : NewV σ (.tup [.c y, .c f]) r τ) : ∃ x, r = .tup [.c x, .c f] ∧ Gr σ τ ∧ Has τ (fun a => σ.next ≤ a ∧ a < τ.next) y x := by
  obtain ⟨xs, U, hl, rfl, hg, hU, h⟩ := newtup_open h
  match xs, hl with
  | [x1, x2], _ =>
    have h1 := h 0 (by simp) (by simp)
    have h2 := h 1 (by simp) (by simp)
    simp only [List.getElem_cons_zero, List.getElem_cons_succ] at h1 h2
    obtain rfl := hasV_flat hf h2
    cases h1 with
    | c h1 => exact ⟨_, rfl, hg, h1.mono fun a ha => hU 0 a ha⟩
theorem hv_flat {τ : Store} {S : Nat → Prop} {f : Ce} (h : Flat f) : HasV τ S (.c f) (.c f) := .c (.c h)
theorem newPair {σ τ : Store} {y x f : Ce} (hf : Flat f) (h : NewV σ (.c y) (.c x) τ) : NewV σ (.tup [.c y, .c f]) (.tup [.c x, .c f]) τ :=
  ⟨h.1, .pair h.2 (hv_flat (S := fun _ => False) hf) (fun _ h => h) (fun _ h => h.elim) (fun _ _ h => h)⟩
theorem newNil {σ τ : Store} (g : Gr σ τ) : NewV σ (.c (.fz [])) (.c .nils) τ := ⟨g, .c .nil⟩
theorem newVec {σ : Store} {v : Nat} {s : Nat} {ys junk : List (List Ce)} (hy : ∀ e ∈ ys, e.length = s ∧ ∀ x ∈ e, Flat x) (hj : Jk s junk) : NewV σ (.c (.fz ys)) (.c (vec (σ.next + 0) v ys junk)) (E σ [(v, ys ++ junk)]) :=
  (Made.new hy (r := .c (vec (σ.next + 0) v ys junk)) ⟨v, junk, hj, rfl, rfl⟩).v
end Go.Proofs.YtcfpdongfdhgjaaGreat.Am

/- Names and expressions: what the program and its reference say of them. -/
set_option linter.unusedVariables false
set_option linter.unusedSimpArgs false
namespace Go.Proofs.YtcfpdongfdhgjaaGreat.Am

theorem aop_idxS {fr : Fr} {σ : Store} {x y : Opd} {kd : IntKind} {s : List UInt8} {z : Int} {n : Nat} (hx : x.ev fr = some (.c (.str s))) (hy : y.ev fr = some (.c (.int kd z))) (hz : z = (n : Int)) (hn : n < s.length) : aop (.idx x y) fr σ = some (.c (.int .u8 (s[n].toNat : Int)), σ) := by
  subst hz
  simp [aop, hx, hy, hn]
def letter (c : UInt8) : Bool := decide (97 ≤ c.toNat) && decide (c.toNat ≤ 122)
def isNameF (s : List UInt8) : Bool := s.all letter && isIn s.length 1 8
theorem isName_ok (s : List UInt8) (hx : s.length ≤ 34359738368) : Pure Tryz.prog 144 [.c (.str s)] (.c (.bool (isNameF s))) := by
  refine Pure.run mixed c_impl_isName_ok (Nat.le_of_ble_eq_true rfl) fun σ hS hA => ?_
  clear hS hA
  repeat' first | (apply Go.adm; exact rfl) | apply Go.qs | apply Qg.nil | ((first | apply Go.v2 | apply Go.v1); (first | exact leAdd | assumption); iterate 6 exact rfl) | ((first | apply Go.op | apply Go.sop | apply Qg.op); exact rfl; (first | exact aop_alloc | exact aop_new rfl rfl | exact aop_mksl rfl | exact aop_lenM rfl | exact rfl | exact aL rfl rfl rfl rfl rfl | exact aS rfl rfl rfl rfl rfl rfl rfl)) | ((first | apply Go.no | apply Go.sno | apply Qg.no); exact rfl) | (exfalso; omega) | (((first | apply Go.iQ | apply Go.gQ | apply Go.sQ | apply Qg.gQ); exact rfl; (first | exact .d | exact .e | exact .n | ((fail_if_success exact bqt); (fail_if_success exact bqf); exact .b))) <;> intro _)
  refine Go.keep [0, 5, 6] (Go.loops (I := fun m fr τ => ∃ i : Nat, ∃ n : Int, m = s.length - i ∧ i ≤ s.length ∧ n = i ∧ s.all letter = (s.drop i).all letter ∧
    fr = [(0, .c (.str s)), (5, .c (.int .i64 (s.length : Int))), (6, .c (.int .i64 n))] ∧ τ = E σ []) ?_ _ _ _ ⟨0, _, rfl, Nat.zero_le _, rfl, rfl, rfl, rfl⟩)
  rintro m fr τ ⟨i, n, rfl, hi, hn, hs, rfl, rfl⟩ hrec
  by_cases hlt : i < s.length
  · have hd := List.drop_eq_getElem_cons hlt
    repeat' first | (apply Go.adm; exact rfl) | apply Go.qs | apply Qg.nil | ((first | apply Go.v2 | apply Go.v1); (first | exact leAdd | assumption); iterate 6 exact rfl) | ((first | apply Go.op | apply Go.sop | apply Qg.op); exact rfl; (first | exact aop_alloc | exact aop_new rfl rfl | exact aop_mksl rfl | exact aop_lenM rfl | exact rfl | exact aL rfl rfl rfl rfl rfl | exact aS rfl rfl rfl rfl rfl rfl rfl | exact aop_idxS rfl rfl hn hlt)) | ((first | apply Go.no | apply Go.sno | apply Qg.no); exact rfl) | (exfalso; omega) | (((first | apply Go.iQ | apply Go.gQ | apply Go.sQ | apply Qg.gQ); exact rfl; (first | exact .d | exact .e | exact .n | ((fail_if_success exact bqt); (fail_if_success exact bqf); exact .b))) <;> intro _)
    · refine .ret rfl (.bool ?_)
      rename_i h
      rw [isNameF, hs, hd, List.all_cons, letter, decide_eq_false (by omega)]
      rfl
    · refine .ret rfl (.bool ?_)
      rename_i h h2
      rw [isNameF, hs, hd, List.all_cons, letter, decide_eq_false (p := s[i].toNat ≤ 122) (by omega)]
      simp
    · rename_i h h2
      refine Go.keep [0, 5, 6] (hrec _ _ _ (by omega) ⟨i + 1, _, rfl, hlt, wrap_succ hn (by omega), ?_, rfl, rfl⟩)
      rw [hs, hd, List.all_cons, letter, decide_eq_true (by omega), decide_eq_true (by omega)]
      rfl
  · repeat' first | (apply Go.adm; exact rfl) | apply Go.qs | apply Qg.nil | ((first | apply Go.v2 | apply Go.v1); (first | exact leAdd | assumption); iterate 6 exact rfl) | ((first | apply Go.op | apply Go.sop | apply Qg.op); exact rfl; (first | exact aop_alloc | exact aop_new rfl rfl | exact aop_mksl rfl | exact aop_lenM rfl | exact rfl | exact aL rfl rfl rfl rfl rfl | exact aS rfl rfl rfl rfl rfl rfl rfl)) | ((first | apply Go.no | apply Go.sno | apply Qg.no); exact rfl) | ((first | apply Go.pcall | apply Go.spcall | apply Qg.pcall); (iterate 3 exact rfl); exact in_ok _ _ _) | (exfalso; omega) | (((first | apply Go.iQ | apply Go.gQ | apply Go.sQ | apply Qg.gQ); exact rfl; (first | exact .d | exact .e | exact .n | ((fail_if_success exact bqt); (fail_if_success exact bqf); exact .b))) <;> intro _)
    refine .ret rfl (.bool ?_)
    rw [isNameF, hs, List.drop_eq_nil_of_le (by omega)]
    rfl
theorem l3Name_ok (s : List UInt8) (hx : s.length ≤ 34359738368) : Pure Tryz.prog 138 [.c (.str s)] (.c (.bool (isNameF s))) := by
  refine Pure.run mixed c_spec_l3Name_ok (Nat.le_of_ble_eq_true rfl) fun σ hS hA => ?_
  clear hS hA
  repeat' first | (apply Go.adm; exact rfl) | apply Go.qs | apply Qg.nil | ((first | apply Go.v2 | apply Go.v1); (first | exact leAdd | assumption); iterate 6 exact rfl) | ((first | apply Go.op | apply Go.sop | apply Qg.op); exact rfl; (first | exact aop_alloc | exact aop_new rfl rfl | exact aop_mksl rfl | exact aop_lenM rfl | exact rfl | exact aL rfl rfl rfl rfl rfl | exact aS rfl rfl rfl rfl rfl rfl rfl)) | ((first | apply Go.no | apply Go.sno | apply Qg.no); exact rfl) | (exfalso; omega) | (((first | apply Go.iQ | apply Go.gQ | apply Go.sQ | apply Qg.gQ); exact rfl; (first | exact .d | exact .e | exact .n | ((fail_if_success exact bqt); (fail_if_success exact bqf); exact .b))) <;> intro _)
  refine Go.keep [0, 3] (Go.loops (I := fun m fr τ => ∃ i : Nat, ∃ n : Int, m = s.length - i ∧ i ≤ s.length ∧ n = i ∧ s.all letter = (s.drop i).all letter ∧
    fr = [(0, .c (.str s)), (3, .c (.int .i64 n))] ∧ τ = E σ []) ?_ _ _ _ ⟨0, _, rfl, Nat.zero_le _, rfl, rfl, rfl, rfl⟩)
  rintro m fr τ ⟨i, n, rfl, hi, hn, hs, rfl, rfl⟩ hrec
  by_cases hlt : i < s.length
  · have hd := List.drop_eq_getElem_cons hlt
    repeat' first | (apply Go.adm; exact rfl) | apply Go.qs | apply Qg.nil | ((first | apply Go.v2 | apply Go.v1); (first | exact leAdd | assumption); iterate 6 exact rfl) | ((first | apply Go.op | apply Go.sop | apply Qg.op); exact rfl; (first | exact aop_alloc | exact aop_new rfl rfl | exact aop_mksl rfl | exact aop_lenM rfl | exact rfl | exact aL rfl rfl rfl rfl rfl | exact aS rfl rfl rfl rfl rfl rfl rfl | exact aop_idxS rfl rfl hn hlt)) | ((first | apply Go.no | apply Go.sno | apply Qg.no); exact rfl) | (exfalso; omega) | (((first | apply Go.iQ | apply Go.gQ | apply Go.sQ | apply Qg.gQ); exact rfl; (first | exact .d | exact .e | exact .n | ((fail_if_success exact bqt); (fail_if_success exact bqf); exact .b))) <;> intro _)
    · refine .ret rfl (.bool ?_)
      rename_i h
      rw [isNameF, hs, hd, List.all_cons, letter, decide_eq_false (by omega)]
      rfl
    · refine .ret rfl (.bool ?_)
      rename_i h h2
      rw [isNameF, hs, hd, List.all_cons, letter, decide_eq_false (p := s[i].toNat ≤ 122) (by omega)]
      simp
    · rename_i h h2
      refine Go.keep [0, 3] (hrec _ _ _ (by omega) ⟨i + 1, _, rfl, hlt, wrap_succ hn (by omega), ?_, rfl, rfl⟩)
      rw [hs, hd, List.all_cons, letter, decide_eq_true (by omega), decide_eq_true (by omega)]
      rfl
  · repeat' first | (apply Go.adm; exact rfl) | apply Go.qs | apply Qg.nil | ((first | apply Go.v2 | apply Go.v1); (first | exact leAdd | assumption); iterate 6 exact rfl) | ((first | apply Go.op | apply Go.sop | apply Qg.op); exact rfl; (first | exact aop_alloc | exact aop_new rfl rfl | exact aop_mksl rfl | exact aop_lenM rfl | exact rfl | exact aL rfl rfl rfl rfl rfl | exact aS rfl rfl rfl rfl rfl rfl rfl)) | ((first | apply Go.no | apply Go.sno | apply Qg.no); exact rfl) | ((first | apply Go.pcall | apply Go.spcall | apply Qg.pcall); (iterate 3 exact rfl); exact l1In_ok _ _ _) | (exfalso; omega) | (((first | apply Go.iQ | apply Go.gQ | apply Go.sQ | apply Qg.gQ); exact rfl; (first | exact .d | exact .e | exact .n | ((fail_if_success exact bqt); (fail_if_success exact bqf); exact .b))) <;> intro _)
    refine .ret rfl (.bool ?_)
    rw [isNameF, hs, List.drop_eq_nil_of_le (by omega)]
    rfl

/-! ### Expressions -/
def tokTakes (t : Tok) : Int := if t.kind = 1 ∨ t.kind = 2 then 0 else if t.kind = 7 ∨ t.kind = 8 then 1 else 2
def vz (v : Val) : Bool := v.k == 0 && (v.n == 0 && v.s == [])
def isTokF (t : Tok) (n : Int) : Bool := if t.kind = 1 then isIn t.col 0 (n - 1) && vz t.v else if t.kind = 2 then t.col == 0 && okVal t.v else isIn t.kind 3 10 && t.col == 0 && vz t.v
theorem takes_ok (t : Tok) : Pure Tryz.prog 215 [.agg (encTok t)] (.c (.int .i64 (tokTakes t))) := by
  refine Pure.run mixed c_impl_Tok_takes_ok (Nat.le_of_ble_eq_true rfl) fun σ hS hA => ?_
  clear hS hA
  repeat' first | (apply Go.adm; exact rfl) | apply Go.qs | apply Qg.nil | ((first | apply Go.v2 | apply Go.v1); (first | exact leAdd | assumption); iterate 6 exact rfl) | ((first | apply Go.op | apply Go.sop | apply Qg.op); exact rfl; (first | exact aop_alloc | exact aop_new rfl rfl | exact aop_mksl rfl | exact aop_lenM rfl | exact rfl | exact aL rfl rfl rfl rfl rfl | exact aS rfl rfl rfl rfl rfl rfl rfl)) | ((first | apply Go.no | apply Go.sno | apply Qg.no); exact rfl) | (exfalso; omega) | (((first | apply Go.iQ | apply Go.gQ | apply Go.sQ | apply Qg.gQ); exact rfl; (first | exact .d | exact .e | exact .n | ((fail_if_success exact bqt); (fail_if_success exact bqf); exact .b))) <;> intro _)
  all_goals refine .ret rfl (.int ?_)
  all_goals simp_all [tokTakes]
theorem isTok_ok (t : Tok) (n : Int) (h0 : -4611686018427387904 ≤ n) (h1 : n ≤ 4611686018427387904) : Pure Tryz.prog 214 [.agg (encTok t), .c (.int .i64 n)] (.c (.bool (isTokF t n))) := by
  refine Pure.run mixed c_impl_isTok_ok (Nat.le_of_ble_eq_true rfl) fun σ hS hA => ?_
  clear hS hA
  have hw : IntKind.i64.wrap (n - 1) = n - 1 := wrap64 (by omega) (by omega)
  repeat' first | (apply Go.adm; exact rfl) | apply Go.qs | apply Qg.nil | ((first | apply Go.v2 | apply Go.v1); (first | exact leAdd | assumption); iterate 6 exact rfl) | ((first | apply Go.op | apply Go.sop | apply Qg.op); exact rfl; (first | exact aop_alloc | exact aop_new rfl rfl | exact aop_mksl rfl | exact aop_lenM rfl | exact rfl | exact aL rfl rfl rfl rfl rfl | exact aS rfl rfl rfl rfl rfl rfl rfl)) | ((first | apply Go.no | apply Go.sno | apply Qg.no); exact rfl) | ((first | apply Go.pcallB | apply Go.spcallB | apply Qg.pcallB); (iterate 3 exact rfl); (first | exact in_ok _ _ _ | exact ValOk_ok _); intro _ _) | (exfalso; omega) | (((first | apply Go.iQ | apply Go.gQ | apply Go.sQ | apply Qg.gQ); exact rfl; (first | exact .d | exact .e | exact .n | ((fail_if_success exact bqt); (fail_if_success exact bqf); exact .b))) <;> intro _)
  all_goals refine .ret rfl (.bool ?_)
  all_goals simp_all [isTokF, vz]
end Go.Proofs.YtcfpdongfdhgjaaGreat.Am

/- Expressions and lists of columns. -/
set_option linter.unusedVariables false
set_option linter.unusedSimpArgs false
namespace Go.Proofs.YtcfpdongfdhgjaaGreat.Am

theorem nbT {x b : Bool} (h : x = b) (k : (!b) = true) : x = false := by cases b <;> simp_all
theorem nbF {x b : Bool} (h : x = b) (k : (!b) = false) : x = true := by cases b <;> simp_all
theorem bT {x b : Bool} (h : x = b) (k : b = true) : x = true := h.trans k
theorem bF {x b : Bool} (h : x = b) (k : b = false) : x = false := h.trans k
def takesF (t : Tok) (n : Int) : Int := if isTokF t n then tokTakes t else -1
theorem isIn_310 {k : Int} : isIn k 3 10 = true ↔ (k = 3 ∨ k = 4 ∨ k = 5 ∨ k = 6 ∨ k = 7 ∨ k = 8 ∨ k = 9 ∨ k = 10) := by
  simp only [isIn, Bool.and_eq_true, decide_eq_true_eq]
  omega
theorem l2Takes_ok (t : Tok) (n : Int) (h0 : -4611686018427387904 ≤ n) (h1 : n ≤ 4611686018427387904) : Pure Tryz.prog 201 [.agg (encTok t), .c (.int .i64 n)] (.c (.int .i64 (takesF t n))) := by
  refine Pure.run mixed c_spec_l2Takes_ok (Nat.le_of_ble_eq_true rfl) fun σ hS hA => ?_
  clear hS hA
  have hw : IntKind.i64.wrap (n - 1) = n - 1 := wrap64 (by omega) (by omega)
  have h310 := @isIn_310 t.kind
  repeat' first | (apply Go.adm; exact rfl) | apply Go.qs | apply Qg.nil | ((first | apply Go.v2 | apply Go.v1); (first | exact leAdd | assumption); iterate 6 exact rfl) | ((first | apply Go.op | apply Go.sop | apply Qg.op); exact rfl; (first | exact aop_alloc | exact aop_new rfl rfl | exact aop_mksl rfl | exact aop_lenM rfl | exact rfl | exact aL rfl rfl rfl rfl rfl | exact aS rfl rfl rfl rfl rfl rfl rfl)) | ((first | apply Go.no | apply Go.sno | apply Qg.no); exact rfl) | ((first | apply Go.pcallB | apply Go.spcallB | apply Qg.pcallB); (iterate 3 exact rfl); (first | exact l1In_ok _ _ _ | exact sValOk_ok _); intro _ _) | (exfalso; omega) | (((first | apply Go.iQ | apply Go.gQ | apply Go.sQ | apply Qg.gQ); exact rfl; (first | exact .d | exact .e | exact .n | ((fail_if_success exact bqt); (fail_if_success exact bqf); exact .b))) <;> intro _)
  all_goals refine .ret rfl (.int ?_)
  all_goals first
    | (simp_all [takesF, isTokF, vz, tokTakes]; done)
    | (cases hk : isIn t.kind 3 10 <;> simp_all [takesF, isTokF, vz, tokTakes]; done)
    | (rename_i hl; have hz : vz t.v = false := (by cases h : vz t.v; (· rfl); (· exfalso; simp [vz] at h; simp [h] at hl)); clear hl; simp_all [takesF, isTokF]; done)
def exprAux (n : Int) : Int → List Tok → Bool
  | left, [] => left == 1
  | left, t :: r => isTokF t n && decide (tokTakes t ≤ left) && exprAux n (left + 1 - tokTakes t) r
theorem tokTakes_range (t : Tok) : 0 ≤ tokTakes t ∧ tokTakes t ≤ 2 := by
  simp only [tokTakes]
  split
  · omega
  · split <;> omega
theorem ExprOk_ok (e : List Tok) (n : Int) (hx : e.length ≤ 34359738368) : Pure Tryz.prog 118 [.c (.fz (e.map encTok)), .c (.int .i64 n)] (.c (.bool (decide ((e.length : Int) ≤ 24) && isIn n 0 16 && exprAux n 0 e))) := by
  refine Pure.run mixed c_impl_ExprOk_ok (Nat.le_of_ble_eq_true rfl) fun σ hS hA => ?_
  clear hS hA
  repeat' first | (apply Go.adm; exact rfl) | apply Go.qs | apply Qg.nil | ((first | apply Go.v2 | apply Go.v1); (first | exact leAdd | assumption); iterate 6 exact rfl) | ((first | apply Go.op | apply Go.sop | apply Qg.op); exact rfl; (first | exact aop_alloc | exact aop_new rfl rfl | exact aop_mksl rfl | exact aop_lenM rfl | exact rfl | exact aL rfl rfl rfl rfl rfl | exact aS rfl rfl rfl rfl rfl rfl rfl)) | ((first | apply Go.no | apply Go.sno | apply Qg.no); exact rfl) | ((first | apply Go.pcallB | apply Go.spcallB | apply Qg.pcallB); (iterate 3 exact rfl); exact in_ok _ _ _; intro _ _) | (exfalso; omega) | (((first | apply Go.iQ | apply Go.gQ | apply Go.sQ | apply Qg.gQ); exact rfl; (first | exact .d | exact .e | exact .n | ((fail_if_success exact bqt); (fail_if_success exact bqf); exact .b))) <;> intro _)
  · refine .ret rfl (.bool ?_)
    rename_i h
    rw [decide_eq_false (by omega)]
    rfl
  · refine .ret rfl (.bool ?_)
    simp_all
  rename_i hl b hb hn
  have hn16 : 0 ≤ n ∧ n ≤ 16 := by
    have : isIn n 0 16 = true := by simp_all
    simpa [isIn] using this
  refine Go.keep [1, 5, 16, 17, 18] (Go.loops (I := fun m fr τ => ∃ i : Nat, ∃ k l : Int, m = e.length - i ∧ i ≤ e.length ∧ k = i ∧ (0 ≤ l ∧ l ≤ i ∧ exprAux n 0 e = exprAux n l (e.drop i)) ∧
    fr = [(1, .c (.int .i64 n)), (5, .c (.int .i64 l)), (16, .c (.fz (e.map encTok))), (17, .c (.int .i64 (e.length : Int))), (18, .c (.int .i64 k))] ∧ τ = E σ []) ?_ _ _ _ ⟨0, _, _, rfl, Nat.zero_le _, rfl, ⟨Int.le_refl _, by simp, rfl⟩, rfl, rfl⟩)
  rintro m fr τ ⟨i, k, l, rfl, hi, hk, ⟨hl0, hl1, hsl⟩, rfl, rfl⟩ hrec
  have hres : (decide ((e.length : Int) ≤ 24) && isIn n 0 16 && exprAux n 0 e) = exprAux n 0 e := by
    rw [decide_eq_true (p := (e.length : Int) ≤ 24) (by omega), hb]
    cases b
    · simp at hn
    · simp
  by_cases hlt : i < e.length
  · have hd := List.drop_eq_getElem_cons hlt
    have ht := tokTakes_range e[i]
    repeat' first | (apply Go.adm; exact rfl) | apply Go.qs | apply Qg.nil | ((first | apply Go.v2 | apply Go.v1); (first | exact leAdd | assumption); iterate 6 exact rfl) | ((first | apply Go.op | apply Go.sop | apply Qg.op); exact rfl; (first | exact aop_alloc | exact aop_new rfl rfl | exact aop_mksl rfl | exact aop_lenM rfl | exact rfl | exact aL rfl rfl rfl rfl rfl | exact aS rfl rfl rfl rfl rfl rfl rfl | exact aop_iaddrM (enc := encTok) rfl rfl hk hlt rfl)) | ((first | apply Go.no | apply Go.sno | apply Qg.no); exact rfl) | ((first | apply Go.pcall | apply Go.spcall | apply Qg.pcall); (iterate 3 exact rfl); exact takes_ok e[i]) | ((first | apply Go.pcallB | apply Go.spcallB | apply Qg.pcallB); (iterate 3 exact rfl); exact isTok_ok e[i] n (by omega) (by omega); intro _ _) | (exfalso; omega) | (((first | apply Go.iQ | apply Go.gQ | apply Go.sQ | apply Qg.gQ); exact rfl; (first | exact .d | exact .e | exact .n | ((fail_if_success exact bqt); (fail_if_success exact bqf); exact .b))) <;> intro _)
    · refine .ret rfl (.bool ?_)
      rename_i b1 hb1 hb2
      rw [hres, hsl, hd, exprAux, nbT hb1 hb2]
      rfl
    · refine .ret rfl (.bool ?_)
      rename_i h
      rw [hres, hsl, hd, exprAux, decide_eq_false (p := tokTakes e[i] ≤ l) (by omega)]
      simp
    · rename_i b1 hb1 hb2 h
      have w1 : IntKind.i64.wrap (1 - tokTakes e[i]) = 1 - tokTakes e[i] := wrap64 (by omega) (by omega)
      have w2 : IntKind.i64.wrap (l + (1 - tokTakes e[i])) = l + 1 - tokTakes e[i] := by rw [wrap64 (by omega) (by omega)]; omega
      refine Go.keep [1, 5, 16, 17, 18] (hrec _ _ _ (by omega) ⟨i + 1, _, _, rfl, hlt, wrap_succ hk (by omega), ⟨?_, ?_, ?_⟩, rfl, rfl⟩)
      · rw [w1, w2]; omega
      · rw [w1, w2]; omega
      · rw [w1, w2, hsl, hd, exprAux, decide_eq_true (p := tokTakes e[i] ≤ l) (by omega)]
        rw [nbF hb1 hb2]
        rfl
  · repeat' first | (apply Go.adm; exact rfl) | apply Go.qs | apply Qg.nil | ((first | apply Go.v2 | apply Go.v1); (first | exact leAdd | assumption); iterate 6 exact rfl) | ((first | apply Go.op | apply Go.sop | apply Qg.op); exact rfl; (first | exact aop_alloc | exact aop_new rfl rfl | exact aop_mksl rfl | exact aop_lenM rfl | exact rfl | exact aL rfl rfl rfl rfl rfl | exact aS rfl rfl rfl rfl rfl rfl rfl)) | ((first | apply Go.no | apply Go.sno | apply Qg.no); exact rfl) | (exfalso; omega) | (((first | apply Go.iQ | apply Go.gQ | apply Go.sQ | apply Qg.gQ); exact rfl; (first | exact .d | exact .e | exact .n | ((fail_if_success exact bqt); (fail_if_success exact bqf); exact .b))) <;> intro _)
    refine .ret rfl (.bool ?_)
    rw [hres, hsl, List.drop_eq_nil_of_le (by omega)]
    rfl
theorem l2Expr_ok (e : List Tok) (n : Int) (hx : e.length ≤ 34359738368) (h0 : -4611686018427387904 ≤ n) (h1 : n ≤ 4611686018427387904) : Pure Tryz.prog 91 [.c (.fz (e.map encTok)), .c (.int .i64 n)] (.c (.bool (decide ((e.length : Int) ≤ 24) && exprAux n 0 e))) := by
  refine Pure.run mixed c_spec_l2Expr_ok (Nat.le_of_ble_eq_true rfl) fun σ hS hA => ?_
  clear hS hA
  repeat' first | (apply Go.adm; exact rfl) | apply Go.qs | apply Qg.nil | ((first | apply Go.v2 | apply Go.v1); (first | exact leAdd | assumption); iterate 6 exact rfl) | ((first | apply Go.op | apply Go.sop | apply Qg.op); exact rfl; (first | exact aop_alloc | exact aop_new rfl rfl | exact aop_mksl rfl | exact aop_lenM rfl | exact rfl | exact aL rfl rfl rfl rfl rfl | exact aS rfl rfl rfl rfl rfl rfl rfl)) | ((first | apply Go.no | apply Go.sno | apply Qg.no); exact rfl) | (exfalso; omega) | (((first | apply Go.iQ | apply Go.gQ | apply Go.sQ | apply Qg.gQ); exact rfl; (first | exact .d | exact .e | exact .n | ((fail_if_success exact bqt); (fail_if_success exact bqf); exact .b))) <;> intro _)
  refine Go.keep [0, 1, 5, 6] (Go.loops (I := fun m fr τ => ∃ i : Nat, ∃ k l : Int, m = e.length - i ∧ i ≤ e.length ∧ k = i ∧ (0 ≤ l ∧ l ≤ i ∧ exprAux n 0 e = exprAux n l (e.drop i)) ∧
    fr = [(0, .c (.fz (e.map encTok))), (1, .c (.int .i64 n)), (5, .c (.int .i64 l)), (6, .c (.int .i64 k))] ∧ τ = E σ []) ?_ _ _ _ ⟨0, _, _, rfl, Nat.zero_le _, rfl, ⟨Int.le_refl _, by simp, rfl⟩, rfl, rfl⟩)
  rintro m fr τ ⟨i, k, l, rfl, hi, hk, ⟨hl0, hl1, hsl⟩, rfl, rfl⟩ hrec
  by_cases hlt : i < e.length
  · have hd := List.drop_eq_getElem_cons hlt
    have ht := tokTakes_range e[i]
    have neg : (isTokF e[i] n = false ∨ ¬ tokTakes e[i] ≤ l) → (decide ((e.length : Int) ≤ 24) && exprAux n 0 e) = false := by
      intro h
      rw [hsl, hd, exprAux]
      rcases h with h | h
      · simp [h]
      · rw [decide_eq_false (p := tokTakes e[i] ≤ l) h]; simp
    repeat' first | (apply Go.adm; exact rfl) | apply Go.qs | apply Qg.nil | ((first | apply Go.v2 | apply Go.v1); (first | exact leAdd | assumption); iterate 6 exact rfl) | ((first | apply Go.op | apply Go.sop | apply Qg.op); exact rfl; (first | exact aop_alloc | exact aop_new rfl rfl | exact aop_mksl rfl | exact aop_lenM rfl | exact rfl | exact aL rfl rfl rfl rfl rfl | exact aS rfl rfl rfl rfl rfl rfl rfl | exact aop_iaddrM (enc := encTok) rfl rfl hk hlt rfl)) | ((first | apply Go.no | apply Go.sno | apply Qg.no); exact rfl) | ((first | apply Go.pcallI | apply Go.spcallI | apply Qg.pcallI); (iterate 3 exact rfl); exact l2Takes_ok e[i] n h0 h1; intro _ _) | (exfalso; omega) | (((first | apply Go.iQ | apply Go.gQ | apply Go.sQ | apply Qg.gQ); exact rfl; (first | exact .d | exact .e | exact .n | ((fail_if_success exact bqt); (fail_if_success exact bqf); exact .b))) <;> intro _)
    · refine .ret rfl (.bool ?_)
      rename_i q hq h
      refine (neg (.inl ?_)).symm
      cases hc : isTokF e[i] n
      · rfl
      · simp only [takesF, hc, if_true] at hq; omega
    · refine .ret rfl (.bool ?_)
      rename_i q hq h h2
      refine (neg (.inr ?_)).symm
      simp only [takesF] at hq
      split at hq <;> omega
    · rename_i q hq h h2
      have hc : isTokF e[i] n = true ∧ tokTakes e[i] = q := by
        simp only [takesF] at hq
        split at hq
        · exact ⟨by assumption, hq⟩
        · omega
      have w1 : IntKind.i64.wrap (l - q) = l - q := wrap64 (by omega) (by omega)
      have w2 : IntKind.i64.wrap (l - q + 1) = l + 1 - tokTakes e[i] := by rw [wrap64 (by omega) (by omega)]; omega
      refine Go.keep [0, 1, 5, 6] (hrec _ _ _ (by omega) ⟨i + 1, _, _, rfl, hlt, wrap_succ hk (by omega), ⟨?_, ?_, ?_⟩, rfl, rfl⟩)
      · rw [w1, w2]; omega
      · rw [w1, w2]; omega
      · rw [w1, w2, hsl, hd, exprAux, decide_eq_true (p := tokTakes e[i] ≤ l) (by omega), hc.1]
        rfl
  · have hfin : exprAux n 0 e = (l == 1) := by
      rw [hsl, List.drop_eq_nil_of_le (by omega)]
      rfl
    repeat' first | (apply Go.adm; exact rfl) | apply Go.qs | apply Qg.nil | ((first | apply Go.v2 | apply Go.v1); (first | exact leAdd | assumption); iterate 6 exact rfl) | ((first | apply Go.op | apply Go.sop | apply Qg.op); exact rfl; (first | exact aop_alloc | exact aop_new rfl rfl | exact aop_mksl rfl | exact aop_lenM rfl | exact rfl | exact aL rfl rfl rfl rfl rfl | exact aS rfl rfl rfl rfl rfl rfl rfl)) | ((first | apply Go.no | apply Go.sno | apply Qg.no); exact rfl) | (exfalso; omega) | (((first | apply Go.iQ | apply Go.gQ | apply Go.sQ | apply Qg.gQ); exact rfl; (first | exact .d | exact .e | exact .n | ((fail_if_success exact bqt); (fail_if_success exact bqf); exact .b))) <;> intro _)
    all_goals refine .ret rfl (.bool ?_)
    all_goals rw [hfin]
    all_goals clear hrec hfin hsl
    all_goals simp_all
/-! ### Lists of columns -/
def colsAux (n : Int) : List Int → List Int → Bool
  | _, [] => true
  | pre, c :: r => isIn c 0 (n - 1) && !(pre.any fun a => c == a) && colsAux n (pre ++ [c]) r
def colsF (l : List Int) (n : Int) : Bool := colsAux n [] l && decide (0 < (l.length : Int))
theorem aop_sliceF {fr : Fr} {σ : Store} {s : Nat} {x hi : Opd} {kd : IntKind} {es : List (List Ce)} {z : Int} {n : Nat} (hx : x.ev fr = some (.c (.fz es))) (hy : hi.ev fr = some (.c (.int kd z))) (hz : z = (n : Int)) (hn : n ≤ es.length) (hs : ∀ e ∈ es, e.length = s) : aop (.slice s x none (some hi) none) fr σ = some (.c (.fz (es.take n)), σ) := by
  have : sliceA σ s (.fz es) none (some (.c (.int kd z))) none = some (.fz (es.take n)) := by
    subst hz
    simp only [sliceA, bound]
    rw [if_pos (by omega)]
    simp only [Int.toNat_natCast]
    rw [if_pos ⟨Nat.zero_le _, hn, hs⟩, List.drop_zero]
  simp only [aop, hx, evo, hy, Option.map_some, this]
theorem encI_len {l : List Int} : ∀ e ∈ l.map encI, e.length = 1 := fun e he => (flatI l e he).1
theorem areColumns_ok (l : List Int) (n : Int) (hx : l.length ≤ 34359738368) (h0 : -4611686018427387904 ≤ n) (h1 : n ≤ 4611686018427387904) : Pure Tryz.prog 223 [.c (.fz (l.map encI)), .c (.int .i64 n)] (.c (.bool (colsF l n))) := by
  refine Pure.run mixed c_impl_areColumns_ok (Nat.le_of_ble_eq_true rfl) fun σ hS hA => ?_
  clear hS hA
  have hw : IntKind.i64.wrap (n - 1) = n - 1 := wrap64 (by omega) (by omega)
  repeat' first | (apply Go.adm; exact rfl) | apply Go.qs | apply Qg.nil | ((first | apply Go.v2 | apply Go.v1); (first | exact leAdd | assumption); iterate 6 exact rfl) | ((first | apply Go.op | apply Go.sop | apply Qg.op); exact rfl; (first | exact aop_alloc | exact aop_new rfl rfl | exact aop_mksl rfl | exact aop_lenM rfl | exact rfl | exact aL rfl rfl rfl rfl rfl | exact aS rfl rfl rfl rfl rfl rfl rfl)) | ((first | apply Go.no | apply Go.sno | apply Qg.no); exact rfl) | (exfalso; omega) | (((first | apply Go.iQ | apply Go.gQ | apply Go.sQ | apply Qg.gQ); exact rfl; (first | exact .d | exact .e | exact .n | ((fail_if_success exact bqt); (fail_if_success exact bqf); exact .b))) <;> intro _)
  refine Go.keep [0, 1, 7, 8, 9] (Go.loops (I := fun m fr τ => ∃ i : Nat, ∃ k : Int, m = l.length - i ∧ i ≤ l.length ∧ k = i ∧ colsAux n [] l = colsAux n (l.take i) (l.drop i) ∧
    fr = [(0, .c (.fz (l.map encI))), (1, .c (.int .i64 n)), (7, .c (.fz (l.map encI))), (8, .c (.int .i64 (l.length : Int))), (9, .c (.int .i64 k))] ∧ τ = E σ []) ?_ _ _ _ ⟨0, _, rfl, Nat.zero_le _, rfl, rfl, rfl, rfl⟩)
  rintro m fr τ ⟨i, k, rfl, hi, hk, hsl, rfl, rfl⟩ hrec
  by_cases hlt : i < l.length
  · have hd := List.drop_eq_getElem_cons hlt
    have htk : (l.map encI).take i = (l.take i).map encI := List.map_take.symm
    have hstep : colsAux n [] l = (isIn l[i] 0 (n - 1) && !((l.take i).any fun a => l[i] == a) && colsAux n (l.take (i + 1)) (l.drop (i + 1))) := by
      rw [hsl, hd, colsAux, List.take_succ_eq_append_getElem hlt]
    repeat' first | (apply Go.adm; exact rfl) | apply Go.qs | apply Qg.nil | ((first | apply Go.v2 | apply Go.v1); (first | exact leAdd | assumption); iterate 6 exact rfl) | ((first | apply Go.op | apply Go.sop | apply Qg.op); exact rfl; (first | exact aop_alloc | exact aop_new rfl rfl | exact aop_mksl rfl | exact aop_lenM rfl | exact rfl | exact aL rfl rfl rfl rfl rfl | exact aS rfl rfl rfl rfl rfl rfl rfl | exact aop_iaddrM (enc := encI) rfl rfl hk hlt rfl)) | ((first | apply Go.no | apply Go.sno | apply Qg.no); exact rfl) | ((first | apply Go.pcallB | apply Go.spcallB | apply Qg.pcallB); (iterate 3 exact rfl); exact in_ok _ _ _; intro _ _) | (exfalso; omega) | (((first | apply Go.iQ | apply Go.gQ | apply Go.sQ | apply Qg.gQ); exact rfl; (first | exact .d | exact .e | exact .n | ((fail_if_success exact bqt); (fail_if_success exact bqf); exact .b))) <;> intro _)
    · refine .ret rfl (.bool ?_)
      rename_i b hb hb2
      rw [hw] at hb
      rw [colsF, hstep, nbT hb hb2]
      rfl
    rename_i b hb hb2
    refine .op rfl (aop_sliceF (n := i) rfl rfl hk (by simp; omega) encI_len) ?_
    rw [htk]
    repeat' first | (apply Go.adm; exact rfl) | apply Go.qs | apply Qg.nil | ((first | apply Go.v2 | apply Go.v1); (first | exact leAdd | assumption); iterate 6 exact rfl) | ((first | apply Go.op | apply Go.sop | apply Qg.op); exact rfl; (first | exact aop_alloc | exact aop_new rfl rfl | exact aop_mksl rfl | exact aop_lenM rfl | exact rfl | exact aL rfl rfl rfl rfl rfl | exact aS rfl rfl rfl rfl rfl rfl rfl)) | ((first | apply Go.no | apply Go.sno | apply Qg.no); exact rfl) | ((first | apply Go.pcallB | apply Go.spcallB | apply Qg.pcallB); (iterate 3 exact rfl); exact containsInt_ok mixed c_slices_Contains_int64_int64_ok c_slices_Index_int64_int64_ok (l.take i) l[i] (by simp; omega); intro _ _) | (exfalso; omega) | (((first | apply Go.iQ | apply Go.gQ | apply Go.sQ | apply Qg.gQ); exact rfl; (first | exact .d | exact .e | exact .n | ((fail_if_success exact bqt); (fail_if_success exact bqf); exact .b))) <;> intro _)
    · refine .ret rfl (.bool ?_)
      rename_i b1 hb1 hb3
      rw [colsF, hstep, bT hb1 hb3]
      simp
    · refine Go.keep [0, 1, 7, 8, 9] (hrec _ _ _ (by omega) ⟨i + 1, _, rfl, hlt, wrap_succ hk (by omega), ?_, rfl, rfl⟩)
      rename_i b1 hb1 hb3
      rw [hw] at hb
      rw [hstep, bF hb1 hb3, nbF hb hb2]
      simp
  · have hfin : colsAux n [] l = true := by
      rw [hsl, List.drop_eq_nil_of_le (by omega)]
      rfl
    repeat' first | (apply Go.adm; exact rfl) | apply Go.qs | apply Qg.nil | ((first | apply Go.v2 | apply Go.v1); (first | exact leAdd | assumption); iterate 6 exact rfl) | ((first | apply Go.op | apply Go.sop | apply Qg.op); exact rfl; (first | exact aop_alloc | exact aop_new rfl rfl | exact aop_mksl rfl | exact aop_lenM rfl | exact rfl | exact aL rfl rfl rfl rfl rfl | exact aS rfl rfl rfl rfl rfl rfl rfl)) | ((first | apply Go.no | apply Go.sno | apply Qg.no); exact rfl) | (exfalso; omega) | (((first | apply Go.iQ | apply Go.gQ | apply Go.sQ | apply Qg.gQ); exact rfl; (first | exact .d | exact .e | exact .n | ((fail_if_success exact bqt); (fail_if_success exact bqf); exact .b))) <;> intro _)
    refine .ret rfl (.bool ?_)
    rw [colsF, hfin]
    rfl
end Go.Proofs.YtcfpdongfdhgjaaGreat.Am
