/- Range: the program's and the reference's. -/
import Derived.Test.YtjlhfjpnnildhaaF3
set_option linter.unusedVariables false
set_option linter.unusedSimpArgs false
namespace Go.Proofs.Ytjlhfjpnnildhaa.Am

def key0 (e : Entry) : Val := match e.key with | v :: _ => v | [] => ⟨0, 0, []⟩
def within (lo up : Val) (e : Entry) : Bool := decide (0 ≤ order (key0 e) lo) && decide (order (key0 e) up ≤ 0)
def rangeF (l : List Entry) (lo up : Val) : List Int := if okEnts l && okVal lo && okVal up then (l.filter (within lo up)).map Entry.id else []
theorem okRest_key : ∀ {n0 : Nat} {p : Option Entry} {l : List Entry}, okRest n0 p l = true → ∀ e ∈ l, 0 < e.key.length ∧ areVals e.key 16 = true
  | n0, p, [], h, e, he => by simp at he
  | n0, p, x :: r, h, e, he => by
    rw [okRest_cons, Bool.and_eq_true] at h
    rcases List.mem_cons.1 he with rfl | he
    · have h1 := h.1
      simp only [okOne, Bool.and_eq_true, decide_eq_true_eq] at h1
      exact ⟨h1.1.1.1.1, h1.1.1.2⟩
    · exact okRest_key h.2 e he
theorem okEnts_key {l : List Entry} (h : okEnts l = true) : ∀ e ∈ l, 0 < e.key.length ∧ areVals e.key 16 = true := by
  simp only [okEnts, Bool.and_eq_true] at h
  exact okRest_key h.1
theorem key0_eq {e : Entry} (h : 0 < e.key.length) : key0 e = e.key[0] := by
  obtain ⟨k, n⟩ := e
  cases k with
  | nil => simp at h
  | cons v r => rfl

theorem Range_ok (l : List Entry) (lo up : Val) (hx : l.length ≤ 1099511627776) (hk : ∀ e ∈ l, e.key.length ≤ 1099511627776) : Makes Try.prog 11 [.c (.fz (l.map encE)), .agg (encV lo), .agg (encV up)] 1 ((rangeF l lo up).map encI) := by
  refine Makes.run mixed c_impl_Range_ok (Nat.le_of_ble_eq_true rfl) fun σ hS hA => ?_
  clear hS hA
  repeat' first | (apply Go.seq) | (apply Go.skip) | (apply Go.region) | (apply Go.nil) | (apply Go.block) | (apply Go.blk) | (apply Go.draw) | (apply Go.segs) | (apply Go.qs) | (apply Qg.nil) | (apply Go.exit; exact rfl) | (apply Go.var2; exact Nat.le_add_right _ _; decide; decide; decide; decide; exact rfl; exact rfl; exact rfl; exact rfl; exact rfl) | (apply Go.var; exact Nat.le_add_right _ _; decide; exact rfl; exact rfl; exact rfl; exact rfl) | (apply Go.op; exact rfl; exact aop_alloc) | (apply Go.op; exact rfl; exact aop_new rfl rfl) | (apply Go.op; exact rfl; exact aop_mksl rfl) | (apply Go.op; exact rfl; exact aop_lenM rfl) | (apply Go.sop; exact rfl; exact aop_lenM rfl) | (apply Qg.op; exact rfl; exact aop_lenM rfl) | (apply Go.op; exact rfl; exact rfl) | (apply Go.no; exact rfl) | (apply Go.sop; exact rfl; exact rfl) | (apply Go.sno; exact rfl) | (apply Qg.op; exact rfl; exact rfl) | (apply Qg.no; exact rfl) | (apply Go.op; exact rfl; exact aop_load rfl rfl rfl (Nat.le_of_ble_eq_true rfl) rfl) | (apply Go.op; exact rfl; exact aop_store rfl rfl rfl rfl rfl rfl (Nat.le_of_ble_eq_true rfl)) | (apply Go.cond true; exact rfl) | (apply Go.cond false; exact rfl) | (apply Go.pcallB; exact rfl; exact rfl; exact rfl; exact areEntries_ok l hx hk; intro _ _) | (apply Go.spcallB; exact rfl; exact rfl; exact rfl; exact areEntries_ok l hx hk; intro _ _) | (apply Qg.pcallB; exact rfl; exact rfl; exact rfl; exact areEntries_ok l hx hk; intro _ _) | (apply Go.pcallB; exact rfl; exact rfl; exact rfl; exact ValOk_ok lo; intro _ _) | (apply Go.spcallB; exact rfl; exact rfl; exact rfl; exact ValOk_ok lo; intro _ _) | (apply Qg.pcallB; exact rfl; exact rfl; exact rfl; exact ValOk_ok lo; intro _ _) | (apply Go.pcallB; exact rfl; exact rfl; exact rfl; exact ValOk_ok up; intro _ _) | (apply Go.spcallB; exact rfl; exact rfl; exact rfl; exact ValOk_ok up; intro _ _) | (apply Qg.pcallB; exact rfl; exact rfl; exact rfl; exact ValOk_ok up; intro _ _) | (exfalso; omega) | (apply Go.iteD; exact rfl) <;> intro _ | (apply Go.iteE; exact rfl) <;> intro _ | (apply Go.iteN; exact rfl) <;> intro _ | (apply Go.guardD; exact rfl) <;> intro _ | (apply Go.guardE; exact rfl) <;> intro _ | (apply Go.guardN; exact rfl) <;> intro _ | (apply Go.sguardD; exact rfl) <;> intro _ | (apply Go.sguardE; exact rfl) <;> intro _ | (apply Go.sguardN; exact rfl) <;> intro _ | (apply Qg.guardD; exact rfl) <;> intro _ | (apply Qg.guardE; exact rfl) <;> intro _ | (apply Qg.guardN; exact rfl) <;> intro _ | (apply Go.guard; exact rfl; fail_if_success (intro h; exact absurd h (by decide)); rotate_left; fail_if_success (intro h; exact absurd h (by decide)); rotate_right) <;> intro _ | (apply Go.sguard; exact rfl; fail_if_success (intro h; exact absurd h (by decide)); rotate_left; fail_if_success (intro h; exact absurd h (by decide)); rotate_right) <;> intro _ | (apply Qg.guard; exact rfl; fail_if_success (intro h; exact absurd h (by decide)); rotate_left; fail_if_success (intro h; exact absurd h (by decide)); rotate_right) <;> intro _ | (apply Go.ite; exact rfl; fail_if_success (intro h; exact absurd h (by decide)); rotate_left; fail_if_success (intro h; exact absurd h (by decide)); rotate_right) <;> intro _
  rotate_left 2
  all_goals try
    have e : rangeF l lo up = [] := by simp_all [rangeF]
    rw [e]
    exact .ret rfl ⟨0, [], Jk.nil, rfl, rfl⟩
  have hok : okEnts l = true ∧ okVal lo = true ∧ okVal up = true := by simp_all
  have hkey := okEnts_key hok.1
  have hr : rangeF l lo up = (l.filter (within lo up)).map Entry.id := by simp [rangeF, hok]
  rw [hr]
  refine Go.keep [4, 5, 7, 25, 26, 27] (Go.loops (I := fun m fr τ => ∃ i v : Nat, ∃ n L : Int, ∃ ys : List Int, ∃ zs junk : List (List Ce), m = l.length - i ∧ i ≤ l.length ∧ n = i ∧ L = l.length ∧
    (zs = ys.map encI ∧ ys.length ≤ i ∧ (l.filter (within lo up)).map Entry.id = ys ++ ((l.drop i).filter (within lo up)).map Entry.id ∧ Jk 1 junk) ∧
    fr = [(4, .c (.fp (encV lo))), (5, .c (.fp (encV up))), (7, .c (vec (σ.next + 0) v zs junk)), (25, .c (.fz (l.map encE))), (26, .c (.int .i64 L)), (27, .c (.int .i64 n))] ∧ τ = E σ [(v, zs ++ junk)]) ?_ _ _ _
    ⟨0, 0, _, _, [], [], [], rfl, Nat.zero_le _, rfl, rfl, ⟨rfl, by simp, rfl, Jk.nil⟩, rfl, rfl⟩)
  rintro m fr τ ⟨i, v, n, L, ys, zs, junk, rfl, hi, hn, hL, ⟨hz, hyi, hs, hj⟩, rfl, rfl⟩ hrec
  by_cases hlt : i < l.length
  · have hki := hkey _ (List.getElem_mem hlt)
    have hk1 := hki.1
    have hk0 := key0_eq hki.1
    have hz1 : ∀ e ∈ zs, e.length = 1 := by
      subst hz
      intro e he
      obtain ⟨a, _, rfl⟩ := List.mem_map.1 he
      rfl
    have hzl : zs.length = ys.length := by rw [hz, List.length_map]
    rw [List.drop_eq_getElem_cons hlt, List.filter_cons] at hs
    repeat' first | (apply Go.seq) | (apply Go.skip) | (apply Go.region) | (apply Go.nil) | (apply Go.block) | (apply Go.blk) | (apply Go.draw) | (apply Go.segs) | (apply Go.qs) | (apply Qg.nil) | (apply Go.exit; exact rfl) | (apply Go.var2; exact Nat.le_add_right _ _; decide; decide; decide; decide; exact rfl; exact rfl; exact rfl; exact rfl; exact rfl) | (apply Go.var; exact Nat.le_add_right _ _; decide; exact rfl; exact rfl; exact rfl; exact rfl) | (apply Go.op; exact rfl; exact aop_alloc) | (apply Go.op; exact rfl; exact aop_new rfl rfl) | (apply Go.op; exact rfl; exact aop_mksl rfl) | (apply Go.op; exact rfl; exact aop_lenM rfl) | (apply Go.sop; exact rfl; exact aop_lenM rfl) | (apply Qg.op; exact rfl; exact aop_lenM rfl) | (apply Go.op; exact rfl; exact rfl) | (apply Go.no; exact rfl) | (apply Go.sop; exact rfl; exact rfl) | (apply Go.sno; exact rfl) | (apply Qg.op; exact rfl; exact rfl) | (apply Qg.no; exact rfl) | (apply Go.op; exact rfl; exact aop_load rfl rfl rfl (Nat.le_of_ble_eq_true rfl) rfl) | (apply Go.op; exact rfl; exact aop_store rfl rfl rfl rfl rfl rfl (Nat.le_of_ble_eq_true rfl)) | (apply Go.cond true; exact rfl) | (apply Go.cond false; exact rfl) | (apply Go.op; exact rfl; exact aop_iaddrM (enc := encE) rfl rfl hn hlt rfl) | (apply Go.sop; exact rfl; exact aop_iaddrM (enc := encE) rfl rfl hn hlt rfl) | (apply Qg.op; exact rfl; exact aop_iaddrM (enc := encE) rfl rfl hn hlt rfl) | (apply Go.op; exact rfl; exact aop_iaddrM (enc := encV) (xs := l[i].key) (n := 0) rfl rfl rfl hki.1 rfl) | (apply Go.sop; exact rfl; exact aop_iaddrM (enc := encV) (xs := l[i].key) (n := 0) rfl rfl rfl hki.1 rfl) | (apply Qg.op; exact rfl; exact aop_iaddrM (enc := encV) (xs := l[i].key) (n := 0) rfl rfl rfl hki.1 rfl) | (apply Go.pcallI; exact rfl; exact rfl; exact rfl; exact order_ok _ _; intro _ _) | (apply Go.spcallI; exact rfl; exact rfl; exact rfl; exact order_ok _ _; intro _ _) | (apply Qg.pcallI; exact rfl; exact rfl; exact rfl; exact order_ok _ _; intro _ _) | (apply Go.app1; exact rfl; exact rfl; exact rfl; exact rfl; exact rfl; exact hz1; exact hj; exact rfl; omega; intro v' junk' hj') | (exfalso; omega) | (apply Go.iteD; exact rfl) <;> intro _ | (apply Go.iteE; exact rfl) <;> intro _ | (apply Go.iteN; exact rfl) <;> intro _ | (apply Go.guardD; exact rfl) <;> intro _ | (apply Go.guardE; exact rfl) <;> intro _ | (apply Go.guardN; exact rfl) <;> intro _ | (apply Go.sguardD; exact rfl) <;> intro _ | (apply Go.sguardE; exact rfl) <;> intro _ | (apply Go.sguardN; exact rfl) <;> intro _ | (apply Qg.guardD; exact rfl) <;> intro _ | (apply Qg.guardE; exact rfl) <;> intro _ | (apply Qg.guardN; exact rfl) <;> intro _ | (apply Go.guard; exact rfl; fail_if_success (intro h; exact absurd h (by decide)); rotate_left; fail_if_success (intro h; exact absurd h (by decide)); rotate_right) <;> intro _ | (apply Go.sguard; exact rfl; fail_if_success (intro h; exact absurd h (by decide)); rotate_left; fail_if_success (intro h; exact absurd h (by decide)); rotate_right) <;> intro _ | (apply Qg.guard; exact rfl; fail_if_success (intro h; exact absurd h (by decide)); rotate_left; fail_if_success (intro h; exact absurd h (by decide)); rotate_right) <;> intro _ | (apply Go.ite; exact rfl; fail_if_success (intro h; exact absurd h (by decide)); rotate_left; fail_if_success (intro h; exact absurd h (by decide)); rotate_right) <;> intro _
    · have hw : within lo up l[i] = true := by clear hs hr hrec; (simp_all [within] <;> intros <;> omega)
      refine Go.keep [4, 5, 7, 25, 26, 27] (hrec _ _ _ (by first | omega | (clear hrec; simp only [List.length_map] at *; omega)) ⟨i + 1, v', _, _, ys ++ [l[i].id], zs ++ [encI l[i].id], junk', rfl, (by first | omega | (clear hrec; simp only [List.length_map] at *; omega)), (wrap_succ hn (by omega)), hL, ⟨by simp [hz], by simp; omega, ?_, hj'⟩, rfl, rfl⟩)
      rw [hs, if_pos hw]
      simp
    · have hw : within lo up l[i] = false := by clear hs hr hrec; (simp_all [within] <;> intros <;> omega)
      refine Go.keep [4, 5, 7, 25, 26, 27] (hrec _ _ _ (by first | omega | (clear hrec; simp only [List.length_map] at *; omega)) ⟨i + 1, v, _, _, ys, zs, junk, rfl, (by first | omega | (clear hrec; simp only [List.length_map] at *; omega)), (wrap_succ hn (by omega)), hL, ⟨hz, by omega, ?_, hj⟩, rfl, rfl⟩)
      rw [hs, if_neg (by simp [hw])]
    · have hw : within lo up l[i] = false := by clear hs hr hrec; (simp_all [within] <;> intros <;> omega)
      refine Go.keep [4, 5, 7, 25, 26, 27] (hrec _ _ _ (by first | omega | (clear hrec; simp only [List.length_map] at *; omega)) ⟨i + 1, v, _, _, ys, zs, junk, rfl, (by first | omega | (clear hrec; simp only [List.length_map] at *; omega)), (wrap_succ hn (by omega)), hL, ⟨hz, by omega, ?_, hj⟩, rfl, rfl⟩)
      rw [hs, if_neg (by simp [hw])]
  · repeat' first | (apply Go.seq) | (apply Go.skip) | (apply Go.region) | (apply Go.nil) | (apply Go.block) | (apply Go.blk) | (apply Go.draw) | (apply Go.segs) | (apply Go.qs) | (apply Qg.nil) | (apply Go.exit; exact rfl) | (apply Go.var2; exact Nat.le_add_right _ _; decide; decide; decide; decide; exact rfl; exact rfl; exact rfl; exact rfl; exact rfl) | (apply Go.var; exact Nat.le_add_right _ _; decide; exact rfl; exact rfl; exact rfl; exact rfl) | (apply Go.op; exact rfl; exact aop_alloc) | (apply Go.op; exact rfl; exact aop_new rfl rfl) | (apply Go.op; exact rfl; exact aop_mksl rfl) | (apply Go.op; exact rfl; exact aop_lenM rfl) | (apply Go.sop; exact rfl; exact aop_lenM rfl) | (apply Qg.op; exact rfl; exact aop_lenM rfl) | (apply Go.op; exact rfl; exact rfl) | (apply Go.no; exact rfl) | (apply Go.sop; exact rfl; exact rfl) | (apply Go.sno; exact rfl) | (apply Qg.op; exact rfl; exact rfl) | (apply Qg.no; exact rfl) | (apply Go.op; exact rfl; exact aop_load rfl rfl rfl (Nat.le_of_ble_eq_true rfl) rfl) | (apply Go.op; exact rfl; exact aop_store rfl rfl rfl rfl rfl rfl (Nat.le_of_ble_eq_true rfl)) | (apply Go.cond true; exact rfl) | (apply Go.cond false; exact rfl) | (exfalso; omega) | (apply Go.iteD; exact rfl) <;> intro _ | (apply Go.iteE; exact rfl) <;> intro _ | (apply Go.iteN; exact rfl) <;> intro _ | (apply Go.guardD; exact rfl) <;> intro _ | (apply Go.guardE; exact rfl) <;> intro _ | (apply Go.guardN; exact rfl) <;> intro _ | (apply Go.sguardD; exact rfl) <;> intro _ | (apply Go.sguardE; exact rfl) <;> intro _ | (apply Go.sguardN; exact rfl) <;> intro _ | (apply Qg.guardD; exact rfl) <;> intro _ | (apply Qg.guardE; exact rfl) <;> intro _ | (apply Qg.guardN; exact rfl) <;> intro _ | (apply Go.guard; exact rfl; fail_if_success (intro h; exact absurd h (by decide)); rotate_left; fail_if_success (intro h; exact absurd h (by decide)); rotate_right) <;> intro _ | (apply Go.sguard; exact rfl; fail_if_success (intro h; exact absurd h (by decide)); rotate_left; fail_if_success (intro h; exact absurd h (by decide)); rotate_right) <;> intro _ | (apply Qg.guard; exact rfl; fail_if_success (intro h; exact absurd h (by decide)); rotate_left; fail_if_success (intro h; exact absurd h (by decide)); rotate_right) <;> intro _ | (apply Go.ite; exact rfl; fail_if_success (intro h; exact absurd h (by decide)); rotate_left; fail_if_success (intro h; exact absurd h (by decide)); rotate_right) <;> intro _
    refine .ret rfl ⟨v, junk, hj, ?_, ?_⟩
    · rw [hs, List.drop_eq_nil_of_le (by omega), hz]
      simp
    · rw [hs, List.drop_eq_nil_of_le (by omega), hz]
      simp

theorem bytesLt_cases : ∀ (a b : List UInt8), bytesLt b a = (!bytesLt a b && !(a == b))
  | [], [] => rfl
  | [], _ :: _ => rfl
  | _ :: _, [] => rfl
  | x :: r, y :: s => by
    have ih := bytesLt_cases r s
    simp only [bytesLt] at ih
    simp only [bytesLt, Op.bytesLess, ih, List.cons_beq_cons]
    by_cases h : x = y
    · subst h
      simp [UInt8.lt_irrefl]
    · have h' : ¬ y = x := fun e => h e.symm
      simp only [beq_eq_false_iff_ne.2 h, beq_eq_false_iff_ne.2 h', Bool.false_and, Bool.or_false, Bool.not_false, Bool.and_true]
      rcases UInt8.lt_or_lt_of_ne h with h1 | h1
      · have h2 : ¬ y < x := UInt8.lt_asymm h1
        simp [h1, h2]
      · have h2 : ¬ x < y := UInt8.lt_asymm h1
        simp [h1, h2]
theorem order_flip (v w : Val) : (0 ≤ order v w) ↔ (order w v ≤ 0) := by
  obtain ⟨a, b, s⟩ := v
  obtain ⟨c, d, t⟩ := w
  simp only [order, orI, cmpI, cmpS, bytesLt_cases s t]
  by_cases h1 : a < c
  · have : ¬ c < a := by omega
    simp [h1, this]
  · by_cases h2 : c < a
    · simp [h1, h2]
    · by_cases h3 : b < d
      · have : ¬ d < b := by omega
        simp [h1, h2, h3, this]
      · by_cases h4 : d < b
        · simp [h1, h2, h3, h4]
        · by_cases h5 : s = t
          · subst h5
            simp [h1, h2, h3, h4, bytesLt_irrefl]
          · have h6 : ¬ t = s := fun e => h5 e.symm
            cases h7 : bytesLt s t <;> simp [h1, h2, h3, h4, h5, h6]

theorem sRange_ok (l : List Entry) (lo up : Val) (hx : l.length ≤ 1099511627776) (hk : ∀ e ∈ l, e.key.length ≤ 1099511627776) : Makes Try.prog 8 [.c (.fz (l.map encE)), .agg (encV lo), .agg (encV up)] 1 ((rangeF l lo up).map encI) := by
  refine Makes.run mixed c_spec_Range_ok (Nat.le_of_ble_eq_true rfl) fun σ hS hA => ?_
  clear hS hA
  repeat' first | (apply Go.seq) | (apply Go.skip) | (apply Go.region) | (apply Go.nil) | (apply Go.block) | (apply Go.blk) | (apply Go.draw) | (apply Go.segs) | (apply Go.qs) | (apply Qg.nil) | (apply Go.exit; exact rfl) | (apply Go.var2; exact Nat.le_add_right _ _; decide; decide; decide; decide; exact rfl; exact rfl; exact rfl; exact rfl; exact rfl) | (apply Go.var; exact Nat.le_add_right _ _; decide; exact rfl; exact rfl; exact rfl; exact rfl) | (apply Go.op; exact rfl; exact aop_alloc) | (apply Go.op; exact rfl; exact aop_new rfl rfl) | (apply Go.op; exact rfl; exact aop_mksl rfl) | (apply Go.op; exact rfl; exact aop_lenM rfl) | (apply Go.sop; exact rfl; exact aop_lenM rfl) | (apply Qg.op; exact rfl; exact aop_lenM rfl) | (apply Go.op; exact rfl; exact rfl) | (apply Go.no; exact rfl) | (apply Go.sop; exact rfl; exact rfl) | (apply Go.sno; exact rfl) | (apply Qg.op; exact rfl; exact rfl) | (apply Qg.no; exact rfl) | (apply Go.op; exact rfl; exact aop_load rfl rfl rfl (Nat.le_of_ble_eq_true rfl) rfl) | (apply Go.op; exact rfl; exact aop_store rfl rfl rfl rfl rfl rfl (Nat.le_of_ble_eq_true rfl)) | (apply Go.cond true; exact rfl) | (apply Go.cond false; exact rfl) | (exfalso; omega) | (apply Go.iteD; exact rfl) <;> intro _ | (apply Go.iteE; exact rfl) <;> intro _ | (apply Go.iteN; exact rfl) <;> intro _ | (apply Go.guardD; exact rfl) <;> intro _ | (apply Go.guardE; exact rfl) <;> intro _ | (apply Go.guardN; exact rfl) <;> intro _ | (apply Go.sguardD; exact rfl) <;> intro _ | (apply Go.sguardE; exact rfl) <;> intro _ | (apply Go.sguardN; exact rfl) <;> intro _ | (apply Qg.guardD; exact rfl) <;> intro _ | (apply Qg.guardE; exact rfl) <;> intro _ | (apply Qg.guardN; exact rfl) <;> intro _ | (apply Go.guard; exact rfl; fail_if_success (intro h; exact absurd h (by decide)); rotate_left; fail_if_success (intro h; exact absurd h (by decide)); rotate_right) <;> intro _ | (apply Go.sguard; exact rfl; fail_if_success (intro h; exact absurd h (by decide)); rotate_left; fail_if_success (intro h; exact absurd h (by decide)); rotate_right) <;> intro _ | (apply Qg.guard; exact rfl; fail_if_success (intro h; exact absurd h (by decide)); rotate_left; fail_if_success (intro h; exact absurd h (by decide)); rotate_right) <;> intro _ | (apply Go.ite; exact rfl; fail_if_success (intro h; exact absurd h (by decide)); rotate_left; fail_if_success (intro h; exact absurd h (by decide)); rotate_right) <;> intro _
  refine Go.keep [0, 4, 5, 7, 8] (Go.loops (I := fun m fr τ => ∃ i v : Nat, ∃ n : Int, ∃ ys : List Int, ∃ zs junk : List (List Ce), m = l.length - i ∧ i ≤ l.length ∧ n = i ∧
    ((0 < i → okEnts l = true ∧ okVal lo = true ∧ okVal up = true) ∧ zs = ys.map encI ∧ ys.length ≤ i ∧ (l.filter (within lo up)).map Entry.id = ys ++ ((l.drop i).filter (within lo up)).map Entry.id ∧ Jk 1 junk) ∧
    fr = [(0, .c (.fz (l.map encE))), (4, .c (.fp (encV lo))), (5, .c (.fp (encV up))), (7, .c (vec (σ.next + 0) v zs junk)), (8, .c (.int .i64 n))] ∧ τ = E σ [(v, zs ++ junk)]) ?_ _ _ _
    ⟨0, 0, _, [], [], [], rfl, Nat.zero_le _, rfl, ⟨fun h => absurd h (Nat.lt_irrefl _), rfl, by simp, rfl, Jk.nil⟩, rfl, rfl⟩)
  rintro m fr τ ⟨i, v, n, ys, zs, junk, rfl, hi, hn, ⟨hi0, hz, hyi, hs, hj⟩, rfl, rfl⟩ hrec
  by_cases hok : okEnts l = true ∧ okVal lo = true ∧ okVal up = true
  · have hkey := okEnts_key hok.1
    have hr : rangeF l lo up = (l.filter (within lo up)).map Entry.id := by simp [rangeF, hok]
    rw [hr] at hrec ⊢
    by_cases hlt : i < l.length
    · have hki := hkey _ (List.getElem_mem hlt)
      have hk1 := hki.1
      have hk0 := key0_eq hk1
      have hkv : okVal l[i].key[0] = true := by
        have := hki.2
        simp only [areVals, Bool.and_eq_true, List.all_eq_true] at this
        exact this.2 _ (List.getElem_mem hk1)
      have hz1 : ∀ e ∈ zs, e.length = 1 := by
        subst hz
        intro e he
        obtain ⟨a, _, rfl⟩ := List.mem_map.1 he
        rfl
      have hzl : zs.length = ys.length := by rw [hz, List.length_map]
      have hw1 : within lo up l[i] = (decide (l1Ord lo l[i].key[0] ≤ 0) && decide (l1Ord l[i].key[0] up ≤ 0)) := by
        rw [l1Ord_order hok.2.1 hkv, l1Ord_order hkv hok.2.2, within, hk0]
        congr 1
        exact decide_eq_decide.2 (order_flip _ _)
      rw [List.drop_eq_getElem_cons hlt, List.filter_cons] at hs
      repeat' first | (apply Go.seq) | (apply Go.skip) | (apply Go.region) | (apply Go.nil) | (apply Go.block) | (apply Go.blk) | (apply Go.draw) | (apply Go.segs) | (apply Go.qs) | (apply Qg.nil) | (apply Go.exit; exact rfl) | (apply Go.var2; exact Nat.le_add_right _ _; decide; decide; decide; decide; exact rfl; exact rfl; exact rfl; exact rfl; exact rfl) | (apply Go.var; exact Nat.le_add_right _ _; decide; exact rfl; exact rfl; exact rfl; exact rfl) | (apply Go.op; exact rfl; exact aop_alloc) | (apply Go.op; exact rfl; exact aop_new rfl rfl) | (apply Go.op; exact rfl; exact aop_mksl rfl) | (apply Go.op; exact rfl; exact aop_lenM rfl) | (apply Go.sop; exact rfl; exact aop_lenM rfl) | (apply Qg.op; exact rfl; exact aop_lenM rfl) | (apply Go.op; exact rfl; exact rfl) | (apply Go.no; exact rfl) | (apply Go.sop; exact rfl; exact rfl) | (apply Go.sno; exact rfl) | (apply Qg.op; exact rfl; exact rfl) | (apply Qg.no; exact rfl) | (apply Go.op; exact rfl; exact aop_load rfl rfl rfl (Nat.le_of_ble_eq_true rfl) rfl) | (apply Go.op; exact rfl; exact aop_store rfl rfl rfl rfl rfl rfl (Nat.le_of_ble_eq_true rfl)) | (apply Go.cond true; exact rfl) | (apply Go.cond false; exact rfl) | (apply Go.op; exact rfl; exact aop_iaddrM (enc := encE) rfl rfl hn hlt rfl) | (apply Go.sop; exact rfl; exact aop_iaddrM (enc := encE) rfl rfl hn hlt rfl) | (apply Qg.op; exact rfl; exact aop_iaddrM (enc := encE) rfl rfl hn hlt rfl) | (apply Go.op; exact rfl; exact aop_iaddrM (enc := encV) (xs := l[i].key) (n := 0) rfl rfl rfl hk1 rfl) | (apply Go.sop; exact rfl; exact aop_iaddrM (enc := encV) (xs := l[i].key) (n := 0) rfl rfl rfl hk1 rfl) | (apply Qg.op; exact rfl; exact aop_iaddrM (enc := encV) (xs := l[i].key) (n := 0) rfl rfl rfl hk1 rfl) | (apply Go.pcallB; exact rfl; exact rfl; exact rfl; exact l11Right_ok l hx hk; intro _ _) | (apply Go.spcallB; exact rfl; exact rfl; exact rfl; exact l11Right_ok l hx hk; intro _ _) | (apply Qg.pcallB; exact rfl; exact rfl; exact rfl; exact l11Right_ok l hx hk; intro _ _) | (apply Go.pcallB; exact rfl; exact rfl; exact rfl; exact sValOk_ok _; intro _ _) | (apply Go.spcallB; exact rfl; exact rfl; exact rfl; exact sValOk_ok _; intro _ _) | (apply Qg.pcallB; exact rfl; exact rfl; exact rfl; exact sValOk_ok _; intro _ _) | (apply Go.pcallI; exact rfl; exact rfl; exact rfl; exact l1Order_ok _ _; intro _ _) | (apply Go.spcallI; exact rfl; exact rfl; exact rfl; exact l1Order_ok _ _; intro _ _) | (apply Qg.pcallI; exact rfl; exact rfl; exact rfl; exact l1Order_ok _ _; intro _ _) | (apply Go.app1; exact rfl; exact rfl; exact rfl; exact rfl; exact rfl; exact hz1; exact hj; exact rfl; omega; intro v' junk' hj') | (exfalso; omega) | (apply Go.iteD; exact rfl) <;> intro _ | (apply Go.iteE; exact rfl) <;> intro _ | (apply Go.iteN; exact rfl) <;> intro _ | (apply Go.guardD; exact rfl) <;> intro _ | (apply Go.guardE; exact rfl) <;> intro _ | (apply Go.guardN; exact rfl) <;> intro _ | (apply Go.sguardD; exact rfl) <;> intro _ | (apply Go.sguardE; exact rfl) <;> intro _ | (apply Go.sguardN; exact rfl) <;> intro _ | (apply Qg.guardD; exact rfl) <;> intro _ | (apply Qg.guardE; exact rfl) <;> intro _ | (apply Qg.guardN; exact rfl) <;> intro _ | (apply Go.guard; exact rfl; fail_if_success (intro h; exact absurd h (by decide)); rotate_left; fail_if_success (intro h; exact absurd h (by decide)); rotate_right) <;> intro _ | (apply Go.sguard; exact rfl; fail_if_success (intro h; exact absurd h (by decide)); rotate_left; fail_if_success (intro h; exact absurd h (by decide)); rotate_right) <;> intro _ | (apply Qg.guard; exact rfl; fail_if_success (intro h; exact absurd h (by decide)); rotate_left; fail_if_success (intro h; exact absurd h (by decide)); rotate_right) <;> intro _ | (apply Go.ite; exact rfl; fail_if_success (intro h; exact absurd h (by decide)); rotate_left; fail_if_success (intro h; exact absurd h (by decide)); rotate_right) <;> intro _
      all_goals first
        | (exfalso; clear hs hrec; simp_all; done)
        | (have hw : within lo up l[i] = true := by clear hs hr hrec; (simp_all <;> intros <;> omega)
           refine Go.keep [0, 4, 5, 7, 8] (hrec _ _ _ (by first | omega | (clear hrec; simp only [List.length_map] at *; omega)) ⟨i + 1, v', _, ys ++ [l[i].id], zs ++ [encI l[i].id], junk', rfl, (by first | omega | (clear hrec; simp only [List.length_map] at *; omega)), (wrap_succ hn (by omega)), ⟨fun _ => hok, by simp [hz], by simp; omega, ?_, hj'⟩, rfl, rfl⟩)
           rw [hs, if_pos hw]
           simp
           done)
        | (have hw : within lo up l[i] = false := by clear hs hr hrec; (simp_all <;> intros <;> omega)
           refine Go.keep [0, 4, 5, 7, 8] (hrec _ _ _ (by first | omega | (clear hrec; simp only [List.length_map] at *; omega)) ⟨i + 1, v, _, ys, zs, junk, rfl, (by first | omega | (clear hrec; simp only [List.length_map] at *; omega)), (wrap_succ hn (by omega)), ⟨fun _ => hok, hz, by omega, ?_, hj⟩, rfl, rfl⟩)
           rw [hs, if_neg (by simp [hw])]
           done)
    · repeat' first | (apply Go.seq) | (apply Go.skip) | (apply Go.region) | (apply Go.nil) | (apply Go.block) | (apply Go.blk) | (apply Go.draw) | (apply Go.segs) | (apply Go.qs) | (apply Qg.nil) | (apply Go.exit; exact rfl) | (apply Go.var2; exact Nat.le_add_right _ _; decide; decide; decide; decide; exact rfl; exact rfl; exact rfl; exact rfl; exact rfl) | (apply Go.var; exact Nat.le_add_right _ _; decide; exact rfl; exact rfl; exact rfl; exact rfl) | (apply Go.op; exact rfl; exact aop_alloc) | (apply Go.op; exact rfl; exact aop_new rfl rfl) | (apply Go.op; exact rfl; exact aop_mksl rfl) | (apply Go.op; exact rfl; exact aop_lenM rfl) | (apply Go.sop; exact rfl; exact aop_lenM rfl) | (apply Qg.op; exact rfl; exact aop_lenM rfl) | (apply Go.op; exact rfl; exact rfl) | (apply Go.no; exact rfl) | (apply Go.sop; exact rfl; exact rfl) | (apply Go.sno; exact rfl) | (apply Qg.op; exact rfl; exact rfl) | (apply Qg.no; exact rfl) | (apply Go.op; exact rfl; exact aop_load rfl rfl rfl (Nat.le_of_ble_eq_true rfl) rfl) | (apply Go.op; exact rfl; exact aop_store rfl rfl rfl rfl rfl rfl (Nat.le_of_ble_eq_true rfl)) | (apply Go.cond true; exact rfl) | (apply Go.cond false; exact rfl) | (apply Go.pcallB; exact rfl; exact rfl; exact rfl; exact l11Right_ok l hx hk; intro _ _) | (apply Go.spcallB; exact rfl; exact rfl; exact rfl; exact l11Right_ok l hx hk; intro _ _) | (apply Qg.pcallB; exact rfl; exact rfl; exact rfl; exact l11Right_ok l hx hk; intro _ _) | (apply Go.pcallB; exact rfl; exact rfl; exact rfl; exact sValOk_ok _; intro _ _) | (apply Go.spcallB; exact rfl; exact rfl; exact rfl; exact sValOk_ok _; intro _ _) | (apply Qg.pcallB; exact rfl; exact rfl; exact rfl; exact sValOk_ok _; intro _ _) | (exfalso; omega) | (apply Go.iteD; exact rfl) <;> intro _ | (apply Go.iteE; exact rfl) <;> intro _ | (apply Go.iteN; exact rfl) <;> intro _ | (apply Go.guardD; exact rfl) <;> intro _ | (apply Go.guardE; exact rfl) <;> intro _ | (apply Go.guardN; exact rfl) <;> intro _ | (apply Go.sguardD; exact rfl) <;> intro _ | (apply Go.sguardE; exact rfl) <;> intro _ | (apply Go.sguardN; exact rfl) <;> intro _ | (apply Qg.guardD; exact rfl) <;> intro _ | (apply Qg.guardE; exact rfl) <;> intro _ | (apply Qg.guardN; exact rfl) <;> intro _ | (apply Go.guard; exact rfl; fail_if_success (intro h; exact absurd h (by decide)); rotate_left; fail_if_success (intro h; exact absurd h (by decide)); rotate_right) <;> intro _ | (apply Go.sguard; exact rfl; fail_if_success (intro h; exact absurd h (by decide)); rotate_left; fail_if_success (intro h; exact absurd h (by decide)); rotate_right) <;> intro _ | (apply Qg.guard; exact rfl; fail_if_success (intro h; exact absurd h (by decide)); rotate_left; fail_if_success (intro h; exact absurd h (by decide)); rotate_right) <;> intro _ | (apply Go.ite; exact rfl; fail_if_success (intro h; exact absurd h (by decide)); rotate_left; fail_if_success (intro h; exact absurd h (by decide)); rotate_right) <;> intro _
      all_goals first
        | (exfalso; clear hs hrec; simp_all; done)
        | (refine .ret rfl ⟨v, junk, hj, ?_, ?_⟩ <;> (rw [hs, List.drop_eq_nil_of_le (by omega), hz]; simp; done))
  · have hr : rangeF l lo up = [] := by
      rw [rangeF, if_neg]
      simpa [and_assoc] using hok
    have h0 : i = 0 := by
      rcases Nat.eq_zero_or_pos i with h | h
      · exact h
      · exact absurd (hi0 h) hok
    subst h0
    have hy0 : ys = [] := List.eq_nil_of_length_eq_zero (by omega)
    subst hy0
    rw [hr] at hrec ⊢
    repeat' first | (apply Go.seq) | (apply Go.skip) | (apply Go.region) | (apply Go.nil) | (apply Go.block) | (apply Go.blk) | (apply Go.draw) | (apply Go.segs) | (apply Go.qs) | (apply Qg.nil) | (apply Go.exit; exact rfl) | (apply Go.var2; exact Nat.le_add_right _ _; decide; decide; decide; decide; exact rfl; exact rfl; exact rfl; exact rfl; exact rfl) | (apply Go.var; exact Nat.le_add_right _ _; decide; exact rfl; exact rfl; exact rfl; exact rfl) | (apply Go.op; exact rfl; exact aop_alloc) | (apply Go.op; exact rfl; exact aop_new rfl rfl) | (apply Go.op; exact rfl; exact aop_mksl rfl) | (apply Go.op; exact rfl; exact aop_lenM rfl) | (apply Go.sop; exact rfl; exact aop_lenM rfl) | (apply Qg.op; exact rfl; exact aop_lenM rfl) | (apply Go.op; exact rfl; exact rfl) | (apply Go.no; exact rfl) | (apply Go.sop; exact rfl; exact rfl) | (apply Go.sno; exact rfl) | (apply Qg.op; exact rfl; exact rfl) | (apply Qg.no; exact rfl) | (apply Go.op; exact rfl; exact aop_load rfl rfl rfl (Nat.le_of_ble_eq_true rfl) rfl) | (apply Go.op; exact rfl; exact aop_store rfl rfl rfl rfl rfl rfl (Nat.le_of_ble_eq_true rfl)) | (apply Go.cond true; exact rfl) | (apply Go.cond false; exact rfl) | (apply Go.pcallB; exact rfl; exact rfl; exact rfl; exact l11Right_ok l hx hk; intro _ _) | (apply Go.spcallB; exact rfl; exact rfl; exact rfl; exact l11Right_ok l hx hk; intro _ _) | (apply Qg.pcallB; exact rfl; exact rfl; exact rfl; exact l11Right_ok l hx hk; intro _ _) | (apply Go.pcallB; exact rfl; exact rfl; exact rfl; exact sValOk_ok _; intro _ _) | (apply Go.spcallB; exact rfl; exact rfl; exact rfl; exact sValOk_ok _; intro _ _) | (apply Qg.pcallB; exact rfl; exact rfl; exact rfl; exact sValOk_ok _; intro _ _) | (exfalso; omega) | (apply Go.iteD; exact rfl) <;> intro _ | (apply Go.iteE; exact rfl) <;> intro _ | (apply Go.iteN; exact rfl) <;> intro _ | (apply Go.guardD; exact rfl) <;> intro _ | (apply Go.guardE; exact rfl) <;> intro _ | (apply Go.guardN; exact rfl) <;> intro _ | (apply Go.sguardD; exact rfl) <;> intro _ | (apply Go.sguardE; exact rfl) <;> intro _ | (apply Go.sguardN; exact rfl) <;> intro _ | (apply Qg.guardD; exact rfl) <;> intro _ | (apply Qg.guardE; exact rfl) <;> intro _ | (apply Qg.guardN; exact rfl) <;> intro _ | (apply Go.guard; exact rfl; fail_if_success (intro h; exact absurd h (by decide)); rotate_left; fail_if_success (intro h; exact absurd h (by decide)); rotate_right) <;> intro _ | (apply Go.sguard; exact rfl; fail_if_success (intro h; exact absurd h (by decide)); rotate_left; fail_if_success (intro h; exact absurd h (by decide)); rotate_right) <;> intro _ | (apply Qg.guard; exact rfl; fail_if_success (intro h; exact absurd h (by decide)); rotate_left; fail_if_success (intro h; exact absurd h (by decide)); rotate_right) <;> intro _ | (apply Go.ite; exact rfl; fail_if_success (intro h; exact absurd h (by decide)); rotate_left; fail_if_success (intro h; exact absurd h (by decide)); rotate_right) <;> intro _
    all_goals first
      | (exfalso; clear hs hrec; simp_all; done)
      | (refine .ret rfl ⟨v, junk, hj, ?_, ?_⟩ <;> (rw [hz]; done))
end Go.Proofs.Ytjlhfjpnnildhaa.Am
