/- The law FnExactIndexDrop: its function returns true. -/
import Derived.Test.YtjlhfjpnnildhaaF12
set_option linter.unusedVariables false
set_option linter.unusedSimpArgs false
namespace Go.Proofs.Ytjlhfjpnnildhaa.Am

def heldE (e : Entry) (k : Int) : Int := if heldS heldV e.key k < 0 then -1 else if e.id = heldS heldV e.key k then heldS heldV e.key k + 1 else -1
theorem heldE_mark (e : Entry) (k : Int) (hk : 0 ≤ k) : heldE (markE e k) k = k + cntE e := by
  have h := heldS_mark (c := fun _ => 3) heldV_mark (fun _ => by decide) e.key k hk
  have h0 := cntL_nonneg (c := fun _ : Val => 3) (fun _ => by decide) e.key
  simp only [heldE, markE, h, cntE]
  rw [if_neg (by omega)]
  simp
  omega
theorem heldS_or {α : Type} {h : α → Int → Int} {c : α → Int} (hh : ∀ a k, h a k = -1 ∨ h a k = k + c a) : ∀ (xs : List α) (k : Int), heldS h xs k = -1 ∨ heldS h xs k = k + cntL c xs
  | [], k => by simp [heldS, cntL]
  | a :: r, k => by
    simp only [heldS, cntL]
    split
    · exact .inl rfl
    · rename_i h0
      rcases hh a k with h1 | h1
      · omega
      · rw [h1]
        rcases heldS_or hh r (k + c a) with h2 | h2
        · exact .inl h2
        · right; rw [h2]; omega
theorem heldV_or (v : Val) (k : Int) : heldV v k = -1 ∨ heldV v k = k + 3 := by
  simp only [heldV]
  split
  · exact .inr rfl
  · exact .inl rfl
theorem heldE_or (e : Entry) (k : Int) : heldE e k = -1 ∨ heldE e k = k + cntE e := by
  simp only [heldE, cntE]
  rcases heldS_or (c := fun _ => 3) heldV_or e.key k with h | h
  · rw [h]; simp
  · rw [h]
    split
    · exact .inl rfl
    · split
      · right; omega
      · exact .inl rfl
theorem heldEntryS_ok (xs : List Entry) (k : Int) (hx : xs.length ≤ 1099511627776) (hkl : ∀ e ∈ xs, e.key.length ≤ 1099511627776) (hk0 : 0 ≤ k) (hk : k + cntL cntE xs ≤ 1099511627776) : Pure Try.prog 23 [.c (.fz (xs.map encE)), .c (.int .i64 k)] (.c (.int .i64 (heldS heldE xs k))) := by
  refine Pure.run mixed c_laws_heldEntryS_ok (Nat.le_of_ble_eq_true rfl) fun σ hS hA => ?_
  clear hS hA
  repeat' first | (apply Go.seq) | (apply Go.skip) | (apply Go.region) | (apply Go.nil) | (apply Go.block) | (apply Go.blk) | (apply Go.draw) | (apply Go.segs) | (apply Go.qs) | (apply Qg.nil) | (apply Go.exit; exact rfl) | (apply Go.var2; first | exact Nat.le_add_right _ _ | assumption; decide; decide; decide; decide; exact rfl; exact rfl; exact rfl; exact rfl; exact rfl) | (apply Go.var; first | exact Nat.le_add_right _ _ | assumption; decide; exact rfl; exact rfl; exact rfl; exact rfl) | (apply Go.op; exact rfl; exact aop_alloc) | (apply Go.op; exact rfl; exact aop_new rfl rfl) | (apply Go.op; exact rfl; exact aop_mksl rfl) | (apply Go.op; exact rfl; exact aop_lenM rfl) | (apply Go.sop; exact rfl; exact aop_lenM rfl) | (apply Qg.op; exact rfl; exact aop_lenM rfl) | (apply Go.op; exact rfl; exact rfl) | (apply Go.no; exact rfl) | (apply Go.sop; exact rfl; exact rfl) | (apply Go.sno; exact rfl) | (apply Qg.op; exact rfl; exact rfl) | (apply Qg.no; exact rfl) | (apply Go.op; exact rfl; exact aop_load rfl rfl rfl (Nat.le_of_ble_eq_true rfl) rfl) | (apply Go.op; exact rfl; exact aop_store rfl rfl rfl rfl rfl rfl (Nat.le_of_ble_eq_true rfl)) | (apply Go.cond true; exact rfl) | (apply Go.cond false; exact rfl) | (exfalso; omega) | (apply Go.iteD; exact rfl) <;> intro _ | (apply Go.iteE; exact rfl) <;> intro _ | (apply Go.iteN; exact rfl) <;> intro _ | (apply Go.guardD; exact rfl) <;> intro _ | (apply Go.guardE; exact rfl) <;> intro _ | (apply Go.guardN; exact rfl) <;> intro _ | (apply Go.sguardD; exact rfl) <;> intro _ | (apply Go.sguardE; exact rfl) <;> intro _ | (apply Go.sguardN; exact rfl) <;> intro _ | (apply Qg.guardD; exact rfl) <;> intro _ | (apply Qg.guardE; exact rfl) <;> intro _ | (apply Qg.guardN; exact rfl) <;> intro _ | (apply Go.guard; exact rfl; fail_if_success (intro h; exact absurd h (by decide)); rotate_left; fail_if_success (intro h; exact absurd h (by decide)); rotate_right) <;> intro _ | (apply Go.sguard; exact rfl; fail_if_success (intro h; exact absurd h (by decide)); rotate_left; fail_if_success (intro h; exact absurd h (by decide)); rotate_right) <;> intro _ | (apply Qg.guard; exact rfl; fail_if_success (intro h; exact absurd h (by decide)); rotate_left; fail_if_success (intro h; exact absurd h (by decide)); rotate_right) <;> intro _ | (apply Go.ite; exact rfl; fail_if_success (intro h; exact absurd h (by decide)); rotate_left; fail_if_success (intro h; exact absurd h (by decide)); rotate_right) <;> intro _
  refine Go.keep [0, 1, 5] (Go.loops (I := fun m fr τ => ∃ i : Nat, ∃ n l : Int, m = xs.length - i ∧ i ≤ xs.length ∧ n = i ∧ (0 ≤ l ∧ l + cntL cntE (xs.drop i) ≤ 1099511627776 ∧ heldS heldE xs k = heldS heldE (xs.drop i) l) ∧
    fr = [(0, .c (.fz (xs.map encE))), (1, .c (.int .i64 l)), (5, .c (.int .i64 n))] ∧ τ = E σ []) ?_ _ _ _ ⟨0, _, _, rfl, Nat.zero_le _, rfl, ⟨hk0, by simpa using hk, rfl⟩, rfl, rfl⟩)
  rintro m fr τ ⟨i, n, l, rfl, hi, hn, ⟨hl0, hl, hsl⟩, rfl, rfl⟩ hrec
  by_cases hlt : i < xs.length
  · have hdr := List.drop_eq_getElem_cons hlt
    have hn0 := cntL_nonneg cntE_nonneg (xs.drop (i + 1))
    have hn1 := cntL_nonneg (c := fun _ : Val => 3) (fun _ => by decide) xs[i].key
    rw [hdr] at hl
    simp only [cntL, cntE] at hl
    have neg : heldE xs[i] l = -1 → heldS heldE xs k = -1 := fun h => by
      rw [hsl, hdr, heldS, h]
      rfl
    have hor := heldS_or (c := fun _ => 3) heldV_or xs[i].key l
    repeat' first | (apply Go.seq) | (apply Go.skip) | (apply Go.region) | (apply Go.nil) | (apply Go.block) | (apply Go.blk) | (apply Go.draw) | (apply Go.segs) | (apply Go.qs) | (apply Qg.nil) | (apply Go.exit; exact rfl) | (apply Go.var2; first | exact Nat.le_add_right _ _ | assumption; decide; decide; decide; decide; exact rfl; exact rfl; exact rfl; exact rfl; exact rfl) | (apply Go.var; first | exact Nat.le_add_right _ _ | assumption; decide; exact rfl; exact rfl; exact rfl; exact rfl) | (apply Go.op; exact rfl; exact aop_alloc) | (apply Go.op; exact rfl; exact aop_new rfl rfl) | (apply Go.op; exact rfl; exact aop_mksl rfl) | (apply Go.op; exact rfl; exact aop_lenM rfl) | (apply Go.sop; exact rfl; exact aop_lenM rfl) | (apply Qg.op; exact rfl; exact aop_lenM rfl) | (apply Go.op; exact rfl; exact rfl) | (apply Go.no; exact rfl) | (apply Go.sop; exact rfl; exact rfl) | (apply Go.sno; exact rfl) | (apply Qg.op; exact rfl; exact rfl) | (apply Qg.no; exact rfl) | (apply Go.op; exact rfl; exact aop_load rfl rfl rfl (Nat.le_of_ble_eq_true rfl) rfl) | (apply Go.op; exact rfl; exact aop_store rfl rfl rfl rfl rfl rfl (Nat.le_of_ble_eq_true rfl)) | (apply Go.cond true; exact rfl) | (apply Go.cond false; exact rfl) | (apply Go.op; exact rfl; exact aop_iaddrM (enc := encE) rfl rfl hn hlt rfl) | (apply Go.sop; exact rfl; exact aop_iaddrM (enc := encE) rfl rfl hn hlt rfl) | (apply Qg.op; exact rfl; exact aop_iaddrM (enc := encE) rfl rfl hn hlt rfl) | (apply Go.pcallI; exact rfl; exact rfl; exact rfl; exact heldValS_ok xs[i].key l (hkl _ (List.getElem_mem hlt)) hl0 (by omega); intro _ _) | (apply Go.spcallI; exact rfl; exact rfl; exact rfl; exact heldValS_ok xs[i].key l (hkl _ (List.getElem_mem hlt)) hl0 (by omega); intro _ _) | (apply Qg.pcallI; exact rfl; exact rfl; exact rfl; exact heldValS_ok xs[i].key l (hkl _ (List.getElem_mem hlt)) hl0 (by omega); intro _ _) | (exfalso; omega) | (apply Go.iteD; exact rfl) <;> intro _ | (apply Go.iteE; exact rfl) <;> intro _ | (apply Go.iteN; exact rfl) <;> intro _ | (apply Go.guardD; exact rfl) <;> intro _ | (apply Go.guardE; exact rfl) <;> intro _ | (apply Go.guardN; exact rfl) <;> intro _ | (apply Go.sguardD; exact rfl) <;> intro _ | (apply Go.sguardE; exact rfl) <;> intro _ | (apply Go.sguardN; exact rfl) <;> intro _ | (apply Qg.guardD; exact rfl) <;> intro _ | (apply Qg.guardE; exact rfl) <;> intro _ | (apply Qg.guardN; exact rfl) <;> intro _ | (apply Go.guard; exact rfl; fail_if_success (intro h; exact absurd h (by decide)); rotate_left; fail_if_success (intro h; exact absurd h (by decide)); rotate_right) <;> intro _ | (apply Go.sguard; exact rfl; fail_if_success (intro h; exact absurd h (by decide)); rotate_left; fail_if_success (intro h; exact absurd h (by decide)); rotate_right) <;> intro _ | (apply Qg.guard; exact rfl; fail_if_success (intro h; exact absurd h (by decide)); rotate_left; fail_if_success (intro h; exact absurd h (by decide)); rotate_right) <;> intro _ | (apply Go.ite; exact rfl; fail_if_success (intro h; exact absurd h (by decide)); rotate_left; fail_if_success (intro h; exact absurd h (by decide)); rotate_right) <;> intro _
    · refine .ret rfl (.int ?_)
      refine (neg ?_).symm
      rw [heldE, if_pos (by omega)]
    · rename_i l1 h1 h2 h3
      refine .ret rfl (.int ?_)
      refine (neg ?_).symm
      rw [heldE, h1, if_neg h2, if_neg h3]
    · rename_i l1 h1 h2 h3
      have hw : IntKind.i64.wrap (l1 + 1) = l1 + 1 := wrap64 (by omega) (by omega)
      have hhe : heldE xs[i] l = l1 + 1 := by rw [heldE, h1, if_neg h2, if_pos h3]
      refine Go.keep [0, 1, 5] (hrec _ _ _ (by omega) ⟨i + 1, _, _, rfl, hlt, wrap_succ hn (by omega), ⟨?_, ?_, ?_⟩, rfl, rfl⟩)
      · rw [hw]; omega
      · rw [hw]; omega
      · rw [hsl, hdr, heldS, hhe, if_neg (by omega), hw]
  · repeat' first | (apply Go.seq) | (apply Go.skip) | (apply Go.region) | (apply Go.nil) | (apply Go.block) | (apply Go.blk) | (apply Go.draw) | (apply Go.segs) | (apply Go.qs) | (apply Qg.nil) | (apply Go.exit; exact rfl) | (apply Go.var2; first | exact Nat.le_add_right _ _ | assumption; decide; decide; decide; decide; exact rfl; exact rfl; exact rfl; exact rfl; exact rfl) | (apply Go.var; first | exact Nat.le_add_right _ _ | assumption; decide; exact rfl; exact rfl; exact rfl; exact rfl) | (apply Go.op; exact rfl; exact aop_alloc) | (apply Go.op; exact rfl; exact aop_new rfl rfl) | (apply Go.op; exact rfl; exact aop_mksl rfl) | (apply Go.op; exact rfl; exact aop_lenM rfl) | (apply Go.sop; exact rfl; exact aop_lenM rfl) | (apply Qg.op; exact rfl; exact aop_lenM rfl) | (apply Go.op; exact rfl; exact rfl) | (apply Go.no; exact rfl) | (apply Go.sop; exact rfl; exact rfl) | (apply Go.sno; exact rfl) | (apply Qg.op; exact rfl; exact rfl) | (apply Qg.no; exact rfl) | (apply Go.op; exact rfl; exact aop_load rfl rfl rfl (Nat.le_of_ble_eq_true rfl) rfl) | (apply Go.op; exact rfl; exact aop_store rfl rfl rfl rfl rfl rfl (Nat.le_of_ble_eq_true rfl)) | (apply Go.cond true; exact rfl) | (apply Go.cond false; exact rfl) | (exfalso; omega) | (apply Go.iteD; exact rfl) <;> intro _ | (apply Go.iteE; exact rfl) <;> intro _ | (apply Go.iteN; exact rfl) <;> intro _ | (apply Go.guardD; exact rfl) <;> intro _ | (apply Go.guardE; exact rfl) <;> intro _ | (apply Go.guardN; exact rfl) <;> intro _ | (apply Go.sguardD; exact rfl) <;> intro _ | (apply Go.sguardE; exact rfl) <;> intro _ | (apply Go.sguardN; exact rfl) <;> intro _ | (apply Qg.guardD; exact rfl) <;> intro _ | (apply Qg.guardE; exact rfl) <;> intro _ | (apply Qg.guardN; exact rfl) <;> intro _ | (apply Go.guard; exact rfl; fail_if_success (intro h; exact absurd h (by decide)); rotate_left; fail_if_success (intro h; exact absurd h (by decide)); rotate_right) <;> intro _ | (apply Go.sguard; exact rfl; fail_if_success (intro h; exact absurd h (by decide)); rotate_left; fail_if_success (intro h; exact absurd h (by decide)); rotate_right) <;> intro _ | (apply Qg.guard; exact rfl; fail_if_success (intro h; exact absurd h (by decide)); rotate_left; fail_if_success (intro h; exact absurd h (by decide)); rotate_right) <;> intro _ | (apply Go.ite; exact rfl; fail_if_success (intro h; exact absurd h (by decide)); rotate_left; fail_if_success (intro h; exact absurd h (by decide)); rotate_right) <;> intro _
    refine .ret rfl (.int ?_)
    rw [hsl, List.drop_eq_nil_of_le (by omega)]
    rfl
/-- The call marks what a struct leads to. -/
structure MarksL (P : Program) (f : Nat) (ys : List Ce) (k k' : Int) : Prop where
  at_ : ∀ σ S xs, HasL σ S ys xs → Ok P f [.agg xs, .c (.int .i64 k)] σ (fun r σ' => r = .c (.int .i64 k') ∧ σ'.next = σ.next ∧ (∀ a, ¬ S a → σ'.get a = σ.get a))
theorem entry_open {τ : Store} {S : Nat → Prop} {e : Entry} {xs : List Ce} (h : HasL τ S (encE e) xs) : ∃ x S', xs = [x, .int .i64 e.id] ∧ (∀ a, S' a → S a) ∧ Has τ S' (.fz (e.key.map encV)) x := by
  obtain ⟨U, h1, h2, h3, h4⟩ := h
  match xs, h1 with
  | [x, y], _ =>
    have hx := h4 0 (by simp [encE]) (by simp)
    have hy := h4 1 (by simp [encE]) (by simp)
    simp only [encE, List.getElem_cons_zero, List.getElem_cons_succ] at hx hy
    cases hy with
    | c h => exact ⟨x, U 0, rfl, fun a ha => h2 0 a ha, hx⟩
theorem markEntry_ok (e : Entry) (k : Int) (hx : e.key.length ≤ 1099511627776) (hk0 : 0 ≤ k) (hk : k + cntL (fun _ => 3) e.key ≤ 1099511627776) : MarksL Try.prog 22 (encE e) k (k + cntL (fun _ => 3) e.key) := by
  constructor
  intro σ S xs hh
  obtain ⟨x, S', rfl, hS', hx'⟩ := entry_open hh
  refine .old c_laws_markEntry_ok fun hS hA => .of_go mixed c_laws_markEntry_ok (Nat.le_of_ble_eq_true rfl) ?_
  clear hS hA
  repeat' first | (apply Go.seq) | (apply Go.skip) | (apply Go.region) | (apply Go.nil) | (apply Go.block) | (apply Go.blk) | (apply Go.draw) | (apply Go.segs) | (apply Go.qs) | (apply Qg.nil) | (apply Go.exit; exact rfl) | (apply Go.var2; first | exact Nat.le_add_right _ _ | assumption; decide; decide; decide; decide; exact rfl; exact rfl; exact rfl; exact rfl; exact rfl) | (apply Go.var; first | exact Nat.le_add_right _ _ | assumption; decide; exact rfl; exact rfl; exact rfl; exact rfl) | (apply Go.op; exact rfl; exact aop_alloc) | (apply Go.op; exact rfl; exact aop_new rfl rfl) | (apply Go.op; exact rfl; exact aop_mksl rfl) | (apply Go.op; exact rfl; exact aop_lenM rfl) | (apply Go.sop; exact rfl; exact aop_lenM rfl) | (apply Qg.op; exact rfl; exact aop_lenM rfl) | (apply Go.op; exact rfl; exact rfl) | (apply Go.no; exact rfl) | (apply Go.sop; exact rfl; exact rfl) | (apply Go.sno; exact rfl) | (apply Qg.op; exact rfl; exact rfl) | (apply Qg.no; exact rfl) | (apply Go.op; exact rfl; exact aop_load rfl rfl rfl (Nat.le_of_ble_eq_true rfl) rfl) | (apply Go.op; exact rfl; exact aop_store rfl rfl rfl rfl rfl rfl (Nat.le_of_ble_eq_true rfl)) | (apply Go.cond true; exact rfl) | (apply Go.cond false; exact rfl) | (exfalso; omega) | (apply Go.iteD; exact rfl) <;> intro _ | (apply Go.iteE; exact rfl) <;> intro _ | (apply Go.iteN; exact rfl) <;> intro _ | (apply Go.guardD; exact rfl) <;> intro _ | (apply Go.guardE; exact rfl) <;> intro _ | (apply Go.guardN; exact rfl) <;> intro _ | (apply Go.sguardD; exact rfl) <;> intro _ | (apply Go.sguardE; exact rfl) <;> intro _ | (apply Go.sguardN; exact rfl) <;> intro _ | (apply Qg.guardD; exact rfl) <;> intro _ | (apply Qg.guardE; exact rfl) <;> intro _ | (apply Qg.guardN; exact rfl) <;> intro _ | (apply Go.guard; exact rfl; fail_if_success (intro h; exact absurd h (by decide)); rotate_left; fail_if_success (intro h; exact absurd h (by decide)); rotate_right) <;> intro _ | (apply Go.sguard; exact rfl; fail_if_success (intro h; exact absurd h (by decide)); rotate_left; fail_if_success (intro h; exact absurd h (by decide)); rotate_right) <;> intro _ | (apply Qg.guard; exact rfl; fail_if_success (intro h; exact absurd h (by decide)); rotate_left; fail_if_success (intro h; exact absurd h (by decide)); rotate_right) <;> intro _ | (apply Go.ite; exact rfl; fail_if_success (intro h; exact absurd h (by decide)); rotate_left; fail_if_success (intro h; exact absurd h (by decide)); rotate_right) <;> intro _
  refine Go.call _ rfl rfl rfl ((markValS_ok e.key k hx hk0 hk).at_ σ S' _ hx') ?_
  rintro r τ1 ⟨rfl, hnx, hfr, -⟩
  repeat' first | (apply Go.seq) | (apply Go.skip) | (apply Go.region) | (apply Go.nil) | (apply Go.block) | (apply Go.blk) | (apply Go.draw) | (apply Go.segs) | (apply Go.qs) | (apply Qg.nil) | (apply Go.exit; exact rfl) | (apply Go.var2; first | exact Nat.le_add_right _ _ | assumption; decide; decide; decide; decide; exact rfl; exact rfl; exact rfl; exact rfl; exact rfl) | (apply Go.var; first | exact Nat.le_add_right _ _ | assumption; decide; exact rfl; exact rfl; exact rfl; exact rfl) | (apply Go.op; exact rfl; exact aop_alloc) | (apply Go.op; exact rfl; exact aop_new rfl rfl) | (apply Go.op; exact rfl; exact aop_mksl rfl) | (apply Go.op; exact rfl; exact aop_lenM rfl) | (apply Go.sop; exact rfl; exact aop_lenM rfl) | (apply Qg.op; exact rfl; exact aop_lenM rfl) | (apply Go.op; exact rfl; exact rfl) | (apply Go.no; exact rfl) | (apply Go.sop; exact rfl; exact rfl) | (apply Go.sno; exact rfl) | (apply Qg.op; exact rfl; exact rfl) | (apply Qg.no; exact rfl) | (apply Go.op; exact rfl; exact aop_load rfl rfl rfl (Nat.le_of_ble_eq_true rfl) rfl) | (apply Go.op; exact rfl; exact aop_store rfl rfl rfl rfl rfl rfl (Nat.le_of_ble_eq_true rfl)) | (apply Go.cond true; exact rfl) | (apply Go.cond false; exact rfl) | (exfalso; omega) | (apply Go.iteD; exact rfl) <;> intro _ | (apply Go.iteE; exact rfl) <;> intro _ | (apply Go.iteN; exact rfl) <;> intro _ | (apply Go.guardD; exact rfl) <;> intro _ | (apply Go.guardE; exact rfl) <;> intro _ | (apply Go.guardN; exact rfl) <;> intro _ | (apply Go.sguardD; exact rfl) <;> intro _ | (apply Go.sguardE; exact rfl) <;> intro _ | (apply Go.sguardN; exact rfl) <;> intro _ | (apply Qg.guardD; exact rfl) <;> intro _ | (apply Qg.guardE; exact rfl) <;> intro _ | (apply Qg.guardN; exact rfl) <;> intro _ | (apply Go.guard; exact rfl; fail_if_success (intro h; exact absurd h (by decide)); rotate_left; fail_if_success (intro h; exact absurd h (by decide)); rotate_right) <;> intro _ | (apply Go.sguard; exact rfl; fail_if_success (intro h; exact absurd h (by decide)); rotate_left; fail_if_success (intro h; exact absurd h (by decide)); rotate_right) <;> intro _ | (apply Qg.guard; exact rfl; fail_if_success (intro h; exact absurd h (by decide)); rotate_left; fail_if_success (intro h; exact absurd h (by decide)); rotate_right) <;> intro _ | (apply Go.ite; exact rfl; fail_if_success (intro h; exact absurd h (by decide)); rotate_left; fail_if_success (intro h; exact absurd h (by decide)); rotate_right) <;> intro _
  exact .ret rfl ⟨rfl, hnx, fun a ha => hfr a fun h => ha (hS' a h)⟩
end Go.Proofs.Ytjlhfjpnnildhaa.Am
