/- The abstract machine, part 26: writing into owned trees; the laws' marks. -/
import Derived.Test.YtjlhfjpnnildhaaAm25
set_option linter.unusedVariables false
set_option linter.unusedSimpArgs false
namespace Go.Proofs.Ytjlhfjpnnildhaa.Am
open Go.RowKit

/-- What a slice's tree is made of. -/
theorem Has.open {σ : Store} {S : Nat → Prop} {ys : List (List Ce)} {x : Ce} (h : Has σ S (.fz ys) x) (hne : 0 < ys.length) : ∃ (id v s : Nat) (cs junk : List (List Ce)) (T : Nat → Nat → Nat → Prop), x = .sl id v 0 ys.length (ys.length + junk.length) ∧ σ.get id = some (v, cs ++ junk) ∧ S id ∧ ∃ hl : cs.length = ys.length,
    ∃ hs : ∀ i (hi : i < ys.length), (cs[i]'(by omega)).length = ys[i].length, (∀ e ∈ cs ++ junk, e.length = s) ∧ (∀ e ∈ junk, ∀ x ∈ e, Flat x) ∧ (∀ i j a, T i j a → S a ∧ a ≠ id) ∧ (∀ i j i' j' a, T i j a → T i' j' a → i = i' ∧ j = j') ∧
      ∀ i j (hi : i < ys.length) (hj : j < ys[i].length), Has σ (T i j) ys[i][j] ((cs[i]'(by omega))[j]'(by have := hs i hi; omega)) := by
  cases h with
  | c h => cases h
  | nil => simp at hne
  | o ys id v s cs junk T hg hS hl hs hall hj hT hd h => exact ⟨id, v, s, cs, junk, T, rfl, hg, hS, hl, hs, hall, hj, hT, hd, h⟩
theorem splice_set {e : List Ce} {j : Nat} {z : Ce} (h : j < e.length) : splice e j [z] = e.set j z := by
  simp only [splice, List.length_singleton]
  rw [List.set_eq_take_append_cons_drop, if_pos h]
  simp
/-- A flat cell of the tree's upper block is written. -/
theorem Has.write {σ : Store} {S : Nat → Prop} {ys : List (List Ce)} {x : Ce} (h : Has σ S (.fz ys) x) {i j : Nat} (hi : i < ys.length) (hj : j < ys[i].length) : ∃ (id v : Nat) (c : Nat) (es : List (List Ce)) (e : List Ce), x = .sl id v 0 ys.length c ∧ σ.get id = some (v, es) ∧ es[0 + i]? = some e ∧ e.length = ys[i].length ∧ S id ∧
    ∀ z, Flat z → Has (σ.put id (v, es.set (0 + i) (splice e (0 + j) [z]))) S (.fz (ys.set i (ys[i].set j z))) x := by
  obtain ⟨id, v, s, cs, junk, T, rfl, hg, hS, hl, hs, hall, hjk, hT, hd, hh⟩ := h.open (by omega)
  have hic : i < cs.length := by omega
  refine ⟨id, v, _, cs ++ junk, cs[i], rfl, hg, by rw [Nat.zero_add, List.getElem?_append_left hic, List.getElem?_eq_getElem hic], hs i hi, hS, fun z hz => ?_⟩
  have hlen : cs[i].length = ys[i].length := hs i hi
  simp only [Nat.zero_add]
  rw [splice_set (by omega), List.set_append_left _ _ hic]
  have hy : (ys.set i (ys[i].set j z)).length = ys.length := by simp
  have key := Has.o (σ := σ.put id (v, cs.set i (cs[i].set j z) ++ junk)) (S := S) (ys.set i (ys[i].set j z)) id v s (cs.set i (cs[i].set j z)) junk T (put_self rfl) hS (by simp [hl])
    (fun k hk => by
      have hk' : k < ys.length := by simpa using hk
      by_cases e : k = i
      · subst e; simp [hlen]
      · rw [List.getElem_set_ne (Ne.symm e), List.getElem_set_ne (Ne.symm e)]; exact hs k hk')
    (fun e he => by
      rcases List.mem_append.1 he with h1 | h1
      · rcases List.mem_or_eq_of_mem_set h1 with h2 | h2
        · exact hall e (List.mem_append_left _ h2)
        · subst h2
          rw [List.length_set]
          exact hall _ (List.mem_append_left _ (List.getElem_mem hic))
      · exact hall e (List.mem_append_right _ h1)) hjk hT hd
    (fun k m hk hm => by
      have hk' : k < ys.length := by simpa using hk
      have fr : ∀ {k m} {y x : Ce}, Has σ (T k m) y x → Has (σ.put id (v, cs.set i (cs[i].set j z) ++ junk)) (T k m) y x := fun h => h.frame fun a ha => put_ne (hT _ _ a ha).2
      by_cases e : k = i
      · subst e
        have e1 : (ys.set k (ys[k].set j z))[k] = ys[k].set j z := by simp
        have e2 : (cs.set k (cs[k].set j z))[k]'(by simp; omega) = cs[k].set j z := by simp
        simp only [e1, e2]
        by_cases e3 : m = j
        · subst e3
          simp only [List.getElem_set_self]
          exact .c hz
        · have hm' : m < ys[k].length := by simpa using hm
          rw [List.getElem_set_ne (Ne.symm e3), List.getElem_set_ne (Ne.symm e3)]
          exact fr (hh k m hk' hm')
      · have e1 : (ys.set i (ys[i].set j z))[k] = ys[k] := by rw [List.getElem_set_ne (Ne.symm e)]
        have e2 : (cs.set i (cs[i].set j z))[k]'(by simp; omega) = cs[k]'(by omega) := by rw [List.getElem_set_ne (Ne.symm e)]
        simp only [e1, e2]
        exact fr (hh k m hk' (by simpa only [e1] using hm)))
  rw [hy] at key
  exact key
/-- A tree below is handed on and comes back changed. -/
theorem Has.child {σ : Store} {S : Nat → Prop} {ys : List (List Ce)} {x : Ce} (h : Has σ S (.fz ys) x) {i j : Nat} (hi : i < ys.length) (hj : j < ys[i].length) : ∃ (id v : Nat) (c : Nat) (es : List (List Ce)) (e : List Ce) (T : Nat → Prop), x = .sl id v 0 ys.length c ∧ σ.get id = some (v, es) ∧ es[0 + i]? = some e ∧ e.length = ys[i].length ∧ (∀ a, T a → S a) ∧
    ∃ hj' : j < e.length, Has σ T ys[i][j] e[j] ∧ ∀ σ' y', (∀ a, ¬ T a → σ'.get a = σ.get a) → Has σ' T y' e[j] → Has σ' S (.fz (ys.set i (ys[i].set j y'))) x := by
  obtain ⟨id, v, s, cs, junk, T, rfl, hg, hS, hl, hs, hall, hjk, hT, hd, hh⟩ := h.open (by omega)
  have hic : i < cs.length := by omega
  have hlen : cs[i].length = ys[i].length := hs i hi
  refine ⟨id, v, _, cs ++ junk, cs[i], T i j, rfl, hg, by rw [Nat.zero_add, List.getElem?_append_left hic, List.getElem?_eq_getElem hic], hlen, fun a ha => (hT i j a ha).1, by omega, hh i j hi hj, fun σ' y' hf hy' => ?_⟩
  have hy : (ys.set i (ys[i].set j y')).length = ys.length := by simp
  have key := Has.o (σ := σ') (S := S) (ys.set i (ys[i].set j y')) id v s cs junk T (by rw [hf id (fun h => (hT i j id h).2 rfl)]; exact hg) hS (by simp [hl])
    (fun k hk => by
      have hk' : k < ys.length := by simpa using hk
      by_cases e : k = i
      · subst e; simp [hlen]
      · rw [List.getElem_set_ne (Ne.symm e)]; exact hs k hk') hall hjk hT hd
    (fun k m hk hm => by
      have hk' : k < ys.length := by simpa using hk
      have fr : ∀ {k m} {y x : Ce}, ¬ (k = i ∧ m = j) → Has σ (T k m) y x → Has σ' (T k m) y x := fun hne h => h.frame fun a ha => hf a fun h2 => hne (hd _ _ _ _ a ha h2)
      by_cases e : k = i
      · subst e
        have e1 : (ys.set k (ys[k].set j y'))[k] = ys[k].set j y' := by simp
        simp only [e1]
        by_cases e3 : m = j
        · subst e3
          simp only [List.getElem_set_self]
          exact hy'
        · have hm' : m < ys[k].length := by simpa using hm
          rw [List.getElem_set_ne (Ne.symm e3)]
          exact fr (by omega) (hh k m hk' hm')
      · have e1 : (ys.set i (ys[i].set j y'))[k] = ys[k] := by rw [List.getElem_set_ne (Ne.symm e)]
        simp only [e1]
        exact fr (by omega) (hh k m hk' (by simpa only [e1] using hm)))
  rw [hy] at key
  exact key

/-! ### Operations on a block of a store, whichever it is -/
theorem aop_iaddrO {fr : Fr} {σ : Store} {s id v i m c n : Nat} {x y : Opd} {kd : IntKind} {es : List (List Ce)} {z : Int} (hx : x.ev fr = some (.c (.sl id v i m c))) (hy : y.ev fr = some (.c (.int kd z))) (hz : z = (n : Int)) (hn : n < m) (hl : σ.get id = some (v, es)) {e : List Ce} (he : es[i + n]? = some e) (hs : e.length = s) :
    aop (.iaddr s x y) fr σ = some (.c (.ptr id v (i + n) 0), σ) := by
  subst hz
  simp [aop, hx, hy, iaddrA, hn, hl, he, hs]
theorem aop_storeO {fr : Fr} {σ : Store} {id v i j : Nat} {a y : Opd} {es : List (List Ce)} {e : List Ce} {z : Ce} (ha : a.ev fr = some (.c (.ptr id v i j))) (hy : y.ev fr = some (.c z)) (hl : σ.get id = some (v, es)) (he : es[i]? = some e) (hj : j < e.length) :
    aop (.store 1 a y) fr σ = some (.un, σ.put id (v, es.set i (splice e j [z]))) := by
  have : j + 1 ≤ e.length := by omega
  simp [aop, ha, hy, AV.cells, hl, he, this]
theorem aop_loadO {fr : Fr} {σ : Store} {id v i j : Nat} {a : Opd} {es : List (List Ce)} {e : List Ce} (ha : a.ev fr = some (.c (.ptr id v i j))) (hl : σ.get id = some (v, es)) (he : es[i]? = some e) (hj : j < e.length) :
    aop (.load false 1 a) fr σ = some (.c e[j], σ) := by
  have h1 : j ≤ e.length := by omega
  have h2 : e.drop j = e[j] :: e.drop (j + 1) := List.drop_eq_getElem_cons hj
  simp only [aop, ha, Store.at_, hl, he, if_true, Option.bind_some, if_pos h1, h2, takeA]
  rfl

theorem aop_lenH {fr : Fr} {σ : Store} {S : Nat → Prop} {ys : List (List Ce)} {x : Ce} {o : Opd} (hx : o.ev fr = some (.c x)) (h : Has σ S (.fz ys) x) : aop (.len false o) fr σ = some (.c (.int .i64 (ys.length : Int)), σ) := by
  cases h with
  | c h => cases h
  | nil => simp [aop, hx]
  | o ys id v s cs junk T hg hS hl hs hall hj hT hd h => simp [aop, hx]

/-- The call marks a tree, in place. -/
structure Marks (P : Program) (f : Nat) (y y' : Ce) (k k' : Int) : Prop where
  at_ : ∀ σ S x, Has σ S y x → Ok P f [.c x, .c (.int .i64 k)] σ (fun r σ' => r = .c (.int .i64 k') ∧ σ'.next = σ.next ∧ (∀ a, ¬ S a → σ'.get a = σ.get a) ∧ Has σ' S y' x)

/-- The marks' loop: B marks one element. -/
def markSCode (nt q : Nat) (B : AC) : AFn := ⟨nt, [.t 4], (.seq (.region [⟨some 4, .op (.mv (.k (.int .i64 0))), none⟩]) (.seq (.seq (.region [⟨some 5, .op (.mv (.k (.int .i64 0))), none⟩]) (.block 0 (.loop (.seq (.seq (.region [⟨some 6, .op (.mv (.t 5)), none⟩, ⟨some 7, .op (.mv (.t 0)), none⟩, ⟨some 8, .op (.len false (.t 7)), none⟩, ⟨some 9, .op (.bin .lss (.t 6) (.t 8)), none⟩]) (.cond (.t 9) .skip (.exit 0))) (.seq (.block 1 B) (.region [⟨some 10, .op (.mv (.t 5)), none⟩, ⟨some 11, .op (.bin .add (.t 10) (.k (.int .i64 1))), none⟩, ⟨some 5, .op (.mv (.t 11)), none⟩])))))) (.seq (.region [⟨some q, .op (.mv (.t 1)), none⟩, ⟨some 4, .op (.mv (.t q)), none⟩]) .ret)))⟩
def markL {α : Type} (m : α → Int → α) (c : α → Int) : List α → Int → List α
  | [], _ => []
  | a :: r, k => m a k :: markL m c r (k + c a)
def cntL {α : Type} (c : α → Int) : List α → Int
  | [] => 0
  | a :: r => c a + cntL c r
theorem markL_length {α : Type} {m : α → Int → α} {c : α → Int} : ∀ {xs : List α} {k : Int}, (markL m c xs k).length = xs.length
  | [], k => rfl
  | a :: r, k => by simp [markL, markL_length]
theorem markL_append {α : Type} {m : α → Int → α} {c : α → Int} : ∀ {xs ys : List α} {k : Int}, markL m c (xs ++ ys) k = markL m c xs k ++ markL m c ys (k + cntL c xs)
  | [], ys, k => by simp [markL, cntL]
  | a :: r, ys, k => by
    simp only [List.cons_append, markL, markL_append, cntL]
    rw [Int.add_assoc]
theorem cntL_append {α : Type} {c : α → Int} : ∀ {xs ys : List α}, cntL c (xs ++ ys) = cntL c xs + cntL c ys
  | [], ys => by simp [cntL]
  | a :: r, ys => by
    simp only [List.cons_append, cntL, cntL_append]
    omega
theorem cntL_nonneg {α : Type} {c : α → Int} (h : ∀ a, 0 ≤ c a) : ∀ xs : List α, 0 ≤ cntL c xs
  | [] => Int.le_refl _
  | a :: r => by
    have := cntL_nonneg h r
    have := h a
    simp only [cntL]
    omega
theorem markS_ok {P : Program} (hm : P.follows .mixedOrders = true) {fz : List Nat} {n nt q : Nat} {B : AC} (hc : compFn P fz n = some (markSCode nt q B)) (hnt : 2 ≤ nt) (hq : 12 ≤ q) {α : Type} (enc : α → List Ce) (m : α → Int → α) (c : α → Int) (hc0 : ∀ a, 0 ≤ c a) (xs : List α) (k : Int) (hx : xs.length ≤ 1099511627776) (hk0 : 0 ≤ k) (hk : k + cntL c xs ≤ 1099511627776)
    (hB : ∀ (n0 : Nat) (rets : List RV) (R : AV → Store → Prop) (K : List AK) (σ τ : Store) (S : Nat → Prop) (x : Ce) (i : Nat) (ni : Int) (ki : Int) (ys : List α) (hi : i < ys.length) (fr : Fr), n0 ≤ τ.next → ys.length ≤ 1099511627776 → ni = (i : Int) → 0 ≤ ki → ki + c ys[i] ≤ 1099511627776 →
      look fr 0 = some (.c x) → look fr 1 = some (.c (.int .i64 ki)) → look fr 5 = some (.c (.int .i64 ni)) → ys[i] ∈ xs → Has τ S (.fz (ys.map enc)) x →
      (∀ fr' τ', look fr' 0 = some (.c x) → look fr' 1 = some (.c (.int .i64 (ki + c ys[i]))) → look fr' 5 = some (.c (.int .i64 ni)) → τ'.next = τ.next → (∀ a, ¬ S a → τ'.get a = τ.get a) → Has τ' S (.fz ((ys.set i (m ys[i] ki)).map enc)) x → Go P n0 nt rets R K fr' τ') →
      Go P n0 nt rets R (.code B :: K) fr τ) : Marks P n (.fz (xs.map enc)) (.fz ((markL m c xs k).map enc)) k (k + cntL c xs) := by
  constructor
  intro σ S x hh
  refine .old hc fun hS hA => .of_go hm hc (by simpa [markSCode] using hnt) ?_
  have hlen : (xs.map enc).length = xs.length := by simp
  repeat' first | (apply Go.seq) | (apply Go.skip) | (apply Go.region) | (apply Go.nil) | (apply Go.block) | (apply Go.blk) | (apply Go.draw) | (apply Go.segs) | (apply Go.qs) | (apply Qg.nil) | (apply Go.exit; exact rfl) | (apply Go.var2; exact Nat.le_add_right _ _; decide; decide; decide; decide; exact rfl; exact rfl; exact rfl; exact rfl; exact rfl) | (apply Go.var; exact Nat.le_add_right _ _; decide; exact rfl; exact rfl; exact rfl; exact rfl) | (apply Go.op; exact rfl; exact aop_alloc) | (apply Go.op; exact rfl; exact aop_new rfl rfl) | (apply Go.op; exact rfl; exact aop_mksl rfl) | (apply Go.op; exact rfl; exact aop_lenM rfl) | (apply Go.sop; exact rfl; exact aop_lenM rfl) | (apply Qg.op; exact rfl; exact aop_lenM rfl) | (apply Go.op; exact rfl; exact rfl) | (apply Go.no; exact rfl) | (apply Go.sop; exact rfl; exact rfl) | (apply Go.sno; exact rfl) | (apply Qg.op; exact rfl; exact rfl) | (apply Qg.no; exact rfl) | (apply Go.op; exact rfl; exact aop_load rfl rfl rfl (Nat.le_of_ble_eq_true rfl) rfl) | (apply Go.op; exact rfl; exact aop_store rfl rfl rfl rfl rfl rfl (Nat.le_of_ble_eq_true rfl)) | (apply Go.cond true; exact rfl) | (apply Go.cond false; exact rfl) | (exfalso; omega) | (apply Go.iteD; exact rfl) <;> intro _ | (apply Go.iteE; exact rfl) <;> intro _ | (apply Go.iteN; exact rfl) <;> intro _ | (apply Go.guardD; exact rfl) <;> intro _ | (apply Go.guardE; exact rfl) <;> intro _ | (apply Go.guardN; exact rfl) <;> intro _ | (apply Go.sguardD; exact rfl) <;> intro _ | (apply Go.sguardE; exact rfl) <;> intro _ | (apply Go.sguardN; exact rfl) <;> intro _ | (apply Qg.guardD; exact rfl) <;> intro _ | (apply Qg.guardE; exact rfl) <;> intro _ | (apply Qg.guardN; exact rfl) <;> intro _ | (apply Go.guard; exact rfl; fail_if_success (intro h; exact absurd h (by decide)); rotate_left; fail_if_success (intro h; exact absurd h (by decide)); rotate_right) <;> intro _ | (apply Go.sguard; exact rfl; fail_if_success (intro h; exact absurd h (by decide)); rotate_left; fail_if_success (intro h; exact absurd h (by decide)); rotate_right) <;> intro _ | (apply Qg.guard; exact rfl; fail_if_success (intro h; exact absurd h (by decide)); rotate_left; fail_if_success (intro h; exact absurd h (by decide)); rotate_right) <;> intro _ | (apply Go.ite; exact rfl; fail_if_success (intro h; exact absurd h (by decide)); rotate_left; fail_if_success (intro h; exact absurd h (by decide)); rotate_right) <;> intro _
  refine Go.keep [0, 1, 5] (Go.loops (I := fun mm fr τ => ∃ i : Nat, ∃ n ki : Int, mm = xs.length - i ∧ i ≤ xs.length ∧ n = i ∧ (ki = k + cntL c (xs.take i) ∧ τ.next = σ.next ∧ (∀ a, ¬ S a → τ.get a = σ.get a) ∧ Has τ S (.fz ((markL m c (xs.take i) k ++ xs.drop i).map enc)) x) ∧
    fr = [(0, .c x), (1, .c (.int .i64 ki)), (5, .c (.int .i64 n))]) ?_ _ _ _ ⟨0, _, _, rfl, Nat.zero_le _, rfl, ⟨by simp [cntL], rfl, fun _ _ => rfl, by simpa [markL] using hh⟩, rfl⟩)
  rintro mm fr τ ⟨i, n, ki, rfl, hi, hn, ⟨hki, hnx, hfr, hhi⟩, rfl⟩ hrec
  by_cases hlt : i < xs.length
  · have hmap : (((markL m c (xs.take i) k ++ xs.drop i).map enc).length : Int) = xs.length := by simp [markL_length]; omega
    repeat' first | (apply Go.seq) | (apply Go.skip) | (apply Go.region) | (apply Go.nil) | (apply Go.block) | (apply Go.blk) | (apply Go.draw) | (apply Go.segs) | (apply Go.qs) | (apply Qg.nil) | (apply Go.exit; exact rfl) | (apply Go.var2; exact Nat.le_add_right _ _; decide; decide; decide; decide; exact rfl; exact rfl; exact rfl; exact rfl; exact rfl) | (apply Go.var; exact Nat.le_add_right _ _; decide; exact rfl; exact rfl; exact rfl; exact rfl) | (apply Go.op; exact rfl; exact aop_alloc) | (apply Go.op; exact rfl; exact aop_new rfl rfl) | (apply Go.op; exact rfl; exact aop_mksl rfl) | (apply Go.op; exact rfl; exact aop_lenM rfl) | (apply Go.sop; exact rfl; exact aop_lenM rfl) | (apply Qg.op; exact rfl; exact aop_lenM rfl) | (apply Go.op; exact rfl; exact rfl) | (apply Go.no; exact rfl) | (apply Go.sop; exact rfl; exact rfl) | (apply Go.sno; exact rfl) | (apply Qg.op; exact rfl; exact rfl) | (apply Qg.no; exact rfl) | (apply Go.op; exact rfl; exact aop_load rfl rfl rfl (Nat.le_of_ble_eq_true rfl) rfl) | (apply Go.op; exact rfl; exact aop_store rfl rfl rfl rfl rfl rfl (Nat.le_of_ble_eq_true rfl)) | (apply Go.cond true; exact rfl) | (apply Go.cond false; exact rfl) | (apply Go.op; exact rfl; exact aop_lenH rfl hhi) | (apply Go.sop; exact rfl; exact aop_lenH rfl hhi) | (apply Qg.op; exact rfl; exact aop_lenH rfl hhi) | (exfalso; omega) | (apply Go.iteD; exact rfl) <;> intro _ | (apply Go.iteE; exact rfl) <;> intro _ | (apply Go.iteN; exact rfl) <;> intro _ | (apply Go.guardD; exact rfl) <;> intro _ | (apply Go.guardE; exact rfl) <;> intro _ | (apply Go.guardN; exact rfl) <;> intro _ | (apply Go.sguardD; exact rfl) <;> intro _ | (apply Go.sguardE; exact rfl) <;> intro _ | (apply Go.sguardN; exact rfl) <;> intro _ | (apply Qg.guardD; exact rfl) <;> intro _ | (apply Qg.guardE; exact rfl) <;> intro _ | (apply Qg.guardN; exact rfl) <;> intro _ | (apply Go.guard; exact rfl; fail_if_success (intro h; exact absurd h (by decide)); rotate_left; fail_if_success (intro h; exact absurd h (by decide)); rotate_right) <;> intro _ | (apply Go.sguard; exact rfl; fail_if_success (intro h; exact absurd h (by decide)); rotate_left; fail_if_success (intro h; exact absurd h (by decide)); rotate_right) <;> intro _ | (apply Qg.guard; exact rfl; fail_if_success (intro h; exact absurd h (by decide)); rotate_left; fail_if_success (intro h; exact absurd h (by decide)); rotate_right) <;> intro _ | (apply Go.ite; exact rfl; fail_if_success (intro h; exact absurd h (by decide)); rotate_left; fail_if_success (intro h; exact absurd h (by decide)); rotate_right) <;> intro _
    rw [hmap]
    repeat' first | (apply Go.seq) | (apply Go.skip) | (apply Go.region) | (apply Go.nil) | (apply Go.block) | (apply Go.blk) | (apply Go.draw) | (apply Go.segs) | (apply Go.qs) | (apply Qg.nil) | (apply Go.exit; exact rfl) | (apply Go.var2; exact Nat.le_add_right _ _; decide; decide; decide; decide; exact rfl; exact rfl; exact rfl; exact rfl; exact rfl) | (apply Go.var; exact Nat.le_add_right _ _; decide; exact rfl; exact rfl; exact rfl; exact rfl) | (apply Go.op; exact rfl; exact aop_alloc) | (apply Go.op; exact rfl; exact aop_new rfl rfl) | (apply Go.op; exact rfl; exact aop_mksl rfl) | (apply Go.op; exact rfl; exact aop_lenM rfl) | (apply Go.sop; exact rfl; exact aop_lenM rfl) | (apply Qg.op; exact rfl; exact aop_lenM rfl) | (apply Go.op; exact rfl; exact rfl) | (apply Go.no; exact rfl) | (apply Go.sop; exact rfl; exact rfl) | (apply Go.sno; exact rfl) | (apply Qg.op; exact rfl; exact rfl) | (apply Qg.no; exact rfl) | (apply Go.op; exact rfl; exact aop_load rfl rfl rfl (Nat.le_of_ble_eq_true rfl) rfl) | (apply Go.op; exact rfl; exact aop_store rfl rfl rfl rfl rfl rfl (Nat.le_of_ble_eq_true rfl)) | (apply Go.cond true; exact rfl) | (apply Go.cond false; exact rfl) | (exfalso; omega) | (apply Go.iteD; exact rfl) <;> intro _ | (apply Go.iteE; exact rfl) <;> intro _ | (apply Go.iteN; exact rfl) <;> intro _ | (apply Go.guardD; exact rfl) <;> intro _ | (apply Go.guardE; exact rfl) <;> intro _ | (apply Go.guardN; exact rfl) <;> intro _ | (apply Go.sguardD; exact rfl) <;> intro _ | (apply Go.sguardE; exact rfl) <;> intro _ | (apply Go.sguardN; exact rfl) <;> intro _ | (apply Qg.guardD; exact rfl) <;> intro _ | (apply Qg.guardE; exact rfl) <;> intro _ | (apply Qg.guardN; exact rfl) <;> intro _ | (apply Go.guard; exact rfl; fail_if_success (intro h; exact absurd h (by decide)); rotate_left; fail_if_success (intro h; exact absurd h (by decide)); rotate_right) <;> intro _ | (apply Go.sguard; exact rfl; fail_if_success (intro h; exact absurd h (by decide)); rotate_left; fail_if_success (intro h; exact absurd h (by decide)); rotate_right) <;> intro _ | (apply Qg.guard; exact rfl; fail_if_success (intro h; exact absurd h (by decide)); rotate_left; fail_if_success (intro h; exact absurd h (by decide)); rotate_right) <;> intro _ | (apply Go.ite; exact rfl; fail_if_success (intro h; exact absurd h (by decide)); rotate_left; fail_if_success (intro h; exact absurd h (by decide)); rotate_right) <;> intro _
    · have hyl : (markL m c (xs.take i) k ++ xs.drop i).length = xs.length := by simp [markL_length]; omega
      have hyi : (markL m c (xs.take i) k ++ xs.drop i)[i]'(by omega) = xs[i] := by
        rw [List.getElem_append_right (by simp [markL_length]; omega)]
        simp [markL_length, Nat.min_eq_left (Nat.le_of_lt hlt)]
      have htk : xs.take (i + 1) = xs.take i ++ [xs[i]] := List.take_succ_eq_append_getElem hlt
      have hcs : cntL c (xs.take (i + 1)) = cntL c (xs.take i) + c xs[i] := by rw [htk, cntL_append]; simp [cntL]
      have hle : cntL c (xs.take (i + 1)) ≤ cntL c xs := by
        have h1 : cntL c xs = cntL c (xs.take (i + 1)) + cntL c (xs.drop (i + 1)) := by rw [← cntL_append, List.take_append_drop]
        have := cntL_nonneg hc0 (xs.drop (i + 1))
        omega
      have hn0 := cntL_nonneg hc0 (xs.take i)
      refine hB _ _ _ _ σ τ S _ i n ki (markL m c (xs.take i) k ++ xs.drop i) (by omega) _ (by omega) (by omega) hn (by omega) (by rw [hyi]; omega) rfl rfl rfl (by rw [hyi]; exact List.getElem_mem hlt) hhi ?_
      intro fr' τ' h0 h1 h5 hnx' hfr' hh'
      rw [hyi] at h1 hh'
      refine .same (fr' := (0, .c x) :: (1, .c (.int .i64 (ki + c xs[i]))) :: (5, .c (.int .i64 n)) :: fr') (fun t => ?_) ?_
      · simp only [look]
        split
        · rename_i e; subst e; exact h0.symm
        · split
          · rename_i e; subst e; exact h1.symm
          · split
            · rename_i e; subst e; exact h5.symm
            · rfl
      repeat' first | (apply Go.seq) | (apply Go.skip) | (apply Go.region) | (apply Go.nil) | (apply Go.block) | (apply Go.blk) | (apply Go.draw) | (apply Go.segs) | (apply Go.qs) | (apply Qg.nil) | (apply Go.exit; exact rfl) | (apply Go.var2; exact Nat.le_add_right _ _; decide; decide; decide; decide; exact rfl; exact rfl; exact rfl; exact rfl; exact rfl) | (apply Go.var; exact Nat.le_add_right _ _; decide; exact rfl; exact rfl; exact rfl; exact rfl) | (apply Go.op; exact rfl; exact aop_alloc) | (apply Go.op; exact rfl; exact aop_new rfl rfl) | (apply Go.op; exact rfl; exact aop_mksl rfl) | (apply Go.op; exact rfl; exact aop_lenM rfl) | (apply Go.sop; exact rfl; exact aop_lenM rfl) | (apply Qg.op; exact rfl; exact aop_lenM rfl) | (apply Go.op; exact rfl; exact rfl) | (apply Go.no; exact rfl) | (apply Go.sop; exact rfl; exact rfl) | (apply Go.sno; exact rfl) | (apply Qg.op; exact rfl; exact rfl) | (apply Qg.no; exact rfl) | (apply Go.op; exact rfl; exact aop_load rfl rfl rfl (Nat.le_of_ble_eq_true rfl) rfl) | (apply Go.op; exact rfl; exact aop_store rfl rfl rfl rfl rfl rfl (Nat.le_of_ble_eq_true rfl)) | (apply Go.cond true; exact rfl) | (apply Go.cond false; exact rfl) | (exfalso; omega) | (apply Go.iteD; exact rfl) <;> intro _ | (apply Go.iteE; exact rfl) <;> intro _ | (apply Go.iteN; exact rfl) <;> intro _ | (apply Go.guardD; exact rfl) <;> intro _ | (apply Go.guardE; exact rfl) <;> intro _ | (apply Go.guardN; exact rfl) <;> intro _ | (apply Go.sguardD; exact rfl) <;> intro _ | (apply Go.sguardE; exact rfl) <;> intro _ | (apply Go.sguardN; exact rfl) <;> intro _ | (apply Qg.guardD; exact rfl) <;> intro _ | (apply Qg.guardE; exact rfl) <;> intro _ | (apply Qg.guardN; exact rfl) <;> intro _ | (apply Go.guard; exact rfl; fail_if_success (intro h; exact absurd h (by decide)); rotate_left; fail_if_success (intro h; exact absurd h (by decide)); rotate_right) <;> intro _ | (apply Go.sguard; exact rfl; fail_if_success (intro h; exact absurd h (by decide)); rotate_left; fail_if_success (intro h; exact absurd h (by decide)); rotate_right) <;> intro _ | (apply Qg.guard; exact rfl; fail_if_success (intro h; exact absurd h (by decide)); rotate_left; fail_if_success (intro h; exact absurd h (by decide)); rotate_right) <;> intro _ | (apply Go.ite; exact rfl; fail_if_success (intro h; exact absurd h (by decide)); rotate_left; fail_if_success (intro h; exact absurd h (by decide)); rotate_right) <;> intro _
      refine Go.keep [0, 1, 5] (hrec _ _ _ (by omega) ⟨i + 1, _, _, rfl, hlt, wrap_succ hn (by omega), ⟨by omega, by omega, fun a ha => (hfr' a ha).trans (hfr a ha), ?_⟩, rfl⟩)
      have he : (markL m c (xs.take i) k ++ xs.drop i).set i (m xs[i] ki) = markL m c (xs.take (i + 1)) k ++ xs.drop (i + 1) := by
        have h00 : i - (markL m c (xs.take i) k).length = 0 := by simp [markL_length]; omega
        rw [htk, markL_append, List.set_append_right _ _ (by simp [markL_length]; omega), h00, List.drop_eq_getElem_cons hlt, List.set_cons_zero, List.append_assoc, hki]
        rfl
      rw [← he]
      exact hh'
  · have hmap : (((markL m c (xs.take i) k ++ xs.drop i).map enc).length : Int) = xs.length := by simp [markL_length]; omega
    repeat' first | (apply Go.seq) | (apply Go.skip) | (apply Go.region) | (apply Go.nil) | (apply Go.block) | (apply Go.blk) | (apply Go.draw) | (apply Go.segs) | (apply Go.qs) | (apply Qg.nil) | (apply Go.exit; exact rfl) | (apply Go.var2; exact Nat.le_add_right _ _; decide; decide; decide; decide; exact rfl; exact rfl; exact rfl; exact rfl; exact rfl) | (apply Go.var; exact Nat.le_add_right _ _; decide; exact rfl; exact rfl; exact rfl; exact rfl) | (apply Go.op; exact rfl; exact aop_alloc) | (apply Go.op; exact rfl; exact aop_new rfl rfl) | (apply Go.op; exact rfl; exact aop_mksl rfl) | (apply Go.op; exact rfl; exact aop_lenM rfl) | (apply Go.sop; exact rfl; exact aop_lenM rfl) | (apply Qg.op; exact rfl; exact aop_lenM rfl) | (apply Go.op; exact rfl; exact rfl) | (apply Go.no; exact rfl) | (apply Go.sop; exact rfl; exact rfl) | (apply Go.sno; exact rfl) | (apply Qg.op; exact rfl; exact rfl) | (apply Qg.no; exact rfl) | (apply Go.op; exact rfl; exact aop_load rfl rfl rfl (Nat.le_of_ble_eq_true rfl) rfl) | (apply Go.op; exact rfl; exact aop_store rfl rfl rfl rfl rfl rfl (Nat.le_of_ble_eq_true rfl)) | (apply Go.cond true; exact rfl) | (apply Go.cond false; exact rfl) | (apply Go.op; exact rfl; exact aop_lenH rfl hhi) | (apply Go.sop; exact rfl; exact aop_lenH rfl hhi) | (apply Qg.op; exact rfl; exact aop_lenH rfl hhi) | (exfalso; omega) | (apply Go.iteD; exact rfl) <;> intro _ | (apply Go.iteE; exact rfl) <;> intro _ | (apply Go.iteN; exact rfl) <;> intro _ | (apply Go.guardD; exact rfl) <;> intro _ | (apply Go.guardE; exact rfl) <;> intro _ | (apply Go.guardN; exact rfl) <;> intro _ | (apply Go.sguardD; exact rfl) <;> intro _ | (apply Go.sguardE; exact rfl) <;> intro _ | (apply Go.sguardN; exact rfl) <;> intro _ | (apply Qg.guardD; exact rfl) <;> intro _ | (apply Qg.guardE; exact rfl) <;> intro _ | (apply Qg.guardN; exact rfl) <;> intro _ | (apply Go.guard; exact rfl; fail_if_success (intro h; exact absurd h (by decide)); rotate_left; fail_if_success (intro h; exact absurd h (by decide)); rotate_right) <;> intro _ | (apply Go.sguard; exact rfl; fail_if_success (intro h; exact absurd h (by decide)); rotate_left; fail_if_success (intro h; exact absurd h (by decide)); rotate_right) <;> intro _ | (apply Qg.guard; exact rfl; fail_if_success (intro h; exact absurd h (by decide)); rotate_left; fail_if_success (intro h; exact absurd h (by decide)); rotate_right) <;> intro _ | (apply Go.ite; exact rfl; fail_if_success (intro h; exact absurd h (by decide)); rotate_left; fail_if_success (intro h; exact absurd h (by decide)); rotate_right) <;> intro _
    rw [hmap]
    repeat' first | (apply Go.seq) | (apply Go.skip) | (apply Go.region) | (apply Go.nil) | (apply Go.block) | (apply Go.blk) | (apply Go.draw) | (apply Go.segs) | (apply Go.qs) | (apply Qg.nil) | (apply Go.exit; exact rfl) | (apply Go.var2; exact Nat.le_add_right _ _; decide; decide; decide; decide; exact rfl; exact rfl; exact rfl; exact rfl; exact rfl) | (apply Go.var; exact Nat.le_add_right _ _; decide; exact rfl; exact rfl; exact rfl; exact rfl) | (apply Go.op; exact rfl; exact aop_alloc) | (apply Go.op; exact rfl; exact aop_new rfl rfl) | (apply Go.op; exact rfl; exact aop_mksl rfl) | (apply Go.op; exact rfl; exact aop_lenM rfl) | (apply Go.sop; exact rfl; exact aop_lenM rfl) | (apply Qg.op; exact rfl; exact aop_lenM rfl) | (apply Go.op; exact rfl; exact rfl) | (apply Go.no; exact rfl) | (apply Go.sop; exact rfl; exact rfl) | (apply Go.sno; exact rfl) | (apply Qg.op; exact rfl; exact rfl) | (apply Qg.no; exact rfl) | (apply Go.op; exact rfl; exact aop_load rfl rfl rfl (Nat.le_of_ble_eq_true rfl) rfl) | (apply Go.op; exact rfl; exact aop_store rfl rfl rfl rfl rfl rfl (Nat.le_of_ble_eq_true rfl)) | (apply Go.cond true; exact rfl) | (apply Go.cond false; exact rfl) | (exfalso; omega) | (apply Go.iteD; exact rfl) <;> intro _ | (apply Go.iteE; exact rfl) <;> intro _ | (apply Go.iteN; exact rfl) <;> intro _ | (apply Go.guardD; exact rfl) <;> intro _ | (apply Go.guardE; exact rfl) <;> intro _ | (apply Go.guardN; exact rfl) <;> intro _ | (apply Go.sguardD; exact rfl) <;> intro _ | (apply Go.sguardE; exact rfl) <;> intro _ | (apply Go.sguardN; exact rfl) <;> intro _ | (apply Qg.guardD; exact rfl) <;> intro _ | (apply Qg.guardE; exact rfl) <;> intro _ | (apply Qg.guardN; exact rfl) <;> intro _ | (apply Go.guard; exact rfl; fail_if_success (intro h; exact absurd h (by decide)); rotate_left; fail_if_success (intro h; exact absurd h (by decide)); rotate_right) <;> intro _ | (apply Go.sguard; exact rfl; fail_if_success (intro h; exact absurd h (by decide)); rotate_left; fail_if_success (intro h; exact absurd h (by decide)); rotate_right) <;> intro _ | (apply Qg.guard; exact rfl; fail_if_success (intro h; exact absurd h (by decide)); rotate_left; fail_if_success (intro h; exact absurd h (by decide)); rotate_right) <;> intro _ | (apply Go.ite; exact rfl; fail_if_success (intro h; exact absurd h (by decide)); rotate_left; fail_if_success (intro h; exact absurd h (by decide)); rotate_right) <;> intro _
    · refine .op (v := .c (.int .i64 ki)) (σ' := τ) rfl (by simp [aop, Opd.ev, putA, look]) ?_
      repeat' first | (apply Go.seq) | (apply Go.skip) | (apply Go.region) | (apply Go.nil) | (apply Go.block) | (apply Go.blk) | (apply Go.draw) | (apply Go.segs) | (apply Go.qs) | (apply Qg.nil) | (apply Go.exit; exact rfl) | (apply Go.var2; exact Nat.le_add_right _ _; decide; decide; decide; decide; exact rfl; exact rfl; exact rfl; exact rfl; exact rfl) | (apply Go.var; exact Nat.le_add_right _ _; decide; exact rfl; exact rfl; exact rfl; exact rfl) | (apply Go.op; exact rfl; exact aop_alloc) | (apply Go.op; exact rfl; exact aop_new rfl rfl) | (apply Go.op; exact rfl; exact aop_mksl rfl) | (apply Go.op; exact rfl; exact aop_lenM rfl) | (apply Go.sop; exact rfl; exact aop_lenM rfl) | (apply Qg.op; exact rfl; exact aop_lenM rfl) | (apply Go.op; exact rfl; exact rfl) | (apply Go.no; exact rfl) | (apply Go.sop; exact rfl; exact rfl) | (apply Go.sno; exact rfl) | (apply Qg.op; exact rfl; exact rfl) | (apply Qg.no; exact rfl) | (apply Go.op; exact rfl; exact aop_load rfl rfl rfl (Nat.le_of_ble_eq_true rfl) rfl) | (apply Go.op; exact rfl; exact aop_store rfl rfl rfl rfl rfl rfl (Nat.le_of_ble_eq_true rfl)) | (apply Go.cond true; exact rfl) | (apply Go.cond false; exact rfl) | (exfalso; omega) | (apply Go.iteD; exact rfl) <;> intro _ | (apply Go.iteE; exact rfl) <;> intro _ | (apply Go.iteN; exact rfl) <;> intro _ | (apply Go.guardD; exact rfl) <;> intro _ | (apply Go.guardE; exact rfl) <;> intro _ | (apply Go.guardN; exact rfl) <;> intro _ | (apply Go.sguardD; exact rfl) <;> intro _ | (apply Go.sguardE; exact rfl) <;> intro _ | (apply Go.sguardN; exact rfl) <;> intro _ | (apply Qg.guardD; exact rfl) <;> intro _ | (apply Qg.guardE; exact rfl) <;> intro _ | (apply Qg.guardN; exact rfl) <;> intro _ | (apply Go.guard; exact rfl; fail_if_success (intro h; exact absurd h (by decide)); rotate_left; fail_if_success (intro h; exact absurd h (by decide)); rotate_right) <;> intro _ | (apply Go.sguard; exact rfl; fail_if_success (intro h; exact absurd h (by decide)); rotate_left; fail_if_success (intro h; exact absurd h (by decide)); rotate_right) <;> intro _ | (apply Qg.guard; exact rfl; fail_if_success (intro h; exact absurd h (by decide)); rotate_left; fail_if_success (intro h; exact absurd h (by decide)); rotate_right) <;> intro _ | (apply Go.ite; exact rfl; fail_if_success (intro h; exact absurd h (by decide)); rotate_left; fail_if_success (intro h; exact absurd h (by decide)); rotate_right) <;> intro _
      have hii : i = xs.length := by omega
      subst hii
      rw [List.take_length] at hki hhi
      rw [List.drop_length, List.append_nil] at hhi
      refine .ret rfl ⟨by rw [hki], hnx, hfr, hhi⟩
end Go.Proofs.Ytjlhfjpnnildhaa.Am
