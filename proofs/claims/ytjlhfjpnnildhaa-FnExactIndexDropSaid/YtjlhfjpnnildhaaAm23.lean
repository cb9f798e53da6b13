/- The abstract machine, part 23: owned trees. -/
import Derived.Test.YtjlhfjpnnildhaaAm22
set_option linter.unusedVariables false
set_option linter.unusedSimpArgs false
namespace Go.Proofs.Ytjlhfjpnnildhaa.Am
open Go.RowKit

theorem Flat.old {x : Ce} (h : Flat x) (n : Nat) : Old n x := by
  cases h with
  | int k m => exact .int k m
  | bool b => exact .bool b
  | str s => exact .str s
  | nilp => exact .nilp
  | nils => exact .nils
  | nilf => exact .nilf
  | emp => exact .emp
  | any => exact .any
theorem Flat.move {C D : Cx} {x : Ce} (h : Flat x) {v : Value} (hx : Rp C x v) : Rp D x v := by
  cases h <;> cases hx <;> constructor <;> assumption
/-- A cell that leads nowhere, or to blocks from n on. -/
inductive Tidy (n : Nat) : Ce → Prop where
  | flat {x : Ce} (h : Flat x) : Tidy n x
  | sl (id v i m c : Nat) (h : n ≤ id) : Tidy n (.sl id v i m c)
  | ptr (id v i j : Nat) (h : n ≤ id) : Tidy n (.ptr id v i j)
def TidyL (n : Nat) (l : List (Nat × List (List Ce))) : Prop := ∀ b ∈ l, ∀ e ∈ b.2, ∀ x ∈ e, Tidy n x
/-- x is, in a store, a tree of owned slices that reads as y; S holds its blocks. -/
inductive Has (σ : Store) : (Nat → Prop) → Ce → Ce → Prop where
  | c {S : Nat → Prop} {x : Ce} (h : Flat x) : Has σ S x x
  | nil {S : Nat → Prop} : Has σ S (.fz []) .nils
  | o {S : Nat → Prop} (ys : List (List Ce)) (id v s : Nat) (cs junk : List (List Ce)) (T : Nat → Nat → Nat → Prop) (hg : σ.get id = some (v, cs ++ junk)) (hS : S id) (hl : cs.length = ys.length)
      (hs : ∀ i (hi : i < ys.length), (cs[i]'(by omega)).length = ys[i].length) (hall : ∀ e ∈ cs ++ junk, e.length = s) (hj : ∀ e ∈ junk, ∀ x ∈ e, Flat x)
      (hT : ∀ i j a, T i j a → S a ∧ a ≠ id) (hd : ∀ i j i' j' a, T i j a → T i' j' a → i = i' ∧ j = j')
      (h : ∀ i j (hi : i < ys.length) (hj : j < ys[i].length), Has σ (T i j) ys[i][j] ((cs[i]'(by omega))[j]'(by have := hs i hi; omega))) :
      Has σ S (.fz ys) (.sl id v 0 ys.length (ys.length + junk.length))
theorem Has.mono {σ : Store} {S S' : Nat → Prop} (hSS : ∀ a, S a → S' a) {y x : Ce} (h : Has σ S y x) : Has σ S' y x := by
  cases h with
  | c h => exact .c h
  | nil => exact .nil
  | o ys id v s cs junk T hg hS hl hs hall hj hT hd h => exact .o ys id v s cs junk T hg (hSS _ hS) hl hs hall hj (fun i j a ha => ⟨hSS _ (hT i j a ha).1, (hT i j a ha).2⟩) hd h
theorem Has.frame {σ σ' : Store} {S : Nat → Prop} {y x : Ce} (h : Has σ S y x) : (∀ a, S a → σ'.get a = σ.get a) → Has σ' S y x := by
  induction h with
  | c h => exact fun _ => .c h
  | nil => exact fun _ => .nil
  | o ys id v s cs junk T hg hS hl hs hall hj hT hd h ih =>
    intro hf
    exact .o ys id v s cs junk T (by rw [hf _ hS]; exact hg) hS hl hs hall hj hT hd fun i j hi hj => ih i j hi hj fun a ha => hf a (hT i j a ha).1
theorem Has.frz {σ : Store} {S : Nat → Prop} {y x : Ce} (h : Has σ S y x) {n : Nat} (hn : ∀ a, S a → n ≤ a) : Frz σ n x y := by
  induction h with
  | c h => exact .same _ (h.old n)
  | nil => exact .nil
  | o ys id v s cs junk T hg hS hl hs hall hj hT hd h ih =>
    refine .sl id v 0 _ _ (cs ++ junk) ys (hn _ hS) hg (by simp; omega) rfl (fun k hk => ?_) (fun k j hk hj => ?_)
    · have e : (cs ++ junk)[0 + k]'(by simp; omega) = cs[k]'(by omega) := by
        simp only [Nat.zero_add]
        rw [List.getElem_append_left (by omega)]
      rw [e]
      exact (hs k hk).symm
    · have e : (cs ++ junk)[0 + k]'(by simp; omega) = cs[k]'(by omega) := by
        simp only [Nat.zero_add]
        rw [List.getElem_append_left (by omega)]
      simp only [e]
      exact ih k j hk hj fun a ha => hn a (hT k j a ha).1
theorem Has.tidy {σ : Store} {S : Nat → Prop} {y x : Ce} (h : Has σ S y x) {n : Nat} (hn : ∀ a, S a → n ≤ a) : Tidy n x := by
  cases h with
  | c h => exact .flat h
  | nil => exact .flat .nils
  | o ys id v s cs junk T hg hS hl hs hall hj hT hd h => exact .sl _ _ _ _ _ (hn _ hS)
/-- .. of the cells of a struct. -/
def HasL (σ : Store) (S : Nat → Prop) (ys xs : List Ce) : Prop :=
  ∃ U : Nat → Nat → Prop, xs.length = ys.length ∧ (∀ j a, U j a → S a) ∧ (∀ j j' a, U j a → U j' a → j = j') ∧ ∀ j (hy : j < ys.length) (hx : j < xs.length), Has σ (U j) ys[j] xs[j]
theorem HasL.mono {σ : Store} {S S' : Nat → Prop} (hSS : ∀ a, S a → S' a) {ys xs : List Ce} (h : HasL σ S ys xs) : HasL σ S' ys xs :=
  let ⟨U, h1, h2, h3, h4⟩ := h
  ⟨U, h1, fun j a ha => hSS a (h2 j a ha), h3, h4⟩
theorem HasL.frame {σ σ' : Store} {S : Nat → Prop} {ys xs : List Ce} (h : HasL σ S ys xs) (hf : ∀ a, S a → σ'.get a = σ.get a) : HasL σ' S ys xs :=
  let ⟨U, h1, h2, h3, h4⟩ := h
  ⟨U, h1, h2, h3, fun j hy hx => (h4 j hy hx).frame fun a ha => hf a (h2 j a ha)⟩
theorem HasL.flat {σ : Store} {S : Nat → Prop} {xs : List Ce} (h : ∀ x ∈ xs, Flat x) : HasL σ S xs xs :=
  ⟨fun _ _ => False, rfl, fun _ _ h => h.elim, fun _ _ _ h => h.elim, fun j hy hx => .c (h _ (List.getElem_mem hy))⟩

/-- The call makes a tree that reads as y. -/
def New (σ : Store) (y : Ce) (r : AV) (σ' : Store) : Prop := ∃ x l, r = .c x ∧ σ' = E σ l ∧ TidyL σ.next l ∧ Has σ' (fun a => σ.next ≤ a ∧ a < σ'.next) y x
def NewL (σ : Store) (ys : List Ce) (r : AV) (σ' : Store) : Prop := ∃ xs l, r = .agg xs ∧ σ' = E σ l ∧ TidyL σ.next l ∧ HasL σ' (fun a => σ.next ≤ a ∧ a < σ'.next) ys xs

/-- The slices' copies of the laws. -/
def toSCode (s bytes f : Nat) (z : List Ce) : AFn := ⟨23, [.t 2], (.seq (.region [⟨some 2, .op (.mv (.k (.nils))), none⟩]) (.seq (.region [⟨some 5, .op (.mv (.t 0)), none⟩, ⟨some 6, .op (.len false (.t 5)), none⟩, ⟨some 7, .op (.mkslice s bytes z (.t 6) (.t 6)), none⟩, ⟨some 3, .op (.mv (.t 7)), none⟩]) (.seq (.seq (.region [⟨some 4, .op (.mv (.k (.int .i64 0))), none⟩]) (.block 0 (.loop (.seq (.seq (.region [⟨some 8, .op (.mv (.t 4)), none⟩, ⟨some 9, .op (.mv (.t 0)), none⟩, ⟨some 10, .op (.len false (.t 9)), none⟩, ⟨some 11, .op (.bin .lss (.t 8) (.t 10)), none⟩]) (.cond (.t 11) .skip (.exit 0))) (.seq (.block 1 (.region [⟨some 14, .op (.mv (.t 3)), none⟩, ⟨some 15, .op (.mv (.t 4)), none⟩, ⟨some 16, .op (.mv (.t 0)), none⟩, ⟨some 17, .op (.mv (.t 4)), none⟩, ⟨some 18, .op (.iaddr s (.t 16) (.t 17)), none⟩, ⟨some 19, .op (.load true s (.t 18)), none⟩, ⟨some 20, .call (.f f) [(.t 19)], none⟩, ⟨some 21, .op (.iaddr s (.t 14) (.t 15)), none⟩, ⟨none, .op (.store s (.t 21) (.t 20)), none⟩])) (.region [⟨some 12, .op (.mv (.t 4)), none⟩, ⟨some 13, .op (.bin .add (.t 12) (.k (.int .i64 1))), none⟩, ⟨some 4, .op (.mv (.t 13)), none⟩])))))) (.seq (.region [⟨some 22, .op (.mv (.t 3)), none⟩, ⟨some 2, .op (.mv (.t 22)), none⟩]) .ret))))⟩

theorem takeA_all {s : Nat} {cs : List Ce} (h : cs.length = s) : takeA true s cs = some (.agg cs) := by
  simp [takeA, h]
  rw [List.take_of_length_le (by omega)]
theorem aop_loadF {fr : Fr} {σ : Store} {s : Nat} {a : Opd} {cs : List Ce} (ha : a.ev fr = some (.c (.fp cs))) (hs : cs.length = s) : aop (.load true s a) fr σ = some (.agg cs, σ) := by
  simp [aop, ha, Store.at_, takeA_all hs]
theorem aop_mkslice {fr : Fr} {σ : Store} {l : List (Nat × List (List Ce))} {s bytes n : Nat} {z : List Ce} {x y : Opd} (hx : x.ev fr = some (.c (.int .i64 (n : Int)))) (hy : y.ev fr = some (.c (.int .i64 (n : Int)))) (hb : bytes * n ≤ 140737488355328) :
    aop (.mkslice s bytes z x y) fr (E σ l) = some (.c (.sl (σ.next + l.length) 0 0 n n), E σ (l ++ [(0, List.replicate n z)])) := by
  have : ((bytes : Int) * (n : Int) ≤ 140737488355328) := by rw [← Int.natCast_mul]; omega
  simp only [aop, hx, hy]
  rw [if_pos ⟨by omega, by omega, this⟩]
  simp [E_new, E_next]
theorem splice_all {s : Nat} {e cs : List Ce} (h1 : e.length = s) (h2 : cs.length = s) : splice e 0 cs = cs := by
  simp only [splice, List.take_zero, List.nil_append, Nat.zero_add]
  rw [List.drop_eq_nil_of_le (by omega)]
  simp

theorem toS_ok {P : Program} (hm : P.follows .mixedOrders = true) {fz : List Nat} {n s bytes f : Nat} {z : List Ce} (hc : compFn P fz n = some (toSCode s bytes f z)) {α : Type} (enc : α → List Ce) (xs : List α) (hx : xs.length ≤ 1099511627776) (hb : bytes ≤ 128) (hz : z.length = s) (hs : ∀ a, (enc a).length = s)
    (hzf : ∀ x ∈ z, Flat x) (hf : ∀ a ∈ xs, ∀ σ, Ok P f [.agg (enc a)] σ (NewL σ (enc a))) (σ : Store) : Ok P n [.c (.fz (xs.map enc))] σ (New σ (.fz (xs.map enc))) := by
  refine Ok.run hm hc (Nat.le_of_ble_eq_true rfl) fun hS hA => ?_
  clear hS hA
  have hbn : bytes * xs.length ≤ 140737488355328 := Nat.le_trans (Nat.mul_le_mul hb hx) (by decide)
  repeat' first | (apply Go.seq) | (apply Go.skip) | (apply Go.region) | (apply Go.nil) | (apply Go.block) | (apply Go.blk) | (apply Go.draw) | (apply Go.segs) | (apply Go.qs) | (apply Qg.nil) | (apply Go.exit; exact rfl) | (apply Go.var2; exact Nat.le_add_right _ _; decide; decide; decide; decide; exact rfl; exact rfl; exact rfl; exact rfl; exact rfl) | (apply Go.var; exact Nat.le_add_right _ _; decide; exact rfl; exact rfl; exact rfl; exact rfl) | (apply Go.op; exact rfl; exact aop_alloc) | (apply Go.op; exact rfl; exact aop_new rfl rfl) | (apply Go.op; exact rfl; exact aop_mksl rfl) | (apply Go.op; exact rfl; exact aop_lenM rfl) | (apply Go.sop; exact rfl; exact aop_lenM rfl) | (apply Qg.op; exact rfl; exact aop_lenM rfl) | (apply Go.op; exact rfl; exact rfl) | (apply Go.no; exact rfl) | (apply Go.sop; exact rfl; exact rfl) | (apply Go.sno; exact rfl) | (apply Qg.op; exact rfl; exact rfl) | (apply Qg.no; exact rfl) | (apply Go.op; exact rfl; exact aop_load rfl rfl rfl (Nat.le_of_ble_eq_true rfl) rfl) | (apply Go.op; exact rfl; exact aop_store rfl rfl rfl rfl rfl rfl (Nat.le_of_ble_eq_true rfl)) | (apply Go.cond true; exact rfl) | (apply Go.cond false; exact rfl) | (apply Go.op; exact rfl; exact aop_mkslice rfl rfl hbn) | (apply Go.sop; exact rfl; exact aop_mkslice rfl rfl hbn) | (apply Qg.op; exact rfl; exact aop_mkslice rfl rfl hbn) | (exfalso; omega) | (apply Go.iteD; exact rfl) <;> intro _ | (apply Go.iteE; exact rfl) <;> intro _ | (apply Go.iteN; exact rfl) <;> intro _ | (apply Go.guardD; exact rfl) <;> intro _ | (apply Go.guardE; exact rfl) <;> intro _ | (apply Go.guardN; exact rfl) <;> intro _ | (apply Go.sguardD; exact rfl) <;> intro _ | (apply Go.sguardE; exact rfl) <;> intro _ | (apply Go.sguardN; exact rfl) <;> intro _ | (apply Qg.guardD; exact rfl) <;> intro _ | (apply Qg.guardE; exact rfl) <;> intro _ | (apply Qg.guardN; exact rfl) <;> intro _ | (apply Go.guard; exact rfl; fail_if_success (intro h; exact absurd h (by decide)); rotate_left; fail_if_success (intro h; exact absurd h (by decide)); rotate_right) <;> intro _ | (apply Go.sguard; exact rfl; fail_if_success (intro h; exact absurd h (by decide)); rotate_left; fail_if_success (intro h; exact absurd h (by decide)); rotate_right) <;> intro _ | (apply Qg.guard; exact rfl; fail_if_success (intro h; exact absurd h (by decide)); rotate_left; fail_if_success (intro h; exact absurd h (by decide)); rotate_right) <;> intro _ | (apply Go.ite; exact rfl; fail_if_success (intro h; exact absurd h (by decide)); rotate_left; fail_if_success (intro h; exact absurd h (by decide)); rotate_right) <;> intro _
  refine Go.keep [0, 3, 4] (Go.loops (I := fun m fr τ => ∃ i : Nat, ∃ n : Int, ∃ cs l', m = xs.length - i ∧ i ≤ xs.length ∧ n = i ∧
    (cs.length = xs.length ∧ TidyL σ.next ((0, cs) :: l') ∧ (∀ e ∈ cs, e.length = s) ∧ ∃ b : Nat → Nat, b 0 = σ.next + 1 ∧ (∀ k, b k ≤ b (k + 1)) ∧ b i ≤ τ.next ∧
      ∀ k (h1 : k < xs.length) (h2 : k < cs.length), k < i → HasL τ (fun a => b k ≤ a ∧ a < b (k + 1)) (enc xs[k]) cs[k]) ∧
    fr = [(0, .c (.fz (xs.map enc))), (3, .c (.sl (σ.next + 0) 0 0 xs.length xs.length)), (4, .c (.int .i64 n))] ∧ τ = E σ ((0, cs) :: l')) ?_ _ _ _
    ⟨0, _, List.replicate xs.length z, [], rfl, Nat.zero_le _, rfl, ⟨by simp, fun b hb e he x hx => by simp at hb; subst hb; rw [List.eq_of_mem_replicate he] at hx; exact .flat (hzf x hx), fun e he => by rw [List.eq_of_mem_replicate he]; exact hz, fun _ => σ.next + 1, rfl, fun _ => Nat.le_refl _, by simp [E_next], fun k _ _ h => absurd h (by omega)⟩, rfl, rfl⟩)
  rintro m fr τ ⟨i, n, cs, l', rfl, hi, hn, ⟨hcl, htd, hcs, b, hb0, hbm, hbi, hh⟩, rfl, rfl⟩ hrec
  have hmono : ∀ k k', k ≤ k' → b k ≤ b k' := by
    intro k k' h
    induction h with
    | refl => exact Nat.le_refl _
    | step _ ih => exact Nat.le_trans ih (hbm _)
  by_cases hlt : i < xs.length
  · repeat' first | (apply Go.seq) | (apply Go.skip) | (apply Go.region) | (apply Go.nil) | (apply Go.block) | (apply Go.blk) | (apply Go.draw) | (apply Go.segs) | (apply Go.qs) | (apply Qg.nil) | (apply Go.exit; exact rfl) | (apply Go.var2; exact Nat.le_add_right _ _; decide; decide; decide; decide; exact rfl; exact rfl; exact rfl; exact rfl; exact rfl) | (apply Go.var; exact Nat.le_add_right _ _; decide; exact rfl; exact rfl; exact rfl; exact rfl) | (apply Go.op; exact rfl; exact aop_alloc) | (apply Go.op; exact rfl; exact aop_new rfl rfl) | (apply Go.op; exact rfl; exact aop_mksl rfl) | (apply Go.op; exact rfl; exact aop_lenM rfl) | (apply Go.sop; exact rfl; exact aop_lenM rfl) | (apply Qg.op; exact rfl; exact aop_lenM rfl) | (apply Go.op; exact rfl; exact rfl) | (apply Go.no; exact rfl) | (apply Go.sop; exact rfl; exact rfl) | (apply Go.sno; exact rfl) | (apply Qg.op; exact rfl; exact rfl) | (apply Qg.no; exact rfl) | (apply Go.op; exact rfl; exact aop_load rfl rfl rfl (Nat.le_of_ble_eq_true rfl) rfl) | (apply Go.op; exact rfl; exact aop_store rfl rfl rfl rfl rfl rfl (Nat.le_of_ble_eq_true rfl)) | (apply Go.cond true; exact rfl) | (apply Go.cond false; exact rfl) | (apply Go.op; exact rfl; exact aop_iaddrM rfl rfl hn hlt (hs _)) | (apply Go.sop; exact rfl; exact aop_iaddrM rfl rfl hn hlt (hs _)) | (apply Qg.op; exact rfl; exact aop_iaddrM rfl rfl hn hlt (hs _)) | (apply Go.op; exact rfl; exact aop_loadF rfl (hs _)) | (apply Go.sop; exact rfl; exact aop_loadF rfl (hs _)) | (apply Qg.op; exact rfl; exact aop_loadF rfl (hs _)) | (exfalso; omega) | (apply Go.iteD; exact rfl) <;> intro _ | (apply Go.iteE; exact rfl) <;> intro _ | (apply Go.iteN; exact rfl) <;> intro _ | (apply Go.guardD; exact rfl) <;> intro _ | (apply Go.guardE; exact rfl) <;> intro _ | (apply Go.guardN; exact rfl) <;> intro _ | (apply Go.sguardD; exact rfl) <;> intro _ | (apply Go.sguardE; exact rfl) <;> intro _ | (apply Go.sguardN; exact rfl) <;> intro _ | (apply Qg.guardD; exact rfl) <;> intro _ | (apply Qg.guardE; exact rfl) <;> intro _ | (apply Qg.guardN; exact rfl) <;> intro _ | (apply Go.guard; exact rfl; fail_if_success (intro h; exact absurd h (by decide)); rotate_left; fail_if_success (intro h; exact absurd h (by decide)); rotate_right) <;> intro _ | (apply Go.sguard; exact rfl; fail_if_success (intro h; exact absurd h (by decide)); rotate_left; fail_if_success (intro h; exact absurd h (by decide)); rotate_right) <;> intro _ | (apply Qg.guard; exact rfl; fail_if_success (intro h; exact absurd h (by decide)); rotate_left; fail_if_success (intro h; exact absurd h (by decide)); rotate_right) <;> intro _ | (apply Go.ite; exact rfl; fail_if_success (intro h; exact absurd h (by decide)); rotate_left; fail_if_success (intro h; exact absurd h (by decide)); rotate_right) <;> intro _
    refine Go.call (NewL (E σ ((0, cs) :: l')) (enc xs[i])) rfl rfl rfl (hf _ (List.getElem_mem hlt) _) ?_
    rintro r σ1 ⟨ys', l2, rfl, rfl, htd2, hnew⟩
    rw [E_E] at hnew ⊢
    have hlc : i < cs.length := by omega
    have hyl : ys'.length = s := by
      obtain ⟨U, h1, _⟩ := hnew
      rw [h1, hs]
    have hcl2 : cs[i].length = s := hcs _ (List.getElem_mem hlc)
    have he : cs[0 + i]? = some cs[i] := by simp [hlc]
    have hsp := splice_all hcl2 hyl
    refine .op rfl (aop_iaddr (k := 0) (n := i) rfl rfl hn hlt rfl he hcl2) ?_
    refine .op rfl (aop_store (k := 0) rfl rfl rfl rfl he hyl (by omega)) ?_
    rw [hsp]
    repeat' first | (apply Go.seq) | (apply Go.skip) | (apply Go.region) | (apply Go.nil) | (apply Go.block) | (apply Go.blk) | (apply Go.draw) | (apply Go.segs) | (apply Go.qs) | (apply Qg.nil) | (apply Go.exit; exact rfl) | (apply Go.var2; exact Nat.le_add_right _ _; decide; decide; decide; decide; exact rfl; exact rfl; exact rfl; exact rfl; exact rfl) | (apply Go.var; exact Nat.le_add_right _ _; decide; exact rfl; exact rfl; exact rfl; exact rfl) | (apply Go.op; exact rfl; exact aop_alloc) | (apply Go.op; exact rfl; exact aop_new rfl rfl) | (apply Go.op; exact rfl; exact aop_mksl rfl) | (apply Go.op; exact rfl; exact aop_lenM rfl) | (apply Go.sop; exact rfl; exact aop_lenM rfl) | (apply Qg.op; exact rfl; exact aop_lenM rfl) | (apply Go.op; exact rfl; exact rfl) | (apply Go.no; exact rfl) | (apply Go.sop; exact rfl; exact rfl) | (apply Go.sno; exact rfl) | (apply Qg.op; exact rfl; exact rfl) | (apply Qg.no; exact rfl) | (apply Go.op; exact rfl; exact aop_load rfl rfl rfl (Nat.le_of_ble_eq_true rfl) rfl) | (apply Go.op; exact rfl; exact aop_store rfl rfl rfl rfl rfl rfl (Nat.le_of_ble_eq_true rfl)) | (apply Go.cond true; exact rfl) | (apply Go.cond false; exact rfl) | (exfalso; omega) | (apply Go.iteD; exact rfl) <;> intro _ | (apply Go.iteE; exact rfl) <;> intro _ | (apply Go.iteN; exact rfl) <;> intro _ | (apply Go.guardD; exact rfl) <;> intro _ | (apply Go.guardE; exact rfl) <;> intro _ | (apply Go.guardN; exact rfl) <;> intro _ | (apply Go.sguardD; exact rfl) <;> intro _ | (apply Go.sguardE; exact rfl) <;> intro _ | (apply Go.sguardN; exact rfl) <;> intro _ | (apply Qg.guardD; exact rfl) <;> intro _ | (apply Qg.guardE; exact rfl) <;> intro _ | (apply Qg.guardN; exact rfl) <;> intro _ | (apply Go.guard; exact rfl; fail_if_success (intro h; exact absurd h (by decide)); rotate_left; fail_if_success (intro h; exact absurd h (by decide)); rotate_right) <;> intro _ | (apply Go.sguard; exact rfl; fail_if_success (intro h; exact absurd h (by decide)); rotate_left; fail_if_success (intro h; exact absurd h (by decide)); rotate_right) <;> intro _ | (apply Qg.guard; exact rfl; fail_if_success (intro h; exact absurd h (by decide)); rotate_left; fail_if_success (intro h; exact absurd h (by decide)); rotate_right) <;> intro _ | (apply Go.ite; exact rfl; fail_if_success (intro h; exact absurd h (by decide)); rotate_left; fail_if_success (intro h; exact absurd h (by decide)); rotate_right) <;> intro _
    have hget : ∀ a, σ.next < a → (E σ ((0, cs.set (0 + i) ys') :: (l' ++ l2))).get a = (E σ ((0, cs) :: l' ++ l2)).get a := by
      intro a ha
      rw [E_ge (by omega), E_ge (by omega)]
      obtain ⟨q, hq⟩ : ∃ q, a - σ.next = q + 1 := ⟨a - σ.next - 1, by omega⟩
      rw [hq]
      rfl
    have hN : (E σ ((0, cs) :: l' ++ l2)).next = σ.next + (l'.length + l2.length + 1) := by simp [E_next]
    have hN1 : (E σ ((0, cs) :: l')).next = σ.next + (l'.length + 1) := by simp [E_next]
    refine Go.keep [0, 3, 4] (hrec _ _ _ (by omega) ⟨i + 1, _, cs.set (0 + i) ys', l' ++ l2, rfl, hlt, wrap_succ hn (by omega), ⟨by simp [hcl], fun b hb e he x hx => ?_, fun e he' => ?_, fun k => if k ≤ i then b k else σ.next + (l'.length + l2.length + 1), by simp [hb0], fun k => ?_, ?_, fun k h1 h2 hk => ?_⟩, rfl, rfl⟩)
    · rcases List.mem_cons.1 hb with rfl | hb
      · rcases List.mem_or_eq_of_mem_set he with h | h
        · exact htd (0, cs) (by simp) e h x hx
        · subst h
          obtain ⟨U, h1, h2, h3, h4⟩ := hnew
          obtain ⟨j, hj, rfl⟩ := List.mem_iff_getElem.1 hx
          refine (h4 j (by omega) hj).tidy fun a ha => ?_
          have := h2 j a ha
          omega
      · rcases List.mem_append.1 hb with h | h
        · exact htd b (by simp [h]) e he x hx
        · cases htd2 b h e he x hx with
          | flat h => exact .flat h
          | sl id v i m c h => exact .sl _ _ _ _ _ (by omega)
          | ptr id v i j h => exact .ptr _ _ _ _ (by omega)
    · rcases List.mem_or_eq_of_mem_set he' with h | h
      · exact hcs _ h
      · rw [h]; exact hyl
    · dsimp only
      by_cases h1 : k + 1 ≤ i
      · rw [if_pos (by omega), if_pos h1]; exact hbm k
      · rw [if_neg h1]
        split
        · have := hmono k i (by omega)
          omega
        · omega
    · dsimp only
      rw [if_neg (by omega)]
      show _ ≤ (E σ ((0, cs.set (0 + i) ys') :: (l' ++ l2))).next
      simp [E_next]
    · dsimp only
      by_cases e : k = i
      · subst e
        have e1 : (cs.set (0 + k) ys')[k] = ys' := by simp
        rw [e1, if_pos (Nat.le_refl _), if_neg (by omega)]
        refine (hnew.frame fun a ha => hget a (by omega)).mono fun a ha => ?_
        omega
      · have e1 : (cs.set (0 + i) ys')[k] = cs[k]'(by omega) := by
          simp only [Nat.zero_add]
          rw [List.getElem_set_ne (Ne.symm e)]
        rw [e1, if_pos (by omega), if_pos (by omega)]
        have hk0 := hmono 0 k (by omega)
        have hki := hmono (k + 1) i (by omega)
        refine (hh k h1 (by omega) (by omega)).frame fun a ha => ?_
        show (E σ ((0, cs.set (0 + i) ys') :: (l' ++ l2))).get a = _
        rw [hget a (by omega), E_ge (by omega), E_ge (by omega), List.getElem?_append_left (by simp; omega)]
  · repeat' first | (apply Go.seq) | (apply Go.skip) | (apply Go.region) | (apply Go.nil) | (apply Go.block) | (apply Go.blk) | (apply Go.draw) | (apply Go.segs) | (apply Go.qs) | (apply Qg.nil) | (apply Go.exit; exact rfl) | (apply Go.var2; exact Nat.le_add_right _ _; decide; decide; decide; decide; exact rfl; exact rfl; exact rfl; exact rfl; exact rfl) | (apply Go.var; exact Nat.le_add_right _ _; decide; exact rfl; exact rfl; exact rfl; exact rfl) | (apply Go.op; exact rfl; exact aop_alloc) | (apply Go.op; exact rfl; exact aop_new rfl rfl) | (apply Go.op; exact rfl; exact aop_mksl rfl) | (apply Go.op; exact rfl; exact aop_lenM rfl) | (apply Go.sop; exact rfl; exact aop_lenM rfl) | (apply Qg.op; exact rfl; exact aop_lenM rfl) | (apply Go.op; exact rfl; exact rfl) | (apply Go.no; exact rfl) | (apply Go.sop; exact rfl; exact rfl) | (apply Go.sno; exact rfl) | (apply Qg.op; exact rfl; exact rfl) | (apply Qg.no; exact rfl) | (apply Go.op; exact rfl; exact aop_load rfl rfl rfl (Nat.le_of_ble_eq_true rfl) rfl) | (apply Go.op; exact rfl; exact aop_store rfl rfl rfl rfl rfl rfl (Nat.le_of_ble_eq_true rfl)) | (apply Go.cond true; exact rfl) | (apply Go.cond false; exact rfl) | (exfalso; omega) | (apply Go.iteD; exact rfl) <;> intro _ | (apply Go.iteE; exact rfl) <;> intro _ | (apply Go.iteN; exact rfl) <;> intro _ | (apply Go.guardD; exact rfl) <;> intro _ | (apply Go.guardE; exact rfl) <;> intro _ | (apply Go.guardN; exact rfl) <;> intro _ | (apply Go.sguardD; exact rfl) <;> intro _ | (apply Go.sguardE; exact rfl) <;> intro _ | (apply Go.sguardN; exact rfl) <;> intro _ | (apply Qg.guardD; exact rfl) <;> intro _ | (apply Qg.guardE; exact rfl) <;> intro _ | (apply Qg.guardN; exact rfl) <;> intro _ | (apply Go.guard; exact rfl; fail_if_success (intro h; exact absurd h (by decide)); rotate_left; fail_if_success (intro h; exact absurd h (by decide)); rotate_right) <;> intro _ | (apply Go.sguard; exact rfl; fail_if_success (intro h; exact absurd h (by decide)); rotate_left; fail_if_success (intro h; exact absurd h (by decide)); rotate_right) <;> intro _ | (apply Qg.guard; exact rfl; fail_if_success (intro h; exact absurd h (by decide)); rotate_left; fail_if_success (intro h; exact absurd h (by decide)); rotate_right) <;> intro _ | (apply Go.ite; exact rfl; fail_if_success (intro h; exact absurd h (by decide)); rotate_left; fail_if_success (intro h; exact absurd h (by decide)); rotate_right) <;> intro _
    have hii : i = xs.length := by omega
    subst hii
    have hch : ∀ k, ∃ U : Nat → Nat → Prop, ∀ (h1 : k < xs.length) (h2 : k < cs.length), (cs[k].length = (enc xs[k]).length ∧ (∀ j a, U j a → b k ≤ a ∧ a < b (k + 1)) ∧ (∀ j j' a, U j a → U j' a → j = j') ∧ ∀ j (hy : j < (enc xs[k]).length) (hx : j < cs[k].length), Has (E σ ((0, cs) :: l')) (U j) (enc xs[k])[j] cs[k][j]) := by
      intro k
      by_cases h1 : k < xs.length
      · obtain ⟨U, hU⟩ := hh k h1 (by omega) h1
        exact ⟨U, fun _ _ => hU⟩
      · exact ⟨fun _ _ => False, fun h => absurd h h1⟩
    obtain ⟨U, hU⟩ := Classical.axiomOfChoice hch
    refine .ret rfl ⟨.sl (σ.next + 0) 0 0 xs.length xs.length, (0, cs) :: l', rfl, rfl, htd, ?_⟩
    have hb1 : ∀ k, σ.next + 1 ≤ b k := fun k => by have := hmono 0 k (by omega); omega
    have := Has.o (σ := E σ ((0, cs) :: l')) (S := fun a => σ.next ≤ a ∧ a < (E σ ((0, cs) :: l')).next) (xs.map enc) (σ.next + 0) 0 s cs [] (fun k j a => k < xs.length ∧ U k j a) (by rw [E_at]; simp) (by simp [E_next]) (by simp [hcl])
      (fun k hk => by
        have h1 : k < xs.length := by simpa using hk
        rw [(hU k h1 (by omega)).1]
        simp) (fun e he => hcs e (by simpa using he)) (fun e he => by simp at he) (fun k j a ha => by
        have h3 := (hU k ha.1 (by omega)).2.1 j a ha.2
        have h4 := hb1 k
        have h5 := hmono (k + 1) xs.length (by omega)
        simp only [Nat.add_zero]
        omega)
      (fun k j k' j' a ha ha' => by
        have h3 := (hU k ha.1 (by omega)).2.1 j a ha.2
        have h4 := (hU k' ha'.1 (by omega)).2.1 j' a ha'.2
        have hkk : k = k' := by
          rcases Nat.lt_trichotomy k k' with h | h | h
          · have := hmono (k + 1) k' h
            omega
          · exact h
          · have := hmono (k' + 1) k h
            omega
        subst hkk
        exact ⟨rfl, (hU k ha.1 (by omega)).2.2.1 j j' a ha.2 ha'.2⟩)
      (fun k j hk hj => by
        have h1 : k < xs.length := by simpa using hk
        have h2 : j < (enc xs[k]).length := by simpa using hj
        have h3 := (hU k h1 (by omega)).1
        have h4 := (hU k h1 (by omega)).2.2.2 j h2 (by omega)
        have e : (xs.map enc)[k] = enc xs[k] := by simp
        simp only [e]
        exact h4.mono fun a ha => ⟨h1, ha⟩)
    simpa using this
end Go.Proofs.Ytjlhfjpnnildhaa.Am
