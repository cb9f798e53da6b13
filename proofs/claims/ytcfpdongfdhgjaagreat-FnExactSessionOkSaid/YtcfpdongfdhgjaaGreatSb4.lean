/- Joined texts: Am24, Am25, F5, Am26, F6, F7, Am28, F8, Am29, Am30, K1, K2, S1, S2, S3, S4, S5, S6, S7. -/
import Derived.Test.YtcfpdongfdhgjaaGreatSb1
import Derived.Test.YtcfpdongfdhgjaaGreatSb2
import Derived.Test.YtcfpdongfdhgjaaGreatSb3
/- The abstract machine, part 24: what is owned is lent to a function that makes something anew; trees as values that nobody writes. -/
set_option linter.unusedVariables false
set_option linter.unusedSimpArgs false
namespace Go.Proofs.YtcfpdongfdhgjaaGreat.Am
open Go.RowKit

theorem Tidy.move {C D : Cx} {n : Nat} {x : Ce} (h : Tidy n x) (hw : D.w = C.w) (hF : ∀ id v, n ≤ id → C.F id v → D.F id v ∧ D.μ id v = C.μ id v) {v : Value} (hx : Rp C x v) : Rp D x v := by
  cases h with
  | flat h => exact h.move hx
  | sl id v i m c h =>
    cases hx with
    | sl0 _ _ _ a hf => exact .sl0 _ _ _ _ (hF _ _ h hf).1
    | sl _ _ _ _ _ cap hf hn hc hv hk =>
      obtain ⟨h1, h2⟩ := hF _ _ h hf
      have := Rp.sl (C := D) id v i m c cap h1 hn hc (by rw [h2]; exact hv) (by rw [h2, hw]; exact hk)
      rw [h2] at this
      exact this
  | ptr id v i j h =>
    cases hx with
    | ptr _ _ _ _ hf hv =>
      obtain ⟨h1, h2⟩ := hF _ _ h hf
      have := Rp.ptr (C := D) id v i j h1 (by rw [h2]; exact hv)
      rw [h2] at this
      exact this
theorem tidyV_move {C D : Cx} {n : Nat} (hw : D.w = C.w) (hF : ∀ id v, n ≤ id → C.F id v → D.F id v ∧ D.μ id v = C.μ id v) {x : AV} {v : Value} (hx : RpV C x v) : (∀ y ∈ x.all, Tidy n y) → RpV D x v := by
  induction hx with
  | c h => exact fun ht => .c ((ht _ (by simp [AV.all])).move hw hF h)
  | agg hl h => exact fun ht => .agg hl fun i hi => (ht _ (by simp [AV.all])).move hw hF (h i hi)
  | @tup xs vs hl h ih =>
    refine fun ht => .tup hl fun i hi => ih i hi fun y hy => ht y ?_
    have : ∀ (vs : List AV) (i : Nat) (hi : i < vs.length), y ∈ vs[i].all → y ∈ AV.all.allL vs := by
      intro vs
      induction vs with
      | nil => intro i hi; simp at hi
      | cons v r ih =>
        intro i hi hy
        simp only [AV.all.allL, List.mem_append]
        cases i with
        | zero => exact .inl hy
        | succ i => exact .inr (ih i (by simpa using hi) hy)
    simp only [AV.all]
    exact this xs i hi hy
  | un v => exact fun _ => .un v

theorem Ok.lent {P : Program} {f : Nat} {args args' : List AV} {σ : Store} {Q : AV → Store → Prop} (h : Ok P f args' (Store.none σ.next) Q) (hl : args'.length = args.length)
    (hf : ∀ i (hi : i < args.length), FrzV σ 0 args[i] (args'[i]'(by omega)) ∨ args[i] = args'[i]'(by omega))
    (hq : ∀ r τ, Q r τ → ∃ l, τ = E (Store.none σ.next) l ∧ TidyL σ.next l ∧ ∀ y ∈ r.all, Tidy σ.next y) :
    Ok P f args σ (fun r σ' => ∃ l, σ' = E σ l ∧ Q r (E (Store.none σ.next) l)) := by
  refine ⟨h.1, fun C cargs hR ⟨hal, ha⟩ => ?_⟩
  let C' : Cx := ⟨C.μ, C.F, fun _ => False, C.w⟩
  have hR' : Rl C' (Store.none σ.next) := ⟨hR.F, fun id v es hg => by simp [Store.none] at hg, fun b => ⟨fun h => h.elim, fun ⟨id, v, es, hg, _⟩ => by simp [Store.none] at hg⟩, fun id v es id' v' es' hg => by simp [Store.none] at hg, fun id v es hg => by simp [Store.none] at hg⟩
  have hle : C.Le C' := ⟨fun _ _ h => ⟨h, rfl⟩, rfl, rfl, rfl, Nat.le_refl _, fun _ _ _ => rfl, fun b cs t h => ⟨cs, h, rfl⟩, fun _ _ h => h.elim⟩
  refine (h.2 C' cargs hR' ⟨by omega, fun i hi => ?_⟩).mono ?_
  · rcases hf i (by omega) with h | h
    · exact h.sound (D := C') hR rfl rfl (fun id v _ hlt => absurd hlt (by omega)) (fun b h => h.elim) (fun _ _ _ _ _ _ h => h) (ha i (by omega))
    · rw [← h]; exact (ha i (by omega)).mono hle
  · rintro e w' ⟨D', τ, r, v, rfl, rfl, hQ, hRD, hx, hle'⟩
    obtain ⟨l, rfl, ht, htr⟩ := hq r τ hQ
    let μ := fun id v => if id < σ.next then C.μ id v else D'.μ id v
    let F := fun id v => if id < σ.next then C.F id v else D'.F id v
    let D : Cx := ⟨μ, F, Mof μ (E σ l), D'.w⟩
    have newb : ∀ id v es, σ.next ≤ id → (E (Store.none σ.next) l).get id = some (v, es) → es ≠ [] → ¬ (D'.μ id v).b < C.w.heap.size := by
      intro id v es hn hg hne hlt
      exact hle'.M _ hlt ((hRD.M _).2 ⟨id, v, es, hg, hne, rfl⟩)
    have getn : ∀ id, σ.next ≤ id → (E σ l).get id = (E (Store.none σ.next) l).get id := by
      intro id hn
      rw [E_ge (by omega), E_ge (by show ¬ id < σ.next; omega)]
      rfl
    have oldb : ∀ id v es, σ.get id = some (v, es) → es ≠ [] → (C.μ id v).b < C.w.heap.size := by
      intro id v es hg hne
      obtain ⟨cs, t, hb, _⟩ := hR.blk id v es hg hne
      exact lt_of_block hb
    have hFo : ∀ id v, C.F id v → D.F id v ∧ D.μ id v = C.μ id v := by
      intro id v hf
      have := hR.F id v hf
      exact ⟨by show (if id < σ.next then C.F id v else D'.F id v); rw [if_pos this]; exact hf, if_pos this⟩
    have hFn : ∀ id v, σ.next ≤ id → D'.F id v → D.F id v ∧ D.μ id v = D'.μ id v := by
      intro id v hn hf
      exact ⟨by show (if id < σ.next then C.F id v else D'.F id v); rw [if_neg (Nat.not_lt.2 hn)]; exact hf, if_neg (Nat.not_lt.2 hn)⟩
    have hLe : C.Le D := by
      refine ⟨hFo, hle'.os, hle'.tape, hle'.output, hle'.size, fun b hb _ => hle'.keep b hb (fun h => h), hle'.shp, fun b hb hm => ?_⟩
      obtain ⟨id, v1, es, hg, hne, hbb⟩ := hm
      by_cases hn : id < σ.next
      · rw [E_lt hn] at hg
        have : μ id v1 = C.μ id v1 := if_pos hn
        rw [this] at hbb
        exact (hR.M b).2 ⟨id, v1, es, hg, hne, hbb⟩
      · rw [getn id (by omega)] at hg
        have : μ id v1 = D'.μ id v1 := if_neg hn
        rw [this] at hbb
        exact absurd hb (by rw [← hbb]; exact newb id v1 es (by omega) hg hne)
    refine ⟨D, E σ l, r, v, rfl, rfl, ⟨l, rfl, hQ⟩, ⟨fun id v hf => ?_, fun id v1 es hg => ?_, fun b => Iff.rfl, fun id v1 es id' v1' es' hg hne hg' hne' hbb => ?_, fun id v1 es hg hne => ?_⟩, tidyV_move (C := D') (D := D) rfl hFn hx htr, hLe⟩
    · simp only [D, F] at hf
      split at hf
      · rw [E_next]; omega
      · exact hRD.F id v hf
    · by_cases hn : id < σ.next
      · rw [E_lt hn] at hg
        obtain ⟨a1, a2, a3⟩ := hR.live id v1 es hg
        simp only [D, F, μ, if_pos hn]
        exact ⟨a1, a2, a3⟩
      · rw [getn id (by omega)] at hg
        obtain ⟨a1, a2, a3⟩ := hRD.live id v1 es hg
        simp only [D, F, μ, if_neg hn]
        exact ⟨a1, a2, a3⟩
    · simp only [D, μ] at hbb
      by_cases hn : id < σ.next
      · rw [E_lt hn] at hg
        rw [if_pos hn] at hbb
        by_cases hn' : id' < σ.next
        · rw [E_lt hn'] at hg'
          rw [if_pos hn'] at hbb
          exact hR.inj id v1 es id' v1' es' hg hne hg' hne' hbb
        · rw [getn id' (by omega)] at hg'
          rw [if_neg hn'] at hbb
          exact absurd (oldb id v1 es hg hne) (by rw [hbb]; exact newb id' v1' es' (by omega) hg' hne')
      · rw [getn id (by omega)] at hg
        rw [if_neg hn] at hbb
        by_cases hn' : id' < σ.next
        · rw [E_lt hn'] at hg'
          rw [if_pos hn'] at hbb
          exact absurd (oldb id' v1' es' hg' hne') (by rw [← hbb]; exact newb id v1 es (by omega) hg hne)
        · rw [getn id' (by omega)] at hg'
          rw [if_neg hn'] at hbb
          exact hRD.inj id v1 es id' v1' es' hg hne hg' hne' hbb
    · by_cases hn : id < σ.next
      · rw [E_lt hn] at hg
        have e : D.μ id v1 = C.μ id v1 := if_pos hn
        obtain ⟨cs, t, hb, hz, hs, hc⟩ := hR.blk id v1 es hg hne
        rw [e]
        refine ⟨cs, t, ?_, hz, hs, fun i j hi hj => ?_⟩
        · show D'.w.heap[_]? = _
          rw [hle'.keep _ (lt_of_block hb) (fun h => h)]
          exact hb
        · obtain ⟨u, h1, h2⟩ := hc i j hi hj
          exact ⟨u, h1, h2.mono hLe⟩
      · have hg2 := hg
        rw [getn id (by omega)] at hg
        have e : D.μ id v1 = D'.μ id v1 := if_neg hn
        obtain ⟨cs, t, hb, hz, hs, hc⟩ := hRD.blk id v1 es hg hne
        rw [e]
        refine ⟨cs, t, hb, hz, hs, fun i j hi hj => ?_⟩
        obtain ⟨u, h1, h2⟩ := hc i j hi hj
        refine ⟨u, h1, Tidy.move (n := σ.next) (C := D') (D := D) ?_ rfl hFn h2⟩
        rw [E_ge hn] at hg2
        exact ht _ (List.mem_of_getElem? hg2) _ (List.getElem_mem hi) _ (List.getElem_mem hj)

/-! ### Trees as values -/
theorem Ok.old' {P : Program} {f : Nat} {args : List AV} {σ : Store} {Q Q' : AV → Store → Prop} (h1 : Ok P f args σ Q') (hk : OldS σ → (∀ x ∈ args, ∀ y ∈ x.all, Old σ.next y) → Ok P f args σ Q) : Ok P f args σ Q := by
  refine ⟨h1.1, fun C cargs hR ha => ?_⟩
  obtain ⟨hl, hv⟩ := ha
  refine (hk hR.old fun x hx y hy => ?_).2 C cargs hR ⟨hl, hv⟩
  obtain ⟨i, hi, rfl⟩ := List.mem_iff_getElem.1 hx
  exact (hv i hi).old hR.F y hy
theorem New.pure {P : Program} {f : Nat} {args : List AV} {y : Ce} (h : ∀ σ, Ok P f args σ (New σ y)) : Pure P f args (.c y) := by
  constructor
  intro σ
  refine .old' (h σ) fun hS ha => Ok.pure (h σ) (.c y) (fun id y hy => (hS id y hy).1) ?_
  rintro r σ1 ⟨x, l, rfl, rfl, _, hh⟩
  exact ⟨fun id y hy => by rw [E_lt (hS id y hy).1]; exact hy, .c (hh.frz fun a ha => ha.1)⟩
theorem NewL.pure {P : Program} {f : Nat} {args : List AV} {ys : List Ce} (h : ∀ σ, Ok P f args σ (NewL σ ys)) : Pure P f args (.agg ys) := by
  constructor
  intro σ
  refine .old' (h σ) fun hS ha => Ok.pure (h σ) (.agg ys) (fun id y hy => (hS id y hy).1) ?_
  rintro r σ1 ⟨xs, l, rfl, rfl, _, U, h1, h2, h3, h4⟩
  exact ⟨fun id y hy => by rw [E_lt (hS id y hy).1]; exact hy, .agg h1.symm fun i hi => (h4 i (by omega) hi).frz fun a ha => (h2 i a ha).1⟩
theorem Made.new {σ : Store} {s : Nat} {ys : List (List Ce)} (hy : ∀ e ∈ ys, e.length = s ∧ ∀ x ∈ e, Flat x) {r : AV} {σ' : Store} (h : Made σ s ys r σ') : New σ (.fz ys) r σ' := by
  obtain ⟨v, junk, hj, rfl, rfl⟩ := h
  have hall : ∀ e ∈ ys ++ junk, e.length = s ∧ ∀ x ∈ e, Flat x := by
    intro e he
    rcases List.mem_append.1 he with h | h
    · exact hy e h
    · exact hj e h
  refine ⟨_, _, rfl, rfl, ?_, ?_⟩
  · intro b hb e he x hx
    simp at hb
    subst hb
    exact .flat ((hall e he).2 x hx)
  · exact .o ys (σ.next + 0) v s ys junk (fun _ _ _ => False) (by rw [E_at]; rfl) (by simp [E_next]) rfl (fun i hi => rfl) (fun e he => (hall e he).1) (fun e he => (hj e he).2) (fun _ _ _ h => h.elim) (fun _ _ _ _ _ h => h.elim)
      fun i j hi hj => .c ((hy _ (List.getElem_mem hi)).2 _ (List.getElem_mem hj))
theorem Makes.new {P : Program} {f : Nat} {args : List AV} {s : Nat} {ys : List (List Ce)} (hy : ∀ e ∈ ys, e.length = s ∧ ∀ x ∈ e, Flat x) (h : Makes P f args s ys) (σ : Store) : Ok P f args σ (New σ (.fz ys)) :=
  (h.at_ σ).mono fun r σ' hq => hq.new hy

end Go.Proofs.YtcfpdongfdhgjaaGreat.Am

/- The abstract machine, part 25: the laws' helpers on slices of structs, once for all: sizes, equality. -/
set_option linter.unusedVariables false
set_option linter.unusedSimpArgs false
namespace Go.Proofs.YtcfpdongfdhgjaaGreat.Am
open Go.RowKit

/-- What is left of a measure behind a list. -/
def szList {α : Type} (g : α → Int → Int) : List α → Int → Int
  | [], left => left
  | x :: r, left => if g x left < 0 then -1 else szList g r (g x left)
def szL {α : Type} (g : α → Int → Int) (xs : List α) (left : Int) : Int := if left - xs.length < 0 then -1 else szList g xs (left - xs.length)
theorem szList_le {α : Type} {g : α → Int → Int} (hg : ∀ a l, 0 ≤ l → g a l ≤ l) : ∀ (xs : List α) (left : Int), 0 ≤ left → szList g xs left ≤ left
  | [], left, h => Int.le_refl _
  | x :: r, left, h => by
    simp only [szList]
    have := hg x left h
    split
    · omega
    · have := szList_le hg r (g x left) (by omega)
      omega
theorem szL_le {α : Type} {g : α → Int → Int} (hg : ∀ a l, 0 ≤ l → g a l ≤ l) (xs : List α) (left : Int) (h : 0 ≤ left) : szL g xs left ≤ left := by
  simp only [szL]
  split
  · omega
  · have := szList_le hg xs (left - xs.length) (by omega)
    omega
/-- What was measured is small. -/
theorem szList_mem {α : Type} {g : α → Int → Int} (hg : ∀ a l, 0 ≤ l → g a l ≤ l) : ∀ {xs : List α} {left : Int}, 0 ≤ left → 0 ≤ szList g xs left → ∀ x ∈ xs, ∃ l, 0 ≤ l ∧ l ≤ left ∧ 0 ≤ g x l
  | y :: r, left, h, hs, x, hx => by
    simp only [szList] at hs
    split at hs
    · omega
    · rename_i h0
      have h1 := hg y left h
      rcases List.mem_cons.1 hx with rfl | hx
      · exact ⟨left, h, Int.le_refl _, by omega⟩
      · obtain ⟨l, a, b, c⟩ := szList_mem hg (by omega) hs x hx
        exact ⟨l, a, by omega, c⟩
theorem szL_mem {α : Type} {g : α → Int → Int} (hg : ∀ a l, 0 ≤ l → g a l ≤ l) {xs : List α} {left : Int} (h : 0 ≤ left) (hs : 0 ≤ szL g xs left) : (xs.length : Int) ≤ left ∧ ∀ x ∈ xs, ∃ l, 0 ≤ l ∧ l ≤ left ∧ 0 ≤ g x l := by
  simp only [szL] at hs
  split at hs
  · omega
  · refine ⟨by omega, fun x hx => ?_⟩
    obtain ⟨l, a, b, c⟩ := szList_mem hg (by omega) hs x hx
    exact ⟨l, a, by omega, c⟩

def szSCode (s f : Nat) : AFn := ⟨27, [.t 4], (.seq (.region [⟨some 4, .op (.mv (.k (.int .i64 0))), none⟩]) (.seq (.region [⟨some 6, .op (.mv (.t 1)), none⟩, ⟨some 7, .op (.mv (.t 0)), none⟩, ⟨some 8, .op (.len false (.t 7)), none⟩, ⟨some 9, .op (.bin .sub (.t 6) (.t 8)), none⟩, ⟨some 1, .op (.mv (.t 9)), none⟩]) (.seq (.seq (.region [⟨some 10, .op (.mv (.t 1)), none⟩, ⟨some 11, .op (.bin .lss (.t 10) (.k (.int .i64 0))), none⟩]) (.cond (.t 11) (.seq (.region [⟨some 4, .op (.mv (.k (.int .i64 (-1)))), none⟩]) .ret) .skip)) (.seq (.seq (.region [⟨some 5, .op (.mv (.k (.int .i64 0))), none⟩]) (.block 0 (.loop (.seq (.seq (.region [⟨some 12, .op (.mv (.t 5)), none⟩, ⟨some 13, .op (.mv (.t 0)), none⟩, ⟨some 14, .op (.len false (.t 13)), none⟩, ⟨some 15, .op (.bin .lss (.t 12) (.t 14)), none⟩]) (.cond (.t 15) .skip (.exit 0))) (.seq (.block 1 (.seq (.region [⟨some 18, .op (.mv (.t 0)), none⟩, ⟨some 19, .op (.mv (.t 5)), none⟩, ⟨some 20, .op (.iaddr s (.t 18) (.t 19)), none⟩, ⟨some 21, .op (.load true s (.t 20)), none⟩, ⟨some 22, .op (.mv (.t 1)), none⟩, ⟨some 23, .call (.f f) [(.t 21), (.t 22)], none⟩, ⟨some 1, .op (.mv (.t 23)), none⟩]) (.seq (.region [⟨some 24, .op (.mv (.t 1)), none⟩, ⟨some 25, .op (.bin .lss (.t 24) (.k (.int .i64 0))), none⟩]) (.cond (.t 25) (.seq (.region [⟨some 4, .op (.mv (.k (.int .i64 (-1)))), none⟩]) .ret) .skip)))) (.region [⟨some 16, .op (.mv (.t 5)), none⟩, ⟨some 17, .op (.bin .add (.t 16) (.k (.int .i64 1))), none⟩, ⟨some 5, .op (.mv (.t 17)), none⟩])))))) (.seq (.region [⟨some 26, .op (.mv (.t 1)), none⟩, ⟨some 4, .op (.mv (.t 26)), none⟩]) .ret)))))⟩
theorem szS_ok {P : Program} (hm : P.follows .mixedOrders = true) {fz : List Nat} {n s f : Nat} (hc : compFn P fz n = some (szSCode s f)) {α : Type} (enc : α → List Ce) (g : α → Int → Int) (xs : List α) (left : Int) (hx : xs.length ≤ 1125899906842624) (h0 : 0 ≤ left) (h1 : left ≤ 34359738368) (hs : ∀ a, (enc a).length = s)
    (hg : ∀ a l, 0 ≤ l → g a l ≤ l) (hf : ∀ a ∈ xs, ∀ l, 0 ≤ l → l ≤ left → Pure P f [.agg (enc a), .c (.int .i64 l)] (.c (.int .i64 (g a l)))) : Pure P n [.c (.fz (xs.map enc)), .c (.int .i64 left)] (.c (.int .i64 (szL g xs left))) := by
  refine Pure.run hm hc (Nat.le_of_ble_eq_true rfl) fun σ hS hA => ?_
  clear hS hA
  have hw : IntKind.i64.wrap (left - xs.length) = left - xs.length := wrap64 (by omega) (by omega)
  repeat' first | (apply Go.adm; exact rfl) | apply Go.qs | apply Qg.nil | ((first | apply Go.v2 | apply Go.v1); (first | exact leAdd | assumption); iterate 6 exact rfl) | ((first | apply Go.op | apply Go.sop | apply Qg.op); exact rfl; (first | exact aop_alloc | exact aop_new rfl rfl | exact aop_mksl rfl | exact aop_lenM rfl | exact rfl | exact aL rfl rfl rfl rfl rfl | exact aS rfl rfl rfl rfl rfl rfl rfl)) | ((first | apply Go.no | apply Go.sno | apply Qg.no); exact rfl) | (exfalso; omega) | (((first | apply Go.iQ | apply Go.gQ | apply Go.sQ | apply Qg.gQ); exact rfl; (first | exact .d | exact .e | exact .n | ((fail_if_success exact bqt); (fail_if_success exact bqf); exact .b))) <;> intro _)
  · refine .ret rfl (.int ?_)
    rename_i h
    rw [hw] at h
    rw [szL, if_pos h]
  rename_i hnn
  rw [hw] at hnn
  have hsz : szL g xs left = szList g xs (left - xs.length) := by rw [szL, if_neg hnn]
  rw [hsz, hw]
  refine Go.keep [0, 1, 5] (Go.loops (I := fun m fr τ => ∃ i : Nat, ∃ n l : Int, m = xs.length - i ∧ i ≤ xs.length ∧ n = i ∧ (0 ≤ l ∧ l ≤ left ∧ szList g xs (left - xs.length) = szList g (xs.drop i) l) ∧
    fr = [(0, .c (.fz (xs.map enc))), (1, .c (.int .i64 l)), (5, .c (.int .i64 n))] ∧ τ = E σ []) ?_ _ _ _ ⟨0, _, _, rfl, Nat.zero_le _, rfl, ⟨by omega, by omega, rfl⟩, rfl, rfl⟩)
  rintro m fr τ ⟨i, n, l, rfl, hi, hn, ⟨hl0, hl1, hsl⟩, rfl, rfl⟩ hrec
  by_cases hlt : i < xs.length
  · have hp := hf _ (List.getElem_mem hlt) l hl0 hl1
    have hgl := hg xs[i] l hl0
    repeat' first | (apply Go.adm; exact rfl) | apply Go.qs | apply Qg.nil | ((first | apply Go.v2 | apply Go.v1); (first | exact leAdd | assumption); iterate 6 exact rfl) | ((first | apply Go.op | apply Go.sop | apply Qg.op); exact rfl; (first | exact aop_alloc | exact aop_new rfl rfl | exact aop_mksl rfl | exact aop_lenM rfl | exact rfl | exact aL rfl rfl rfl rfl rfl | exact aS rfl rfl rfl rfl rfl rfl rfl | exact aop_iaddrM rfl rfl hn hlt (hs _) | exact aop_loadF rfl (hs _))) | ((first | apply Go.no | apply Go.sno | apply Qg.no); exact rfl) | ((first | apply Go.pcallI | apply Go.spcallI | apply Qg.pcallI); (iterate 3 exact rfl); exact hp; intro _ _) | (exfalso; omega) | (((first | apply Go.iQ | apply Go.gQ | apply Go.sQ | apply Qg.gQ); exact rfl; (first | exact .d | exact .e | exact .n | ((fail_if_success exact bqt); (fail_if_success exact bqf); exact .b))) <;> intro _)
    · refine .ret rfl (.int ?_)
      rw [hsl, List.drop_eq_getElem_cons hlt, szList, if_pos (by omega)]
    · refine Go.keep [0, 1, 5] (hrec _ _ _ (by omega) ⟨i + 1, _, _, rfl, hlt, wrap_succ hn (by omega), ⟨?_, ?_, ?_⟩, rfl, rfl⟩)
      · omega
      · omega
      · rw [hsl, List.drop_eq_getElem_cons hlt, szList, if_neg (by omega)]
        congr 1
  · repeat' first | (apply Go.adm; exact rfl) | apply Go.qs | apply Qg.nil | ((first | apply Go.v2 | apply Go.v1); (first | exact leAdd | assumption); iterate 6 exact rfl) | ((first | apply Go.op | apply Go.sop | apply Qg.op); exact rfl; (first | exact aop_alloc | exact aop_new rfl rfl | exact aop_mksl rfl | exact aop_lenM rfl | exact rfl | exact aL rfl rfl rfl rfl rfl | exact aS rfl rfl rfl rfl rfl rfl rfl)) | ((first | apply Go.no | apply Go.sno | apply Qg.no); exact rfl) | (exfalso; omega) | (((first | apply Go.iQ | apply Go.gQ | apply Go.sQ | apply Qg.gQ); exact rfl; (first | exact .d | exact .e | exact .n | ((fail_if_success exact bqt); (fail_if_success exact bqf); exact .b))) <;> intro _)
    refine .ret rfl (.int ?_)
    rw [hsl, List.drop_eq_nil_of_le (by omega)]
    rfl

def eqSCode (s f : Nat) : AFn := ⟨27, [.t 4], (.seq (.region [⟨some 4, .op (.mv (.k (.bool false))), none⟩]) (.seq (.seq (.region [⟨some 6, .op (.mv (.t 0)), none⟩, ⟨some 7, .op (.len false (.t 6)), none⟩, ⟨some 8, .op (.mv (.t 1)), none⟩, ⟨some 9, .op (.len false (.t 8)), none⟩, ⟨some 10, .op (.bin .neq (.t 7) (.t 9)), none⟩]) (.cond (.t 10) (.seq (.region [⟨some 4, .op (.mv (.k (.bool false))), none⟩]) .ret) .skip)) (.seq (.seq (.region [⟨some 5, .op (.mv (.k (.int .i64 0))), none⟩]) (.block 0 (.loop (.seq (.seq (.region [⟨some 11, .op (.mv (.t 5)), none⟩, ⟨some 12, .op (.mv (.t 0)), none⟩, ⟨some 13, .op (.len false (.t 12)), none⟩, ⟨some 14, .op (.bin .lss (.t 11) (.t 13)), none⟩]) (.cond (.t 14) .skip (.exit 0))) (.seq (.block 1 (.seq (.draw [[⟨some 17, .op (.mv (.t 0)), none⟩, ⟨some 18, .op (.mv (.t 5)), none⟩, ⟨some 19, .op (.iaddr s (.t 17) (.t 18)), none⟩, ⟨some 20, .op (.load true s (.t 19)), none⟩, ⟨some 21, .op (.mv (.t 1)), none⟩, ⟨some 22, .op (.mv (.t 5)), none⟩, ⟨some 23, .op (.iaddr s (.t 21) (.t 22)), none⟩, ⟨some 24, .op (.load true s (.t 23)), none⟩], [⟨some 25, .call (.f f) [(.t 20), (.t 24)], none⟩], [⟨some 26, .op (.un .not (.t 25)), none⟩]]) (.cond (.t 26) (.seq (.region [⟨some 4, .op (.mv (.k (.bool false))), none⟩]) .ret) .skip))) (.region [⟨some 15, .op (.mv (.t 5)), none⟩, ⟨some 16, .op (.bin .add (.t 15) (.k (.int .i64 1))), none⟩, ⟨some 5, .op (.mv (.t 16)), none⟩])))))) (.seq (.region [⟨some 4, .op (.mv (.k (.bool true))), none⟩]) .ret))))⟩
theorem eqS_ok {P : Program} (hm : P.follows .mixedOrders = true) {fz : List Nat} {n s f : Nat} (hc : compFn P fz n = some (eqSCode s f)) {α : Type} [DecidableEq α] (enc : α → List Ce) (xs ys : List α) (hx : xs.length ≤ 34359738368) (hs : ∀ a, (enc a).length = s)
    (hf : ∀ a ∈ xs, ∀ b, Pure P f [.agg (enc a), .agg (enc b)] (.c (.bool (a == b)))) : Pure P n [.c (.fz (xs.map enc)), .c (.fz (ys.map enc))] (.c (.bool (xs == ys))) := by
  refine Pure.run hm hc (Nat.le_of_ble_eq_true rfl) fun σ hS hA => ?_
  clear hS hA
  repeat' first | (apply Go.adm; exact rfl) | apply Go.qs | apply Qg.nil | ((first | apply Go.v2 | apply Go.v1); (first | exact leAdd | assumption); iterate 6 exact rfl) | ((first | apply Go.op | apply Go.sop | apply Qg.op); exact rfl; (first | exact aop_alloc | exact aop_new rfl rfl | exact aop_mksl rfl | exact aop_lenM rfl | exact rfl | exact aL rfl rfl rfl rfl rfl | exact aS rfl rfl rfl rfl rfl rfl rfl)) | ((first | apply Go.no | apply Go.sno | apply Qg.no); exact rfl) | (exfalso; omega) | (((first | apply Go.iQ | apply Go.gQ | apply Go.sQ | apply Qg.gQ); exact rfl; (first | exact .d | exact .e | exact .n | ((fail_if_success exact bqt); (fail_if_success exact bqf); exact .b))) <;> intro _)
  · refine .ret rfl (.bool ?_)
    rw [eq_comm, beq_eq_false_iff_ne]
    rintro rfl
    simp at *
  refine Go.keep [0, 1, 5] (Go.loops (I := fun m fr τ => ∃ i : Nat, ∃ n : Int, m = xs.length - i ∧ i ≤ xs.length ∧ n = i ∧ (xs.length = ys.length ∧ (xs == ys) = (xs.drop i == ys.drop i)) ∧
    fr = [(0, .c (.fz (xs.map enc))), (1, .c (.fz (ys.map enc))), (5, .c (.int .i64 n))] ∧ τ = E σ []) ?_ _ _ _ ⟨0, _, rfl, Nat.zero_le _, rfl, ⟨by omega, rfl⟩, rfl, rfl⟩)
  rintro m fr τ ⟨i, n, rfl, hi, hn, ⟨hl, hsl⟩, rfl, rfl⟩ hrec
  by_cases hlt : i < xs.length
  · have hlt2 : i < ys.length := by omega
    have hp := hf _ (List.getElem_mem hlt) ys[i]
    repeat' first | (apply Go.adm; exact rfl) | apply Go.qs | apply Qg.nil | ((first | apply Go.v2 | apply Go.v1); (first | exact leAdd | assumption); iterate 6 exact rfl) | ((first | apply Go.op | apply Go.sop | apply Qg.op); exact rfl; (first | exact aop_alloc | exact aop_new rfl rfl | exact aop_mksl rfl | exact aop_lenM rfl | exact rfl | exact aL rfl rfl rfl rfl rfl | exact aS rfl rfl rfl rfl rfl rfl rfl | exact aop_iaddrM rfl rfl hn hlt (hs _) | exact aop_iaddrM rfl rfl hn hlt2 (hs _) | exact aop_loadF rfl (hs _))) | ((first | apply Go.no | apply Go.sno | apply Qg.no); exact rfl) | ((first | apply Go.pcallB | apply Go.spcallB | apply Qg.pcallB); (iterate 3 exact rfl); exact hp; intro _ _) | (exfalso; omega) | (((first | apply Go.iQ | apply Go.gQ | apply Go.sQ | apply Qg.gQ); exact rfl; (first | exact .d | exact .e | exact .n | ((fail_if_success exact bqt); (fail_if_success exact bqf); exact .b))) <;> intro _)
    · refine .ret rfl (.bool ?_)
      rw [hsl, List.drop_eq_getElem_cons hlt, List.drop_eq_getElem_cons hlt2, List.cons_beq_cons]
      clear hrec
      simp_all
    · refine Go.keep [0, 1, 5] (hrec _ _ _ (by omega) ⟨i + 1, _, rfl, hlt, wrap_succ hn (by omega), ⟨hl, ?_⟩, rfl, rfl⟩)
      rw [hsl, List.drop_eq_getElem_cons hlt, List.drop_eq_getElem_cons hlt2, List.cons_beq_cons]
      clear hrec
      simp_all
  · repeat' first | (apply Go.adm; exact rfl) | apply Go.qs | apply Qg.nil | ((first | apply Go.v2 | apply Go.v1); (first | exact leAdd | assumption); iterate 6 exact rfl) | ((first | apply Go.op | apply Go.sop | apply Qg.op); exact rfl; (first | exact aop_alloc | exact aop_new rfl rfl | exact aop_mksl rfl | exact aop_lenM rfl | exact rfl | exact aL rfl rfl rfl rfl rfl | exact aS rfl rfl rfl rfl rfl rfl rfl)) | ((first | apply Go.no | apply Go.sno | apply Qg.no); exact rfl) | (exfalso; omega) | (((first | apply Go.iQ | apply Go.gQ | apply Go.sQ | apply Qg.gQ); exact rfl; (first | exact .d | exact .e | exact .n | ((fail_if_success exact bqt); (fail_if_success exact bqf); exact .b))) <;> intro _)
    refine .ret rfl (.bool ?_)
    rw [hsl, List.drop_eq_nil_of_le (by omega), List.drop_eq_nil_of_le (by omega)]
    rfl
theorem retv_m {fr : Fr} {σ : Store} {l : List (Nat × List (List Ce))} {k v i t j s : Nat} {g : Bool} {es : List (List Ce)} {e : List Ce} {x : AV} (hp : look fr t = some (.c (.ptr (σ.next + k) v i j))) (hl : l[k]? = some (v, es)) (he : es[i]? = some e) (hj : j ≤ e.length) (hx : takeA g s (e.drop j) = some x) :
    retv fr (E σ l) [.m t g s] = some x := by
  simp [retv, revs, RV.ev, hp, Store.at_, E_at, hl, he, hj, hx]
theorem Tidy.mono {n m : Nat} (h : n ≤ m) {x : Ce} (ht : Tidy m x) : Tidy n x := by
  cases ht with
  | flat h => exact .flat h
  | sl id v i m c h => exact .sl _ _ _ _ _ (by omega)
  | ptr id v i j h => exact .ptr _ _ _ _ (by omega)
theorem TidyL.nil {n : Nat} : TidyL n [] := fun b hb => by simp at hb
theorem TidyL.cons {n v : Nat} {es : List (List Ce)} {l : List (Nat × List (List Ce))} (h : ∀ e ∈ es, ∀ x ∈ e, Tidy n x) (hl : TidyL n l) : TidyL n ((v, es) :: l) := by
  intro b hb e he x hx
  rcases List.mem_cons.1 hb with rfl | hb
  · exact h e he x hx
  · exact hl b hb e he x hx
theorem TidyL.one {n v : Nat} {e : List Ce} {l : List (Nat × List (List Ce))} (h : ∀ x ∈ e, Tidy n x) (hl : TidyL n l) : TidyL n ((v, [e]) :: l) :=
  .cons (fun e' he x hx => by simp at he; subst he; exact h x hx) hl
theorem TidyL.mono {n m : Nat} (h : n ≤ m) {l : List (Nat × List (List Ce))} (hl : TidyL m l) : TidyL n l := fun b hb e he x hx => (hl b hb e he x hx).mono h
theorem E_two {σ : Store} {a a' b b' : Nat × List (List Ce)} {l : List (Nat × List (List Ce))} {id : Nat} (h : σ.next + 2 ≤ id) : (E σ (a' :: b' :: l)).get id = (E σ (a :: b :: l)).get id := by
  rw [E_ge (by omega), E_ge (by omega)]
  obtain ⟨q, hq⟩ : ∃ q, id - σ.next = q + 2 := ⟨id - σ.next - 2, by omega⟩
  rw [hq]
  rfl
end Go.Proofs.YtcfpdongfdhgjaaGreat.Am

/- The laws' helpers on values and entries: sizes, copies, equality. -/
set_option linter.unusedVariables false
set_option linter.unusedSimpArgs false
namespace Go.Proofs.YtcfpdongfdhgjaaGreat.Am

def szV (v : Val) (left : Int) : Int := if left - v.s.length < 0 then -1 else left - v.s.length
theorem szV_le (v : Val) (l : Int) (h : 0 ≤ l) : szV v l ≤ l := by
  simp only [szV]
  split <;> omega
theorem szVal_ok (v : Val) (left : Int) (hx : v.s.length ≤ 1125899906842624) (h0 : 0 ≤ left) (h1 : left ≤ 34359738368) : Pure Tryz.prog 103 [.agg (encV v), .c (.int .i64 left)] (.c (.int .i64 (szV v left))) := by
  refine Pure.run mixed c_laws_szVal_ok (Nat.le_of_ble_eq_true rfl) fun σ hS hA => ?_
  clear hS hA
  have hw : IntKind.i64.wrap (left - v.s.length) = left - v.s.length := wrap64 (by omega) (by omega)
  repeat' first | (apply Go.adm; exact rfl) | apply Go.qs | apply Qg.nil | ((first | apply Go.v2 | apply Go.v1); (first | exact leAdd | assumption); iterate 6 exact rfl) | ((first | apply Go.op | apply Go.sop | apply Qg.op); exact rfl; (first | exact aop_alloc | exact aop_new rfl rfl | exact aop_mksl rfl | exact aop_lenM rfl | exact rfl | exact aL rfl rfl rfl rfl rfl | exact aS rfl rfl rfl rfl rfl rfl rfl)) | ((first | apply Go.no | apply Go.sno | apply Qg.no); exact rfl) | (exfalso; omega) | (((first | apply Go.iQ | apply Go.gQ | apply Go.sQ | apply Qg.gQ); exact rfl; (first | exact .d | exact .e | exact .n | ((fail_if_success exact bqt); (fail_if_success exact bqf); exact .b))) <;> intro _)
  · refine .ret rfl (.int ?_)
    rename_i h
    rw [hw] at h
    rw [szV, if_pos h]
  · refine .ret rfl (.int ?_)
    rename_i h
    rw [hw] at h ⊢
    rw [szV, if_neg h]
def LenV (v : Val) : Prop := v.s.length ≤ 1125899906842624
theorem szValS_ok (xs : List Val) (left : Int) (hx : xs.length ≤ 1125899906842624) (hv : ∀ v ∈ xs, LenV v) (h0 : 0 ≤ left) (h1 : left ≤ 34359738368) : Pure Tryz.prog 35 [.c (.fz (xs.map encV)), .c (.int .i64 left)] (.c (.int .i64 (szL szV xs left))) :=
  szS_ok mixed c_laws_szValS_ok encV szV xs left hx h0 h1 (fun _ => rfl) szV_le fun a ha l h2 h3 => szVal_ok a l (hv a ha) h2 (by omega)
theorem flatV (v : Val) : ∀ x ∈ encV v, Flat x := by
  intro x hx
  simp only [encV, List.mem_cons, List.not_mem_nil, or_false] at hx
  rcases hx with rfl | rfl | rfl <;> constructor
theorem toVal_ok (v : Val) (σ : Store) : Ok Tryz.prog 109 [.agg (encV v)] σ (NewL σ (encV v)) := by
  refine Ok.run mixed c_laws_toVal_ok (Nat.le_of_ble_eq_true rfl) fun hS hA => ?_
  clear hS hA
  repeat' first | (apply Go.adm; exact rfl) | apply Go.qs | apply Qg.nil | ((first | apply Go.v2 | apply Go.v1); (first | exact leAdd | assumption); iterate 6 exact rfl) | ((first | apply Go.op | apply Go.sop | apply Qg.op); exact rfl; (first | exact aop_alloc | exact aop_new rfl rfl | exact aop_mksl rfl | exact aop_lenM rfl | exact rfl | exact aL rfl rfl rfl rfl rfl | exact aS rfl rfl rfl rfl rfl rfl rfl)) | ((first | apply Go.no | apply Go.sno | apply Qg.no); exact rfl) | (exfalso; omega) | (((first | apply Go.iQ | apply Go.gQ | apply Go.sQ | apply Qg.gQ); exact rfl; (first | exact .d | exact .e | exact .n | ((fail_if_success exact bqt); (fail_if_success exact bqf); exact .b))) <;> intro _)
  refine .ret (retv_m rfl rfl rfl (Nat.le_of_ble_eq_true rfl) rfl) ⟨encV v, _, rfl, rfl, ?_, .flat (flatV v)⟩
  show TidyL σ.next [(0, [encV v]), (0, [encV v])]
  exact .one (fun x hx => .flat (flatV v x hx)) (.one (fun x hx => .flat (flatV v x hx)) .nil)
theorem toValS_ok (xs : List Val) (hx : xs.length ≤ 34359738368) (σ : Store) : Ok Tryz.prog 38 [.c (.fz (xs.map encV))] σ (New σ (.fz (xs.map encV))) :=
  toS_ok mixed c_laws_toValS_ok encV xs hx (by decide) rfl (fun _ => rfl) (by intro x hx; simp only [List.mem_cons, List.not_mem_nil, or_false] at hx; rcases hx with rfl | rfl | rfl <;> constructor) (fun a _ σ => toVal_ok a σ) σ
end Go.Proofs.YtcfpdongfdhgjaaGreat.Am

/- The abstract machine, part 26: writing into owned trees; the laws' marks. -/
set_option linter.unusedVariables false
set_option linter.unusedSimpArgs false
namespace Go.Proofs.YtcfpdongfdhgjaaGreat.Am
open Go.RowKit

/-- What a slice's tree is made of. -/
theorem Has.open {σ : Store} {S : Nat → Prop} {ys : List (List Ce)} {x : Ce} (h : Has σ S (.fz ys) x) (hne : 0 < ys.length) : ∃ (id v s : Nat) (cs junk : List (List Ce)) (T : Nat → Nat → Nat → Prop), x = .sl id v 0 ys.length (ys.length + junk.length) ∧ σ.get id = some (v, cs ++ junk) ∧ S id ∧ ∃ hl : cs.length = ys.length,
    ∃ hs : ∀ i (hi : i < ys.length), (cs[i]'(by omega)).length = ys[i].length, (∀ e ∈ cs ++ junk, e.length = s) ∧ (∀ e ∈ junk, ∀ x ∈ e, Flat x) ∧ (∀ i j a, T i j a → S a ∧ a ≠ id) ∧ (∀ i j i' j' a, T i j a → T i' j' a → i = i' ∧ j = j') ∧
      ∀ i j (hi : i < ys.length) (hj : j < ys[i].length), Has σ (T i j) ys[i][j] ((cs[i]'(by omega))[j]'(by have := hs i hi; omega)) := by
  cases h with
  | c h => cases h
  | nil => simp at hne
  | o ys id v s cs junk T hg hS hl hs hall hj hT hd h => exact ⟨id, v, s, cs, junk, T, rfl, hg, hS, hl, hs, hall, hj, hT, hd, h⟩
theorem splice_set {e : List Ce} {j : Nat} {z : Ce} (h : j < e.length) : splice e j [z] = e.set j z := by
  simp only [splice, List.length_singleton]
  rw [List.set_eq_take_append_cons_drop, if_pos h]
  simp
/-- A flat cell of the tree's upper block is written. -/
theorem Has.write {σ : Store} {S : Nat → Prop} {ys : List (List Ce)} {x : Ce} (h : Has σ S (.fz ys) x) {i j : Nat} (hi : i < ys.length) (hj : j < ys[i].length) : ∃ (id v : Nat) (c : Nat) (es : List (List Ce)) (e : List Ce), x = .sl id v 0 ys.length c ∧ σ.get id = some (v, es) ∧ es[0 + i]? = some e ∧ e.length = ys[i].length ∧ S id ∧
    ∀ z, Flat z → Has (σ.put id (v, es.set (0 + i) (splice e (0 + j) [z]))) S (.fz (ys.set i (ys[i].set j z))) x := by
  obtain ⟨id, v, s, cs, junk, T, rfl, hg, hS, hl, hs, hall, hjk, hT, hd, hh⟩ := h.open (by omega)
  have hic : i < cs.length := by omega
  refine ⟨id, v, _, cs ++ junk, cs[i], rfl, hg, by rw [Nat.zero_add, List.getElem?_append_left hic, List.getElem?_eq_getElem hic], hs i hi, hS, fun z hz => ?_⟩
  have hlen : cs[i].length = ys[i].length := hs i hi
  simp only [Nat.zero_add]
  rw [splice_set (by omega), List.set_append_left _ _ hic]
  have hy : (ys.set i (ys[i].set j z)).length = ys.length := by simp
  have key := Has.o (σ := σ.put id (v, cs.set i (cs[i].set j z) ++ junk)) (S := S) (ys.set i (ys[i].set j z)) id v s (cs.set i (cs[i].set j z)) junk T (put_self rfl) hS (by simp [hl])
    (fun k hk => by
      have hk' : k < ys.length := by simpa using hk
      by_cases e : k = i
      · subst e; simp [hlen]
      · rw [List.getElem_set_ne (Ne.symm e), List.getElem_set_ne (Ne.symm e)]; exact hs k hk')
    (fun e he => by
      rcases List.mem_append.1 he with h1 | h1
      · rcases List.mem_or_eq_of_mem_set h1 with h2 | h2
        · exact hall e (List.mem_append_left _ h2)
        · subst h2
          rw [List.length_set]
          exact hall _ (List.mem_append_left _ (List.getElem_mem hic))
      · exact hall e (List.mem_append_right _ h1)) hjk hT hd
    (fun k m hk hm => by
      have hk' : k < ys.length := by simpa using hk
      have fr : ∀ {k m} {y x : Ce}, Has σ (T k m) y x → Has (σ.put id (v, cs.set i (cs[i].set j z) ++ junk)) (T k m) y x := fun h => h.frame fun a ha => put_ne (hT _ _ a ha).2
      by_cases e : k = i
      · subst e
        have e1 : (ys.set k (ys[k].set j z))[k] = ys[k].set j z := by simp
        have e2 : (cs.set k (cs[k].set j z))[k]'(by simp; omega) = cs[k].set j z := by simp
        simp only [e1, e2]
        by_cases e3 : m = j
        · subst e3
          simp only [List.getElem_set_self]
          exact .c hz
        · have hm' : m < ys[k].length := by simpa using hm
          rw [List.getElem_set_ne (Ne.symm e3), List.getElem_set_ne (Ne.symm e3)]
          exact fr (hh k m hk' hm')
      · have e1 : (ys.set i (ys[i].set j z))[k] = ys[k] := by rw [List.getElem_set_ne (Ne.symm e)]
        have e2 : (cs.set i (cs[i].set j z))[k]'(by simp; omega) = cs[k]'(by omega) := by rw [List.getElem_set_ne (Ne.symm e)]
        simp only [e1, e2]
        exact fr (hh k m hk' (by simpa only [e1] using hm)))
  rw [hy] at key
  exact key
/-! ### Operations on a block of a store, whichever it is -/
/-- The call marks a tree, in place. -/
structure Marks (P : Program) (f : Nat) (y y' : Ce) (k k' : Int) : Prop where
  at_ : ∀ σ S x, Has σ S y x → Ok P f [.c x, .c (.int .i64 k)] σ (fun r σ' => r = .c (.int .i64 k') ∧ σ'.next = σ.next ∧ (∀ a, ¬ S a → σ'.get a = σ.get a) ∧ Has σ' S y' x)

end Go.Proofs.YtcfpdongfdhgjaaGreat.Am

/- The laws' marks on values and entries. -/
set_option linter.unusedVariables false
set_option linter.unusedSimpArgs false
namespace Go.Proofs.YtcfpdongfdhgjaaGreat.Am

theorem put_off {σ : Store} {S : Nat → Prop} {id : Nat} {x : Nat × List (List Ce)} (hS : S id) (a : Nat) (h : ¬ S a) : (σ.put id x).get a = σ.get a := put_ne (fun e => h (by rw [e]; exact hS))
end Go.Proofs.YtcfpdongfdhgjaaGreat.Am

/- The laws' marks on values and entries, and whether they are held. -/
set_option linter.unusedVariables false
set_option linter.unusedSimpArgs false
namespace Go.Proofs.YtcfpdongfdhgjaaGreat.Am

theorem sl_inj {id v i n c id' v' i' n' c' : Nat} (h : Ce.sl id v i n c = Ce.sl id' v' i' n' c') : id = id' ∧ v = v' ∧ n = n' := by
  injection h with a b c d
  exact ⟨a, b, d⟩
end Go.Proofs.YtcfpdongfdhgjaaGreat.Am

/- The abstract machine, part 28: trees that grow; several results. -/
set_option linter.unusedVariables false
set_option linter.unusedSimpArgs false
namespace Go.Proofs.YtcfpdongfdhgjaaGreat.Am
open Go.RowKit

/-- A store with blocks more, whose cells lead nowhere below. -/
def Gr (σ τ : Store) : Prop := ∃ l, τ = E σ l ∧ TidyL σ.next l
theorem Gr.start (σ : Store) : Gr σ (E σ []) := ⟨[], rfl, fun b hb => by simp at hb⟩
theorem Gr.next {σ τ : Store} (h : Gr σ τ) : σ.next ≤ τ.next := by
  obtain ⟨l, rfl, _⟩ := h
  simp [E_next]
theorem Gr.lt {σ τ : Store} (h : Gr σ τ) {a : Nat} (ha : a < σ.next) : τ.get a = σ.get a := by
  obtain ⟨l, rfl, _⟩ := h
  exact E_lt ha
theorem Gr.trans {σ τ ρ : Store} (h : Gr σ τ) (k : Gr τ ρ) : Gr σ ρ := by
  obtain ⟨l, rfl, h1⟩ := h
  obtain ⟨m, rfl, h2⟩ := k
  refine ⟨l ++ m, E_E, fun b hb e he x hx => ?_⟩
  rcases List.mem_append.1 hb with hb | hb
  · exact h1 b hb e he x hx
  · exact (h2 b hb e he x hx).mono (by simp [E_next])
theorem Gr.new {σ τ : Store} (h : Gr σ τ) {v : Nat} {es : List (List Ce)} (ht : ∀ e ∈ es, ∀ x ∈ e, Tidy σ.next x) : Gr σ (τ.new (v, es)) := by
  obtain ⟨l, rfl, h1⟩ := h
  refine ⟨l ++ [(v, es)], E_new, fun b hb e he x hx => ?_⟩
  rcases List.mem_append.1 hb with hb | hb
  · exact h1 b hb e he x hx
  · simp at hb
    subst hb
    exact ht e he x hx
theorem Gr.put {σ τ : Store} (h : Gr σ τ) {id v : Nat} {es : List (List Ce)} (h0 : σ.next ≤ id) (h1 : id < τ.next) (ht : ∀ e ∈ es, ∀ x ∈ e, Tidy σ.next x) : Gr σ (τ.put id (v, es)) := by
  obtain ⟨l, rfl, h2⟩ := h
  obtain ⟨k, rfl⟩ : ∃ k, id = σ.next + k := ⟨id - σ.next, by omega⟩
  rw [E_next] at h1
  refine ⟨l.set k (v, es), E_put (by omega), fun b hb e he x hx => ?_⟩
  rcases List.mem_or_eq_of_mem_set hb with hb | hb
  · exact h2 b hb e he x hx
  · subst hb
    exact ht e he x hx
theorem Gr.tidy {σ τ : Store} (h : Gr σ τ) {id : Nat} {y : Nat × List (List Ce)} (h0 : σ.next ≤ id) (hg : τ.get id = some y) : ∀ e ∈ y.2, ∀ x ∈ e, Tidy σ.next x := by
  obtain ⟨l, rfl, h2⟩ := h
  rw [E_ge (by omega)] at hg
  exact h2 y (List.mem_of_getElem? hg)
/-- A slice's tree whose block holds elements of size s. -/
structure Row (τ : Store) (S : Nat → Prop) (s : Nat) (ys : List (List Ce)) (x : Ce) : Prop where
  has : Has τ S (.fz ys) x
  sz : ∀ id v i n c w es, x = .sl id v i n c → τ.get id = some (w, es) → ∀ e ∈ es, e.length = s
theorem Row.mono {τ : Store} {S S' : Nat → Prop} {s : Nat} {ys : List (List Ce)} {x : Ce} (h : Row τ S s ys x) (hS : ∀ a, S a → S' a) : Row τ S' s ys x := ⟨h.has.mono hS, h.sz⟩
theorem Row.frame {τ τ' : Store} {S : Nat → Prop} {s : Nat} {ys : List (List Ce)} {x : Ce} (h : Row τ S s ys x) (hf : ∀ a, S a → τ'.get a = τ.get a) : Row τ' S s ys x := by
  refine ⟨h.has.frame hf, fun id v i n c w es hx hg => ?_⟩
  have hS : S id := by
    have := h.has
    subst hx
    cases this with
    | o ys id v s cs junk T hg hS => exact hS
  exact h.sz id v i n c w es hx (by rw [← hf id hS]; exact hg)
theorem Row.nils {τ : Store} {S : Nat → Prop} {s : Nat} : Row τ S s [] .nils := ⟨.nil, fun id v i n c w es hx => by cases hx⟩
theorem Has.one {τ : Store} {id v s : Nat} {S : Nat → Prop} (hg : τ.get id = some (v, [])) (hS : S id) : Has τ S (.fz []) (.sl id v 0 0 0) :=
  .o [] id v s [] [] (fun _ _ _ => False) hg hS rfl (fun i hi => by simp at hi) (fun e he => by simp at he) (fun e he => by simp at he) (fun _ _ _ h => h.elim) (fun _ _ _ _ _ h => h.elim) (fun i j hi => by simp at hi)
theorem Row.empty {τ : Store} {id v s : Nat} {S : Nat → Prop} (hg : τ.get id = some (v, [])) (hS : S id) : Row τ S s [] (.sl id v 0 0 0) :=
  ⟨.one (s := s) hg hS, fun id' v' i n c w es hx h => by cases hx; rw [hg] at h; cases h; intro e he; simp at he⟩

/-- One more element, with what it owns. -/
theorem Row.push {τ : Store} {S : Nat → Prop} {s bytes : Nat} {ys : List (List Ce)} {x : Ce} (h : Row τ S s ys x) (hS : ∀ a, S a → a < τ.next) {T : Nat → Prop} {e ye : List Ce} (he : HasL τ T ye e) (hT : ∀ a, T a → a < τ.next) (hd : ∀ a, S a → ¬ T a)
    (hes : ye.length = s) (hb : (ys.length + 1) * bytes ≤ 140737488355328) :
    ∃ x' τ', appA τ s bytes x [e] = some (x', τ') ∧ τ.next ≤ τ'.next ∧ (∀ a, a < τ.next → ¬ S a → τ'.get a = τ.get a) ∧ Row τ' (fun a => S a ∨ T a ∨ (τ.next ≤ a ∧ a < τ'.next)) s (ys ++ [ye]) x' ∧
      ∀ σ, Gr σ τ → (∀ a, S a → σ.next ≤ a) → (∀ z ∈ e, Tidy σ.next z) → Gr σ τ' := by
  obtain ⟨U, he1, he2, he3, he4⟩ := he
  have hel : e.length = s := by omega
  have hall1 : ∀ q ∈ [e], q.length = s := fun q hq => by simp at hq; subst hq; exact hel
  cases h.has with
  | c h' => cases h'
  | nil =>
    refine ⟨.sl τ.next 0 0 1 1, τ.new (0, [e]), ?_, Nat.le_succ _, fun a ha _ => ?_, ⟨?_, ?_⟩, fun σ hg _ ht => hg.new fun q hq => by simp at hq; subst hq; exact ht⟩
    · unfold appA
      rw [if_pos hall1]
      simp only [List.length_singleton]
      rw [if_pos (by simpa using hb)]
    · show (if a = τ.next then _ else _) = _
      rw [if_neg (by omega)]
    · have hgn : (τ.new (0, [e])).get τ.next = some (0, [e]) := if_pos rfl
      have hfr : ∀ a, T a → (τ.new (0, [e])).get a = τ.get a := fun a ha => if_neg (by have := hT a ha; omega)
      exact Has.o [ye] τ.next 0 s [e] [] (fun i j a => i = 0 ∧ U j a) hgn (.inr (.inr ⟨Nat.le_refl _, Nat.lt_succ_self _⟩)) rfl (fun i hi => by
          have : i = 0 := by simpa using hi
          subst this
          exact he1) (fun q hq => hall1 q (by simpa using hq)) (fun q hq => by simp at hq) (fun i j a ha => ⟨.inr (.inl (he2 j a ha.2)), by have := hT a (he2 j a ha.2); omega⟩) (fun i j i' j' a h1 h2 => ⟨h1.1.trans h2.1.symm, he3 j j' a h1.2 h2.2⟩)
        (fun i j hi hj => by
          have : i = 0 := by simpa using hi
          subst this
          exact ((he4 j hj (by simp at hj ⊢; omega)).frame fun a ha => hfr a (he2 j a ha)).mono fun a ha => ⟨rfl, ha⟩)
    · intro id v i n c w es hx hg
      cases hx
      have : (τ.new (0, [e])).get τ.next = some (0, [e]) := if_pos rfl
      rw [this] at hg
      cases hg
      exact hall1
  | o ys id v s' cs junk T0 hg hSid hl hsz hall hj hT0 hd0 hh =>
    have hall' : ∀ q ∈ cs ++ junk, q.length = s := h.sz _ _ _ _ _ _ _ rfl hg
    have hidl := hS id hSid
    -- the new tree, whatever spare room is left
    have tree : ∀ (v' : Nat) (junk' : List (List Ce)), (∀ q ∈ junk', q ∈ junk) → Row (τ.put id (v', cs ++ [e] ++ junk')) (fun a => S a ∨ T a ∨ (τ.next ≤ a ∧ a < (τ.put id (v', cs ++ [e] ++ junk')).next)) s (ys ++ [ye]) (.sl id v' 0 (ys ++ [ye]).length ((ys ++ [ye]).length + junk'.length)) := by
      intro v' junk' hjj
      have hgn : (τ.put id (v', cs ++ [e] ++ junk')).get id = some (v', cs ++ [e] ++ junk') := if_pos rfl
      have hne : ∀ a, a ≠ id → (τ.put id (v', cs ++ [e] ++ junk')).get a = τ.get a := fun a ha => if_neg ha
      have hall2 : ∀ q ∈ cs ++ [e] ++ junk', q.length = s := by
        intro q hq
        simp only [List.mem_append] at hq
        rcases hq with (hq | hq) | hq
        · exact hall' q (List.mem_append_left _ hq)
        · exact hall1 q hq
        · exact hall' q (List.mem_append_right _ (hjj q hq))
      refine ⟨Has.o (ys ++ [ye]) id v' s (cs ++ [e]) junk' (fun i j a => (i < ys.length ∧ T0 i j a) ∨ (i = ys.length ∧ U j a)) hgn (Or.inl hSid) (by simp [hl]) (fun i hi => ?_) hall2 (fun q hq => hj q (hjj q hq)) (fun i j a ha => ?_) (fun i j i' j' a h1 h2 => ?_) (fun i j hi hjy => ?_), fun id' v2 i n c w es hx hg' => ?_⟩
      · by_cases c : i < ys.length
        · rw [List.getElem_append_left (by omega), List.getElem_append_left c]; exact hsz i c
        · have hi2 : i = ys.length := by simp at hi; omega
          subst hi2
          rw [List.getElem_append_right (by omega), List.getElem_append_right (by omega)]
          simp [hl, he1]
      · rcases ha with ⟨_, ha⟩ | ⟨_, ha⟩
        · exact ⟨.inl (hT0 i j a ha).1, (hT0 i j a ha).2⟩
        · refine ⟨.inr (.inl (he2 j a ha)), fun e' => ?_⟩
          subst e'
          exact hd _ hSid (he2 j _ ha)
      · rcases h1 with ⟨c1, h1⟩ | ⟨c1, h1⟩ <;> rcases h2 with ⟨c2, h2⟩ | ⟨c2, h2⟩
        · exact hd0 _ _ _ _ a h1 h2
        · exact absurd (he2 _ _ h2) (hd a (hT0 _ _ a h1).1)
        · exact absurd (he2 _ _ h1) (hd a (hT0 _ _ a h2).1)
        · exact ⟨by omega, he3 _ _ a h1 h2⟩
      · by_cases c : i < ys.length
        · have e1 : (ys ++ [ye])[i] = ys[i] := List.getElem_append_left c
          have e2 : (cs ++ [e])[i]'(by simp; omega) = cs[i]'(by omega) := List.getElem_append_left (by omega)
          simp only [e1, e2]
          exact ((hh i j c (by rw [← e1]; exact hjy)).frame fun a ha => hne a (hT0 i j a ha).2).mono fun a ha => .inl ⟨c, ha⟩
        · have hi2 : i = ys.length := by simp at hi; omega
          subst hi2
          have e1 : (ys ++ [ye])[ys.length]'hi = ye := by rw [List.getElem_append_right (by omega)]; simp
          have e2 : (cs ++ [e])[ys.length]'(by simp; omega) = e := by rw [List.getElem_append_right (by omega)]; simp [hl]
          simp only [e1, e2]
          have hjy' : j < ye.length := by rw [← e1]; exact hjy
          exact ((he4 j hjy' (by omega)).frame fun a ha => hne a fun e' => by subst e'; exact hd _ hSid (he2 j _ ha)).mono fun a ha => .inr ⟨trivial, ha⟩
      · cases hx
        rw [hgn] at hg'
        cases hg'
        exact hall2
    have hfr : ∀ (v' : Nat) (es' : List (List Ce)) (a : Nat), a < τ.next → ¬ S a → (τ.put id (v', es')).get a = τ.get a := fun v' es' a _ ha => if_neg fun e => ha (by rw [e]; exact hSid)
    have hgr : ∀ (v' : Nat) (junk' : List (List Ce)), (∀ q ∈ junk', q ∈ junk) → ∀ σ, Gr σ τ → (∀ a, S a → σ.next ≤ a) → (∀ z ∈ e, Tidy σ.next z) → Gr σ (τ.put id (v', cs ++ [e] ++ junk')) := by
      intro v' junk' hjj σ hG hlo ht
      refine hG.put (hlo id hSid) hidl fun q hq => ?_
      have hold := hG.tidy (hlo id hSid) hg
      simp only [List.mem_append] at hq
      rcases hq with (hq | hq) | hq
      · exact hold q (List.mem_append_left _ hq)
      · simp at hq; subst hq; exact ht
      · exact hold q (List.mem_append_right _ (hjj q hq))
    by_cases c : 1 ≤ junk.length
    · refine ⟨.sl id v 0 (ys ++ [ye]).length ((ys ++ [ye]).length + (junk.drop 1).length), τ.put id (v, cs ++ [e] ++ junk.drop 1), ?_, Nat.le_refl _, hfr v (cs ++ [e] ++ junk.drop 1), ?_, hgr v (junk.drop 1) fun q hq => List.mem_of_mem_drop hq⟩
      · have e2 : splice (cs ++ junk) (0 + ys.length) [e] = cs ++ [e] ++ junk.drop 1 := by
          simp only [splice, Nat.zero_add, List.length_singleton]
          rw [← hl, List.take_left' rfl, List.drop_append]
          rw [List.drop_eq_nil_of_le (by omega), Nat.add_sub_cancel_left]
          simp
        unfold appA
        rw [if_pos hall1]
        simp only [hg]
        rw [if_pos ⟨trivial, by simp [hl], by omega, hall'⟩, if_pos (by simp; omega), e2]
        simp only [List.length_append, List.length_singleton, List.length_drop]
        rw [show ys.length + 1 + (junk.length - 1) = ys.length + junk.length by omega]
      · exact tree v (junk.drop 1) fun q hq => List.mem_of_mem_drop hq
    · refine ⟨.sl id (v + 1) 0 (ys ++ [ye]).length ((ys ++ [ye]).length + 0), τ.put id (v + 1, cs ++ [e] ++ []), ?_, Nat.le_refl _, hfr (v + 1) (cs ++ [e] ++ []), ?_, hgr (v + 1) [] fun q hq => by simp at hq⟩
      · unfold appA
        rw [if_pos hall1]
        simp only [hg]
        have e3 : (List.drop 0 (cs ++ junk)).take ys.length = cs := by rw [List.drop_zero, ← hl, List.take_left' rfl]
        rw [if_pos ⟨trivial, by simp [hl], by omega, hall'⟩, if_neg (by simp only [List.length_singleton]; omega), if_pos (by simpa using hb), e3]
        simp
      · exact tree (v + 1) [] fun q hq => by simp at hq

/-! ### Values of several cells -/
inductive HasV (τ : Store) : (Nat → Prop) → AV → AV → Prop where
  | c {S : Nat → Prop} {y x : Ce} (h : Has τ S y x) : HasV τ S (.c y) (.c x)
  | agg {S : Nat → Prop} {ys xs : List Ce} (h : HasL τ S ys xs) : HasV τ S (.agg ys) (.agg xs)
  | tup {S : Nat → Prop} {ys xs : List AV} (U : Nat → Nat → Prop) (hl : xs.length = ys.length) (hU : ∀ i a, U i a → S a) (hd : ∀ i i' a, U i a → U i' a → i = i') (h : ∀ i (hy : i < ys.length) (hx : i < xs.length), HasV τ (U i) ys[i] xs[i]) : HasV τ S (.tup ys) (.tup xs)
theorem HasV.frame {τ τ' : Store} {S : Nat → Prop} {y x : AV} (h : HasV τ S y x) : (∀ a, S a → τ'.get a = τ.get a) → HasV τ' S y x := by
  induction h with
  | c h => exact fun hf => .c (h.frame hf)
  | agg h => exact fun hf => .agg (h.frame hf)
  | tup U hl hU hd h ih => exact fun hf => .tup U hl hU hd fun i hy hx => ih i hy hx fun a ha => hf a (hU i a ha)
theorem HasV.mono' {τ : Store} {S S' : Nat → Prop} {y x : AV} (h : HasV τ S y x) (hS : ∀ a, S a → S' a) : HasV τ S' y x := by
  cases h with
  | c h => exact .c (h.mono hS)
  | agg h => exact .agg (h.mono hS)
  | tup U hl hU hd h => exact .tup U hl (fun i a ha => hS a (hU i a ha)) hd h
theorem HasL.frz {τ : Store} {S : Nat → Prop} {ys xs : List Ce} (h : HasL τ S ys xs) {n : Nat} (hn : ∀ a, S a → n ≤ a) : FrzV τ n (.agg xs) (.agg ys) := by
  obtain ⟨U, h1, h2, h3, h4⟩ := h
  exact .agg h1.symm fun i hi => (h4 i (by omega) hi).frz fun a ha => hn a (h2 i a ha)
theorem HasV.frz {τ : Store} {S : Nat → Prop} {y x : AV} (h : HasV τ S y x) : ∀ {n : Nat}, (∀ a, S a → n ≤ a) → FrzV τ n x y := by
  induction h with
  | c h => exact fun hn => .c (h.frz hn)
  | agg h => exact fun hn => h.frz hn
  | tup U hl hU hd h ih => exact fun hn => .tup hl.symm fun i hi => ih i (by omega) hi fun a ha => hn a (hU i a ha)
theorem HasV.tidy {τ : Store} {S : Nat → Prop} {y x : AV} (h : HasV τ S y x) {n : Nat} : (∀ a, S a → n ≤ a) → ∀ z ∈ x.all, Tidy n z := by
  induction h with
  | c h =>
    intro hn z hz
    simp [AV.all] at hz
    subst hz
    exact h.tidy hn
  | agg h =>
    intro hn z hz
    obtain ⟨U, h1, h2, h3, h4⟩ := h
    simp only [AV.all] at hz
    obtain ⟨j, hj, rfl⟩ := List.mem_iff_getElem.1 hz
    exact (h4 j (by omega) hj).tidy fun a ha => hn a (h2 j a ha)
  | tup U hl hU hd h ih =>
    intro hn z hz
    obtain ⟨i, hi, hz⟩ := mem_allL (by simpa only [AV.all] using hz)
    exact ih i (by omega) hi (fun a ha => hn a (hU i a ha)) z hz
theorem HasL.tidy {τ : Store} {S : Nat → Prop} {ys xs : List Ce} (h : HasL τ S ys xs) {n : Nat} (hn : ∀ a, S a → n ≤ a) : ∀ z ∈ xs, Tidy n z :=
  (HasV.agg h).tidy hn
theorem HasL.two {τ : Store} {S S' : Nat → Prop} {y x : Ce} {ys xs : List Ce} (h : Has τ S y x) (k : HasL τ S' ys xs) (hd : ∀ a, S a → ¬ S' a) : HasL τ (fun a => S a ∨ S' a) (y :: ys) (x :: xs) := by
  obtain ⟨U, h1, h2, h3, h4⟩ := k
  refine ⟨fun j a => (j = 0 ∧ S a) ∨ ∃ m, j = m + 1 ∧ U m a, by simp [h1], fun j a ha => ?_, fun j j' a h h' => ?_, fun j hy hx => ?_⟩
  · rcases ha with ⟨_, ha⟩ | ⟨m, _, ha⟩
    · exact .inl ha
    · exact .inr (h2 m a ha)
  · rcases h with ⟨c, h⟩ | ⟨m, c, h⟩ <;> rcases h' with ⟨c', h'⟩ | ⟨m', c', h'⟩
    · omega
    · exact absurd (h2 _ _ h') (hd a h)
    · exact absurd (h2 _ _ h) (hd a h')
    · have := h3 m m' a h h'
      omega
  · cases j with
    | zero => exact h.mono fun a ha => .inl ⟨rfl, ha⟩
    | succ j => exact (h4 j (by simpa using hy) (by simpa using hx)).mono fun a ha => .inr ⟨j, rfl, ha⟩
theorem HasL.nil {τ : Store} {S : Nat → Prop} : HasL τ S [] [] := ⟨fun _ _ => False, rfl, fun _ _ h => h.elim, fun _ _ _ h => h.elim, fun j hy => by simp at hy⟩
theorem HasV.pair {τ : Store} {S S1 S2 : Nat → Prop} {y1 x1 y2 x2 : AV} (h1 : HasV τ S1 y1 x1) (h2 : HasV τ S2 y2 x2) (s1 : ∀ a, S1 a → S a) (s2 : ∀ a, S2 a → S a) (hd : ∀ a, S1 a → ¬ S2 a) : HasV τ S (.tup [y1, y2]) (.tup [x1, x2]) := by
  refine .tup (fun i a => (i = 0 ∧ S1 a) ∨ (i = 1 ∧ S2 a)) rfl (fun i a ha => ?_) (fun i i' a h h' => ?_) (fun i hy hx => ?_)
  · rcases ha with ⟨_, ha⟩ | ⟨_, ha⟩
    · exact s1 a ha
    · exact s2 a ha
  · rcases h with ⟨c, h⟩ | ⟨c, h⟩ <;> rcases h' with ⟨c', h'⟩ | ⟨c', h'⟩
    · omega
    · exact absurd h' (hd a h)
    · exact absurd h (hd a h')
    · omega
  · match i, hy, hx with
    | 0, _, _ => exact h1.mono' fun a ha => .inl ⟨rfl, ha⟩
    | 1, _, _ => exact h2.mono' fun a ha => .inr ⟨rfl, ha⟩
/-- The call makes anew what reads as y. -/
def NewV (σ : Store) (y : AV) (r : AV) (τ : Store) : Prop := Gr σ τ ∧ HasV τ (fun a => σ.next ≤ a ∧ a < τ.next) y r
theorem New.v {σ τ : Store} {y : Ce} {r : AV} (h : New σ y r τ) : NewV σ (.c y) r τ := by
  obtain ⟨x, l, rfl, rfl, ht, hh⟩ := h
  exact ⟨⟨l, rfl, ht⟩, .c hh⟩
theorem NewV.n {σ τ : Store} {y : Ce} {r : AV} (h : NewV σ (.c y) r τ) : New σ y r τ := by
  obtain ⟨⟨l, rfl, ht⟩, hh⟩ := h
  cases hh with
  | c hh => exact ⟨_, l, rfl, rfl, ht, hh⟩
theorem NewL.v {σ τ : Store} {ys : List Ce} {r : AV} (h : NewL σ ys r τ) : NewV σ (.agg ys) r τ := by
  obtain ⟨x, l, rfl, rfl, ht, hh⟩ := h
  exact ⟨⟨l, rfl, ht⟩, .agg hh⟩
theorem NewV.l {σ τ : Store} {ys : List Ce} {r : AV} (h : NewV σ (.agg ys) r τ) : NewL σ ys r τ := by
  obtain ⟨⟨l, rfl, ht⟩, hh⟩ := h
  cases hh with
  | agg hh => exact ⟨_, l, rfl, rfl, ht, hh⟩
theorem NewV.pure {P : Program} {f : Nat} {args : List AV} {y : AV} (h : ∀ σ, Ok P f args σ (NewV σ y)) : Pure P f args y := by
  constructor
  intro σ
  refine .old' (h σ) fun hS ha => Ok.pure (h σ) y (fun id y hy => (hS id y hy).1) ?_
  rintro r σ1 ⟨hg, hh⟩
  exact ⟨fun id y hy => by rw [hg.lt (hS id y hy).1]; exact hy, hh.frz fun a ha => ha.1⟩
theorem E_inj {σ : Store} {l m : List (Nat × List (List Ce))} (h : E σ l = E σ m) : l = m := by
  refine List.ext_getElem? fun k => ?_
  have := congrArg (fun s => s.get (σ.next + k)) h
  simpa only [E_at] using this
theorem Ok.lentV {P : Program} {f : Nat} {args args' : List AV} {σ : Store} {y : AV} (h : ∀ σ, Ok P f args' σ (NewV σ y)) (hl : args'.length = args.length)
    (hf : ∀ i (hi : i < args.length), FrzV σ 0 args[i] (args'[i]'(by omega)) ∨ args[i] = args'[i]'(by omega)) : Ok P f args σ (NewV σ y) := by
  refine (Ok.lent (h (Store.none σ.next)) hl hf ?_).mono ?_
  · rintro r τ ⟨⟨l, rfl, ht⟩, hh⟩
    exact ⟨l, rfl, ht, hh.tidy fun a ha => ha.1⟩
  · rintro r σ' ⟨l, rfl, ⟨l', e, ht⟩, hh⟩
    obtain rfl := E_inj e
    refine ⟨⟨l, rfl, ht⟩, hh.frame fun a ha => ?_⟩
    have h1 : ¬ a < σ.next := by have := ha.1; exact Nat.not_lt.2 this
    rw [E_ge h1, E_ge (by exact h1)]
    rfl
/-- Arguments, some of them lent. -/
inductive Lend (σ : Store) : List AV → List AV → Prop where
  | nil : Lend σ [] []
  | own {x y : AV} {us bs : List AV} (h : FrzV σ 0 x y) (r : Lend σ us bs) : Lend σ (x :: us) (y :: bs)
  | same {a : AV} {us bs : List AV} (r : Lend σ us bs) : Lend σ (a :: us) (a :: bs)
theorem Lend.spec {σ : Store} {us bs : List AV} (h : Lend σ us bs) : ∃ hl : bs.length = us.length, ∀ i (hi : i < us.length), FrzV σ 0 us[i] (bs[i]'(by omega)) ∨ us[i] = bs[i]'(by omega) := by
  induction h with
  | nil => exact ⟨rfl, fun i hi => by simp at hi⟩
  | own h r ih =>
    obtain ⟨hl, hz⟩ := ih
    refine ⟨by simp [hl], fun i hi => ?_⟩
    cases i with
    | zero => exact .inl h
    | succ i => exact hz i (by simpa using hi)
  | same r ih =>
    obtain ⟨hl, hz⟩ := ih
    refine ⟨by simp [hl], fun i hi => ?_⟩
    cases i with
    | zero => exact .inr rfl
    | succ i => exact hz i (by simpa using hi)
theorem Lend.pure {P : Program} {σ : Store} {n : Nat} {args args' : List AV} {r : AV} (h : Lend σ args args') (hp : Pure P n args' r) (hs : Solid r) : Ok P n args σ (fun r' σ' => r' = r ∧ σ' = σ) :=
  let ⟨hl, hz⟩ := h.spec
  Ok.lend (hp.at_ _) hs hl hz
theorem Lend.new {P : Program} {σ : Store} {n : Nat} {args args' : List AV} {y : AV} (h : Lend σ args args') (hp : ∀ σ, Ok P n args' σ (NewV σ y)) : Ok P n args σ (NewV σ y) :=
  let ⟨hl, hz⟩ := h.spec
  Ok.lentV hp hl hz
theorem HasV.lend {τ : Store} {S : Nat → Prop} {y x : AV} (h : HasV τ S y x) : FrzV τ 0 x y := h.frz fun _ _ => Nat.zero_le _
section
variable {P : Program} {n0 nt : Nat} {rets : List RV} {R : AV → Store → Prop} {K : List AK} {fr : Fr} {σ : Store}
theorem Go.lcall {d : Option Nat} {f : Opd} {args : List Opd} {g : Option (Nat × Bool)} {rest : List AOper} {n : Nat} {pre cap : List Ce} {vs args' : List AV} {r : AV} (hw : wants fr g = some true) (hf : f.ev fr = some (.c (.fn n pre cap))) (ha : evs fr args = some vs)
    (hp : Pure P n args' r) (hs : Solid r) (hz : Lend σ (pre.map AV.c ++ vs ++ cap.map AV.c) args') (h : Go P n0 nt rets R (.ops rest :: K) (putA fr d r) σ) : Go P n0 nt rets R (.ops (⟨d, .call f args, g⟩ :: rest) :: K) fr σ :=
  .call _ hw hf ha (hz.pure hp hs) (by rintro r' σ' ⟨rfl, rfl⟩; exact h)
end
/-! ### A slice that grows by elements that own something -/
structure Grow (σ τ : Store) (s : Nat) (ys : List (List Ce)) (x : Ce) : Prop where
  gr : Gr σ τ
  row : Row τ (fun a => σ.next ≤ a ∧ a < τ.next) s ys x
theorem Grow.nils {σ τ : Store} {s : Nat} (h : Gr σ τ) : Grow σ τ s [] .nils := ⟨h, .nils⟩
theorem Grow.empty {σ : Store} {s : Nat} : Grow σ (E σ [(0, [])]) s [] (.sl (σ.next + 0) 0 0 0 0) :=
  ⟨⟨[(0, [])], rfl, fun b hb e he => by simp at hb; subst hb; simp at he⟩, .empty (v := 0) (by rw [E_at]; rfl) ⟨Nat.le_add_right _ _, by simp [E_next]⟩⟩
theorem Grow.v {σ τ : Store} {s : Nat} {ys : List (List Ce)} {x : Ce} (h : Grow σ τ s ys x) : NewV σ (.c (.fz ys)) (.c x) τ := ⟨h.gr, .c h.row.has⟩
section
variable {P : Program} {n0 nt : Nat} {rets : List RV} {R : AV → Store → Prop} {K : List AK} {fr : Fr} {σ : Store}
theorem Qc.pcall {Z : Fr → Store → Prop} {d : Option Nat} {f : Opd} {args : List Opd} {g : Option (Nat × Bool)} {rest : List AOper} {n : Nat} {pre cap : List Ce} {vs : List AV} {r : AV} (hw : wants fr g = some true) (hf : f.ev fr = some (.c (.fn n pre cap))) (ha : evs fr args = some vs)
    (hp : Pure P n (pre.map .c ++ vs ++ cap.map .c) r) (h : Qc P Z rest (putA fr d r) σ) : Qc P Z (⟨d, .call f args, g⟩ :: rest) fr σ :=
  .call _ hw hf ha (hp.at_ σ) (by rintro r' σ' ⟨rfl, rfl⟩; exact h)
theorem aop_grow {σ0 : Store} {n s bytes : Nat} {ys : List (List Ce)} {ye e : List Ce} {xc : Ce} {x y : Opd} (hx : x.ev fr = some (.c xc)) (hy : y.ev fr = some (.c (.fz [e]))) (hg : Gr σ0 σ) (hr : Row σ (fun a => σ0.next ≤ a ∧ a < n) s ys xc) (h0 : σ0.next ≤ n) (hn : n ≤ σ.next) (hch : HasL σ (fun a => n ≤ a ∧ a < σ.next) ye e)
    (hes : ye.length = s) (hb : (ys.length + 1) * bytes ≤ 140737488355328) : ∃ x' τ', aop (.app s bytes x y) fr σ = some (.c x', τ') ∧ Grow σ0 τ' s (ys ++ [ye]) x' := by
  obtain ⟨x', τ', h1, h2, h3, h4, h5⟩ := hr.push (fun a ha => by have := ha.2; omega) hch (fun a ha => ha.2) (fun a ha ha' => by have := ha.2; have := ha'.1; omega) hes hb
  refine ⟨x', τ', ?_, h5 σ0 hg (fun a ha => ha.1) (hch.tidy fun a ha => by have := ha.1; omega), h4.mono fun a ha => ?_⟩
  · simp only [aop, hx, hy, Store.els, Option.bind_some, h1, Option.map_some]
  · rcases ha with ha | ha | ha <;> have := ha.1 <;> have := ha.2 <;> constructor <;> omega
theorem Go.grow {σ0 : Store} {d : Option Nat} {g : Option (Nat × Bool)} {rest : List AOper} {n s bytes : Nat} {ys : List (List Ce)} {ye e : List Ce} {xc : Ce} {x y : Opd} (hw : wants fr g = some true) (hx : x.ev fr = some (.c xc)) (hy : y.ev fr = some (.c (.fz [e]))) (hg : Gr σ0 σ ∧ Row σ (fun a => σ0.next ≤ a ∧ a < n) s ys xc) (h0 : σ0.next ≤ n) (hn : n ≤ σ.next) (hch : HasL σ (fun a => n ≤ a ∧ a < σ.next) ye e)
    (hes : ye.length = s) (hb : (ys.length + 1) * bytes ≤ 140737488355328) (h : ∀ x' τ', Grow σ0 τ' s (ys ++ [ye]) x' → Go P n0 nt rets R (.ops rest :: K) (putA fr d (.c x')) τ') : Go P n0 nt rets R (.ops (⟨d, .op (.app s bytes x y), g⟩ :: rest) :: K) fr σ :=
  let ⟨_, _, h1, h2⟩ := aop_grow (bytes := bytes) hx hy hg.1 hg.2 h0 hn hch hes hb
  .op hw h1 (h _ _ h2)
end
end Go.Proofs.YtcfpdongfdhgjaaGreat.Am

/- The law FnExactRange: its function returns true. -/
set_option linter.unusedVariables false
set_option linter.unusedSimpArgs false
namespace Go.Proofs.YtcfpdongfdhgjaaGreat.Am

theorem flatI (xs : List Int) : ∀ e ∈ xs.map encI, e.length = 1 ∧ ∀ x ∈ e, Flat x := by
  intro e he
  obtain ⟨a, _, rfl⟩ := List.mem_map.1 he
  refine ⟨rfl, fun x hx => ?_⟩
  simp only [encI, List.mem_cons, List.not_mem_nil, or_false] at hx
  subst hx
  exact .int _ _
theorem eqInt64S_ok (xs ys : List Int) (hx : xs.length ≤ 34359738368) : Pure Tryz.prog 27 [.c (.fz (xs.map encI)), .c (.fz (ys.map encI))] (.c (.bool (xs == ys))) := by
  refine Pure.run mixed c_laws_eqInt64S_ok (Nat.le_of_ble_eq_true rfl) fun σ hS hA => ?_
  clear hS hA
  repeat' first | (apply Go.adm; exact rfl) | apply Go.qs | apply Qg.nil | ((first | apply Go.v2 | apply Go.v1); (first | exact leAdd | assumption); iterate 6 exact rfl) | ((first | apply Go.op | apply Go.sop | apply Qg.op); exact rfl; (first | exact aop_alloc | exact aop_new rfl rfl | exact aop_mksl rfl | exact aop_lenM rfl | exact rfl | exact aL rfl rfl rfl rfl rfl | exact aS rfl rfl rfl rfl rfl rfl rfl)) | ((first | apply Go.no | apply Go.sno | apply Qg.no); exact rfl) | (exfalso; omega) | (((first | apply Go.iQ | apply Go.gQ | apply Go.sQ | apply Qg.gQ); exact rfl; (first | exact .d | exact .e | exact .n | ((fail_if_success exact bqt); (fail_if_success exact bqf); exact .b))) <;> intro _)
  · refine .ret rfl (.bool ?_)
    rw [eq_comm, beq_eq_false_iff_ne]
    rintro rfl
    simp at *
  refine Go.keep [0, 1, 5] (Go.loops (I := fun m fr τ => ∃ i : Nat, ∃ n : Int, m = xs.length - i ∧ i ≤ xs.length ∧ n = i ∧ (xs.length = ys.length ∧ (xs == ys) = (xs.drop i == ys.drop i)) ∧
    fr = [(0, .c (.fz (xs.map encI))), (1, .c (.fz (ys.map encI))), (5, .c (.int .i64 n))] ∧ τ = E σ []) ?_ _ _ _ ⟨0, _, rfl, Nat.zero_le _, rfl, ⟨by omega, rfl⟩, rfl, rfl⟩)
  rintro m fr τ ⟨i, n, rfl, hi, hn, ⟨hl, hsl⟩, rfl, rfl⟩ hrec
  by_cases hlt : i < xs.length
  · have hlt2 : i < ys.length := by omega
    repeat' first | (apply Go.adm; exact rfl) | apply Go.qs | apply Qg.nil | ((first | apply Go.v2 | apply Go.v1); (first | exact leAdd | assumption); iterate 6 exact rfl) | ((first | apply Go.op | apply Go.sop | apply Qg.op); exact rfl; (first | exact aop_alloc | exact aop_new rfl rfl | exact aop_mksl rfl | exact aop_lenM rfl | exact rfl | exact aL rfl rfl rfl rfl rfl | exact aS rfl rfl rfl rfl rfl rfl rfl | exact aop_iaddrM (enc := encI) rfl rfl hn hlt rfl | exact aop_iaddrM (enc := encI) rfl rfl hn hlt2 rfl)) | ((first | apply Go.no | apply Go.sno | apply Qg.no); exact rfl) | (exfalso; omega) | (((first | apply Go.iQ | apply Go.gQ | apply Go.sQ | apply Qg.gQ); exact rfl; (first | exact .d | exact .e | exact .n | ((fail_if_success exact bqt); (fail_if_success exact bqf); exact .b))) <;> intro _)
    · refine .ret rfl (.bool ?_)
      rw [hsl, List.drop_eq_getElem_cons hlt, List.drop_eq_getElem_cons hlt2, List.cons_beq_cons]
      clear hrec
      simp_all
    · refine Go.keep [0, 1, 5] (hrec _ _ _ (by omega) ⟨i + 1, _, rfl, hlt, wrap_succ hn (by omega), ⟨hl, ?_⟩, rfl, rfl⟩)
      rw [hsl, List.drop_eq_getElem_cons hlt, List.drop_eq_getElem_cons hlt2, List.cons_beq_cons]
      clear hrec
      simp_all
  · repeat' first | (apply Go.adm; exact rfl) | apply Go.qs | apply Qg.nil | ((first | apply Go.v2 | apply Go.v1); (first | exact leAdd | assumption); iterate 6 exact rfl) | ((first | apply Go.op | apply Go.sop | apply Qg.op); exact rfl; (first | exact aop_alloc | exact aop_new rfl rfl | exact aop_mksl rfl | exact aop_lenM rfl | exact rfl | exact aL rfl rfl rfl rfl rfl | exact aS rfl rfl rfl rfl rfl rfl rfl)) | ((first | apply Go.no | apply Go.sno | apply Qg.no); exact rfl) | (exfalso; omega) | (((first | apply Go.iQ | apply Go.gQ | apply Go.sQ | apply Qg.gQ); exact rfl; (first | exact .d | exact .e | exact .n | ((fail_if_success exact bqt); (fail_if_success exact bqf); exact .b))) <;> intro _)
    refine .ret rfl (.bool ?_)
    rw [hsl, List.drop_eq_nil_of_le (by omega), List.drop_eq_nil_of_le (by omega)]
    rfl
end Go.Proofs.YtcfpdongfdhgjaaGreat.Am

/- The abstract machine, part 29: slices.Clone, once for all types. -/
set_option linter.unusedVariables false
set_option linter.unusedSimpArgs false
namespace Go.Proofs.YtcfpdongfdhgjaaGreat.Am

/-- What a clone is. -/
def Cloned (σ : Store) (s : Nat) (ys : List (List Ce)) (r : AV) (τ : Store) : Prop := (ys = [] ∧ r = .c .nils ∧ τ = E σ []) ∨ Made σ s ys r τ
theorem Cloned.new {σ τ : Store} {s : Nat} {ys : List (List Ce)} {r : AV} (h : Cloned σ s ys r τ) (hy : ∀ e ∈ ys, e.length = s ∧ ∀ x ∈ e, Flat x) : NewV σ (.c (.fz ys)) r τ := by
  rcases h with ⟨rfl, rfl, rfl⟩ | h
  · exact ⟨.start σ, .c .nil⟩
  · exact (Made.new hy h).v

/-! ### Freezing in the middle -/
/-- A frame some of whose values are known as frozen ones. -/
inductive FrzFr (τ : Store) (n : Nat) (fr : Fr) : Fr → Prop where
  | nil : FrzFr τ n fr []
  | frz {t : Nat} {y x : AV} {r : Fr} (hl : look fr t = some y) (h : FrzV τ n y x) (k : FrzFr τ n fr r) : FrzFr τ n fr ((t, x) :: r)
theorem FrzFr.at_ {τ : Store} {n : Nat} {fr fr' : Fr} (h : FrzFr τ n fr fr') : ∀ t x, look fr' t = some x → ∃ y, look fr t = some y ∧ FrzV τ n y x := by
  induction h with
  | nil => intro t x hx; simp [look] at hx
  | @frz t0 y x0 r hl hz k ih =>
    intro t x hx
    simp only [look] at hx
    split at hx
    · rename_i e
      subst e
      injection hx with hx
      subst hx
      exact ⟨y, hl, hz⟩
    · exact ih t x hx
/-! ### Slices of an owned slice -/
section
variable {fr : Fr} {σ : Store}
theorem aop_slice {s id v b n c : Nat} {x : Opd} {lo hi mx : Option Opd} {lo' hi' mx' : Option AV} {l h m : Nat} {es : List (List Ce)} (hx : x.ev fr = some (.c (.sl id v b n c))) (h1 : evo fr lo = some lo') (h2 : evo fr hi = some hi') (h3 : evo fr mx = some mx') (hl : bound 0 lo' = some l) (hh : bound n hi' = some h) (hm : bound c mx' = some m)
    (hg : σ.get id = some (v, es)) (hs : ∀ e ∈ es, e.length = s) (hlh : l ≤ h) (hhm : h ≤ m) (hmc : m ≤ c) : aop (.slice s x lo hi mx) fr σ = some (.c (.sl id v (b + l) (h - l) (m - l)), σ) := by
  have : sliceA σ s (.sl id v b n c) lo' hi' mx' = some (.sl id v (b + l) (h - l) (m - l)) := by
    simp only [sliceA, hl, hh, hm, hg]
    exact if_pos ⟨trivial, hs, hlh, hhm, hmc⟩
  simp only [aop, hx, h1, h2, h3, this, Option.map_some]
end

/-! ### slices.Delete, once for all types -/
end Go.Proofs.YtcfpdongfdhgjaaGreat.Am

/- The abstract machine, part 30: slices.IndexFunc, ContainsFunc, Index, Contains, once for all types. -/
set_option linter.unusedVariables false
set_option linter.unusedSimpArgs false
namespace Go.Proofs.YtcfpdongfdhgjaaGreat.Am

def indexFuncCode (g : Bool) (s : Nat) : AFn := ⟨19, [.t 4], (.seq (.region [⟨some 4, .op (.mv (.k (.int .i64 0))), none⟩]) (.seq (.seq (.region [⟨some 6, .op (.mv (.t 0)), none⟩, ⟨some 7, .op (.len false (.t 6)), none⟩, ⟨some 8, .op (.mv (.k (.int .i64 0))), none⟩]) (.block 0 (.loop (.seq (.region [⟨some 9, .op (.bin .lss (.t 8) (.t 7)), none⟩]) (.seq (.cond (.t 9) .skip (.exit 0)) (.seq (.block 1 (.seq (.region [⟨some 10, .op (.mv (.t 8)), none⟩, ⟨some 5, .op (.mv (.t 10)), none⟩]) (.seq (.region [⟨some 11, .op (.mv (.t 1)), none⟩, ⟨some 12, .op (.mv (.t 0)), none⟩, ⟨some 13, .op (.mv (.t 5)), none⟩, ⟨some 14, .op (.iaddr s (.t 12) (.t 13)), none⟩, ⟨some 15, .op (.load g s (.t 14)), none⟩, ⟨some 16, .call (.t 11) [(.t 15)], none⟩]) (.cond (.t 16) (.seq (.region [⟨some 17, .op (.mv (.t 5)), none⟩, ⟨some 4, .op (.mv (.t 17)), none⟩]) .ret) .skip)))) (.region [⟨some 18, .op (.bin .add (.t 8) (.k (.int .i64 1))), none⟩, ⟨some 8, .op (.mv (.t 18)), none⟩]))))))) (.seq (.region [⟨some 4, .op (.mv (.k (.int .i64 (-1)))), none⟩]) .ret)))⟩
def idxA {α : Type} (p : α → Bool) : List α → Int → Int
  | [], _ => -1
  | a :: r, i => if p a then i else idxA p r (i + 1)
theorem idxA_any {α : Type} {p : α → Bool} : ∀ {l : List α} {i : Int}, 0 ≤ i → (l.any p = true ↔ 0 ≤ idxA p l i)
  | [], i, h => by simp [idxA]
  | a :: r, i, h => by
    have := idxA_any (p := p) (l := r) (i := i + 1) (by omega)
    simp only [List.any_cons, idxA]
    cases p a
    · simp only [Bool.false_or, Bool.false_eq_true, if_false]; exact this
    · simp [h]
theorem aop_loadG {fr : Fr} {σ : Store} {g : Bool} {s : Nat} {a : Opd} {cs : List Ce} {v : AV} (ha : a.ev fr = some (.c (.fp cs))) (h : takeA g s cs = some v) : aop (.load g s a) fr σ = some (v, σ) := by
  simp [aop, ha, Store.at_, h]
theorem indexFuncA_ok {P : Program} (hm : P.follows .mixedOrders = true) {fz : List Nat} {n s : Nat} {g : Bool} (hc : compFn P fz n = some (indexFuncCode g s)) {α : Type} (enc : α → List Ce) (arg : α → AV) (hs : ∀ a, (enc a).length = s) (harg : ∀ a, takeA g s (enc a) = some (arg a)) (l : List α) (p : α → Bool) (f : Nat) (pre cap : List Ce) (hx : l.length ≤ 34359738368)
    (hp : ∀ i (hi : i < l.length), (∀ j (hj : j < i), p (l[j]'(by omega)) = false) → Pure P f (pre.map .c ++ [arg l[i]] ++ cap.map .c) (.c (.bool (p l[i])))) : Pure P n [.c (.fz (l.map enc)), .c (.fn f pre cap)] (.c (.int .i64 (idxA p l 0))) := by
  refine Pure.run hm hc (Nat.le_of_ble_eq_true rfl) fun σ hS hA => ?_
  clear hS hA
  repeat' first | (apply Go.adm; exact rfl) | apply Go.qs | apply Qg.nil | ((first | apply Go.v2 | apply Go.v1); (first | exact leAdd | assumption); iterate 6 exact rfl) | ((first | apply Go.op | apply Go.sop | apply Qg.op); exact rfl; (first | exact aop_alloc | exact aop_new rfl rfl | exact aop_mksl rfl | exact aop_lenM rfl | exact rfl | exact aL rfl rfl rfl rfl rfl | exact aS rfl rfl rfl rfl rfl rfl rfl)) | ((first | apply Go.no | apply Go.sno | apply Qg.no); exact rfl) | (exfalso; omega) | (((first | apply Go.iQ | apply Go.gQ | apply Go.sQ | apply Qg.gQ); exact rfl; (first | exact .d | exact .e | exact .n | ((fail_if_success exact bqt); (fail_if_success exact bqf); exact .b))) <;> intro _)
  refine Go.keep [0, 1, 7, 8] (Go.loops (I := fun m fr τ => ∃ i : Nat, ∃ k : Int, m = l.length - i ∧ i ≤ l.length ∧ k = i ∧ (idxA p l 0 = idxA p (l.drop i) k ∧ ∀ j (hj : j < i) (hl : j < l.length), p l[j] = false) ∧
    fr = [(0, .c (.fz (l.map enc))), (1, .c (.fn f pre cap)), (7, .c (.int .i64 (l.length : Int))), (8, .c (.int .i64 k))] ∧ τ = E σ []) ?_ _ _ _ ⟨0, _, rfl, Nat.zero_le _, rfl, ⟨rfl, fun j hj => by omega⟩, rfl, rfl⟩)
  rintro m fr τ ⟨i, k, rfl, hi, hn, ⟨hsl, hno⟩, rfl, rfl⟩ hrec
  by_cases hlt : i < l.length
  · repeat' first | (apply Go.adm; exact rfl) | apply Go.qs | apply Qg.nil | ((first | apply Go.v2 | apply Go.v1); (first | exact leAdd | assumption); iterate 6 exact rfl) | ((first | apply Go.op | apply Go.sop | apply Qg.op); exact rfl; (first | exact aop_alloc | exact aop_new rfl rfl | exact aop_mksl rfl | exact aop_lenM rfl | exact rfl | exact aL rfl rfl rfl rfl rfl | exact aS rfl rfl rfl rfl rfl rfl rfl | exact aop_iaddrM (enc := enc) rfl rfl hn hlt (hs _) | exact aop_loadG rfl (harg l[i]))) | ((first | apply Go.no | apply Go.sno | apply Qg.no); exact rfl) | ((first | apply Go.pcallB | apply Go.spcallB | apply Qg.pcallB); (iterate 3 exact rfl); exact hp i hlt (fun j hj => hno j hj (by omega)); intro _ _) | (exfalso; omega) | (((first | apply Go.iQ | apply Go.gQ | apply Go.sQ | apply Qg.gQ); exact rfl; (first | exact .d | exact .e | exact .n | ((fail_if_success exact bqt); (fail_if_success exact bqf); exact .b))) <;> intro _)
    · refine .ret rfl (.int ?_)
      rw [hsl, List.drop_eq_getElem_cons hlt, idxA, if_pos (by simp_all)]
    · rename_i b hb h
      refine Go.keep [0, 1, 7, 8] (hrec _ _ _ (by omega) ⟨i + 1, _, rfl, hlt, wrap_succ hn (by omega), ⟨?_, fun j hj hl => ?_⟩, rfl, rfl⟩)
      · rw [hsl, List.drop_eq_getElem_cons hlt, idxA, if_neg (by rw [hb, h]; simp), wrap64 (by omega) (by omega)]
      · by_cases e : j = i
        · subst e; rw [hb, h]
        · exact hno j (by omega) hl
  · repeat' first | (apply Go.adm; exact rfl) | apply Go.qs | apply Qg.nil | ((first | apply Go.v2 | apply Go.v1); (first | exact leAdd | assumption); iterate 6 exact rfl) | ((first | apply Go.op | apply Go.sop | apply Qg.op); exact rfl; (first | exact aop_alloc | exact aop_new rfl rfl | exact aop_mksl rfl | exact aop_lenM rfl | exact rfl | exact aL rfl rfl rfl rfl rfl | exact aS rfl rfl rfl rfl rfl rfl rfl)) | ((first | apply Go.no | apply Go.sno | apply Qg.no); exact rfl) | (exfalso; omega) | (((first | apply Go.iQ | apply Go.gQ | apply Go.sQ | apply Qg.gQ); exact rfl; (first | exact .d | exact .e | exact .n | ((fail_if_success exact bqt); (fail_if_success exact bqf); exact .b))) <;> intro _)
    refine .ret rfl (.int ?_)
    rw [hsl, List.drop_eq_nil_of_le (by omega)]
    rfl
def containsFuncCode (f : Nat) : AFn := ⟨9, [.t 4], (.seq (.region [⟨some 4, .op (.mv (.k (.bool false))), none⟩]) (.seq (.region [⟨some 5, .op (.mv (.t 0)), none⟩, ⟨some 6, .op (.mv (.t 1)), none⟩, ⟨some 7, .call (.f f) [(.t 5), (.t 6)], none⟩, ⟨some 8, .op (.bin .geq (.t 7) (.k (.int .i64 0))), none⟩, ⟨some 4, .op (.mv (.t 8)), none⟩]) .ret))⟩
theorem any_idx {α : Type} {p : α → Bool} {l : List α} : decide (0 ≤ idxA p l 0) = l.any p := by
  have := idxA_any (p := p) (l := l) (i := 0) (by omega)
  cases h : l.any p
  · rw [decide_eq_false_iff_not, ← this, h]; simp
  · rw [decide_eq_true_iff, ← this, h]
theorem containsFuncA_ok {P : Program} (hm : P.follows .mixedOrders = true) {fz fz' : List Nat} {n n' s : Nat} {g : Bool} (hc : compFn P fz n = some (containsFuncCode n')) (hc' : compFn P fz' n' = some (indexFuncCode g s)) {α : Type} (enc : α → List Ce) (arg : α → AV) (hs : ∀ a, (enc a).length = s) (harg : ∀ a, takeA g s (enc a) = some (arg a)) (l : List α) (p : α → Bool) (f : Nat) (pre cap : List Ce) (hx : l.length ≤ 34359738368)
    (hp : ∀ i (hi : i < l.length), (∀ j (hj : j < i), p (l[j]'(by omega)) = false) → Pure P f (pre.map .c ++ [arg l[i]] ++ cap.map .c) (.c (.bool (p l[i])))) : Pure P n [.c (.fz (l.map enc)), .c (.fn f pre cap)] (.c (.bool (l.any p))) := by
  refine Pure.run hm hc (Nat.le_of_ble_eq_true rfl) fun σ hS hA => ?_
  clear hS hA
  repeat' first | (apply Go.adm; exact rfl) | apply Go.qs | apply Qg.nil | ((first | apply Go.v2 | apply Go.v1); (first | exact leAdd | assumption); iterate 6 exact rfl) | ((first | apply Go.op | apply Go.sop | apply Qg.op); exact rfl; (first | exact aop_alloc | exact aop_new rfl rfl | exact aop_mksl rfl | exact aop_lenM rfl | exact rfl | exact aL rfl rfl rfl rfl rfl | exact aS rfl rfl rfl rfl rfl rfl rfl)) | ((first | apply Go.no | apply Go.sno | apply Qg.no); exact rfl) | ((first | apply Go.pcall | apply Go.spcall | apply Qg.pcall); (iterate 3 exact rfl); exact indexFuncA_ok hm hc' enc arg hs harg l p f pre cap hx hp) | (exfalso; omega) | (((first | apply Go.iQ | apply Go.gQ | apply Go.sQ | apply Qg.gQ); exact rfl; (first | exact .d | exact .e | exact .n | ((fail_if_success exact bqt); (fail_if_success exact bqf); exact .b))) <;> intro _)
  exact .ret rfl (.bool any_idx)
/-- slices.Index and Contains of numbers. -/
def indexIntCode : AFn := ⟨19, [.t 4], (.seq (.region [⟨some 4, .op (.mv (.k (.int .i64 0))), none⟩]) (.seq (.seq (.region [⟨some 6, .op (.mv (.t 0)), none⟩, ⟨some 7, .op (.len false (.t 6)), none⟩, ⟨some 8, .op (.mv (.k (.int .i64 0))), none⟩]) (.block 0 (.loop (.seq (.region [⟨some 9, .op (.bin .lss (.t 8) (.t 7)), none⟩]) (.seq (.cond (.t 9) .skip (.exit 0)) (.seq (.block 1 (.seq (.region [⟨some 10, .op (.mv (.t 8)), none⟩, ⟨some 5, .op (.mv (.t 10)), none⟩]) (.seq (.region [⟨some 11, .op (.mv (.t 1)), none⟩, ⟨some 12, .op (.mv (.t 0)), none⟩, ⟨some 13, .op (.mv (.t 5)), none⟩, ⟨some 14, .op (.iaddr 1 (.t 12) (.t 13)), none⟩, ⟨some 15, .op (.load false 1 (.t 14)), none⟩, ⟨some 16, .op (.bin .eql (.t 11) (.t 15)), none⟩]) (.cond (.t 16) (.seq (.region [⟨some 17, .op (.mv (.t 5)), none⟩, ⟨some 4, .op (.mv (.t 17)), none⟩]) .ret) .skip)))) (.region [⟨some 18, .op (.bin .add (.t 8) (.k (.int .i64 1))), none⟩, ⟨some 8, .op (.mv (.t 18)), none⟩]))))))) (.seq (.region [⟨some 4, .op (.mv (.k (.int .i64 (-1)))), none⟩]) .ret)))⟩
theorem indexInt_ok {P : Program} (hm : P.follows .mixedOrders = true) {fz : List Nat} {n : Nat} (hc : compFn P fz n = some indexIntCode) (l : List Int) (v : Int) (hx : l.length ≤ 34359738368) : Pure P n [.c (.fz (l.map fun n => [.int .i64 n])), .c (.int .i64 v)] (.c (.int .i64 (idxA (fun a => v == a) l 0))) := by
  refine Pure.run hm hc (Nat.le_of_ble_eq_true rfl) fun σ hS hA => ?_
  clear hS hA
  repeat' first | (apply Go.adm; exact rfl) | apply Go.qs | apply Qg.nil | ((first | apply Go.v2 | apply Go.v1); (first | exact leAdd | assumption); iterate 6 exact rfl) | ((first | apply Go.op | apply Go.sop | apply Qg.op); exact rfl; (first | exact aop_alloc | exact aop_new rfl rfl | exact aop_mksl rfl | exact aop_lenM rfl | exact rfl | exact aL rfl rfl rfl rfl rfl | exact aS rfl rfl rfl rfl rfl rfl rfl)) | ((first | apply Go.no | apply Go.sno | apply Qg.no); exact rfl) | (exfalso; omega) | (((first | apply Go.iQ | apply Go.gQ | apply Go.sQ | apply Qg.gQ); exact rfl; (first | exact .d | exact .e | exact .n | ((fail_if_success exact bqt); (fail_if_success exact bqf); exact .b))) <;> intro _)
  refine Go.keep [0, 1, 7, 8] (Go.loops (I := fun m fr τ => ∃ i : Nat, ∃ k : Int, m = l.length - i ∧ i ≤ l.length ∧ k = i ∧ idxA (fun a => v == a) l 0 = idxA (fun a => v == a) (l.drop i) k ∧
    fr = [(0, .c (.fz (l.map fun n => [.int .i64 n]))), (1, .c (.int .i64 v)), (7, .c (.int .i64 (l.length : Int))), (8, .c (.int .i64 k))] ∧ τ = E σ []) ?_ _ _ _ ⟨0, _, rfl, Nat.zero_le _, rfl, rfl, rfl, rfl⟩)
  rintro m fr τ ⟨i, k, rfl, hi, hn, hsl, rfl, rfl⟩ hrec
  by_cases hlt : i < l.length
  · repeat' first | (apply Go.adm; exact rfl) | apply Go.qs | apply Qg.nil | ((first | apply Go.v2 | apply Go.v1); (first | exact leAdd | assumption); iterate 6 exact rfl) | ((first | apply Go.op | apply Go.sop | apply Qg.op); exact rfl; (first | exact aop_alloc | exact aop_new rfl rfl | exact aop_mksl rfl | exact aop_lenM rfl | exact rfl | exact aL rfl rfl rfl rfl rfl | exact aS rfl rfl rfl rfl rfl rfl rfl | exact aop_iaddrM (enc := fun n => [.int .i64 n]) rfl rfl hn hlt rfl)) | ((first | apply Go.no | apply Go.sno | apply Qg.no); exact rfl) | (exfalso; omega) | (((first | apply Go.iQ | apply Go.gQ | apply Go.sQ | apply Qg.gQ); exact rfl; (first | exact .d | exact .e | exact .n | ((fail_if_success exact bqt); (fail_if_success exact bqf); exact .b))) <;> intro _)
    · refine .ret rfl (.int ?_)
      rw [hsl, List.drop_eq_getElem_cons hlt, idxA, if_pos (by simp_all)]
    · rename_i h
      refine Go.keep [0, 1, 7, 8] (hrec _ _ _ (by omega) ⟨i + 1, _, rfl, hlt, wrap_succ hn (by omega), ?_, rfl, rfl⟩)
      rw [hsl, List.drop_eq_getElem_cons hlt, idxA, if_neg (by simpa using h), wrap64 (by omega) (by omega)]
  · repeat' first | (apply Go.adm; exact rfl) | apply Go.qs | apply Qg.nil | ((first | apply Go.v2 | apply Go.v1); (first | exact leAdd | assumption); iterate 6 exact rfl) | ((first | apply Go.op | apply Go.sop | apply Qg.op); exact rfl; (first | exact aop_alloc | exact aop_new rfl rfl | exact aop_mksl rfl | exact aop_lenM rfl | exact rfl | exact aL rfl rfl rfl rfl rfl | exact aS rfl rfl rfl rfl rfl rfl rfl)) | ((first | apply Go.no | apply Go.sno | apply Qg.no); exact rfl) | (exfalso; omega) | (((first | apply Go.iQ | apply Go.gQ | apply Go.sQ | apply Qg.gQ); exact rfl; (first | exact .d | exact .e | exact .n | ((fail_if_success exact bqt); (fail_if_success exact bqf); exact .b))) <;> intro _)
    refine .ret rfl (.int ?_)
    rw [hsl, List.drop_eq_nil_of_le (by omega)]
    rfl
theorem containsInt_ok {P : Program} (hm : P.follows .mixedOrders = true) {fz fz' : List Nat} {n n' : Nat} (hc : compFn P fz n = some (containsFuncCode n')) (hc' : compFn P fz' n' = some indexIntCode) (l : List Int) (v : Int) (hx : l.length ≤ 34359738368) : Pure P n [.c (.fz (l.map fun n => [.int .i64 n])), .c (.int .i64 v)] (.c (.bool (l.any fun a => v == a))) := by
  refine Pure.run hm hc (Nat.le_of_ble_eq_true rfl) fun σ hS hA => ?_
  clear hS hA
  repeat' first | (apply Go.adm; exact rfl) | apply Go.qs | apply Qg.nil | ((first | apply Go.v2 | apply Go.v1); (first | exact leAdd | assumption); iterate 6 exact rfl) | ((first | apply Go.op | apply Go.sop | apply Qg.op); exact rfl; (first | exact aop_alloc | exact aop_new rfl rfl | exact aop_mksl rfl | exact aop_lenM rfl | exact rfl | exact aL rfl rfl rfl rfl rfl | exact aS rfl rfl rfl rfl rfl rfl rfl)) | ((first | apply Go.no | apply Go.sno | apply Qg.no); exact rfl) | ((first | apply Go.pcall | apply Go.spcall | apply Qg.pcall); (iterate 3 exact rfl); exact indexInt_ok hm hc' l v hx) | (exfalso; omega) | (((first | apply Go.iQ | apply Go.gQ | apply Go.sQ | apply Qg.gQ); exact rfl; (first | exact .d | exact .e | exact .n | ((fail_if_success exact bqt); (fail_if_success exact bqf); exact .b))) <;> intro _)
  exact .ret rfl (.bool any_idx)
end Go.Proofs.YtcfpdongfdhgjaaGreat.Am

/- The laws' helpers on types, printed by a program: Tok, Check, Unique, Fk, Col. -/
set_option linter.unusedVariables false
set_option linter.unusedSimpArgs false
namespace Go.Proofs.YtcfpdongfdhgjaaGreat.Am
/-- Sizes taken off one behind the other. -/
def chain : List (Int → Int) → Int → Int
  | [], l => l
  | f :: r, l => if f l < 0 then -1 else chain r (f l)
inductive Steps : List (Int → Int) → Prop where
  | nil : Steps []
  | cons {f : Int → Int} {r : List (Int → Int)} (h : ∀ l, 0 ≤ l → f l ≤ l) (k : Steps r) : Steps (f :: r)
theorem chain_le {fs : List (Int → Int)} (h : Steps fs) : ∀ l, 0 ≤ l → chain fs l ≤ l := by
  induction h with
  | nil => intro l _; exact Int.le_refl _
  | @cons f0 r h _ ih =>
    intro l hl
    simp only [chain]
    split
    · omega
    · have := h l hl
      have := ih (f0 l) (by omega)
      omega
theorem chain_all {fs : List (Int → Int)} (h : Steps fs) : ∀ l, 0 ≤ l → 0 ≤ chain fs l → ∀ f ∈ fs, ∃ q, 0 ≤ q ∧ q ≤ l ∧ 0 ≤ f q := by
  induction h with
  | nil => intro l _ _ f hf; simp at hf
  | @cons f0 r h _ ih =>
    intro l hl hc f hf
    simp only [chain] at hc
    split at hc
    · omega
    · rename_i h0
      rcases List.mem_cons.1 hf with rfl | hf
      · exact ⟨l, hl, Int.le_refl _, by omega⟩
      · obtain ⟨q, h1, h2, h3⟩ := ih _ (by omega) hc f hf
        have := h l hl
        exact ⟨q, h1, by omega, h3⟩
theorem step_str (s : List UInt8) : ∀ l : Int, 0 ≤ l → l - s.length ≤ l := fun l _ => by omega
def zI (xs : List Int) (l : Int) : Int := if l - xs.length < 0 then -1 else l - xs.length
theorem step_ints (xs : List Int) : ∀ l : Int, 0 ≤ l → zI xs l ≤ l := fun l _ => by
  simp only [zI]
  split <;> omega
def bV (N : Nat) (v : Val) : Prop := v.s.length ≤ N
theorem bV_of {v : Val} {l : Int} {N : Nat} (h : 0 ≤ szV v l) (hl : l ≤ N) : bV N v := by
  simp only [szV] at h
  simp only [bV]
  split at h <;> omega
theorem ints_of {xs : List Int} {l : Int} {N : Nat} (h : 0 ≤ zI xs l) (hl : l ≤ N) : xs.length ≤ N := by
  simp only [zI] at h
  split at h <;> omega
theorem list_of {α : Type} {g : α → Int → Int} {b : Nat → α → Prop} (hg : ∀ a l, 0 ≤ l → g a l ≤ l) (hb : ∀ a l (N : Nat), 0 ≤ l → 0 ≤ g a l → l ≤ N → b N a) {xs : List α} {l : Int} {N : Nat} (h0 : 0 ≤ l) (h : 0 ≤ szL g xs l) (hl : l ≤ N) : xs.length ≤ N ∧ ∀ x ∈ xs, b N x := by
  obtain ⟨h1, h2⟩ := szL_mem hg (xs := xs) (left := l) h0 h
  refine ⟨by omega, fun x hx => ?_⟩
  obtain ⟨q, a, b, c⟩ := h2 x hx
  exact hb x q N a c (by omega)
theorem szInt64S_ok (xs : List Int) (left : Int) (hx : xs.length ≤ 1125899906842624) (h0 : 0 ≤ left) (h1 : left ≤ 34359738368) : Pure Tryz.prog 154 [.c (.fz (xs.map encI)), .c (.int .i64 left)] (.c (.int .i64 (zI xs left))) := by
  refine Pure.run mixed c_laws_szInt64S_ok (Nat.le_of_ble_eq_true rfl) fun σ hS hA => ?_
  clear hS hA
  have hw : IntKind.i64.wrap (left - xs.length) = left - xs.length := wrap64 (by omega) (by omega)
  repeat' first | (apply Go.adm; exact rfl) | apply Go.qs | apply Qg.nil | ((first | apply Go.v2 | apply Go.v1); (first | exact leAdd | assumption); iterate 6 exact rfl) | ((first | apply Go.op | apply Go.sop | apply Qg.op); exact rfl; (first | exact aop_alloc | exact aop_new rfl rfl | exact aop_mksl rfl | exact aop_lenM rfl | exact rfl | exact aL rfl rfl rfl rfl rfl | exact aS rfl rfl rfl rfl rfl rfl rfl)) | ((first | apply Go.no | apply Go.sno | apply Qg.no); exact rfl) | (exfalso; omega) | (((first | apply Go.iQ | apply Go.gQ | apply Go.sQ | apply Qg.gQ); exact rfl; (first | exact .d | exact .e | exact .n | ((fail_if_success exact bqt); (fail_if_success exact bqf); exact .b))) <;> intro _)
  · refine .ret rfl (.int ?_)
    rename_i h
    rw [hw] at h
    rw [zI, if_pos h]
  · refine .ret rfl (.int ?_)
    rename_i h
    rw [hw] at h ⊢
    rw [zI, if_neg h]
theorem toInt64S_ok (xs : List Int) (hx : xs.length ≤ 34359738368) (σ : Store) : Ok Tryz.prog 51 [.c (.fz (xs.map encI))] σ (New σ (.fz (xs.map encI))) := by
  refine Makes.new (s := 1) (flatI xs) (Makes.run mixed c_laws_toInt64S_ok (Nat.le_of_ble_eq_true rfl) fun σ hS hA => ?_) σ
  clear hS hA
  repeat' first | (apply Go.adm; exact rfl) | apply Go.qs | apply Qg.nil | ((first | apply Go.v2 | apply Go.v1); (first | exact leAdd | assumption); iterate 6 exact rfl) | ((first | apply Go.op | apply Go.sop | apply Qg.op); exact rfl; (first | exact aop_alloc | exact aop_new rfl rfl | exact aop_mksl rfl | exact aop_lenM rfl | exact rfl | exact aL rfl rfl rfl rfl rfl | exact aS rfl rfl rfl rfl rfl rfl rfl | exact aop_mkslice rfl rfl (show 8 * xs.length ≤ 140737488355328 by omega))) | ((first | apply Go.no | apply Go.sno | apply Qg.no); exact rfl) | (exfalso; omega) | (((first | apply Go.iQ | apply Go.gQ | apply Go.sQ | apply Qg.gQ); exact rfl; (first | exact .d | exact .e | exact .n | ((fail_if_success exact bqt); (fail_if_success exact bqf); exact .b))) <;> intro _)
  refine Go.keep [0, 3, 4] (Go.loops (I := fun m fr τ => ∃ i : Nat, ∃ n : Int, ∃ cs : List (List Ce), m = xs.length - i ∧ i ≤ xs.length ∧ n = i ∧ (cs.length = xs.length ∧ (∀ e ∈ cs, e.length = 1) ∧ ∀ j (h1 : j < xs.length) (h2 : j < cs.length), j < i → cs[j] = encI xs[j]) ∧
    fr = [(0, .c (.fz (xs.map encI))), (3, .c (.sl (σ.next + 0) 0 0 xs.length xs.length)), (4, .c (.int .i64 n))] ∧ τ = E σ [(0, cs)]) ?_ _ _ _ ⟨0, _, List.replicate xs.length [.int .i64 0], rfl, Nat.zero_le _, rfl, ⟨by simp, fun e he => by rw [List.eq_of_mem_replicate he]; rfl, fun j _ _ h => absurd h (by omega)⟩, rfl, rfl⟩)
  rintro m fr τ ⟨i, n, cs, rfl, hi, hn, ⟨hcl, hcs, hh⟩, rfl, rfl⟩ hrec
  by_cases hlt : i < xs.length
  · have hlc : i < cs.length := by omega
    have he : cs[0 + i]? = some cs[i] := by simp [hlc]
    have hel : cs[i].length = 1 := hcs _ (List.getElem_mem hlc)
    repeat' first | (apply Go.adm; exact rfl) | apply Go.qs | apply Qg.nil | ((first | apply Go.v2 | apply Go.v1); (first | exact leAdd | assumption); iterate 6 exact rfl) | ((first | apply Go.op | apply Go.sop | apply Qg.op); exact rfl; (first | exact aop_alloc | exact aop_new rfl rfl | exact aop_mksl rfl | exact aop_lenM rfl | exact rfl | exact aL rfl rfl rfl rfl rfl | exact aS rfl rfl rfl rfl rfl rfl rfl | exact aop_iaddrM (enc := encI) rfl rfl hn hlt rfl | exact aop_iaddr (k := 0) (n := i) rfl rfl hn hlt rfl he hel | exact aop_store (k := 0) rfl rfl rfl rfl he rfl (by omega))) | ((first | apply Go.no | apply Go.sno | apply Qg.no); exact rfl) | (exfalso; omega) | (((first | apply Go.iQ | apply Go.gQ | apply Go.sQ | apply Qg.gQ); exact rfl; (first | exact .d | exact .e | exact .n | ((fail_if_success exact bqt); (fail_if_success exact bqf); exact .b))) <;> intro _)
    have hsp : splice cs[i] 0 [Ce.int IntKind.i64 xs[i]] = encI xs[i] := splice_all hel rfl
    rw [hsp]
    refine Go.keep [0, 3, 4] (hrec _ _ _ (by omega) ⟨i + 1, _, cs.set (0 + i) (encI xs[i]), rfl, hlt, wrap_succ hn (by omega), ⟨by simp [hcl], fun e he' => ?_, fun j h1 h2 hj => ?_⟩, rfl, rfl⟩)
    · rcases List.mem_or_eq_of_mem_set he' with h | h
      · exact hcs _ h
      · rw [h]; rfl
    · by_cases e : j = i
      · subst e; simp
      · rw [List.getElem_set_ne (by omega)]
        exact hh j h1 (by simpa using h2) (by omega)
  · repeat' first | (apply Go.adm; exact rfl) | apply Go.qs | apply Qg.nil | ((first | apply Go.v2 | apply Go.v1); (first | exact leAdd | assumption); iterate 6 exact rfl) | ((first | apply Go.op | apply Go.sop | apply Qg.op); exact rfl; (first | exact aop_alloc | exact aop_new rfl rfl | exact aop_mksl rfl | exact aop_lenM rfl | exact rfl | exact aL rfl rfl rfl rfl rfl | exact aS rfl rfl rfl rfl rfl rfl rfl)) | ((first | apply Go.no | apply Go.sno | apply Qg.no); exact rfl) | (exfalso; omega) | (((first | apply Go.iQ | apply Go.gQ | apply Go.sQ | apply Qg.gQ); exact rfl; (first | exact .d | exact .e | exact .n | ((fail_if_success exact bqt); (fail_if_success exact bqf); exact .b))) <;> intro _)
    have hcs2 : cs = xs.map encI := List.ext_getElem (by simp [hcl]) fun j h1 h2 => by
      rw [List.getElem_map]
      exact hh j (by simpa using h2) h1 (by simp at h2; omega)
    subst hcs2
    refine .ret rfl ⟨0, [], Jk.nil, ?_, by simp⟩
    simp [vec]
/-- Blocks 0 and 1 are a function's variables: what lies behind them stays. -/
theorem Has.more {σ : Store} {S : Nat → Prop} {y x : Ce} {l : List (Nat × List (List Ce))} (h : ∀ A B, Has (E σ (A :: B :: l)) S y x) (hS : ∀ a, S a → σ.next + 2 ≤ a ∧ a < σ.next + 2 + l.length) (m : List (Nat × List (List Ce))) : ∀ A B, Has (E σ (A :: B :: (l ++ m))) S y x := by
  intro A B
  refine (h A B).frame fun a ha => ?_
  have := hS a ha
  rw [E_ge (by omega), E_ge (by omega)]
  obtain ⟨q, hq⟩ : ∃ q, a - σ.next = q + 2 := ⟨a - σ.next - 2, by omega⟩
  rw [hq]
  simp only [List.getElem?_cons_succ]
  rw [List.getElem?_append_left (by omega)]
theorem Has.new2 {σ : Store} {y x : Ce} {A0 B0 : Nat × List (List Ce)} {l l2 : List (Nat × List (List Ce))} (h : Has (E σ ((A0 :: B0 :: l) ++ l2)) (fun a => (E σ (A0 :: B0 :: l)).next ≤ a ∧ a < (E σ ((A0 :: B0 :: l) ++ l2)).next) y x) :
    ∀ A B, Has (E σ (A :: B :: (l ++ l2))) (fun a => σ.next + 2 + l.length ≤ a ∧ a < σ.next + 2 + (l ++ l2).length) y x := by
  intro A B
  refine (h.frame fun a ha => ?_).mono fun a ha => ?_
  · have := ha.1
    simp only [E_next, List.length_cons] at this
    exact E_two (by omega)
  · have h1 := ha.1
    have h2 := ha.2
    simp only [E_next, List.length_cons, List.length_append] at h1 h2 ⊢
    omega
theorem HasL.skip {τ : Store} {S : Nat → Prop} {c : Ce} {ys xs : List Ce} (hc : Flat c) (k : HasL τ S ys xs) : HasL τ S (c :: ys) (c :: xs) :=
  (HasL.two (S := fun _ => False) (.c hc) k (fun _ h => h.elim)).mono fun a ha => ha.elim (fun h => h.elim) id
theorem tidy_pre {n : Nat} {l m : List (Nat × List (List Ce))} (h : TidyL n l) (k : TidyL n m) : TidyL n (l ++ m) := fun b hb => (List.mem_append.1 hb).elim (h b) (k b)
theorem tidy_up {σ : Store} {l l2 : List (Nat × List (List Ce))} (h : TidyL (E σ l).next l2) : TidyL σ.next l2 := fun b hb e he x hx => (h b hb e he x hx).mono (by simp [E_next])

structure Tok where
  kind : Int
  col : Int
  v : Val
  deriving DecidableEq
def encTok (a : Tok) : List Ce := [.int .i64 a.kind, .int .i64 a.col, .int .i64 a.v.k, .int .i64 a.v.n, .str a.v.s]
theorem flatTok (a : Tok) : ∀ x ∈ encTok a, Flat x := by
  intro x hx
  simp only [encTok, List.mem_cons, List.not_mem_nil, or_false] at hx
  rcases hx with rfl | rfl | rfl | rfl | rfl <;> constructor
def bTok (N : Nat) (a : Tok) : Prop := bV N a.v
def zTok (a : Tok) : Int → Int := chain [(szV a.v)]
theorem zTok_steps (a : Tok) : Steps [(szV a.v)] := (.cons (fun l h => szV_le _ l h) .nil)
theorem zTok_le (a : Tok) (l : Int) (h : 0 ≤ l) : zTok a l ≤ l := chain_le (zTok_steps a) l h
theorem bTok_of (a : Tok) (l : Int) (N : Nat) (h0 : 0 ≤ l) (h : 0 ≤ zTok a l) (hl : l ≤ N) : bTok N a := by
  have hh := chain_all (zTok_steps a) l h0 h
  obtain ⟨q0, u0, v0, w0⟩ := hh (szV a.v) (by simp)
  exact (bV_of w0 (by omega))
theorem szTok_ok (a : Tok) (left : Int) (hb : bTok 1125899906842624 a) (h0 : 0 ≤ left) (h1 : left ≤ 34359738368) : Pure Tryz.prog 89 [.agg (encTok a), .c (.int .i64 left)] (.c (.int .i64 (zTok a left))) := by
  refine Pure.run mixed c_laws_szTok_ok (Nat.le_of_ble_eq_true rfl) fun σ hS hA => ?_
  clear hS hA
  repeat' first | (apply Go.adm; exact rfl) | apply Go.qs | apply Qg.nil | ((first | apply Go.v2 | apply Go.v1); (first | exact leAdd | assumption); iterate 6 exact rfl) | ((first | apply Go.op | apply Go.sop | apply Qg.op); exact rfl; (first | exact aop_alloc | exact aop_new rfl rfl | exact aop_mksl rfl | exact aop_lenM rfl | exact rfl | exact aL rfl rfl rfl rfl rfl | exact aS rfl rfl rfl rfl rfl rfl rfl)) | ((first | apply Go.no | apply Go.sno | apply Qg.no); exact rfl)
  refine .pcall rfl rfl rfl (szVal_ok a.v left hb (by omega) (by omega)) ?_
  have y1 := szV_le a.v left (by omega)
  generalize e1 : szV a.v left = l1 at y1 ⊢
  repeat' first | (apply Go.adm; exact rfl) | apply Go.qs | apply Qg.nil | ((first | apply Go.v2 | apply Go.v1); (first | exact leAdd | assumption); iterate 6 exact rfl) | ((first | apply Go.op | apply Go.sop | apply Qg.op); exact rfl; (first | exact aop_alloc | exact aop_new rfl rfl | exact aop_mksl rfl | exact aop_lenM rfl | exact rfl | exact aL rfl rfl rfl rfl rfl | exact aS rfl rfl rfl rfl rfl rfl rfl)) | ((first | apply Go.no | apply Go.sno | apply Qg.no); exact rfl) | (exfalso; omega) | (((first | apply Go.iQ | apply Go.gQ | apply Go.sQ | apply Qg.gQ); exact rfl; (first | exact .d | exact .e | exact .n | ((fail_if_success exact bqt); (fail_if_success exact bqf); exact .b))) <;> intro _)
  · refine .ret rfl (.int ?_)
    rename_i h
    simp only [zTok, chain, e1, if_pos h]
  rename_i g1
  refine .ret rfl (.int ?_)
  simp only [zTok, chain, e1, if_neg g1]
theorem szTokS_ok (xs : List Tok) (left : Int) (hx : xs.length ≤ 1125899906842624) (hv : ∀ e ∈ xs, bTok 1125899906842624 e) (h0 : 0 ≤ left) (h1 : left ≤ 34359738368) : Pure Tryz.prog 22 [.c (.fz (xs.map encTok)), .c (.int .i64 left)] (.c (.int .i64 (szL zTok xs left))) :=
  szS_ok mixed c_laws_szTokS_ok encTok zTok xs left hx h0 h1 (fun _ => rfl) zTok_le fun a ha l h2 h3 => szTok_ok a l (hv a ha) h2 (by omega)
theorem toTok_ok (a : Tok) (hb : bTok 34359738368 a) (σ : Store) : Ok Tryz.prog 94 [.agg (encTok a)] σ (NewL σ (encTok a)) := by
  refine Ok.run mixed c_laws_toTok_ok (Nat.le_of_ble_eq_true rfl) fun hS hA => ?_
  clear hS hA
  repeat' first | (apply Go.adm; exact rfl) | apply Go.qs | apply Qg.nil | ((first | apply Go.v2 | apply Go.v1); (first | exact leAdd | assumption); iterate 6 exact rfl) | ((first | apply Go.op | apply Go.sop | apply Qg.op); exact rfl; (first | exact aop_alloc | exact aop_new rfl rfl | exact aop_mksl rfl | exact aop_lenM rfl | exact rfl | exact aL rfl rfl rfl rfl rfl | exact aS rfl rfl rfl rfl rfl rfl rfl)) | ((first | apply Go.no | apply Go.sno | apply Qg.no); exact rfl) | ((first | apply Go.pcall | apply Go.spcall | apply Qg.pcall); (iterate 3 exact rfl); exact NewL.pure (toVal_ok a.v)) | (exfalso; omega) | (((first | apply Go.iQ | apply Go.gQ | apply Go.sQ | apply Qg.gQ); exact rfl; (first | exact .d | exact .e | exact .n | ((fail_if_success exact bqt); (fail_if_success exact bqf); exact .b))) <;> intro _)
  refine .ret (retv_m rfl rfl rfl (Nat.le_of_ble_eq_true rfl) rfl) ⟨encTok a, _, rfl, rfl, ?_, .flat (flatTok a)⟩
  show TidyL σ.next [(0, [encTok a]), (0, [encTok a])]
  exact .one (fun x hx => .flat (flatTok a x hx)) (.one (fun x hx => .flat (flatTok a x hx)) .nil)
theorem toTokS_ok (xs : List Tok) (hx : xs.length ≤ 34359738368) (hv : ∀ e ∈ xs, bTok 34359738368 e) (σ : Store) : Ok Tryz.prog 25 [.c (.fz (xs.map encTok))] σ (New σ (.fz (xs.map encTok))) :=
  toS_ok mixed c_laws_toTokS_ok encTok xs hx (by decide) rfl (fun _ => rfl) (by intro x hx; simp only [List.mem_cons, List.not_mem_nil, or_false] at hx; rcases hx with rfl | rfl | rfl | rfl | rfl <;> constructor) (fun a ha σ => toTok_ok a (hv a ha) σ) σ
theorem Tok_beq (a b : Tok) : (a == b) = (a.kind == b.kind && a.col == b.col && a.v == b.v) := by
  obtain ⟨a0, a1, a2⟩ := a
  obtain ⟨b0, b1, b2⟩ := b
  rw [Bool.eq_iff_iff]
  simp [and_assoc]
theorem eqTok_ok (a b : Tok) (hb : bTok 34359738368 a) : Pure Tryz.prog 100 [.agg (encTok a), .agg (encTok b)] (.c (.bool (a == b))) := by
  refine Pure.run mixed c_laws_eqTok_ok (Nat.le_of_ble_eq_true rfl) fun σ hS hA => ?_
  clear hS hA
  have hq := Tok_beq a b
  repeat' first | (apply Go.adm; exact rfl) | apply Go.qs | apply Qg.nil | ((first | apply Go.v2 | apply Go.v1); (first | exact leAdd | assumption); iterate 6 exact rfl) | ((first | apply Go.op | apply Go.sop | apply Qg.op); exact rfl; (first | exact aop_alloc | exact aop_new rfl rfl | exact aop_mksl rfl | exact aop_lenM rfl | exact rfl | exact aL rfl rfl rfl rfl rfl | exact aS rfl rfl rfl rfl rfl rfl rfl)) | ((first | apply Go.no | apply Go.sno | apply Qg.no); exact rfl) | ((first | apply Go.pcallB | apply Go.spcallB | apply Qg.pcallB); (iterate 3 exact rfl); exact eqVal_ok a.v b.v; intro _ _) | (exfalso; omega) | (((first | apply Go.iQ | apply Go.gQ | apply Go.sQ | apply Qg.gQ); exact rfl; (first | exact .d | exact .e | exact .n | ((fail_if_success exact bqt); (fail_if_success exact bqf); exact .b))) <;> intro _)
  all_goals refine .ret rfl (.bool ?_)
  all_goals rw [hq]
  all_goals clear hq hb
  all_goals simp_all
theorem eqTokS_ok (xs ys : List Tok) (hx : xs.length ≤ 34359738368) (hv : ∀ e ∈ xs, bTok 34359738368 e) : Pure Tryz.prog 29 [.c (.fz (xs.map encTok)), .c (.fz (ys.map encTok))] (.c (.bool (xs == ys))) :=
  eqS_ok mixed c_laws_eqTokS_ok encTok xs ys hx (fun _ => rfl) fun a ha b => eqTok_ok a b (hv a ha)
structure Chk where
  expr : List Tok
  deriving DecidableEq
def encChk (a : Chk) : List Ce := [.fz (a.expr.map encTok)]
def bChk (N : Nat) (a : Chk) : Prop := (a.expr.length ≤ N ∧ ∀ x ∈ a.expr, bTok N x)
def zChk (a : Chk) : Int → Int := chain [(szL zTok a.expr)]
theorem zChk_steps (a : Chk) : Steps [(szL zTok a.expr)] := (.cons (fun l h => szL_le zTok_le _ l h) .nil)
theorem zChk_le (a : Chk) (l : Int) (h : 0 ≤ l) : zChk a l ≤ l := chain_le (zChk_steps a) l h
theorem bChk_of (a : Chk) (l : Int) (N : Nat) (h0 : 0 ≤ l) (h : 0 ≤ zChk a l) (hl : l ≤ N) : bChk N a := by
  have hh := chain_all (zChk_steps a) l h0 h
  obtain ⟨q0, u0, v0, w0⟩ := hh (szL zTok a.expr) (by simp)
  exact (list_of zTok_le bTok_of u0 w0 (by omega))
theorem szChk_ok (a : Chk) (left : Int) (hb : bChk 1125899906842624 a) (h0 : 0 ≤ left) (h1 : left ≤ 34359738368) : Pure Tryz.prog 257 [.agg (encChk a), .c (.int .i64 left)] (.c (.int .i64 (zChk a left))) := by
  refine Pure.run mixed c_laws_szCheck_ok (Nat.le_of_ble_eq_true rfl) fun σ hS hA => ?_
  clear hS hA
  repeat' first | (apply Go.adm; exact rfl) | apply Go.qs | apply Qg.nil | ((first | apply Go.v2 | apply Go.v1); (first | exact leAdd | assumption); iterate 6 exact rfl) | ((first | apply Go.op | apply Go.sop | apply Qg.op); exact rfl; (first | exact aop_alloc | exact aop_new rfl rfl | exact aop_mksl rfl | exact aop_lenM rfl | exact rfl | exact aL rfl rfl rfl rfl rfl | exact aS rfl rfl rfl rfl rfl rfl rfl)) | ((first | apply Go.no | apply Go.sno | apply Qg.no); exact rfl)
  refine .pcall rfl rfl rfl (szTokS_ok a.expr left hb.1 hb.2 (by omega) (by omega)) ?_
  have y1 := szL_le zTok_le a.expr left (by omega)
  generalize e1 : szL zTok a.expr left = l1 at y1 ⊢
  repeat' first | (apply Go.adm; exact rfl) | apply Go.qs | apply Qg.nil | ((first | apply Go.v2 | apply Go.v1); (first | exact leAdd | assumption); iterate 6 exact rfl) | ((first | apply Go.op | apply Go.sop | apply Qg.op); exact rfl; (first | exact aop_alloc | exact aop_new rfl rfl | exact aop_mksl rfl | exact aop_lenM rfl | exact rfl | exact aL rfl rfl rfl rfl rfl | exact aS rfl rfl rfl rfl rfl rfl rfl)) | ((first | apply Go.no | apply Go.sno | apply Qg.no); exact rfl) | (exfalso; omega) | (((first | apply Go.iQ | apply Go.gQ | apply Go.sQ | apply Qg.gQ); exact rfl; (first | exact .d | exact .e | exact .n | ((fail_if_success exact bqt); (fail_if_success exact bqf); exact .b))) <;> intro _)
  · refine .ret rfl (.int ?_)
    rename_i h
    simp only [zChk, chain, e1, if_pos h]
  rename_i g1
  refine .ret rfl (.int ?_)
  simp only [zChk, chain, e1, if_neg g1]
theorem szChkS_ok (xs : List Chk) (left : Int) (hx : xs.length ≤ 1125899906842624) (hv : ∀ e ∈ xs, bChk 1125899906842624 e) (h0 : 0 ≤ left) (h1 : left ≤ 34359738368) : Pure Tryz.prog 177 [.c (.fz (xs.map encChk)), .c (.int .i64 left)] (.c (.int .i64 (szL zChk xs left))) :=
  szS_ok mixed c_laws_szCheckS_ok encChk zChk xs left hx h0 h1 (fun _ => rfl) zChk_le fun a ha l h2 h3 => szChk_ok a l (hv a ha) h2 (by omega)
theorem toChk_ok (a : Chk) (hb : bChk 34359738368 a) (σ : Store) : Ok Tryz.prog 262 [.agg (encChk a)] σ (NewL σ (encChk a)) := by
  refine Ok.run mixed c_laws_toCheck_ok (Nat.le_of_ble_eq_true rfl) fun hS hA => ?_
  clear hS hA
  repeat' first | (apply Go.adm; exact rfl) | apply Go.qs | apply Qg.nil | ((first | apply Go.v2 | apply Go.v1); (first | exact leAdd | assumption); iterate 6 exact rfl) | ((first | apply Go.op | apply Go.sop | apply Qg.op); exact rfl; (first | exact aop_alloc | exact aop_new rfl rfl | exact aop_mksl rfl | exact aop_lenM rfl | exact rfl | exact aL rfl rfl rfl rfl rfl | exact aS rfl rfl rfl rfl rfl rfl rfl)) | ((first | apply Go.no | apply Go.sno | apply Qg.no); exact rfl) | (exfalso; omega) | (((first | apply Go.iQ | apply Go.gQ | apply Go.sQ | apply Qg.gQ); exact rfl; (first | exact .d | exact .e | exact .n | ((fail_if_success exact bqt); (fail_if_success exact bqf); exact .b))) <;> intro _)
  refine Go.call _ rfl rfl rfl (toTokS_ok a.expr hb.1 hb.2 _) ?_
  rintro r σ0 ⟨x0, m0, rfl, rfl, t0, h0⟩
  rw [E_E] at h0 ⊢
  have t0 := tidy_up t0
  have h0 := h0.new2
  repeat' first | (apply Go.adm; exact rfl) | apply Go.qs | apply Qg.nil | ((first | apply Go.v2 | apply Go.v1); (first | exact leAdd | assumption); iterate 6 exact rfl) | ((first | apply Go.op | apply Go.sop | apply Qg.op); exact rfl; (first | exact aop_alloc | exact aop_new rfl rfl | exact aop_mksl rfl | exact aop_lenM rfl | exact rfl | exact aL rfl rfl rfl rfl rfl | exact aS rfl rfl rfl rfl rfl rfl rfl)) | ((first | apply Go.no | apply Go.sno | apply Qg.no); exact rfl) | (exfalso; omega) | (((first | apply Go.iQ | apply Go.gQ | apply Go.sQ | apply Qg.gQ); exact rfl; (first | exact .d | exact .e | exact .n | ((fail_if_success exact bqt); (fail_if_success exact bqf); exact .b))) <;> intro _)
  have hL : HasL (E σ ((0, [[x0]]) :: (0, [[x0]]) :: ([] ++ m0))) (fun a => σ.next + 2 ≤ a ∧ a < σ.next + 2 + ([] ++ m0).length) (encChk a) [x0] := by
    refine HasL.mono ?_ (HasL.two (h0 _ _) (HasL.nil (S := fun a => a < 0)) (fun a ha hb => by (try dsimp only at ha hb); (try simp only [List.append_eq, List.length_append, List.length_nil, List.nil_append] at ha hb); omega))
    intro a ha
    (try dsimp only at ha)
    (try simp only [List.append_eq, List.length_append, List.length_nil, List.nil_append] at ha ⊢)
    omega
  have hT := hL.tidy (n := σ.next) fun a ha => by have := ha.1; omega
  have hM : TidyL σ.next ([] ++ m0) := (tidy_pre (fun b hb => by simp at hb) t0)
  have hN : NewL σ (encChk a) (.agg [x0]) (E σ ((0, [[x0]]) :: (0, [[x0]]) :: ([] ++ m0))) := by
    refine ⟨_, _, rfl, rfl, .one hT (.one hT hM), hL.mono ?_⟩
    intro a ha
    have h9 := ha.1
    have h8 := ha.2
    (try simp only [E_next, List.length_cons, List.append_eq, List.length_append, List.length_nil, List.nil_append] at h8 ⊢)
    constructor <;> omega
  exact .ret (retv_m rfl rfl rfl (Nat.le_of_ble_eq_true rfl) rfl) hN
theorem toChkS_ok (xs : List Chk) (hx : xs.length ≤ 34359738368) (hv : ∀ e ∈ xs, bChk 34359738368 e) (σ : Store) : Ok Tryz.prog 184 [.c (.fz (xs.map encChk))] σ (New σ (.fz (xs.map encChk))) :=
  toS_ok mixed c_laws_toCheckS_ok encChk xs hx (by decide) rfl (fun _ => rfl) (by intro x hx; simp only [List.mem_cons, List.not_mem_nil, or_false] at hx; rcases hx with rfl <;> constructor) (fun a ha σ => toChk_ok a (hv a ha) σ) σ
theorem Chk_beq (a b : Chk) : (a == b) = (a.expr == b.expr) := by
  obtain ⟨a0⟩ := a
  obtain ⟨b0⟩ := b
  rw [Bool.eq_iff_iff]
  simp [and_assoc]
theorem eqChk_ok (a b : Chk) (hb : bChk 34359738368 a) : Pure Tryz.prog 272 [.agg (encChk a), .agg (encChk b)] (.c (.bool (a == b))) := by
  refine Pure.run mixed c_laws_eqCheck_ok (Nat.le_of_ble_eq_true rfl) fun σ hS hA => ?_
  clear hS hA
  have hq := Chk_beq a b
  repeat' first | (apply Go.adm; exact rfl) | apply Go.qs | apply Qg.nil | ((first | apply Go.v2 | apply Go.v1); (first | exact leAdd | assumption); iterate 6 exact rfl) | ((first | apply Go.op | apply Go.sop | apply Qg.op); exact rfl; (first | exact aop_alloc | exact aop_new rfl rfl | exact aop_mksl rfl | exact aop_lenM rfl | exact rfl | exact aL rfl rfl rfl rfl rfl | exact aS rfl rfl rfl rfl rfl rfl rfl)) | ((first | apply Go.no | apply Go.sno | apply Qg.no); exact rfl) | ((first | apply Go.pcallB | apply Go.spcallB | apply Qg.pcallB); (iterate 3 exact rfl); exact eqTokS_ok a.expr b.expr hb.1 hb.2; intro _ _) | (exfalso; omega) | (((first | apply Go.iQ | apply Go.gQ | apply Go.sQ | apply Qg.gQ); exact rfl; (first | exact .d | exact .e | exact .n | ((fail_if_success exact bqt); (fail_if_success exact bqf); exact .b))) <;> intro _)
  all_goals refine .ret rfl (.bool ?_)
  all_goals rw [hq]
  all_goals clear hq hb
  all_goals simp_all
theorem eqChkS_ok (xs ys : List Chk) (hx : xs.length ≤ 34359738368) (hv : ∀ e ∈ xs, bChk 34359738368 e) : Pure Tryz.prog 193 [.c (.fz (xs.map encChk)), .c (.fz (ys.map encChk))] (.c (.bool (xs == ys))) :=
  eqS_ok mixed c_laws_eqCheckS_ok encChk xs ys hx (fun _ => rfl) fun a ha b => eqChk_ok a b (hv a ha)
structure Uniq where
  cols : List Int
  deriving DecidableEq
def encUniq (a : Uniq) : List Ce := [.fz (a.cols.map encI)]
def bUniq (N : Nat) (a : Uniq) : Prop := a.cols.length ≤ N
def zUniq (a : Uniq) : Int → Int := chain [(zI a.cols)]
theorem zUniq_steps (a : Uniq) : Steps [(zI a.cols)] := (.cons (step_ints _) .nil)
theorem zUniq_le (a : Uniq) (l : Int) (h : 0 ≤ l) : zUniq a l ≤ l := chain_le (zUniq_steps a) l h
theorem bUniq_of (a : Uniq) (l : Int) (N : Nat) (h0 : 0 ≤ l) (h : 0 ≤ zUniq a l) (hl : l ≤ N) : bUniq N a := by
  have hh := chain_all (zUniq_steps a) l h0 h
  obtain ⟨q0, u0, v0, w0⟩ := hh (zI a.cols) (by simp)
  exact (ints_of w0 (by omega))
theorem szUniq_ok (a : Uniq) (left : Int) (hb : bUniq 1125899906842624 a) (h0 : 0 ≤ left) (h1 : left ≤ 34359738368) : Pure Tryz.prog 256 [.agg (encUniq a), .c (.int .i64 left)] (.c (.int .i64 (zUniq a left))) := by
  refine Pure.run mixed c_laws_szUnique_ok (Nat.le_of_ble_eq_true rfl) fun σ hS hA => ?_
  clear hS hA
  repeat' first | (apply Go.adm; exact rfl) | apply Go.qs | apply Qg.nil | ((first | apply Go.v2 | apply Go.v1); (first | exact leAdd | assumption); iterate 6 exact rfl) | ((first | apply Go.op | apply Go.sop | apply Qg.op); exact rfl; (first | exact aop_alloc | exact aop_new rfl rfl | exact aop_mksl rfl | exact aop_lenM rfl | exact rfl | exact aL rfl rfl rfl rfl rfl | exact aS rfl rfl rfl rfl rfl rfl rfl)) | ((first | apply Go.no | apply Go.sno | apply Qg.no); exact rfl)
  refine .pcall rfl rfl rfl (szInt64S_ok a.cols left hb (by omega) (by omega)) ?_
  have y1 := step_ints a.cols left (by omega)
  generalize e1 : zI a.cols left = l1 at y1 ⊢
  repeat' first | (apply Go.adm; exact rfl) | apply Go.qs | apply Qg.nil | ((first | apply Go.v2 | apply Go.v1); (first | exact leAdd | assumption); iterate 6 exact rfl) | ((first | apply Go.op | apply Go.sop | apply Qg.op); exact rfl; (first | exact aop_alloc | exact aop_new rfl rfl | exact aop_mksl rfl | exact aop_lenM rfl | exact rfl | exact aL rfl rfl rfl rfl rfl | exact aS rfl rfl rfl rfl rfl rfl rfl)) | ((first | apply Go.no | apply Go.sno | apply Qg.no); exact rfl) | (exfalso; omega) | (((first | apply Go.iQ | apply Go.gQ | apply Go.sQ | apply Qg.gQ); exact rfl; (first | exact .d | exact .e | exact .n | ((fail_if_success exact bqt); (fail_if_success exact bqf); exact .b))) <;> intro _)
  · refine .ret rfl (.int ?_)
    rename_i h
    simp only [zUniq, chain, e1, if_pos h]
  rename_i g1
  refine .ret rfl (.int ?_)
  simp only [zUniq, chain, e1, if_neg g1]
theorem szUniqS_ok (xs : List Uniq) (left : Int) (hx : xs.length ≤ 1125899906842624) (hv : ∀ e ∈ xs, bUniq 1125899906842624 e) (h0 : 0 ≤ left) (h1 : left ≤ 34359738368) : Pure Tryz.prog 176 [.c (.fz (xs.map encUniq)), .c (.int .i64 left)] (.c (.int .i64 (szL zUniq xs left))) :=
  szS_ok mixed c_laws_szUniqueS_ok encUniq zUniq xs left hx h0 h1 (fun _ => rfl) zUniq_le fun a ha l h2 h3 => szUniq_ok a l (hv a ha) h2 (by omega)
theorem toUniq_ok (a : Uniq) (hb : bUniq 34359738368 a) (σ : Store) : Ok Tryz.prog 261 [.agg (encUniq a)] σ (NewL σ (encUniq a)) := by
  refine Ok.run mixed c_laws_toUnique_ok (Nat.le_of_ble_eq_true rfl) fun hS hA => ?_
  clear hS hA
  repeat' first | (apply Go.adm; exact rfl) | apply Go.qs | apply Qg.nil | ((first | apply Go.v2 | apply Go.v1); (first | exact leAdd | assumption); iterate 6 exact rfl) | ((first | apply Go.op | apply Go.sop | apply Qg.op); exact rfl; (first | exact aop_alloc | exact aop_new rfl rfl | exact aop_mksl rfl | exact aop_lenM rfl | exact rfl | exact aL rfl rfl rfl rfl rfl | exact aS rfl rfl rfl rfl rfl rfl rfl)) | ((first | apply Go.no | apply Go.sno | apply Qg.no); exact rfl) | (exfalso; omega) | (((first | apply Go.iQ | apply Go.gQ | apply Go.sQ | apply Qg.gQ); exact rfl; (first | exact .d | exact .e | exact .n | ((fail_if_success exact bqt); (fail_if_success exact bqf); exact .b))) <;> intro _)
  refine Go.call _ rfl rfl rfl (toInt64S_ok a.cols hb _) ?_
  rintro r σ0 ⟨x0, m0, rfl, rfl, t0, h0⟩
  rw [E_E] at h0 ⊢
  have t0 := tidy_up t0
  have h0 := h0.new2
  repeat' first | (apply Go.adm; exact rfl) | apply Go.qs | apply Qg.nil | ((first | apply Go.v2 | apply Go.v1); (first | exact leAdd | assumption); iterate 6 exact rfl) | ((first | apply Go.op | apply Go.sop | apply Qg.op); exact rfl; (first | exact aop_alloc | exact aop_new rfl rfl | exact aop_mksl rfl | exact aop_lenM rfl | exact rfl | exact aL rfl rfl rfl rfl rfl | exact aS rfl rfl rfl rfl rfl rfl rfl)) | ((first | apply Go.no | apply Go.sno | apply Qg.no); exact rfl) | (exfalso; omega) | (((first | apply Go.iQ | apply Go.gQ | apply Go.sQ | apply Qg.gQ); exact rfl; (first | exact .d | exact .e | exact .n | ((fail_if_success exact bqt); (fail_if_success exact bqf); exact .b))) <;> intro _)
  have hL : HasL (E σ ((0, [[x0]]) :: (0, [[x0]]) :: ([] ++ m0))) (fun a => σ.next + 2 ≤ a ∧ a < σ.next + 2 + ([] ++ m0).length) (encUniq a) [x0] := by
    refine HasL.mono ?_ (HasL.two (h0 _ _) (HasL.nil (S := fun a => a < 0)) (fun a ha hb => by (try dsimp only at ha hb); (try simp only [List.append_eq, List.length_append, List.length_nil, List.nil_append] at ha hb); omega))
    intro a ha
    (try dsimp only at ha)
    (try simp only [List.append_eq, List.length_append, List.length_nil, List.nil_append] at ha ⊢)
    omega
  have hT := hL.tidy (n := σ.next) fun a ha => by have := ha.1; omega
  have hM : TidyL σ.next ([] ++ m0) := (tidy_pre (fun b hb => by simp at hb) t0)
  have hN : NewL σ (encUniq a) (.agg [x0]) (E σ ((0, [[x0]]) :: (0, [[x0]]) :: ([] ++ m0))) := by
    refine ⟨_, _, rfl, rfl, .one hT (.one hT hM), hL.mono ?_⟩
    intro a ha
    have h9 := ha.1
    have h8 := ha.2
    (try simp only [E_next, List.length_cons, List.append_eq, List.length_append, List.length_nil, List.nil_append] at h8 ⊢)
    constructor <;> omega
  exact .ret (retv_m rfl rfl rfl (Nat.le_of_ble_eq_true rfl) rfl) hN
theorem toUniqS_ok (xs : List Uniq) (hx : xs.length ≤ 34359738368) (hv : ∀ e ∈ xs, bUniq 34359738368 e) (σ : Store) : Ok Tryz.prog 183 [.c (.fz (xs.map encUniq))] σ (New σ (.fz (xs.map encUniq))) :=
  toS_ok mixed c_laws_toUniqueS_ok encUniq xs hx (by decide) rfl (fun _ => rfl) (by intro x hx; simp only [List.mem_cons, List.not_mem_nil, or_false] at hx; rcases hx with rfl <;> constructor) (fun a ha σ => toUniq_ok a (hv a ha) σ) σ
theorem Uniq_beq (a b : Uniq) : (a == b) = (a.cols == b.cols) := by
  obtain ⟨a0⟩ := a
  obtain ⟨b0⟩ := b
  rw [Bool.eq_iff_iff]
  simp [and_assoc]
theorem eqUniq_ok (a b : Uniq) (hb : bUniq 34359738368 a) : Pure Tryz.prog 271 [.agg (encUniq a), .agg (encUniq b)] (.c (.bool (a == b))) := by
  refine Pure.run mixed c_laws_eqUnique_ok (Nat.le_of_ble_eq_true rfl) fun σ hS hA => ?_
  clear hS hA
  have hq := Uniq_beq a b
  repeat' first | (apply Go.adm; exact rfl) | apply Go.qs | apply Qg.nil | ((first | apply Go.v2 | apply Go.v1); (first | exact leAdd | assumption); iterate 6 exact rfl) | ((first | apply Go.op | apply Go.sop | apply Qg.op); exact rfl; (first | exact aop_alloc | exact aop_new rfl rfl | exact aop_mksl rfl | exact aop_lenM rfl | exact rfl | exact aL rfl rfl rfl rfl rfl | exact aS rfl rfl rfl rfl rfl rfl rfl)) | ((first | apply Go.no | apply Go.sno | apply Qg.no); exact rfl) | ((first | apply Go.pcallB | apply Go.spcallB | apply Qg.pcallB); (iterate 3 exact rfl); exact eqInt64S_ok a.cols b.cols hb; intro _ _) | (exfalso; omega) | (((first | apply Go.iQ | apply Go.gQ | apply Go.sQ | apply Qg.gQ); exact rfl; (first | exact .d | exact .e | exact .n | ((fail_if_success exact bqt); (fail_if_success exact bqf); exact .b))) <;> intro _)
  all_goals refine .ret rfl (.bool ?_)
  all_goals rw [hq]
  all_goals clear hq hb
  all_goals simp_all
theorem eqUniqS_ok (xs ys : List Uniq) (hx : xs.length ≤ 34359738368) (hv : ∀ e ∈ xs, bUniq 34359738368 e) : Pure Tryz.prog 192 [.c (.fz (xs.map encUniq)), .c (.fz (ys.map encUniq))] (.c (.bool (xs == ys))) :=
  eqS_ok mixed c_laws_eqUniqueS_ok encUniq xs ys hx (fun _ => rfl) fun a ha b => eqUniq_ok a b (hv a ha)
structure Fk where
  cols : List Int
  table : List UInt8
  onDelete : Int
  onUpdate : Int
  deferred : Bool
  deriving DecidableEq
def encFk (a : Fk) : List Ce := [.fz (a.cols.map encI), .str a.table, .int .i64 a.onDelete, .int .i64 a.onUpdate, .bool a.deferred]
def bFk (N : Nat) (a : Fk) : Prop := a.cols.length ≤ N ∧ a.table.length ≤ N
def zFk (a : Fk) : Int → Int := chain [(zI a.cols), (fun l => l - a.table.length)]
theorem zFk_steps (a : Fk) : Steps [(zI a.cols), (fun l => l - a.table.length)] := (.cons (step_ints _) (.cons (step_str _) .nil))
theorem zFk_le (a : Fk) (l : Int) (h : 0 ≤ l) : zFk a l ≤ l := chain_le (zFk_steps a) l h
theorem bFk_of (a : Fk) (l : Int) (N : Nat) (h0 : 0 ≤ l) (h : 0 ≤ zFk a l) (hl : l ≤ N) : bFk N a := by
  have hh := chain_all (zFk_steps a) l h0 h
  obtain ⟨q0, u0, v0, w0⟩ := hh (zI a.cols) (by simp)
  obtain ⟨q1, u1, v1, w1⟩ := hh (fun l => l - a.table.length) (by simp)
  exact ⟨(ints_of w0 (by omega)), (by (try simp only at w1); omega)⟩
theorem szFk_ok (a : Fk) (left : Int) (hb : bFk 1125899906842624 a) (h0 : 0 ≤ left) (h1 : left ≤ 34359738368) : Pure Tryz.prog 258 [.agg (encFk a), .c (.int .i64 left)] (.c (.int .i64 (zFk a left))) := by
  refine Pure.run mixed c_laws_szFk_ok (Nat.le_of_ble_eq_true rfl) fun σ hS hA => ?_
  clear hS hA
  repeat' first | (apply Go.adm; exact rfl) | apply Go.qs | apply Qg.nil | ((first | apply Go.v2 | apply Go.v1); (first | exact leAdd | assumption); iterate 6 exact rfl) | ((first | apply Go.op | apply Go.sop | apply Qg.op); exact rfl; (first | exact aop_alloc | exact aop_new rfl rfl | exact aop_mksl rfl | exact aop_lenM rfl | exact rfl | exact aL rfl rfl rfl rfl rfl | exact aS rfl rfl rfl rfl rfl rfl rfl)) | ((first | apply Go.no | apply Go.sno | apply Qg.no); exact rfl)
  refine .pcall rfl rfl rfl (szInt64S_ok a.cols left hb.1 (by omega) (by omega)) ?_
  have y1 := step_ints a.cols left (by omega)
  generalize e1 : zI a.cols left = l1 at y1 ⊢
  have w2 : 0 ≤ l1 → IntKind.i64.wrap (l1 - a.table.length) = l1 - a.table.length := fun h => wrap64 (by have : a.table.length ≤ 1125899906842624 := hb.2; omega) (by omega)
  repeat' first | (apply Go.adm; exact rfl) | apply Go.qs | apply Qg.nil | ((first | apply Go.v2 | apply Go.v1); (first | exact leAdd | assumption); iterate 6 exact rfl) | ((first | apply Go.op | apply Go.sop | apply Qg.op); exact rfl; (first | exact aop_alloc | exact aop_new rfl rfl | exact aop_mksl rfl | exact aop_lenM rfl | exact rfl | exact aL rfl rfl rfl rfl rfl | exact aS rfl rfl rfl rfl rfl rfl rfl)) | ((first | apply Go.no | apply Go.sno | apply Qg.no); exact rfl) | (exfalso; omega) | (((first | apply Go.iQ | apply Go.gQ | apply Go.sQ | apply Qg.gQ); exact rfl; (first | exact .d | exact .e | exact .n | ((fail_if_success exact bqt); (fail_if_success exact bqf); exact .b))) <;> intro _)
  · refine .ret rfl (.int ?_)
    rename_i h
    simp only [zFk, chain, e1, if_pos h]
  · refine .ret rfl (.int ?_)
    rename_i g1 h
    have v2 := w2 (by omega)
    simp only [v2] at h
    simp only [zFk, chain, e1, if_neg g1, if_pos h]
  rename_i g1 g2
  have v2 := w2 (by omega)
  simp only [v2] at g2 ⊢
  obtain ⟨l2, e2⟩ : ∃ q, l1 - (a.table.length : Int) = q := ⟨_, rfl⟩
  rw [e2] at g2 ⊢
  refine .ret rfl (.int ?_)
  simp only [zFk, chain, e1, e2, if_neg g1, if_neg g2]
theorem szFkS_ok (xs : List Fk) (left : Int) (hx : xs.length ≤ 1125899906842624) (hv : ∀ e ∈ xs, bFk 1125899906842624 e) (h0 : 0 ≤ left) (h1 : left ≤ 34359738368) : Pure Tryz.prog 178 [.c (.fz (xs.map encFk)), .c (.int .i64 left)] (.c (.int .i64 (szL zFk xs left))) :=
  szS_ok mixed c_laws_szFkS_ok encFk zFk xs left hx h0 h1 (fun _ => rfl) zFk_le fun a ha l h2 h3 => szFk_ok a l (hv a ha) h2 (by omega)
theorem toFk_ok (a : Fk) (hb : bFk 34359738368 a) (σ : Store) : Ok Tryz.prog 263 [.agg (encFk a)] σ (NewL σ (encFk a)) := by
  refine Ok.run mixed c_laws_toFk_ok (Nat.le_of_ble_eq_true rfl) fun hS hA => ?_
  clear hS hA
  repeat' first | (apply Go.adm; exact rfl) | apply Go.qs | apply Qg.nil | ((first | apply Go.v2 | apply Go.v1); (first | exact leAdd | assumption); iterate 6 exact rfl) | ((first | apply Go.op | apply Go.sop | apply Qg.op); exact rfl; (first | exact aop_alloc | exact aop_new rfl rfl | exact aop_mksl rfl | exact aop_lenM rfl | exact rfl | exact aL rfl rfl rfl rfl rfl | exact aS rfl rfl rfl rfl rfl rfl rfl)) | ((first | apply Go.no | apply Go.sno | apply Qg.no); exact rfl) | (exfalso; omega) | (((first | apply Go.iQ | apply Go.gQ | apply Go.sQ | apply Qg.gQ); exact rfl; (first | exact .d | exact .e | exact .n | ((fail_if_success exact bqt); (fail_if_success exact bqf); exact .b))) <;> intro _)
  refine Go.call _ rfl rfl rfl (toInt64S_ok a.cols hb.1 _) ?_
  rintro r σ0 ⟨x0, m0, rfl, rfl, t0, h0⟩
  rw [E_E] at h0 ⊢
  have t0 := tidy_up t0
  have h0 := h0.new2
  repeat' first | (apply Go.adm; exact rfl) | apply Go.qs | apply Qg.nil | ((first | apply Go.v2 | apply Go.v1); (first | exact leAdd | assumption); iterate 6 exact rfl) | ((first | apply Go.op | apply Go.sop | apply Qg.op); exact rfl; (first | exact aop_alloc | exact aop_new rfl rfl | exact aop_mksl rfl | exact aop_lenM rfl | exact rfl | exact aL rfl rfl rfl rfl rfl | exact aS rfl rfl rfl rfl rfl rfl rfl)) | ((first | apply Go.no | apply Go.sno | apply Qg.no); exact rfl) | (exfalso; omega) | (((first | apply Go.iQ | apply Go.gQ | apply Go.sQ | apply Qg.gQ); exact rfl; (first | exact .d | exact .e | exact .n | ((fail_if_success exact bqt); (fail_if_success exact bqf); exact .b))) <;> intro _)
  have hL : HasL (E σ ((0, [[x0, .str a.table, .int .i64 a.onDelete, .int .i64 a.onUpdate, .bool a.deferred]]) :: (0, [[x0, .str a.table, .int .i64 a.onDelete, .int .i64 a.onUpdate, .bool a.deferred]]) :: ([] ++ m0))) (fun a => σ.next + 2 ≤ a ∧ a < σ.next + 2 + ([] ++ m0).length) (encFk a) [x0, .str a.table, .int .i64 a.onDelete, .int .i64 a.onUpdate, .bool a.deferred] := by
    refine HasL.mono ?_ (HasL.two (h0 _ _) (HasL.skip (.str _) (HasL.skip (.int _ _) (HasL.skip (.int _ _) (HasL.skip (.bool _) (HasL.nil (S := fun a => a < 0)))))) (fun a ha hb => by (try dsimp only at ha hb); (try simp only [List.append_eq, List.length_append, List.length_nil, List.nil_append] at ha hb); omega))
    intro a ha
    (try dsimp only at ha)
    (try simp only [List.append_eq, List.length_append, List.length_nil, List.nil_append] at ha ⊢)
    omega
  have hT := hL.tidy (n := σ.next) fun a ha => by have := ha.1; omega
  have hM : TidyL σ.next ([] ++ m0) := (tidy_pre (fun b hb => by simp at hb) t0)
  have hN : NewL σ (encFk a) (.agg [x0, .str a.table, .int .i64 a.onDelete, .int .i64 a.onUpdate, .bool a.deferred]) (E σ ((0, [[x0, .str a.table, .int .i64 a.onDelete, .int .i64 a.onUpdate, .bool a.deferred]]) :: (0, [[x0, .str a.table, .int .i64 a.onDelete, .int .i64 a.onUpdate, .bool a.deferred]]) :: ([] ++ m0))) := by
    refine ⟨_, _, rfl, rfl, .one hT (.one hT hM), hL.mono ?_⟩
    intro a ha
    have h9 := ha.1
    have h8 := ha.2
    (try simp only [E_next, List.length_cons, List.append_eq, List.length_append, List.length_nil, List.nil_append] at h8 ⊢)
    constructor <;> omega
  exact .ret (retv_m rfl rfl rfl (Nat.le_of_ble_eq_true rfl) rfl) hN
theorem toFkS_ok (xs : List Fk) (hx : xs.length ≤ 34359738368) (hv : ∀ e ∈ xs, bFk 34359738368 e) (σ : Store) : Ok Tryz.prog 185 [.c (.fz (xs.map encFk))] σ (New σ (.fz (xs.map encFk))) :=
  toS_ok mixed c_laws_toFkS_ok encFk xs hx (by decide) rfl (fun _ => rfl) (by intro x hx; simp only [List.mem_cons, List.not_mem_nil, or_false] at hx; rcases hx with rfl | rfl | rfl | rfl | rfl <;> constructor) (fun a ha σ => toFk_ok a (hv a ha) σ) σ
theorem Fk_beq (a b : Fk) : (a == b) = (a.cols == b.cols && a.table == b.table && a.onDelete == b.onDelete && a.onUpdate == b.onUpdate && a.deferred == b.deferred) := by
  obtain ⟨a0, a1, a2, a3, a4⟩ := a
  obtain ⟨b0, b1, b2, b3, b4⟩ := b
  rw [Bool.eq_iff_iff]
  simp [and_assoc]
theorem eqFk_ok (a b : Fk) (hb : bFk 34359738368 a) : Pure Tryz.prog 273 [.agg (encFk a), .agg (encFk b)] (.c (.bool (a == b))) := by
  refine Pure.run mixed c_laws_eqFk_ok (Nat.le_of_ble_eq_true rfl) fun σ hS hA => ?_
  clear hS hA
  have hq := Fk_beq a b
  repeat' first | (apply Go.adm; exact rfl) | apply Go.qs | apply Qg.nil | ((first | apply Go.v2 | apply Go.v1); (first | exact leAdd | assumption); iterate 6 exact rfl) | ((first | apply Go.op | apply Go.sop | apply Qg.op); exact rfl; (first | exact aop_alloc | exact aop_new rfl rfl | exact aop_mksl rfl | exact aop_lenM rfl | exact rfl | exact aL rfl rfl rfl rfl rfl | exact aS rfl rfl rfl rfl rfl rfl rfl)) | ((first | apply Go.no | apply Go.sno | apply Qg.no); exact rfl) | ((first | apply Go.pcallB | apply Go.spcallB | apply Qg.pcallB); (iterate 3 exact rfl); exact eqInt64S_ok a.cols b.cols hb.1; intro _ _) | (exfalso; omega) | (((first | apply Go.iQ | apply Go.gQ | apply Go.sQ | apply Qg.gQ); exact rfl; (first | exact .d | exact .e | exact .n | ((fail_if_success exact bqt); (fail_if_success exact bqf); exact .b))) <;> intro _)
  all_goals refine .ret rfl (.bool ?_)
  all_goals rw [hq]
  all_goals clear hq hb
  all_goals simp_all
theorem eqFkS_ok (xs ys : List Fk) (hx : xs.length ≤ 34359738368) (hv : ∀ e ∈ xs, bFk 34359738368 e) : Pure Tryz.prog 194 [.c (.fz (xs.map encFk)), .c (.fz (ys.map encFk))] (.c (.bool (xs == ys))) :=
  eqS_ok mixed c_laws_eqFkS_ok encFk xs ys hx (fun _ => rfl) fun a ha b => eqFk_ok a b (hv a ha)
structure Col where
  name : List UInt8
  kind : Int
  notNull : Bool
  dflt : Val
  deriving DecidableEq
def encCol (a : Col) : List Ce := [.str a.name, .int .i64 a.kind, .bool a.notNull, .int .i64 a.dflt.k, .int .i64 a.dflt.n, .str a.dflt.s]
theorem flatCol (a : Col) : ∀ x ∈ encCol a, Flat x := by
  intro x hx
  simp only [encCol, List.mem_cons, List.not_mem_nil, or_false] at hx
  rcases hx with rfl | rfl | rfl | rfl | rfl | rfl <;> constructor
def bCol (N : Nat) (a : Col) : Prop := a.name.length ≤ N ∧ bV N a.dflt
def zCol (a : Col) : Int → Int := chain [(fun l => l - a.name.length), (szV a.dflt)]
theorem zCol_steps (a : Col) : Steps [(fun l => l - a.name.length), (szV a.dflt)] := (.cons (step_str _) (.cons (fun l h => szV_le _ l h) .nil))
theorem zCol_le (a : Col) (l : Int) (h : 0 ≤ l) : zCol a l ≤ l := chain_le (zCol_steps a) l h
theorem bCol_of (a : Col) (l : Int) (N : Nat) (h0 : 0 ≤ l) (h : 0 ≤ zCol a l) (hl : l ≤ N) : bCol N a := by
  have hh := chain_all (zCol_steps a) l h0 h
  obtain ⟨q0, u0, v0, w0⟩ := hh (fun l => l - a.name.length) (by simp)
  obtain ⟨q1, u1, v1, w1⟩ := hh (szV a.dflt) (by simp)
  exact ⟨(by (try simp only at w0); omega), (bV_of w1 (by omega))⟩
theorem szCol_ok (a : Col) (left : Int) (hb : bCol 1125899906842624 a) (h0 : 0 ≤ left) (h1 : left ≤ 34359738368) : Pure Tryz.prog 255 [.agg (encCol a), .c (.int .i64 left)] (.c (.int .i64 (zCol a left))) := by
  refine Pure.run mixed c_laws_szCol_ok (Nat.le_of_ble_eq_true rfl) fun σ hS hA => ?_
  clear hS hA
  have w1 : 0 ≤ left → IntKind.i64.wrap (left - a.name.length) = left - a.name.length := fun h => wrap64 (by have : a.name.length ≤ 1125899906842624 := hb.1; omega) (by omega)
  repeat' first | (apply Go.adm; exact rfl) | apply Go.qs | apply Qg.nil | ((first | apply Go.v2 | apply Go.v1); (first | exact leAdd | assumption); iterate 6 exact rfl) | ((first | apply Go.op | apply Go.sop | apply Qg.op); exact rfl; (first | exact aop_alloc | exact aop_new rfl rfl | exact aop_mksl rfl | exact aop_lenM rfl | exact rfl | exact aL rfl rfl rfl rfl rfl | exact aS rfl rfl rfl rfl rfl rfl rfl)) | ((first | apply Go.no | apply Go.sno | apply Qg.no); exact rfl) | (exfalso; omega) | (((first | apply Go.iQ | apply Go.gQ | apply Go.sQ | apply Qg.gQ); exact rfl; (first | exact .d | exact .e | exact .n | ((fail_if_success exact bqt); (fail_if_success exact bqf); exact .b))) <;> intro _)
  · refine .ret rfl (.int ?_)
    rename_i h
    have v1 := w1 (by omega)
    simp only [v1] at h
    simp only [zCol, chain, if_pos h]
  rename_i g1
  have v1 := w1 (by omega)
  simp only [v1] at g1 ⊢
  obtain ⟨l1, e1⟩ : ∃ q, left - (a.name.length : Int) = q := ⟨_, rfl⟩
  rw [e1] at g1 ⊢
  refine .pcall rfl rfl rfl (szVal_ok a.dflt l1 hb.2 (by omega) (by omega)) ?_
  have y2 := szV_le a.dflt l1 (by omega)
  generalize e2 : szV a.dflt l1 = l2 at y2 ⊢
  repeat' first | (apply Go.adm; exact rfl) | apply Go.qs | apply Qg.nil | ((first | apply Go.v2 | apply Go.v1); (first | exact leAdd | assumption); iterate 6 exact rfl) | ((first | apply Go.op | apply Go.sop | apply Qg.op); exact rfl; (first | exact aop_alloc | exact aop_new rfl rfl | exact aop_mksl rfl | exact aop_lenM rfl | exact rfl | exact aL rfl rfl rfl rfl rfl | exact aS rfl rfl rfl rfl rfl rfl rfl)) | ((first | apply Go.no | apply Go.sno | apply Qg.no); exact rfl) | (exfalso; omega) | (((first | apply Go.iQ | apply Go.gQ | apply Go.sQ | apply Qg.gQ); exact rfl; (first | exact .d | exact .e | exact .n | ((fail_if_success exact bqt); (fail_if_success exact bqf); exact .b))) <;> intro _)
  · refine .ret rfl (.int ?_)
    rename_i h
    simp only [zCol, chain, e1, if_neg g1, e2, if_pos h]
  rename_i g2
  refine .ret rfl (.int ?_)
  simp only [zCol, chain, e1, if_neg g1, e2, if_neg g2]
theorem szColS_ok (xs : List Col) (left : Int) (hx : xs.length ≤ 1125899906842624) (hv : ∀ e ∈ xs, bCol 1125899906842624 e) (h0 : 0 ≤ left) (h1 : left ≤ 34359738368) : Pure Tryz.prog 175 [.c (.fz (xs.map encCol)), .c (.int .i64 left)] (.c (.int .i64 (szL zCol xs left))) :=
  szS_ok mixed c_laws_szColS_ok encCol zCol xs left hx h0 h1 (fun _ => rfl) zCol_le fun a ha l h2 h3 => szCol_ok a l (hv a ha) h2 (by omega)
theorem toCol_ok (a : Col) (hb : bCol 34359738368 a) (σ : Store) : Ok Tryz.prog 260 [.agg (encCol a)] σ (NewL σ (encCol a)) := by
  refine Ok.run mixed c_laws_toCol_ok (Nat.le_of_ble_eq_true rfl) fun hS hA => ?_
  clear hS hA
  repeat' first | (apply Go.adm; exact rfl) | apply Go.qs | apply Qg.nil | ((first | apply Go.v2 | apply Go.v1); (first | exact leAdd | assumption); iterate 6 exact rfl) | ((first | apply Go.op | apply Go.sop | apply Qg.op); exact rfl; (first | exact aop_alloc | exact aop_new rfl rfl | exact aop_mksl rfl | exact aop_lenM rfl | exact rfl | exact aL rfl rfl rfl rfl rfl | exact aS rfl rfl rfl rfl rfl rfl rfl)) | ((first | apply Go.no | apply Go.sno | apply Qg.no); exact rfl) | ((first | apply Go.pcall | apply Go.spcall | apply Qg.pcall); (iterate 3 exact rfl); exact NewL.pure (toVal_ok a.dflt)) | (exfalso; omega) | (((first | apply Go.iQ | apply Go.gQ | apply Go.sQ | apply Qg.gQ); exact rfl; (first | exact .d | exact .e | exact .n | ((fail_if_success exact bqt); (fail_if_success exact bqf); exact .b))) <;> intro _)
  refine .ret (retv_m rfl rfl rfl (Nat.le_of_ble_eq_true rfl) rfl) ⟨encCol a, _, rfl, rfl, ?_, .flat (flatCol a)⟩
  show TidyL σ.next [(0, [encCol a]), (0, [encCol a])]
  exact .one (fun x hx => .flat (flatCol a x hx)) (.one (fun x hx => .flat (flatCol a x hx)) .nil)
theorem toColS_ok (xs : List Col) (hx : xs.length ≤ 34359738368) (hv : ∀ e ∈ xs, bCol 34359738368 e) (σ : Store) : Ok Tryz.prog 182 [.c (.fz (xs.map encCol))] σ (New σ (.fz (xs.map encCol))) :=
  toS_ok mixed c_laws_toColS_ok encCol xs hx (by decide) rfl (fun _ => rfl) (by intro x hx; simp only [List.mem_cons, List.not_mem_nil, or_false] at hx; rcases hx with rfl | rfl | rfl | rfl | rfl | rfl <;> constructor) (fun a ha σ => toCol_ok a (hv a ha) σ) σ
theorem Col_beq (a b : Col) : (a == b) = (a.name == b.name && a.kind == b.kind && a.notNull == b.notNull && a.dflt == b.dflt) := by
  obtain ⟨a0, a1, a2, a3⟩ := a
  obtain ⟨b0, b1, b2, b3⟩ := b
  rw [Bool.eq_iff_iff]
  simp [and_assoc]
theorem eqCol_ok (a b : Col) (hb : bCol 34359738368 a) : Pure Tryz.prog 270 [.agg (encCol a), .agg (encCol b)] (.c (.bool (a == b))) := by
  refine Pure.run mixed c_laws_eqCol_ok (Nat.le_of_ble_eq_true rfl) fun σ hS hA => ?_
  clear hS hA
  have hq := Col_beq a b
  repeat' first | (apply Go.adm; exact rfl) | apply Go.qs | apply Qg.nil | ((first | apply Go.v2 | apply Go.v1); (first | exact leAdd | assumption); iterate 6 exact rfl) | ((first | apply Go.op | apply Go.sop | apply Qg.op); exact rfl; (first | exact aop_alloc | exact aop_new rfl rfl | exact aop_mksl rfl | exact aop_lenM rfl | exact rfl | exact aL rfl rfl rfl rfl rfl | exact aS rfl rfl rfl rfl rfl rfl rfl)) | ((first | apply Go.no | apply Go.sno | apply Qg.no); exact rfl) | ((first | apply Go.pcallB | apply Go.spcallB | apply Qg.pcallB); (iterate 3 exact rfl); exact eqVal_ok a.dflt b.dflt; intro _ _) | (exfalso; omega) | (((first | apply Go.iQ | apply Go.gQ | apply Go.sQ | apply Qg.gQ); exact rfl; (first | exact .d | exact .e | exact .n | ((fail_if_success exact bqt); (fail_if_success exact bqf); exact .b))) <;> intro _)
  all_goals refine .ret rfl (.bool ?_)
  all_goals rw [hq]
  all_goals clear hq hb
  all_goals simp_all
theorem eqColS_ok (xs ys : List Col) (hx : xs.length ≤ 34359738368) (hv : ∀ e ∈ xs, bCol 34359738368 e) : Pure Tryz.prog 191 [.c (.fz (xs.map encCol)), .c (.fz (ys.map encCol))] (.c (.bool (xs == ys))) :=
  eqS_ok mixed c_laws_eqColS_ok encCol xs ys hx (fun _ => rfl) fun a ha b => eqCol_ok a b (hv a ha)
end Go.Proofs.YtcfpdongfdhgjaaGreat.Am

/- The laws' helpers on types, printed by a program: Table, Term, Select, Trigger. -/
set_option linter.unusedVariables false
set_option linter.unusedSimpArgs false
namespace Go.Proofs.YtcfpdongfdhgjaaGreat.Am
structure Table where
  name : List UInt8
  cols : List Col
  key : List Int
  uniques : List Uniq
  checks : List Chk
  fks : List Fk
  deriving DecidableEq
def encTable (a : Table) : List Ce := [.str a.name, .fz (a.cols.map encCol), .fz (a.key.map encI), .fz (a.uniques.map encUniq), .fz (a.checks.map encChk), .fz (a.fks.map encFk)]
def bTable (N : Nat) (a : Table) : Prop := a.name.length ≤ N ∧ (a.cols.length ≤ N ∧ ∀ x ∈ a.cols, bCol N x) ∧ a.key.length ≤ N ∧ (a.uniques.length ≤ N ∧ ∀ x ∈ a.uniques, bUniq N x) ∧ (a.checks.length ≤ N ∧ ∀ x ∈ a.checks, bChk N x) ∧ (a.fks.length ≤ N ∧ ∀ x ∈ a.fks, bFk N x)
def zTable (a : Table) : Int → Int := chain [(fun l => l - a.name.length), (szL zCol a.cols), (zI a.key), (szL zUniq a.uniques), (szL zChk a.checks), (szL zFk a.fks)]
theorem zTable_steps (a : Table) : Steps [(fun l => l - a.name.length), (szL zCol a.cols), (zI a.key), (szL zUniq a.uniques), (szL zChk a.checks), (szL zFk a.fks)] := (.cons (step_str _) (.cons (fun l h => szL_le zCol_le _ l h) (.cons (step_ints _) (.cons (fun l h => szL_le zUniq_le _ l h) (.cons (fun l h => szL_le zChk_le _ l h) (.cons (fun l h => szL_le zFk_le _ l h) .nil))))))
theorem zTable_le (a : Table) (l : Int) (h : 0 ≤ l) : zTable a l ≤ l := chain_le (zTable_steps a) l h
theorem bTable_of (a : Table) (l : Int) (N : Nat) (h0 : 0 ≤ l) (h : 0 ≤ zTable a l) (hl : l ≤ N) : bTable N a := by
  have hh := chain_all (zTable_steps a) l h0 h
  obtain ⟨q0, u0, v0, w0⟩ := hh (fun l => l - a.name.length) (by simp)
  obtain ⟨q1, u1, v1, w1⟩ := hh (szL zCol a.cols) (by simp)
  obtain ⟨q2, u2, v2, w2⟩ := hh (zI a.key) (by simp)
  obtain ⟨q3, u3, v3, w3⟩ := hh (szL zUniq a.uniques) (by simp)
  obtain ⟨q4, u4, v4, w4⟩ := hh (szL zChk a.checks) (by simp)
  obtain ⟨q5, u5, v5, w5⟩ := hh (szL zFk a.fks) (by simp)
  exact ⟨(by (try simp only at w0); omega), (list_of zCol_le bCol_of u1 w1 (by omega)), (ints_of w2 (by omega)), (list_of zUniq_le bUniq_of u3 w3 (by omega)), (list_of zChk_le bChk_of u4 w4 (by omega)), (list_of zFk_le bFk_of u5 w5 (by omega))⟩
theorem szTable_ok (a : Table) (left : Int) (hb : bTable 1125899906842624 a) (h0 : 0 ≤ left) (h1 : left ≤ 34359738368) : Pure Tryz.prog 71 [.agg (encTable a), .c (.int .i64 left)] (.c (.int .i64 (zTable a left))) := by
  refine Pure.run mixed c_laws_szTable_ok (Nat.le_of_ble_eq_true rfl) fun σ hS hA => ?_
  clear hS hA
  have w1 : 0 ≤ left → IntKind.i64.wrap (left - a.name.length) = left - a.name.length := fun h => wrap64 (by have : a.name.length ≤ 1125899906842624 := hb.1; omega) (by omega)
  repeat' first | (apply Go.adm; exact rfl) | apply Go.qs | apply Qg.nil | ((first | apply Go.v2 | apply Go.v1); (first | exact leAdd | assumption); iterate 6 exact rfl) | ((first | apply Go.op | apply Go.sop | apply Qg.op); exact rfl; (first | exact aop_alloc | exact aop_new rfl rfl | exact aop_mksl rfl | exact aop_lenM rfl | exact rfl | exact aL rfl rfl rfl rfl rfl | exact aS rfl rfl rfl rfl rfl rfl rfl)) | ((first | apply Go.no | apply Go.sno | apply Qg.no); exact rfl) | (exfalso; omega) | (((first | apply Go.iQ | apply Go.gQ | apply Go.sQ | apply Qg.gQ); exact rfl; (first | exact .d | exact .e | exact .n | ((fail_if_success exact bqt); (fail_if_success exact bqf); exact .b))) <;> intro _)
  · refine .ret rfl (.int ?_)
    rename_i h
    have v1 := w1 (by omega)
    simp only [v1] at h
    simp only [zTable, chain, if_pos h]
  rename_i g1
  have v1 := w1 (by omega)
  simp only [v1] at g1 ⊢
  obtain ⟨l1, e1⟩ : ∃ q, left - (a.name.length : Int) = q := ⟨_, rfl⟩
  rw [e1] at g1 ⊢
  refine .pcall rfl rfl rfl (szColS_ok a.cols l1 hb.2.1.1 hb.2.1.2 (by omega) (by omega)) ?_
  have y2 := szL_le zCol_le a.cols l1 (by omega)
  generalize e2 : szL zCol a.cols l1 = l2 at y2 ⊢
  repeat' first | (apply Go.adm; exact rfl) | apply Go.qs | apply Qg.nil | ((first | apply Go.v2 | apply Go.v1); (first | exact leAdd | assumption); iterate 6 exact rfl) | ((first | apply Go.op | apply Go.sop | apply Qg.op); exact rfl; (first | exact aop_alloc | exact aop_new rfl rfl | exact aop_mksl rfl | exact aop_lenM rfl | exact rfl | exact aL rfl rfl rfl rfl rfl | exact aS rfl rfl rfl rfl rfl rfl rfl)) | ((first | apply Go.no | apply Go.sno | apply Qg.no); exact rfl) | (exfalso; omega) | (((first | apply Go.iQ | apply Go.gQ | apply Go.sQ | apply Qg.gQ); exact rfl; (first | exact .d | exact .e | exact .n | ((fail_if_success exact bqt); (fail_if_success exact bqf); exact .b))) <;> intro _)
  · refine .ret rfl (.int ?_)
    rename_i h
    simp only [zTable, chain, e1, if_neg g1, e2, if_pos h]
  rename_i g2
  refine .pcall rfl rfl rfl (szInt64S_ok a.key l2 hb.2.2.1 (by omega) (by omega)) ?_
  have y3 := step_ints a.key l2 (by omega)
  generalize e3 : zI a.key l2 = l3 at y3 ⊢
  repeat' first | (apply Go.adm; exact rfl) | apply Go.qs | apply Qg.nil | ((first | apply Go.v2 | apply Go.v1); (first | exact leAdd | assumption); iterate 6 exact rfl) | ((first | apply Go.op | apply Go.sop | apply Qg.op); exact rfl; (first | exact aop_alloc | exact aop_new rfl rfl | exact aop_mksl rfl | exact aop_lenM rfl | exact rfl | exact aL rfl rfl rfl rfl rfl | exact aS rfl rfl rfl rfl rfl rfl rfl)) | ((first | apply Go.no | apply Go.sno | apply Qg.no); exact rfl) | (exfalso; omega) | (((first | apply Go.iQ | apply Go.gQ | apply Go.sQ | apply Qg.gQ); exact rfl; (first | exact .d | exact .e | exact .n | ((fail_if_success exact bqt); (fail_if_success exact bqf); exact .b))) <;> intro _)
  · refine .ret rfl (.int ?_)
    rename_i h
    simp only [zTable, chain, e1, if_neg g1, e2, if_neg g2, e3, if_pos h]
  rename_i g3
  refine .pcall rfl rfl rfl (szUniqS_ok a.uniques l3 hb.2.2.2.1.1 hb.2.2.2.1.2 (by omega) (by omega)) ?_
  have y4 := szL_le zUniq_le a.uniques l3 (by omega)
  generalize e4 : szL zUniq a.uniques l3 = l4 at y4 ⊢
  repeat' first | (apply Go.adm; exact rfl) | apply Go.qs | apply Qg.nil | ((first | apply Go.v2 | apply Go.v1); (first | exact leAdd | assumption); iterate 6 exact rfl) | ((first | apply Go.op | apply Go.sop | apply Qg.op); exact rfl; (first | exact aop_alloc | exact aop_new rfl rfl | exact aop_mksl rfl | exact aop_lenM rfl | exact rfl | exact aL rfl rfl rfl rfl rfl | exact aS rfl rfl rfl rfl rfl rfl rfl)) | ((first | apply Go.no | apply Go.sno | apply Qg.no); exact rfl) | (exfalso; omega) | (((first | apply Go.iQ | apply Go.gQ | apply Go.sQ | apply Qg.gQ); exact rfl; (first | exact .d | exact .e | exact .n | ((fail_if_success exact bqt); (fail_if_success exact bqf); exact .b))) <;> intro _)
  · refine .ret rfl (.int ?_)
    rename_i h
    simp only [zTable, chain, e1, if_neg g1, e2, if_neg g2, e3, if_neg g3, e4, if_pos h]
  rename_i g4
  refine .pcall rfl rfl rfl (szChkS_ok a.checks l4 hb.2.2.2.2.1.1 hb.2.2.2.2.1.2 (by omega) (by omega)) ?_
  have y5 := szL_le zChk_le a.checks l4 (by omega)
  generalize e5 : szL zChk a.checks l4 = l5 at y5 ⊢
  repeat' first | (apply Go.adm; exact rfl) | apply Go.qs | apply Qg.nil | ((first | apply Go.v2 | apply Go.v1); (first | exact leAdd | assumption); iterate 6 exact rfl) | ((first | apply Go.op | apply Go.sop | apply Qg.op); exact rfl; (first | exact aop_alloc | exact aop_new rfl rfl | exact aop_mksl rfl | exact aop_lenM rfl | exact rfl | exact aL rfl rfl rfl rfl rfl | exact aS rfl rfl rfl rfl rfl rfl rfl)) | ((first | apply Go.no | apply Go.sno | apply Qg.no); exact rfl) | (exfalso; omega) | (((first | apply Go.iQ | apply Go.gQ | apply Go.sQ | apply Qg.gQ); exact rfl; (first | exact .d | exact .e | exact .n | ((fail_if_success exact bqt); (fail_if_success exact bqf); exact .b))) <;> intro _)
  · refine .ret rfl (.int ?_)
    rename_i h
    simp only [zTable, chain, e1, if_neg g1, e2, if_neg g2, e3, if_neg g3, e4, if_neg g4, e5, if_pos h]
  rename_i g5
  refine .pcall rfl rfl rfl (szFkS_ok a.fks l5 hb.2.2.2.2.2.1 hb.2.2.2.2.2.2 (by omega) (by omega)) ?_
  have y6 := szL_le zFk_le a.fks l5 (by omega)
  generalize e6 : szL zFk a.fks l5 = l6 at y6 ⊢
  repeat' first | (apply Go.adm; exact rfl) | apply Go.qs | apply Qg.nil | ((first | apply Go.v2 | apply Go.v1); (first | exact leAdd | assumption); iterate 6 exact rfl) | ((first | apply Go.op | apply Go.sop | apply Qg.op); exact rfl; (first | exact aop_alloc | exact aop_new rfl rfl | exact aop_mksl rfl | exact aop_lenM rfl | exact rfl | exact aL rfl rfl rfl rfl rfl | exact aS rfl rfl rfl rfl rfl rfl rfl)) | ((first | apply Go.no | apply Go.sno | apply Qg.no); exact rfl) | (exfalso; omega) | (((first | apply Go.iQ | apply Go.gQ | apply Go.sQ | apply Qg.gQ); exact rfl; (first | exact .d | exact .e | exact .n | ((fail_if_success exact bqt); (fail_if_success exact bqf); exact .b))) <;> intro _)
  · refine .ret rfl (.int ?_)
    rename_i h
    simp only [zTable, chain, e1, if_neg g1, e2, if_neg g2, e3, if_neg g3, e4, if_neg g4, e5, if_neg g5, e6, if_pos h]
  rename_i g6
  refine .ret rfl (.int ?_)
  simp only [zTable, chain, e1, if_neg g1, e2, if_neg g2, e3, if_neg g3, e4, if_neg g4, e5, if_neg g5, e6, if_neg g6]
theorem szTableS_ok (xs : List Table) (left : Int) (hx : xs.length ≤ 1125899906842624) (hv : ∀ e ∈ xs, bTable 1125899906842624 e) (h0 : 0 ≤ left) (h1 : left ≤ 34359738368) : Pure Tryz.prog 12 [.c (.fz (xs.map encTable)), .c (.int .i64 left)] (.c (.int .i64 (szL zTable xs left))) :=
  szS_ok mixed c_laws_szTableS_ok encTable zTable xs left hx h0 h1 (fun _ => rfl) zTable_le fun a ha l h2 h3 => szTable_ok a l (hv a ha) h2 (by omega)
theorem toTable_ok (a : Table) (hb : bTable 34359738368 a) (σ : Store) : Ok Tryz.prog 74 [.agg (encTable a)] σ (NewL σ (encTable a)) := by
  refine Ok.run mixed c_laws_toTable_ok (Nat.le_of_ble_eq_true rfl) fun hS hA => ?_
  clear hS hA
  repeat' first | (apply Go.adm; exact rfl) | apply Go.qs | apply Qg.nil | ((first | apply Go.v2 | apply Go.v1); (first | exact leAdd | assumption); iterate 6 exact rfl) | ((first | apply Go.op | apply Go.sop | apply Qg.op); exact rfl; (first | exact aop_alloc | exact aop_new rfl rfl | exact aop_mksl rfl | exact aop_lenM rfl | exact rfl | exact aL rfl rfl rfl rfl rfl | exact aS rfl rfl rfl rfl rfl rfl rfl)) | ((first | apply Go.no | apply Go.sno | apply Qg.no); exact rfl) | (exfalso; omega) | (((first | apply Go.iQ | apply Go.gQ | apply Go.sQ | apply Qg.gQ); exact rfl; (first | exact .d | exact .e | exact .n | ((fail_if_success exact bqt); (fail_if_success exact bqf); exact .b))) <;> intro _)
  refine Go.call _ rfl rfl rfl (toColS_ok a.cols hb.2.1.1 hb.2.1.2 _) ?_
  rintro r σ0 ⟨x0, m0, rfl, rfl, t0, h0⟩
  rw [E_E] at h0 ⊢
  have t0 := tidy_up t0
  have h0 := h0.new2
  repeat' first | (apply Go.adm; exact rfl) | apply Go.qs | apply Qg.nil | ((first | apply Go.v2 | apply Go.v1); (first | exact leAdd | assumption); iterate 6 exact rfl) | ((first | apply Go.op | apply Go.sop | apply Qg.op); exact rfl; (first | exact aop_alloc | exact aop_new rfl rfl | exact aop_mksl rfl | exact aop_lenM rfl | exact rfl | exact aL rfl rfl rfl rfl rfl | exact aS rfl rfl rfl rfl rfl rfl rfl)) | ((first | apply Go.no | apply Go.sno | apply Qg.no); exact rfl) | (exfalso; omega) | (((first | apply Go.iQ | apply Go.gQ | apply Go.sQ | apply Qg.gQ); exact rfl; (first | exact .d | exact .e | exact .n | ((fail_if_success exact bqt); (fail_if_success exact bqf); exact .b))) <;> intro _)
  refine Go.call _ rfl rfl rfl (toInt64S_ok a.key hb.2.2.1 _) ?_
  rintro r σ1 ⟨x1, m1, rfl, rfl, t1, h1⟩
  rw [E_E] at h1 ⊢
  have t1 := tidy_up t1
  have h1 := h1.new2
  have h0 := Has.more h0 (fun a ha => by have h9 := ha.1; have h8 := ha.2; simp only [List.append_eq, List.length_nil, List.length_append, List.nil_append] at h9 h8 ⊢; omega) m1
  repeat' first | (apply Go.adm; exact rfl) | apply Go.qs | apply Qg.nil | ((first | apply Go.v2 | apply Go.v1); (first | exact leAdd | assumption); iterate 6 exact rfl) | ((first | apply Go.op | apply Go.sop | apply Qg.op); exact rfl; (first | exact aop_alloc | exact aop_new rfl rfl | exact aop_mksl rfl | exact aop_lenM rfl | exact rfl | exact aL rfl rfl rfl rfl rfl | exact aS rfl rfl rfl rfl rfl rfl rfl)) | ((first | apply Go.no | apply Go.sno | apply Qg.no); exact rfl) | (exfalso; omega) | (((first | apply Go.iQ | apply Go.gQ | apply Go.sQ | apply Qg.gQ); exact rfl; (first | exact .d | exact .e | exact .n | ((fail_if_success exact bqt); (fail_if_success exact bqf); exact .b))) <;> intro _)
  refine Go.call _ rfl rfl rfl (toUniqS_ok a.uniques hb.2.2.2.1.1 hb.2.2.2.1.2 _) ?_
  rintro r σ2 ⟨x2, m2, rfl, rfl, t2, h2⟩
  rw [E_E] at h2 ⊢
  have t2 := tidy_up t2
  have h2 := h2.new2
  have h0 := Has.more h0 (fun a ha => by have h9 := ha.1; have h8 := ha.2; simp only [List.append_eq, List.length_nil, List.length_append, List.nil_append] at h9 h8 ⊢; omega) m2
  have h1 := Has.more h1 (fun a ha => by have h9 := ha.1; have h8 := ha.2; simp only [List.append_eq, List.length_nil, List.length_append, List.nil_append] at h9 h8 ⊢; omega) m2
  repeat' first | (apply Go.adm; exact rfl) | apply Go.qs | apply Qg.nil | ((first | apply Go.v2 | apply Go.v1); (first | exact leAdd | assumption); iterate 6 exact rfl) | ((first | apply Go.op | apply Go.sop | apply Qg.op); exact rfl; (first | exact aop_alloc | exact aop_new rfl rfl | exact aop_mksl rfl | exact aop_lenM rfl | exact rfl | exact aL rfl rfl rfl rfl rfl | exact aS rfl rfl rfl rfl rfl rfl rfl)) | ((first | apply Go.no | apply Go.sno | apply Qg.no); exact rfl) | (exfalso; omega) | (((first | apply Go.iQ | apply Go.gQ | apply Go.sQ | apply Qg.gQ); exact rfl; (first | exact .d | exact .e | exact .n | ((fail_if_success exact bqt); (fail_if_success exact bqf); exact .b))) <;> intro _)
  refine Go.call _ rfl rfl rfl (toChkS_ok a.checks hb.2.2.2.2.1.1 hb.2.2.2.2.1.2 _) ?_
  rintro r σ3 ⟨x3, m3, rfl, rfl, t3, h3⟩
  rw [E_E] at h3 ⊢
  have t3 := tidy_up t3
  have h3 := h3.new2
  have h0 := Has.more h0 (fun a ha => by have h9 := ha.1; have h8 := ha.2; simp only [List.append_eq, List.length_nil, List.length_append, List.nil_append] at h9 h8 ⊢; omega) m3
  have h1 := Has.more h1 (fun a ha => by have h9 := ha.1; have h8 := ha.2; simp only [List.append_eq, List.length_nil, List.length_append, List.nil_append] at h9 h8 ⊢; omega) m3
  have h2 := Has.more h2 (fun a ha => by have h9 := ha.1; have h8 := ha.2; simp only [List.append_eq, List.length_nil, List.length_append, List.nil_append] at h9 h8 ⊢; omega) m3
  repeat' first | (apply Go.adm; exact rfl) | apply Go.qs | apply Qg.nil | ((first | apply Go.v2 | apply Go.v1); (first | exact leAdd | assumption); iterate 6 exact rfl) | ((first | apply Go.op | apply Go.sop | apply Qg.op); exact rfl; (first | exact aop_alloc | exact aop_new rfl rfl | exact aop_mksl rfl | exact aop_lenM rfl | exact rfl | exact aL rfl rfl rfl rfl rfl | exact aS rfl rfl rfl rfl rfl rfl rfl)) | ((first | apply Go.no | apply Go.sno | apply Qg.no); exact rfl) | (exfalso; omega) | (((first | apply Go.iQ | apply Go.gQ | apply Go.sQ | apply Qg.gQ); exact rfl; (first | exact .d | exact .e | exact .n | ((fail_if_success exact bqt); (fail_if_success exact bqf); exact .b))) <;> intro _)
  refine Go.call _ rfl rfl rfl (toFkS_ok a.fks hb.2.2.2.2.2.1 hb.2.2.2.2.2.2 _) ?_
  rintro r σ4 ⟨x4, m4, rfl, rfl, t4, h4⟩
  rw [E_E] at h4 ⊢
  have t4 := tidy_up t4
  have h4 := h4.new2
  have h0 := Has.more h0 (fun a ha => by have h9 := ha.1; have h8 := ha.2; simp only [List.append_eq, List.length_nil, List.length_append, List.nil_append] at h9 h8 ⊢; omega) m4
  have h1 := Has.more h1 (fun a ha => by have h9 := ha.1; have h8 := ha.2; simp only [List.append_eq, List.length_nil, List.length_append, List.nil_append] at h9 h8 ⊢; omega) m4
  have h2 := Has.more h2 (fun a ha => by have h9 := ha.1; have h8 := ha.2; simp only [List.append_eq, List.length_nil, List.length_append, List.nil_append] at h9 h8 ⊢; omega) m4
  have h3 := Has.more h3 (fun a ha => by have h9 := ha.1; have h8 := ha.2; simp only [List.append_eq, List.length_nil, List.length_append, List.nil_append] at h9 h8 ⊢; omega) m4
  repeat' first | (apply Go.adm; exact rfl) | apply Go.qs | apply Qg.nil | ((first | apply Go.v2 | apply Go.v1); (first | exact leAdd | assumption); iterate 6 exact rfl) | ((first | apply Go.op | apply Go.sop | apply Qg.op); exact rfl; (first | exact aop_alloc | exact aop_new rfl rfl | exact aop_mksl rfl | exact aop_lenM rfl | exact rfl | exact aL rfl rfl rfl rfl rfl | exact aS rfl rfl rfl rfl rfl rfl rfl)) | ((first | apply Go.no | apply Go.sno | apply Qg.no); exact rfl) | (exfalso; omega) | (((first | apply Go.iQ | apply Go.gQ | apply Go.sQ | apply Qg.gQ); exact rfl; (first | exact .d | exact .e | exact .n | ((fail_if_success exact bqt); (fail_if_success exact bqf); exact .b))) <;> intro _)
  have hL : HasL (E σ ((0, [[.str a.name, x0, x1, x2, x3, x4]]) :: (0, [[.str a.name, x0, x1, x2, x3, x4]]) :: ([] ++ m0 ++ m1 ++ m2 ++ m3 ++ m4))) (fun a => σ.next + 2 ≤ a ∧ a < σ.next + 2 + ([] ++ m0 ++ m1 ++ m2 ++ m3 ++ m4).length) (encTable a) [.str a.name, x0, x1, x2, x3, x4] := by
    refine HasL.mono ?_ (HasL.skip (.str _) (HasL.two (h0 _ _) (HasL.two (h1 _ _) (HasL.two (h2 _ _) (HasL.two (h3 _ _) (HasL.two (h4 _ _) (HasL.nil (S := fun a => a < 0)) (fun a ha hb => by (try dsimp only at ha hb); (try simp only [List.append_eq, List.length_append, List.length_nil, List.nil_append] at ha hb); omega)) (fun a ha hb => by (try dsimp only at ha hb); (try simp only [List.append_eq, List.length_append, List.length_nil, List.nil_append] at ha hb); omega)) (fun a ha hb => by (try dsimp only at ha hb); (try simp only [List.append_eq, List.length_append, List.length_nil, List.nil_append] at ha hb); omega)) (fun a ha hb => by (try dsimp only at ha hb); (try simp only [List.append_eq, List.length_append, List.length_nil, List.nil_append] at ha hb); omega)) (fun a ha hb => by (try dsimp only at ha hb); (try simp only [List.append_eq, List.length_append, List.length_nil, List.nil_append] at ha hb); omega)))
    intro a ha
    (try dsimp only at ha)
    (try simp only [List.append_eq, List.length_append, List.length_nil, List.nil_append] at ha ⊢)
    omega
  have hT := hL.tidy (n := σ.next) fun a ha => by have := ha.1; omega
  have hM : TidyL σ.next ([] ++ m0 ++ m1 ++ m2 ++ m3 ++ m4) := (tidy_pre (tidy_pre (tidy_pre (tidy_pre (tidy_pre (fun b hb => by simp at hb) t0) t1) t2) t3) t4)
  have hN : NewL σ (encTable a) (.agg [.str a.name, x0, x1, x2, x3, x4]) (E σ ((0, [[.str a.name, x0, x1, x2, x3, x4]]) :: (0, [[.str a.name, x0, x1, x2, x3, x4]]) :: ([] ++ m0 ++ m1 ++ m2 ++ m3 ++ m4))) := by
    refine ⟨_, _, rfl, rfl, .one hT (.one hT hM), hL.mono ?_⟩
    intro a ha
    have h9 := ha.1
    have h8 := ha.2
    (try simp only [E_next, List.length_cons, List.append_eq, List.length_append, List.length_nil, List.nil_append] at h8 ⊢)
    constructor <;> omega
  exact .ret (retv_m rfl rfl rfl (Nat.le_of_ble_eq_true rfl) rfl) hN
theorem toTableS_ok (xs : List Table) (hx : xs.length ≤ 34359738368) (hv : ∀ e ∈ xs, bTable 34359738368 e) (σ : Store) : Ok Tryz.prog 14 [.c (.fz (xs.map encTable))] σ (New σ (.fz (xs.map encTable))) :=
  toS_ok mixed c_laws_toTableS_ok encTable xs hx (by decide) rfl (fun _ => rfl) (by intro x hx; simp only [List.mem_cons, List.not_mem_nil, or_false] at hx; rcases hx with rfl | rfl | rfl | rfl | rfl | rfl <;> constructor) (fun a ha σ => toTable_ok a (hv a ha) σ) σ
theorem Table_beq (a b : Table) : (a == b) = (a.name == b.name && a.cols == b.cols && a.key == b.key && a.uniques == b.uniques && a.checks == b.checks && a.fks == b.fks) := by
  obtain ⟨a0, a1, a2, a3, a4, a5⟩ := a
  obtain ⟨b0, b1, b2, b3, b4, b5⟩ := b
  rw [Bool.eq_iff_iff]
  simp [and_assoc]
theorem eqTable_ok (a b : Table) (hb : bTable 34359738368 a) : Pure Tryz.prog 78 [.agg (encTable a), .agg (encTable b)] (.c (.bool (a == b))) := by
  refine Pure.run mixed c_laws_eqTable_ok (Nat.le_of_ble_eq_true rfl) fun σ hS hA => ?_
  clear hS hA
  have hq := Table_beq a b
  repeat' first | (apply Go.adm; exact rfl) | apply Go.qs | apply Qg.nil | ((first | apply Go.v2 | apply Go.v1); (first | exact leAdd | assumption); iterate 6 exact rfl) | ((first | apply Go.op | apply Go.sop | apply Qg.op); exact rfl; (first | exact aop_alloc | exact aop_new rfl rfl | exact aop_mksl rfl | exact aop_lenM rfl | exact rfl | exact aL rfl rfl rfl rfl rfl | exact aS rfl rfl rfl rfl rfl rfl rfl)) | ((first | apply Go.no | apply Go.sno | apply Qg.no); exact rfl) | ((first | apply Go.pcallB | apply Go.spcallB | apply Qg.pcallB); (iterate 3 exact rfl); (first | exact eqColS_ok a.cols b.cols hb.2.1.1 hb.2.1.2 | exact eqInt64S_ok a.key b.key hb.2.2.1 | exact eqUniqS_ok a.uniques b.uniques hb.2.2.2.1.1 hb.2.2.2.1.2 | exact eqChkS_ok a.checks b.checks hb.2.2.2.2.1.1 hb.2.2.2.2.1.2 | exact eqFkS_ok a.fks b.fks hb.2.2.2.2.2.1 hb.2.2.2.2.2.2); intro _ _) | (exfalso; omega) | (((first | apply Go.iQ | apply Go.gQ | apply Go.sQ | apply Qg.gQ); exact rfl; (first | exact .d | exact .e | exact .n | ((fail_if_success exact bqt); (fail_if_success exact bqf); exact .b))) <;> intro _)
  all_goals refine .ret rfl (.bool ?_)
  all_goals rw [hq]
  all_goals clear hq hb
  all_goals simp_all
theorem eqTableS_ok (xs ys : List Table) (hx : xs.length ≤ 34359738368) (hv : ∀ e ∈ xs, bTable 34359738368 e) : Pure Tryz.prog 17 [.c (.fz (xs.map encTable)), .c (.fz (ys.map encTable))] (.c (.bool (xs == ys))) :=
  eqS_ok mixed c_laws_eqTableS_ok encTable xs ys hx (fun _ => rfl) fun a ha b => eqTable_ok a b (hv a ha)
structure Term where
  expr : List Tok
  deriving DecidableEq
structure Sel where
  table : List UInt8
  terms : List Term
  wher : List Tok
  by_ : List Int
  most : Int
  deriving DecidableEq
structure Trigger where
  table : List UInt8
  event : Int
  when_ : List Tok
  into : List UInt8
  terms : List Term
  deriving DecidableEq
end Go.Proofs.YtcfpdongfdhgjaaGreat.Am

/- Names and expressions: what the program and its reference say of them. -/
set_option linter.unusedVariables false
set_option linter.unusedSimpArgs false
namespace Go.Proofs.YtcfpdongfdhgjaaGreat.Am

theorem aop_idxS {fr : Fr} {σ : Store} {x y : Opd} {kd : IntKind} {s : List UInt8} {z : Int} {n : Nat} (hx : x.ev fr = some (.c (.str s))) (hy : y.ev fr = some (.c (.int kd z))) (hz : z = (n : Int)) (hn : n < s.length) : aop (.idx x y) fr σ = some (.c (.int .u8 (s[n].toNat : Int)), σ) := by
  subst hz
  simp [aop, hx, hy, hn]
def letter (c : UInt8) : Bool := decide (97 ≤ c.toNat) && decide (c.toNat ≤ 122)
def isNameF (s : List UInt8) : Bool := s.all letter && isIn s.length 1 8
theorem isName_ok (s : List UInt8) (hx : s.length ≤ 34359738368) : Pure Tryz.prog 144 [.c (.str s)] (.c (.bool (isNameF s))) := by
  refine Pure.run mixed c_impl_isName_ok (Nat.le_of_ble_eq_true rfl) fun σ hS hA => ?_
  clear hS hA
  repeat' first | (apply Go.adm; exact rfl) | apply Go.qs | apply Qg.nil | ((first | apply Go.v2 | apply Go.v1); (first | exact leAdd | assumption); iterate 6 exact rfl) | ((first | apply Go.op | apply Go.sop | apply Qg.op); exact rfl; (first | exact aop_alloc | exact aop_new rfl rfl | exact aop_mksl rfl | exact aop_lenM rfl | exact rfl | exact aL rfl rfl rfl rfl rfl | exact aS rfl rfl rfl rfl rfl rfl rfl)) | ((first | apply Go.no | apply Go.sno | apply Qg.no); exact rfl) | (exfalso; omega) | (((first | apply Go.iQ | apply Go.gQ | apply Go.sQ | apply Qg.gQ); exact rfl; (first | exact .d | exact .e | exact .n | ((fail_if_success exact bqt); (fail_if_success exact bqf); exact .b))) <;> intro _)
  refine Go.keep [0, 5, 6] (Go.loops (I := fun m fr τ => ∃ i : Nat, ∃ n : Int, m = s.length - i ∧ i ≤ s.length ∧ n = i ∧ s.all letter = (s.drop i).all letter ∧
    fr = [(0, .c (.str s)), (5, .c (.int .i64 (s.length : Int))), (6, .c (.int .i64 n))] ∧ τ = E σ []) ?_ _ _ _ ⟨0, _, rfl, Nat.zero_le _, rfl, rfl, rfl, rfl⟩)
  rintro m fr τ ⟨i, n, rfl, hi, hn, hs, rfl, rfl⟩ hrec
  by_cases hlt : i < s.length
  · have hd := List.drop_eq_getElem_cons hlt
    repeat' first | (apply Go.adm; exact rfl) | apply Go.qs | apply Qg.nil | ((first | apply Go.v2 | apply Go.v1); (first | exact leAdd | assumption); iterate 6 exact rfl) | ((first | apply Go.op | apply Go.sop | apply Qg.op); exact rfl; (first | exact aop_alloc | exact aop_new rfl rfl | exact aop_mksl rfl | exact aop_lenM rfl | exact rfl | exact aL rfl rfl rfl rfl rfl | exact aS rfl rfl rfl rfl rfl rfl rfl | exact aop_idxS rfl rfl hn hlt)) | ((first | apply Go.no | apply Go.sno | apply Qg.no); exact rfl) | (exfalso; omega) | (((first | apply Go.iQ | apply Go.gQ | apply Go.sQ | apply Qg.gQ); exact rfl; (first | exact .d | exact .e | exact .n | ((fail_if_success exact bqt); (fail_if_success exact bqf); exact .b))) <;> intro _)
    · refine .ret rfl (.bool ?_)
      rename_i h
      rw [isNameF, hs, hd, List.all_cons, letter, decide_eq_false (by omega)]
      rfl
    · refine .ret rfl (.bool ?_)
      rename_i h h2
      rw [isNameF, hs, hd, List.all_cons, letter, decide_eq_false (p := s[i].toNat ≤ 122) (by omega)]
      simp
    · rename_i h h2
      refine Go.keep [0, 5, 6] (hrec _ _ _ (by omega) ⟨i + 1, _, rfl, hlt, wrap_succ hn (by omega), ?_, rfl, rfl⟩)
      rw [hs, hd, List.all_cons, letter, decide_eq_true (by omega), decide_eq_true (by omega)]
      rfl
  · repeat' first | (apply Go.adm; exact rfl) | apply Go.qs | apply Qg.nil | ((first | apply Go.v2 | apply Go.v1); (first | exact leAdd | assumption); iterate 6 exact rfl) | ((first | apply Go.op | apply Go.sop | apply Qg.op); exact rfl; (first | exact aop_alloc | exact aop_new rfl rfl | exact aop_mksl rfl | exact aop_lenM rfl | exact rfl | exact aL rfl rfl rfl rfl rfl | exact aS rfl rfl rfl rfl rfl rfl rfl)) | ((first | apply Go.no | apply Go.sno | apply Qg.no); exact rfl) | ((first | apply Go.pcall | apply Go.spcall | apply Qg.pcall); (iterate 3 exact rfl); exact in_ok _ _ _) | (exfalso; omega) | (((first | apply Go.iQ | apply Go.gQ | apply Go.sQ | apply Qg.gQ); exact rfl; (first | exact .d | exact .e | exact .n | ((fail_if_success exact bqt); (fail_if_success exact bqf); exact .b))) <;> intro _)
    refine .ret rfl (.bool ?_)
    rw [isNameF, hs, List.drop_eq_nil_of_le (by omega)]
    rfl
theorem l3Name_ok (s : List UInt8) (hx : s.length ≤ 34359738368) : Pure Tryz.prog 138 [.c (.str s)] (.c (.bool (isNameF s))) := by
  refine Pure.run mixed c_spec_l3Name_ok (Nat.le_of_ble_eq_true rfl) fun σ hS hA => ?_
  clear hS hA
  repeat' first | (apply Go.adm; exact rfl) | apply Go.qs | apply Qg.nil | ((first | apply Go.v2 | apply Go.v1); (first | exact leAdd | assumption); iterate 6 exact rfl) | ((first | apply Go.op | apply Go.sop | apply Qg.op); exact rfl; (first | exact aop_alloc | exact aop_new rfl rfl | exact aop_mksl rfl | exact aop_lenM rfl | exact rfl | exact aL rfl rfl rfl rfl rfl | exact aS rfl rfl rfl rfl rfl rfl rfl)) | ((first | apply Go.no | apply Go.sno | apply Qg.no); exact rfl) | (exfalso; omega) | (((first | apply Go.iQ | apply Go.gQ | apply Go.sQ | apply Qg.gQ); exact rfl; (first | exact .d | exact .e | exact .n | ((fail_if_success exact bqt); (fail_if_success exact bqf); exact .b))) <;> intro _)
  refine Go.keep [0, 3] (Go.loops (I := fun m fr τ => ∃ i : Nat, ∃ n : Int, m = s.length - i ∧ i ≤ s.length ∧ n = i ∧ s.all letter = (s.drop i).all letter ∧
    fr = [(0, .c (.str s)), (3, .c (.int .i64 n))] ∧ τ = E σ []) ?_ _ _ _ ⟨0, _, rfl, Nat.zero_le _, rfl, rfl, rfl, rfl⟩)
  rintro m fr τ ⟨i, n, rfl, hi, hn, hs, rfl, rfl⟩ hrec
  by_cases hlt : i < s.length
  · have hd := List.drop_eq_getElem_cons hlt
    repeat' first | (apply Go.adm; exact rfl) | apply Go.qs | apply Qg.nil | ((first | apply Go.v2 | apply Go.v1); (first | exact leAdd | assumption); iterate 6 exact rfl) | ((first | apply Go.op | apply Go.sop | apply Qg.op); exact rfl; (first | exact aop_alloc | exact aop_new rfl rfl | exact aop_mksl rfl | exact aop_lenM rfl | exact rfl | exact aL rfl rfl rfl rfl rfl | exact aS rfl rfl rfl rfl rfl rfl rfl | exact aop_idxS rfl rfl hn hlt)) | ((first | apply Go.no | apply Go.sno | apply Qg.no); exact rfl) | (exfalso; omega) | (((first | apply Go.iQ | apply Go.gQ | apply Go.sQ | apply Qg.gQ); exact rfl; (first | exact .d | exact .e | exact .n | ((fail_if_success exact bqt); (fail_if_success exact bqf); exact .b))) <;> intro _)
    · refine .ret rfl (.bool ?_)
      rename_i h
      rw [isNameF, hs, hd, List.all_cons, letter, decide_eq_false (by omega)]
      rfl
    · refine .ret rfl (.bool ?_)
      rename_i h h2
      rw [isNameF, hs, hd, List.all_cons, letter, decide_eq_false (p := s[i].toNat ≤ 122) (by omega)]
      simp
    · rename_i h h2
      refine Go.keep [0, 3] (hrec _ _ _ (by omega) ⟨i + 1, _, rfl, hlt, wrap_succ hn (by omega), ?_, rfl, rfl⟩)
      rw [hs, hd, List.all_cons, letter, decide_eq_true (by omega), decide_eq_true (by omega)]
      rfl
  · repeat' first | (apply Go.adm; exact rfl) | apply Go.qs | apply Qg.nil | ((first | apply Go.v2 | apply Go.v1); (first | exact leAdd | assumption); iterate 6 exact rfl) | ((first | apply Go.op | apply Go.sop | apply Qg.op); exact rfl; (first | exact aop_alloc | exact aop_new rfl rfl | exact aop_mksl rfl | exact aop_lenM rfl | exact rfl | exact aL rfl rfl rfl rfl rfl | exact aS rfl rfl rfl rfl rfl rfl rfl)) | ((first | apply Go.no | apply Go.sno | apply Qg.no); exact rfl) | ((first | apply Go.pcall | apply Go.spcall | apply Qg.pcall); (iterate 3 exact rfl); exact l1In_ok _ _ _) | (exfalso; omega) | (((first | apply Go.iQ | apply Go.gQ | apply Go.sQ | apply Qg.gQ); exact rfl; (first | exact .d | exact .e | exact .n | ((fail_if_success exact bqt); (fail_if_success exact bqf); exact .b))) <;> intro _)
    refine .ret rfl (.bool ?_)
    rw [isNameF, hs, List.drop_eq_nil_of_le (by omega)]
    rfl

/-! ### Expressions -/
def tokTakes (t : Tok) : Int := if t.kind = 1 ∨ t.kind = 2 then 0 else if t.kind = 7 ∨ t.kind = 8 then 1 else 2
def vz (v : Val) : Bool := v.k == 0 && (v.n == 0 && v.s == [])
def isTokF (t : Tok) (n : Int) : Bool := if t.kind = 1 then isIn t.col 0 (n - 1) && vz t.v else if t.kind = 2 then t.col == 0 && okVal t.v else isIn t.kind 3 10 && t.col == 0 && vz t.v
theorem takes_ok (t : Tok) : Pure Tryz.prog 215 [.agg (encTok t)] (.c (.int .i64 (tokTakes t))) := by
  refine Pure.run mixed c_impl_Tok_takes_ok (Nat.le_of_ble_eq_true rfl) fun σ hS hA => ?_
  clear hS hA
  repeat' first | (apply Go.adm; exact rfl) | apply Go.qs | apply Qg.nil | ((first | apply Go.v2 | apply Go.v1); (first | exact leAdd | assumption); iterate 6 exact rfl) | ((first | apply Go.op | apply Go.sop | apply Qg.op); exact rfl; (first | exact aop_alloc | exact aop_new rfl rfl | exact aop_mksl rfl | exact aop_lenM rfl | exact rfl | exact aL rfl rfl rfl rfl rfl | exact aS rfl rfl rfl rfl rfl rfl rfl)) | ((first | apply Go.no | apply Go.sno | apply Qg.no); exact rfl) | (exfalso; omega) | (((first | apply Go.iQ | apply Go.gQ | apply Go.sQ | apply Qg.gQ); exact rfl; (first | exact .d | exact .e | exact .n | ((fail_if_success exact bqt); (fail_if_success exact bqf); exact .b))) <;> intro _)
  all_goals refine .ret rfl (.int ?_)
  all_goals simp_all [tokTakes]
theorem isTok_ok (t : Tok) (n : Int) (h0 : -4611686018427387904 ≤ n) (h1 : n ≤ 4611686018427387904) : Pure Tryz.prog 214 [.agg (encTok t), .c (.int .i64 n)] (.c (.bool (isTokF t n))) := by
  refine Pure.run mixed c_impl_isTok_ok (Nat.le_of_ble_eq_true rfl) fun σ hS hA => ?_
  clear hS hA
  have hw : IntKind.i64.wrap (n - 1) = n - 1 := wrap64 (by omega) (by omega)
  repeat' first | (apply Go.adm; exact rfl) | apply Go.qs | apply Qg.nil | ((first | apply Go.v2 | apply Go.v1); (first | exact leAdd | assumption); iterate 6 exact rfl) | ((first | apply Go.op | apply Go.sop | apply Qg.op); exact rfl; (first | exact aop_alloc | exact aop_new rfl rfl | exact aop_mksl rfl | exact aop_lenM rfl | exact rfl | exact aL rfl rfl rfl rfl rfl | exact aS rfl rfl rfl rfl rfl rfl rfl)) | ((first | apply Go.no | apply Go.sno | apply Qg.no); exact rfl) | ((first | apply Go.pcallB | apply Go.spcallB | apply Qg.pcallB); (iterate 3 exact rfl); (first | exact in_ok _ _ _ | exact ValOk_ok _); intro _ _) | (exfalso; omega) | (((first | apply Go.iQ | apply Go.gQ | apply Go.sQ | apply Qg.gQ); exact rfl; (first | exact .d | exact .e | exact .n | ((fail_if_success exact bqt); (fail_if_success exact bqf); exact .b))) <;> intro _)
  all_goals refine .ret rfl (.bool ?_)
  all_goals simp_all [isTokF, vz]
end Go.Proofs.YtcfpdongfdhgjaaGreat.Am

/- Expressions and lists of columns. -/
set_option linter.unusedVariables false
set_option linter.unusedSimpArgs false
namespace Go.Proofs.YtcfpdongfdhgjaaGreat.Am

theorem nbT {x b : Bool} (h : x = b) (k : (!b) = true) : x = false := by cases b <;> simp_all
theorem nbF {x b : Bool} (h : x = b) (k : (!b) = false) : x = true := by cases b <;> simp_all
theorem bT {x b : Bool} (h : x = b) (k : b = true) : x = true := h.trans k
theorem bF {x b : Bool} (h : x = b) (k : b = false) : x = false := h.trans k
def takesF (t : Tok) (n : Int) : Int := if isTokF t n then tokTakes t else -1
theorem isIn_310 {k : Int} : isIn k 3 10 = true ↔ (k = 3 ∨ k = 4 ∨ k = 5 ∨ k = 6 ∨ k = 7 ∨ k = 8 ∨ k = 9 ∨ k = 10) := by
  simp only [isIn, Bool.and_eq_true, decide_eq_true_eq]
  omega
theorem l2Takes_ok (t : Tok) (n : Int) (h0 : -4611686018427387904 ≤ n) (h1 : n ≤ 4611686018427387904) : Pure Tryz.prog 201 [.agg (encTok t), .c (.int .i64 n)] (.c (.int .i64 (takesF t n))) := by
  refine Pure.run mixed c_spec_l2Takes_ok (Nat.le_of_ble_eq_true rfl) fun σ hS hA => ?_
  clear hS hA
  have hw : IntKind.i64.wrap (n - 1) = n - 1 := wrap64 (by omega) (by omega)
  have h310 := @isIn_310 t.kind
  repeat' first | (apply Go.adm; exact rfl) | apply Go.qs | apply Qg.nil | ((first | apply Go.v2 | apply Go.v1); (first | exact leAdd | assumption); iterate 6 exact rfl) | ((first | apply Go.op | apply Go.sop | apply Qg.op); exact rfl; (first | exact aop_alloc | exact aop_new rfl rfl | exact aop_mksl rfl | exact aop_lenM rfl | exact rfl | exact aL rfl rfl rfl rfl rfl | exact aS rfl rfl rfl rfl rfl rfl rfl)) | ((first | apply Go.no | apply Go.sno | apply Qg.no); exact rfl) | ((first | apply Go.pcallB | apply Go.spcallB | apply Qg.pcallB); (iterate 3 exact rfl); (first | exact l1In_ok _ _ _ | exact sValOk_ok _); intro _ _) | (exfalso; omega) | (((first | apply Go.iQ | apply Go.gQ | apply Go.sQ | apply Qg.gQ); exact rfl; (first | exact .d | exact .e | exact .n | ((fail_if_success exact bqt); (fail_if_success exact bqf); exact .b))) <;> intro _)
  all_goals refine .ret rfl (.int ?_)
  all_goals first
    | (simp_all [takesF, isTokF, vz, tokTakes]; done)
    | (cases hk : isIn t.kind 3 10 <;> simp_all [takesF, isTokF, vz, tokTakes]; done)
    | (rename_i hl; have hz : vz t.v = false := (by cases h : vz t.v; (· rfl); (· exfalso; simp [vz] at h; simp [h] at hl)); clear hl; simp_all [takesF, isTokF]; done)
def exprAux (n : Int) : Int → List Tok → Bool
  | left, [] => left == 1
  | left, t :: r => isTokF t n && decide (tokTakes t ≤ left) && exprAux n (left + 1 - tokTakes t) r
theorem tokTakes_range (t : Tok) : 0 ≤ tokTakes t ∧ tokTakes t ≤ 2 := by
  simp only [tokTakes]
  split
  · omega
  · split <;> omega
theorem ExprOk_ok (e : List Tok) (n : Int) (hx : e.length ≤ 34359738368) : Pure Tryz.prog 118 [.c (.fz (e.map encTok)), .c (.int .i64 n)] (.c (.bool (decide ((e.length : Int) ≤ 24) && isIn n 0 16 && exprAux n 0 e))) := by
  refine Pure.run mixed c_impl_ExprOk_ok (Nat.le_of_ble_eq_true rfl) fun σ hS hA => ?_
  clear hS hA
  repeat' first | (apply Go.adm; exact rfl) | apply Go.qs | apply Qg.nil | ((first | apply Go.v2 | apply Go.v1); (first | exact leAdd | assumption); iterate 6 exact rfl) | ((first | apply Go.op | apply Go.sop | apply Qg.op); exact rfl; (first | exact aop_alloc | exact aop_new rfl rfl | exact aop_mksl rfl | exact aop_lenM rfl | exact rfl | exact aL rfl rfl rfl rfl rfl | exact aS rfl rfl rfl rfl rfl rfl rfl)) | ((first | apply Go.no | apply Go.sno | apply Qg.no); exact rfl) | ((first | apply Go.pcallB | apply Go.spcallB | apply Qg.pcallB); (iterate 3 exact rfl); exact in_ok _ _ _; intro _ _) | (exfalso; omega) | (((first | apply Go.iQ | apply Go.gQ | apply Go.sQ | apply Qg.gQ); exact rfl; (first | exact .d | exact .e | exact .n | ((fail_if_success exact bqt); (fail_if_success exact bqf); exact .b))) <;> intro _)
  · refine .ret rfl (.bool ?_)
    rename_i h
    rw [decide_eq_false (by omega)]
    rfl
  · refine .ret rfl (.bool ?_)
    simp_all
  rename_i hl b hb hn
  have hn16 : 0 ≤ n ∧ n ≤ 16 := by
    have : isIn n 0 16 = true := by simp_all
    simpa [isIn] using this
  refine Go.keep [1, 5, 16, 17, 18] (Go.loops (I := fun m fr τ => ∃ i : Nat, ∃ k l : Int, m = e.length - i ∧ i ≤ e.length ∧ k = i ∧ (0 ≤ l ∧ l ≤ i ∧ exprAux n 0 e = exprAux n l (e.drop i)) ∧
    fr = [(1, .c (.int .i64 n)), (5, .c (.int .i64 l)), (16, .c (.fz (e.map encTok))), (17, .c (.int .i64 (e.length : Int))), (18, .c (.int .i64 k))] ∧ τ = E σ []) ?_ _ _ _ ⟨0, _, _, rfl, Nat.zero_le _, rfl, ⟨Int.le_refl _, by simp, rfl⟩, rfl, rfl⟩)
  rintro m fr τ ⟨i, k, l, rfl, hi, hk, ⟨hl0, hl1, hsl⟩, rfl, rfl⟩ hrec
  have hres : (decide ((e.length : Int) ≤ 24) && isIn n 0 16 && exprAux n 0 e) = exprAux n 0 e := by
    rw [decide_eq_true (p := (e.length : Int) ≤ 24) (by omega), hb]
    cases b
    · simp at hn
    · simp
  by_cases hlt : i < e.length
  · have hd := List.drop_eq_getElem_cons hlt
    have ht := tokTakes_range e[i]
    repeat' first | (apply Go.adm; exact rfl) | apply Go.qs | apply Qg.nil | ((first | apply Go.v2 | apply Go.v1); (first | exact leAdd | assumption); iterate 6 exact rfl) | ((first | apply Go.op | apply Go.sop | apply Qg.op); exact rfl; (first | exact aop_alloc | exact aop_new rfl rfl | exact aop_mksl rfl | exact aop_lenM rfl | exact rfl | exact aL rfl rfl rfl rfl rfl | exact aS rfl rfl rfl rfl rfl rfl rfl | exact aop_iaddrM (enc := encTok) rfl rfl hk hlt rfl)) | ((first | apply Go.no | apply Go.sno | apply Qg.no); exact rfl) | ((first | apply Go.pcall | apply Go.spcall | apply Qg.pcall); (iterate 3 exact rfl); exact takes_ok e[i]) | ((first | apply Go.pcallB | apply Go.spcallB | apply Qg.pcallB); (iterate 3 exact rfl); exact isTok_ok e[i] n (by omega) (by omega); intro _ _) | (exfalso; omega) | (((first | apply Go.iQ | apply Go.gQ | apply Go.sQ | apply Qg.gQ); exact rfl; (first | exact .d | exact .e | exact .n | ((fail_if_success exact bqt); (fail_if_success exact bqf); exact .b))) <;> intro _)
    · refine .ret rfl (.bool ?_)
      rename_i b1 hb1 hb2
      rw [hres, hsl, hd, exprAux, nbT hb1 hb2]
      rfl
    · refine .ret rfl (.bool ?_)
      rename_i h
      rw [hres, hsl, hd, exprAux, decide_eq_false (p := tokTakes e[i] ≤ l) (by omega)]
      simp
    · rename_i b1 hb1 hb2 h
      have w1 : IntKind.i64.wrap (1 - tokTakes e[i]) = 1 - tokTakes e[i] := wrap64 (by omega) (by omega)
      have w2 : IntKind.i64.wrap (l + (1 - tokTakes e[i])) = l + 1 - tokTakes e[i] := by rw [wrap64 (by omega) (by omega)]; omega
      refine Go.keep [1, 5, 16, 17, 18] (hrec _ _ _ (by omega) ⟨i + 1, _, _, rfl, hlt, wrap_succ hk (by omega), ⟨?_, ?_, ?_⟩, rfl, rfl⟩)
      · rw [w1, w2]; omega
      · rw [w1, w2]; omega
      · rw [w1, w2, hsl, hd, exprAux, decide_eq_true (p := tokTakes e[i] ≤ l) (by omega)]
        rw [nbF hb1 hb2]
        rfl
  · repeat' first | (apply Go.adm; exact rfl) | apply Go.qs | apply Qg.nil | ((first | apply Go.v2 | apply Go.v1); (first | exact leAdd | assumption); iterate 6 exact rfl) | ((first | apply Go.op | apply Go.sop | apply Qg.op); exact rfl; (first | exact aop_alloc | exact aop_new rfl rfl | exact aop_mksl rfl | exact aop_lenM rfl | exact rfl | exact aL rfl rfl rfl rfl rfl | exact aS rfl rfl rfl rfl rfl rfl rfl)) | ((first | apply Go.no | apply Go.sno | apply Qg.no); exact rfl) | (exfalso; omega) | (((first | apply Go.iQ | apply Go.gQ | apply Go.sQ | apply Qg.gQ); exact rfl; (first | exact .d | exact .e | exact .n | ((fail_if_success exact bqt); (fail_if_success exact bqf); exact .b))) <;> intro _)
    refine .ret rfl (.bool ?_)
    rw [hres, hsl, List.drop_eq_nil_of_le (by omega)]
    rfl
theorem l2Expr_ok (e : List Tok) (n : Int) (hx : e.length ≤ 34359738368) (h0 : -4611686018427387904 ≤ n) (h1 : n ≤ 4611686018427387904) : Pure Tryz.prog 91 [.c (.fz (e.map encTok)), .c (.int .i64 n)] (.c (.bool (decide ((e.length : Int) ≤ 24) && exprAux n 0 e))) := by
  refine Pure.run mixed c_spec_l2Expr_ok (Nat.le_of_ble_eq_true rfl) fun σ hS hA => ?_
  clear hS hA
  repeat' first | (apply Go.adm; exact rfl) | apply Go.qs | apply Qg.nil | ((first | apply Go.v2 | apply Go.v1); (first | exact leAdd | assumption); iterate 6 exact rfl) | ((first | apply Go.op | apply Go.sop | apply Qg.op); exact rfl; (first | exact aop_alloc | exact aop_new rfl rfl | exact aop_mksl rfl | exact aop_lenM rfl | exact rfl | exact aL rfl rfl rfl rfl rfl | exact aS rfl rfl rfl rfl rfl rfl rfl)) | ((first | apply Go.no | apply Go.sno | apply Qg.no); exact rfl) | (exfalso; omega) | (((first | apply Go.iQ | apply Go.gQ | apply Go.sQ | apply Qg.gQ); exact rfl; (first | exact .d | exact .e | exact .n | ((fail_if_success exact bqt); (fail_if_success exact bqf); exact .b))) <;> intro _)
  refine Go.keep [0, 1, 5, 6] (Go.loops (I := fun m fr τ => ∃ i : Nat, ∃ k l : Int, m = e.length - i ∧ i ≤ e.length ∧ k = i ∧ (0 ≤ l ∧ l ≤ i ∧ exprAux n 0 e = exprAux n l (e.drop i)) ∧
    fr = [(0, .c (.fz (e.map encTok))), (1, .c (.int .i64 n)), (5, .c (.int .i64 l)), (6, .c (.int .i64 k))] ∧ τ = E σ []) ?_ _ _ _ ⟨0, _, _, rfl, Nat.zero_le _, rfl, ⟨Int.le_refl _, by simp, rfl⟩, rfl, rfl⟩)
  rintro m fr τ ⟨i, k, l, rfl, hi, hk, ⟨hl0, hl1, hsl⟩, rfl, rfl⟩ hrec
  by_cases hlt : i < e.length
  · have hd := List.drop_eq_getElem_cons hlt
    have ht := tokTakes_range e[i]
    have neg : (isTokF e[i] n = false ∨ ¬ tokTakes e[i] ≤ l) → (decide ((e.length : Int) ≤ 24) && exprAux n 0 e) = false := by
      intro h
      rw [hsl, hd, exprAux]
      rcases h with h | h
      · simp [h]
      · rw [decide_eq_false (p := tokTakes e[i] ≤ l) h]; simp
    repeat' first | (apply Go.adm; exact rfl) | apply Go.qs | apply Qg.nil | ((first | apply Go.v2 | apply Go.v1); (first | exact leAdd | assumption); iterate 6 exact rfl) | ((first | apply Go.op | apply Go.sop | apply Qg.op); exact rfl; (first | exact aop_alloc | exact aop_new rfl rfl | exact aop_mksl rfl | exact aop_lenM rfl | exact rfl | exact aL rfl rfl rfl rfl rfl | exact aS rfl rfl rfl rfl rfl rfl rfl | exact aop_iaddrM (enc := encTok) rfl rfl hk hlt rfl)) | ((first | apply Go.no | apply Go.sno | apply Qg.no); exact rfl) | ((first | apply Go.pcallI | apply Go.spcallI | apply Qg.pcallI); (iterate 3 exact rfl); exact l2Takes_ok e[i] n h0 h1; intro _ _) | (exfalso; omega) | (((first | apply Go.iQ | apply Go.gQ | apply Go.sQ | apply Qg.gQ); exact rfl; (first | exact .d | exact .e | exact .n | ((fail_if_success exact bqt); (fail_if_success exact bqf); exact .b))) <;> intro _)
    · refine .ret rfl (.bool ?_)
      rename_i q hq h
      refine (neg (.inl ?_)).symm
      cases hc : isTokF e[i] n
      · rfl
      · simp only [takesF, hc, if_true] at hq; omega
    · refine .ret rfl (.bool ?_)
      rename_i q hq h h2
      refine (neg (.inr ?_)).symm
      simp only [takesF] at hq
      split at hq <;> omega
    · rename_i q hq h h2
      have hc : isTokF e[i] n = true ∧ tokTakes e[i] = q := by
        simp only [takesF] at hq
        split at hq
        · exact ⟨by assumption, hq⟩
        · omega
      have w1 : IntKind.i64.wrap (l - q) = l - q := wrap64 (by omega) (by omega)
      have w2 : IntKind.i64.wrap (l - q + 1) = l + 1 - tokTakes e[i] := by rw [wrap64 (by omega) (by omega)]; omega
      refine Go.keep [0, 1, 5, 6] (hrec _ _ _ (by omega) ⟨i + 1, _, _, rfl, hlt, wrap_succ hk (by omega), ⟨?_, ?_, ?_⟩, rfl, rfl⟩)
      · rw [w1, w2]; omega
      · rw [w1, w2]; omega
      · rw [w1, w2, hsl, hd, exprAux, decide_eq_true (p := tokTakes e[i] ≤ l) (by omega), hc.1]
        rfl
  · have hfin : exprAux n 0 e = (l == 1) := by
      rw [hsl, List.drop_eq_nil_of_le (by omega)]
      rfl
    repeat' first | (apply Go.adm; exact rfl) | apply Go.qs | apply Qg.nil | ((first | apply Go.v2 | apply Go.v1); (first | exact leAdd | assumption); iterate 6 exact rfl) | ((first | apply Go.op | apply Go.sop | apply Qg.op); exact rfl; (first | exact aop_alloc | exact aop_new rfl rfl | exact aop_mksl rfl | exact aop_lenM rfl | exact rfl | exact aL rfl rfl rfl rfl rfl | exact aS rfl rfl rfl rfl rfl rfl rfl)) | ((first | apply Go.no | apply Go.sno | apply Qg.no); exact rfl) | (exfalso; omega) | (((first | apply Go.iQ | apply Go.gQ | apply Go.sQ | apply Qg.gQ); exact rfl; (first | exact .d | exact .e | exact .n | ((fail_if_success exact bqt); (fail_if_success exact bqf); exact .b))) <;> intro _)
    all_goals refine .ret rfl (.bool ?_)
    all_goals rw [hfin]
    all_goals clear hrec hfin hsl
    all_goals simp_all
/-! ### Lists of columns -/
def colsAux (n : Int) : List Int → List Int → Bool
  | _, [] => true
  | pre, c :: r => isIn c 0 (n - 1) && !(pre.any fun a => c == a) && colsAux n (pre ++ [c]) r
def colsF (l : List Int) (n : Int) : Bool := colsAux n [] l && decide (0 < (l.length : Int))
theorem aop_sliceF {fr : Fr} {σ : Store} {s : Nat} {x hi : Opd} {kd : IntKind} {es : List (List Ce)} {z : Int} {n : Nat} (hx : x.ev fr = some (.c (.fz es))) (hy : hi.ev fr = some (.c (.int kd z))) (hz : z = (n : Int)) (hn : n ≤ es.length) (hs : ∀ e ∈ es, e.length = s) : aop (.slice s x none (some hi) none) fr σ = some (.c (.fz (es.take n)), σ) := by
  have : sliceA σ s (.fz es) none (some (.c (.int kd z))) none = some (.fz (es.take n)) := by
    subst hz
    simp only [sliceA, bound]
    rw [if_pos (by omega)]
    simp only [Int.toNat_natCast]
    rw [if_pos ⟨Nat.zero_le _, hn, hs⟩, List.drop_zero]
  simp only [aop, hx, evo, hy, Option.map_some, this]
theorem encI_len {l : List Int} : ∀ e ∈ l.map encI, e.length = 1 := fun e he => (flatI l e he).1
theorem areColumns_ok (l : List Int) (n : Int) (hx : l.length ≤ 34359738368) (h0 : -4611686018427387904 ≤ n) (h1 : n ≤ 4611686018427387904) : Pure Tryz.prog 223 [.c (.fz (l.map encI)), .c (.int .i64 n)] (.c (.bool (colsF l n))) := by
  refine Pure.run mixed c_impl_areColumns_ok (Nat.le_of_ble_eq_true rfl) fun σ hS hA => ?_
  clear hS hA
  have hw : IntKind.i64.wrap (n - 1) = n - 1 := wrap64 (by omega) (by omega)
  repeat' first | (apply Go.adm; exact rfl) | apply Go.qs | apply Qg.nil | ((first | apply Go.v2 | apply Go.v1); (first | exact leAdd | assumption); iterate 6 exact rfl) | ((first | apply Go.op | apply Go.sop | apply Qg.op); exact rfl; (first | exact aop_alloc | exact aop_new rfl rfl | exact aop_mksl rfl | exact aop_lenM rfl | exact rfl | exact aL rfl rfl rfl rfl rfl | exact aS rfl rfl rfl rfl rfl rfl rfl)) | ((first | apply Go.no | apply Go.sno | apply Qg.no); exact rfl) | (exfalso; omega) | (((first | apply Go.iQ | apply Go.gQ | apply Go.sQ | apply Qg.gQ); exact rfl; (first | exact .d | exact .e | exact .n | ((fail_if_success exact bqt); (fail_if_success exact bqf); exact .b))) <;> intro _)
  refine Go.keep [0, 1, 7, 8, 9] (Go.loops (I := fun m fr τ => ∃ i : Nat, ∃ k : Int, m = l.length - i ∧ i ≤ l.length ∧ k = i ∧ colsAux n [] l = colsAux n (l.take i) (l.drop i) ∧
    fr = [(0, .c (.fz (l.map encI))), (1, .c (.int .i64 n)), (7, .c (.fz (l.map encI))), (8, .c (.int .i64 (l.length : Int))), (9, .c (.int .i64 k))] ∧ τ = E σ []) ?_ _ _ _ ⟨0, _, rfl, Nat.zero_le _, rfl, rfl, rfl, rfl⟩)
  rintro m fr τ ⟨i, k, rfl, hi, hk, hsl, rfl, rfl⟩ hrec
  by_cases hlt : i < l.length
  · have hd := List.drop_eq_getElem_cons hlt
    have htk : (l.map encI).take i = (l.take i).map encI := List.map_take.symm
    have hstep : colsAux n [] l = (isIn l[i] 0 (n - 1) && !((l.take i).any fun a => l[i] == a) && colsAux n (l.take (i + 1)) (l.drop (i + 1))) := by
      rw [hsl, hd, colsAux, List.take_succ_eq_append_getElem hlt]
    repeat' first | (apply Go.adm; exact rfl) | apply Go.qs | apply Qg.nil | ((first | apply Go.v2 | apply Go.v1); (first | exact leAdd | assumption); iterate 6 exact rfl) | ((first | apply Go.op | apply Go.sop | apply Qg.op); exact rfl; (first | exact aop_alloc | exact aop_new rfl rfl | exact aop_mksl rfl | exact aop_lenM rfl | exact rfl | exact aL rfl rfl rfl rfl rfl | exact aS rfl rfl rfl rfl rfl rfl rfl | exact aop_iaddrM (enc := encI) rfl rfl hk hlt rfl)) | ((first | apply Go.no | apply Go.sno | apply Qg.no); exact rfl) | ((first | apply Go.pcallB | apply Go.spcallB | apply Qg.pcallB); (iterate 3 exact rfl); exact in_ok _ _ _; intro _ _) | (exfalso; omega) | (((first | apply Go.iQ | apply Go.gQ | apply Go.sQ | apply Qg.gQ); exact rfl; (first | exact .d | exact .e | exact .n | ((fail_if_success exact bqt); (fail_if_success exact bqf); exact .b))) <;> intro _)
    · refine .ret rfl (.bool ?_)
      rename_i b hb hb2
      rw [hw] at hb
      rw [colsF, hstep, nbT hb hb2]
      rfl
    rename_i b hb hb2
    refine .op rfl (aop_sliceF (n := i) rfl rfl hk (by simp; omega) encI_len) ?_
    rw [htk]
    repeat' first | (apply Go.adm; exact rfl) | apply Go.qs | apply Qg.nil | ((first | apply Go.v2 | apply Go.v1); (first | exact leAdd | assumption); iterate 6 exact rfl) | ((first | apply Go.op | apply Go.sop | apply Qg.op); exact rfl; (first | exact aop_alloc | exact aop_new rfl rfl | exact aop_mksl rfl | exact aop_lenM rfl | exact rfl | exact aL rfl rfl rfl rfl rfl | exact aS rfl rfl rfl rfl rfl rfl rfl)) | ((first | apply Go.no | apply Go.sno | apply Qg.no); exact rfl) | ((first | apply Go.pcallB | apply Go.spcallB | apply Qg.pcallB); (iterate 3 exact rfl); exact containsInt_ok mixed c_slices_Contains_int64_int64_ok c_slices_Index_int64_int64_ok (l.take i) l[i] (by simp; omega); intro _ _) | (exfalso; omega) | (((first | apply Go.iQ | apply Go.gQ | apply Go.sQ | apply Qg.gQ); exact rfl; (first | exact .d | exact .e | exact .n | ((fail_if_success exact bqt); (fail_if_success exact bqf); exact .b))) <;> intro _)
    · refine .ret rfl (.bool ?_)
      rename_i b1 hb1 hb3
      rw [colsF, hstep, bT hb1 hb3]
      simp
    · refine Go.keep [0, 1, 7, 8, 9] (hrec _ _ _ (by omega) ⟨i + 1, _, rfl, hlt, wrap_succ hk (by omega), ?_, rfl, rfl⟩)
      rename_i b1 hb1 hb3
      rw [hw] at hb
      rw [hstep, bF hb1 hb3, nbF hb hb2]
      simp
  · have hfin : colsAux n [] l = true := by
      rw [hsl, List.drop_eq_nil_of_le (by omega)]
      rfl
    repeat' first | (apply Go.adm; exact rfl) | apply Go.qs | apply Qg.nil | ((first | apply Go.v2 | apply Go.v1); (first | exact leAdd | assumption); iterate 6 exact rfl) | ((first | apply Go.op | apply Go.sop | apply Qg.op); exact rfl; (first | exact aop_alloc | exact aop_new rfl rfl | exact aop_mksl rfl | exact aop_lenM rfl | exact rfl | exact aL rfl rfl rfl rfl rfl | exact aS rfl rfl rfl rfl rfl rfl rfl)) | ((first | apply Go.no | apply Go.sno | apply Qg.no); exact rfl) | (exfalso; omega) | (((first | apply Go.iQ | apply Go.gQ | apply Go.sQ | apply Qg.gQ); exact rfl; (first | exact .d | exact .e | exact .n | ((fail_if_success exact bqt); (fail_if_success exact bqf); exact .b))) <;> intro _)
    refine .ret rfl (.bool ?_)
    rw [colsF, hfin]
    rfl
end Go.Proofs.YtcfpdongfdhgjaaGreat.Am

/- Tables: their columns, references, rules. -/
set_option linter.unusedVariables false
set_option linter.unusedSimpArgs false
namespace Go.Proofs.YtcfpdongfdhgjaaGreat.Am

theorem l1Has_ok (l : List Int) (v : Int) (hx : l.length ≤ 34359738368) : Pure Tryz.prog 220 [.c (.fz (l.map encI)), .c (.int .i64 v)] (.c (.bool (l.any fun a => v == a))) := by
  refine Pure.run mixed c_spec_l1Has_ok (Nat.le_of_ble_eq_true rfl) fun σ hS hA => ?_
  clear hS hA
  repeat' first | (apply Go.adm; exact rfl) | apply Go.qs | apply Qg.nil | ((first | apply Go.v2 | apply Go.v1); (first | exact leAdd | assumption); iterate 6 exact rfl) | ((first | apply Go.op | apply Go.sop | apply Qg.op); exact rfl; (first | exact aop_alloc | exact aop_new rfl rfl | exact aop_mksl rfl | exact aop_lenM rfl | exact rfl | exact aL rfl rfl rfl rfl rfl | exact aS rfl rfl rfl rfl rfl rfl rfl)) | ((first | apply Go.no | apply Go.sno | apply Qg.no); exact rfl) | (exfalso; omega) | (((first | apply Go.iQ | apply Go.gQ | apply Go.sQ | apply Qg.gQ); exact rfl; (first | exact .d | exact .e | exact .n | ((fail_if_success exact bqt); (fail_if_success exact bqf); exact .b))) <;> intro _)
  refine Go.keep [0, 1, 5] (Go.loops (I := fun m fr τ => ∃ i : Nat, ∃ k : Int, m = l.length - i ∧ i ≤ l.length ∧ k = i ∧ (l.any fun a => v == a) = ((l.drop i).any fun a => v == a) ∧
    fr = [(0, .c (.fz (l.map encI))), (1, .c (.int .i64 v)), (5, .c (.int .i64 k))] ∧ τ = E σ []) ?_ _ _ _ ⟨0, _, rfl, Nat.zero_le _, rfl, rfl, rfl, rfl⟩)
  rintro m fr τ ⟨i, k, rfl, hi, hn, hsl, rfl, rfl⟩ hrec
  by_cases hlt : i < l.length
  · have hd := List.drop_eq_getElem_cons hlt
    repeat' first | (apply Go.adm; exact rfl) | apply Go.qs | apply Qg.nil | ((first | apply Go.v2 | apply Go.v1); (first | exact leAdd | assumption); iterate 6 exact rfl) | ((first | apply Go.op | apply Go.sop | apply Qg.op); exact rfl; (first | exact aop_alloc | exact aop_new rfl rfl | exact aop_mksl rfl | exact aop_lenM rfl | exact rfl | exact aL rfl rfl rfl rfl rfl | exact aS rfl rfl rfl rfl rfl rfl rfl | exact aop_iaddrM (enc := encI) rfl rfl hn hlt rfl)) | ((first | apply Go.no | apply Go.sno | apply Qg.no); exact rfl) | (exfalso; omega) | (((first | apply Go.iQ | apply Go.gQ | apply Go.sQ | apply Qg.gQ); exact rfl; (first | exact .d | exact .e | exact .n | ((fail_if_success exact bqt); (fail_if_success exact bqf); exact .b))) <;> intro _)
    · refine .ret rfl (.bool ?_)
      rename_i h
      rw [hsl, hd, List.any_cons, h]
      simp
    · rename_i h
      refine Go.keep [0, 1, 5] (hrec _ _ _ (by omega) ⟨i + 1, _, rfl, hlt, wrap_succ hn (by omega), ?_, rfl, rfl⟩)
      rw [hsl, hd, List.any_cons, beq_eq_false_iff_ne.2 (fun e => h e.symm)]
      rfl
  · repeat' first | (apply Go.adm; exact rfl) | apply Go.qs | apply Qg.nil | ((first | apply Go.v2 | apply Go.v1); (first | exact leAdd | assumption); iterate 6 exact rfl) | ((first | apply Go.op | apply Go.sop | apply Qg.op); exact rfl; (first | exact aop_alloc | exact aop_new rfl rfl | exact aop_mksl rfl | exact aop_lenM rfl | exact rfl | exact aL rfl rfl rfl rfl rfl | exact aS rfl rfl rfl rfl rfl rfl rfl)) | ((first | apply Go.no | apply Go.sno | apply Qg.no); exact rfl) | (exfalso; omega) | (((first | apply Go.iQ | apply Go.gQ | apply Go.sQ | apply Qg.gQ); exact rfl; (first | exact .d | exact .e | exact .n | ((fail_if_success exact bqt); (fail_if_success exact bqf); exact .b))) <;> intro _)
    refine .ret rfl (.bool ?_)
    rw [hsl, List.drop_eq_nil_of_le (by omega)]
    rfl
theorem l3Cols_ok (l : List Int) (n : Int) (hx : l.length ≤ 34359738368) (h0 : -4611686018427387904 ≤ n) (h1 : n ≤ 4611686018427387904) : Pure Tryz.prog 129 [.c (.fz (l.map encI)), .c (.int .i64 n)] (.c (.bool (colsF l n))) := by
  refine Pure.run mixed c_spec_l3Cols_ok (Nat.le_of_ble_eq_true rfl) fun σ hS hA => ?_
  clear hS hA
  have hw : IntKind.i64.wrap (n - 1) = n - 1 := wrap64 (by omega) (by omega)
  repeat' first | (apply Go.adm; exact rfl) | apply Go.qs | apply Qg.nil | ((first | apply Go.v2 | apply Go.v1); (first | exact leAdd | assumption); iterate 6 exact rfl) | ((first | apply Go.op | apply Go.sop | apply Qg.op); exact rfl; (first | exact aop_alloc | exact aop_new rfl rfl | exact aop_mksl rfl | exact aop_lenM rfl | exact rfl | exact aL rfl rfl rfl rfl rfl | exact aS rfl rfl rfl rfl rfl rfl rfl)) | ((first | apply Go.no | apply Go.sno | apply Qg.no); exact rfl) | (exfalso; omega) | (((first | apply Go.iQ | apply Go.gQ | apply Go.sQ | apply Qg.gQ); exact rfl; (first | exact .d | exact .e | exact .n | ((fail_if_success exact bqt); (fail_if_success exact bqf); exact .b))) <;> intro _)
  refine Go.keep [0, 1, 5] (Go.loops (I := fun m fr τ => ∃ i : Nat, ∃ k : Int, m = l.length - i ∧ i ≤ l.length ∧ k = i ∧ colsAux n [] l = colsAux n (l.take i) (l.drop i) ∧
    fr = [(0, .c (.fz (l.map encI))), (1, .c (.int .i64 n)), (5, .c (.int .i64 k))] ∧ τ = E σ []) ?_ _ _ _ ⟨0, _, rfl, Nat.zero_le _, rfl, rfl, rfl, rfl⟩)
  rintro m fr τ ⟨i, k, rfl, hi, hk, hsl, rfl, rfl⟩ hrec
  by_cases hlt : i < l.length
  · have hd := List.drop_eq_getElem_cons hlt
    have htk : (l.map encI).take i = (l.take i).map encI := List.map_take.symm
    have hstep : colsAux n [] l = (isIn l[i] 0 (n - 1) && !((l.take i).any fun a => l[i] == a) && colsAux n (l.take (i + 1)) (l.drop (i + 1))) := by
      rw [hsl, hd, colsAux, List.take_succ_eq_append_getElem hlt]
    repeat' first | (apply Go.adm; exact rfl) | apply Go.qs | apply Qg.nil | ((first | apply Go.v2 | apply Go.v1); (first | exact leAdd | assumption); iterate 6 exact rfl) | ((first | apply Go.op | apply Go.sop | apply Qg.op); exact rfl; (first | exact aop_alloc | exact aop_new rfl rfl | exact aop_mksl rfl | exact aop_lenM rfl | exact rfl | exact aL rfl rfl rfl rfl rfl | exact aS rfl rfl rfl rfl rfl rfl rfl | exact aop_iaddrM (enc := encI) rfl rfl hk hlt rfl)) | ((first | apply Go.no | apply Go.sno | apply Qg.no); exact rfl) | ((first | apply Go.pcallB | apply Go.spcallB | apply Qg.pcallB); (iterate 3 exact rfl); exact l1In_ok _ _ _; intro _ _) | (exfalso; omega) | (((first | apply Go.iQ | apply Go.gQ | apply Go.sQ | apply Qg.gQ); exact rfl; (first | exact .d | exact .e | exact .n | ((fail_if_success exact bqt); (fail_if_success exact bqf); exact .b))) <;> intro _)
    · refine .ret rfl (.bool ?_)
      rename_i b hb hb2
      rw [hw] at hb
      rw [colsF, hstep, nbT hb hb2]
      rfl
    rename_i b hb hb2
    repeat' first | (apply Go.adm; exact rfl) | apply Go.qs | apply Qg.nil | ((first | apply Go.v2 | apply Go.v1); (first | exact leAdd | assumption); iterate 6 exact rfl) | ((first | apply Go.op | apply Go.sop | apply Qg.op); exact rfl; (first | exact aop_alloc | exact aop_new rfl rfl | exact aop_mksl rfl | exact aop_lenM rfl | exact rfl | exact aL rfl rfl rfl rfl rfl | exact aS rfl rfl rfl rfl rfl rfl rfl | exact aop_sliceF (n := i) rfl rfl hk (by simp; omega) encI_len | exact aop_iaddrM (enc := encI) rfl rfl hk hlt rfl)) | ((first | apply Go.no | apply Go.sno | apply Qg.no); exact rfl) | (exfalso; omega) | (((first | apply Go.iQ | apply Go.gQ | apply Go.sQ | apply Qg.gQ); exact rfl; (first | exact .d | exact .e | exact .n | ((fail_if_success exact bqt); (fail_if_success exact bqf); exact .b))) <;> intro _)
    rw [htk]
    repeat' first | (apply Go.adm; exact rfl) | apply Go.qs | apply Qg.nil | ((first | apply Go.v2 | apply Go.v1); (first | exact leAdd | assumption); iterate 6 exact rfl) | ((first | apply Go.op | apply Go.sop | apply Qg.op); exact rfl; (first | exact aop_alloc | exact aop_new rfl rfl | exact aop_mksl rfl | exact aop_lenM rfl | exact rfl | exact aL rfl rfl rfl rfl rfl | exact aS rfl rfl rfl rfl rfl rfl rfl)) | ((first | apply Go.no | apply Go.sno | apply Qg.no); exact rfl) | ((first | apply Go.pcallB | apply Go.spcallB | apply Qg.pcallB); (iterate 3 exact rfl); exact l1Has_ok (l.take i) l[i] (by simp; omega); intro _ _) | (exfalso; omega) | (((first | apply Go.iQ | apply Go.gQ | apply Go.sQ | apply Qg.gQ); exact rfl; (first | exact .d | exact .e | exact .n | ((fail_if_success exact bqt); (fail_if_success exact bqf); exact .b))) <;> intro _)
    · refine .ret rfl (.bool ?_)
      rename_i b1 hb1 hb3
      rw [colsF, hstep, bT hb1 hb3]
      simp
    · refine Go.keep [0, 1, 5] (hrec _ _ _ (by omega) ⟨i + 1, _, rfl, hlt, wrap_succ hk (by omega), ?_, rfl, rfl⟩)
      rename_i b1 hb1 hb3
      rw [hw] at hb
      rw [hstep, bF hb1 hb3, nbF hb hb2]
      simp
  · have hfin : colsAux n [] l = true := by
      rw [hsl, List.drop_eq_nil_of_le (by omega)]
      rfl
    repeat' first | (apply Go.adm; exact rfl) | apply Go.qs | apply Qg.nil | ((first | apply Go.v2 | apply Go.v1); (first | exact leAdd | assumption); iterate 6 exact rfl) | ((first | apply Go.op | apply Go.sop | apply Qg.op); exact rfl; (first | exact aop_alloc | exact aop_new rfl rfl | exact aop_mksl rfl | exact aop_lenM rfl | exact rfl | exact aL rfl rfl rfl rfl rfl | exact aS rfl rfl rfl rfl rfl rfl rfl)) | ((first | apply Go.no | apply Go.sno | apply Qg.no); exact rfl) | (exfalso; omega) | (((first | apply Go.iQ | apply Go.gQ | apply Go.sQ | apply Qg.gQ); exact rfl; (first | exact .d | exact .e | exact .n | ((fail_if_success exact bqt); (fail_if_success exact bqf); exact .b))) <;> intro _)
    refine .ret rfl (.bool ?_)
    rw [colsF, hfin]
    rfl
def isOfF (v : Val) (k : Int) : Bool := okVal v && (v.k == 0 || v.k == k)
theorem isOf_ok (v : Val) (k : Int) : Pure Tryz.prog 211 [.agg (encV v), .c (.int .i64 k)] (.c (.bool (isOfF v k))) := by
  refine Pure.run mixed c_impl_isOf_ok (Nat.le_of_ble_eq_true rfl) fun σ hS hA => ?_
  clear hS hA
  repeat' first | (apply Go.adm; exact rfl) | apply Go.qs | apply Qg.nil | ((first | apply Go.v2 | apply Go.v1); (first | exact leAdd | assumption); iterate 6 exact rfl) | ((first | apply Go.op | apply Go.sop | apply Qg.op); exact rfl; (first | exact aop_alloc | exact aop_new rfl rfl | exact aop_mksl rfl | exact aop_lenM rfl | exact rfl | exact aL rfl rfl rfl rfl rfl | exact aS rfl rfl rfl rfl rfl rfl rfl)) | ((first | apply Go.no | apply Go.sno | apply Qg.no); exact rfl) | ((first | apply Go.pcallB | apply Go.spcallB | apply Qg.pcallB); (iterate 3 exact rfl); exact ValOk_ok _; intro _ _) | (exfalso; omega) | (((first | apply Go.iQ | apply Go.gQ | apply Go.sQ | apply Qg.gQ); exact rfl; (first | exact .d | exact .e | exact .n | ((fail_if_success exact bqt); (fail_if_success exact bqf); exact .b))) <;> intro _)
  all_goals refine .ret rfl (.bool ?_)
  all_goals simp_all [isOfF]
def isFkF (f : Fk) (n : Int) : Bool := colsF f.cols n && (isNameF f.table && (isIn f.onDelete 0 2 && isIn f.onUpdate 0 2))
theorem isFk_ok (f : Fk) (n : Int) (hb : bFk 34359738368 f) (h0 : -4611686018427387904 ≤ n) (h1 : n ≤ 4611686018427387904) : Pure Tryz.prog 333 [.agg (encFk f), .c (.int .i64 n)] (.c (.bool (isFkF f n))) := by
  refine Pure.run mixed c_impl_isFk_ok (Nat.le_of_ble_eq_true rfl) fun σ hS hA => ?_
  clear hS hA
  repeat' first | (apply Go.adm; exact rfl) | apply Go.qs | apply Qg.nil | ((first | apply Go.v2 | apply Go.v1); (first | exact leAdd | assumption); iterate 6 exact rfl) | ((first | apply Go.op | apply Go.sop | apply Qg.op); exact rfl; (first | exact aop_alloc | exact aop_new rfl rfl | exact aop_mksl rfl | exact aop_lenM rfl | exact rfl | exact aL rfl rfl rfl rfl rfl | exact aS rfl rfl rfl rfl rfl rfl rfl)) | ((first | apply Go.no | apply Go.sno | apply Qg.no); exact rfl) | ((first | apply Go.pcallB | apply Go.spcallB | apply Qg.pcallB); (iterate 3 exact rfl); (first | exact areColumns_ok f.cols n hb.1 h0 h1 | exact isName_ok f.table hb.2 | exact in_ok _ _ _); intro _ _) | (exfalso; omega) | (((first | apply Go.iQ | apply Go.gQ | apply Go.sQ | apply Qg.gQ); exact rfl; (first | exact .d | exact .e | exact .n | ((fail_if_success exact bqt); (fail_if_success exact bqf); exact .b))) <;> intro _)
  all_goals refine .ret rfl (.bool ?_)
  all_goals simp_all [isFkF]
/-! ### The columns of a table -/
def colOk (c : Col) : Bool := isNameF c.name && ((c.kind == 1 || c.kind == 2) && isOfF c.dflt c.kind)
def colsDef : List Col → List Col → Bool
  | _, [] => true
  | pre, c :: r => colOk c && !(pre.any fun d => d.name == c.name) && colsDef (pre ++ [c]) r
def areColsF (l : List Col) : Bool := decide ((l.length : Int) ≤ 8) && (colsDef [] l && decide (0 < (l.length : Int)))
theorem areCols1_ok (d c : Col) : Pure Tryz.prog 357 [.agg (encCol d), .c (.fp (encCol c))] (.c (.bool (d.name == c.name))) := by
  refine Pure.run mixed c_impl_areCols_1_ok (Nat.le_of_ble_eq_true rfl) fun σ hS hA => ?_
  clear hS hA
  repeat' first | (apply Go.adm; exact rfl) | apply Go.qs | apply Qg.nil | ((first | apply Go.v2 | apply Go.v1); (first | exact leAdd | assumption); iterate 6 exact rfl) | ((first | apply Go.op | apply Go.sop | apply Qg.op); exact rfl; (first | exact aop_alloc | exact aop_new rfl rfl | exact aop_mksl rfl | exact aop_lenM rfl | exact rfl | exact aL rfl rfl rfl rfl rfl | exact aS rfl rfl rfl rfl rfl rfl rfl)) | ((first | apply Go.no | apply Go.sno | apply Qg.no); exact rfl) | (exfalso; omega) | (((first | apply Go.iQ | apply Go.gQ | apply Go.sQ | apply Qg.gQ); exact rfl; (first | exact .d | exact .e | exact .n | ((fail_if_success exact bqt); (fail_if_success exact bqf); exact .b))) <;> intro _)
  all_goals refine .ret rfl (.bool ?_)
  all_goals simp_all
theorem areCols_ok (l : List Col) (hx : l.length ≤ 34359738368) (hb : ∀ c ∈ l, bCol 34359738368 c) : Pure Tryz.prog 325 [.c (.fz (l.map encCol))] (.c (.bool (areColsF l))) := by
  refine Pure.run mixed c_impl_areCols_ok (Nat.le_of_ble_eq_true rfl) fun σ hS hA => ?_
  clear hS hA
  repeat' first | (apply Go.adm; exact rfl) | apply Go.qs | apply Qg.nil | ((first | apply Go.v2 | apply Go.v1); (first | exact leAdd | assumption); iterate 6 exact rfl) | ((first | apply Go.op | apply Go.sop | apply Qg.op); exact rfl; (first | exact aop_alloc | exact aop_new rfl rfl | exact aop_mksl rfl | exact aop_lenM rfl | exact rfl | exact aL rfl rfl rfl rfl rfl | exact aS rfl rfl rfl rfl rfl rfl rfl)) | ((first | apply Go.no | apply Go.sno | apply Qg.no); exact rfl) | (exfalso; omega) | (((first | apply Go.iQ | apply Go.gQ | apply Go.sQ | apply Qg.gQ); exact rfl; (first | exact .d | exact .e | exact .n | ((fail_if_success exact bqt); (fail_if_success exact bqf); exact .b))) <;> intro _)
  refine Go.keep [0, 5, 6, 7] (Go.loops (I := fun m fr τ => ∃ i : Nat, ∃ k : Int, m = l.length - i ∧ i ≤ l.length ∧ k = i ∧ (i ≤ 8 ∧ colsDef [] l = colsDef (l.take i) (l.drop i)) ∧
    fr = [(0, .c (.fz (l.map encCol))), (5, .c (.fz (l.map encCol))), (6, .c (.int .i64 (l.length : Int))), (7, .c (.int .i64 k))] ∧ τ = E σ []) ?_ _ _ _ ⟨0, _, rfl, Nat.zero_le _, rfl, ⟨by omega, rfl⟩, rfl, rfl⟩)
  rintro m fr τ ⟨i, k, rfl, hi, hk, ⟨h8, hsl⟩, rfl, rfl⟩ hrec
  by_cases hlt : i < l.length
  · have hd := List.drop_eq_getElem_cons hlt
    have hbc := hb _ (List.getElem_mem hlt)
    have htk : (l.map encCol).take i = (l.take i).map encCol := List.map_take.symm
    have hstep : colsDef [] l = (colOk l[i] && !((l.take i).any fun d => d.name == l[i].name) && colsDef (l.take (i + 1)) (l.drop (i + 1))) := by
      rw [hsl, hd, colsDef, List.take_succ_eq_append_getElem hlt]
    have neg : (k = 8 ∨ colOk l[i] = false ∨ ((l.take i).any fun d => d.name == l[i].name) = true) → areColsF l = false := by
      rintro (h | h | h)
      · rw [areColsF, decide_eq_false (by omega)]
        rfl
      · rw [areColsF, hstep, h]
        simp
      · rw [areColsF, hstep, h]
        simp
    repeat' first | (apply Go.adm; exact rfl) | apply Go.qs | apply Qg.nil | ((first | apply Go.v2 | apply Go.v1); (first | exact leAdd | assumption); iterate 6 exact rfl) | ((first | apply Go.op | apply Go.sop | apply Qg.op); exact rfl; (first | exact aop_alloc | exact aop_new rfl rfl | exact aop_mksl rfl | exact aop_lenM rfl | exact rfl | exact aL rfl rfl rfl rfl rfl | exact aS rfl rfl rfl rfl rfl rfl rfl | exact aop_iaddrM (enc := encCol) rfl rfl hk hlt rfl)) | ((first | apply Go.no | apply Go.sno | apply Qg.no); exact rfl) | ((first | apply Go.pcallB | apply Go.spcallB | apply Qg.pcallB); (iterate 3 exact rfl); (first | exact isName_ok l[i].name hbc.1 | exact isOf_ok l[i].dflt l[i].kind); intro _ _) | (exfalso; omega) | (((first | apply Go.iQ | apply Go.gQ | apply Go.sQ | apply Qg.gQ); exact rfl; (first | exact .d | exact .e | exact .n | ((fail_if_success exact bqt); (fail_if_success exact bqf); exact .b))) <;> intro _)
    all_goals try (refine .ret rfl (.bool (neg ?_).symm); clear hrec hsl hstep neg; simp_all [colOk]; done)
    all_goals have hcol : colOk l[i] = true := (by clear hrec hsl hstep neg; simp_all [colOk])
    all_goals refine .op rfl (aop_sliceF (n := i) rfl rfl hk (by simp; omega) (fun e he => by obtain ⟨c, _, rfl⟩ := List.mem_map.1 he; rfl)) ?_
    all_goals rw [htk]
    all_goals (repeat' first | (apply Go.adm; exact rfl) | apply Go.qs | apply Qg.nil | ((first | apply Go.v2 | apply Go.v1); (first | exact leAdd | assumption); iterate 6 exact rfl) | ((first | apply Go.op | apply Go.sop | apply Qg.op); exact rfl; (first | exact aop_alloc | exact aop_new rfl rfl | exact aop_mksl rfl | exact aop_lenM rfl | exact rfl | exact aL rfl rfl rfl rfl rfl | exact aS rfl rfl rfl rfl rfl rfl rfl)) | ((first | apply Go.no | apply Go.sno | apply Qg.no); exact rfl) | ((first | apply Go.pcallB | apply Go.spcallB | apply Qg.pcallB); (iterate 3 exact rfl); exact containsFuncA_ok mixed c_slices_ContainsFunc_Col_ok c_slices_IndexFunc_Col_ok encCol (fun c => .agg (encCol c)) (fun _ => rfl) (fun _ => rfl) (l.take i) (fun d => d.name == l[i].name) _ [] [.fp (encCol l[i])] (by simp; omega) (fun j hj _ => areCols1_ok _ _); intro _ _) | (exfalso; omega) | (((first | apply Go.iQ | apply Go.gQ | apply Go.sQ | apply Qg.gQ); exact rfl; (first | exact .d | exact .e | exact .n | ((fail_if_success exact bqt); (fail_if_success exact bqf); exact .b))) <;> intro _))
    all_goals rename_i b9 hb9 hb8
    all_goals first
      | exact .ret rfl (.bool (neg (.inr (.inr (bT hb9 hb8)))).symm)
      | (refine Go.keep [0, 5, 6, 7] (hrec _ _ _ (by omega) ⟨i + 1, _, rfl, hlt, wrap_succ hk (by omega), ⟨by omega, ?_⟩, rfl, rfl⟩); rw [hstep, hcol, bF hb9 hb8]; rfl)
  · have hfin : colsDef [] l = true := by
      rw [hsl, List.drop_eq_nil_of_le (by omega)]
      rfl
    repeat' first | (apply Go.adm; exact rfl) | apply Go.qs | apply Qg.nil | ((first | apply Go.v2 | apply Go.v1); (first | exact leAdd | assumption); iterate 6 exact rfl) | ((first | apply Go.op | apply Go.sop | apply Qg.op); exact rfl; (first | exact aop_alloc | exact aop_new rfl rfl | exact aop_mksl rfl | exact aop_lenM rfl | exact rfl | exact aL rfl rfl rfl rfl rfl | exact aS rfl rfl rfl rfl rfl rfl rfl)) | ((first | apply Go.no | apply Go.sno | apply Qg.no); exact rfl) | (exfalso; omega) | (((first | apply Go.iQ | apply Go.gQ | apply Go.sQ | apply Qg.gQ); exact rfl; (first | exact .d | exact .e | exact .n | ((fail_if_success exact bqt); (fail_if_success exact bqf); exact .b))) <;> intro _)
    refine .ret rfl (.bool ?_)
    rw [areColsF, hfin, decide_eq_true (p := (l.length : Int) ≤ 8) (by omega)]
    rfl

/-! ### Tables -/
def notNullAt (t : Table) (c : Int) : Bool := match t.cols[c.toNat]? with | some x => x.notNull | none => false
def exprF (e : List Tok) (n : Int) : Bool := decide ((e.length : Int) ≤ 24) && exprAux n 0 e
def tableF (t : Table) : Bool :=
  isNameF t.name && (areColsF t.cols && (colsF t.key t.cols.length && (decide ((t.uniques.length : Int) ≤ 3) && (decide ((t.checks.length : Int) ≤ 3) && (decide ((t.fks.length : Int) ≤ 3) &&
    (!(t.key.any fun c => !notNullAt t c) && (!(t.uniques.any fun u => !colsF u.cols t.cols.length) && (!(t.checks.any fun c => !exprF c.expr t.cols.length) && !(t.fks.any fun f => !isFkF f t.cols.length)))))))))
theorem colsAux_in {n : Int} : ∀ {l pre : List Int}, colsAux n pre l = true → ∀ c ∈ l, isIn c 0 (n - 1) = true
  | [], _, _, c, h => by simp at h
  | a :: r, pre, h, c, hc => by
    simp only [colsAux, Bool.and_eq_true] at h
    rcases List.mem_cons.1 hc with rfl | hc
    · exact h.1.1
    · exact colsAux_in h.2 c hc
theorem colsF_in {l : List Int} {n : Int} (h : colsF l n = true) : ∀ c ∈ l, 0 ≤ c ∧ c < n := by
  intro c hc
  simp only [colsF, Bool.and_eq_true] at h
  have := colsAux_in h.1 c hc
  simp only [isIn, Bool.and_eq_true, decide_eq_true_eq] at this
  omega
theorem areColsF_len {l : List Col} (h : areColsF l = true) : 0 < l.length ∧ l.length ≤ 8 := by
  simp only [areColsF, Bool.and_eq_true, decide_eq_true_eq] at h
  omega
theorem TableOk1_ok (t : Table) (c : Int) (h0 : 0 ≤ c) (h1 : c < t.cols.length) : Pure Tryz.prog 327 [.c (.int .i64 c), .c (.fp (encTable t))] (.c (.bool (!notNullAt t c))) := by
  refine Pure.run mixed c_impl_TableOk_1_ok (Nat.le_of_ble_eq_true rfl) fun σ hS hA => ?_
  clear hS hA
  obtain ⟨n, rfl⟩ : ∃ n : Nat, c = n := ⟨c.toNat, by omega⟩
  have hn : n < t.cols.length := by omega
  repeat' first | (apply Go.adm; exact rfl) | apply Go.qs | apply Qg.nil | ((first | apply Go.v2 | apply Go.v1); (first | exact leAdd | assumption); iterate 6 exact rfl) | ((first | apply Go.op | apply Go.sop | apply Qg.op); exact rfl; (first | exact aop_alloc | exact aop_new rfl rfl | exact aop_mksl rfl | exact aop_lenM rfl | exact rfl | exact aL rfl rfl rfl rfl rfl | exact aS rfl rfl rfl rfl rfl rfl rfl | exact aop_iaddrM (enc := encCol) rfl rfl rfl hn rfl)) | ((first | apply Go.no | apply Go.sno | apply Qg.no); exact rfl) | (exfalso; omega) | (((first | apply Go.iQ | apply Go.gQ | apply Go.sQ | apply Qg.gQ); exact rfl; (first | exact .d | exact .e | exact .n | ((fail_if_success exact bqt); (fail_if_success exact bqf); exact .b))) <;> intro _)
  refine .ret rfl (.bool ?_)
  simp [notNullAt, hn]
theorem TableOk2_ok (u : Uniq) (n : Int) (hb : bUniq 34359738368 u) (h0 : -4611686018427387904 ≤ n) (h1 : n ≤ 4611686018427387904) : Pure Tryz.prog 329 [.agg (encUniq u), .c (.fp [.int .i64 n])] (.c (.bool (!colsF u.cols n))) := by
  refine Pure.run mixed c_impl_TableOk_2_ok (Nat.le_of_ble_eq_true rfl) fun σ hS hA => ?_
  clear hS hA
  repeat' first | (apply Go.adm; exact rfl) | apply Go.qs | apply Qg.nil | ((first | apply Go.v2 | apply Go.v1); (first | exact leAdd | assumption); iterate 6 exact rfl) | ((first | apply Go.op | apply Go.sop | apply Qg.op); exact rfl; (first | exact aop_alloc | exact aop_new rfl rfl | exact aop_mksl rfl | exact aop_lenM rfl | exact rfl | exact aL rfl rfl rfl rfl rfl | exact aS rfl rfl rfl rfl rfl rfl rfl)) | ((first | apply Go.no | apply Go.sno | apply Qg.no); exact rfl) | ((first | apply Go.pcall | apply Go.spcall | apply Qg.pcall); (iterate 3 exact rfl); exact areColumns_ok u.cols n hb h0 h1) | (exfalso; omega) | (((first | apply Go.iQ | apply Go.gQ | apply Go.sQ | apply Qg.gQ); exact rfl; (first | exact .d | exact .e | exact .n | ((fail_if_success exact bqt); (fail_if_success exact bqf); exact .b))) <;> intro _)
  exact .ret rfl (.bool rfl)
theorem exprF_eq {e : List Tok} {n : Int} (h0 : 0 ≤ n) (h1 : n ≤ 16) : (decide ((e.length : Int) ≤ 24) && isIn n 0 16 && exprAux n 0 e) = exprF e n := by
  have : isIn n 0 16 = true := by simp [isIn, h0, h1]
  rw [this, Bool.and_true]
  rfl
theorem TableOk3_ok (c : Chk) (n : Int) (hb : bChk 34359738368 c) (h0 : 0 ≤ n) (h1 : n ≤ 16) : Pure Tryz.prog 331 [.agg (encChk c), .c (.fp [.int .i64 n])] (.c (.bool (!exprF c.expr n))) := by
  refine Pure.run mixed c_impl_TableOk_3_ok (Nat.le_of_ble_eq_true rfl) fun σ hS hA => ?_
  clear hS hA
  have hc := ExprOk_ok c.expr n hb.1
  rw [exprF_eq h0 h1] at hc
  repeat' first | (apply Go.adm; exact rfl) | apply Go.qs | apply Qg.nil | ((first | apply Go.v2 | apply Go.v1); (first | exact leAdd | assumption); iterate 6 exact rfl) | ((first | apply Go.op | apply Go.sop | apply Qg.op); exact rfl; (first | exact aop_alloc | exact aop_new rfl rfl | exact aop_mksl rfl | exact aop_lenM rfl | exact rfl | exact aL rfl rfl rfl rfl rfl | exact aS rfl rfl rfl rfl rfl rfl rfl)) | ((first | apply Go.no | apply Go.sno | apply Qg.no); exact rfl) | ((first | apply Go.pcall | apply Go.spcall | apply Qg.pcall); (iterate 3 exact rfl); exact hc) | (exfalso; omega) | (((first | apply Go.iQ | apply Go.gQ | apply Go.sQ | apply Qg.gQ); exact rfl; (first | exact .d | exact .e | exact .n | ((fail_if_success exact bqt); (fail_if_success exact bqf); exact .b))) <;> intro _)
  exact .ret rfl (.bool rfl)
theorem TableOk4_ok (f : Fk) (n : Int) (hb : bFk 34359738368 f) (h0 : -4611686018427387904 ≤ n) (h1 : n ≤ 4611686018427387904) : Pure Tryz.prog 332 [.agg (encFk f), .c (.fp [.int .i64 n])] (.c (.bool (!isFkF f n))) := by
  refine Pure.run mixed c_impl_TableOk_4_ok (Nat.le_of_ble_eq_true rfl) fun σ hS hA => ?_
  clear hS hA
  repeat' first | (apply Go.adm; exact rfl) | apply Go.qs | apply Qg.nil | ((first | apply Go.v2 | apply Go.v1); (first | exact leAdd | assumption); iterate 6 exact rfl) | ((first | apply Go.op | apply Go.sop | apply Qg.op); exact rfl; (first | exact aop_alloc | exact aop_new rfl rfl | exact aop_mksl rfl | exact aop_lenM rfl | exact rfl | exact aL rfl rfl rfl rfl rfl | exact aS rfl rfl rfl rfl rfl rfl rfl)) | ((first | apply Go.no | apply Go.sno | apply Qg.no); exact rfl) | ((first | apply Go.pcall | apply Go.spcall | apply Qg.pcall); (iterate 3 exact rfl); exact isFk_ok f n hb h0 h1) | (exfalso; omega) | (((first | apply Go.iQ | apply Go.gQ | apply Go.sQ | apply Qg.gQ); exact rfl; (first | exact .d | exact .e | exact .n | ((fail_if_success exact bqt); (fail_if_success exact bqf); exact .b))) <;> intro _)
  exact .ret rfl (.bool rfl)
theorem TableOk_ok (t : Table) (hb : bTable 34359738368 t) : Pure Tryz.prog 264 [.agg (encTable t)] (.c (.bool (tableF t))) := by
  refine Pure.run mixed c_impl_TableOk_ok (Nat.le_of_ble_eq_true rfl) fun σ hS hA => ?_
  clear hS hA
  obtain ⟨b1, b2, b3, b4, b5, b6⟩ := hb
  repeat' first | (apply Go.adm; exact rfl) | apply Go.qs | apply Qg.nil | ((first | apply Go.v2 | apply Go.v1); (first | exact leAdd | assumption); iterate 6 exact rfl) | ((first | apply Go.op | apply Go.sop | apply Qg.op); exact rfl; (first | exact aop_alloc | exact aop_new rfl rfl | exact aop_mksl rfl | exact aop_lenM rfl | exact rfl | exact aL rfl rfl rfl rfl rfl | exact aS rfl rfl rfl rfl rfl rfl rfl)) | ((first | apply Go.no | apply Go.sno | apply Qg.no); exact rfl) | ((first | apply Go.pcallB | apply Go.spcallB | apply Qg.pcallB); (iterate 3 exact rfl); (first | exact isName_ok t.name b1 | exact areCols_ok t.cols b2.1 b2.2 | exact areColumns_ok t.key t.cols.length b3 (by omega) (by omega)); intro _ _) | (exfalso; omega) | (((first | apply Go.iQ | apply Go.gQ | apply Go.sQ | apply Qg.gQ); exact rfl; (first | exact .d | exact .e | exact .n | ((fail_if_success exact bqt); (fail_if_success exact bqf); exact .b))) <;> intro _)
  all_goals try (refine .ret rfl (.bool ?_); simp_all [tableF]; done)
  · refine .ret rfl (.bool ?_)
    rw [tableF, decide_eq_false (p := (t.uniques.length : Int) ≤ 3) (by omega)]
    simp
  · refine .ret rfl (.bool ?_)
    rw [tableF, decide_eq_false (p := (t.checks.length : Int) ≤ 3) (by omega)]
    simp
  · refine .ret rfl (.bool ?_)
    rw [tableF, decide_eq_false (p := (t.fks.length : Int) ≤ 3) (by omega)]
    simp
  rename_i c1 p1 q1 c2 p2 q2 c3 p3 q3 g1 g2 g3
  have k1 := nbF p1 q1
  have k2 := nbF p2 q2
  have k3 := nbF p3 q3
  have hcl := areColsF_len k2
  have hin := colsF_in k3
  clear p1 q1 p2 q2 p3 q3
  repeat' first | (apply Go.adm; exact rfl) | apply Go.qs | apply Qg.nil | ((first | apply Go.v2 | apply Go.v1); (first | exact leAdd | assumption); iterate 6 exact rfl) | ((first | apply Go.op | apply Go.sop | apply Qg.op); exact rfl; (first | exact aop_alloc | exact aop_new rfl rfl | exact aop_mksl rfl | exact aop_lenM rfl | exact rfl | exact aL rfl rfl rfl rfl rfl | exact aS rfl rfl rfl rfl rfl rfl rfl)) | ((first | apply Go.no | apply Go.sno | apply Qg.no); exact rfl) | ((first | apply Go.pcallB | apply Go.spcallB | apply Qg.pcallB); (iterate 3 exact rfl); (first | exact containsFuncA_ok mixed c_slices_ContainsFunc_int64_int64_ok c_slices_IndexFunc_int64_int64_ok encI (fun n => .c (.int .i64 n)) (fun _ => rfl) (fun _ => rfl) t.key (fun c => !notNullAt t c) _ [] [.fp (encTable t)] b3 (fun j hj _ => TableOk1_ok t _ (hin _ (List.getElem_mem hj)).1 (hin _ (List.getElem_mem hj)).2) | exact containsFuncA_ok mixed c_slices_ContainsFunc_Unique_ok c_slices_IndexFunc_Unique_ok encUniq (fun u => .agg (encUniq u)) (fun _ => rfl) (fun _ => rfl) t.uniques (fun u => !colsF u.cols t.cols.length) _ [] [.fp [.int .i64 t.cols.length]] b4.1 (fun j hj _ => TableOk2_ok _ _ (b4.2 _ (List.getElem_mem hj)) (by omega) (by omega)) | exact containsFuncA_ok mixed c_slices_ContainsFunc_Check_ok c_slices_IndexFunc_Check_ok encChk (fun u => .agg (encChk u)) (fun _ => rfl) (fun _ => rfl) t.checks (fun c => !exprF c.expr t.cols.length) _ [] [.fp [.int .i64 t.cols.length]] b5.1 (fun j hj _ => TableOk3_ok _ _ (b5.2 _ (List.getElem_mem hj)) (by omega) (by omega)) | exact containsFuncA_ok mixed c_slices_ContainsFunc_Fk_ok c_slices_IndexFunc_Fk_ok encFk (fun u => .agg (encFk u)) (fun _ => rfl) (fun _ => rfl) t.fks (fun f => !isFkF f t.cols.length) _ [] [.fp [.int .i64 t.cols.length]] b6.1 (fun j hj _ => TableOk4_ok _ _ (b6.2 _ (List.getElem_mem hj)) (by omega) (by omega))); intro _ _) | (exfalso; omega) | (((first | apply Go.iQ | apply Go.gQ | apply Go.sQ | apply Qg.gQ); exact rfl; (first | exact .d | exact .e | exact .n | ((fail_if_success exact bqt); (fail_if_success exact bqf); exact .b))) <;> intro _)
  all_goals refine .ret rfl (.bool ?_)
  all_goals rw [tableF, k1, k2, k3, decide_eq_true (p := (t.uniques.length : Int) ≤ 3) (by omega), decide_eq_true (p := (t.checks.length : Int) ≤ 3) (by omega), decide_eq_true (p := (t.fks.length : Int) ≤ 3) (by omega)]
  all_goals simp_all
end Go.Proofs.YtcfpdongfdhgjaaGreat.Am

/- Tables, as the reference sees them. -/
set_option linter.unusedVariables false
set_option linter.unusedSimpArgs false
namespace Go.Proofs.YtcfpdongfdhgjaaGreat.Am

theorem ColAt_ok (x0 x2 x3 x4 x5 : Ce) (l : List Col) (s : List UInt8) (hx : l.length ≤ 34359738368) : Pure Tryz.prog 324 [.agg [x0, .fz (l.map encCol), x2, x3, x4, x5], .c (.str s)] (.c (.int .i64 (idxA (fun c => c.name == s) l 0))) := by
  refine Pure.run mixed c_spec_ColAt_ok (Nat.le_of_ble_eq_true rfl) fun σ hS hA => ?_
  clear hS hA
  repeat' first | (apply Go.adm; exact rfl) | apply Go.qs | apply Qg.nil | ((first | apply Go.v2 | apply Go.v1); (first | exact leAdd | assumption); iterate 6 exact rfl) | ((first | apply Go.op | apply Go.sop | apply Qg.op); exact rfl; (first | exact aop_alloc | exact aop_new rfl rfl | exact aop_mksl rfl | exact aop_lenM rfl | exact rfl | exact aL rfl rfl rfl rfl rfl | exact aS rfl rfl rfl rfl rfl rfl rfl)) | ((first | apply Go.no | apply Go.sno | apply Qg.no); exact rfl) | (exfalso; omega) | (((first | apply Go.iQ | apply Go.gQ | apply Go.sQ | apply Qg.gQ); exact rfl; (first | exact .d | exact .e | exact .n | ((fail_if_success exact bqt); (fail_if_success exact bqf); exact .b))) <;> intro _)
  refine Go.keep [1, 2, 5] (Go.loops (I := fun m fr τ => ∃ i : Nat, ∃ k : Int, m = l.length - i ∧ i ≤ l.length ∧ k = i ∧ idxA (fun c => c.name == s) l 0 = idxA (fun c => c.name == s) (l.drop i) k ∧
    fr = [(1, .c (.str s)), (2, .c (.fp [x0, .fz (l.map encCol), x2, x3, x4, x5])), (5, .c (.int .i64 k))] ∧ τ = E σ []) ?_ _ _ _ ⟨0, _, rfl, Nat.zero_le _, rfl, rfl, rfl, rfl⟩)
  rintro m fr τ ⟨i, k, rfl, hi, hn, hsl, rfl, rfl⟩ hrec
  by_cases hlt : i < l.length
  · repeat' first | (apply Go.adm; exact rfl) | apply Go.qs | apply Qg.nil | ((first | apply Go.v2 | apply Go.v1); (first | exact leAdd | assumption); iterate 6 exact rfl) | ((first | apply Go.op | apply Go.sop | apply Qg.op); exact rfl; (first | exact aop_alloc | exact aop_new rfl rfl | exact aop_mksl rfl | exact aop_lenM rfl | exact rfl | exact aL rfl rfl rfl rfl rfl | exact aS rfl rfl rfl rfl rfl rfl rfl | exact aop_iaddrM (enc := encCol) rfl rfl hn hlt rfl)) | ((first | apply Go.no | apply Go.sno | apply Qg.no); exact rfl) | (exfalso; omega) | (((first | apply Go.iQ | apply Go.gQ | apply Go.sQ | apply Qg.gQ); exact rfl; (first | exact .d | exact .e | exact .n | ((fail_if_success exact bqt); (fail_if_success exact bqf); exact .b))) <;> intro _)
    · refine .ret rfl (.int ?_)
      rw [hsl, List.drop_eq_getElem_cons hlt, idxA, if_pos (by assumption)]
    · rename_i h
      refine Go.keep [1, 2, 5] (hrec _ _ _ (by omega) ⟨i + 1, _, rfl, hlt, wrap_succ hn (by omega), ?_, rfl, rfl⟩)
      rw [hsl, List.drop_eq_getElem_cons hlt, idxA, if_neg (by rw [h]; simp), wrap64 (by omega) (by omega)]
  · repeat' first | (apply Go.adm; exact rfl) | apply Go.qs | apply Qg.nil | ((first | apply Go.v2 | apply Go.v1); (first | exact leAdd | assumption); iterate 6 exact rfl) | ((first | apply Go.op | apply Go.sop | apply Qg.op); exact rfl; (first | exact aop_alloc | exact aop_new rfl rfl | exact aop_mksl rfl | exact aop_lenM rfl | exact rfl | exact aL rfl rfl rfl rfl rfl | exact aS rfl rfl rfl rfl rfl rfl rfl)) | ((first | apply Go.no | apply Go.sno | apply Qg.no); exact rfl) | (exfalso; omega) | (((first | apply Go.iQ | apply Go.gQ | apply Go.sQ | apply Qg.gQ); exact rfl; (first | exact .d | exact .e | exact .n | ((fail_if_success exact bqt); (fail_if_success exact bqf); exact .b))) <;> intro _)
    refine .ret rfl (.int ?_)
    rw [hsl, List.drop_eq_nil_of_le (by omega)]
    rfl
theorem l3At_ok (l : List Table) (s : List UInt8) (hx : l.length ≤ 34359738368) : Pure Tryz.prog 157 [.c (.fz (l.map encTable)), .c (.str s)] (.c (.int .i64 (idxA (fun t => t.name == s) l 0))) := by
  refine Pure.run mixed c_spec_l3At_ok (Nat.le_of_ble_eq_true rfl) fun σ hS hA => ?_
  clear hS hA
  repeat' first | (apply Go.adm; exact rfl) | apply Go.qs | apply Qg.nil | ((first | apply Go.v2 | apply Go.v1); (first | exact leAdd | assumption); iterate 6 exact rfl) | ((first | apply Go.op | apply Go.sop | apply Qg.op); exact rfl; (first | exact aop_alloc | exact aop_new rfl rfl | exact aop_mksl rfl | exact aop_lenM rfl | exact rfl | exact aL rfl rfl rfl rfl rfl | exact aS rfl rfl rfl rfl rfl rfl rfl)) | ((first | apply Go.no | apply Go.sno | apply Qg.no); exact rfl) | (exfalso; omega) | (((first | apply Go.iQ | apply Go.gQ | apply Go.sQ | apply Qg.gQ); exact rfl; (first | exact .d | exact .e | exact .n | ((fail_if_success exact bqt); (fail_if_success exact bqf); exact .b))) <;> intro _)
  refine Go.keep [0, 1, 5] (Go.loops (I := fun m fr τ => ∃ i : Nat, ∃ k : Int, m = l.length - i ∧ i ≤ l.length ∧ k = i ∧ idxA (fun c => c.name == s) l 0 = idxA (fun c => c.name == s) (l.drop i) k ∧
    fr = [(0, .c (.fz (l.map encTable))), (1, .c (.str s)), (5, .c (.int .i64 k))] ∧ τ = E σ []) ?_ _ _ _ ⟨0, _, rfl, Nat.zero_le _, rfl, rfl, rfl, rfl⟩)
  rintro m fr τ ⟨i, k, rfl, hi, hn, hsl, rfl, rfl⟩ hrec
  by_cases hlt : i < l.length
  · repeat' first | (apply Go.adm; exact rfl) | apply Go.qs | apply Qg.nil | ((first | apply Go.v2 | apply Go.v1); (first | exact leAdd | assumption); iterate 6 exact rfl) | ((first | apply Go.op | apply Go.sop | apply Qg.op); exact rfl; (first | exact aop_alloc | exact aop_new rfl rfl | exact aop_mksl rfl | exact aop_lenM rfl | exact rfl | exact aL rfl rfl rfl rfl rfl | exact aS rfl rfl rfl rfl rfl rfl rfl | exact aop_iaddrM (enc := encTable) rfl rfl hn hlt rfl)) | ((first | apply Go.no | apply Go.sno | apply Qg.no); exact rfl) | (exfalso; omega) | (((first | apply Go.iQ | apply Go.gQ | apply Go.sQ | apply Qg.gQ); exact rfl; (first | exact .d | exact .e | exact .n | ((fail_if_success exact bqt); (fail_if_success exact bqf); exact .b))) <;> intro _)
    · refine .ret rfl (.int ?_)
      rw [hsl, List.drop_eq_getElem_cons hlt, idxA, if_pos (by assumption)]
    · rename_i h
      refine Go.keep [0, 1, 5] (hrec _ _ _ (by omega) ⟨i + 1, _, rfl, hlt, wrap_succ hn (by omega), ?_, rfl, rfl⟩)
      rw [hsl, List.drop_eq_getElem_cons hlt, idxA, if_neg (by rw [h]; simp), wrap64 (by omega) (by omega)]
  · repeat' first | (apply Go.adm; exact rfl) | apply Go.qs | apply Qg.nil | ((first | apply Go.v2 | apply Go.v1); (first | exact leAdd | assumption); iterate 6 exact rfl) | ((first | apply Go.op | apply Go.sop | apply Qg.op); exact rfl; (first | exact aop_alloc | exact aop_new rfl rfl | exact aop_mksl rfl | exact aop_lenM rfl | exact rfl | exact aL rfl rfl rfl rfl rfl | exact aS rfl rfl rfl rfl rfl rfl rfl)) | ((first | apply Go.no | apply Go.sno | apply Qg.no); exact rfl) | (exfalso; omega) | (((first | apply Go.iQ | apply Go.gQ | apply Go.sQ | apply Qg.gQ); exact rfl; (first | exact .d | exact .e | exact .n | ((fail_if_success exact bqt); (fail_if_success exact bqf); exact .b))) <;> intro _)
    refine .ret rfl (.int ?_)
    rw [hsl, List.drop_eq_nil_of_le (by omega)]
    rfl
theorem any_at {α : Type} {p : α → Bool} {l : List α} {i : Nat} (hi : i < l.length) (h : p l[i] = false) : (l.any fun a => !p a) = true := List.any_eq_true.2 ⟨l[i], List.getElem_mem hi, by rw [h]; rfl⟩
theorem any_none {α : Type} {p : α → Bool} {l : List α} (h : ∀ j (hj : j < l.length), p l[j] = true) : (l.any fun a => !p a) = false := by
  rw [List.any_eq_false]
  intro a ha
  obtain ⟨j, hj, rfl⟩ := List.mem_iff_getElem.1 ha
  rw [h j hj]
  simp
theorem upto {α : Type} {p : α → Bool} {l : List α} {i : Nat} (h : ∀ j (hj : j < l.length), j < i → p l[j] = true) (hi : i < l.length) (hp : p l[i] = true) : ∀ j (hj : j < l.length), j < i + 1 → p l[j] = true := fun j hj hji => by
  by_cases e : j = i
  · subst e; exact hp
  · exact h j hj (by omega)
theorem isIn12 {k : Int} : isIn k 1 2 = (k == 1 || k == 2) := by
  rw [Bool.eq_iff_iff]
  simp [isIn]
  omega
theorem tableF_iff {t : Table} : tableF t = true ↔ isNameF t.name = true ∧ isIn t.cols.length 1 8 = true ∧ colsF t.key t.cols.length = true ∧ (t.uniques.length : Int) ≤ 3 ∧ (t.checks.length : Int) ≤ 3 ∧ (t.fks.length : Int) ≤ 3 ∧ colsDef [] t.cols = true ∧
    (t.key.any fun c => !notNullAt t c) = false ∧ (t.uniques.any fun u => !colsF u.cols t.cols.length) = false ∧ (t.checks.any fun c => !exprF c.expr t.cols.length) = false ∧ (t.fks.any fun f => !isFkF f t.cols.length) = false := by
  simp only [tableF, areColsF, isIn, Bool.and_eq_true, decide_eq_true_eq, Bool.not_eq_true']
  constructor
  · rintro ⟨h1, ⟨h2, h3, h4⟩, h5, h6, h7, h8, h9, h10, h11, h12⟩
    exact ⟨h1, ⟨by omega, h2⟩, h5, h6, h7, h8, h3, h9, h10, h11, h12⟩
  · rintro ⟨h1, ⟨h2, h2'⟩, h3, h4, h5, h6, h7, h8, h9, h10, h11⟩
    exact ⟨h1, ⟨h2', h7, by omega⟩, h3, h4, h5, h6, h8, h9, h10, h11⟩
theorem tableF_not {t : Table} (h : tableF t = true → False) : tableF t = false := by
  cases c : tableF t
  · rfl
  · exact (h c).elim
theorem sTableOk_ok (t : Table) (hb : bTable 34359738368 t) : Pure Tryz.prog 259 [.agg (encTable t)] (.c (.bool (tableF t))) := by
  refine Pure.run mixed c_spec_TableOk_ok (Nat.le_of_ble_eq_true rfl) fun σ hS hA => ?_
  clear hS hA
  obtain ⟨b1, b2, b3, b4, b5, b6⟩ := hb
  repeat' first | (apply Go.adm; exact rfl) | apply Go.qs | apply Qg.nil | ((first | apply Go.v2 | apply Go.v1); (first | exact leAdd | assumption); iterate 6 exact rfl) | ((first | apply Go.op | apply Go.sop | apply Qg.op); exact rfl; (first | exact aop_alloc | exact aop_new rfl rfl | exact aop_mksl rfl | exact aop_lenM rfl | exact rfl | exact aL rfl rfl rfl rfl rfl | exact aS rfl rfl rfl rfl rfl rfl rfl)) | ((first | apply Go.no | apply Go.sno | apply Qg.no); exact rfl) | ((first | apply Go.pcallB | apply Go.spcallB | apply Qg.pcallB); (iterate 3 exact rfl); (first | exact l3Name_ok t.name b1 | exact l1In_ok _ _ _ | exact l3Cols_ok t.key t.cols.length b3 (by omega) (by omega)); intro _ _) | (exfalso; omega) | (((first | apply Go.iQ | apply Go.gQ | apply Go.sQ | apply Qg.gQ); exact rfl; (first | exact .d | exact .e | exact .n | ((fail_if_success exact bqt); (fail_if_success exact bqf); exact .b))) <;> intro _)
  · exact .ret rfl (.bool (tableF_not fun h => by rename_i c p q; have h2 := (tableF_iff.1 h).1; rw [nbT p q] at h2; cases h2).symm)
  · exact .ret rfl (.bool (tableF_not fun h => by rename_i c1 p1 q1 c p q; have h2 := (tableF_iff.1 h).2.1; rw [nbT p q] at h2; cases h2).symm)
  · exact .ret rfl (.bool (tableF_not fun h => by rename_i c p q; have h2 := (tableF_iff.1 h).2.2.1; rw [nbT p q] at h2; cases h2).symm)
  · exact .ret rfl (.bool (tableF_not fun h => by have h2 := tableF_iff.1 h; omega).symm)
  · exact .ret rfl (.bool (tableF_not fun h => by have h2 := tableF_iff.1 h; omega).symm)
  · exact .ret rfl (.bool (tableF_not fun h => by have h2 := tableF_iff.1 h; omega).symm)
  rename_i c1 p1 q1 c2 p2 q2 c3 p3 q3 g1 g2 g3
  have k1 := nbF p1 q1
  have k2 := nbF p2 q2
  have k3 := nbF p3 q3
  have hin := colsF_in k3
  have hln : 1 ≤ (t.cols.length : Int) ∧ (t.cols.length : Int) ≤ 8 := by simpa [isIn] using k2
  clear p1 q1 p2 q2 p3 q3
  -- the columns
  refine Go.keep [1, 3, 4] (Go.loops (I := fun m fr τ => ∃ i : Nat, ∃ k : Int, m = t.cols.length - i ∧ i ≤ t.cols.length ∧ k = i ∧ colsDef [] t.cols = colsDef (t.cols.take i) (t.cols.drop i) ∧
    fr = [(1, .c (.fp (encTable t))), (3, .c (.int .i64 (t.cols.length : Int))), (4, .c (.int .i64 k))] ∧ τ = E σ []) ?_ _ _ _ ⟨0, _, rfl, Nat.zero_le _, rfl, rfl, rfl, rfl⟩)
  rintro m fr τ ⟨i, k, rfl, hi, hk, hsl, rfl, rfl⟩ hrec
  by_cases hlt : i < t.cols.length
  · have hd := List.drop_eq_getElem_cons hlt
    have hbc := b2.2 _ (List.getElem_mem hlt)
    have htk : (t.cols.map encCol).take i = (t.cols.take i).map encCol := List.map_take.symm
    have hstep : colsDef [] t.cols = (colOk t.cols[i] && !((t.cols.take i).any fun d => d.name == t.cols[i].name) && colsDef (t.cols.take (i + 1)) (t.cols.drop (i + 1))) := by
      rw [hsl, hd, colsDef, List.take_succ_eq_append_getElem hlt]
    have neg : (colOk t.cols[i] = false ∨ ((t.cols.take i).any fun d => d.name == t.cols[i].name) = true) → tableF t = false := fun h => tableF_not fun hh => by
      have h2 := (tableF_iff.1 hh).2.2.2.2.2.2.1
      rw [hstep] at h2
      rcases h with h | h <;> simp [h] at h2
    have hany := any_idx (p := fun d : Col => d.name == t.cols[i].name) (l := t.cols.take i)
    repeat' first | (apply Go.adm; exact rfl) | apply Go.qs | apply Qg.nil | ((first | apply Go.v2 | apply Go.v1); (first | exact leAdd | assumption); iterate 6 exact rfl) | ((first | apply Go.op | apply Go.sop | apply Qg.op); exact rfl; (first | exact aop_alloc | exact aop_new rfl rfl | exact aop_mksl rfl | exact aop_lenM rfl | exact rfl | exact aL rfl rfl rfl rfl rfl | exact aS rfl rfl rfl rfl rfl rfl rfl | exact aop_iaddrM (enc := encCol) rfl rfl hk hlt rfl | exact aop_sliceF (n := i) rfl rfl hk (by simp; omega) (fun e he => by obtain ⟨c, _, rfl⟩ := List.mem_map.1 he; rfl))) | ((first | apply Go.no | apply Go.sno | apply Qg.no); exact rfl) | ((first | apply Go.pcallB | apply Go.spcallB | apply Qg.pcallB); (iterate 3 exact rfl); exact l3Name_ok t.cols[i].name hbc.1; intro _ _) | (exfalso; omega) | (((first | apply Go.iQ | apply Go.gQ | apply Go.sQ | apply Qg.gQ); exact rfl; (first | exact .d | exact .e | exact .n | ((fail_if_success exact bqt); (fail_if_success exact bqf); exact .b))) <;> intro _)
    · rename_i c p q
      exact .ret rfl (.bool (neg (.inl (by rw [colOk, nbT p q]; rfl))).symm)
    rename_i c p q
    have hnm := nbF p q
    rw [htk]
    repeat' first | (apply Go.adm; exact rfl) | apply Go.qs | apply Qg.nil | ((first | apply Go.v2 | apply Go.v1); (first | exact leAdd | assumption); iterate 6 exact rfl) | ((first | apply Go.op | apply Go.sop | apply Qg.op); exact rfl; (first | exact aop_alloc | exact aop_new rfl rfl | exact aop_mksl rfl | exact aop_lenM rfl | exact rfl | exact aL rfl rfl rfl rfl rfl | exact aS rfl rfl rfl rfl rfl rfl rfl)) | ((first | apply Go.no | apply Go.sno | apply Qg.no); exact rfl) | ((first | apply Go.pcallB | apply Go.spcallB | apply Qg.pcallB); (iterate 3 exact rfl); (first | exact l1In_ok _ _ _ | exact sValOk_ok _); intro _ _) | ((first | apply Go.pcallI | apply Go.spcallI | apply Qg.pcallI); (iterate 3 exact rfl); exact ColAt_ok (.str []) .nils .nils .nils .nils (t.cols.take i) t.cols[i].name (by simp; omega); intro _ _) | (exfalso; omega) | (((first | apply Go.iQ | apply Go.gQ | apply Go.sQ | apply Qg.gQ); exact rfl; (first | exact .d | exact .e | exact .n | ((fail_if_success exact bqt); (fail_if_success exact bqf); exact .b))) <;> intro _)
    all_goals clear p q
    all_goals try (refine .ret rfl (.bool (neg ?_).symm); clear hrec hsl hstep neg hin; simp_all [colOk, isOfF, isIn12]; done)
    all_goals have hok : (colOk t.cols[i] && !((t.cols.take i).any fun d => d.name == t.cols[i].name)) = true := (by clear hrec hsl hstep neg hin; simp_all [colOk, isOfF, isIn12])
    all_goals refine Go.keep [1, 3, 4] (hrec _ _ _ (by omega) ⟨i + 1, _, rfl, hlt, wrap_succ hk (by omega), ?_, rfl, rfl⟩)
    all_goals rw [hstep, hok, Bool.true_and]
  have hfin : colsDef [] t.cols = true := by
    rw [hsl, List.drop_eq_nil_of_le (by omega)]
    rfl
  clear hrec hsl
  repeat' first | (apply Go.adm; exact rfl) | apply Go.qs | apply Qg.nil | ((first | apply Go.v2 | apply Go.v1); (first | exact leAdd | assumption); iterate 6 exact rfl) | ((first | apply Go.op | apply Go.sop | apply Qg.op); exact rfl; (first | exact aop_alloc | exact aop_new rfl rfl | exact aop_mksl rfl | exact aop_lenM rfl | exact rfl | exact aL rfl rfl rfl rfl rfl | exact aS rfl rfl rfl rfl rfl rfl rfl)) | ((first | apply Go.no | apply Go.sno | apply Qg.no); exact rfl) | (exfalso; omega) | (((first | apply Go.iQ | apply Go.gQ | apply Go.sQ | apply Qg.gQ); exact rfl; (first | exact .d | exact .e | exact .n | ((fail_if_success exact bqt); (fail_if_success exact bqf); exact .b))) <;> intro _)
  clear hlt hk hi
  -- the key
  refine Go.keep [1, 3, 6] (Go.loops (I := fun m fr τ => ∃ i : Nat, ∃ k : Int, m = t.key.length - i ∧ i ≤ t.key.length ∧ k = i ∧ (∀ j (hj : j < t.key.length), j < i → notNullAt t t.key[j] = true) ∧
    fr = [(1, .c (.fp (encTable t))), (3, .c (.int .i64 (t.cols.length : Int))), (6, .c (.int .i64 k))] ∧ τ = E σ []) ?_ _ _ _ ⟨0, _, rfl, Nat.zero_le _, rfl, fun j _ h => absurd h (by omega), rfl, rfl⟩)
  rintro m fr τ ⟨i, k, rfl, hi, hk, hall, rfl, rfl⟩ hrec
  by_cases hlt : i < t.key.length
  · have hc := hin _ (List.getElem_mem hlt)
    obtain ⟨n, hn⟩ : ∃ n : Nat, t.key[i] = n := ⟨t.key[i].toNat, by omega⟩
    have hn2 : n < t.cols.length := by omega
    have hnn : notNullAt t t.key[i] = t.cols[n].notNull := by simp [notNullAt, hn, hn2]
    repeat' first | (apply Go.adm; exact rfl) | apply Go.qs | apply Qg.nil | ((first | apply Go.v2 | apply Go.v1); (first | exact leAdd | assumption); iterate 6 exact rfl) | ((first | apply Go.op | apply Go.sop | apply Qg.op); exact rfl; (first | exact aop_alloc | exact aop_new rfl rfl | exact aop_mksl rfl | exact aop_lenM rfl | exact rfl | exact aL rfl rfl rfl rfl rfl | exact aS rfl rfl rfl rfl rfl rfl rfl | exact aop_iaddrM (enc := encI) rfl rfl hk hlt rfl | exact aop_iaddrM (enc := encCol) rfl rfl hn hn2 rfl)) | ((first | apply Go.no | apply Go.sno | apply Qg.no); exact rfl) | (exfalso; omega) | (((first | apply Go.iQ | apply Go.gQ | apply Go.sQ | apply Qg.gQ); exact rfl; (first | exact .d | exact .e | exact .n | ((fail_if_success exact bqt); (fail_if_success exact bqf); exact .b))) <;> intro _)
    · rename_i h
      exact .ret rfl (.bool (tableF_not fun hh => by
        have h2 := (tableF_iff.1 hh).2.2.2.2.2.2.2.1
        rw [any_at hlt (by rw [hnn]; simpa using h)] at h2
        cases h2).symm)
    · rename_i h
      exact Go.keep [1, 3, 6] (hrec _ _ _ (by omega) ⟨i + 1, _, rfl, hlt, wrap_succ hk (by omega), upto hall hlt (by rw [hnn]; simpa using h), rfl, rfl⟩)
  have hkey := any_none (p := notNullAt t) (l := t.key) fun j hj => hall j hj (by omega)
  clear hrec hall
  repeat' first | (apply Go.adm; exact rfl) | apply Go.qs | apply Qg.nil | ((first | apply Go.v2 | apply Go.v1); (first | exact leAdd | assumption); iterate 6 exact rfl) | ((first | apply Go.op | apply Go.sop | apply Qg.op); exact rfl; (first | exact aop_alloc | exact aop_new rfl rfl | exact aop_mksl rfl | exact aop_lenM rfl | exact rfl | exact aL rfl rfl rfl rfl rfl | exact aS rfl rfl rfl rfl rfl rfl rfl)) | ((first | apply Go.no | apply Go.sno | apply Qg.no); exact rfl) | (exfalso; omega) | (((first | apply Go.iQ | apply Go.gQ | apply Go.sQ | apply Qg.gQ); exact rfl; (first | exact .d | exact .e | exact .n | ((fail_if_success exact bqt); (fail_if_success exact bqf); exact .b))) <;> intro _)
  clear hlt hk hi
  -- the uniques
  refine Go.keep [1, 3, 7] (Go.loops (I := fun m fr τ => ∃ i : Nat, ∃ k : Int, m = t.uniques.length - i ∧ i ≤ t.uniques.length ∧ k = i ∧ (∀ j (hj : j < t.uniques.length), j < i → colsF t.uniques[j].cols t.cols.length = true) ∧
    fr = [(1, .c (.fp (encTable t))), (3, .c (.int .i64 (t.cols.length : Int))), (7, .c (.int .i64 k))] ∧ τ = E σ []) ?_ _ _ _ ⟨0, _, rfl, Nat.zero_le _, rfl, fun j _ h => absurd h (by omega), rfl, rfl⟩)
  rintro m fr τ ⟨i, k, rfl, hi, hk, hall, rfl, rfl⟩ hrec
  by_cases hlt : i < t.uniques.length
  · repeat' first | (apply Go.adm; exact rfl) | apply Go.qs | apply Qg.nil | ((first | apply Go.v2 | apply Go.v1); (first | exact leAdd | assumption); iterate 6 exact rfl) | ((first | apply Go.op | apply Go.sop | apply Qg.op); exact rfl; (first | exact aop_alloc | exact aop_new rfl rfl | exact aop_mksl rfl | exact aop_lenM rfl | exact rfl | exact aL rfl rfl rfl rfl rfl | exact aS rfl rfl rfl rfl rfl rfl rfl | exact aop_iaddrM (enc := encUniq) rfl rfl hk hlt rfl)) | ((first | apply Go.no | apply Go.sno | apply Qg.no); exact rfl) | ((first | apply Go.pcallB | apply Go.spcallB | apply Qg.pcallB); (iterate 3 exact rfl); exact l3Cols_ok t.uniques[i].cols t.cols.length (b4.2 _ (List.getElem_mem hlt)) (by omega) (by omega); intro _ _) | (exfalso; omega) | (((first | apply Go.iQ | apply Go.gQ | apply Go.sQ | apply Qg.gQ); exact rfl; (first | exact .d | exact .e | exact .n | ((fail_if_success exact bqt); (fail_if_success exact bqf); exact .b))) <;> intro _)
    · rename_i c p q
      exact .ret rfl (.bool (tableF_not fun hh => by
        have h2 := (tableF_iff.1 hh).2.2.2.2.2.2.2.2.1
        rw [any_at (p := fun u : Uniq => colsF u.cols t.cols.length) hlt (nbT p q)] at h2
        cases h2).symm)
    · rename_i c p q
      exact Go.keep [1, 3, 7] (hrec _ _ _ (by omega) ⟨i + 1, _, rfl, hlt, wrap_succ hk (by omega), upto (p := fun u : Uniq => colsF u.cols t.cols.length) hall hlt (nbF p q), rfl, rfl⟩)
  have huni := any_none (p := fun u : Uniq => colsF u.cols t.cols.length) (l := t.uniques) fun j hj => hall j hj (by omega)
  clear hrec hall
  repeat' first | (apply Go.adm; exact rfl) | apply Go.qs | apply Qg.nil | ((first | apply Go.v2 | apply Go.v1); (first | exact leAdd | assumption); iterate 6 exact rfl) | ((first | apply Go.op | apply Go.sop | apply Qg.op); exact rfl; (first | exact aop_alloc | exact aop_new rfl rfl | exact aop_mksl rfl | exact aop_lenM rfl | exact rfl | exact aL rfl rfl rfl rfl rfl | exact aS rfl rfl rfl rfl rfl rfl rfl)) | ((first | apply Go.no | apply Go.sno | apply Qg.no); exact rfl) | (exfalso; omega) | (((first | apply Go.iQ | apply Go.gQ | apply Go.sQ | apply Qg.gQ); exact rfl; (first | exact .d | exact .e | exact .n | ((fail_if_success exact bqt); (fail_if_success exact bqf); exact .b))) <;> intro _)
  clear hlt hk hi
  -- the checks
  refine Go.keep [1, 3, 8] (Go.loops (I := fun m fr τ => ∃ i : Nat, ∃ k : Int, m = t.checks.length - i ∧ i ≤ t.checks.length ∧ k = i ∧ (∀ j (hj : j < t.checks.length), j < i → exprF t.checks[j].expr t.cols.length = true) ∧
    fr = [(1, .c (.fp (encTable t))), (3, .c (.int .i64 (t.cols.length : Int))), (8, .c (.int .i64 k))] ∧ τ = E σ []) ?_ _ _ _ ⟨0, _, rfl, Nat.zero_le _, rfl, fun j _ h => absurd h (by omega), rfl, rfl⟩)
  rintro m fr τ ⟨i, k, rfl, hi, hk, hall, rfl, rfl⟩ hrec
  by_cases hlt : i < t.checks.length
  · have hx := l2Expr_ok t.checks[i].expr t.cols.length (b5.2 _ (List.getElem_mem hlt)).1 (by omega) (by omega)
    rw [show (decide ((t.checks[i].expr.length : Int) ≤ 24) && exprAux t.cols.length 0 t.checks[i].expr) = exprF t.checks[i].expr t.cols.length from rfl] at hx
    repeat' first | (apply Go.adm; exact rfl) | apply Go.qs | apply Qg.nil | ((first | apply Go.v2 | apply Go.v1); (first | exact leAdd | assumption); iterate 6 exact rfl) | ((first | apply Go.op | apply Go.sop | apply Qg.op); exact rfl; (first | exact aop_alloc | exact aop_new rfl rfl | exact aop_mksl rfl | exact aop_lenM rfl | exact rfl | exact aL rfl rfl rfl rfl rfl | exact aS rfl rfl rfl rfl rfl rfl rfl | exact aop_iaddrM (enc := encChk) rfl rfl hk hlt rfl)) | ((first | apply Go.no | apply Go.sno | apply Qg.no); exact rfl) | ((first | apply Go.pcallB | apply Go.spcallB | apply Qg.pcallB); (iterate 3 exact rfl); exact hx; intro _ _) | (exfalso; omega) | (((first | apply Go.iQ | apply Go.gQ | apply Go.sQ | apply Qg.gQ); exact rfl; (first | exact .d | exact .e | exact .n | ((fail_if_success exact bqt); (fail_if_success exact bqf); exact .b))) <;> intro _)
    · rename_i c p q
      exact .ret rfl (.bool (tableF_not fun hh => by
        have h2 := (tableF_iff.1 hh).2.2.2.2.2.2.2.2.2.1
        rw [any_at (p := fun u : Chk => exprF u.expr t.cols.length) hlt (nbT p q)] at h2
        cases h2).symm)
    · rename_i c p q
      exact Go.keep [1, 3, 8] (hrec _ _ _ (by omega) ⟨i + 1, _, rfl, hlt, wrap_succ hk (by omega), upto (p := fun u : Chk => exprF u.expr t.cols.length) hall hlt (nbF p q), rfl, rfl⟩)
  have hchk := any_none (p := fun u : Chk => exprF u.expr t.cols.length) (l := t.checks) fun j hj => hall j hj (by omega)
  clear hrec hall
  repeat' first | (apply Go.adm; exact rfl) | apply Go.qs | apply Qg.nil | ((first | apply Go.v2 | apply Go.v1); (first | exact leAdd | assumption); iterate 6 exact rfl) | ((first | apply Go.op | apply Go.sop | apply Qg.op); exact rfl; (first | exact aop_alloc | exact aop_new rfl rfl | exact aop_mksl rfl | exact aop_lenM rfl | exact rfl | exact aL rfl rfl rfl rfl rfl | exact aS rfl rfl rfl rfl rfl rfl rfl)) | ((first | apply Go.no | apply Go.sno | apply Qg.no); exact rfl) | (exfalso; omega) | (((first | apply Go.iQ | apply Go.gQ | apply Go.sQ | apply Qg.gQ); exact rfl; (first | exact .d | exact .e | exact .n | ((fail_if_success exact bqt); (fail_if_success exact bqf); exact .b))) <;> intro _)
  clear hlt hk hi
  -- the references
  refine Go.keep [1, 3, 9] (Go.loops (I := fun m fr τ => ∃ i : Nat, ∃ k : Int, m = t.fks.length - i ∧ i ≤ t.fks.length ∧ k = i ∧ (∀ j (hj : j < t.fks.length), j < i → isFkF t.fks[j] t.cols.length = true) ∧
    fr = [(1, .c (.fp (encTable t))), (3, .c (.int .i64 (t.cols.length : Int))), (9, .c (.int .i64 k))] ∧ τ = E σ []) ?_ _ _ _ ⟨0, _, rfl, Nat.zero_le _, rfl, fun j _ h => absurd h (by omega), rfl, rfl⟩)
  rintro m fr τ ⟨i, k, rfl, hi, hk, hall, rfl, rfl⟩ hrec
  by_cases hlt : i < t.fks.length
  · have hbf := b6.2 _ (List.getElem_mem hlt)
    have neg : isFkF t.fks[i] t.cols.length = false → tableF t = false := fun h => tableF_not fun hh => by
      have h2 := (tableF_iff.1 hh).2.2.2.2.2.2.2.2.2.2
      rw [any_at (p := fun u : Fk => isFkF u t.cols.length) hlt h] at h2
      cases h2
    repeat' first | (apply Go.adm; exact rfl) | apply Go.qs | apply Qg.nil | ((first | apply Go.v2 | apply Go.v1); (first | exact leAdd | assumption); iterate 6 exact rfl) | ((first | apply Go.op | apply Go.sop | apply Qg.op); exact rfl; (first | exact aop_alloc | exact aop_new rfl rfl | exact aop_mksl rfl | exact aop_lenM rfl | exact rfl | exact aL rfl rfl rfl rfl rfl | exact aS rfl rfl rfl rfl rfl rfl rfl | exact aop_iaddrM (enc := encFk) rfl rfl hk hlt rfl)) | ((first | apply Go.no | apply Go.sno | apply Qg.no); exact rfl) | ((first | apply Go.pcallB | apply Go.spcallB | apply Qg.pcallB); (iterate 3 exact rfl); (first | exact l3Cols_ok t.fks[i].cols t.cols.length hbf.1 (by omega) (by omega) | exact l3Name_ok t.fks[i].table hbf.2 | exact l1In_ok _ _ _); intro _ _) | (exfalso; omega) | (((first | apply Go.iQ | apply Go.gQ | apply Go.sQ | apply Qg.gQ); exact rfl; (first | exact .d | exact .e | exact .n | ((fail_if_success exact bqt); (fail_if_success exact bqf); exact .b))) <;> intro _)
    all_goals try (refine .ret rfl (.bool (neg ?_).symm); clear hrec neg hin hall hkey huni hchk; simp_all [isFkF]; done)
    have hok : isFkF t.fks[i] t.cols.length = true := by
      clear hrec neg hin hall hkey huni hchk
      simp_all [isFkF]
    exact Go.keep [1, 3, 9] (hrec _ _ _ (by omega) ⟨i + 1, _, rfl, hlt, wrap_succ hk (by omega), upto (p := fun u : Fk => isFkF u t.cols.length) hall hlt hok, rfl, rfl⟩)
  have hfk := any_none (p := fun u : Fk => isFkF u t.cols.length) (l := t.fks) fun j hj => hall j hj (by omega)
  clear hrec hall
  repeat' first | (apply Go.adm; exact rfl) | apply Go.qs | apply Qg.nil | ((first | apply Go.v2 | apply Go.v1); (first | exact leAdd | assumption); iterate 6 exact rfl) | ((first | apply Go.op | apply Go.sop | apply Qg.op); exact rfl; (first | exact aop_alloc | exact aop_new rfl rfl | exact aop_mksl rfl | exact aop_lenM rfl | exact rfl | exact aL rfl rfl rfl rfl rfl | exact aS rfl rfl rfl rfl rfl rfl rfl)) | ((first | apply Go.no | apply Go.sno | apply Qg.no); exact rfl) | (exfalso; omega) | (((first | apply Go.iQ | apply Go.gQ | apply Go.sQ | apply Qg.gQ); exact rfl; (first | exact .d | exact .e | exact .n | ((fail_if_success exact bqt); (fail_if_success exact bqf); exact .b))) <;> intro _)
  refine .ret rfl (.bool ?_)
  rw [eq_comm, tableF_iff]
  exact ⟨k1, k2, k3, by omega, by omega, by omega, hfin, hkey, huni, hchk, hfk⟩
end Go.Proofs.YtcfpdongfdhgjaaGreat.Am

/- Schemas, as the program sees them. -/
set_option linter.unusedVariables false
set_option linter.unusedSimpArgs false
namespace Go.Proofs.YtcfpdongfdhgjaaGreat.Am

theorem idxA_at {α : Type} {p : α → Bool} : ∀ {l : List α} {i : Int}, 0 ≤ i → idxA p l i = -1 ∨ ∃ n : Nat, ∃ h : n < l.length, idxA p l i = i + n ∧ p l[n] = true
  | [], i, h => .inl rfl
  | a :: r, i, h => by
    simp only [idxA]
    split
    · exact .inr ⟨0, by simp, by simp, by assumption⟩
    · rcases idxA_at (p := p) (l := r) (i := i + 1) (by omega) with h1 | ⟨n, hn, h1, h2⟩
      · exact .inl h1
      · exact .inr ⟨n + 1, by simpa using hn, by omega, by simpa using h2⟩
theorem TableAt1_ok (t : Table) (s : List UInt8) : Pure Tryz.prog 247 [.agg (encTable t), .c (.fp [.str s])] (.c (.bool (t.name == s))) := by
  refine Pure.run mixed c_impl_TableAt_1_ok (Nat.le_of_ble_eq_true rfl) fun σ hS hA => ?_
  clear hS hA
  repeat' first | (apply Go.adm; exact rfl) | apply Go.qs | apply Qg.nil | ((first | apply Go.v2 | apply Go.v1); (first | exact leAdd | assumption); iterate 6 exact rfl) | ((first | apply Go.op | apply Go.sop | apply Qg.op); exact rfl; (first | exact aop_alloc | exact aop_new rfl rfl | exact aop_mksl rfl | exact aop_lenM rfl | exact rfl | exact aL rfl rfl rfl rfl rfl | exact aS rfl rfl rfl rfl rfl rfl rfl)) | ((first | apply Go.no | apply Go.sno | apply Qg.no); exact rfl) | (exfalso; omega) | (((first | apply Go.iQ | apply Go.gQ | apply Go.sQ | apply Qg.gQ); exact rfl; (first | exact .d | exact .e | exact .n | ((fail_if_success exact bqt); (fail_if_success exact bqf); exact .b))) <;> intro _)
  all_goals refine .ret rfl (.bool ?_)
  all_goals simp_all
theorem TableAt_ok (l : List Table) (s : List UInt8) (hx : l.length ≤ 34359738368) : Pure Tryz.prog 163 [.c (.fz (l.map encTable)), .c (.str s)] (.c (.int .i64 (idxA (fun t => t.name == s) l 0))) := by
  refine Pure.run mixed c_impl_TableAt_ok (Nat.le_of_ble_eq_true rfl) fun σ hS hA => ?_
  clear hS hA
  repeat' first | (apply Go.adm; exact rfl) | apply Go.qs | apply Qg.nil | ((first | apply Go.v2 | apply Go.v1); (first | exact leAdd | assumption); iterate 6 exact rfl) | ((first | apply Go.op | apply Go.sop | apply Qg.op); exact rfl; (first | exact aop_alloc | exact aop_new rfl rfl | exact aop_mksl rfl | exact aop_lenM rfl | exact rfl | exact aL rfl rfl rfl rfl rfl | exact aS rfl rfl rfl rfl rfl rfl rfl)) | ((first | apply Go.no | apply Go.sno | apply Qg.no); exact rfl) | ((first | apply Go.pcall | apply Go.spcall | apply Qg.pcall); (iterate 3 exact rfl); exact indexFuncA_ok mixed c_slices_IndexFunc_Table_ok encTable (fun t => .agg (encTable t)) (fun _ => rfl) (fun _ => rfl) l (fun t => t.name == s) _ [] [.fp [.str s]] hx (fun j hj _ => TableAt1_ok _ _)) | (exfalso; omega) | (((first | apply Go.iQ | apply Go.gQ | apply Go.sQ | apply Qg.gQ); exact rfl; (first | exact .d | exact .e | exact .n | ((fail_if_success exact bqt); (fail_if_success exact bqf); exact .b))) <;> intro _)
  exact .ret rfl (.int rfl)
def kindAt (t : Table) (c : Int) : Int := match t.cols[c.toNat]? with | some x => x.kind | none => 0
def kindsEq (u t : Table) : List Int → List Int → Bool
  | a :: r, c :: q => kindAt u a == kindAt t c && kindsEq u t r q
  | _, _ => true
def metAt (u t : Table) (f : Fk) : Bool := decide (u.key.length = f.cols.length) && kindsEq u t u.key f.cols
def metF (s : List Table) (t : Table) (f : Fk) : Bool := s.any (fun u => u.name == f.table) && (match s[(idxA (fun u => u.name == f.table) s 0).toNat]? with | some u => metAt u t f | none => false)
theorem kindAt_at {t : Table} {c : Int} {n : Nat} (h : c = n) (hn : n < t.cols.length) : kindAt t c = t.cols[n].kind := by
  simp [kindAt, h, hn]
theorem metF_no {s : List Table} {t : Table} {f : Fk} (h : idxA (fun u => u.name == f.table) s 0 = -1) : metF s t f = false := by
  have := any_idx (p := fun u : Table => u.name == f.table) (l := s)
  rw [h] at this
  rw [metF, ← this]
  rfl
theorem metF_yes {s : List Table} {t : Table} {f : Fk} {n : Nat} (h : idxA (fun u => u.name == f.table) s 0 = n) (hn : n < s.length) : metF s t f = metAt s[n] t f := by
  have := any_idx (p := fun u : Table => u.name == f.table) (l := s)
  rw [h] at this
  rw [metF, ← this, h, decide_eq_true (by omega)]
  simp [hn]
theorem isMet_ok (s : List Table) (t : Table) (f : Fk) (hx : s.length ≤ 34359738368) (hs : ∀ u ∈ s, u.key.length ≤ 34359738368 ∧ ∀ c ∈ u.key, 0 ≤ c ∧ c < u.cols.length) (hf0 : f.cols.length ≤ 34359738368) (hf : ∀ c ∈ f.cols, 0 ≤ c ∧ c < t.cols.length) : Pure Tryz.prog 269 [.c (.fz (s.map encTable)), .agg (encTable t), .agg (encFk f)] (.c (.bool (metF s t f))) := by
  refine Pure.run mixed c_impl_isMet_ok (Nat.le_of_ble_eq_true rfl) fun σ hS hA => ?_
  clear hS hA
  repeat' first | (apply Go.adm; exact rfl) | apply Go.qs | apply Qg.nil | ((first | apply Go.v2 | apply Go.v1); (first | exact leAdd | assumption); iterate 6 exact rfl) | ((first | apply Go.op | apply Go.sop | apply Qg.op); exact rfl; (first | exact aop_alloc | exact aop_new rfl rfl | exact aop_mksl rfl | exact aop_lenM rfl | exact rfl | exact aL rfl rfl rfl rfl rfl | exact aS rfl rfl rfl rfl rfl rfl rfl)) | ((first | apply Go.no | apply Go.sno | apply Qg.no); exact rfl)
  refine .pcall rfl rfl rfl (TableAt_ok s f.table hx) ?_
  rcases idxA_at (p := fun u : Table => u.name == f.table) (l := s) (i := 0) (Int.le_refl _) with hq | ⟨n, hn, hq, hp⟩
  · have hm := metF_no (t := t) hq
    rw [hq]
    repeat' first | (apply Go.adm; exact rfl) | apply Go.qs | apply Qg.nil | ((first | apply Go.v2 | apply Go.v1); (first | exact leAdd | assumption); iterate 6 exact rfl) | ((first | apply Go.op | apply Go.sop | apply Qg.op); exact rfl; (first | exact aop_alloc | exact aop_new rfl rfl | exact aop_mksl rfl | exact aop_lenM rfl | exact rfl | exact aL rfl rfl rfl rfl rfl | exact aS rfl rfl rfl rfl rfl rfl rfl)) | ((first | apply Go.no | apply Go.sno | apply Qg.no); exact rfl) | (exfalso; omega) | (((first | apply Go.iQ | apply Go.gQ | apply Go.sQ | apply Qg.gQ); exact rfl; (first | exact .d | exact .e | exact .n | ((fail_if_success exact bqt); (fail_if_success exact bqf); exact .b))) <;> intro _)
    exact .ret rfl (.bool hm.symm)
  rw [Int.zero_add] at hq
  have hm := metF_yes (t := t) hq hn
  have hsn := hs _ (List.getElem_mem hn)
  rw [hq]
  have hnz : ¬ ((n : Int) < 0) := by omega
  repeat' first | (apply Go.adm; exact rfl) | apply Go.qs | apply Qg.nil | ((first | apply Go.v2 | apply Go.v1); (first | exact leAdd | assumption); iterate 6 exact rfl) | ((first | apply Go.op | apply Go.sop | apply Qg.op); exact rfl; (first | exact aop_alloc | exact aop_new rfl rfl | exact aop_mksl rfl | exact aop_lenM rfl | exact rfl | exact aL rfl rfl rfl rfl rfl | exact aS rfl rfl rfl rfl rfl rfl rfl | exact aop_iaddrM (enc := encTable) rfl rfl rfl hn rfl)) | ((first | apply Go.no | apply Go.sno | apply Qg.no); exact rfl) | (exfalso; omega) | (((first | apply Go.iQ | apply Go.gQ | apply Go.sQ | apply Qg.gQ); exact rfl; (first | exact .d | exact .e | exact .n | ((fail_if_success exact bqt); (fail_if_success exact bqf); exact .b))) <;> intro _)
  · refine .ret rfl (.bool ?_)
    rename_i h
    rw [hm, metAt, decide_eq_false (by omega)]
    rfl
  rename_i hlen
  refine Go.keep [0, 4, 7, 29, 30, 31] (Go.loops (I := fun m fr τ => ∃ i : Nat, ∃ k : Int, m = f.cols.length - i ∧ i ≤ f.cols.length ∧ k = i ∧ kindsEq s[n] t s[n].key f.cols = kindsEq s[n] t (s[n].key.drop i) (f.cols.drop i) ∧
    fr = [(0, .c (.fz (s.map encTable))), (4, .c (.fp (encTable t))), (7, .c (.int .i64 (n : Int))), (29, .c (.fz (f.cols.map encI))), (30, .c (.int .i64 (f.cols.length : Int))), (31, .c (.int .i64 k))] ∧ τ = E σ []) ?_ _ _ _ ⟨0, _, rfl, Nat.zero_le _, rfl, rfl, rfl, rfl⟩)
  rintro m fr τ ⟨i, k, rfl, hi, hk, hsl, rfl, rfl⟩ hrec
  by_cases hlt : i < f.cols.length
  · have hlt2 : i < s[n].key.length := by omega
    have h1 := hsn.2 _ (List.getElem_mem hlt2)
    have h2 := hf _ (List.getElem_mem hlt)
    obtain ⟨a, ha⟩ : ∃ a : Nat, s[n].key[i] = a := ⟨s[n].key[i].toNat, by omega⟩
    obtain ⟨c, hc⟩ : ∃ c : Nat, f.cols[i] = c := ⟨f.cols[i].toNat, by omega⟩
    have ha2 : a < s[n].cols.length := by omega
    have hc2 : c < t.cols.length := by omega
    have e1 := kindAt_at ha ha2
    have e2 := kindAt_at hc hc2
    have hstep : kindsEq s[n] t s[n].key f.cols = (s[n].cols[a].kind == t.cols[c].kind && kindsEq s[n] t (s[n].key.drop (i + 1)) (f.cols.drop (i + 1))) := by
      rw [hsl, List.drop_eq_getElem_cons hlt, List.drop_eq_getElem_cons hlt2, kindsEq, e1, e2]
    repeat' first | (apply Go.adm; exact rfl) | apply Go.qs | apply Qg.nil | ((first | apply Go.v2 | apply Go.v1); (first | exact leAdd | assumption); iterate 6 exact rfl) | ((first | apply Go.op | apply Go.sop | apply Qg.op); exact rfl; (first | exact aop_alloc | exact aop_new rfl rfl | exact aop_mksl rfl | exact aop_lenM rfl | exact rfl | exact aL rfl rfl rfl rfl rfl | exact aS rfl rfl rfl rfl rfl rfl rfl | exact aop_iaddrM (enc := encI) rfl rfl hk hlt rfl | exact aop_iaddrM (enc := encTable) rfl rfl rfl hn rfl | exact aop_iaddrM (enc := encI) rfl rfl hk hlt2 rfl | exact aop_iaddrM (enc := encCol) rfl rfl ha ha2 rfl | exact aop_iaddrM (enc := encCol) rfl rfl hc hc2 rfl)) | ((first | apply Go.no | apply Go.sno | apply Qg.no); exact rfl) | (exfalso; omega) | (((first | apply Go.iQ | apply Go.gQ | apply Go.sQ | apply Qg.gQ); exact rfl; (first | exact .d | exact .e | exact .n | ((fail_if_success exact bqt); (fail_if_success exact bqf); exact .b))) <;> intro _)
    · refine .ret rfl (.bool ?_)
      rename_i h
      rw [hm, metAt, hstep, beq_eq_false_iff_ne.2 h]
      simp
    · rename_i h
      refine Go.keep [0, 4, 7, 29, 30, 31] (hrec _ _ _ (by omega) ⟨i + 1, _, rfl, hlt, wrap_succ hk (by omega), ?_, rfl, rfl⟩)
      rw [hstep, h]
      simp
  · repeat' first | (apply Go.adm; exact rfl) | apply Go.qs | apply Qg.nil | ((first | apply Go.v2 | apply Go.v1); (first | exact leAdd | assumption); iterate 6 exact rfl) | ((first | apply Go.op | apply Go.sop | apply Qg.op); exact rfl; (first | exact aop_alloc | exact aop_new rfl rfl | exact aop_mksl rfl | exact aop_lenM rfl | exact rfl | exact aL rfl rfl rfl rfl rfl | exact aS rfl rfl rfl rfl rfl rfl rfl)) | ((first | apply Go.no | apply Go.sno | apply Qg.no); exact rfl) | (exfalso; omega) | (((first | apply Go.iQ | apply Go.gQ | apply Go.sQ | apply Qg.gQ); exact rfl; (first | exact .d | exact .e | exact .n | ((fail_if_success exact bqt); (fail_if_success exact bqf); exact .b))) <;> intro _)
    refine .ret rfl (.bool ?_)
    rw [hm, metAt, hsl, List.drop_eq_nil_of_le (by omega), decide_eq_true (by omega)]
    cases s[n].key.drop i <;> rfl
def namesAux : List Table → List Table → Bool
  | _, [] => true
  | pre, t :: r => tableF t && !(pre.any fun u => u.name == t.name) && namesAux (pre ++ [t]) r
def schemaF (s : List Table) : Bool := decide ((s.length : Int) ≤ 5) && (namesAux [] s && !(s.any fun t => t.fks.any fun f => !metF s t f))
theorem namesAux_ok : ∀ {l pre : List Table}, namesAux pre l = true → ∀ t ∈ l, tableF t = true
  | [], _, _, t, h => by simp at h
  | a :: r, pre, h, t, ht => by
    simp only [namesAux, Bool.and_eq_true] at h
    rcases List.mem_cons.1 ht with rfl | ht
    · exact h.1.1
    · exact namesAux_ok h.2 t ht
theorem tableF_key {t : Table} (h : tableF t = true) : ∀ c ∈ t.key, 0 ≤ c ∧ c < t.cols.length := colsF_in (tableF_iff.1 h).2.2.1
theorem tableF_fk {t : Table} (h : tableF t = true) {f : Fk} (hf : f ∈ t.fks) : ∀ c ∈ f.cols, 0 ≤ c ∧ c < t.cols.length := by
  have h1 := (tableF_iff.1 h).2.2.2.2.2.2.2.2.2.2
  rw [List.any_eq_false] at h1
  have := h1 f hf
  simp only [Bool.not_eq_true', Bool.not_eq_false, isFkF, Bool.and_eq_true] at this
  exact colsF_in this.1
theorem SchemaOk11_ok (s : List Table) (t : Table) (f : Fk) (hx : s.length ≤ 34359738368) (hs : ∀ u ∈ s, u.key.length ≤ 34359738368 ∧ ∀ c ∈ u.key, 0 ≤ c ∧ c < u.cols.length) (hf0 : f.cols.length ≤ 34359738368) (hf : ∀ c ∈ f.cols, 0 ≤ c ∧ c < t.cols.length) : Pure Tryz.prog 268 [.agg (encFk f), .c (.fp [.fz (s.map encTable)]), .c (.fp (encTable t))] (.c (.bool (!metF s t f))) := by
  refine Pure.run mixed c_impl_SchemaOk_1_1_ok (Nat.le_of_ble_eq_true rfl) fun σ hS hA => ?_
  clear hS hA
  repeat' first | (apply Go.adm; exact rfl) | apply Go.qs | apply Qg.nil | ((first | apply Go.v2 | apply Go.v1); (first | exact leAdd | assumption); iterate 6 exact rfl) | ((first | apply Go.op | apply Go.sop | apply Qg.op); exact rfl; (first | exact aop_alloc | exact aop_new rfl rfl | exact aop_mksl rfl | exact aop_lenM rfl | exact rfl | exact aL rfl rfl rfl rfl rfl | exact aS rfl rfl rfl rfl rfl rfl rfl)) | ((first | apply Go.no | apply Go.sno | apply Qg.no); exact rfl) | ((first | apply Go.pcall | apply Go.spcall | apply Qg.pcall); (iterate 3 exact rfl); exact isMet_ok s t f hx hs hf0 hf) | (exfalso; omega) | (((first | apply Go.iQ | apply Go.gQ | apply Go.sQ | apply Qg.gQ); exact rfl; (first | exact .d | exact .e | exact .n | ((fail_if_success exact bqt); (fail_if_success exact bqf); exact .b))) <;> intro _)
  exact .ret rfl (.bool rfl)
theorem SchemaOk1_ok (s : List Table) (t : Table) (hx : s.length ≤ 34359738368) (hs : ∀ u ∈ s, u.key.length ≤ 34359738368 ∧ ∀ c ∈ u.key, 0 ≤ c ∧ c < u.cols.length) (hb : bTable 34359738368 t) (hf : ∀ f ∈ t.fks, ∀ c ∈ f.cols, 0 ≤ c ∧ c < t.cols.length) : Pure Tryz.prog 266 [.agg (encTable t), .c (.fp [.fz (s.map encTable)])] (.c (.bool (t.fks.any fun f => !metF s t f))) := by
  refine Pure.run mixed c_impl_SchemaOk_1_ok (Nat.le_of_ble_eq_true rfl) fun σ hS hA => ?_
  clear hS hA
  have b6 := hb.2.2.2.2.2
  repeat' first | (apply Go.adm; exact rfl) | apply Go.qs | apply Qg.nil | ((first | apply Go.v2 | apply Go.v1); (first | exact leAdd | assumption); iterate 6 exact rfl) | ((first | apply Go.op | apply Go.sop | apply Qg.op); exact rfl; (first | exact aop_alloc | exact aop_new rfl rfl | exact aop_mksl rfl | exact aop_lenM rfl | exact rfl | exact aL rfl rfl rfl rfl rfl | exact aS rfl rfl rfl rfl rfl rfl rfl)) | ((first | apply Go.no | apply Go.sno | apply Qg.no); exact rfl) | ((first | apply Go.pcall | apply Go.spcall | apply Qg.pcall); (iterate 3 exact rfl); exact containsFuncA_ok mixed c_slices_ContainsFunc_Fk_ok c_slices_IndexFunc_Fk_ok encFk (fun u => .agg (encFk u)) (fun _ => rfl) (fun _ => rfl) t.fks (fun f => !metF s t f) _ [] [.fp [.fz (s.map encTable)], .fp (encTable t)] b6.1 (fun j hj _ => SchemaOk11_ok s t _ hx hs (b6.2 _ (List.getElem_mem hj)).1 (hf _ (List.getElem_mem hj)))) | (exfalso; omega) | (((first | apply Go.iQ | apply Go.gQ | apply Go.sQ | apply Qg.gQ); exact rfl; (first | exact .d | exact .e | exact .n | ((fail_if_success exact bqt); (fail_if_success exact bqf); exact .b))) <;> intro _)
  exact .ret rfl (.bool rfl)
theorem encTable_len {l : List Table} : ∀ e ∈ l.map encTable, e.length = 6 := fun e he => by
  obtain ⟨t, _, rfl⟩ := List.mem_map.1 he
  rfl
theorem SchemaOk_ok (s : List Table) (hx : s.length ≤ 34359738368) (hb : ∀ t ∈ s, bTable 34359738368 t) : Pure Tryz.prog 186 [.c (.fz (s.map encTable))] (.c (.bool (schemaF s))) := by
  refine Pure.run mixed c_impl_SchemaOk_ok (Nat.le_of_ble_eq_true rfl) fun σ hS hA => ?_
  clear hS hA
  repeat' first | (apply Go.adm; exact rfl) | apply Go.qs | apply Qg.nil | ((first | apply Go.v2 | apply Go.v1); (first | exact leAdd | assumption); iterate 6 exact rfl) | ((first | apply Go.op | apply Go.sop | apply Qg.op); exact rfl; (first | exact aop_alloc | exact aop_new rfl rfl | exact aop_mksl rfl | exact aop_lenM rfl | exact rfl | exact aL rfl rfl rfl rfl rfl | exact aS rfl rfl rfl rfl rfl rfl rfl)) | ((first | apply Go.no | apply Go.sno | apply Qg.no); exact rfl) | (exfalso; omega) | (((first | apply Go.iQ | apply Go.gQ | apply Go.sQ | apply Qg.gQ); exact rfl; (first | exact .d | exact .e | exact .n | ((fail_if_success exact bqt); (fail_if_success exact bqf); exact .b))) <;> intro _)
  · refine .ret rfl (.bool ?_)
    rw [schemaF, decide_eq_false (by omega)]
    rfl
  rename_i h5
  refine Go.keep [1, 8, 9, 10] (Go.loops (I := fun m fr τ => ∃ i : Nat, ∃ k : Int, m = s.length - i ∧ i ≤ s.length ∧ k = i ∧ namesAux [] s = namesAux (s.take i) (s.drop i) ∧
    fr = [(1, .c (.fp [.fz (s.map encTable)])), (8, .c (.fz (s.map encTable))), (9, .c (.int .i64 (s.length : Int))), (10, .c (.int .i64 k))] ∧ τ = E σ []) ?_ _ _ _ ⟨0, _, rfl, Nat.zero_le _, rfl, rfl, rfl, rfl⟩)
  rintro m fr τ ⟨i, k, rfl, hi, hk, hsl, rfl, rfl⟩ hrec
  by_cases hlt : i < s.length
  · have hd := List.drop_eq_getElem_cons hlt
    have htk : (s.map encTable).take i = (s.take i).map encTable := List.map_take.symm
    have hstep : namesAux [] s = (tableF s[i] && !((s.take i).any fun d => d.name == s[i].name) && namesAux (s.take (i + 1)) (s.drop (i + 1))) := by
      rw [hsl, hd, namesAux, List.take_succ_eq_append_getElem hlt]
    have neg : (tableF s[i] = false ∨ ((s.take i).any fun d => d.name == s[i].name) = true) → schemaF s = false := by
      rintro (h | h)
      · rw [schemaF, hstep, h]; simp
      · rw [schemaF, hstep, h]; simp
    have hany := any_idx (p := fun d : Table => d.name == s[i].name) (l := s.take i)
    repeat' first | (apply Go.adm; exact rfl) | apply Go.qs | apply Qg.nil | ((first | apply Go.v2 | apply Go.v1); (first | exact leAdd | assumption); iterate 6 exact rfl) | ((first | apply Go.op | apply Go.sop | apply Qg.op); exact rfl; (first | exact aop_alloc | exact aop_new rfl rfl | exact aop_mksl rfl | exact aop_lenM rfl | exact rfl | exact aL rfl rfl rfl rfl rfl | exact aS rfl rfl rfl rfl rfl rfl rfl | exact aop_iaddrM (enc := encTable) rfl rfl hk hlt rfl | exact aop_sliceF (n := i) rfl rfl hk (by simp; omega) encTable_len)) | ((first | apply Go.no | apply Go.sno | apply Qg.no); exact rfl) | ((first | apply Go.pcallB | apply Go.spcallB | apply Qg.pcallB); (iterate 3 exact rfl); exact TableOk_ok s[i] (hb _ (List.getElem_mem hlt)); intro _ _) | (exfalso; omega) | (((first | apply Go.iQ | apply Go.gQ | apply Go.sQ | apply Qg.gQ); exact rfl; (first | exact .d | exact .e | exact .n | ((fail_if_success exact bqt); (fail_if_success exact bqf); exact .b))) <;> intro _)
    · rename_i c p q
      exact .ret rfl (.bool (neg (.inl (nbT p q))).symm)
    rename_i c p q
    rw [htk]
    repeat' first | (apply Go.adm; exact rfl) | apply Go.qs | apply Qg.nil | ((first | apply Go.v2 | apply Go.v1); (first | exact leAdd | assumption); iterate 6 exact rfl) | ((first | apply Go.op | apply Go.sop | apply Qg.op); exact rfl; (first | exact aop_alloc | exact aop_new rfl rfl | exact aop_mksl rfl | exact aop_lenM rfl | exact rfl | exact aL rfl rfl rfl rfl rfl | exact aS rfl rfl rfl rfl rfl rfl rfl)) | ((first | apply Go.no | apply Go.sno | apply Qg.no); exact rfl) | ((first | apply Go.pcallI | apply Go.spcallI | apply Qg.pcallI); (iterate 3 exact rfl); exact TableAt_ok (s.take i) s[i].name (by simp; omega); intro _ _) | (exfalso; omega) | (((first | apply Go.iQ | apply Go.gQ | apply Go.sQ | apply Qg.gQ); exact rfl; (first | exact .d | exact .e | exact .n | ((fail_if_success exact bqt); (fail_if_success exact bqf); exact .b))) <;> intro _)
    · rename_i z hz hz2
      refine .ret rfl (.bool (neg (.inr ?_)).symm)
      rw [← hany, hz]
      simpa using hz2
    · rename_i z hz hz2
      refine Go.keep [1, 8, 9, 10] (hrec _ _ _ (by omega) ⟨i + 1, _, rfl, hlt, wrap_succ hk (by omega), ?_, rfl, rfl⟩)
      rw [hstep, nbF p q, ← hany, hz, decide_eq_false (by omega)]
      rfl
  have hfin : namesAux [] s = true := by
    rw [hsl, List.drop_eq_nil_of_le (by omega)]
    rfl
  have hok := namesAux_ok hfin
  clear hrec hsl
  repeat' first | (apply Go.adm; exact rfl) | apply Go.qs | apply Qg.nil | ((first | apply Go.v2 | apply Go.v1); (first | exact leAdd | assumption); iterate 6 exact rfl) | ((first | apply Go.op | apply Go.sop | apply Qg.op); exact rfl; (first | exact aop_alloc | exact aop_new rfl rfl | exact aop_mksl rfl | exact aop_lenM rfl | exact rfl | exact aL rfl rfl rfl rfl rfl | exact aS rfl rfl rfl rfl rfl rfl rfl)) | ((first | apply Go.no | apply Go.sno | apply Qg.no); exact rfl) | ((first | apply Go.pcall | apply Go.spcall | apply Qg.pcall); (iterate 3 exact rfl); exact containsFuncA_ok mixed c_slices_ContainsFunc_Table_ok c_slices_IndexFunc_Table_ok encTable (fun u => .agg (encTable u)) (fun _ => rfl) (fun _ => rfl) s (fun t => t.fks.any fun f => !metF s t f) _ [] [.fp [.fz (s.map encTable)]] hx (fun j hj _ => SchemaOk1_ok s _ hx (fun u hu => ⟨(hb u hu).2.2.1, tableF_key (hok u hu)⟩) (hb _ (List.getElem_mem hj)) (fun f hf => tableF_fk (hok _ (List.getElem_mem hj)) hf))) | (exfalso; omega) | (((first | apply Go.iQ | apply Go.gQ | apply Go.sQ | apply Qg.gQ); exact rfl; (first | exact .d | exact .e | exact .n | ((fail_if_success exact bqt); (fail_if_success exact bqf); exact .b))) <;> intro _)
  refine .ret rfl (.bool ?_)
  rw [schemaF, hfin, decide_eq_true (by omega)]
  rfl
end Go.Proofs.YtcfpdongfdhgjaaGreat.Am

/- Schemas, as the reference sees them. -/
set_option linter.unusedVariables false
set_option linter.unusedSimpArgs false
namespace Go.Proofs.YtcfpdongfdhgjaaGreat.Am

theorem schemaF_not {s : List Table} (h : schemaF s = true → False) : schemaF s = false := by
  cases c : schemaF s
  · rfl
  · exact (h c).elim
theorem schemaF_iff {s : List Table} : schemaF s = true ↔ (s.length : Int) ≤ 5 ∧ namesAux [] s = true ∧ (s.any fun t => t.fks.any fun f => !metF s t f) = false := by
  simp only [schemaF, Bool.and_eq_true, decide_eq_true_eq, Bool.not_eq_true']
theorem sSchemaOk_ok (s : List Table) (hx : s.length ≤ 34359738368) (hb : ∀ t ∈ s, bTable 34359738368 t) : Pure Tryz.prog 179 [.c (.fz (s.map encTable))] (.c (.bool (schemaF s))) := by
  refine Pure.run mixed c_spec_SchemaOk_ok (Nat.le_of_ble_eq_true rfl) fun σ hS hA => ?_
  clear hS hA
  repeat' first | (apply Go.adm; exact rfl) | apply Go.qs | apply Qg.nil | ((first | apply Go.v2 | apply Go.v1); (first | exact leAdd | assumption); iterate 6 exact rfl) | ((first | apply Go.op | apply Go.sop | apply Qg.op); exact rfl; (first | exact aop_alloc | exact aop_new rfl rfl | exact aop_mksl rfl | exact aop_lenM rfl | exact rfl | exact aL rfl rfl rfl rfl rfl | exact aS rfl rfl rfl rfl rfl rfl rfl)) | ((first | apply Go.no | apply Go.sno | apply Qg.no); exact rfl) | (exfalso; omega) | (((first | apply Go.iQ | apply Go.gQ | apply Go.sQ | apply Qg.gQ); exact rfl; (first | exact .d | exact .e | exact .n | ((fail_if_success exact bqt); (fail_if_success exact bqf); exact .b))) <;> intro _)
  refine Go.keep [0, 3] (Go.loops (I := fun m fr τ => ∃ i : Nat, ∃ k : Int, m = s.length - i ∧ i ≤ s.length ∧ k = i ∧ namesAux [] s = namesAux (s.take i) (s.drop i) ∧
    fr = [(0, .c (.fz (s.map encTable))), (3, .c (.int .i64 k))] ∧ τ = E σ []) ?_ _ _ _ ⟨0, _, rfl, Nat.zero_le _, rfl, rfl, rfl, rfl⟩)
  rintro m fr τ ⟨i, k, rfl, hi, hk, hsl, rfl, rfl⟩ hrec
  by_cases hlt : i < s.length
  · have hd := List.drop_eq_getElem_cons hlt
    have htk : (s.map encTable).take i = (s.take i).map encTable := List.map_take.symm
    have hstep : namesAux [] s = (tableF s[i] && !((s.take i).any fun d => d.name == s[i].name) && namesAux (s.take (i + 1)) (s.drop (i + 1))) := by
      rw [hsl, hd, namesAux, List.take_succ_eq_append_getElem hlt]
    have neg : (tableF s[i] = false ∨ ((s.take i).any fun d => d.name == s[i].name) = true) → schemaF s = false := by
      rintro (h | h)
      · rw [schemaF, hstep, h]; simp
      · rw [schemaF, hstep, h]; simp
    have hany := any_idx (p := fun d : Table => d.name == s[i].name) (l := s.take i)
    repeat' first | (apply Go.adm; exact rfl) | apply Go.qs | apply Qg.nil | ((first | apply Go.v2 | apply Go.v1); (first | exact leAdd | assumption); iterate 6 exact rfl) | ((first | apply Go.op | apply Go.sop | apply Qg.op); exact rfl; (first | exact aop_alloc | exact aop_new rfl rfl | exact aop_mksl rfl | exact aop_lenM rfl | exact rfl | exact aL rfl rfl rfl rfl rfl | exact aS rfl rfl rfl rfl rfl rfl rfl | exact aop_iaddrM (enc := encTable) rfl rfl hk hlt rfl | exact aop_sliceF (n := i) rfl rfl hk (by simp; omega) encTable_len)) | ((first | apply Go.no | apply Go.sno | apply Qg.no); exact rfl) | ((first | apply Go.pcallB | apply Go.spcallB | apply Qg.pcallB); (iterate 3 exact rfl); exact sTableOk_ok s[i] (hb _ (List.getElem_mem hlt)); intro _ _) | (exfalso; omega) | (((first | apply Go.iQ | apply Go.gQ | apply Go.sQ | apply Qg.gQ); exact rfl; (first | exact .d | exact .e | exact .n | ((fail_if_success exact bqt); (fail_if_success exact bqf); exact .b))) <;> intro _)
    · rename_i c p q
      exact .ret rfl (.bool (neg (.inl (nbT p q))).symm)
    rename_i c p q
    rw [htk]
    repeat' first | (apply Go.adm; exact rfl) | apply Go.qs | apply Qg.nil | ((first | apply Go.v2 | apply Go.v1); (first | exact leAdd | assumption); iterate 6 exact rfl) | ((first | apply Go.op | apply Go.sop | apply Qg.op); exact rfl; (first | exact aop_alloc | exact aop_new rfl rfl | exact aop_mksl rfl | exact aop_lenM rfl | exact rfl | exact aL rfl rfl rfl rfl rfl | exact aS rfl rfl rfl rfl rfl rfl rfl)) | ((first | apply Go.no | apply Go.sno | apply Qg.no); exact rfl) | ((first | apply Go.pcallI | apply Go.spcallI | apply Qg.pcallI); (iterate 3 exact rfl); exact l3At_ok (s.take i) s[i].name (by simp; omega); intro _ _) | (exfalso; omega) | (((first | apply Go.iQ | apply Go.gQ | apply Go.sQ | apply Qg.gQ); exact rfl; (first | exact .d | exact .e | exact .n | ((fail_if_success exact bqt); (fail_if_success exact bqf); exact .b))) <;> intro _)
    · rename_i z hz hz2
      refine .ret rfl (.bool (neg (.inr ?_)).symm)
      rw [← hany, hz]
      simpa using hz2
    · rename_i z hz hz2
      refine Go.keep [0, 3] (hrec _ _ _ (by omega) ⟨i + 1, _, rfl, hlt, wrap_succ hk (by omega), ?_, rfl, rfl⟩)
      rw [hstep, nbF p q, ← hany, hz, decide_eq_false (by omega)]
      rfl
  have hfin : namesAux [] s = true := by
    rw [hsl, List.drop_eq_nil_of_le (by omega)]
    rfl
  have hok := namesAux_ok hfin
  clear hrec hsl
  repeat' first | (apply Go.adm; exact rfl) | apply Go.qs | apply Qg.nil | ((first | apply Go.v2 | apply Go.v1); (first | exact leAdd | assumption); iterate 6 exact rfl) | ((first | apply Go.op | apply Go.sop | apply Qg.op); exact rfl; (first | exact aop_alloc | exact aop_new rfl rfl | exact aop_mksl rfl | exact aop_lenM rfl | exact rfl | exact aL rfl rfl rfl rfl rfl | exact aS rfl rfl rfl rfl rfl rfl rfl)) | ((first | apply Go.no | apply Go.sno | apply Qg.no); exact rfl) | (exfalso; omega) | (((first | apply Go.iQ | apply Go.gQ | apply Go.sQ | apply Qg.gQ); exact rfl; (first | exact .d | exact .e | exact .n | ((fail_if_success exact bqt); (fail_if_success exact bqf); exact .b))) <;> intro _)
  clear hlt hk hi
  -- the references
  refine Go.keep [0, 4] (Go.loops (I := fun m fr τ => ∃ i : Nat, ∃ k : Int, m = s.length - i ∧ i ≤ s.length ∧ k = i ∧ (∀ j (hj : j < s.length), j < i → (!(s[j].fks.any fun f => !metF s s[j] f)) = true) ∧
    fr = [(0, .c (.fz (s.map encTable))), (4, .c (.int .i64 k))] ∧ τ = E σ []) ?_ _ _ _ ⟨0, _, rfl, Nat.zero_le _, rfl, fun j _ h => absurd h (by omega), rfl, rfl⟩)
  rintro m fr τ ⟨i, k, rfl, hi, hk, hall, rfl, rfl⟩ hrec
  by_cases hlt : i < s.length
  · have hmem := List.getElem_mem hlt
    have hti := hok _ hmem
    have b6 := (hb _ hmem).2.2.2.2.2
    repeat' first | (apply Go.adm; exact rfl) | apply Go.qs | apply Qg.nil | ((first | apply Go.v2 | apply Go.v1); (first | exact leAdd | assumption); iterate 6 exact rfl) | ((first | apply Go.op | apply Go.sop | apply Qg.op); exact rfl; (first | exact aop_alloc | exact aop_new rfl rfl | exact aop_mksl rfl | exact aop_lenM rfl | exact rfl | exact aL rfl rfl rfl rfl rfl | exact aS rfl rfl rfl rfl rfl rfl rfl)) | ((first | apply Go.no | apply Go.sno | apply Qg.no); exact rfl) | (exfalso; omega) | (((first | apply Go.iQ | apply Go.gQ | apply Go.sQ | apply Qg.gQ); exact rfl; (first | exact .d | exact .e | exact .n | ((fail_if_success exact bqt); (fail_if_success exact bqf); exact .b))) <;> intro _)
    refine Go.keep [0, 4, 5] (Go.loops (I := fun m fr τ => ∃ i2 : Nat, ∃ k2 : Int, m = s[i].fks.length - i2 ∧ i2 ≤ s[i].fks.length ∧ k2 = i2 ∧ (∀ j (hj : j < s[i].fks.length), j < i2 → metF s s[i] s[i].fks[j] = true) ∧
      fr = [(0, .c (.fz (s.map encTable))), (4, .c (.int .i64 k)), (5, .c (.int .i64 k2))] ∧ τ = E σ []) ?_ _ _ _ ⟨0, _, rfl, Nat.zero_le _, rfl, fun j _ h => absurd h (by omega), rfl, rfl⟩)
    rintro m fr τ ⟨i2, k2, rfl, hi2, hk2, hall2, rfl, rfl⟩ hrec2
    by_cases hlt2 : i2 < s[i].fks.length
    · have hfm := List.getElem_mem hlt2
      have hf := tableF_fk hti hfm
      have hf0 := (b6.2 _ hfm).1
      have neg : metF s s[i] s[i].fks[i2] = false → schemaF s = false := fun h => schemaF_not fun hh => by
        have h2 := (schemaF_iff.1 hh).2.2
        rw [List.any_eq_false] at h2
        exact h2 _ hmem (List.any_eq_true.2 ⟨_, hfm, by rw [h]; rfl⟩)
      repeat' first | (apply Go.adm; exact rfl) | apply Go.qs | apply Qg.nil | ((first | apply Go.v2 | apply Go.v1); (first | exact leAdd | assumption); iterate 6 exact rfl) | ((first | apply Go.op | apply Go.sop | apply Qg.op); exact rfl; (first | exact aop_alloc | exact aop_new rfl rfl | exact aop_mksl rfl | exact aop_lenM rfl | exact rfl | exact aL rfl rfl rfl rfl rfl | exact aS rfl rfl rfl rfl rfl rfl rfl | exact aop_iaddrM (enc := encTable) rfl rfl hk hlt rfl | exact aop_iaddrM (enc := encFk) rfl rfl hk2 hlt2 rfl)) | ((first | apply Go.no | apply Go.sno | apply Qg.no); exact rfl) | (exfalso; omega) | (((first | apply Go.iQ | apply Go.gQ | apply Go.sQ | apply Qg.gQ); exact rfl; (first | exact .d | exact .e | exact .n | ((fail_if_success exact bqt); (fail_if_success exact bqf); exact .b))) <;> intro _)
      refine .pcall rfl rfl rfl (l3At_ok s s[i].fks[i2].table hx) ?_
      rcases idxA_at (p := fun u : Table => u.name == s[i].fks[i2].table) (l := s) (i := 0) (Int.le_refl _) with hq | ⟨n, hn, hq, hp⟩
      · have hm := metF_no (t := s[i]) hq
        rw [hq]
        repeat' first | (apply Go.adm; exact rfl) | apply Go.qs | apply Qg.nil | ((first | apply Go.v2 | apply Go.v1); (first | exact leAdd | assumption); iterate 6 exact rfl) | ((first | apply Go.op | apply Go.sop | apply Qg.op); exact rfl; (first | exact aop_alloc | exact aop_new rfl rfl | exact aop_mksl rfl | exact aop_lenM rfl | exact rfl | exact aL rfl rfl rfl rfl rfl | exact aS rfl rfl rfl rfl rfl rfl rfl)) | ((first | apply Go.no | apply Go.sno | apply Qg.no); exact rfl) | (exfalso; omega) | (((first | apply Go.iQ | apply Go.gQ | apply Go.sQ | apply Qg.gQ); exact rfl; (first | exact .d | exact .e | exact .n | ((fail_if_success exact bqt); (fail_if_success exact bqf); exact .b))) <;> intro _)
        exact .ret rfl (.bool (neg hm).symm)
      rw [Int.zero_add] at hq
      have hm := metF_yes (t := s[i]) hq hn
      have hsk := tableF_key (hok _ (List.getElem_mem hn))
      rw [hq]
      have hnz : ¬ ((n : Int) < 0) := by omega
      repeat' first | (apply Go.adm; exact rfl) | apply Go.qs | apply Qg.nil | ((first | apply Go.v2 | apply Go.v1); (first | exact leAdd | assumption); iterate 6 exact rfl) | ((first | apply Go.op | apply Go.sop | apply Qg.op); exact rfl; (first | exact aop_alloc | exact aop_new rfl rfl | exact aop_mksl rfl | exact aop_lenM rfl | exact rfl | exact aL rfl rfl rfl rfl rfl | exact aS rfl rfl rfl rfl rfl rfl rfl | exact aop_iaddrM (enc := encTable) rfl rfl rfl hn rfl)) | ((first | apply Go.no | apply Go.sno | apply Qg.no); exact rfl) | (exfalso; omega) | (((first | apply Go.iQ | apply Go.gQ | apply Go.sQ | apply Qg.gQ); exact rfl; (first | exact .d | exact .e | exact .n | ((fail_if_success exact bqt); (fail_if_success exact bqf); exact .b))) <;> intro _)
      · rename_i h
        refine .ret rfl (.bool (neg ?_).symm)
        rw [hm, metAt, decide_eq_false (by omega)]
        rfl
      rename_i hlen
      refine Go.keep [0, 4, 5, 6, 7, 8] (Go.loops (I := fun m fr τ => ∃ i3 : Nat, ∃ k3 : Int, m = s[i].fks[i2].cols.length - i3 ∧ i3 ≤ s[i].fks[i2].cols.length ∧ k3 = i3 ∧ kindsEq s[n] s[i] s[n].key s[i].fks[i2].cols = kindsEq s[n] s[i] (s[n].key.drop i3) (s[i].fks[i2].cols.drop i3) ∧
        fr = [(0, .c (.fz (s.map encTable))), (4, .c (.int .i64 k)), (5, .c (.int .i64 k2)), (6, .c (.fp (encFk s[i].fks[i2]))), (7, .c (.int .i64 (n : Int))), (8, .c (.int .i64 k3))] ∧ τ = E σ []) ?_ _ _ _ ⟨0, _, rfl, Nat.zero_le _, rfl, rfl, rfl, rfl⟩)
      rintro m fr τ ⟨i3, k3, rfl, hi3, hk3, hsl, rfl, rfl⟩ hrec3
      by_cases hlt3 : i3 < s[i].fks[i2].cols.length
      · have hlt4 : i3 < s[n].key.length := by omega
        have h1 := hsk _ (List.getElem_mem hlt4)
        have h2 := hf _ (List.getElem_mem hlt3)
        obtain ⟨a, ha⟩ : ∃ a : Nat, s[n].key[i3] = a := ⟨s[n].key[i3].toNat, by omega⟩
        obtain ⟨c, hc⟩ : ∃ c : Nat, s[i].fks[i2].cols[i3] = c := ⟨s[i].fks[i2].cols[i3].toNat, by omega⟩
        have ha2 : a < s[n].cols.length := by omega
        have hc2 : c < s[i].cols.length := by omega
        have e1 := kindAt_at ha ha2
        have e2 := kindAt_at hc hc2
        have hstep : kindsEq s[n] s[i] s[n].key s[i].fks[i2].cols = (s[n].cols[a].kind == s[i].cols[c].kind && kindsEq s[n] s[i] (s[n].key.drop (i3 + 1)) (s[i].fks[i2].cols.drop (i3 + 1))) := by
          rw [hsl, List.drop_eq_getElem_cons hlt3, List.drop_eq_getElem_cons hlt4, kindsEq, e1, e2]
        repeat' first | (apply Go.adm; exact rfl) | apply Go.qs | apply Qg.nil | ((first | apply Go.v2 | apply Go.v1); (first | exact leAdd | assumption); iterate 6 exact rfl) | ((first | apply Go.op | apply Go.sop | apply Qg.op); exact rfl; (first | exact aop_alloc | exact aop_new rfl rfl | exact aop_mksl rfl | exact aop_lenM rfl | exact rfl | exact aL rfl rfl rfl rfl rfl | exact aS rfl rfl rfl rfl rfl rfl rfl | exact aop_iaddrM (enc := encTable) rfl rfl hk hlt rfl | exact aop_iaddrM (enc := encI) rfl rfl hk3 hlt3 rfl | exact aop_iaddrM (enc := encTable) rfl rfl rfl hn rfl | exact aop_iaddrM (enc := encI) rfl rfl hk3 hlt4 rfl | exact aop_iaddrM (enc := encCol) rfl rfl ha ha2 rfl | exact aop_iaddrM (enc := encCol) rfl rfl hc hc2 rfl)) | ((first | apply Go.no | apply Go.sno | apply Qg.no); exact rfl) | (exfalso; omega) | (((first | apply Go.iQ | apply Go.gQ | apply Go.sQ | apply Qg.gQ); exact rfl; (first | exact .d | exact .e | exact .n | ((fail_if_success exact bqt); (fail_if_success exact bqf); exact .b))) <;> intro _)
        · rename_i h
          refine .ret rfl (.bool (neg ?_).symm)
          rw [hm, metAt, hstep, beq_eq_false_iff_ne.2 fun e => h e.symm]
          simp
        · rename_i h
          refine Go.keep [0, 4, 5, 6, 7, 8] (hrec3 _ _ _ (by omega) ⟨i3 + 1, _, rfl, hlt3, wrap_succ hk3 (by omega), ?_, rfl, rfl⟩)
          rw [hstep, h]
          simp
      · have hmt : metF s s[i] s[i].fks[i2] = true := by
          rw [hm, metAt, hsl, List.drop_eq_nil_of_le (by omega), decide_eq_true (by omega)]
          cases s[n].key.drop i3 <;> rfl
        clear hrec3
        repeat' first | (apply Go.adm; exact rfl) | apply Go.qs | apply Qg.nil | ((first | apply Go.v2 | apply Go.v1); (first | exact leAdd | assumption); iterate 6 exact rfl) | ((first | apply Go.op | apply Go.sop | apply Qg.op); exact rfl; (first | exact aop_alloc | exact aop_new rfl rfl | exact aop_mksl rfl | exact aop_lenM rfl | exact rfl | exact aL rfl rfl rfl rfl rfl | exact aS rfl rfl rfl rfl rfl rfl rfl)) | ((first | apply Go.no | apply Go.sno | apply Qg.no); exact rfl) | (exfalso; omega) | (((first | apply Go.iQ | apply Go.gQ | apply Go.sQ | apply Qg.gQ); exact rfl; (first | exact .d | exact .e | exact .n | ((fail_if_success exact bqt); (fail_if_success exact bqf); exact .b))) <;> intro _)
        exact Go.keep [0, 4, 5] (hrec2 _ _ _ (by omega) ⟨i2 + 1, _, rfl, hlt2, wrap_succ hk2 (by omega), upto (p := fun f => metF s s[i] f) hall2 hlt2 hmt, rfl, rfl⟩)
    · have hany := any_none (p := fun f => metF s s[i] f) (l := s[i].fks) fun j hj => hall2 j hj (by omega)
      clear hrec2
      repeat' first | (apply Go.adm; exact rfl) | apply Go.qs | apply Qg.nil | ((first | apply Go.v2 | apply Go.v1); (first | exact leAdd | assumption); iterate 6 exact rfl) | ((first | apply Go.op | apply Go.sop | apply Qg.op); exact rfl; (first | exact aop_alloc | exact aop_new rfl rfl | exact aop_mksl rfl | exact aop_lenM rfl | exact rfl | exact aL rfl rfl rfl rfl rfl | exact aS rfl rfl rfl rfl rfl rfl rfl | exact aop_iaddrM (enc := encTable) rfl rfl hk hlt rfl)) | ((first | apply Go.no | apply Go.sno | apply Qg.no); exact rfl) | (exfalso; omega) | (((first | apply Go.iQ | apply Go.gQ | apply Go.sQ | apply Qg.gQ); exact rfl; (first | exact .d | exact .e | exact .n | ((fail_if_success exact bqt); (fail_if_success exact bqf); exact .b))) <;> intro _)
      exact Go.keep [0, 4] (hrec _ _ _ (by omega) ⟨i + 1, _, rfl, hlt, wrap_succ hk (by omega), upto (p := fun t : Table => !(t.fks.any fun f => !metF s t f)) hall hlt (by rw [hany]; rfl), rfl, rfl⟩)
  · have hany := any_none (p := fun t : Table => !(t.fks.any fun f => !metF s t f)) (l := s) fun j hj => hall j hj (by omega)
    clear hrec
    repeat' first | (apply Go.adm; exact rfl) | apply Go.qs | apply Qg.nil | ((first | apply Go.v2 | apply Go.v1); (first | exact leAdd | assumption); iterate 6 exact rfl) | ((first | apply Go.op | apply Go.sop | apply Qg.op); exact rfl; (first | exact aop_alloc | exact aop_new rfl rfl | exact aop_mksl rfl | exact aop_lenM rfl | exact rfl | exact aL rfl rfl rfl rfl rfl | exact aS rfl rfl rfl rfl rfl rfl rfl)) | ((first | apply Go.no | apply Go.sno | apply Qg.no); exact rfl) | (exfalso; omega) | (((first | apply Go.iQ | apply Go.gQ | apply Go.sQ | apply Qg.gQ); exact rfl; (first | exact .d | exact .e | exact .n | ((fail_if_success exact bqt); (fail_if_success exact bqf); exact .b))) <;> intro _)
    refine .ret rfl (.bool ?_)
    simp only [Bool.not_not] at hany
    rw [schemaF, hfin, hany]
    simp
end Go.Proofs.YtcfpdongfdhgjaaGreat.Am

/- Queries: the program and its reference. -/
set_option linter.unusedVariables false
set_option linter.unusedSimpArgs false
namespace Go.Proofs.YtcfpdongfdhgjaaGreat.Am

end Go.Proofs.YtcfpdongfdhgjaaGreat.Am
