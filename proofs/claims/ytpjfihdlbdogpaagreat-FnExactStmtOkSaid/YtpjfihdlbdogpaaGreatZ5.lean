/- Joined texts: K1, K2, S1, S2, S3. -/
import Derived.Test.YtpjfihdlbdogpaaGreatZ1
import Derived.Test.YtpjfihdlbdogpaaGreatZ2
import Derived.Test.YtpjfihdlbdogpaaGreatZ3
import Derived.Test.YtpjfihdlbdogpaaGreatZ4
/- The laws' helpers on types, printed by a program: Tok, Check, Unique, Fk, Col. -/
set_option linter.unusedVariables false
set_option linter.unusedSimpArgs false
namespace Go.Proofs.YtpjfihdlbdogpaaGreat.Am
/-- Sizes taken off one behind the other. -/
def chain : List (Int → Int) → Int → Int
  | [], l => l
  | f :: r, l => if f l < 0 then -1 else chain r (f l)
inductive Steps : List (Int → Int) → Prop where
  | nil : Steps []
  | cons {f : Int → Int} {r : List (Int → Int)} (h : ∀ l, 0 ≤ l → f l ≤ l) (k : Steps r) : Steps (f :: r)
theorem chain_le {fs : List (Int → Int)} (h : Steps fs) : ∀ l, 0 ≤ l → chain fs l ≤ l := by
  induction h with
  | nil => intro l _; exact Int.le_refl _
  | @cons f0 r h _ ih =>
    intro l hl
    simp only [chain]
    split
    · omega
    · have := h l hl
      have := ih (f0 l) (by omega)
      omega
theorem chain_all {fs : List (Int → Int)} (h : Steps fs) : ∀ l, 0 ≤ l → 0 ≤ chain fs l → ∀ f ∈ fs, ∃ q, 0 ≤ q ∧ q ≤ l ∧ 0 ≤ f q := by
  induction h with
  | nil => intro l _ _ f hf; simp at hf
  | @cons f0 r h _ ih =>
    intro l hl hc f hf
    simp only [chain] at hc
    split at hc
    · omega
    · rename_i h0
      rcases List.mem_cons.1 hf with rfl | hf
      · exact ⟨l, hl, Int.le_refl _, by omega⟩
      · obtain ⟨q, h1, h2, h3⟩ := ih _ (by omega) hc f hf
        have := h l hl
        exact ⟨q, h1, by omega, h3⟩
theorem step_str (s : List UInt8) : ∀ l : Int, 0 ≤ l → l - s.length ≤ l := fun l _ => by omega
def zI (xs : List Int) (l : Int) : Int := if l - xs.length < 0 then -1 else l - xs.length
theorem step_ints (xs : List Int) : ∀ l : Int, 0 ≤ l → zI xs l ≤ l := fun l _ => by
  simp only [zI]
  split <;> omega
def bV (N : Nat) (v : Val) : Prop := v.s.length ≤ N
theorem bV_of {v : Val} {l : Int} {N : Nat} (h : 0 ≤ szV v l) (hl : l ≤ N) : bV N v := by
  simp only [szV] at h
  simp only [bV]
  split at h <;> omega
theorem ints_of {xs : List Int} {l : Int} {N : Nat} (h : 0 ≤ zI xs l) (hl : l ≤ N) : xs.length ≤ N := by
  simp only [zI] at h
  split at h <;> omega
theorem list_of {α : Type} {g : α → Int → Int} {b : Nat → α → Prop} (hg : ∀ a l, 0 ≤ l → g a l ≤ l) (hb : ∀ a l (N : Nat), 0 ≤ l → 0 ≤ g a l → l ≤ N → b N a) {xs : List α} {l : Int} {N : Nat} (h0 : 0 ≤ l) (h : 0 ≤ szL g xs l) (hl : l ≤ N) : xs.length ≤ N ∧ ∀ x ∈ xs, b N x := by
  obtain ⟨h1, h2⟩ := szL_mem hg (xs := xs) (left := l) h0 h
  refine ⟨by omega, fun x hx => ?_⟩
  obtain ⟨q, a, b, c⟩ := h2 x hx
  exact hb x q N a c (by omega)
theorem szInt64S_ok (xs : List Int) (left : Int) (hx : xs.length ≤ 1125899906842624) (h0 : 0 ≤ left) (h1 : left ≤ 34359738368) : Pure Tryz.prog 27 [.c (.fz (xs.map encI)), .c (.int .i64 left)] (.c (.int .i64 (zI xs left))) := by
  refine Pure.run mixed c_laws_szInt64S_ok (Nat.le_of_ble_eq_true rfl) fun σ hS hA => ?_
  clear hS hA
  have hw : IntKind.i64.wrap (left - xs.length) = left - xs.length := wrap64 (by omega) (by omega)
  repeat' first | apply Go.seq | apply Go.skip | apply Go.region | apply Go.nil | apply Go.block | apply Go.blk | apply Go.draw | apply Go.segs | apply Go.qs | apply Qg.nil | (apply Go.exit; exact rfl) | (apply Go.var2; (first | exact Nat.le_add_right _ _ | assumption); (iterate 4 decide); iterate 5 exact rfl) | (apply Go.var; (first | exact Nat.le_add_right _ _ | assumption); decide; iterate 4 exact rfl) | (apply Go.op; exact rfl; (first | exact aop_alloc | exact aop_new rfl rfl | exact aop_mksl rfl | exact aop_lenM rfl | exact rfl | exact aop_load rfl rfl rfl (Nat.le_of_ble_eq_true rfl) rfl | exact aop_store rfl rfl rfl rfl rfl rfl (Nat.le_of_ble_eq_true rfl))) | (apply Go.sop; exact rfl; (first | exact aop_lenM rfl | exact rfl)) | (apply Go.no; exact rfl) | (apply Go.sno; exact rfl) | (apply Qg.op; exact rfl; (first | exact aop_lenM rfl | exact rfl)) | (apply Qg.no; exact rfl) | (apply Go.cond true; exact rfl) | (apply Go.cond false; exact rfl) | (exfalso; omega) | ((first | (apply Go.iteD; exact rfl) | (apply Go.iteE; exact rfl) | (apply Go.iteN; exact rfl) | (apply Go.guardD; exact rfl) | (apply Go.guardE; exact rfl) | (apply Go.guardN; exact rfl) | (apply Go.sguardD; exact rfl) | (apply Go.sguardE; exact rfl) | (apply Go.sguardN; exact rfl) | (apply Qg.guardD; exact rfl) | (apply Qg.guardE; exact rfl) | (apply Qg.guardN; exact rfl)) <;> intro _) | (((first | (apply Go.guard; exact rfl) | (apply Go.sguard; exact rfl) | (apply Qg.guard; exact rfl) | (apply Go.ite; exact rfl)); fail_if_success (intro h; exact absurd h (by decide)); rotate_left; fail_if_success (intro h; exact absurd h (by decide)); rotate_right) <;> intro _)
  · refine .ret rfl (.int ?_)
    rename_i h
    rw [hw] at h
    rw [zI, if_pos h]
  · refine .ret rfl (.int ?_)
    rename_i h
    rw [hw] at h ⊢
    rw [zI, if_neg h]
theorem toInt64S_ok (xs : List Int) (hx : xs.length ≤ 34359738368) (σ : Store) : Ok Tryz.prog 33 [.c (.fz (xs.map encI))] σ (New σ (.fz (xs.map encI))) := by
  refine Makes.new (s := 1) (flatI xs) (Makes.run mixed c_laws_toInt64S_ok (Nat.le_of_ble_eq_true rfl) fun σ hS hA => ?_) σ
  clear hS hA
  repeat' first | apply Go.seq | apply Go.skip | apply Go.region | apply Go.nil | apply Go.block | apply Go.blk | apply Go.draw | apply Go.segs | apply Go.qs | apply Qg.nil | (apply Go.exit; exact rfl) | (apply Go.var2; (first | exact Nat.le_add_right _ _ | assumption); (iterate 4 decide); iterate 5 exact rfl) | (apply Go.var; (first | exact Nat.le_add_right _ _ | assumption); decide; iterate 4 exact rfl) | (apply Go.op; exact rfl; (first | exact aop_alloc | exact aop_new rfl rfl | exact aop_mksl rfl | exact aop_lenM rfl | exact rfl | exact aop_load rfl rfl rfl (Nat.le_of_ble_eq_true rfl) rfl | exact aop_store rfl rfl rfl rfl rfl rfl (Nat.le_of_ble_eq_true rfl) | exact aop_mkslice rfl rfl (show 8 * xs.length ≤ 140737488355328 by omega))) | (apply Go.sop; exact rfl; (first | exact aop_lenM rfl | exact rfl | exact aop_mkslice rfl rfl (show 8 * xs.length ≤ 140737488355328 by omega))) | (apply Go.no; exact rfl) | (apply Go.sno; exact rfl) | (apply Qg.op; exact rfl; (first | exact aop_lenM rfl | exact rfl | exact aop_mkslice rfl rfl (show 8 * xs.length ≤ 140737488355328 by omega))) | (apply Qg.no; exact rfl) | (apply Go.cond true; exact rfl) | (apply Go.cond false; exact rfl) | (exfalso; omega) | ((first | (apply Go.iteD; exact rfl) | (apply Go.iteE; exact rfl) | (apply Go.iteN; exact rfl) | (apply Go.guardD; exact rfl) | (apply Go.guardE; exact rfl) | (apply Go.guardN; exact rfl) | (apply Go.sguardD; exact rfl) | (apply Go.sguardE; exact rfl) | (apply Go.sguardN; exact rfl) | (apply Qg.guardD; exact rfl) | (apply Qg.guardE; exact rfl) | (apply Qg.guardN; exact rfl)) <;> intro _) | (((first | (apply Go.guard; exact rfl) | (apply Go.sguard; exact rfl) | (apply Qg.guard; exact rfl) | (apply Go.ite; exact rfl)); fail_if_success (intro h; exact absurd h (by decide)); rotate_left; fail_if_success (intro h; exact absurd h (by decide)); rotate_right) <;> intro _)
  refine Go.keep [0, 3, 4] (Go.loops (I := fun m fr τ => ∃ i : Nat, ∃ n : Int, ∃ cs : List (List Ce), m = xs.length - i ∧ i ≤ xs.length ∧ n = i ∧ (cs.length = xs.length ∧ (∀ e ∈ cs, e.length = 1) ∧ ∀ j (h1 : j < xs.length) (h2 : j < cs.length), j < i → cs[j] = encI xs[j]) ∧
    fr = [(0, .c (.fz (xs.map encI))), (3, .c (.sl (σ.next + 0) 0 0 xs.length xs.length)), (4, .c (.int .i64 n))] ∧ τ = E σ [(0, cs)]) ?_ _ _ _ ⟨0, _, List.replicate xs.length [.int .i64 0], rfl, Nat.zero_le _, rfl, ⟨by simp, fun e he => by rw [List.eq_of_mem_replicate he]; rfl, fun j _ _ h => absurd h (by omega)⟩, rfl, rfl⟩)
  rintro m fr τ ⟨i, n, cs, rfl, hi, hn, ⟨hcl, hcs, hh⟩, rfl, rfl⟩ hrec
  by_cases hlt : i < xs.length
  · have hlc : i < cs.length := by omega
    have he : cs[0 + i]? = some cs[i] := by simp [hlc]
    have hel : cs[i].length = 1 := hcs _ (List.getElem_mem hlc)
    repeat' first | apply Go.seq | apply Go.skip | apply Go.region | apply Go.nil | apply Go.block | apply Go.blk | apply Go.draw | apply Go.segs | apply Go.qs | apply Qg.nil | (apply Go.exit; exact rfl) | (apply Go.var2; (first | exact Nat.le_add_right _ _ | assumption); (iterate 4 decide); iterate 5 exact rfl) | (apply Go.var; (first | exact Nat.le_add_right _ _ | assumption); decide; iterate 4 exact rfl) | (apply Go.op; exact rfl; (first | exact aop_alloc | exact aop_new rfl rfl | exact aop_mksl rfl | exact aop_lenM rfl | exact rfl | exact aop_load rfl rfl rfl (Nat.le_of_ble_eq_true rfl) rfl | exact aop_store rfl rfl rfl rfl rfl rfl (Nat.le_of_ble_eq_true rfl) | exact aop_iaddrM (enc := encI) rfl rfl hn hlt rfl | exact aop_iaddr (k := 0) (n := i) rfl rfl hn hlt rfl he hel | exact aop_store (k := 0) rfl rfl rfl rfl he rfl (by omega))) | (apply Go.sop; exact rfl; (first | exact aop_lenM rfl | exact rfl | exact aop_iaddrM (enc := encI) rfl rfl hn hlt rfl | exact aop_iaddr (k := 0) (n := i) rfl rfl hn hlt rfl he hel | exact aop_store (k := 0) rfl rfl rfl rfl he rfl (by omega))) | (apply Go.no; exact rfl) | (apply Go.sno; exact rfl) | (apply Qg.op; exact rfl; (first | exact aop_lenM rfl | exact rfl | exact aop_iaddrM (enc := encI) rfl rfl hn hlt rfl | exact aop_iaddr (k := 0) (n := i) rfl rfl hn hlt rfl he hel | exact aop_store (k := 0) rfl rfl rfl rfl he rfl (by omega))) | (apply Qg.no; exact rfl) | (apply Go.cond true; exact rfl) | (apply Go.cond false; exact rfl) | (exfalso; omega) | ((first | (apply Go.iteD; exact rfl) | (apply Go.iteE; exact rfl) | (apply Go.iteN; exact rfl) | (apply Go.guardD; exact rfl) | (apply Go.guardE; exact rfl) | (apply Go.guardN; exact rfl) | (apply Go.sguardD; exact rfl) | (apply Go.sguardE; exact rfl) | (apply Go.sguardN; exact rfl) | (apply Qg.guardD; exact rfl) | (apply Qg.guardE; exact rfl) | (apply Qg.guardN; exact rfl)) <;> intro _) | (((first | (apply Go.guard; exact rfl) | (apply Go.sguard; exact rfl) | (apply Qg.guard; exact rfl) | (apply Go.ite; exact rfl)); fail_if_success (intro h; exact absurd h (by decide)); rotate_left; fail_if_success (intro h; exact absurd h (by decide)); rotate_right) <;> intro _)
    have hsp : splice cs[i] 0 [Ce.int IntKind.i64 xs[i]] = encI xs[i] := splice_all hel rfl
    rw [hsp]
    refine Go.keep [0, 3, 4] (hrec _ _ _ (by omega) ⟨i + 1, _, cs.set (0 + i) (encI xs[i]), rfl, hlt, wrap_succ hn (by omega), ⟨by simp [hcl], fun e he' => ?_, fun j h1 h2 hj => ?_⟩, rfl, rfl⟩)
    · rcases List.mem_or_eq_of_mem_set he' with h | h
      · exact hcs _ h
      · rw [h]; rfl
    · by_cases e : j = i
      · subst e; simp
      · rw [List.getElem_set_ne (by omega)]
        exact hh j h1 (by simpa using h2) (by omega)
  · repeat' first | apply Go.seq | apply Go.skip | apply Go.region | apply Go.nil | apply Go.block | apply Go.blk | apply Go.draw | apply Go.segs | apply Go.qs | apply Qg.nil | (apply Go.exit; exact rfl) | (apply Go.var2; (first | exact Nat.le_add_right _ _ | assumption); (iterate 4 decide); iterate 5 exact rfl) | (apply Go.var; (first | exact Nat.le_add_right _ _ | assumption); decide; iterate 4 exact rfl) | (apply Go.op; exact rfl; (first | exact aop_alloc | exact aop_new rfl rfl | exact aop_mksl rfl | exact aop_lenM rfl | exact rfl | exact aop_load rfl rfl rfl (Nat.le_of_ble_eq_true rfl) rfl | exact aop_store rfl rfl rfl rfl rfl rfl (Nat.le_of_ble_eq_true rfl))) | (apply Go.sop; exact rfl; (first | exact aop_lenM rfl | exact rfl)) | (apply Go.no; exact rfl) | (apply Go.sno; exact rfl) | (apply Qg.op; exact rfl; (first | exact aop_lenM rfl | exact rfl)) | (apply Qg.no; exact rfl) | (apply Go.cond true; exact rfl) | (apply Go.cond false; exact rfl) | (exfalso; omega) | ((first | (apply Go.iteD; exact rfl) | (apply Go.iteE; exact rfl) | (apply Go.iteN; exact rfl) | (apply Go.guardD; exact rfl) | (apply Go.guardE; exact rfl) | (apply Go.guardN; exact rfl) | (apply Go.sguardD; exact rfl) | (apply Go.sguardE; exact rfl) | (apply Go.sguardN; exact rfl) | (apply Qg.guardD; exact rfl) | (apply Qg.guardE; exact rfl) | (apply Qg.guardN; exact rfl)) <;> intro _) | (((first | (apply Go.guard; exact rfl) | (apply Go.sguard; exact rfl) | (apply Qg.guard; exact rfl) | (apply Go.ite; exact rfl)); fail_if_success (intro h; exact absurd h (by decide)); rotate_left; fail_if_success (intro h; exact absurd h (by decide)); rotate_right) <;> intro _)
    have hcs2 : cs = xs.map encI := List.ext_getElem (by simp [hcl]) fun j h1 h2 => by
      rw [List.getElem_map]
      exact hh j (by simpa using h2) h1 (by simp at h2; omega)
    subst hcs2
    refine .ret rfl ⟨0, [], Jk.nil, ?_, by simp⟩
    simp [vec]
/-- Blocks 0 and 1 are a function's variables: what lies behind them stays. -/
theorem Has.more {σ : Store} {S : Nat → Prop} {y x : Ce} {l : List (Nat × List (List Ce))} (h : ∀ A B, Has (E σ (A :: B :: l)) S y x) (hS : ∀ a, S a → σ.next + 2 ≤ a ∧ a < σ.next + 2 + l.length) (m : List (Nat × List (List Ce))) : ∀ A B, Has (E σ (A :: B :: (l ++ m))) S y x := by
  intro A B
  refine (h A B).frame fun a ha => ?_
  have := hS a ha
  rw [E_ge (by omega), E_ge (by omega)]
  obtain ⟨q, hq⟩ : ∃ q, a - σ.next = q + 2 := ⟨a - σ.next - 2, by omega⟩
  rw [hq]
  simp only [List.getElem?_cons_succ]
  rw [List.getElem?_append_left (by omega)]
theorem Has.new2 {σ : Store} {y x : Ce} {A0 B0 : Nat × List (List Ce)} {l l2 : List (Nat × List (List Ce))} (h : Has (E σ ((A0 :: B0 :: l) ++ l2)) (fun a => (E σ (A0 :: B0 :: l)).next ≤ a ∧ a < (E σ ((A0 :: B0 :: l) ++ l2)).next) y x) :
    ∀ A B, Has (E σ (A :: B :: (l ++ l2))) (fun a => σ.next + 2 + l.length ≤ a ∧ a < σ.next + 2 + (l ++ l2).length) y x := by
  intro A B
  refine (h.frame fun a ha => ?_).mono fun a ha => ?_
  · have := ha.1
    simp only [E_next, List.length_cons] at this
    exact E_two (by omega)
  · have h1 := ha.1
    have h2 := ha.2
    simp only [E_next, List.length_cons, List.length_append] at h1 h2 ⊢
    omega
theorem HasL.skip {τ : Store} {S : Nat → Prop} {c : Ce} {ys xs : List Ce} (hc : Flat c) (k : HasL τ S ys xs) : HasL τ S (c :: ys) (c :: xs) :=
  (HasL.two (S := fun _ => False) (.c hc) k (fun _ h => h.elim)).mono fun a ha => ha.elim (fun h => h.elim) id
theorem tidy_pre {n : Nat} {l m : List (Nat × List (List Ce))} (h : TidyL n l) (k : TidyL n m) : TidyL n (l ++ m) := fun b hb => (List.mem_append.1 hb).elim (h b) (k b)
theorem tidy_up {σ : Store} {l l2 : List (Nat × List (List Ce))} (h : TidyL (E σ l).next l2) : TidyL σ.next l2 := fun b hb e he x hx => (h b hb e he x hx).mono (by simp [E_next])

structure Tok where
  kind : Int
  col : Int
  v : Val
  deriving DecidableEq
def encTok (a : Tok) : List Ce := [.int .i64 a.kind, .int .i64 a.col, .int .i64 a.v.k, .int .i64 a.v.n, .str a.v.s]
theorem flatTok (a : Tok) : ∀ x ∈ encTok a, Flat x := by
  intro x hx
  simp only [encTok, List.mem_cons, List.not_mem_nil, or_false] at hx
  rcases hx with rfl | rfl | rfl | rfl | rfl <;> constructor
def bTok (N : Nat) (a : Tok) : Prop := bV N a.v
def zTok (a : Tok) : Int → Int := chain [(szV a.v)]
theorem zTok_steps (a : Tok) : Steps [(szV a.v)] := (.cons (fun l h => szV_le _ l h) .nil)
theorem zTok_le (a : Tok) (l : Int) (h : 0 ≤ l) : zTok a l ≤ l := chain_le (zTok_steps a) l h
theorem bTok_of (a : Tok) (l : Int) (N : Nat) (h0 : 0 ≤ l) (h : 0 ≤ zTok a l) (hl : l ≤ N) : bTok N a := by
  have hh := chain_all (zTok_steps a) l h0 h
  obtain ⟨q0, u0, v0, w0⟩ := hh (szV a.v) (by simp)
  exact (bV_of w0 (by omega))
theorem szTok_ok (a : Tok) (left : Int) (hb : bTok 1125899906842624 a) (h0 : 0 ≤ left) (h1 : left ≤ 34359738368) : Pure Tryz.prog 68 [.agg (encTok a), .c (.int .i64 left)] (.c (.int .i64 (zTok a left))) := by
  refine Pure.run mixed c_laws_szTok_ok (Nat.le_of_ble_eq_true rfl) fun σ hS hA => ?_
  clear hS hA
  repeat' first | apply Go.seq | apply Go.skip | apply Go.region | apply Go.nil | apply Go.block | apply Go.blk | apply Go.draw | apply Go.segs | apply Go.qs | apply Qg.nil | (apply Go.exit; exact rfl) | (apply Go.var2; (first | exact Nat.le_add_right _ _ | assumption); (iterate 4 decide); iterate 5 exact rfl) | (apply Go.var; (first | exact Nat.le_add_right _ _ | assumption); decide; iterate 4 exact rfl) | (apply Go.op; exact rfl; (first | exact aop_alloc | exact aop_new rfl rfl | exact aop_mksl rfl | exact aop_lenM rfl | exact rfl | exact aop_load rfl rfl rfl (Nat.le_of_ble_eq_true rfl) rfl | exact aop_store rfl rfl rfl rfl rfl rfl (Nat.le_of_ble_eq_true rfl))) | (apply Go.sop; exact rfl; (first | exact aop_lenM rfl | exact rfl)) | (apply Go.no; exact rfl) | (apply Go.sno; exact rfl) | (apply Qg.op; exact rfl; (first | exact aop_lenM rfl | exact rfl)) | (apply Qg.no; exact rfl) | (apply Go.cond true; exact rfl) | (apply Go.cond false; exact rfl)
  refine .pcall rfl rfl rfl (szVal_ok a.v left hb (by omega) (by omega)) ?_
  have y1 := szV_le a.v left (by omega)
  generalize e1 : szV a.v left = l1 at y1 ⊢
  repeat' first | apply Go.seq | apply Go.skip | apply Go.region | apply Go.nil | apply Go.block | apply Go.blk | apply Go.draw | apply Go.segs | apply Go.qs | apply Qg.nil | (apply Go.exit; exact rfl) | (apply Go.var2; (first | exact Nat.le_add_right _ _ | assumption); (iterate 4 decide); iterate 5 exact rfl) | (apply Go.var; (first | exact Nat.le_add_right _ _ | assumption); decide; iterate 4 exact rfl) | (apply Go.op; exact rfl; (first | exact aop_alloc | exact aop_new rfl rfl | exact aop_mksl rfl | exact aop_lenM rfl | exact rfl | exact aop_load rfl rfl rfl (Nat.le_of_ble_eq_true rfl) rfl | exact aop_store rfl rfl rfl rfl rfl rfl (Nat.le_of_ble_eq_true rfl))) | (apply Go.sop; exact rfl; (first | exact aop_lenM rfl | exact rfl)) | (apply Go.no; exact rfl) | (apply Go.sno; exact rfl) | (apply Qg.op; exact rfl; (first | exact aop_lenM rfl | exact rfl)) | (apply Qg.no; exact rfl) | (apply Go.cond true; exact rfl) | (apply Go.cond false; exact rfl) | (exfalso; omega) | ((first | (apply Go.iteD; exact rfl) | (apply Go.iteE; exact rfl) | (apply Go.iteN; exact rfl) | (apply Go.guardD; exact rfl) | (apply Go.guardE; exact rfl) | (apply Go.guardN; exact rfl) | (apply Go.sguardD; exact rfl) | (apply Go.sguardE; exact rfl) | (apply Go.sguardN; exact rfl) | (apply Qg.guardD; exact rfl) | (apply Qg.guardE; exact rfl) | (apply Qg.guardN; exact rfl)) <;> intro _) | (((first | (apply Go.guard; exact rfl) | (apply Go.sguard; exact rfl) | (apply Qg.guard; exact rfl) | (apply Go.ite; exact rfl)); fail_if_success (intro h; exact absurd h (by decide)); rotate_left; fail_if_success (intro h; exact absurd h (by decide)); rotate_right) <;> intro _)
  · refine .ret rfl (.int ?_)
    rename_i h
    simp only [zTok, chain, e1, if_pos h]
  rename_i g1
  refine .ret rfl (.int ?_)
  simp only [zTok, chain, e1, if_neg g1]
theorem szTokS_ok (xs : List Tok) (left : Int) (hx : xs.length ≤ 1125899906842624) (hv : ∀ e ∈ xs, bTok 1125899906842624 e) (h0 : 0 ≤ left) (h1 : left ≤ 34359738368) : Pure Tryz.prog 26 [.c (.fz (xs.map encTok)), .c (.int .i64 left)] (.c (.int .i64 (szL zTok xs left))) :=
  szS_ok mixed c_laws_szTokS_ok encTok zTok xs left hx h0 h1 (fun _ => rfl) zTok_le fun a ha l h2 h3 => szTok_ok a l (hv a ha) h2 (by omega)
theorem toTok_ok (a : Tok) (hb : bTok 34359738368 a) (σ : Store) : Ok Tryz.prog 79 [.agg (encTok a)] σ (NewL σ (encTok a)) := by
  refine Ok.run mixed c_laws_toTok_ok (Nat.le_of_ble_eq_true rfl) fun hS hA => ?_
  clear hS hA
  repeat' first | apply Go.seq | apply Go.skip | apply Go.region | apply Go.nil | apply Go.block | apply Go.blk | apply Go.draw | apply Go.segs | apply Go.qs | apply Qg.nil | (apply Go.exit; exact rfl) | (apply Go.var2; (first | exact Nat.le_add_right _ _ | assumption); (iterate 4 decide); iterate 5 exact rfl) | (apply Go.var; (first | exact Nat.le_add_right _ _ | assumption); decide; iterate 4 exact rfl) | (apply Go.op; exact rfl; (first | exact aop_alloc | exact aop_new rfl rfl | exact aop_mksl rfl | exact aop_lenM rfl | exact rfl | exact aop_load rfl rfl rfl (Nat.le_of_ble_eq_true rfl) rfl | exact aop_store rfl rfl rfl rfl rfl rfl (Nat.le_of_ble_eq_true rfl))) | (apply Go.sop; exact rfl; (first | exact aop_lenM rfl | exact rfl)) | (apply Go.no; exact rfl) | (apply Go.sno; exact rfl) | (apply Qg.op; exact rfl; (first | exact aop_lenM rfl | exact rfl)) | (apply Qg.no; exact rfl) | (apply Go.cond true; exact rfl) | (apply Go.cond false; exact rfl) | ((first | (apply Go.pcall; iterate 3 exact rfl) | (apply Go.spcall; iterate 3 exact rfl) | (apply Qg.pcall; iterate 3 exact rfl)); exact NewL.pure (toVal_ok a.v)) | (exfalso; omega) | ((first | (apply Go.iteD; exact rfl) | (apply Go.iteE; exact rfl) | (apply Go.iteN; exact rfl) | (apply Go.guardD; exact rfl) | (apply Go.guardE; exact rfl) | (apply Go.guardN; exact rfl) | (apply Go.sguardD; exact rfl) | (apply Go.sguardE; exact rfl) | (apply Go.sguardN; exact rfl) | (apply Qg.guardD; exact rfl) | (apply Qg.guardE; exact rfl) | (apply Qg.guardN; exact rfl)) <;> intro _) | (((first | (apply Go.guard; exact rfl) | (apply Go.sguard; exact rfl) | (apply Qg.guard; exact rfl) | (apply Go.ite; exact rfl)); fail_if_success (intro h; exact absurd h (by decide)); rotate_left; fail_if_success (intro h; exact absurd h (by decide)); rotate_right) <;> intro _)
  refine .ret (retv_m rfl rfl rfl (Nat.le_of_ble_eq_true rfl) rfl) ⟨encTok a, _, rfl, rfl, ?_, .flat (flatTok a)⟩
  show TidyL σ.next [(0, [encTok a]), (0, [encTok a])]
  exact .one (fun x hx => .flat (flatTok a x hx)) (.one (fun x hx => .flat (flatTok a x hx)) .nil)
theorem toTokS_ok (xs : List Tok) (hx : xs.length ≤ 34359738368) (hv : ∀ e ∈ xs, bTok 34359738368 e) (σ : Store) : Ok Tryz.prog 32 [.c (.fz (xs.map encTok))] σ (New σ (.fz (xs.map encTok))) :=
  toS_ok mixed c_laws_toTokS_ok encTok xs hx (by decide) rfl (fun _ => rfl) (by intro x hx; simp only [List.mem_cons, List.not_mem_nil, or_false] at hx; rcases hx with rfl | rfl | rfl | rfl | rfl <;> constructor) (fun a ha σ => toTok_ok a (hv a ha) σ) σ
theorem Tok_beq (a b : Tok) : (a == b) = (a.kind == b.kind && a.col == b.col && a.v == b.v) := by
  obtain ⟨a0, a1, a2⟩ := a
  obtain ⟨b0, b1, b2⟩ := b
  rw [Bool.eq_iff_iff]
  simp [and_assoc]
theorem eqTok_ok (a b : Tok) (hb : bTok 34359738368 a) : Pure Tryz.prog 97 [.agg (encTok a), .agg (encTok b)] (.c (.bool (a == b))) := by
  refine Pure.run mixed c_laws_eqTok_ok (Nat.le_of_ble_eq_true rfl) fun σ hS hA => ?_
  clear hS hA
  have hq := Tok_beq a b
  repeat' first | apply Go.seq | apply Go.skip | apply Go.region | apply Go.nil | apply Go.block | apply Go.blk | apply Go.draw | apply Go.segs | apply Go.qs | apply Qg.nil | (apply Go.exit; exact rfl) | (apply Go.var2; (first | exact Nat.le_add_right _ _ | assumption); (iterate 4 decide); iterate 5 exact rfl) | (apply Go.var; (first | exact Nat.le_add_right _ _ | assumption); decide; iterate 4 exact rfl) | (apply Go.op; exact rfl; (first | exact aop_alloc | exact aop_new rfl rfl | exact aop_mksl rfl | exact aop_lenM rfl | exact rfl | exact aop_load rfl rfl rfl (Nat.le_of_ble_eq_true rfl) rfl | exact aop_store rfl rfl rfl rfl rfl rfl (Nat.le_of_ble_eq_true rfl))) | (apply Go.sop; exact rfl; (first | exact aop_lenM rfl | exact rfl)) | (apply Go.no; exact rfl) | (apply Go.sno; exact rfl) | (apply Qg.op; exact rfl; (first | exact aop_lenM rfl | exact rfl)) | (apply Qg.no; exact rfl) | (apply Go.cond true; exact rfl) | (apply Go.cond false; exact rfl) | ((first | (apply Go.pcallB; iterate 3 exact rfl) | (apply Go.spcallB; iterate 3 exact rfl) | (apply Qg.pcallB; iterate 3 exact rfl)); exact eqVal_ok a.v b.v; intro _ _) | (exfalso; omega) | ((first | (apply Go.iteD; exact rfl) | (apply Go.iteE; exact rfl) | (apply Go.iteN; exact rfl) | (apply Go.guardD; exact rfl) | (apply Go.guardE; exact rfl) | (apply Go.guardN; exact rfl) | (apply Go.sguardD; exact rfl) | (apply Go.sguardE; exact rfl) | (apply Go.sguardN; exact rfl) | (apply Qg.guardD; exact rfl) | (apply Qg.guardE; exact rfl) | (apply Qg.guardN; exact rfl)) <;> intro _) | (((first | (apply Go.guard; exact rfl) | (apply Go.sguard; exact rfl) | (apply Qg.guard; exact rfl) | (apply Go.ite; exact rfl)); fail_if_success (intro h; exact absurd h (by decide)); rotate_left; fail_if_success (intro h; exact absurd h (by decide)); rotate_right) <;> intro _)
  all_goals refine .ret rfl (.bool ?_)
  all_goals rw [hq]
  all_goals clear hq hb
  all_goals simp_all
theorem eqTokS_ok (xs ys : List Tok) (hx : xs.length ≤ 34359738368) (hv : ∀ e ∈ xs, bTok 34359738368 e) : Pure Tryz.prog 42 [.c (.fz (xs.map encTok)), .c (.fz (ys.map encTok))] (.c (.bool (xs == ys))) :=
  eqS_ok mixed c_laws_eqTokS_ok encTok xs ys hx (fun _ => rfl) fun a ha b => eqTok_ok a b (hv a ha)
structure Chk where
  expr : List Tok
  deriving DecidableEq
def encChk (a : Chk) : List Ce := [.fz (a.expr.map encTok)]
def bChk (N : Nat) (a : Chk) : Prop := (a.expr.length ≤ N ∧ ∀ x ∈ a.expr, bTok N x)
def zChk (a : Chk) : Int → Int := chain [(szL zTok a.expr)]
theorem zChk_steps (a : Chk) : Steps [(szL zTok a.expr)] := (.cons (fun l h => szL_le zTok_le _ l h) .nil)
theorem zChk_le (a : Chk) (l : Int) (h : 0 ≤ l) : zChk a l ≤ l := chain_le (zChk_steps a) l h
theorem bChk_of (a : Chk) (l : Int) (N : Nat) (h0 : 0 ≤ l) (h : 0 ≤ zChk a l) (hl : l ≤ N) : bChk N a := by
  have hh := chain_all (zChk_steps a) l h0 h
  obtain ⟨q0, u0, v0, w0⟩ := hh (szL zTok a.expr) (by simp)
  exact (list_of zTok_le bTok_of u0 w0 (by omega))
theorem szChk_ok (a : Chk) (left : Int) (hb : bChk 1125899906842624 a) (h0 : 0 ≤ left) (h1 : left ≤ 34359738368) : Pure Tryz.prog 112 [.agg (encChk a), .c (.int .i64 left)] (.c (.int .i64 (zChk a left))) := by
  refine Pure.run mixed c_laws_szCheck_ok (Nat.le_of_ble_eq_true rfl) fun σ hS hA => ?_
  clear hS hA
  repeat' first | apply Go.seq | apply Go.skip | apply Go.region | apply Go.nil | apply Go.block | apply Go.blk | apply Go.draw | apply Go.segs | apply Go.qs | apply Qg.nil | (apply Go.exit; exact rfl) | (apply Go.var2; (first | exact Nat.le_add_right _ _ | assumption); (iterate 4 decide); iterate 5 exact rfl) | (apply Go.var; (first | exact Nat.le_add_right _ _ | assumption); decide; iterate 4 exact rfl) | (apply Go.op; exact rfl; (first | exact aop_alloc | exact aop_new rfl rfl | exact aop_mksl rfl | exact aop_lenM rfl | exact rfl | exact aop_load rfl rfl rfl (Nat.le_of_ble_eq_true rfl) rfl | exact aop_store rfl rfl rfl rfl rfl rfl (Nat.le_of_ble_eq_true rfl))) | (apply Go.sop; exact rfl; (first | exact aop_lenM rfl | exact rfl)) | (apply Go.no; exact rfl) | (apply Go.sno; exact rfl) | (apply Qg.op; exact rfl; (first | exact aop_lenM rfl | exact rfl)) | (apply Qg.no; exact rfl) | (apply Go.cond true; exact rfl) | (apply Go.cond false; exact rfl)
  refine .pcall rfl rfl rfl (szTokS_ok a.expr left hb.1 hb.2 (by omega) (by omega)) ?_
  have y1 := szL_le zTok_le a.expr left (by omega)
  generalize e1 : szL zTok a.expr left = l1 at y1 ⊢
  repeat' first | apply Go.seq | apply Go.skip | apply Go.region | apply Go.nil | apply Go.block | apply Go.blk | apply Go.draw | apply Go.segs | apply Go.qs | apply Qg.nil | (apply Go.exit; exact rfl) | (apply Go.var2; (first | exact Nat.le_add_right _ _ | assumption); (iterate 4 decide); iterate 5 exact rfl) | (apply Go.var; (first | exact Nat.le_add_right _ _ | assumption); decide; iterate 4 exact rfl) | (apply Go.op; exact rfl; (first | exact aop_alloc | exact aop_new rfl rfl | exact aop_mksl rfl | exact aop_lenM rfl | exact rfl | exact aop_load rfl rfl rfl (Nat.le_of_ble_eq_true rfl) rfl | exact aop_store rfl rfl rfl rfl rfl rfl (Nat.le_of_ble_eq_true rfl))) | (apply Go.sop; exact rfl; (first | exact aop_lenM rfl | exact rfl)) | (apply Go.no; exact rfl) | (apply Go.sno; exact rfl) | (apply Qg.op; exact rfl; (first | exact aop_lenM rfl | exact rfl)) | (apply Qg.no; exact rfl) | (apply Go.cond true; exact rfl) | (apply Go.cond false; exact rfl) | (exfalso; omega) | ((first | (apply Go.iteD; exact rfl) | (apply Go.iteE; exact rfl) | (apply Go.iteN; exact rfl) | (apply Go.guardD; exact rfl) | (apply Go.guardE; exact rfl) | (apply Go.guardN; exact rfl) | (apply Go.sguardD; exact rfl) | (apply Go.sguardE; exact rfl) | (apply Go.sguardN; exact rfl) | (apply Qg.guardD; exact rfl) | (apply Qg.guardE; exact rfl) | (apply Qg.guardN; exact rfl)) <;> intro _) | (((first | (apply Go.guard; exact rfl) | (apply Go.sguard; exact rfl) | (apply Qg.guard; exact rfl) | (apply Go.ite; exact rfl)); fail_if_success (intro h; exact absurd h (by decide)); rotate_left; fail_if_success (intro h; exact absurd h (by decide)); rotate_right) <;> intro _)
  · refine .ret rfl (.int ?_)
    rename_i h
    simp only [zChk, chain, e1, if_pos h]
  rename_i g1
  refine .ret rfl (.int ?_)
  simp only [zChk, chain, e1, if_neg g1]
theorem szChkS_ok (xs : List Chk) (left : Int) (hx : xs.length ≤ 1125899906842624) (hv : ∀ e ∈ xs, bChk 1125899906842624 e) (h0 : 0 ≤ left) (h1 : left ≤ 34359738368) : Pure Tryz.prog 65 [.c (.fz (xs.map encChk)), .c (.int .i64 left)] (.c (.int .i64 (szL zChk xs left))) :=
  szS_ok mixed c_laws_szCheckS_ok encChk zChk xs left hx h0 h1 (fun _ => rfl) zChk_le fun a ha l h2 h3 => szChk_ok a l (hv a ha) h2 (by omega)
theorem toChk_ok (a : Chk) (hb : bChk 34359738368 a) (σ : Store) : Ok Tryz.prog 122 [.agg (encChk a)] σ (NewL σ (encChk a)) := by
  refine Ok.run mixed c_laws_toCheck_ok (Nat.le_of_ble_eq_true rfl) fun hS hA => ?_
  clear hS hA
  repeat' first | apply Go.seq | apply Go.skip | apply Go.region | apply Go.nil | apply Go.block | apply Go.blk | apply Go.draw | apply Go.segs | apply Go.qs | apply Qg.nil | (apply Go.exit; exact rfl) | (apply Go.var2; (first | exact Nat.le_add_right _ _ | assumption); (iterate 4 decide); iterate 5 exact rfl) | (apply Go.var; (first | exact Nat.le_add_right _ _ | assumption); decide; iterate 4 exact rfl) | (apply Go.op; exact rfl; (first | exact aop_alloc | exact aop_new rfl rfl | exact aop_mksl rfl | exact aop_lenM rfl | exact rfl | exact aop_load rfl rfl rfl (Nat.le_of_ble_eq_true rfl) rfl | exact aop_store rfl rfl rfl rfl rfl rfl (Nat.le_of_ble_eq_true rfl))) | (apply Go.sop; exact rfl; (first | exact aop_lenM rfl | exact rfl)) | (apply Go.no; exact rfl) | (apply Go.sno; exact rfl) | (apply Qg.op; exact rfl; (first | exact aop_lenM rfl | exact rfl)) | (apply Qg.no; exact rfl) | (apply Go.cond true; exact rfl) | (apply Go.cond false; exact rfl) | (exfalso; omega) | ((first | (apply Go.iteD; exact rfl) | (apply Go.iteE; exact rfl) | (apply Go.iteN; exact rfl) | (apply Go.guardD; exact rfl) | (apply Go.guardE; exact rfl) | (apply Go.guardN; exact rfl) | (apply Go.sguardD; exact rfl) | (apply Go.sguardE; exact rfl) | (apply Go.sguardN; exact rfl) | (apply Qg.guardD; exact rfl) | (apply Qg.guardE; exact rfl) | (apply Qg.guardN; exact rfl)) <;> intro _) | (((first | (apply Go.guard; exact rfl) | (apply Go.sguard; exact rfl) | (apply Qg.guard; exact rfl) | (apply Go.ite; exact rfl)); fail_if_success (intro h; exact absurd h (by decide)); rotate_left; fail_if_success (intro h; exact absurd h (by decide)); rotate_right) <;> intro _)
  refine Go.call _ rfl rfl rfl (toTokS_ok a.expr hb.1 hb.2 _) ?_
  rintro r σ0 ⟨x0, m0, rfl, rfl, t0, h0⟩
  rw [E_E] at h0 ⊢
  have t0 := tidy_up t0
  have h0 := h0.new2
  repeat' first | apply Go.seq | apply Go.skip | apply Go.region | apply Go.nil | apply Go.block | apply Go.blk | apply Go.draw | apply Go.segs | apply Go.qs | apply Qg.nil | (apply Go.exit; exact rfl) | (apply Go.var2; (first | exact Nat.le_add_right _ _ | assumption); (iterate 4 decide); iterate 5 exact rfl) | (apply Go.var; (first | exact Nat.le_add_right _ _ | assumption); decide; iterate 4 exact rfl) | (apply Go.op; exact rfl; (first | exact aop_alloc | exact aop_new rfl rfl | exact aop_mksl rfl | exact aop_lenM rfl | exact rfl | exact aop_load rfl rfl rfl (Nat.le_of_ble_eq_true rfl) rfl | exact aop_store rfl rfl rfl rfl rfl rfl (Nat.le_of_ble_eq_true rfl))) | (apply Go.sop; exact rfl; (first | exact aop_lenM rfl | exact rfl)) | (apply Go.no; exact rfl) | (apply Go.sno; exact rfl) | (apply Qg.op; exact rfl; (first | exact aop_lenM rfl | exact rfl)) | (apply Qg.no; exact rfl) | (apply Go.cond true; exact rfl) | (apply Go.cond false; exact rfl) | (exfalso; omega) | ((first | (apply Go.iteD; exact rfl) | (apply Go.iteE; exact rfl) | (apply Go.iteN; exact rfl) | (apply Go.guardD; exact rfl) | (apply Go.guardE; exact rfl) | (apply Go.guardN; exact rfl) | (apply Go.sguardD; exact rfl) | (apply Go.sguardE; exact rfl) | (apply Go.sguardN; exact rfl) | (apply Qg.guardD; exact rfl) | (apply Qg.guardE; exact rfl) | (apply Qg.guardN; exact rfl)) <;> intro _) | (((first | (apply Go.guard; exact rfl) | (apply Go.sguard; exact rfl) | (apply Qg.guard; exact rfl) | (apply Go.ite; exact rfl)); fail_if_success (intro h; exact absurd h (by decide)); rotate_left; fail_if_success (intro h; exact absurd h (by decide)); rotate_right) <;> intro _)
  have hL : HasL (E σ ((0, [[x0]]) :: (0, [[x0]]) :: ([] ++ m0))) (fun a => σ.next + 2 ≤ a ∧ a < σ.next + 2 + ([] ++ m0).length) (encChk a) [x0] := by
    refine HasL.mono ?_ (HasL.two (h0 _ _) (HasL.nil (S := fun a => a < 0)) (fun a ha hb => by (try dsimp only at ha hb); (try simp only [List.append_eq, List.length_append, List.length_nil, List.nil_append] at ha hb); omega))
    intro a ha
    (try dsimp only at ha)
    (try simp only [List.append_eq, List.length_append, List.length_nil, List.nil_append] at ha ⊢)
    omega
  have hT := hL.tidy (n := σ.next) fun a ha => by have := ha.1; omega
  have hM : TidyL σ.next ([] ++ m0) := (tidy_pre (fun b hb => by simp at hb) t0)
  have hN : NewL σ (encChk a) (.agg [x0]) (E σ ((0, [[x0]]) :: (0, [[x0]]) :: ([] ++ m0))) := by
    refine ⟨_, _, rfl, rfl, .one hT (.one hT hM), hL.mono ?_⟩
    intro a ha
    have h9 := ha.1
    have h8 := ha.2
    (try simp only [E_next, List.length_cons, List.append_eq, List.length_append, List.length_nil, List.nil_append] at h8 ⊢)
    constructor <;> omega
  exact .ret (retv_m rfl rfl rfl (Nat.le_of_ble_eq_true rfl) rfl) hN
theorem toChkS_ok (xs : List Chk) (hx : xs.length ≤ 34359738368) (hv : ∀ e ∈ xs, bChk 34359738368 e) (σ : Store) : Ok Tryz.prog 76 [.c (.fz (xs.map encChk))] σ (New σ (.fz (xs.map encChk))) :=
  toS_ok mixed c_laws_toCheckS_ok encChk xs hx (by decide) rfl (fun _ => rfl) (by intro x hx; simp only [List.mem_cons, List.not_mem_nil, or_false] at hx; rcases hx with rfl <;> constructor) (fun a ha σ => toChk_ok a (hv a ha) σ) σ
theorem Chk_beq (a b : Chk) : (a == b) = (a.expr == b.expr) := by
  obtain ⟨a0⟩ := a
  obtain ⟨b0⟩ := b
  rw [Bool.eq_iff_iff]
  simp [and_assoc]
theorem eqChk_ok (a b : Chk) (hb : bChk 34359738368 a) : Pure Tryz.prog 142 [.agg (encChk a), .agg (encChk b)] (.c (.bool (a == b))) := by
  refine Pure.run mixed c_laws_eqCheck_ok (Nat.le_of_ble_eq_true rfl) fun σ hS hA => ?_
  clear hS hA
  have hq := Chk_beq a b
  repeat' first | apply Go.seq | apply Go.skip | apply Go.region | apply Go.nil | apply Go.block | apply Go.blk | apply Go.draw | apply Go.segs | apply Go.qs | apply Qg.nil | (apply Go.exit; exact rfl) | (apply Go.var2; (first | exact Nat.le_add_right _ _ | assumption); (iterate 4 decide); iterate 5 exact rfl) | (apply Go.var; (first | exact Nat.le_add_right _ _ | assumption); decide; iterate 4 exact rfl) | (apply Go.op; exact rfl; (first | exact aop_alloc | exact aop_new rfl rfl | exact aop_mksl rfl | exact aop_lenM rfl | exact rfl | exact aop_load rfl rfl rfl (Nat.le_of_ble_eq_true rfl) rfl | exact aop_store rfl rfl rfl rfl rfl rfl (Nat.le_of_ble_eq_true rfl))) | (apply Go.sop; exact rfl; (first | exact aop_lenM rfl | exact rfl)) | (apply Go.no; exact rfl) | (apply Go.sno; exact rfl) | (apply Qg.op; exact rfl; (first | exact aop_lenM rfl | exact rfl)) | (apply Qg.no; exact rfl) | (apply Go.cond true; exact rfl) | (apply Go.cond false; exact rfl) | ((first | (apply Go.pcallB; iterate 3 exact rfl) | (apply Go.spcallB; iterate 3 exact rfl) | (apply Qg.pcallB; iterate 3 exact rfl)); exact eqTokS_ok a.expr b.expr hb.1 hb.2; intro _ _) | (exfalso; omega) | ((first | (apply Go.iteD; exact rfl) | (apply Go.iteE; exact rfl) | (apply Go.iteN; exact rfl) | (apply Go.guardD; exact rfl) | (apply Go.guardE; exact rfl) | (apply Go.guardN; exact rfl) | (apply Go.sguardD; exact rfl) | (apply Go.sguardE; exact rfl) | (apply Go.sguardN; exact rfl) | (apply Qg.guardD; exact rfl) | (apply Qg.guardE; exact rfl) | (apply Qg.guardN; exact rfl)) <;> intro _) | (((first | (apply Go.guard; exact rfl) | (apply Go.sguard; exact rfl) | (apply Qg.guard; exact rfl) | (apply Go.ite; exact rfl)); fail_if_success (intro h; exact absurd h (by decide)); rotate_left; fail_if_success (intro h; exact absurd h (by decide)); rotate_right) <;> intro _)
  all_goals refine .ret rfl (.bool ?_)
  all_goals rw [hq]
  all_goals clear hq hb
  all_goals simp_all
theorem eqChkS_ok (xs ys : List Chk) (hx : xs.length ≤ 34359738368) (hv : ∀ e ∈ xs, bChk 34359738368 e) : Pure Tryz.prog 94 [.c (.fz (xs.map encChk)), .c (.fz (ys.map encChk))] (.c (.bool (xs == ys))) :=
  eqS_ok mixed c_laws_eqCheckS_ok encChk xs ys hx (fun _ => rfl) fun a ha b => eqChk_ok a b (hv a ha)
structure Uniq where
  cols : List Int
  deriving DecidableEq
def encUniq (a : Uniq) : List Ce := [.fz (a.cols.map encI)]
def bUniq (N : Nat) (a : Uniq) : Prop := a.cols.length ≤ N
def zUniq (a : Uniq) : Int → Int := chain [(zI a.cols)]
theorem zUniq_steps (a : Uniq) : Steps [(zI a.cols)] := (.cons (step_ints _) .nil)
theorem zUniq_le (a : Uniq) (l : Int) (h : 0 ≤ l) : zUniq a l ≤ l := chain_le (zUniq_steps a) l h
theorem bUniq_of (a : Uniq) (l : Int) (N : Nat) (h0 : 0 ≤ l) (h : 0 ≤ zUniq a l) (hl : l ≤ N) : bUniq N a := by
  have hh := chain_all (zUniq_steps a) l h0 h
  obtain ⟨q0, u0, v0, w0⟩ := hh (zI a.cols) (by simp)
  exact (ints_of w0 (by omega))
theorem szUniq_ok (a : Uniq) (left : Int) (hb : bUniq 1125899906842624 a) (h0 : 0 ≤ left) (h1 : left ≤ 34359738368) : Pure Tryz.prog 111 [.agg (encUniq a), .c (.int .i64 left)] (.c (.int .i64 (zUniq a left))) := by
  refine Pure.run mixed c_laws_szUnique_ok (Nat.le_of_ble_eq_true rfl) fun σ hS hA => ?_
  clear hS hA
  repeat' first | apply Go.seq | apply Go.skip | apply Go.region | apply Go.nil | apply Go.block | apply Go.blk | apply Go.draw | apply Go.segs | apply Go.qs | apply Qg.nil | (apply Go.exit; exact rfl) | (apply Go.var2; (first | exact Nat.le_add_right _ _ | assumption); (iterate 4 decide); iterate 5 exact rfl) | (apply Go.var; (first | exact Nat.le_add_right _ _ | assumption); decide; iterate 4 exact rfl) | (apply Go.op; exact rfl; (first | exact aop_alloc | exact aop_new rfl rfl | exact aop_mksl rfl | exact aop_lenM rfl | exact rfl | exact aop_load rfl rfl rfl (Nat.le_of_ble_eq_true rfl) rfl | exact aop_store rfl rfl rfl rfl rfl rfl (Nat.le_of_ble_eq_true rfl))) | (apply Go.sop; exact rfl; (first | exact aop_lenM rfl | exact rfl)) | (apply Go.no; exact rfl) | (apply Go.sno; exact rfl) | (apply Qg.op; exact rfl; (first | exact aop_lenM rfl | exact rfl)) | (apply Qg.no; exact rfl) | (apply Go.cond true; exact rfl) | (apply Go.cond false; exact rfl)
  refine .pcall rfl rfl rfl (szInt64S_ok a.cols left hb (by omega) (by omega)) ?_
  have y1 := step_ints a.cols left (by omega)
  generalize e1 : zI a.cols left = l1 at y1 ⊢
  repeat' first | apply Go.seq | apply Go.skip | apply Go.region | apply Go.nil | apply Go.block | apply Go.blk | apply Go.draw | apply Go.segs | apply Go.qs | apply Qg.nil | (apply Go.exit; exact rfl) | (apply Go.var2; (first | exact Nat.le_add_right _ _ | assumption); (iterate 4 decide); iterate 5 exact rfl) | (apply Go.var; (first | exact Nat.le_add_right _ _ | assumption); decide; iterate 4 exact rfl) | (apply Go.op; exact rfl; (first | exact aop_alloc | exact aop_new rfl rfl | exact aop_mksl rfl | exact aop_lenM rfl | exact rfl | exact aop_load rfl rfl rfl (Nat.le_of_ble_eq_true rfl) rfl | exact aop_store rfl rfl rfl rfl rfl rfl (Nat.le_of_ble_eq_true rfl))) | (apply Go.sop; exact rfl; (first | exact aop_lenM rfl | exact rfl)) | (apply Go.no; exact rfl) | (apply Go.sno; exact rfl) | (apply Qg.op; exact rfl; (first | exact aop_lenM rfl | exact rfl)) | (apply Qg.no; exact rfl) | (apply Go.cond true; exact rfl) | (apply Go.cond false; exact rfl) | (exfalso; omega) | ((first | (apply Go.iteD; exact rfl) | (apply Go.iteE; exact rfl) | (apply Go.iteN; exact rfl) | (apply Go.guardD; exact rfl) | (apply Go.guardE; exact rfl) | (apply Go.guardN; exact rfl) | (apply Go.sguardD; exact rfl) | (apply Go.sguardE; exact rfl) | (apply Go.sguardN; exact rfl) | (apply Qg.guardD; exact rfl) | (apply Qg.guardE; exact rfl) | (apply Qg.guardN; exact rfl)) <;> intro _) | (((first | (apply Go.guard; exact rfl) | (apply Go.sguard; exact rfl) | (apply Qg.guard; exact rfl) | (apply Go.ite; exact rfl)); fail_if_success (intro h; exact absurd h (by decide)); rotate_left; fail_if_success (intro h; exact absurd h (by decide)); rotate_right) <;> intro _)
  · refine .ret rfl (.int ?_)
    rename_i h
    simp only [zUniq, chain, e1, if_pos h]
  rename_i g1
  refine .ret rfl (.int ?_)
  simp only [zUniq, chain, e1, if_neg g1]
theorem szUniqS_ok (xs : List Uniq) (left : Int) (hx : xs.length ≤ 1125899906842624) (hv : ∀ e ∈ xs, bUniq 1125899906842624 e) (h0 : 0 ≤ left) (h1 : left ≤ 34359738368) : Pure Tryz.prog 64 [.c (.fz (xs.map encUniq)), .c (.int .i64 left)] (.c (.int .i64 (szL zUniq xs left))) :=
  szS_ok mixed c_laws_szUniqueS_ok encUniq zUniq xs left hx h0 h1 (fun _ => rfl) zUniq_le fun a ha l h2 h3 => szUniq_ok a l (hv a ha) h2 (by omega)
theorem toUniq_ok (a : Uniq) (hb : bUniq 34359738368 a) (σ : Store) : Ok Tryz.prog 121 [.agg (encUniq a)] σ (NewL σ (encUniq a)) := by
  refine Ok.run mixed c_laws_toUnique_ok (Nat.le_of_ble_eq_true rfl) fun hS hA => ?_
  clear hS hA
  repeat' first | apply Go.seq | apply Go.skip | apply Go.region | apply Go.nil | apply Go.block | apply Go.blk | apply Go.draw | apply Go.segs | apply Go.qs | apply Qg.nil | (apply Go.exit; exact rfl) | (apply Go.var2; (first | exact Nat.le_add_right _ _ | assumption); (iterate 4 decide); iterate 5 exact rfl) | (apply Go.var; (first | exact Nat.le_add_right _ _ | assumption); decide; iterate 4 exact rfl) | (apply Go.op; exact rfl; (first | exact aop_alloc | exact aop_new rfl rfl | exact aop_mksl rfl | exact aop_lenM rfl | exact rfl | exact aop_load rfl rfl rfl (Nat.le_of_ble_eq_true rfl) rfl | exact aop_store rfl rfl rfl rfl rfl rfl (Nat.le_of_ble_eq_true rfl))) | (apply Go.sop; exact rfl; (first | exact aop_lenM rfl | exact rfl)) | (apply Go.no; exact rfl) | (apply Go.sno; exact rfl) | (apply Qg.op; exact rfl; (first | exact aop_lenM rfl | exact rfl)) | (apply Qg.no; exact rfl) | (apply Go.cond true; exact rfl) | (apply Go.cond false; exact rfl) | (exfalso; omega) | ((first | (apply Go.iteD; exact rfl) | (apply Go.iteE; exact rfl) | (apply Go.iteN; exact rfl) | (apply Go.guardD; exact rfl) | (apply Go.guardE; exact rfl) | (apply Go.guardN; exact rfl) | (apply Go.sguardD; exact rfl) | (apply Go.sguardE; exact rfl) | (apply Go.sguardN; exact rfl) | (apply Qg.guardD; exact rfl) | (apply Qg.guardE; exact rfl) | (apply Qg.guardN; exact rfl)) <;> intro _) | (((first | (apply Go.guard; exact rfl) | (apply Go.sguard; exact rfl) | (apply Qg.guard; exact rfl) | (apply Go.ite; exact rfl)); fail_if_success (intro h; exact absurd h (by decide)); rotate_left; fail_if_success (intro h; exact absurd h (by decide)); rotate_right) <;> intro _)
  refine Go.call _ rfl rfl rfl (toInt64S_ok a.cols hb _) ?_
  rintro r σ0 ⟨x0, m0, rfl, rfl, t0, h0⟩
  rw [E_E] at h0 ⊢
  have t0 := tidy_up t0
  have h0 := h0.new2
  repeat' first | apply Go.seq | apply Go.skip | apply Go.region | apply Go.nil | apply Go.block | apply Go.blk | apply Go.draw | apply Go.segs | apply Go.qs | apply Qg.nil | (apply Go.exit; exact rfl) | (apply Go.var2; (first | exact Nat.le_add_right _ _ | assumption); (iterate 4 decide); iterate 5 exact rfl) | (apply Go.var; (first | exact Nat.le_add_right _ _ | assumption); decide; iterate 4 exact rfl) | (apply Go.op; exact rfl; (first | exact aop_alloc | exact aop_new rfl rfl | exact aop_mksl rfl | exact aop_lenM rfl | exact rfl | exact aop_load rfl rfl rfl (Nat.le_of_ble_eq_true rfl) rfl | exact aop_store rfl rfl rfl rfl rfl rfl (Nat.le_of_ble_eq_true rfl))) | (apply Go.sop; exact rfl; (first | exact aop_lenM rfl | exact rfl)) | (apply Go.no; exact rfl) | (apply Go.sno; exact rfl) | (apply Qg.op; exact rfl; (first | exact aop_lenM rfl | exact rfl)) | (apply Qg.no; exact rfl) | (apply Go.cond true; exact rfl) | (apply Go.cond false; exact rfl) | (exfalso; omega) | ((first | (apply Go.iteD; exact rfl) | (apply Go.iteE; exact rfl) | (apply Go.iteN; exact rfl) | (apply Go.guardD; exact rfl) | (apply Go.guardE; exact rfl) | (apply Go.guardN; exact rfl) | (apply Go.sguardD; exact rfl) | (apply Go.sguardE; exact rfl) | (apply Go.sguardN; exact rfl) | (apply Qg.guardD; exact rfl) | (apply Qg.guardE; exact rfl) | (apply Qg.guardN; exact rfl)) <;> intro _) | (((first | (apply Go.guard; exact rfl) | (apply Go.sguard; exact rfl) | (apply Qg.guard; exact rfl) | (apply Go.ite; exact rfl)); fail_if_success (intro h; exact absurd h (by decide)); rotate_left; fail_if_success (intro h; exact absurd h (by decide)); rotate_right) <;> intro _)
  have hL : HasL (E σ ((0, [[x0]]) :: (0, [[x0]]) :: ([] ++ m0))) (fun a => σ.next + 2 ≤ a ∧ a < σ.next + 2 + ([] ++ m0).length) (encUniq a) [x0] := by
    refine HasL.mono ?_ (HasL.two (h0 _ _) (HasL.nil (S := fun a => a < 0)) (fun a ha hb => by (try dsimp only at ha hb); (try simp only [List.append_eq, List.length_append, List.length_nil, List.nil_append] at ha hb); omega))
    intro a ha
    (try dsimp only at ha)
    (try simp only [List.append_eq, List.length_append, List.length_nil, List.nil_append] at ha ⊢)
    omega
  have hT := hL.tidy (n := σ.next) fun a ha => by have := ha.1; omega
  have hM : TidyL σ.next ([] ++ m0) := (tidy_pre (fun b hb => by simp at hb) t0)
  have hN : NewL σ (encUniq a) (.agg [x0]) (E σ ((0, [[x0]]) :: (0, [[x0]]) :: ([] ++ m0))) := by
    refine ⟨_, _, rfl, rfl, .one hT (.one hT hM), hL.mono ?_⟩
    intro a ha
    have h9 := ha.1
    have h8 := ha.2
    (try simp only [E_next, List.length_cons, List.append_eq, List.length_append, List.length_nil, List.nil_append] at h8 ⊢)
    constructor <;> omega
  exact .ret (retv_m rfl rfl rfl (Nat.le_of_ble_eq_true rfl) rfl) hN
theorem toUniqS_ok (xs : List Uniq) (hx : xs.length ≤ 34359738368) (hv : ∀ e ∈ xs, bUniq 34359738368 e) (σ : Store) : Ok Tryz.prog 75 [.c (.fz (xs.map encUniq))] σ (New σ (.fz (xs.map encUniq))) :=
  toS_ok mixed c_laws_toUniqueS_ok encUniq xs hx (by decide) rfl (fun _ => rfl) (by intro x hx; simp only [List.mem_cons, List.not_mem_nil, or_false] at hx; rcases hx with rfl <;> constructor) (fun a ha σ => toUniq_ok a (hv a ha) σ) σ
theorem Uniq_beq (a b : Uniq) : (a == b) = (a.cols == b.cols) := by
  obtain ⟨a0⟩ := a
  obtain ⟨b0⟩ := b
  rw [Bool.eq_iff_iff]
  simp [and_assoc]
theorem eqUniq_ok (a b : Uniq) (hb : bUniq 34359738368 a) : Pure Tryz.prog 141 [.agg (encUniq a), .agg (encUniq b)] (.c (.bool (a == b))) := by
  refine Pure.run mixed c_laws_eqUnique_ok (Nat.le_of_ble_eq_true rfl) fun σ hS hA => ?_
  clear hS hA
  have hq := Uniq_beq a b
  repeat' first | apply Go.seq | apply Go.skip | apply Go.region | apply Go.nil | apply Go.block | apply Go.blk | apply Go.draw | apply Go.segs | apply Go.qs | apply Qg.nil | (apply Go.exit; exact rfl) | (apply Go.var2; (first | exact Nat.le_add_right _ _ | assumption); (iterate 4 decide); iterate 5 exact rfl) | (apply Go.var; (first | exact Nat.le_add_right _ _ | assumption); decide; iterate 4 exact rfl) | (apply Go.op; exact rfl; (first | exact aop_alloc | exact aop_new rfl rfl | exact aop_mksl rfl | exact aop_lenM rfl | exact rfl | exact aop_load rfl rfl rfl (Nat.le_of_ble_eq_true rfl) rfl | exact aop_store rfl rfl rfl rfl rfl rfl (Nat.le_of_ble_eq_true rfl))) | (apply Go.sop; exact rfl; (first | exact aop_lenM rfl | exact rfl)) | (apply Go.no; exact rfl) | (apply Go.sno; exact rfl) | (apply Qg.op; exact rfl; (first | exact aop_lenM rfl | exact rfl)) | (apply Qg.no; exact rfl) | (apply Go.cond true; exact rfl) | (apply Go.cond false; exact rfl) | ((first | (apply Go.pcallB; iterate 3 exact rfl) | (apply Go.spcallB; iterate 3 exact rfl) | (apply Qg.pcallB; iterate 3 exact rfl)); exact eqInt64S_ok a.cols b.cols hb; intro _ _) | (exfalso; omega) | ((first | (apply Go.iteD; exact rfl) | (apply Go.iteE; exact rfl) | (apply Go.iteN; exact rfl) | (apply Go.guardD; exact rfl) | (apply Go.guardE; exact rfl) | (apply Go.guardN; exact rfl) | (apply Go.sguardD; exact rfl) | (apply Go.sguardE; exact rfl) | (apply Go.sguardN; exact rfl) | (apply Qg.guardD; exact rfl) | (apply Qg.guardE; exact rfl) | (apply Qg.guardN; exact rfl)) <;> intro _) | (((first | (apply Go.guard; exact rfl) | (apply Go.sguard; exact rfl) | (apply Qg.guard; exact rfl) | (apply Go.ite; exact rfl)); fail_if_success (intro h; exact absurd h (by decide)); rotate_left; fail_if_success (intro h; exact absurd h (by decide)); rotate_right) <;> intro _)
  all_goals refine .ret rfl (.bool ?_)
  all_goals rw [hq]
  all_goals clear hq hb
  all_goals simp_all
theorem eqUniqS_ok (xs ys : List Uniq) (hx : xs.length ≤ 34359738368) (hv : ∀ e ∈ xs, bUniq 34359738368 e) : Pure Tryz.prog 93 [.c (.fz (xs.map encUniq)), .c (.fz (ys.map encUniq))] (.c (.bool (xs == ys))) :=
  eqS_ok mixed c_laws_eqUniqueS_ok encUniq xs ys hx (fun _ => rfl) fun a ha b => eqUniq_ok a b (hv a ha)
structure Fk where
  cols : List Int
  table : List UInt8
  onDelete : Int
  onUpdate : Int
  deferred : Bool
  deriving DecidableEq
def encFk (a : Fk) : List Ce := [.fz (a.cols.map encI), .str a.table, .int .i64 a.onDelete, .int .i64 a.onUpdate, .bool a.deferred]
def bFk (N : Nat) (a : Fk) : Prop := a.cols.length ≤ N ∧ a.table.length ≤ N
def zFk (a : Fk) : Int → Int := chain [(zI a.cols), (fun l => l - a.table.length)]
theorem zFk_steps (a : Fk) : Steps [(zI a.cols), (fun l => l - a.table.length)] := (.cons (step_ints _) (.cons (step_str _) .nil))
theorem zFk_le (a : Fk) (l : Int) (h : 0 ≤ l) : zFk a l ≤ l := chain_le (zFk_steps a) l h
theorem bFk_of (a : Fk) (l : Int) (N : Nat) (h0 : 0 ≤ l) (h : 0 ≤ zFk a l) (hl : l ≤ N) : bFk N a := by
  have hh := chain_all (zFk_steps a) l h0 h
  obtain ⟨q0, u0, v0, w0⟩ := hh (zI a.cols) (by simp)
  obtain ⟨q1, u1, v1, w1⟩ := hh (fun l => l - a.table.length) (by simp)
  exact ⟨(ints_of w0 (by omega)), (by (try simp only at w1); omega)⟩
theorem szFk_ok (a : Fk) (left : Int) (hb : bFk 1125899906842624 a) (h0 : 0 ≤ left) (h1 : left ≤ 34359738368) : Pure Tryz.prog 113 [.agg (encFk a), .c (.int .i64 left)] (.c (.int .i64 (zFk a left))) := by
  refine Pure.run mixed c_laws_szFk_ok (Nat.le_of_ble_eq_true rfl) fun σ hS hA => ?_
  clear hS hA
  repeat' first | apply Go.seq | apply Go.skip | apply Go.region | apply Go.nil | apply Go.block | apply Go.blk | apply Go.draw | apply Go.segs | apply Go.qs | apply Qg.nil | (apply Go.exit; exact rfl) | (apply Go.var2; (first | exact Nat.le_add_right _ _ | assumption); (iterate 4 decide); iterate 5 exact rfl) | (apply Go.var; (first | exact Nat.le_add_right _ _ | assumption); decide; iterate 4 exact rfl) | (apply Go.op; exact rfl; (first | exact aop_alloc | exact aop_new rfl rfl | exact aop_mksl rfl | exact aop_lenM rfl | exact rfl | exact aop_load rfl rfl rfl (Nat.le_of_ble_eq_true rfl) rfl | exact aop_store rfl rfl rfl rfl rfl rfl (Nat.le_of_ble_eq_true rfl))) | (apply Go.sop; exact rfl; (first | exact aop_lenM rfl | exact rfl)) | (apply Go.no; exact rfl) | (apply Go.sno; exact rfl) | (apply Qg.op; exact rfl; (first | exact aop_lenM rfl | exact rfl)) | (apply Qg.no; exact rfl) | (apply Go.cond true; exact rfl) | (apply Go.cond false; exact rfl)
  refine .pcall rfl rfl rfl (szInt64S_ok a.cols left hb.1 (by omega) (by omega)) ?_
  have y1 := step_ints a.cols left (by omega)
  generalize e1 : zI a.cols left = l1 at y1 ⊢
  have w2 : 0 ≤ l1 → IntKind.i64.wrap (l1 - a.table.length) = l1 - a.table.length := fun h => wrap64 (by have : a.table.length ≤ 1125899906842624 := hb.2; omega) (by omega)
  repeat' first | apply Go.seq | apply Go.skip | apply Go.region | apply Go.nil | apply Go.block | apply Go.blk | apply Go.draw | apply Go.segs | apply Go.qs | apply Qg.nil | (apply Go.exit; exact rfl) | (apply Go.var2; (first | exact Nat.le_add_right _ _ | assumption); (iterate 4 decide); iterate 5 exact rfl) | (apply Go.var; (first | exact Nat.le_add_right _ _ | assumption); decide; iterate 4 exact rfl) | (apply Go.op; exact rfl; (first | exact aop_alloc | exact aop_new rfl rfl | exact aop_mksl rfl | exact aop_lenM rfl | exact rfl | exact aop_load rfl rfl rfl (Nat.le_of_ble_eq_true rfl) rfl | exact aop_store rfl rfl rfl rfl rfl rfl (Nat.le_of_ble_eq_true rfl))) | (apply Go.sop; exact rfl; (first | exact aop_lenM rfl | exact rfl)) | (apply Go.no; exact rfl) | (apply Go.sno; exact rfl) | (apply Qg.op; exact rfl; (first | exact aop_lenM rfl | exact rfl)) | (apply Qg.no; exact rfl) | (apply Go.cond true; exact rfl) | (apply Go.cond false; exact rfl) | (exfalso; omega) | ((first | (apply Go.iteD; exact rfl) | (apply Go.iteE; exact rfl) | (apply Go.iteN; exact rfl) | (apply Go.guardD; exact rfl) | (apply Go.guardE; exact rfl) | (apply Go.guardN; exact rfl) | (apply Go.sguardD; exact rfl) | (apply Go.sguardE; exact rfl) | (apply Go.sguardN; exact rfl) | (apply Qg.guardD; exact rfl) | (apply Qg.guardE; exact rfl) | (apply Qg.guardN; exact rfl)) <;> intro _) | (((first | (apply Go.guard; exact rfl) | (apply Go.sguard; exact rfl) | (apply Qg.guard; exact rfl) | (apply Go.ite; exact rfl)); fail_if_success (intro h; exact absurd h (by decide)); rotate_left; fail_if_success (intro h; exact absurd h (by decide)); rotate_right) <;> intro _)
  · refine .ret rfl (.int ?_)
    rename_i h
    simp only [zFk, chain, e1, if_pos h]
  · refine .ret rfl (.int ?_)
    rename_i g1 h
    have v2 := w2 (by omega)
    simp only [v2] at h
    simp only [zFk, chain, e1, if_neg g1, if_pos h]
  rename_i g1 g2
  have v2 := w2 (by omega)
  simp only [v2] at g2 ⊢
  obtain ⟨l2, e2⟩ : ∃ q, l1 - (a.table.length : Int) = q := ⟨_, rfl⟩
  rw [e2] at g2 ⊢
  refine .ret rfl (.int ?_)
  simp only [zFk, chain, e1, e2, if_neg g1, if_neg g2]
theorem szFkS_ok (xs : List Fk) (left : Int) (hx : xs.length ≤ 1125899906842624) (hv : ∀ e ∈ xs, bFk 1125899906842624 e) (h0 : 0 ≤ left) (h1 : left ≤ 34359738368) : Pure Tryz.prog 66 [.c (.fz (xs.map encFk)), .c (.int .i64 left)] (.c (.int .i64 (szL zFk xs left))) :=
  szS_ok mixed c_laws_szFkS_ok encFk zFk xs left hx h0 h1 (fun _ => rfl) zFk_le fun a ha l h2 h3 => szFk_ok a l (hv a ha) h2 (by omega)
theorem toFk_ok (a : Fk) (hb : bFk 34359738368 a) (σ : Store) : Ok Tryz.prog 123 [.agg (encFk a)] σ (NewL σ (encFk a)) := by
  refine Ok.run mixed c_laws_toFk_ok (Nat.le_of_ble_eq_true rfl) fun hS hA => ?_
  clear hS hA
  repeat' first | apply Go.seq | apply Go.skip | apply Go.region | apply Go.nil | apply Go.block | apply Go.blk | apply Go.draw | apply Go.segs | apply Go.qs | apply Qg.nil | (apply Go.exit; exact rfl) | (apply Go.var2; (first | exact Nat.le_add_right _ _ | assumption); (iterate 4 decide); iterate 5 exact rfl) | (apply Go.var; (first | exact Nat.le_add_right _ _ | assumption); decide; iterate 4 exact rfl) | (apply Go.op; exact rfl; (first | exact aop_alloc | exact aop_new rfl rfl | exact aop_mksl rfl | exact aop_lenM rfl | exact rfl | exact aop_load rfl rfl rfl (Nat.le_of_ble_eq_true rfl) rfl | exact aop_store rfl rfl rfl rfl rfl rfl (Nat.le_of_ble_eq_true rfl))) | (apply Go.sop; exact rfl; (first | exact aop_lenM rfl | exact rfl)) | (apply Go.no; exact rfl) | (apply Go.sno; exact rfl) | (apply Qg.op; exact rfl; (first | exact aop_lenM rfl | exact rfl)) | (apply Qg.no; exact rfl) | (apply Go.cond true; exact rfl) | (apply Go.cond false; exact rfl) | (exfalso; omega) | ((first | (apply Go.iteD; exact rfl) | (apply Go.iteE; exact rfl) | (apply Go.iteN; exact rfl) | (apply Go.guardD; exact rfl) | (apply Go.guardE; exact rfl) | (apply Go.guardN; exact rfl) | (apply Go.sguardD; exact rfl) | (apply Go.sguardE; exact rfl) | (apply Go.sguardN; exact rfl) | (apply Qg.guardD; exact rfl) | (apply Qg.guardE; exact rfl) | (apply Qg.guardN; exact rfl)) <;> intro _) | (((first | (apply Go.guard; exact rfl) | (apply Go.sguard; exact rfl) | (apply Qg.guard; exact rfl) | (apply Go.ite; exact rfl)); fail_if_success (intro h; exact absurd h (by decide)); rotate_left; fail_if_success (intro h; exact absurd h (by decide)); rotate_right) <;> intro _)
  refine Go.call _ rfl rfl rfl (toInt64S_ok a.cols hb.1 _) ?_
  rintro r σ0 ⟨x0, m0, rfl, rfl, t0, h0⟩
  rw [E_E] at h0 ⊢
  have t0 := tidy_up t0
  have h0 := h0.new2
  repeat' first | apply Go.seq | apply Go.skip | apply Go.region | apply Go.nil | apply Go.block | apply Go.blk | apply Go.draw | apply Go.segs | apply Go.qs | apply Qg.nil | (apply Go.exit; exact rfl) | (apply Go.var2; (first | exact Nat.le_add_right _ _ | assumption); (iterate 4 decide); iterate 5 exact rfl) | (apply Go.var; (first | exact Nat.le_add_right _ _ | assumption); decide; iterate 4 exact rfl) | (apply Go.op; exact rfl; (first | exact aop_alloc | exact aop_new rfl rfl | exact aop_mksl rfl | exact aop_lenM rfl | exact rfl | exact aop_load rfl rfl rfl (Nat.le_of_ble_eq_true rfl) rfl | exact aop_store rfl rfl rfl rfl rfl rfl (Nat.le_of_ble_eq_true rfl))) | (apply Go.sop; exact rfl; (first | exact aop_lenM rfl | exact rfl)) | (apply Go.no; exact rfl) | (apply Go.sno; exact rfl) | (apply Qg.op; exact rfl; (first | exact aop_lenM rfl | exact rfl)) | (apply Qg.no; exact rfl) | (apply Go.cond true; exact rfl) | (apply Go.cond false; exact rfl) | (exfalso; omega) | ((first | (apply Go.iteD; exact rfl) | (apply Go.iteE; exact rfl) | (apply Go.iteN; exact rfl) | (apply Go.guardD; exact rfl) | (apply Go.guardE; exact rfl) | (apply Go.guardN; exact rfl) | (apply Go.sguardD; exact rfl) | (apply Go.sguardE; exact rfl) | (apply Go.sguardN; exact rfl) | (apply Qg.guardD; exact rfl) | (apply Qg.guardE; exact rfl) | (apply Qg.guardN; exact rfl)) <;> intro _) | (((first | (apply Go.guard; exact rfl) | (apply Go.sguard; exact rfl) | (apply Qg.guard; exact rfl) | (apply Go.ite; exact rfl)); fail_if_success (intro h; exact absurd h (by decide)); rotate_left; fail_if_success (intro h; exact absurd h (by decide)); rotate_right) <;> intro _)
  have hL : HasL (E σ ((0, [[x0, .str a.table, .int .i64 a.onDelete, .int .i64 a.onUpdate, .bool a.deferred]]) :: (0, [[x0, .str a.table, .int .i64 a.onDelete, .int .i64 a.onUpdate, .bool a.deferred]]) :: ([] ++ m0))) (fun a => σ.next + 2 ≤ a ∧ a < σ.next + 2 + ([] ++ m0).length) (encFk a) [x0, .str a.table, .int .i64 a.onDelete, .int .i64 a.onUpdate, .bool a.deferred] := by
    refine HasL.mono ?_ (HasL.two (h0 _ _) (HasL.skip (.str _) (HasL.skip (.int _ _) (HasL.skip (.int _ _) (HasL.skip (.bool _) (HasL.nil (S := fun a => a < 0)))))) (fun a ha hb => by (try dsimp only at ha hb); (try simp only [List.append_eq, List.length_append, List.length_nil, List.nil_append] at ha hb); omega))
    intro a ha
    (try dsimp only at ha)
    (try simp only [List.append_eq, List.length_append, List.length_nil, List.nil_append] at ha ⊢)
    omega
  have hT := hL.tidy (n := σ.next) fun a ha => by have := ha.1; omega
  have hM : TidyL σ.next ([] ++ m0) := (tidy_pre (fun b hb => by simp at hb) t0)
  have hN : NewL σ (encFk a) (.agg [x0, .str a.table, .int .i64 a.onDelete, .int .i64 a.onUpdate, .bool a.deferred]) (E σ ((0, [[x0, .str a.table, .int .i64 a.onDelete, .int .i64 a.onUpdate, .bool a.deferred]]) :: (0, [[x0, .str a.table, .int .i64 a.onDelete, .int .i64 a.onUpdate, .bool a.deferred]]) :: ([] ++ m0))) := by
    refine ⟨_, _, rfl, rfl, .one hT (.one hT hM), hL.mono ?_⟩
    intro a ha
    have h9 := ha.1
    have h8 := ha.2
    (try simp only [E_next, List.length_cons, List.append_eq, List.length_append, List.length_nil, List.nil_append] at h8 ⊢)
    constructor <;> omega
  exact .ret (retv_m rfl rfl rfl (Nat.le_of_ble_eq_true rfl) rfl) hN
theorem toFkS_ok (xs : List Fk) (hx : xs.length ≤ 34359738368) (hv : ∀ e ∈ xs, bFk 34359738368 e) (σ : Store) : Ok Tryz.prog 77 [.c (.fz (xs.map encFk))] σ (New σ (.fz (xs.map encFk))) :=
  toS_ok mixed c_laws_toFkS_ok encFk xs hx (by decide) rfl (fun _ => rfl) (by intro x hx; simp only [List.mem_cons, List.not_mem_nil, or_false] at hx; rcases hx with rfl | rfl | rfl | rfl | rfl <;> constructor) (fun a ha σ => toFk_ok a (hv a ha) σ) σ
theorem Fk_beq (a b : Fk) : (a == b) = (a.cols == b.cols && a.table == b.table && a.onDelete == b.onDelete && a.onUpdate == b.onUpdate && a.deferred == b.deferred) := by
  obtain ⟨a0, a1, a2, a3, a4⟩ := a
  obtain ⟨b0, b1, b2, b3, b4⟩ := b
  rw [Bool.eq_iff_iff]
  simp [and_assoc]
theorem eqFk_ok (a b : Fk) (hb : bFk 34359738368 a) : Pure Tryz.prog 143 [.agg (encFk a), .agg (encFk b)] (.c (.bool (a == b))) := by
  refine Pure.run mixed c_laws_eqFk_ok (Nat.le_of_ble_eq_true rfl) fun σ hS hA => ?_
  clear hS hA
  have hq := Fk_beq a b
  repeat' first | apply Go.seq | apply Go.skip | apply Go.region | apply Go.nil | apply Go.block | apply Go.blk | apply Go.draw | apply Go.segs | apply Go.qs | apply Qg.nil | (apply Go.exit; exact rfl) | (apply Go.var2; (first | exact Nat.le_add_right _ _ | assumption); (iterate 4 decide); iterate 5 exact rfl) | (apply Go.var; (first | exact Nat.le_add_right _ _ | assumption); decide; iterate 4 exact rfl) | (apply Go.op; exact rfl; (first | exact aop_alloc | exact aop_new rfl rfl | exact aop_mksl rfl | exact aop_lenM rfl | exact rfl | exact aop_load rfl rfl rfl (Nat.le_of_ble_eq_true rfl) rfl | exact aop_store rfl rfl rfl rfl rfl rfl (Nat.le_of_ble_eq_true rfl))) | (apply Go.sop; exact rfl; (first | exact aop_lenM rfl | exact rfl)) | (apply Go.no; exact rfl) | (apply Go.sno; exact rfl) | (apply Qg.op; exact rfl; (first | exact aop_lenM rfl | exact rfl)) | (apply Qg.no; exact rfl) | (apply Go.cond true; exact rfl) | (apply Go.cond false; exact rfl) | ((first | (apply Go.pcallB; iterate 3 exact rfl) | (apply Go.spcallB; iterate 3 exact rfl) | (apply Qg.pcallB; iterate 3 exact rfl)); exact eqInt64S_ok a.cols b.cols hb.1; intro _ _) | (exfalso; omega) | ((first | (apply Go.iteD; exact rfl) | (apply Go.iteE; exact rfl) | (apply Go.iteN; exact rfl) | (apply Go.guardD; exact rfl) | (apply Go.guardE; exact rfl) | (apply Go.guardN; exact rfl) | (apply Go.sguardD; exact rfl) | (apply Go.sguardE; exact rfl) | (apply Go.sguardN; exact rfl) | (apply Qg.guardD; exact rfl) | (apply Qg.guardE; exact rfl) | (apply Qg.guardN; exact rfl)) <;> intro _) | (((first | (apply Go.guard; exact rfl) | (apply Go.sguard; exact rfl) | (apply Qg.guard; exact rfl) | (apply Go.ite; exact rfl)); fail_if_success (intro h; exact absurd h (by decide)); rotate_left; fail_if_success (intro h; exact absurd h (by decide)); rotate_right) <;> intro _)
  all_goals refine .ret rfl (.bool ?_)
  all_goals rw [hq]
  all_goals clear hq hb
  all_goals simp_all
theorem eqFkS_ok (xs ys : List Fk) (hx : xs.length ≤ 34359738368) (hv : ∀ e ∈ xs, bFk 34359738368 e) : Pure Tryz.prog 95 [.c (.fz (xs.map encFk)), .c (.fz (ys.map encFk))] (.c (.bool (xs == ys))) :=
  eqS_ok mixed c_laws_eqFkS_ok encFk xs ys hx (fun _ => rfl) fun a ha b => eqFk_ok a b (hv a ha)
structure Col where
  name : List UInt8
  kind : Int
  notNull : Bool
  dflt : Val
  deriving DecidableEq
def encCol (a : Col) : List Ce := [.str a.name, .int .i64 a.kind, .bool a.notNull, .int .i64 a.dflt.k, .int .i64 a.dflt.n, .str a.dflt.s]
theorem flatCol (a : Col) : ∀ x ∈ encCol a, Flat x := by
  intro x hx
  simp only [encCol, List.mem_cons, List.not_mem_nil, or_false] at hx
  rcases hx with rfl | rfl | rfl | rfl | rfl | rfl <;> constructor
def bCol (N : Nat) (a : Col) : Prop := a.name.length ≤ N ∧ bV N a.dflt
def zCol (a : Col) : Int → Int := chain [(fun l => l - a.name.length), (szV a.dflt)]
theorem zCol_steps (a : Col) : Steps [(fun l => l - a.name.length), (szV a.dflt)] := (.cons (step_str _) (.cons (fun l h => szV_le _ l h) .nil))
theorem zCol_le (a : Col) (l : Int) (h : 0 ≤ l) : zCol a l ≤ l := chain_le (zCol_steps a) l h
theorem bCol_of (a : Col) (l : Int) (N : Nat) (h0 : 0 ≤ l) (h : 0 ≤ zCol a l) (hl : l ≤ N) : bCol N a := by
  have hh := chain_all (zCol_steps a) l h0 h
  obtain ⟨q0, u0, v0, w0⟩ := hh (fun l => l - a.name.length) (by simp)
  obtain ⟨q1, u1, v1, w1⟩ := hh (szV a.dflt) (by simp)
  exact ⟨(by (try simp only at w0); omega), (bV_of w1 (by omega))⟩
theorem szCol_ok (a : Col) (left : Int) (hb : bCol 1125899906842624 a) (h0 : 0 ≤ left) (h1 : left ≤ 34359738368) : Pure Tryz.prog 110 [.agg (encCol a), .c (.int .i64 left)] (.c (.int .i64 (zCol a left))) := by
  refine Pure.run mixed c_laws_szCol_ok (Nat.le_of_ble_eq_true rfl) fun σ hS hA => ?_
  clear hS hA
  have w1 : 0 ≤ left → IntKind.i64.wrap (left - a.name.length) = left - a.name.length := fun h => wrap64 (by have : a.name.length ≤ 1125899906842624 := hb.1; omega) (by omega)
  repeat' first | apply Go.seq | apply Go.skip | apply Go.region | apply Go.nil | apply Go.block | apply Go.blk | apply Go.draw | apply Go.segs | apply Go.qs | apply Qg.nil | (apply Go.exit; exact rfl) | (apply Go.var2; (first | exact Nat.le_add_right _ _ | assumption); (iterate 4 decide); iterate 5 exact rfl) | (apply Go.var; (first | exact Nat.le_add_right _ _ | assumption); decide; iterate 4 exact rfl) | (apply Go.op; exact rfl; (first | exact aop_alloc | exact aop_new rfl rfl | exact aop_mksl rfl | exact aop_lenM rfl | exact rfl | exact aop_load rfl rfl rfl (Nat.le_of_ble_eq_true rfl) rfl | exact aop_store rfl rfl rfl rfl rfl rfl (Nat.le_of_ble_eq_true rfl))) | (apply Go.sop; exact rfl; (first | exact aop_lenM rfl | exact rfl)) | (apply Go.no; exact rfl) | (apply Go.sno; exact rfl) | (apply Qg.op; exact rfl; (first | exact aop_lenM rfl | exact rfl)) | (apply Qg.no; exact rfl) | (apply Go.cond true; exact rfl) | (apply Go.cond false; exact rfl) | (exfalso; omega) | ((first | (apply Go.iteD; exact rfl) | (apply Go.iteE; exact rfl) | (apply Go.iteN; exact rfl) | (apply Go.guardD; exact rfl) | (apply Go.guardE; exact rfl) | (apply Go.guardN; exact rfl) | (apply Go.sguardD; exact rfl) | (apply Go.sguardE; exact rfl) | (apply Go.sguardN; exact rfl) | (apply Qg.guardD; exact rfl) | (apply Qg.guardE; exact rfl) | (apply Qg.guardN; exact rfl)) <;> intro _) | (((first | (apply Go.guard; exact rfl) | (apply Go.sguard; exact rfl) | (apply Qg.guard; exact rfl) | (apply Go.ite; exact rfl)); fail_if_success (intro h; exact absurd h (by decide)); rotate_left; fail_if_success (intro h; exact absurd h (by decide)); rotate_right) <;> intro _)
  · refine .ret rfl (.int ?_)
    rename_i h
    have v1 := w1 (by omega)
    simp only [v1] at h
    simp only [zCol, chain, if_pos h]
  rename_i g1
  have v1 := w1 (by omega)
  simp only [v1] at g1 ⊢
  obtain ⟨l1, e1⟩ : ∃ q, left - (a.name.length : Int) = q := ⟨_, rfl⟩
  rw [e1] at g1 ⊢
  refine .pcall rfl rfl rfl (szVal_ok a.dflt l1 hb.2 (by omega) (by omega)) ?_
  have y2 := szV_le a.dflt l1 (by omega)
  generalize e2 : szV a.dflt l1 = l2 at y2 ⊢
  repeat' first | apply Go.seq | apply Go.skip | apply Go.region | apply Go.nil | apply Go.block | apply Go.blk | apply Go.draw | apply Go.segs | apply Go.qs | apply Qg.nil | (apply Go.exit; exact rfl) | (apply Go.var2; (first | exact Nat.le_add_right _ _ | assumption); (iterate 4 decide); iterate 5 exact rfl) | (apply Go.var; (first | exact Nat.le_add_right _ _ | assumption); decide; iterate 4 exact rfl) | (apply Go.op; exact rfl; (first | exact aop_alloc | exact aop_new rfl rfl | exact aop_mksl rfl | exact aop_lenM rfl | exact rfl | exact aop_load rfl rfl rfl (Nat.le_of_ble_eq_true rfl) rfl | exact aop_store rfl rfl rfl rfl rfl rfl (Nat.le_of_ble_eq_true rfl))) | (apply Go.sop; exact rfl; (first | exact aop_lenM rfl | exact rfl)) | (apply Go.no; exact rfl) | (apply Go.sno; exact rfl) | (apply Qg.op; exact rfl; (first | exact aop_lenM rfl | exact rfl)) | (apply Qg.no; exact rfl) | (apply Go.cond true; exact rfl) | (apply Go.cond false; exact rfl) | (exfalso; omega) | ((first | (apply Go.iteD; exact rfl) | (apply Go.iteE; exact rfl) | (apply Go.iteN; exact rfl) | (apply Go.guardD; exact rfl) | (apply Go.guardE; exact rfl) | (apply Go.guardN; exact rfl) | (apply Go.sguardD; exact rfl) | (apply Go.sguardE; exact rfl) | (apply Go.sguardN; exact rfl) | (apply Qg.guardD; exact rfl) | (apply Qg.guardE; exact rfl) | (apply Qg.guardN; exact rfl)) <;> intro _) | (((first | (apply Go.guard; exact rfl) | (apply Go.sguard; exact rfl) | (apply Qg.guard; exact rfl) | (apply Go.ite; exact rfl)); fail_if_success (intro h; exact absurd h (by decide)); rotate_left; fail_if_success (intro h; exact absurd h (by decide)); rotate_right) <;> intro _)
  · refine .ret rfl (.int ?_)
    rename_i h
    simp only [zCol, chain, e1, if_neg g1, e2, if_pos h]
  rename_i g2
  refine .ret rfl (.int ?_)
  simp only [zCol, chain, e1, if_neg g1, e2, if_neg g2]
theorem szColS_ok (xs : List Col) (left : Int) (hx : xs.length ≤ 1125899906842624) (hv : ∀ e ∈ xs, bCol 1125899906842624 e) (h0 : 0 ≤ left) (h1 : left ≤ 34359738368) : Pure Tryz.prog 63 [.c (.fz (xs.map encCol)), .c (.int .i64 left)] (.c (.int .i64 (szL zCol xs left))) :=
  szS_ok mixed c_laws_szColS_ok encCol zCol xs left hx h0 h1 (fun _ => rfl) zCol_le fun a ha l h2 h3 => szCol_ok a l (hv a ha) h2 (by omega)
theorem toCol_ok (a : Col) (hb : bCol 34359738368 a) (σ : Store) : Ok Tryz.prog 120 [.agg (encCol a)] σ (NewL σ (encCol a)) := by
  refine Ok.run mixed c_laws_toCol_ok (Nat.le_of_ble_eq_true rfl) fun hS hA => ?_
  clear hS hA
  repeat' first | apply Go.seq | apply Go.skip | apply Go.region | apply Go.nil | apply Go.block | apply Go.blk | apply Go.draw | apply Go.segs | apply Go.qs | apply Qg.nil | (apply Go.exit; exact rfl) | (apply Go.var2; (first | exact Nat.le_add_right _ _ | assumption); (iterate 4 decide); iterate 5 exact rfl) | (apply Go.var; (first | exact Nat.le_add_right _ _ | assumption); decide; iterate 4 exact rfl) | (apply Go.op; exact rfl; (first | exact aop_alloc | exact aop_new rfl rfl | exact aop_mksl rfl | exact aop_lenM rfl | exact rfl | exact aop_load rfl rfl rfl (Nat.le_of_ble_eq_true rfl) rfl | exact aop_store rfl rfl rfl rfl rfl rfl (Nat.le_of_ble_eq_true rfl))) | (apply Go.sop; exact rfl; (first | exact aop_lenM rfl | exact rfl)) | (apply Go.no; exact rfl) | (apply Go.sno; exact rfl) | (apply Qg.op; exact rfl; (first | exact aop_lenM rfl | exact rfl)) | (apply Qg.no; exact rfl) | (apply Go.cond true; exact rfl) | (apply Go.cond false; exact rfl) | ((first | (apply Go.pcall; iterate 3 exact rfl) | (apply Go.spcall; iterate 3 exact rfl) | (apply Qg.pcall; iterate 3 exact rfl)); exact NewL.pure (toVal_ok a.dflt)) | (exfalso; omega) | ((first | (apply Go.iteD; exact rfl) | (apply Go.iteE; exact rfl) | (apply Go.iteN; exact rfl) | (apply Go.guardD; exact rfl) | (apply Go.guardE; exact rfl) | (apply Go.guardN; exact rfl) | (apply Go.sguardD; exact rfl) | (apply Go.sguardE; exact rfl) | (apply Go.sguardN; exact rfl) | (apply Qg.guardD; exact rfl) | (apply Qg.guardE; exact rfl) | (apply Qg.guardN; exact rfl)) <;> intro _) | (((first | (apply Go.guard; exact rfl) | (apply Go.sguard; exact rfl) | (apply Qg.guard; exact rfl) | (apply Go.ite; exact rfl)); fail_if_success (intro h; exact absurd h (by decide)); rotate_left; fail_if_success (intro h; exact absurd h (by decide)); rotate_right) <;> intro _)
  refine .ret (retv_m rfl rfl rfl (Nat.le_of_ble_eq_true rfl) rfl) ⟨encCol a, _, rfl, rfl, ?_, .flat (flatCol a)⟩
  show TidyL σ.next [(0, [encCol a]), (0, [encCol a])]
  exact .one (fun x hx => .flat (flatCol a x hx)) (.one (fun x hx => .flat (flatCol a x hx)) .nil)
theorem toColS_ok (xs : List Col) (hx : xs.length ≤ 34359738368) (hv : ∀ e ∈ xs, bCol 34359738368 e) (σ : Store) : Ok Tryz.prog 74 [.c (.fz (xs.map encCol))] σ (New σ (.fz (xs.map encCol))) :=
  toS_ok mixed c_laws_toColS_ok encCol xs hx (by decide) rfl (fun _ => rfl) (by intro x hx; simp only [List.mem_cons, List.not_mem_nil, or_false] at hx; rcases hx with rfl | rfl | rfl | rfl | rfl | rfl <;> constructor) (fun a ha σ => toCol_ok a (hv a ha) σ) σ
theorem Col_beq (a b : Col) : (a == b) = (a.name == b.name && a.kind == b.kind && a.notNull == b.notNull && a.dflt == b.dflt) := by
  obtain ⟨a0, a1, a2, a3⟩ := a
  obtain ⟨b0, b1, b2, b3⟩ := b
  rw [Bool.eq_iff_iff]
  simp [and_assoc]
theorem eqCol_ok (a b : Col) (hb : bCol 34359738368 a) : Pure Tryz.prog 140 [.agg (encCol a), .agg (encCol b)] (.c (.bool (a == b))) := by
  refine Pure.run mixed c_laws_eqCol_ok (Nat.le_of_ble_eq_true rfl) fun σ hS hA => ?_
  clear hS hA
  have hq := Col_beq a b
  repeat' first | apply Go.seq | apply Go.skip | apply Go.region | apply Go.nil | apply Go.block | apply Go.blk | apply Go.draw | apply Go.segs | apply Go.qs | apply Qg.nil | (apply Go.exit; exact rfl) | (apply Go.var2; (first | exact Nat.le_add_right _ _ | assumption); (iterate 4 decide); iterate 5 exact rfl) | (apply Go.var; (first | exact Nat.le_add_right _ _ | assumption); decide; iterate 4 exact rfl) | (apply Go.op; exact rfl; (first | exact aop_alloc | exact aop_new rfl rfl | exact aop_mksl rfl | exact aop_lenM rfl | exact rfl | exact aop_load rfl rfl rfl (Nat.le_of_ble_eq_true rfl) rfl | exact aop_store rfl rfl rfl rfl rfl rfl (Nat.le_of_ble_eq_true rfl))) | (apply Go.sop; exact rfl; (first | exact aop_lenM rfl | exact rfl)) | (apply Go.no; exact rfl) | (apply Go.sno; exact rfl) | (apply Qg.op; exact rfl; (first | exact aop_lenM rfl | exact rfl)) | (apply Qg.no; exact rfl) | (apply Go.cond true; exact rfl) | (apply Go.cond false; exact rfl) | ((first | (apply Go.pcallB; iterate 3 exact rfl) | (apply Go.spcallB; iterate 3 exact rfl) | (apply Qg.pcallB; iterate 3 exact rfl)); exact eqVal_ok a.dflt b.dflt; intro _ _) | (exfalso; omega) | ((first | (apply Go.iteD; exact rfl) | (apply Go.iteE; exact rfl) | (apply Go.iteN; exact rfl) | (apply Go.guardD; exact rfl) | (apply Go.guardE; exact rfl) | (apply Go.guardN; exact rfl) | (apply Go.sguardD; exact rfl) | (apply Go.sguardE; exact rfl) | (apply Go.sguardN; exact rfl) | (apply Qg.guardD; exact rfl) | (apply Qg.guardE; exact rfl) | (apply Qg.guardN; exact rfl)) <;> intro _) | (((first | (apply Go.guard; exact rfl) | (apply Go.sguard; exact rfl) | (apply Qg.guard; exact rfl) | (apply Go.ite; exact rfl)); fail_if_success (intro h; exact absurd h (by decide)); rotate_left; fail_if_success (intro h; exact absurd h (by decide)); rotate_right) <;> intro _)
  all_goals refine .ret rfl (.bool ?_)
  all_goals rw [hq]
  all_goals clear hq hb
  all_goals simp_all
theorem eqColS_ok (xs ys : List Col) (hx : xs.length ≤ 34359738368) (hv : ∀ e ∈ xs, bCol 34359738368 e) : Pure Tryz.prog 92 [.c (.fz (xs.map encCol)), .c (.fz (ys.map encCol))] (.c (.bool (xs == ys))) :=
  eqS_ok mixed c_laws_eqColS_ok encCol xs ys hx (fun _ => rfl) fun a ha b => eqCol_ok a b (hv a ha)
end Go.Proofs.YtpjfihdlbdogpaaGreat.Am

/- The laws' helpers on types, printed by a program: Table, Term, Select, Trigger. -/
set_option linter.unusedVariables false
set_option linter.unusedSimpArgs false
namespace Go.Proofs.YtpjfihdlbdogpaaGreat.Am
structure Table where
  name : List UInt8
  cols : List Col
  key : List Int
  uniques : List Uniq
  checks : List Chk
  fks : List Fk
  deriving DecidableEq
def encTable (a : Table) : List Ce := [.str a.name, .fz (a.cols.map encCol), .fz (a.key.map encI), .fz (a.uniques.map encUniq), .fz (a.checks.map encChk), .fz (a.fks.map encFk)]
def bTable (N : Nat) (a : Table) : Prop := a.name.length ≤ N ∧ (a.cols.length ≤ N ∧ ∀ x ∈ a.cols, bCol N x) ∧ a.key.length ≤ N ∧ (a.uniques.length ≤ N ∧ ∀ x ∈ a.uniques, bUniq N x) ∧ (a.checks.length ≤ N ∧ ∀ x ∈ a.checks, bChk N x) ∧ (a.fks.length ≤ N ∧ ∀ x ∈ a.fks, bFk N x)
def zTable (a : Table) : Int → Int := chain [(fun l => l - a.name.length), (szL zCol a.cols), (zI a.key), (szL zUniq a.uniques), (szL zChk a.checks), (szL zFk a.fks)]
theorem zTable_steps (a : Table) : Steps [(fun l => l - a.name.length), (szL zCol a.cols), (zI a.key), (szL zUniq a.uniques), (szL zChk a.checks), (szL zFk a.fks)] := (.cons (step_str _) (.cons (fun l h => szL_le zCol_le _ l h) (.cons (step_ints _) (.cons (fun l h => szL_le zUniq_le _ l h) (.cons (fun l h => szL_le zChk_le _ l h) (.cons (fun l h => szL_le zFk_le _ l h) .nil))))))
theorem zTable_le (a : Table) (l : Int) (h : 0 ≤ l) : zTable a l ≤ l := chain_le (zTable_steps a) l h
theorem bTable_of (a : Table) (l : Int) (N : Nat) (h0 : 0 ≤ l) (h : 0 ≤ zTable a l) (hl : l ≤ N) : bTable N a := by
  have hh := chain_all (zTable_steps a) l h0 h
  obtain ⟨q0, u0, v0, w0⟩ := hh (fun l => l - a.name.length) (by simp)
  obtain ⟨q1, u1, v1, w1⟩ := hh (szL zCol a.cols) (by simp)
  obtain ⟨q2, u2, v2, w2⟩ := hh (zI a.key) (by simp)
  obtain ⟨q3, u3, v3, w3⟩ := hh (szL zUniq a.uniques) (by simp)
  obtain ⟨q4, u4, v4, w4⟩ := hh (szL zChk a.checks) (by simp)
  obtain ⟨q5, u5, v5, w5⟩ := hh (szL zFk a.fks) (by simp)
  exact ⟨(by (try simp only at w0); omega), (list_of zCol_le bCol_of u1 w1 (by omega)), (ints_of w2 (by omega)), (list_of zUniq_le bUniq_of u3 w3 (by omega)), (list_of zChk_le bChk_of u4 w4 (by omega)), (list_of zFk_le bFk_of u5 w5 (by omega))⟩
theorem szTable_ok (a : Table) (left : Int) (hb : bTable 1125899906842624 a) (h0 : 0 ≤ left) (h1 : left ≤ 34359738368) : Pure Tryz.prog 24 [.agg (encTable a), .c (.int .i64 left)] (.c (.int .i64 (zTable a left))) := by
  refine Pure.run mixed c_laws_szTable_ok (Nat.le_of_ble_eq_true rfl) fun σ hS hA => ?_
  clear hS hA
  have w1 : 0 ≤ left → IntKind.i64.wrap (left - a.name.length) = left - a.name.length := fun h => wrap64 (by have : a.name.length ≤ 1125899906842624 := hb.1; omega) (by omega)
  repeat' first | apply Go.seq | apply Go.skip | apply Go.region | apply Go.nil | apply Go.block | apply Go.blk | apply Go.draw | apply Go.segs | apply Go.qs | apply Qg.nil | (apply Go.exit; exact rfl) | (apply Go.var2; (first | exact Nat.le_add_right _ _ | assumption); (iterate 4 decide); iterate 5 exact rfl) | (apply Go.var; (first | exact Nat.le_add_right _ _ | assumption); decide; iterate 4 exact rfl) | (apply Go.op; exact rfl; (first | exact aop_alloc | exact aop_new rfl rfl | exact aop_mksl rfl | exact aop_lenM rfl | exact rfl | exact aop_load rfl rfl rfl (Nat.le_of_ble_eq_true rfl) rfl | exact aop_store rfl rfl rfl rfl rfl rfl (Nat.le_of_ble_eq_true rfl))) | (apply Go.sop; exact rfl; (first | exact aop_lenM rfl | exact rfl)) | (apply Go.no; exact rfl) | (apply Go.sno; exact rfl) | (apply Qg.op; exact rfl; (first | exact aop_lenM rfl | exact rfl)) | (apply Qg.no; exact rfl) | (apply Go.cond true; exact rfl) | (apply Go.cond false; exact rfl) | (exfalso; omega) | ((first | (apply Go.iteD; exact rfl) | (apply Go.iteE; exact rfl) | (apply Go.iteN; exact rfl) | (apply Go.guardD; exact rfl) | (apply Go.guardE; exact rfl) | (apply Go.guardN; exact rfl) | (apply Go.sguardD; exact rfl) | (apply Go.sguardE; exact rfl) | (apply Go.sguardN; exact rfl) | (apply Qg.guardD; exact rfl) | (apply Qg.guardE; exact rfl) | (apply Qg.guardN; exact rfl)) <;> intro _) | (((first | (apply Go.guard; exact rfl) | (apply Go.sguard; exact rfl) | (apply Qg.guard; exact rfl) | (apply Go.ite; exact rfl)); fail_if_success (intro h; exact absurd h (by decide)); rotate_left; fail_if_success (intro h; exact absurd h (by decide)); rotate_right) <;> intro _)
  · refine .ret rfl (.int ?_)
    rename_i h
    have v1 := w1 (by omega)
    simp only [v1] at h
    simp only [zTable, chain, if_pos h]
  rename_i g1
  have v1 := w1 (by omega)
  simp only [v1] at g1 ⊢
  obtain ⟨l1, e1⟩ : ∃ q, left - (a.name.length : Int) = q := ⟨_, rfl⟩
  rw [e1] at g1 ⊢
  refine .pcall rfl rfl rfl (szColS_ok a.cols l1 hb.2.1.1 hb.2.1.2 (by omega) (by omega)) ?_
  have y2 := szL_le zCol_le a.cols l1 (by omega)
  generalize e2 : szL zCol a.cols l1 = l2 at y2 ⊢
  repeat' first | apply Go.seq | apply Go.skip | apply Go.region | apply Go.nil | apply Go.block | apply Go.blk | apply Go.draw | apply Go.segs | apply Go.qs | apply Qg.nil | (apply Go.exit; exact rfl) | (apply Go.var2; (first | exact Nat.le_add_right _ _ | assumption); (iterate 4 decide); iterate 5 exact rfl) | (apply Go.var; (first | exact Nat.le_add_right _ _ | assumption); decide; iterate 4 exact rfl) | (apply Go.op; exact rfl; (first | exact aop_alloc | exact aop_new rfl rfl | exact aop_mksl rfl | exact aop_lenM rfl | exact rfl | exact aop_load rfl rfl rfl (Nat.le_of_ble_eq_true rfl) rfl | exact aop_store rfl rfl rfl rfl rfl rfl (Nat.le_of_ble_eq_true rfl))) | (apply Go.sop; exact rfl; (first | exact aop_lenM rfl | exact rfl)) | (apply Go.no; exact rfl) | (apply Go.sno; exact rfl) | (apply Qg.op; exact rfl; (first | exact aop_lenM rfl | exact rfl)) | (apply Qg.no; exact rfl) | (apply Go.cond true; exact rfl) | (apply Go.cond false; exact rfl) | (exfalso; omega) | ((first | (apply Go.iteD; exact rfl) | (apply Go.iteE; exact rfl) | (apply Go.iteN; exact rfl) | (apply Go.guardD; exact rfl) | (apply Go.guardE; exact rfl) | (apply Go.guardN; exact rfl) | (apply Go.sguardD; exact rfl) | (apply Go.sguardE; exact rfl) | (apply Go.sguardN; exact rfl) | (apply Qg.guardD; exact rfl) | (apply Qg.guardE; exact rfl) | (apply Qg.guardN; exact rfl)) <;> intro _) | (((first | (apply Go.guard; exact rfl) | (apply Go.sguard; exact rfl) | (apply Qg.guard; exact rfl) | (apply Go.ite; exact rfl)); fail_if_success (intro h; exact absurd h (by decide)); rotate_left; fail_if_success (intro h; exact absurd h (by decide)); rotate_right) <;> intro _)
  · refine .ret rfl (.int ?_)
    rename_i h
    simp only [zTable, chain, e1, if_neg g1, e2, if_pos h]
  rename_i g2
  refine .pcall rfl rfl rfl (szInt64S_ok a.key l2 hb.2.2.1 (by omega) (by omega)) ?_
  have y3 := step_ints a.key l2 (by omega)
  generalize e3 : zI a.key l2 = l3 at y3 ⊢
  repeat' first | apply Go.seq | apply Go.skip | apply Go.region | apply Go.nil | apply Go.block | apply Go.blk | apply Go.draw | apply Go.segs | apply Go.qs | apply Qg.nil | (apply Go.exit; exact rfl) | (apply Go.var2; (first | exact Nat.le_add_right _ _ | assumption); (iterate 4 decide); iterate 5 exact rfl) | (apply Go.var; (first | exact Nat.le_add_right _ _ | assumption); decide; iterate 4 exact rfl) | (apply Go.op; exact rfl; (first | exact aop_alloc | exact aop_new rfl rfl | exact aop_mksl rfl | exact aop_lenM rfl | exact rfl | exact aop_load rfl rfl rfl (Nat.le_of_ble_eq_true rfl) rfl | exact aop_store rfl rfl rfl rfl rfl rfl (Nat.le_of_ble_eq_true rfl))) | (apply Go.sop; exact rfl; (first | exact aop_lenM rfl | exact rfl)) | (apply Go.no; exact rfl) | (apply Go.sno; exact rfl) | (apply Qg.op; exact rfl; (first | exact aop_lenM rfl | exact rfl)) | (apply Qg.no; exact rfl) | (apply Go.cond true; exact rfl) | (apply Go.cond false; exact rfl) | (exfalso; omega) | ((first | (apply Go.iteD; exact rfl) | (apply Go.iteE; exact rfl) | (apply Go.iteN; exact rfl) | (apply Go.guardD; exact rfl) | (apply Go.guardE; exact rfl) | (apply Go.guardN; exact rfl) | (apply Go.sguardD; exact rfl) | (apply Go.sguardE; exact rfl) | (apply Go.sguardN; exact rfl) | (apply Qg.guardD; exact rfl) | (apply Qg.guardE; exact rfl) | (apply Qg.guardN; exact rfl)) <;> intro _) | (((first | (apply Go.guard; exact rfl) | (apply Go.sguard; exact rfl) | (apply Qg.guard; exact rfl) | (apply Go.ite; exact rfl)); fail_if_success (intro h; exact absurd h (by decide)); rotate_left; fail_if_success (intro h; exact absurd h (by decide)); rotate_right) <;> intro _)
  · refine .ret rfl (.int ?_)
    rename_i h
    simp only [zTable, chain, e1, if_neg g1, e2, if_neg g2, e3, if_pos h]
  rename_i g3
  refine .pcall rfl rfl rfl (szUniqS_ok a.uniques l3 hb.2.2.2.1.1 hb.2.2.2.1.2 (by omega) (by omega)) ?_
  have y4 := szL_le zUniq_le a.uniques l3 (by omega)
  generalize e4 : szL zUniq a.uniques l3 = l4 at y4 ⊢
  repeat' first | apply Go.seq | apply Go.skip | apply Go.region | apply Go.nil | apply Go.block | apply Go.blk | apply Go.draw | apply Go.segs | apply Go.qs | apply Qg.nil | (apply Go.exit; exact rfl) | (apply Go.var2; (first | exact Nat.le_add_right _ _ | assumption); (iterate 4 decide); iterate 5 exact rfl) | (apply Go.var; (first | exact Nat.le_add_right _ _ | assumption); decide; iterate 4 exact rfl) | (apply Go.op; exact rfl; (first | exact aop_alloc | exact aop_new rfl rfl | exact aop_mksl rfl | exact aop_lenM rfl | exact rfl | exact aop_load rfl rfl rfl (Nat.le_of_ble_eq_true rfl) rfl | exact aop_store rfl rfl rfl rfl rfl rfl (Nat.le_of_ble_eq_true rfl))) | (apply Go.sop; exact rfl; (first | exact aop_lenM rfl | exact rfl)) | (apply Go.no; exact rfl) | (apply Go.sno; exact rfl) | (apply Qg.op; exact rfl; (first | exact aop_lenM rfl | exact rfl)) | (apply Qg.no; exact rfl) | (apply Go.cond true; exact rfl) | (apply Go.cond false; exact rfl) | (exfalso; omega) | ((first | (apply Go.iteD; exact rfl) | (apply Go.iteE; exact rfl) | (apply Go.iteN; exact rfl) | (apply Go.guardD; exact rfl) | (apply Go.guardE; exact rfl) | (apply Go.guardN; exact rfl) | (apply Go.sguardD; exact rfl) | (apply Go.sguardE; exact rfl) | (apply Go.sguardN; exact rfl) | (apply Qg.guardD; exact rfl) | (apply Qg.guardE; exact rfl) | (apply Qg.guardN; exact rfl)) <;> intro _) | (((first | (apply Go.guard; exact rfl) | (apply Go.sguard; exact rfl) | (apply Qg.guard; exact rfl) | (apply Go.ite; exact rfl)); fail_if_success (intro h; exact absurd h (by decide)); rotate_left; fail_if_success (intro h; exact absurd h (by decide)); rotate_right) <;> intro _)
  · refine .ret rfl (.int ?_)
    rename_i h
    simp only [zTable, chain, e1, if_neg g1, e2, if_neg g2, e3, if_neg g3, e4, if_pos h]
  rename_i g4
  refine .pcall rfl rfl rfl (szChkS_ok a.checks l4 hb.2.2.2.2.1.1 hb.2.2.2.2.1.2 (by omega) (by omega)) ?_
  have y5 := szL_le zChk_le a.checks l4 (by omega)
  generalize e5 : szL zChk a.checks l4 = l5 at y5 ⊢
  repeat' first | apply Go.seq | apply Go.skip | apply Go.region | apply Go.nil | apply Go.block | apply Go.blk | apply Go.draw | apply Go.segs | apply Go.qs | apply Qg.nil | (apply Go.exit; exact rfl) | (apply Go.var2; (first | exact Nat.le_add_right _ _ | assumption); (iterate 4 decide); iterate 5 exact rfl) | (apply Go.var; (first | exact Nat.le_add_right _ _ | assumption); decide; iterate 4 exact rfl) | (apply Go.op; exact rfl; (first | exact aop_alloc | exact aop_new rfl rfl | exact aop_mksl rfl | exact aop_lenM rfl | exact rfl | exact aop_load rfl rfl rfl (Nat.le_of_ble_eq_true rfl) rfl | exact aop_store rfl rfl rfl rfl rfl rfl (Nat.le_of_ble_eq_true rfl))) | (apply Go.sop; exact rfl; (first | exact aop_lenM rfl | exact rfl)) | (apply Go.no; exact rfl) | (apply Go.sno; exact rfl) | (apply Qg.op; exact rfl; (first | exact aop_lenM rfl | exact rfl)) | (apply Qg.no; exact rfl) | (apply Go.cond true; exact rfl) | (apply Go.cond false; exact rfl) | (exfalso; omega) | ((first | (apply Go.iteD; exact rfl) | (apply Go.iteE; exact rfl) | (apply Go.iteN; exact rfl) | (apply Go.guardD; exact rfl) | (apply Go.guardE; exact rfl) | (apply Go.guardN; exact rfl) | (apply Go.sguardD; exact rfl) | (apply Go.sguardE; exact rfl) | (apply Go.sguardN; exact rfl) | (apply Qg.guardD; exact rfl) | (apply Qg.guardE; exact rfl) | (apply Qg.guardN; exact rfl)) <;> intro _) | (((first | (apply Go.guard; exact rfl) | (apply Go.sguard; exact rfl) | (apply Qg.guard; exact rfl) | (apply Go.ite; exact rfl)); fail_if_success (intro h; exact absurd h (by decide)); rotate_left; fail_if_success (intro h; exact absurd h (by decide)); rotate_right) <;> intro _)
  · refine .ret rfl (.int ?_)
    rename_i h
    simp only [zTable, chain, e1, if_neg g1, e2, if_neg g2, e3, if_neg g3, e4, if_neg g4, e5, if_pos h]
  rename_i g5
  refine .pcall rfl rfl rfl (szFkS_ok a.fks l5 hb.2.2.2.2.2.1 hb.2.2.2.2.2.2 (by omega) (by omega)) ?_
  have y6 := szL_le zFk_le a.fks l5 (by omega)
  generalize e6 : szL zFk a.fks l5 = l6 at y6 ⊢
  repeat' first | apply Go.seq | apply Go.skip | apply Go.region | apply Go.nil | apply Go.block | apply Go.blk | apply Go.draw | apply Go.segs | apply Go.qs | apply Qg.nil | (apply Go.exit; exact rfl) | (apply Go.var2; (first | exact Nat.le_add_right _ _ | assumption); (iterate 4 decide); iterate 5 exact rfl) | (apply Go.var; (first | exact Nat.le_add_right _ _ | assumption); decide; iterate 4 exact rfl) | (apply Go.op; exact rfl; (first | exact aop_alloc | exact aop_new rfl rfl | exact aop_mksl rfl | exact aop_lenM rfl | exact rfl | exact aop_load rfl rfl rfl (Nat.le_of_ble_eq_true rfl) rfl | exact aop_store rfl rfl rfl rfl rfl rfl (Nat.le_of_ble_eq_true rfl))) | (apply Go.sop; exact rfl; (first | exact aop_lenM rfl | exact rfl)) | (apply Go.no; exact rfl) | (apply Go.sno; exact rfl) | (apply Qg.op; exact rfl; (first | exact aop_lenM rfl | exact rfl)) | (apply Qg.no; exact rfl) | (apply Go.cond true; exact rfl) | (apply Go.cond false; exact rfl) | (exfalso; omega) | ((first | (apply Go.iteD; exact rfl) | (apply Go.iteE; exact rfl) | (apply Go.iteN; exact rfl) | (apply Go.guardD; exact rfl) | (apply Go.guardE; exact rfl) | (apply Go.guardN; exact rfl) | (apply Go.sguardD; exact rfl) | (apply Go.sguardE; exact rfl) | (apply Go.sguardN; exact rfl) | (apply Qg.guardD; exact rfl) | (apply Qg.guardE; exact rfl) | (apply Qg.guardN; exact rfl)) <;> intro _) | (((first | (apply Go.guard; exact rfl) | (apply Go.sguard; exact rfl) | (apply Qg.guard; exact rfl) | (apply Go.ite; exact rfl)); fail_if_success (intro h; exact absurd h (by decide)); rotate_left; fail_if_success (intro h; exact absurd h (by decide)); rotate_right) <;> intro _)
  · refine .ret rfl (.int ?_)
    rename_i h
    simp only [zTable, chain, e1, if_neg g1, e2, if_neg g2, e3, if_neg g3, e4, if_neg g4, e5, if_neg g5, e6, if_pos h]
  rename_i g6
  refine .ret rfl (.int ?_)
  simp only [zTable, chain, e1, if_neg g1, e2, if_neg g2, e3, if_neg g3, e4, if_neg g4, e5, if_neg g5, e6, if_neg g6]
theorem szTableS_ok (xs : List Table) (left : Int) (hx : xs.length ≤ 1125899906842624) (hv : ∀ e ∈ xs, bTable 1125899906842624 e) (h0 : 0 ≤ left) (h1 : left ≤ 34359738368) : Pure Tryz.prog 6 [.c (.fz (xs.map encTable)), .c (.int .i64 left)] (.c (.int .i64 (szL zTable xs left))) :=
  szS_ok mixed c_laws_szTableS_ok encTable zTable xs left hx h0 h1 (fun _ => rfl) zTable_le fun a ha l h2 h3 => szTable_ok a l (hv a ha) h2 (by omega)
theorem toTable_ok (a : Table) (hb : bTable 34359738368 a) (σ : Store) : Ok Tryz.prog 30 [.agg (encTable a)] σ (NewL σ (encTable a)) := by
  refine Ok.run mixed c_laws_toTable_ok (Nat.le_of_ble_eq_true rfl) fun hS hA => ?_
  clear hS hA
  repeat' first | apply Go.seq | apply Go.skip | apply Go.region | apply Go.nil | apply Go.block | apply Go.blk | apply Go.draw | apply Go.segs | apply Go.qs | apply Qg.nil | (apply Go.exit; exact rfl) | (apply Go.var2; (first | exact Nat.le_add_right _ _ | assumption); (iterate 4 decide); iterate 5 exact rfl) | (apply Go.var; (first | exact Nat.le_add_right _ _ | assumption); decide; iterate 4 exact rfl) | (apply Go.op; exact rfl; (first | exact aop_alloc | exact aop_new rfl rfl | exact aop_mksl rfl | exact aop_lenM rfl | exact rfl | exact aop_load rfl rfl rfl (Nat.le_of_ble_eq_true rfl) rfl | exact aop_store rfl rfl rfl rfl rfl rfl (Nat.le_of_ble_eq_true rfl))) | (apply Go.sop; exact rfl; (first | exact aop_lenM rfl | exact rfl)) | (apply Go.no; exact rfl) | (apply Go.sno; exact rfl) | (apply Qg.op; exact rfl; (first | exact aop_lenM rfl | exact rfl)) | (apply Qg.no; exact rfl) | (apply Go.cond true; exact rfl) | (apply Go.cond false; exact rfl) | (exfalso; omega) | ((first | (apply Go.iteD; exact rfl) | (apply Go.iteE; exact rfl) | (apply Go.iteN; exact rfl) | (apply Go.guardD; exact rfl) | (apply Go.guardE; exact rfl) | (apply Go.guardN; exact rfl) | (apply Go.sguardD; exact rfl) | (apply Go.sguardE; exact rfl) | (apply Go.sguardN; exact rfl) | (apply Qg.guardD; exact rfl) | (apply Qg.guardE; exact rfl) | (apply Qg.guardN; exact rfl)) <;> intro _) | (((first | (apply Go.guard; exact rfl) | (apply Go.sguard; exact rfl) | (apply Qg.guard; exact rfl) | (apply Go.ite; exact rfl)); fail_if_success (intro h; exact absurd h (by decide)); rotate_left; fail_if_success (intro h; exact absurd h (by decide)); rotate_right) <;> intro _)
  refine Go.call _ rfl rfl rfl (toColS_ok a.cols hb.2.1.1 hb.2.1.2 _) ?_
  rintro r σ0 ⟨x0, m0, rfl, rfl, t0, h0⟩
  rw [E_E] at h0 ⊢
  have t0 := tidy_up t0
  have h0 := h0.new2
  repeat' first | apply Go.seq | apply Go.skip | apply Go.region | apply Go.nil | apply Go.block | apply Go.blk | apply Go.draw | apply Go.segs | apply Go.qs | apply Qg.nil | (apply Go.exit; exact rfl) | (apply Go.var2; (first | exact Nat.le_add_right _ _ | assumption); (iterate 4 decide); iterate 5 exact rfl) | (apply Go.var; (first | exact Nat.le_add_right _ _ | assumption); decide; iterate 4 exact rfl) | (apply Go.op; exact rfl; (first | exact aop_alloc | exact aop_new rfl rfl | exact aop_mksl rfl | exact aop_lenM rfl | exact rfl | exact aop_load rfl rfl rfl (Nat.le_of_ble_eq_true rfl) rfl | exact aop_store rfl rfl rfl rfl rfl rfl (Nat.le_of_ble_eq_true rfl))) | (apply Go.sop; exact rfl; (first | exact aop_lenM rfl | exact rfl)) | (apply Go.no; exact rfl) | (apply Go.sno; exact rfl) | (apply Qg.op; exact rfl; (first | exact aop_lenM rfl | exact rfl)) | (apply Qg.no; exact rfl) | (apply Go.cond true; exact rfl) | (apply Go.cond false; exact rfl) | (exfalso; omega) | ((first | (apply Go.iteD; exact rfl) | (apply Go.iteE; exact rfl) | (apply Go.iteN; exact rfl) | (apply Go.guardD; exact rfl) | (apply Go.guardE; exact rfl) | (apply Go.guardN; exact rfl) | (apply Go.sguardD; exact rfl) | (apply Go.sguardE; exact rfl) | (apply Go.sguardN; exact rfl) | (apply Qg.guardD; exact rfl) | (apply Qg.guardE; exact rfl) | (apply Qg.guardN; exact rfl)) <;> intro _) | (((first | (apply Go.guard; exact rfl) | (apply Go.sguard; exact rfl) | (apply Qg.guard; exact rfl) | (apply Go.ite; exact rfl)); fail_if_success (intro h; exact absurd h (by decide)); rotate_left; fail_if_success (intro h; exact absurd h (by decide)); rotate_right) <;> intro _)
  refine Go.call _ rfl rfl rfl (toInt64S_ok a.key hb.2.2.1 _) ?_
  rintro r σ1 ⟨x1, m1, rfl, rfl, t1, h1⟩
  rw [E_E] at h1 ⊢
  have t1 := tidy_up t1
  have h1 := h1.new2
  have h0 := Has.more h0 (fun a ha => by have h9 := ha.1; have h8 := ha.2; simp only [List.append_eq, List.length_nil, List.length_append, List.nil_append] at h9 h8 ⊢; omega) m1
  repeat' first | apply Go.seq | apply Go.skip | apply Go.region | apply Go.nil | apply Go.block | apply Go.blk | apply Go.draw | apply Go.segs | apply Go.qs | apply Qg.nil | (apply Go.exit; exact rfl) | (apply Go.var2; (first | exact Nat.le_add_right _ _ | assumption); (iterate 4 decide); iterate 5 exact rfl) | (apply Go.var; (first | exact Nat.le_add_right _ _ | assumption); decide; iterate 4 exact rfl) | (apply Go.op; exact rfl; (first | exact aop_alloc | exact aop_new rfl rfl | exact aop_mksl rfl | exact aop_lenM rfl | exact rfl | exact aop_load rfl rfl rfl (Nat.le_of_ble_eq_true rfl) rfl | exact aop_store rfl rfl rfl rfl rfl rfl (Nat.le_of_ble_eq_true rfl))) | (apply Go.sop; exact rfl; (first | exact aop_lenM rfl | exact rfl)) | (apply Go.no; exact rfl) | (apply Go.sno; exact rfl) | (apply Qg.op; exact rfl; (first | exact aop_lenM rfl | exact rfl)) | (apply Qg.no; exact rfl) | (apply Go.cond true; exact rfl) | (apply Go.cond false; exact rfl) | (exfalso; omega) | ((first | (apply Go.iteD; exact rfl) | (apply Go.iteE; exact rfl) | (apply Go.iteN; exact rfl) | (apply Go.guardD; exact rfl) | (apply Go.guardE; exact rfl) | (apply Go.guardN; exact rfl) | (apply Go.sguardD; exact rfl) | (apply Go.sguardE; exact rfl) | (apply Go.sguardN; exact rfl) | (apply Qg.guardD; exact rfl) | (apply Qg.guardE; exact rfl) | (apply Qg.guardN; exact rfl)) <;> intro _) | (((first | (apply Go.guard; exact rfl) | (apply Go.sguard; exact rfl) | (apply Qg.guard; exact rfl) | (apply Go.ite; exact rfl)); fail_if_success (intro h; exact absurd h (by decide)); rotate_left; fail_if_success (intro h; exact absurd h (by decide)); rotate_right) <;> intro _)
  refine Go.call _ rfl rfl rfl (toUniqS_ok a.uniques hb.2.2.2.1.1 hb.2.2.2.1.2 _) ?_
  rintro r σ2 ⟨x2, m2, rfl, rfl, t2, h2⟩
  rw [E_E] at h2 ⊢
  have t2 := tidy_up t2
  have h2 := h2.new2
  have h0 := Has.more h0 (fun a ha => by have h9 := ha.1; have h8 := ha.2; simp only [List.append_eq, List.length_nil, List.length_append, List.nil_append] at h9 h8 ⊢; omega) m2
  have h1 := Has.more h1 (fun a ha => by have h9 := ha.1; have h8 := ha.2; simp only [List.append_eq, List.length_nil, List.length_append, List.nil_append] at h9 h8 ⊢; omega) m2
  repeat' first | apply Go.seq | apply Go.skip | apply Go.region | apply Go.nil | apply Go.block | apply Go.blk | apply Go.draw | apply Go.segs | apply Go.qs | apply Qg.nil | (apply Go.exit; exact rfl) | (apply Go.var2; (first | exact Nat.le_add_right _ _ | assumption); (iterate 4 decide); iterate 5 exact rfl) | (apply Go.var; (first | exact Nat.le_add_right _ _ | assumption); decide; iterate 4 exact rfl) | (apply Go.op; exact rfl; (first | exact aop_alloc | exact aop_new rfl rfl | exact aop_mksl rfl | exact aop_lenM rfl | exact rfl | exact aop_load rfl rfl rfl (Nat.le_of_ble_eq_true rfl) rfl | exact aop_store rfl rfl rfl rfl rfl rfl (Nat.le_of_ble_eq_true rfl))) | (apply Go.sop; exact rfl; (first | exact aop_lenM rfl | exact rfl)) | (apply Go.no; exact rfl) | (apply Go.sno; exact rfl) | (apply Qg.op; exact rfl; (first | exact aop_lenM rfl | exact rfl)) | (apply Qg.no; exact rfl) | (apply Go.cond true; exact rfl) | (apply Go.cond false; exact rfl) | (exfalso; omega) | ((first | (apply Go.iteD; exact rfl) | (apply Go.iteE; exact rfl) | (apply Go.iteN; exact rfl) | (apply Go.guardD; exact rfl) | (apply Go.guardE; exact rfl) | (apply Go.guardN; exact rfl) | (apply Go.sguardD; exact rfl) | (apply Go.sguardE; exact rfl) | (apply Go.sguardN; exact rfl) | (apply Qg.guardD; exact rfl) | (apply Qg.guardE; exact rfl) | (apply Qg.guardN; exact rfl)) <;> intro _) | (((first | (apply Go.guard; exact rfl) | (apply Go.sguard; exact rfl) | (apply Qg.guard; exact rfl) | (apply Go.ite; exact rfl)); fail_if_success (intro h; exact absurd h (by decide)); rotate_left; fail_if_success (intro h; exact absurd h (by decide)); rotate_right) <;> intro _)
  refine Go.call _ rfl rfl rfl (toChkS_ok a.checks hb.2.2.2.2.1.1 hb.2.2.2.2.1.2 _) ?_
  rintro r σ3 ⟨x3, m3, rfl, rfl, t3, h3⟩
  rw [E_E] at h3 ⊢
  have t3 := tidy_up t3
  have h3 := h3.new2
  have h0 := Has.more h0 (fun a ha => by have h9 := ha.1; have h8 := ha.2; simp only [List.append_eq, List.length_nil, List.length_append, List.nil_append] at h9 h8 ⊢; omega) m3
  have h1 := Has.more h1 (fun a ha => by have h9 := ha.1; have h8 := ha.2; simp only [List.append_eq, List.length_nil, List.length_append, List.nil_append] at h9 h8 ⊢; omega) m3
  have h2 := Has.more h2 (fun a ha => by have h9 := ha.1; have h8 := ha.2; simp only [List.append_eq, List.length_nil, List.length_append, List.nil_append] at h9 h8 ⊢; omega) m3
  repeat' first | apply Go.seq | apply Go.skip | apply Go.region | apply Go.nil | apply Go.block | apply Go.blk | apply Go.draw | apply Go.segs | apply Go.qs | apply Qg.nil | (apply Go.exit; exact rfl) | (apply Go.var2; (first | exact Nat.le_add_right _ _ | assumption); (iterate 4 decide); iterate 5 exact rfl) | (apply Go.var; (first | exact Nat.le_add_right _ _ | assumption); decide; iterate 4 exact rfl) | (apply Go.op; exact rfl; (first | exact aop_alloc | exact aop_new rfl rfl | exact aop_mksl rfl | exact aop_lenM rfl | exact rfl | exact aop_load rfl rfl rfl (Nat.le_of_ble_eq_true rfl) rfl | exact aop_store rfl rfl rfl rfl rfl rfl (Nat.le_of_ble_eq_true rfl))) | (apply Go.sop; exact rfl; (first | exact aop_lenM rfl | exact rfl)) | (apply Go.no; exact rfl) | (apply Go.sno; exact rfl) | (apply Qg.op; exact rfl; (first | exact aop_lenM rfl | exact rfl)) | (apply Qg.no; exact rfl) | (apply Go.cond true; exact rfl) | (apply Go.cond false; exact rfl) | (exfalso; omega) | ((first | (apply Go.iteD; exact rfl) | (apply Go.iteE; exact rfl) | (apply Go.iteN; exact rfl) | (apply Go.guardD; exact rfl) | (apply Go.guardE; exact rfl) | (apply Go.guardN; exact rfl) | (apply Go.sguardD; exact rfl) | (apply Go.sguardE; exact rfl) | (apply Go.sguardN; exact rfl) | (apply Qg.guardD; exact rfl) | (apply Qg.guardE; exact rfl) | (apply Qg.guardN; exact rfl)) <;> intro _) | (((first | (apply Go.guard; exact rfl) | (apply Go.sguard; exact rfl) | (apply Qg.guard; exact rfl) | (apply Go.ite; exact rfl)); fail_if_success (intro h; exact absurd h (by decide)); rotate_left; fail_if_success (intro h; exact absurd h (by decide)); rotate_right) <;> intro _)
  refine Go.call _ rfl rfl rfl (toFkS_ok a.fks hb.2.2.2.2.2.1 hb.2.2.2.2.2.2 _) ?_
  rintro r σ4 ⟨x4, m4, rfl, rfl, t4, h4⟩
  rw [E_E] at h4 ⊢
  have t4 := tidy_up t4
  have h4 := h4.new2
  have h0 := Has.more h0 (fun a ha => by have h9 := ha.1; have h8 := ha.2; simp only [List.append_eq, List.length_nil, List.length_append, List.nil_append] at h9 h8 ⊢; omega) m4
  have h1 := Has.more h1 (fun a ha => by have h9 := ha.1; have h8 := ha.2; simp only [List.append_eq, List.length_nil, List.length_append, List.nil_append] at h9 h8 ⊢; omega) m4
  have h2 := Has.more h2 (fun a ha => by have h9 := ha.1; have h8 := ha.2; simp only [List.append_eq, List.length_nil, List.length_append, List.nil_append] at h9 h8 ⊢; omega) m4
  have h3 := Has.more h3 (fun a ha => by have h9 := ha.1; have h8 := ha.2; simp only [List.append_eq, List.length_nil, List.length_append, List.nil_append] at h9 h8 ⊢; omega) m4
  repeat' first | apply Go.seq | apply Go.skip | apply Go.region | apply Go.nil | apply Go.block | apply Go.blk | apply Go.draw | apply Go.segs | apply Go.qs | apply Qg.nil | (apply Go.exit; exact rfl) | (apply Go.var2; (first | exact Nat.le_add_right _ _ | assumption); (iterate 4 decide); iterate 5 exact rfl) | (apply Go.var; (first | exact Nat.le_add_right _ _ | assumption); decide; iterate 4 exact rfl) | (apply Go.op; exact rfl; (first | exact aop_alloc | exact aop_new rfl rfl | exact aop_mksl rfl | exact aop_lenM rfl | exact rfl | exact aop_load rfl rfl rfl (Nat.le_of_ble_eq_true rfl) rfl | exact aop_store rfl rfl rfl rfl rfl rfl (Nat.le_of_ble_eq_true rfl))) | (apply Go.sop; exact rfl; (first | exact aop_lenM rfl | exact rfl)) | (apply Go.no; exact rfl) | (apply Go.sno; exact rfl) | (apply Qg.op; exact rfl; (first | exact aop_lenM rfl | exact rfl)) | (apply Qg.no; exact rfl) | (apply Go.cond true; exact rfl) | (apply Go.cond false; exact rfl) | (exfalso; omega) | ((first | (apply Go.iteD; exact rfl) | (apply Go.iteE; exact rfl) | (apply Go.iteN; exact rfl) | (apply Go.guardD; exact rfl) | (apply Go.guardE; exact rfl) | (apply Go.guardN; exact rfl) | (apply Go.sguardD; exact rfl) | (apply Go.sguardE; exact rfl) | (apply Go.sguardN; exact rfl) | (apply Qg.guardD; exact rfl) | (apply Qg.guardE; exact rfl) | (apply Qg.guardN; exact rfl)) <;> intro _) | (((first | (apply Go.guard; exact rfl) | (apply Go.sguard; exact rfl) | (apply Qg.guard; exact rfl) | (apply Go.ite; exact rfl)); fail_if_success (intro h; exact absurd h (by decide)); rotate_left; fail_if_success (intro h; exact absurd h (by decide)); rotate_right) <;> intro _)
  have hL : HasL (E σ ((0, [[.str a.name, x0, x1, x2, x3, x4]]) :: (0, [[.str a.name, x0, x1, x2, x3, x4]]) :: ([] ++ m0 ++ m1 ++ m2 ++ m3 ++ m4))) (fun a => σ.next + 2 ≤ a ∧ a < σ.next + 2 + ([] ++ m0 ++ m1 ++ m2 ++ m3 ++ m4).length) (encTable a) [.str a.name, x0, x1, x2, x3, x4] := by
    refine HasL.mono ?_ (HasL.skip (.str _) (HasL.two (h0 _ _) (HasL.two (h1 _ _) (HasL.two (h2 _ _) (HasL.two (h3 _ _) (HasL.two (h4 _ _) (HasL.nil (S := fun a => a < 0)) (fun a ha hb => by (try dsimp only at ha hb); (try simp only [List.append_eq, List.length_append, List.length_nil, List.nil_append] at ha hb); omega)) (fun a ha hb => by (try dsimp only at ha hb); (try simp only [List.append_eq, List.length_append, List.length_nil, List.nil_append] at ha hb); omega)) (fun a ha hb => by (try dsimp only at ha hb); (try simp only [List.append_eq, List.length_append, List.length_nil, List.nil_append] at ha hb); omega)) (fun a ha hb => by (try dsimp only at ha hb); (try simp only [List.append_eq, List.length_append, List.length_nil, List.nil_append] at ha hb); omega)) (fun a ha hb => by (try dsimp only at ha hb); (try simp only [List.append_eq, List.length_append, List.length_nil, List.nil_append] at ha hb); omega)))
    intro a ha
    (try dsimp only at ha)
    (try simp only [List.append_eq, List.length_append, List.length_nil, List.nil_append] at ha ⊢)
    omega
  have hT := hL.tidy (n := σ.next) fun a ha => by have := ha.1; omega
  have hM : TidyL σ.next ([] ++ m0 ++ m1 ++ m2 ++ m3 ++ m4) := (tidy_pre (tidy_pre (tidy_pre (tidy_pre (tidy_pre (fun b hb => by simp at hb) t0) t1) t2) t3) t4)
  have hN : NewL σ (encTable a) (.agg [.str a.name, x0, x1, x2, x3, x4]) (E σ ((0, [[.str a.name, x0, x1, x2, x3, x4]]) :: (0, [[.str a.name, x0, x1, x2, x3, x4]]) :: ([] ++ m0 ++ m1 ++ m2 ++ m3 ++ m4))) := by
    refine ⟨_, _, rfl, rfl, .one hT (.one hT hM), hL.mono ?_⟩
    intro a ha
    have h9 := ha.1
    have h8 := ha.2
    (try simp only [E_next, List.length_cons, List.append_eq, List.length_append, List.length_nil, List.nil_append] at h8 ⊢)
    constructor <;> omega
  exact .ret (retv_m rfl rfl rfl (Nat.le_of_ble_eq_true rfl) rfl) hN
theorem toTableS_ok (xs : List Table) (hx : xs.length ≤ 34359738368) (hv : ∀ e ∈ xs, bTable 34359738368 e) (σ : Store) : Ok Tryz.prog 9 [.c (.fz (xs.map encTable))] σ (New σ (.fz (xs.map encTable))) :=
  toS_ok mixed c_laws_toTableS_ok encTable xs hx (by decide) rfl (fun _ => rfl) (by intro x hx; simp only [List.mem_cons, List.not_mem_nil, or_false] at hx; rcases hx with rfl | rfl | rfl | rfl | rfl | rfl <;> constructor) (fun a ha σ => toTable_ok a (hv a ha) σ) σ
theorem Table_beq (a b : Table) : (a == b) = (a.name == b.name && a.cols == b.cols && a.key == b.key && a.uniques == b.uniques && a.checks == b.checks && a.fks == b.fks) := by
  obtain ⟨a0, a1, a2, a3, a4, a5⟩ := a
  obtain ⟨b0, b1, b2, b3, b4, b5⟩ := b
  rw [Bool.eq_iff_iff]
  simp [and_assoc]
theorem eqTable_ok (a b : Table) (hb : bTable 34359738368 a) : Pure Tryz.prog 40 [.agg (encTable a), .agg (encTable b)] (.c (.bool (a == b))) := by
  refine Pure.run mixed c_laws_eqTable_ok (Nat.le_of_ble_eq_true rfl) fun σ hS hA => ?_
  clear hS hA
  have hq := Table_beq a b
  repeat' first | apply Go.seq | apply Go.skip | apply Go.region | apply Go.nil | apply Go.block | apply Go.blk | apply Go.draw | apply Go.segs | apply Go.qs | apply Qg.nil | (apply Go.exit; exact rfl) | (apply Go.var2; (first | exact Nat.le_add_right _ _ | assumption); (iterate 4 decide); iterate 5 exact rfl) | (apply Go.var; (first | exact Nat.le_add_right _ _ | assumption); decide; iterate 4 exact rfl) | (apply Go.op; exact rfl; (first | exact aop_alloc | exact aop_new rfl rfl | exact aop_mksl rfl | exact aop_lenM rfl | exact rfl | exact aop_load rfl rfl rfl (Nat.le_of_ble_eq_true rfl) rfl | exact aop_store rfl rfl rfl rfl rfl rfl (Nat.le_of_ble_eq_true rfl))) | (apply Go.sop; exact rfl; (first | exact aop_lenM rfl | exact rfl)) | (apply Go.no; exact rfl) | (apply Go.sno; exact rfl) | (apply Qg.op; exact rfl; (first | exact aop_lenM rfl | exact rfl)) | (apply Qg.no; exact rfl) | (apply Go.cond true; exact rfl) | (apply Go.cond false; exact rfl) | ((first | (apply Go.pcallB; iterate 3 exact rfl) | (apply Go.spcallB; iterate 3 exact rfl) | (apply Qg.pcallB; iterate 3 exact rfl)); (first | exact eqColS_ok a.cols b.cols hb.2.1.1 hb.2.1.2 | exact eqInt64S_ok a.key b.key hb.2.2.1 | exact eqUniqS_ok a.uniques b.uniques hb.2.2.2.1.1 hb.2.2.2.1.2 | exact eqChkS_ok a.checks b.checks hb.2.2.2.2.1.1 hb.2.2.2.2.1.2 | exact eqFkS_ok a.fks b.fks hb.2.2.2.2.2.1 hb.2.2.2.2.2.2); intro _ _) | (exfalso; omega) | ((first | (apply Go.iteD; exact rfl) | (apply Go.iteE; exact rfl) | (apply Go.iteN; exact rfl) | (apply Go.guardD; exact rfl) | (apply Go.guardE; exact rfl) | (apply Go.guardN; exact rfl) | (apply Go.sguardD; exact rfl) | (apply Go.sguardE; exact rfl) | (apply Go.sguardN; exact rfl) | (apply Qg.guardD; exact rfl) | (apply Qg.guardE; exact rfl) | (apply Qg.guardN; exact rfl)) <;> intro _) | (((first | (apply Go.guard; exact rfl) | (apply Go.sguard; exact rfl) | (apply Qg.guard; exact rfl) | (apply Go.ite; exact rfl)); fail_if_success (intro h; exact absurd h (by decide)); rotate_left; fail_if_success (intro h; exact absurd h (by decide)); rotate_right) <;> intro _)
  all_goals refine .ret rfl (.bool ?_)
  all_goals rw [hq]
  all_goals clear hq hb
  all_goals simp_all
theorem eqTableS_ok (xs ys : List Table) (hx : xs.length ≤ 34359738368) (hv : ∀ e ∈ xs, bTable 34359738368 e) : Pure Tryz.prog 12 [.c (.fz (xs.map encTable)), .c (.fz (ys.map encTable))] (.c (.bool (xs == ys))) :=
  eqS_ok mixed c_laws_eqTableS_ok encTable xs ys hx (fun _ => rfl) fun a ha b => eqTable_ok a b (hv a ha)
structure Term where
  expr : List Tok
  deriving DecidableEq
def encTerm (a : Term) : List Ce := [.fz (a.expr.map encTok)]
def bTerm (N : Nat) (a : Term) : Prop := (a.expr.length ≤ N ∧ ∀ x ∈ a.expr, bTok N x)
def zTerm (a : Term) : Int → Int := chain [(szL zTok a.expr)]
theorem zTerm_steps (a : Term) : Steps [(szL zTok a.expr)] := (.cons (fun l h => szL_le zTok_le _ l h) .nil)
theorem zTerm_le (a : Term) (l : Int) (h : 0 ≤ l) : zTerm a l ≤ l := chain_le (zTerm_steps a) l h
theorem bTerm_of (a : Term) (l : Int) (N : Nat) (h0 : 0 ≤ l) (h : 0 ≤ zTerm a l) (hl : l ≤ N) : bTerm N a := by
  have hh := chain_all (zTerm_steps a) l h0 h
  obtain ⟨q0, u0, v0, w0⟩ := hh (szL zTok a.expr) (by simp)
  exact (list_of zTok_le bTok_of u0 w0 (by omega))
theorem szTerm_ok (a : Term) (left : Int) (hb : bTerm 1125899906842624 a) (h0 : 0 ≤ left) (h1 : left ≤ 34359738368) : Pure Tryz.prog 67 [.agg (encTerm a), .c (.int .i64 left)] (.c (.int .i64 (zTerm a left))) := by
  refine Pure.run mixed c_laws_szTerm_ok (Nat.le_of_ble_eq_true rfl) fun σ hS hA => ?_
  clear hS hA
  repeat' first | apply Go.seq | apply Go.skip | apply Go.region | apply Go.nil | apply Go.block | apply Go.blk | apply Go.draw | apply Go.segs | apply Go.qs | apply Qg.nil | (apply Go.exit; exact rfl) | (apply Go.var2; (first | exact Nat.le_add_right _ _ | assumption); (iterate 4 decide); iterate 5 exact rfl) | (apply Go.var; (first | exact Nat.le_add_right _ _ | assumption); decide; iterate 4 exact rfl) | (apply Go.op; exact rfl; (first | exact aop_alloc | exact aop_new rfl rfl | exact aop_mksl rfl | exact aop_lenM rfl | exact rfl | exact aop_load rfl rfl rfl (Nat.le_of_ble_eq_true rfl) rfl | exact aop_store rfl rfl rfl rfl rfl rfl (Nat.le_of_ble_eq_true rfl))) | (apply Go.sop; exact rfl; (first | exact aop_lenM rfl | exact rfl)) | (apply Go.no; exact rfl) | (apply Go.sno; exact rfl) | (apply Qg.op; exact rfl; (first | exact aop_lenM rfl | exact rfl)) | (apply Qg.no; exact rfl) | (apply Go.cond true; exact rfl) | (apply Go.cond false; exact rfl)
  refine .pcall rfl rfl rfl (szTokS_ok a.expr left hb.1 hb.2 (by omega) (by omega)) ?_
  have y1 := szL_le zTok_le a.expr left (by omega)
  generalize e1 : szL zTok a.expr left = l1 at y1 ⊢
  repeat' first | apply Go.seq | apply Go.skip | apply Go.region | apply Go.nil | apply Go.block | apply Go.blk | apply Go.draw | apply Go.segs | apply Go.qs | apply Qg.nil | (apply Go.exit; exact rfl) | (apply Go.var2; (first | exact Nat.le_add_right _ _ | assumption); (iterate 4 decide); iterate 5 exact rfl) | (apply Go.var; (first | exact Nat.le_add_right _ _ | assumption); decide; iterate 4 exact rfl) | (apply Go.op; exact rfl; (first | exact aop_alloc | exact aop_new rfl rfl | exact aop_mksl rfl | exact aop_lenM rfl | exact rfl | exact aop_load rfl rfl rfl (Nat.le_of_ble_eq_true rfl) rfl | exact aop_store rfl rfl rfl rfl rfl rfl (Nat.le_of_ble_eq_true rfl))) | (apply Go.sop; exact rfl; (first | exact aop_lenM rfl | exact rfl)) | (apply Go.no; exact rfl) | (apply Go.sno; exact rfl) | (apply Qg.op; exact rfl; (first | exact aop_lenM rfl | exact rfl)) | (apply Qg.no; exact rfl) | (apply Go.cond true; exact rfl) | (apply Go.cond false; exact rfl) | (exfalso; omega) | ((first | (apply Go.iteD; exact rfl) | (apply Go.iteE; exact rfl) | (apply Go.iteN; exact rfl) | (apply Go.guardD; exact rfl) | (apply Go.guardE; exact rfl) | (apply Go.guardN; exact rfl) | (apply Go.sguardD; exact rfl) | (apply Go.sguardE; exact rfl) | (apply Go.sguardN; exact rfl) | (apply Qg.guardD; exact rfl) | (apply Qg.guardE; exact rfl) | (apply Qg.guardN; exact rfl)) <;> intro _) | (((first | (apply Go.guard; exact rfl) | (apply Go.sguard; exact rfl) | (apply Qg.guard; exact rfl) | (apply Go.ite; exact rfl)); fail_if_success (intro h; exact absurd h (by decide)); rotate_left; fail_if_success (intro h; exact absurd h (by decide)); rotate_right) <;> intro _)
  · refine .ret rfl (.int ?_)
    rename_i h
    simp only [zTerm, chain, e1, if_pos h]
  rename_i g1
  refine .ret rfl (.int ?_)
  simp only [zTerm, chain, e1, if_neg g1]
theorem szTermS_ok (xs : List Term) (left : Int) (hx : xs.length ≤ 1125899906842624) (hv : ∀ e ∈ xs, bTerm 1125899906842624 e) (h0 : 0 ≤ left) (h1 : left ≤ 34359738368) : Pure Tryz.prog 25 [.c (.fz (xs.map encTerm)), .c (.int .i64 left)] (.c (.int .i64 (szL zTerm xs left))) :=
  szS_ok mixed c_laws_szTermS_ok encTerm zTerm xs left hx h0 h1 (fun _ => rfl) zTerm_le fun a ha l h2 h3 => szTerm_ok a l (hv a ha) h2 (by omega)
theorem toTerm_ok (a : Term) (hb : bTerm 34359738368 a) (σ : Store) : Ok Tryz.prog 78 [.agg (encTerm a)] σ (NewL σ (encTerm a)) := by
  refine Ok.run mixed c_laws_toTerm_ok (Nat.le_of_ble_eq_true rfl) fun hS hA => ?_
  clear hS hA
  repeat' first | apply Go.seq | apply Go.skip | apply Go.region | apply Go.nil | apply Go.block | apply Go.blk | apply Go.draw | apply Go.segs | apply Go.qs | apply Qg.nil | (apply Go.exit; exact rfl) | (apply Go.var2; (first | exact Nat.le_add_right _ _ | assumption); (iterate 4 decide); iterate 5 exact rfl) | (apply Go.var; (first | exact Nat.le_add_right _ _ | assumption); decide; iterate 4 exact rfl) | (apply Go.op; exact rfl; (first | exact aop_alloc | exact aop_new rfl rfl | exact aop_mksl rfl | exact aop_lenM rfl | exact rfl | exact aop_load rfl rfl rfl (Nat.le_of_ble_eq_true rfl) rfl | exact aop_store rfl rfl rfl rfl rfl rfl (Nat.le_of_ble_eq_true rfl))) | (apply Go.sop; exact rfl; (first | exact aop_lenM rfl | exact rfl)) | (apply Go.no; exact rfl) | (apply Go.sno; exact rfl) | (apply Qg.op; exact rfl; (first | exact aop_lenM rfl | exact rfl)) | (apply Qg.no; exact rfl) | (apply Go.cond true; exact rfl) | (apply Go.cond false; exact rfl) | (exfalso; omega) | ((first | (apply Go.iteD; exact rfl) | (apply Go.iteE; exact rfl) | (apply Go.iteN; exact rfl) | (apply Go.guardD; exact rfl) | (apply Go.guardE; exact rfl) | (apply Go.guardN; exact rfl) | (apply Go.sguardD; exact rfl) | (apply Go.sguardE; exact rfl) | (apply Go.sguardN; exact rfl) | (apply Qg.guardD; exact rfl) | (apply Qg.guardE; exact rfl) | (apply Qg.guardN; exact rfl)) <;> intro _) | (((first | (apply Go.guard; exact rfl) | (apply Go.sguard; exact rfl) | (apply Qg.guard; exact rfl) | (apply Go.ite; exact rfl)); fail_if_success (intro h; exact absurd h (by decide)); rotate_left; fail_if_success (intro h; exact absurd h (by decide)); rotate_right) <;> intro _)
  refine Go.call _ rfl rfl rfl (toTokS_ok a.expr hb.1 hb.2 _) ?_
  rintro r σ0 ⟨x0, m0, rfl, rfl, t0, h0⟩
  rw [E_E] at h0 ⊢
  have t0 := tidy_up t0
  have h0 := h0.new2
  repeat' first | apply Go.seq | apply Go.skip | apply Go.region | apply Go.nil | apply Go.block | apply Go.blk | apply Go.draw | apply Go.segs | apply Go.qs | apply Qg.nil | (apply Go.exit; exact rfl) | (apply Go.var2; (first | exact Nat.le_add_right _ _ | assumption); (iterate 4 decide); iterate 5 exact rfl) | (apply Go.var; (first | exact Nat.le_add_right _ _ | assumption); decide; iterate 4 exact rfl) | (apply Go.op; exact rfl; (first | exact aop_alloc | exact aop_new rfl rfl | exact aop_mksl rfl | exact aop_lenM rfl | exact rfl | exact aop_load rfl rfl rfl (Nat.le_of_ble_eq_true rfl) rfl | exact aop_store rfl rfl rfl rfl rfl rfl (Nat.le_of_ble_eq_true rfl))) | (apply Go.sop; exact rfl; (first | exact aop_lenM rfl | exact rfl)) | (apply Go.no; exact rfl) | (apply Go.sno; exact rfl) | (apply Qg.op; exact rfl; (first | exact aop_lenM rfl | exact rfl)) | (apply Qg.no; exact rfl) | (apply Go.cond true; exact rfl) | (apply Go.cond false; exact rfl) | (exfalso; omega) | ((first | (apply Go.iteD; exact rfl) | (apply Go.iteE; exact rfl) | (apply Go.iteN; exact rfl) | (apply Go.guardD; exact rfl) | (apply Go.guardE; exact rfl) | (apply Go.guardN; exact rfl) | (apply Go.sguardD; exact rfl) | (apply Go.sguardE; exact rfl) | (apply Go.sguardN; exact rfl) | (apply Qg.guardD; exact rfl) | (apply Qg.guardE; exact rfl) | (apply Qg.guardN; exact rfl)) <;> intro _) | (((first | (apply Go.guard; exact rfl) | (apply Go.sguard; exact rfl) | (apply Qg.guard; exact rfl) | (apply Go.ite; exact rfl)); fail_if_success (intro h; exact absurd h (by decide)); rotate_left; fail_if_success (intro h; exact absurd h (by decide)); rotate_right) <;> intro _)
  have hL : HasL (E σ ((0, [[x0]]) :: (0, [[x0]]) :: ([] ++ m0))) (fun a => σ.next + 2 ≤ a ∧ a < σ.next + 2 + ([] ++ m0).length) (encTerm a) [x0] := by
    refine HasL.mono ?_ (HasL.two (h0 _ _) (HasL.nil (S := fun a => a < 0)) (fun a ha hb => by (try dsimp only at ha hb); (try simp only [List.append_eq, List.length_append, List.length_nil, List.nil_append] at ha hb); omega))
    intro a ha
    (try dsimp only at ha)
    (try simp only [List.append_eq, List.length_append, List.length_nil, List.nil_append] at ha ⊢)
    omega
  have hT := hL.tidy (n := σ.next) fun a ha => by have := ha.1; omega
  have hM : TidyL σ.next ([] ++ m0) := (tidy_pre (fun b hb => by simp at hb) t0)
  have hN : NewL σ (encTerm a) (.agg [x0]) (E σ ((0, [[x0]]) :: (0, [[x0]]) :: ([] ++ m0))) := by
    refine ⟨_, _, rfl, rfl, .one hT (.one hT hM), hL.mono ?_⟩
    intro a ha
    have h9 := ha.1
    have h8 := ha.2
    (try simp only [E_next, List.length_cons, List.append_eq, List.length_append, List.length_nil, List.nil_append] at h8 ⊢)
    constructor <;> omega
  exact .ret (retv_m rfl rfl rfl (Nat.le_of_ble_eq_true rfl) rfl) hN
theorem toTermS_ok (xs : List Term) (hx : xs.length ≤ 34359738368) (hv : ∀ e ∈ xs, bTerm 34359738368 e) (σ : Store) : Ok Tryz.prog 31 [.c (.fz (xs.map encTerm))] σ (New σ (.fz (xs.map encTerm))) :=
  toS_ok mixed c_laws_toTermS_ok encTerm xs hx (by decide) rfl (fun _ => rfl) (by intro x hx; simp only [List.mem_cons, List.not_mem_nil, or_false] at hx; rcases hx with rfl <;> constructor) (fun a ha σ => toTerm_ok a (hv a ha) σ) σ
theorem Term_beq (a b : Term) : (a == b) = (a.expr == b.expr) := by
  obtain ⟨a0⟩ := a
  obtain ⟨b0⟩ := b
  rw [Bool.eq_iff_iff]
  simp [and_assoc]
theorem eqTerm_ok (a b : Term) (hb : bTerm 34359738368 a) : Pure Tryz.prog 96 [.agg (encTerm a), .agg (encTerm b)] (.c (.bool (a == b))) := by
  refine Pure.run mixed c_laws_eqTerm_ok (Nat.le_of_ble_eq_true rfl) fun σ hS hA => ?_
  clear hS hA
  have hq := Term_beq a b
  repeat' first | apply Go.seq | apply Go.skip | apply Go.region | apply Go.nil | apply Go.block | apply Go.blk | apply Go.draw | apply Go.segs | apply Go.qs | apply Qg.nil | (apply Go.exit; exact rfl) | (apply Go.var2; (first | exact Nat.le_add_right _ _ | assumption); (iterate 4 decide); iterate 5 exact rfl) | (apply Go.var; (first | exact Nat.le_add_right _ _ | assumption); decide; iterate 4 exact rfl) | (apply Go.op; exact rfl; (first | exact aop_alloc | exact aop_new rfl rfl | exact aop_mksl rfl | exact aop_lenM rfl | exact rfl | exact aop_load rfl rfl rfl (Nat.le_of_ble_eq_true rfl) rfl | exact aop_store rfl rfl rfl rfl rfl rfl (Nat.le_of_ble_eq_true rfl))) | (apply Go.sop; exact rfl; (first | exact aop_lenM rfl | exact rfl)) | (apply Go.no; exact rfl) | (apply Go.sno; exact rfl) | (apply Qg.op; exact rfl; (first | exact aop_lenM rfl | exact rfl)) | (apply Qg.no; exact rfl) | (apply Go.cond true; exact rfl) | (apply Go.cond false; exact rfl) | ((first | (apply Go.pcallB; iterate 3 exact rfl) | (apply Go.spcallB; iterate 3 exact rfl) | (apply Qg.pcallB; iterate 3 exact rfl)); exact eqTokS_ok a.expr b.expr hb.1 hb.2; intro _ _) | (exfalso; omega) | ((first | (apply Go.iteD; exact rfl) | (apply Go.iteE; exact rfl) | (apply Go.iteN; exact rfl) | (apply Go.guardD; exact rfl) | (apply Go.guardE; exact rfl) | (apply Go.guardN; exact rfl) | (apply Go.sguardD; exact rfl) | (apply Go.sguardE; exact rfl) | (apply Go.sguardN; exact rfl) | (apply Qg.guardD; exact rfl) | (apply Qg.guardE; exact rfl) | (apply Qg.guardN; exact rfl)) <;> intro _) | (((first | (apply Go.guard; exact rfl) | (apply Go.sguard; exact rfl) | (apply Qg.guard; exact rfl) | (apply Go.ite; exact rfl)); fail_if_success (intro h; exact absurd h (by decide)); rotate_left; fail_if_success (intro h; exact absurd h (by decide)); rotate_right) <;> intro _)
  all_goals refine .ret rfl (.bool ?_)
  all_goals rw [hq]
  all_goals clear hq hb
  all_goals simp_all
theorem eqTermS_ok (xs ys : List Term) (hx : xs.length ≤ 34359738368) (hv : ∀ e ∈ xs, bTerm 34359738368 e) : Pure Tryz.prog 41 [.c (.fz (xs.map encTerm)), .c (.fz (ys.map encTerm))] (.c (.bool (xs == ys))) :=
  eqS_ok mixed c_laws_eqTermS_ok encTerm xs ys hx (fun _ => rfl) fun a ha b => eqTerm_ok a b (hv a ha)
structure Sel where
  table : List UInt8
  terms : List Term
  wher : List Tok
  by_ : List Int
  most : Int
  deriving DecidableEq
def encSel (a : Sel) : List Ce := [.str a.table, .fz (a.terms.map encTerm), .fz (a.wher.map encTok), .fz (a.by_.map encI), .int .i64 a.most]
def bSel (N : Nat) (a : Sel) : Prop := a.table.length ≤ N ∧ (a.terms.length ≤ N ∧ ∀ x ∈ a.terms, bTerm N x) ∧ (a.wher.length ≤ N ∧ ∀ x ∈ a.wher, bTok N x) ∧ a.by_.length ≤ N
def zSel (a : Sel) : Int → Int := chain [(fun l => l - a.table.length), (szL zTerm a.terms), (szL zTok a.wher), (zI a.by_)]
theorem zSel_steps (a : Sel) : Steps [(fun l => l - a.table.length), (szL zTerm a.terms), (szL zTok a.wher), (zI a.by_)] := (.cons (step_str _) (.cons (fun l h => szL_le zTerm_le _ l h) (.cons (fun l h => szL_le zTok_le _ l h) (.cons (step_ints _) .nil))))
theorem zSel_le (a : Sel) (l : Int) (h : 0 ≤ l) : zSel a l ≤ l := chain_le (zSel_steps a) l h
theorem bSel_of (a : Sel) (l : Int) (N : Nat) (h0 : 0 ≤ l) (h : 0 ≤ zSel a l) (hl : l ≤ N) : bSel N a := by
  have hh := chain_all (zSel_steps a) l h0 h
  obtain ⟨q0, u0, v0, w0⟩ := hh (fun l => l - a.table.length) (by simp)
  obtain ⟨q1, u1, v1, w1⟩ := hh (szL zTerm a.terms) (by simp)
  obtain ⟨q2, u2, v2, w2⟩ := hh (szL zTok a.wher) (by simp)
  obtain ⟨q3, u3, v3, w3⟩ := hh (zI a.by_) (by simp)
  exact ⟨(by (try simp only at w0); omega), (list_of zTerm_le bTerm_of u1 w1 (by omega)), (list_of zTok_le bTok_of u2 w2 (by omega)), (ints_of w3 (by omega))⟩
theorem szSel_ok (a : Sel) (left : Int) (hb : bSel 1125899906842624 a) (h0 : 0 ≤ left) (h1 : left ≤ 34359738368) : Pure Tryz.prog 7 [.agg (encSel a), .c (.int .i64 left)] (.c (.int .i64 (zSel a left))) := by
  refine Pure.run mixed c_laws_szSelect_ok (Nat.le_of_ble_eq_true rfl) fun σ hS hA => ?_
  clear hS hA
  have w1 : 0 ≤ left → IntKind.i64.wrap (left - a.table.length) = left - a.table.length := fun h => wrap64 (by have : a.table.length ≤ 1125899906842624 := hb.1; omega) (by omega)
  repeat' first | apply Go.seq | apply Go.skip | apply Go.region | apply Go.nil | apply Go.block | apply Go.blk | apply Go.draw | apply Go.segs | apply Go.qs | apply Qg.nil | (apply Go.exit; exact rfl) | (apply Go.var2; (first | exact Nat.le_add_right _ _ | assumption); (iterate 4 decide); iterate 5 exact rfl) | (apply Go.var; (first | exact Nat.le_add_right _ _ | assumption); decide; iterate 4 exact rfl) | (apply Go.op; exact rfl; (first | exact aop_alloc | exact aop_new rfl rfl | exact aop_mksl rfl | exact aop_lenM rfl | exact rfl | exact aop_load rfl rfl rfl (Nat.le_of_ble_eq_true rfl) rfl | exact aop_store rfl rfl rfl rfl rfl rfl (Nat.le_of_ble_eq_true rfl))) | (apply Go.sop; exact rfl; (first | exact aop_lenM rfl | exact rfl)) | (apply Go.no; exact rfl) | (apply Go.sno; exact rfl) | (apply Qg.op; exact rfl; (first | exact aop_lenM rfl | exact rfl)) | (apply Qg.no; exact rfl) | (apply Go.cond true; exact rfl) | (apply Go.cond false; exact rfl) | (exfalso; omega) | ((first | (apply Go.iteD; exact rfl) | (apply Go.iteE; exact rfl) | (apply Go.iteN; exact rfl) | (apply Go.guardD; exact rfl) | (apply Go.guardE; exact rfl) | (apply Go.guardN; exact rfl) | (apply Go.sguardD; exact rfl) | (apply Go.sguardE; exact rfl) | (apply Go.sguardN; exact rfl) | (apply Qg.guardD; exact rfl) | (apply Qg.guardE; exact rfl) | (apply Qg.guardN; exact rfl)) <;> intro _) | (((first | (apply Go.guard; exact rfl) | (apply Go.sguard; exact rfl) | (apply Qg.guard; exact rfl) | (apply Go.ite; exact rfl)); fail_if_success (intro h; exact absurd h (by decide)); rotate_left; fail_if_success (intro h; exact absurd h (by decide)); rotate_right) <;> intro _)
  · refine .ret rfl (.int ?_)
    rename_i h
    have v1 := w1 (by omega)
    simp only [v1] at h
    simp only [zSel, chain, if_pos h]
  rename_i g1
  have v1 := w1 (by omega)
  simp only [v1] at g1 ⊢
  obtain ⟨l1, e1⟩ : ∃ q, left - (a.table.length : Int) = q := ⟨_, rfl⟩
  rw [e1] at g1 ⊢
  refine .pcall rfl rfl rfl (szTermS_ok a.terms l1 hb.2.1.1 hb.2.1.2 (by omega) (by omega)) ?_
  have y2 := szL_le zTerm_le a.terms l1 (by omega)
  generalize e2 : szL zTerm a.terms l1 = l2 at y2 ⊢
  repeat' first | apply Go.seq | apply Go.skip | apply Go.region | apply Go.nil | apply Go.block | apply Go.blk | apply Go.draw | apply Go.segs | apply Go.qs | apply Qg.nil | (apply Go.exit; exact rfl) | (apply Go.var2; (first | exact Nat.le_add_right _ _ | assumption); (iterate 4 decide); iterate 5 exact rfl) | (apply Go.var; (first | exact Nat.le_add_right _ _ | assumption); decide; iterate 4 exact rfl) | (apply Go.op; exact rfl; (first | exact aop_alloc | exact aop_new rfl rfl | exact aop_mksl rfl | exact aop_lenM rfl | exact rfl | exact aop_load rfl rfl rfl (Nat.le_of_ble_eq_true rfl) rfl | exact aop_store rfl rfl rfl rfl rfl rfl (Nat.le_of_ble_eq_true rfl))) | (apply Go.sop; exact rfl; (first | exact aop_lenM rfl | exact rfl)) | (apply Go.no; exact rfl) | (apply Go.sno; exact rfl) | (apply Qg.op; exact rfl; (first | exact aop_lenM rfl | exact rfl)) | (apply Qg.no; exact rfl) | (apply Go.cond true; exact rfl) | (apply Go.cond false; exact rfl) | (exfalso; omega) | ((first | (apply Go.iteD; exact rfl) | (apply Go.iteE; exact rfl) | (apply Go.iteN; exact rfl) | (apply Go.guardD; exact rfl) | (apply Go.guardE; exact rfl) | (apply Go.guardN; exact rfl) | (apply Go.sguardD; exact rfl) | (apply Go.sguardE; exact rfl) | (apply Go.sguardN; exact rfl) | (apply Qg.guardD; exact rfl) | (apply Qg.guardE; exact rfl) | (apply Qg.guardN; exact rfl)) <;> intro _) | (((first | (apply Go.guard; exact rfl) | (apply Go.sguard; exact rfl) | (apply Qg.guard; exact rfl) | (apply Go.ite; exact rfl)); fail_if_success (intro h; exact absurd h (by decide)); rotate_left; fail_if_success (intro h; exact absurd h (by decide)); rotate_right) <;> intro _)
  · refine .ret rfl (.int ?_)
    rename_i h
    simp only [zSel, chain, e1, if_neg g1, e2, if_pos h]
  rename_i g2
  refine .pcall rfl rfl rfl (szTokS_ok a.wher l2 hb.2.2.1.1 hb.2.2.1.2 (by omega) (by omega)) ?_
  have y3 := szL_le zTok_le a.wher l2 (by omega)
  generalize e3 : szL zTok a.wher l2 = l3 at y3 ⊢
  repeat' first | apply Go.seq | apply Go.skip | apply Go.region | apply Go.nil | apply Go.block | apply Go.blk | apply Go.draw | apply Go.segs | apply Go.qs | apply Qg.nil | (apply Go.exit; exact rfl) | (apply Go.var2; (first | exact Nat.le_add_right _ _ | assumption); (iterate 4 decide); iterate 5 exact rfl) | (apply Go.var; (first | exact Nat.le_add_right _ _ | assumption); decide; iterate 4 exact rfl) | (apply Go.op; exact rfl; (first | exact aop_alloc | exact aop_new rfl rfl | exact aop_mksl rfl | exact aop_lenM rfl | exact rfl | exact aop_load rfl rfl rfl (Nat.le_of_ble_eq_true rfl) rfl | exact aop_store rfl rfl rfl rfl rfl rfl (Nat.le_of_ble_eq_true rfl))) | (apply Go.sop; exact rfl; (first | exact aop_lenM rfl | exact rfl)) | (apply Go.no; exact rfl) | (apply Go.sno; exact rfl) | (apply Qg.op; exact rfl; (first | exact aop_lenM rfl | exact rfl)) | (apply Qg.no; exact rfl) | (apply Go.cond true; exact rfl) | (apply Go.cond false; exact rfl) | (exfalso; omega) | ((first | (apply Go.iteD; exact rfl) | (apply Go.iteE; exact rfl) | (apply Go.iteN; exact rfl) | (apply Go.guardD; exact rfl) | (apply Go.guardE; exact rfl) | (apply Go.guardN; exact rfl) | (apply Go.sguardD; exact rfl) | (apply Go.sguardE; exact rfl) | (apply Go.sguardN; exact rfl) | (apply Qg.guardD; exact rfl) | (apply Qg.guardE; exact rfl) | (apply Qg.guardN; exact rfl)) <;> intro _) | (((first | (apply Go.guard; exact rfl) | (apply Go.sguard; exact rfl) | (apply Qg.guard; exact rfl) | (apply Go.ite; exact rfl)); fail_if_success (intro h; exact absurd h (by decide)); rotate_left; fail_if_success (intro h; exact absurd h (by decide)); rotate_right) <;> intro _)
  · refine .ret rfl (.int ?_)
    rename_i h
    simp only [zSel, chain, e1, if_neg g1, e2, if_neg g2, e3, if_pos h]
  rename_i g3
  refine .pcall rfl rfl rfl (szInt64S_ok a.by_ l3 hb.2.2.2 (by omega) (by omega)) ?_
  have y4 := step_ints a.by_ l3 (by omega)
  generalize e4 : zI a.by_ l3 = l4 at y4 ⊢
  repeat' first | apply Go.seq | apply Go.skip | apply Go.region | apply Go.nil | apply Go.block | apply Go.blk | apply Go.draw | apply Go.segs | apply Go.qs | apply Qg.nil | (apply Go.exit; exact rfl) | (apply Go.var2; (first | exact Nat.le_add_right _ _ | assumption); (iterate 4 decide); iterate 5 exact rfl) | (apply Go.var; (first | exact Nat.le_add_right _ _ | assumption); decide; iterate 4 exact rfl) | (apply Go.op; exact rfl; (first | exact aop_alloc | exact aop_new rfl rfl | exact aop_mksl rfl | exact aop_lenM rfl | exact rfl | exact aop_load rfl rfl rfl (Nat.le_of_ble_eq_true rfl) rfl | exact aop_store rfl rfl rfl rfl rfl rfl (Nat.le_of_ble_eq_true rfl))) | (apply Go.sop; exact rfl; (first | exact aop_lenM rfl | exact rfl)) | (apply Go.no; exact rfl) | (apply Go.sno; exact rfl) | (apply Qg.op; exact rfl; (first | exact aop_lenM rfl | exact rfl)) | (apply Qg.no; exact rfl) | (apply Go.cond true; exact rfl) | (apply Go.cond false; exact rfl) | (exfalso; omega) | ((first | (apply Go.iteD; exact rfl) | (apply Go.iteE; exact rfl) | (apply Go.iteN; exact rfl) | (apply Go.guardD; exact rfl) | (apply Go.guardE; exact rfl) | (apply Go.guardN; exact rfl) | (apply Go.sguardD; exact rfl) | (apply Go.sguardE; exact rfl) | (apply Go.sguardN; exact rfl) | (apply Qg.guardD; exact rfl) | (apply Qg.guardE; exact rfl) | (apply Qg.guardN; exact rfl)) <;> intro _) | (((first | (apply Go.guard; exact rfl) | (apply Go.sguard; exact rfl) | (apply Qg.guard; exact rfl) | (apply Go.ite; exact rfl)); fail_if_success (intro h; exact absurd h (by decide)); rotate_left; fail_if_success (intro h; exact absurd h (by decide)); rotate_right) <;> intro _)
  · refine .ret rfl (.int ?_)
    rename_i h
    simp only [zSel, chain, e1, if_neg g1, e2, if_neg g2, e3, if_neg g3, e4, if_pos h]
  rename_i g4
  refine .ret rfl (.int ?_)
  simp only [zSel, chain, e1, if_neg g1, e2, if_neg g2, e3, if_neg g3, e4, if_neg g4]
theorem toSel_ok (a : Sel) (hb : bSel 34359738368 a) (σ : Store) : Ok Tryz.prog 10 [.agg (encSel a)] σ (NewL σ (encSel a)) := by
  refine Ok.run mixed c_laws_toSelect_ok (Nat.le_of_ble_eq_true rfl) fun hS hA => ?_
  clear hS hA
  repeat' first | apply Go.seq | apply Go.skip | apply Go.region | apply Go.nil | apply Go.block | apply Go.blk | apply Go.draw | apply Go.segs | apply Go.qs | apply Qg.nil | (apply Go.exit; exact rfl) | (apply Go.var2; (first | exact Nat.le_add_right _ _ | assumption); (iterate 4 decide); iterate 5 exact rfl) | (apply Go.var; (first | exact Nat.le_add_right _ _ | assumption); decide; iterate 4 exact rfl) | (apply Go.op; exact rfl; (first | exact aop_alloc | exact aop_new rfl rfl | exact aop_mksl rfl | exact aop_lenM rfl | exact rfl | exact aop_load rfl rfl rfl (Nat.le_of_ble_eq_true rfl) rfl | exact aop_store rfl rfl rfl rfl rfl rfl (Nat.le_of_ble_eq_true rfl))) | (apply Go.sop; exact rfl; (first | exact aop_lenM rfl | exact rfl)) | (apply Go.no; exact rfl) | (apply Go.sno; exact rfl) | (apply Qg.op; exact rfl; (first | exact aop_lenM rfl | exact rfl)) | (apply Qg.no; exact rfl) | (apply Go.cond true; exact rfl) | (apply Go.cond false; exact rfl) | (exfalso; omega) | ((first | (apply Go.iteD; exact rfl) | (apply Go.iteE; exact rfl) | (apply Go.iteN; exact rfl) | (apply Go.guardD; exact rfl) | (apply Go.guardE; exact rfl) | (apply Go.guardN; exact rfl) | (apply Go.sguardD; exact rfl) | (apply Go.sguardE; exact rfl) | (apply Go.sguardN; exact rfl) | (apply Qg.guardD; exact rfl) | (apply Qg.guardE; exact rfl) | (apply Qg.guardN; exact rfl)) <;> intro _) | (((first | (apply Go.guard; exact rfl) | (apply Go.sguard; exact rfl) | (apply Qg.guard; exact rfl) | (apply Go.ite; exact rfl)); fail_if_success (intro h; exact absurd h (by decide)); rotate_left; fail_if_success (intro h; exact absurd h (by decide)); rotate_right) <;> intro _)
  refine Go.call _ rfl rfl rfl (toTermS_ok a.terms hb.2.1.1 hb.2.1.2 _) ?_
  rintro r σ0 ⟨x0, m0, rfl, rfl, t0, h0⟩
  rw [E_E] at h0 ⊢
  have t0 := tidy_up t0
  have h0 := h0.new2
  repeat' first | apply Go.seq | apply Go.skip | apply Go.region | apply Go.nil | apply Go.block | apply Go.blk | apply Go.draw | apply Go.segs | apply Go.qs | apply Qg.nil | (apply Go.exit; exact rfl) | (apply Go.var2; (first | exact Nat.le_add_right _ _ | assumption); (iterate 4 decide); iterate 5 exact rfl) | (apply Go.var; (first | exact Nat.le_add_right _ _ | assumption); decide; iterate 4 exact rfl) | (apply Go.op; exact rfl; (first | exact aop_alloc | exact aop_new rfl rfl | exact aop_mksl rfl | exact aop_lenM rfl | exact rfl | exact aop_load rfl rfl rfl (Nat.le_of_ble_eq_true rfl) rfl | exact aop_store rfl rfl rfl rfl rfl rfl (Nat.le_of_ble_eq_true rfl))) | (apply Go.sop; exact rfl; (first | exact aop_lenM rfl | exact rfl)) | (apply Go.no; exact rfl) | (apply Go.sno; exact rfl) | (apply Qg.op; exact rfl; (first | exact aop_lenM rfl | exact rfl)) | (apply Qg.no; exact rfl) | (apply Go.cond true; exact rfl) | (apply Go.cond false; exact rfl) | (exfalso; omega) | ((first | (apply Go.iteD; exact rfl) | (apply Go.iteE; exact rfl) | (apply Go.iteN; exact rfl) | (apply Go.guardD; exact rfl) | (apply Go.guardE; exact rfl) | (apply Go.guardN; exact rfl) | (apply Go.sguardD; exact rfl) | (apply Go.sguardE; exact rfl) | (apply Go.sguardN; exact rfl) | (apply Qg.guardD; exact rfl) | (apply Qg.guardE; exact rfl) | (apply Qg.guardN; exact rfl)) <;> intro _) | (((first | (apply Go.guard; exact rfl) | (apply Go.sguard; exact rfl) | (apply Qg.guard; exact rfl) | (apply Go.ite; exact rfl)); fail_if_success (intro h; exact absurd h (by decide)); rotate_left; fail_if_success (intro h; exact absurd h (by decide)); rotate_right) <;> intro _)
  refine Go.call _ rfl rfl rfl (toTokS_ok a.wher hb.2.2.1.1 hb.2.2.1.2 _) ?_
  rintro r σ1 ⟨x1, m1, rfl, rfl, t1, h1⟩
  rw [E_E] at h1 ⊢
  have t1 := tidy_up t1
  have h1 := h1.new2
  have h0 := Has.more h0 (fun a ha => by have h9 := ha.1; have h8 := ha.2; simp only [List.append_eq, List.length_nil, List.length_append, List.nil_append] at h9 h8 ⊢; omega) m1
  repeat' first | apply Go.seq | apply Go.skip | apply Go.region | apply Go.nil | apply Go.block | apply Go.blk | apply Go.draw | apply Go.segs | apply Go.qs | apply Qg.nil | (apply Go.exit; exact rfl) | (apply Go.var2; (first | exact Nat.le_add_right _ _ | assumption); (iterate 4 decide); iterate 5 exact rfl) | (apply Go.var; (first | exact Nat.le_add_right _ _ | assumption); decide; iterate 4 exact rfl) | (apply Go.op; exact rfl; (first | exact aop_alloc | exact aop_new rfl rfl | exact aop_mksl rfl | exact aop_lenM rfl | exact rfl | exact aop_load rfl rfl rfl (Nat.le_of_ble_eq_true rfl) rfl | exact aop_store rfl rfl rfl rfl rfl rfl (Nat.le_of_ble_eq_true rfl))) | (apply Go.sop; exact rfl; (first | exact aop_lenM rfl | exact rfl)) | (apply Go.no; exact rfl) | (apply Go.sno; exact rfl) | (apply Qg.op; exact rfl; (first | exact aop_lenM rfl | exact rfl)) | (apply Qg.no; exact rfl) | (apply Go.cond true; exact rfl) | (apply Go.cond false; exact rfl) | (exfalso; omega) | ((first | (apply Go.iteD; exact rfl) | (apply Go.iteE; exact rfl) | (apply Go.iteN; exact rfl) | (apply Go.guardD; exact rfl) | (apply Go.guardE; exact rfl) | (apply Go.guardN; exact rfl) | (apply Go.sguardD; exact rfl) | (apply Go.sguardE; exact rfl) | (apply Go.sguardN; exact rfl) | (apply Qg.guardD; exact rfl) | (apply Qg.guardE; exact rfl) | (apply Qg.guardN; exact rfl)) <;> intro _) | (((first | (apply Go.guard; exact rfl) | (apply Go.sguard; exact rfl) | (apply Qg.guard; exact rfl) | (apply Go.ite; exact rfl)); fail_if_success (intro h; exact absurd h (by decide)); rotate_left; fail_if_success (intro h; exact absurd h (by decide)); rotate_right) <;> intro _)
  refine Go.call _ rfl rfl rfl (toInt64S_ok a.by_ hb.2.2.2 _) ?_
  rintro r σ2 ⟨x2, m2, rfl, rfl, t2, h2⟩
  rw [E_E] at h2 ⊢
  have t2 := tidy_up t2
  have h2 := h2.new2
  have h0 := Has.more h0 (fun a ha => by have h9 := ha.1; have h8 := ha.2; simp only [List.append_eq, List.length_nil, List.length_append, List.nil_append] at h9 h8 ⊢; omega) m2
  have h1 := Has.more h1 (fun a ha => by have h9 := ha.1; have h8 := ha.2; simp only [List.append_eq, List.length_nil, List.length_append, List.nil_append] at h9 h8 ⊢; omega) m2
  repeat' first | apply Go.seq | apply Go.skip | apply Go.region | apply Go.nil | apply Go.block | apply Go.blk | apply Go.draw | apply Go.segs | apply Go.qs | apply Qg.nil | (apply Go.exit; exact rfl) | (apply Go.var2; (first | exact Nat.le_add_right _ _ | assumption); (iterate 4 decide); iterate 5 exact rfl) | (apply Go.var; (first | exact Nat.le_add_right _ _ | assumption); decide; iterate 4 exact rfl) | (apply Go.op; exact rfl; (first | exact aop_alloc | exact aop_new rfl rfl | exact aop_mksl rfl | exact aop_lenM rfl | exact rfl | exact aop_load rfl rfl rfl (Nat.le_of_ble_eq_true rfl) rfl | exact aop_store rfl rfl rfl rfl rfl rfl (Nat.le_of_ble_eq_true rfl))) | (apply Go.sop; exact rfl; (first | exact aop_lenM rfl | exact rfl)) | (apply Go.no; exact rfl) | (apply Go.sno; exact rfl) | (apply Qg.op; exact rfl; (first | exact aop_lenM rfl | exact rfl)) | (apply Qg.no; exact rfl) | (apply Go.cond true; exact rfl) | (apply Go.cond false; exact rfl) | (exfalso; omega) | ((first | (apply Go.iteD; exact rfl) | (apply Go.iteE; exact rfl) | (apply Go.iteN; exact rfl) | (apply Go.guardD; exact rfl) | (apply Go.guardE; exact rfl) | (apply Go.guardN; exact rfl) | (apply Go.sguardD; exact rfl) | (apply Go.sguardE; exact rfl) | (apply Go.sguardN; exact rfl) | (apply Qg.guardD; exact rfl) | (apply Qg.guardE; exact rfl) | (apply Qg.guardN; exact rfl)) <;> intro _) | (((first | (apply Go.guard; exact rfl) | (apply Go.sguard; exact rfl) | (apply Qg.guard; exact rfl) | (apply Go.ite; exact rfl)); fail_if_success (intro h; exact absurd h (by decide)); rotate_left; fail_if_success (intro h; exact absurd h (by decide)); rotate_right) <;> intro _)
  have hL : HasL (E σ ((0, [[.str a.table, x0, x1, x2, .int .i64 a.most]]) :: (0, [[.str a.table, x0, x1, x2, .int .i64 a.most]]) :: ([] ++ m0 ++ m1 ++ m2))) (fun a => σ.next + 2 ≤ a ∧ a < σ.next + 2 + ([] ++ m0 ++ m1 ++ m2).length) (encSel a) [.str a.table, x0, x1, x2, .int .i64 a.most] := by
    refine HasL.mono ?_ (HasL.skip (.str _) (HasL.two (h0 _ _) (HasL.two (h1 _ _) (HasL.two (h2 _ _) (HasL.skip (.int _ _) (HasL.nil (S := fun a => a < 0))) (fun a ha hb => by (try dsimp only at ha hb); (try simp only [List.append_eq, List.length_append, List.length_nil, List.nil_append] at ha hb); omega)) (fun a ha hb => by (try dsimp only at ha hb); (try simp only [List.append_eq, List.length_append, List.length_nil, List.nil_append] at ha hb); omega)) (fun a ha hb => by (try dsimp only at ha hb); (try simp only [List.append_eq, List.length_append, List.length_nil, List.nil_append] at ha hb); omega)))
    intro a ha
    (try dsimp only at ha)
    (try simp only [List.append_eq, List.length_append, List.length_nil, List.nil_append] at ha ⊢)
    omega
  have hT := hL.tidy (n := σ.next) fun a ha => by have := ha.1; omega
  have hM : TidyL σ.next ([] ++ m0 ++ m1 ++ m2) := (tidy_pre (tidy_pre (tidy_pre (fun b hb => by simp at hb) t0) t1) t2)
  have hN : NewL σ (encSel a) (.agg [.str a.table, x0, x1, x2, .int .i64 a.most]) (E σ ((0, [[.str a.table, x0, x1, x2, .int .i64 a.most]]) :: (0, [[.str a.table, x0, x1, x2, .int .i64 a.most]]) :: ([] ++ m0 ++ m1 ++ m2))) := by
    refine ⟨_, _, rfl, rfl, .one hT (.one hT hM), hL.mono ?_⟩
    intro a ha
    have h9 := ha.1
    have h8 := ha.2
    (try simp only [E_next, List.length_cons, List.append_eq, List.length_append, List.length_nil, List.nil_append] at h8 ⊢)
    constructor <;> omega
  exact .ret (retv_m rfl rfl rfl (Nat.le_of_ble_eq_true rfl) rfl) hN
theorem Sel_beq (a b : Sel) : (a == b) = (a.table == b.table && a.terms == b.terms && a.wher == b.wher && a.by_ == b.by_ && a.most == b.most) := by
  obtain ⟨a0, a1, a2, a3, a4⟩ := a
  obtain ⟨b0, b1, b2, b3, b4⟩ := b
  rw [Bool.eq_iff_iff]
  simp [and_assoc]
theorem eqSel_ok (a b : Sel) (hb : bSel 34359738368 a) : Pure Tryz.prog 13 [.agg (encSel a), .agg (encSel b)] (.c (.bool (a == b))) := by
  refine Pure.run mixed c_laws_eqSelect_ok (Nat.le_of_ble_eq_true rfl) fun σ hS hA => ?_
  clear hS hA
  have hq := Sel_beq a b
  repeat' first | apply Go.seq | apply Go.skip | apply Go.region | apply Go.nil | apply Go.block | apply Go.blk | apply Go.draw | apply Go.segs | apply Go.qs | apply Qg.nil | (apply Go.exit; exact rfl) | (apply Go.var2; (first | exact Nat.le_add_right _ _ | assumption); (iterate 4 decide); iterate 5 exact rfl) | (apply Go.var; (first | exact Nat.le_add_right _ _ | assumption); decide; iterate 4 exact rfl) | (apply Go.op; exact rfl; (first | exact aop_alloc | exact aop_new rfl rfl | exact aop_mksl rfl | exact aop_lenM rfl | exact rfl | exact aop_load rfl rfl rfl (Nat.le_of_ble_eq_true rfl) rfl | exact aop_store rfl rfl rfl rfl rfl rfl (Nat.le_of_ble_eq_true rfl))) | (apply Go.sop; exact rfl; (first | exact aop_lenM rfl | exact rfl)) | (apply Go.no; exact rfl) | (apply Go.sno; exact rfl) | (apply Qg.op; exact rfl; (first | exact aop_lenM rfl | exact rfl)) | (apply Qg.no; exact rfl) | (apply Go.cond true; exact rfl) | (apply Go.cond false; exact rfl) | ((first | (apply Go.pcallB; iterate 3 exact rfl) | (apply Go.spcallB; iterate 3 exact rfl) | (apply Qg.pcallB; iterate 3 exact rfl)); (first | exact eqTermS_ok a.terms b.terms hb.2.1.1 hb.2.1.2 | exact eqTokS_ok a.wher b.wher hb.2.2.1.1 hb.2.2.1.2 | exact eqInt64S_ok a.by_ b.by_ hb.2.2.2); intro _ _) | (exfalso; omega) | ((first | (apply Go.iteD; exact rfl) | (apply Go.iteE; exact rfl) | (apply Go.iteN; exact rfl) | (apply Go.guardD; exact rfl) | (apply Go.guardE; exact rfl) | (apply Go.guardN; exact rfl) | (apply Go.sguardD; exact rfl) | (apply Go.sguardE; exact rfl) | (apply Go.sguardN; exact rfl) | (apply Qg.guardD; exact rfl) | (apply Qg.guardE; exact rfl) | (apply Qg.guardN; exact rfl)) <;> intro _) | (((first | (apply Go.guard; exact rfl) | (apply Go.sguard; exact rfl) | (apply Qg.guard; exact rfl) | (apply Go.ite; exact rfl)); fail_if_success (intro h; exact absurd h (by decide)); rotate_left; fail_if_success (intro h; exact absurd h (by decide)); rotate_right) <;> intro _)
  all_goals refine .ret rfl (.bool ?_)
  all_goals rw [hq]
  all_goals clear hq hb
  all_goals simp_all
structure Trigger where
  table : List UInt8
  event : Int
  when_ : List Tok
  into : List UInt8
  terms : List Term
  deriving DecidableEq
def encTrigger (a : Trigger) : List Ce := [.str a.table, .int .i64 a.event, .fz (a.when_.map encTok), .str a.into, .fz (a.terms.map encTerm)]
def bTrigger (N : Nat) (a : Trigger) : Prop := a.table.length ≤ N ∧ (a.when_.length ≤ N ∧ ∀ x ∈ a.when_, bTok N x) ∧ a.into.length ≤ N ∧ (a.terms.length ≤ N ∧ ∀ x ∈ a.terms, bTerm N x)
def zTrigger (a : Trigger) : Int → Int := chain [(fun l => l - a.table.length), (szL zTok a.when_), (fun l => l - a.into.length), (szL zTerm a.terms)]
theorem zTrigger_steps (a : Trigger) : Steps [(fun l => l - a.table.length), (szL zTok a.when_), (fun l => l - a.into.length), (szL zTerm a.terms)] := (.cons (step_str _) (.cons (fun l h => szL_le zTok_le _ l h) (.cons (step_str _) (.cons (fun l h => szL_le zTerm_le _ l h) .nil))))
theorem zTrigger_le (a : Trigger) (l : Int) (h : 0 ≤ l) : zTrigger a l ≤ l := chain_le (zTrigger_steps a) l h
theorem bTrigger_of (a : Trigger) (l : Int) (N : Nat) (h0 : 0 ≤ l) (h : 0 ≤ zTrigger a l) (hl : l ≤ N) : bTrigger N a := by
  have hh := chain_all (zTrigger_steps a) l h0 h
  obtain ⟨q0, u0, v0, w0⟩ := hh (fun l => l - a.table.length) (by simp)
  obtain ⟨q1, u1, v1, w1⟩ := hh (szL zTok a.when_) (by simp)
  obtain ⟨q2, u2, v2, w2⟩ := hh (fun l => l - a.into.length) (by simp)
  obtain ⟨q3, u3, v3, w3⟩ := hh (szL zTerm a.terms) (by simp)
  exact ⟨(by (try simp only at w0); omega), (list_of zTok_le bTok_of u1 w1 (by omega)), (by (try simp only at w2); omega), (list_of zTerm_le bTerm_of u3 w3 (by omega))⟩
theorem szTrigger_ok (a : Trigger) (left : Int) (hb : bTrigger 1125899906842624 a) (h0 : 0 ≤ left) (h1 : left ≤ 34359738368) : Pure Tryz.prog 44 [.agg (encTrigger a), .c (.int .i64 left)] (.c (.int .i64 (zTrigger a left))) := by
  refine Pure.run mixed c_laws_szTrigger_ok (Nat.le_of_ble_eq_true rfl) fun σ hS hA => ?_
  clear hS hA
  have w1 : 0 ≤ left → IntKind.i64.wrap (left - a.table.length) = left - a.table.length := fun h => wrap64 (by have : a.table.length ≤ 1125899906842624 := hb.1; omega) (by omega)
  repeat' first | apply Go.seq | apply Go.skip | apply Go.region | apply Go.nil | apply Go.block | apply Go.blk | apply Go.draw | apply Go.segs | apply Go.qs | apply Qg.nil | (apply Go.exit; exact rfl) | (apply Go.var2; (first | exact Nat.le_add_right _ _ | assumption); (iterate 4 decide); iterate 5 exact rfl) | (apply Go.var; (first | exact Nat.le_add_right _ _ | assumption); decide; iterate 4 exact rfl) | (apply Go.op; exact rfl; (first | exact aop_alloc | exact aop_new rfl rfl | exact aop_mksl rfl | exact aop_lenM rfl | exact rfl | exact aop_load rfl rfl rfl (Nat.le_of_ble_eq_true rfl) rfl | exact aop_store rfl rfl rfl rfl rfl rfl (Nat.le_of_ble_eq_true rfl))) | (apply Go.sop; exact rfl; (first | exact aop_lenM rfl | exact rfl)) | (apply Go.no; exact rfl) | (apply Go.sno; exact rfl) | (apply Qg.op; exact rfl; (first | exact aop_lenM rfl | exact rfl)) | (apply Qg.no; exact rfl) | (apply Go.cond true; exact rfl) | (apply Go.cond false; exact rfl) | (exfalso; omega) | ((first | (apply Go.iteD; exact rfl) | (apply Go.iteE; exact rfl) | (apply Go.iteN; exact rfl) | (apply Go.guardD; exact rfl) | (apply Go.guardE; exact rfl) | (apply Go.guardN; exact rfl) | (apply Go.sguardD; exact rfl) | (apply Go.sguardE; exact rfl) | (apply Go.sguardN; exact rfl) | (apply Qg.guardD; exact rfl) | (apply Qg.guardE; exact rfl) | (apply Qg.guardN; exact rfl)) <;> intro _) | (((first | (apply Go.guard; exact rfl) | (apply Go.sguard; exact rfl) | (apply Qg.guard; exact rfl) | (apply Go.ite; exact rfl)); fail_if_success (intro h; exact absurd h (by decide)); rotate_left; fail_if_success (intro h; exact absurd h (by decide)); rotate_right) <;> intro _)
  · refine .ret rfl (.int ?_)
    rename_i h
    have v1 := w1 (by omega)
    simp only [v1] at h
    simp only [zTrigger, chain, if_pos h]
  rename_i g1
  have v1 := w1 (by omega)
  simp only [v1] at g1 ⊢
  obtain ⟨l1, e1⟩ : ∃ q, left - (a.table.length : Int) = q := ⟨_, rfl⟩
  rw [e1] at g1 ⊢
  refine .pcall rfl rfl rfl (szTokS_ok a.when_ l1 hb.2.1.1 hb.2.1.2 (by omega) (by omega)) ?_
  have y2 := szL_le zTok_le a.when_ l1 (by omega)
  generalize e2 : szL zTok a.when_ l1 = l2 at y2 ⊢
  have w3 : 0 ≤ l2 → IntKind.i64.wrap (l2 - a.into.length) = l2 - a.into.length := fun h => wrap64 (by have : a.into.length ≤ 1125899906842624 := hb.2.2.1; omega) (by omega)
  repeat' first | apply Go.seq | apply Go.skip | apply Go.region | apply Go.nil | apply Go.block | apply Go.blk | apply Go.draw | apply Go.segs | apply Go.qs | apply Qg.nil | (apply Go.exit; exact rfl) | (apply Go.var2; (first | exact Nat.le_add_right _ _ | assumption); (iterate 4 decide); iterate 5 exact rfl) | (apply Go.var; (first | exact Nat.le_add_right _ _ | assumption); decide; iterate 4 exact rfl) | (apply Go.op; exact rfl; (first | exact aop_alloc | exact aop_new rfl rfl | exact aop_mksl rfl | exact aop_lenM rfl | exact rfl | exact aop_load rfl rfl rfl (Nat.le_of_ble_eq_true rfl) rfl | exact aop_store rfl rfl rfl rfl rfl rfl (Nat.le_of_ble_eq_true rfl))) | (apply Go.sop; exact rfl; (first | exact aop_lenM rfl | exact rfl)) | (apply Go.no; exact rfl) | (apply Go.sno; exact rfl) | (apply Qg.op; exact rfl; (first | exact aop_lenM rfl | exact rfl)) | (apply Qg.no; exact rfl) | (apply Go.cond true; exact rfl) | (apply Go.cond false; exact rfl) | (exfalso; omega) | ((first | (apply Go.iteD; exact rfl) | (apply Go.iteE; exact rfl) | (apply Go.iteN; exact rfl) | (apply Go.guardD; exact rfl) | (apply Go.guardE; exact rfl) | (apply Go.guardN; exact rfl) | (apply Go.sguardD; exact rfl) | (apply Go.sguardE; exact rfl) | (apply Go.sguardN; exact rfl) | (apply Qg.guardD; exact rfl) | (apply Qg.guardE; exact rfl) | (apply Qg.guardN; exact rfl)) <;> intro _) | (((first | (apply Go.guard; exact rfl) | (apply Go.sguard; exact rfl) | (apply Qg.guard; exact rfl) | (apply Go.ite; exact rfl)); fail_if_success (intro h; exact absurd h (by decide)); rotate_left; fail_if_success (intro h; exact absurd h (by decide)); rotate_right) <;> intro _)
  · refine .ret rfl (.int ?_)
    rename_i h
    simp only [zTrigger, chain, e1, if_neg g1, e2, if_pos h]
  · refine .ret rfl (.int ?_)
    rename_i g2 h
    have v3 := w3 (by omega)
    simp only [v3] at h
    simp only [zTrigger, chain, e1, if_neg g1, e2, if_neg g2, if_pos h]
  rename_i g2 g3
  have v3 := w3 (by omega)
  simp only [v3] at g3 ⊢
  obtain ⟨l3, e3⟩ : ∃ q, l2 - (a.into.length : Int) = q := ⟨_, rfl⟩
  rw [e3] at g3 ⊢
  refine .pcall rfl rfl rfl (szTermS_ok a.terms l3 hb.2.2.2.1 hb.2.2.2.2 (by omega) (by omega)) ?_
  have y4 := szL_le zTerm_le a.terms l3 (by omega)
  generalize e4 : szL zTerm a.terms l3 = l4 at y4 ⊢
  repeat' first | apply Go.seq | apply Go.skip | apply Go.region | apply Go.nil | apply Go.block | apply Go.blk | apply Go.draw | apply Go.segs | apply Go.qs | apply Qg.nil | (apply Go.exit; exact rfl) | (apply Go.var2; (first | exact Nat.le_add_right _ _ | assumption); (iterate 4 decide); iterate 5 exact rfl) | (apply Go.var; (first | exact Nat.le_add_right _ _ | assumption); decide; iterate 4 exact rfl) | (apply Go.op; exact rfl; (first | exact aop_alloc | exact aop_new rfl rfl | exact aop_mksl rfl | exact aop_lenM rfl | exact rfl | exact aop_load rfl rfl rfl (Nat.le_of_ble_eq_true rfl) rfl | exact aop_store rfl rfl rfl rfl rfl rfl (Nat.le_of_ble_eq_true rfl))) | (apply Go.sop; exact rfl; (first | exact aop_lenM rfl | exact rfl)) | (apply Go.no; exact rfl) | (apply Go.sno; exact rfl) | (apply Qg.op; exact rfl; (first | exact aop_lenM rfl | exact rfl)) | (apply Qg.no; exact rfl) | (apply Go.cond true; exact rfl) | (apply Go.cond false; exact rfl) | (exfalso; omega) | ((first | (apply Go.iteD; exact rfl) | (apply Go.iteE; exact rfl) | (apply Go.iteN; exact rfl) | (apply Go.guardD; exact rfl) | (apply Go.guardE; exact rfl) | (apply Go.guardN; exact rfl) | (apply Go.sguardD; exact rfl) | (apply Go.sguardE; exact rfl) | (apply Go.sguardN; exact rfl) | (apply Qg.guardD; exact rfl) | (apply Qg.guardE; exact rfl) | (apply Qg.guardN; exact rfl)) <;> intro _) | (((first | (apply Go.guard; exact rfl) | (apply Go.sguard; exact rfl) | (apply Qg.guard; exact rfl) | (apply Go.ite; exact rfl)); fail_if_success (intro h; exact absurd h (by decide)); rotate_left; fail_if_success (intro h; exact absurd h (by decide)); rotate_right) <;> intro _)
  · refine .ret rfl (.int ?_)
    rename_i h
    simp only [zTrigger, chain, e1, if_neg g1, e2, e3, if_neg g2, if_neg g3, e4, if_pos h]
  rename_i g4
  refine .ret rfl (.int ?_)
  simp only [zTrigger, chain, e1, if_neg g1, e2, e3, if_neg g2, if_neg g3, e4, if_neg g4]
theorem szTriggerS_ok (xs : List Trigger) (left : Int) (hx : xs.length ≤ 1125899906842624) (hv : ∀ e ∈ xs, bTrigger 1125899906842624 e) (h0 : 0 ≤ left) (h1 : left ≤ 34359738368) : Pure Tryz.prog 14 [.c (.fz (xs.map encTrigger)), .c (.int .i64 left)] (.c (.int .i64 (szL zTrigger xs left))) :=
  szS_ok mixed c_laws_szTriggerS_ok encTrigger zTrigger xs left hx h0 h1 (fun _ => rfl) zTrigger_le fun a ha l h2 h3 => szTrigger_ok a l (hv a ha) h2 (by omega)
theorem toTrigger_ok (a : Trigger) (hb : bTrigger 34359738368 a) (σ : Store) : Ok Tryz.prog 46 [.agg (encTrigger a)] σ (NewL σ (encTrigger a)) := by
  refine Ok.run mixed c_laws_toTrigger_ok (Nat.le_of_ble_eq_true rfl) fun hS hA => ?_
  clear hS hA
  repeat' first | apply Go.seq | apply Go.skip | apply Go.region | apply Go.nil | apply Go.block | apply Go.blk | apply Go.draw | apply Go.segs | apply Go.qs | apply Qg.nil | (apply Go.exit; exact rfl) | (apply Go.var2; (first | exact Nat.le_add_right _ _ | assumption); (iterate 4 decide); iterate 5 exact rfl) | (apply Go.var; (first | exact Nat.le_add_right _ _ | assumption); decide; iterate 4 exact rfl) | (apply Go.op; exact rfl; (first | exact aop_alloc | exact aop_new rfl rfl | exact aop_mksl rfl | exact aop_lenM rfl | exact rfl | exact aop_load rfl rfl rfl (Nat.le_of_ble_eq_true rfl) rfl | exact aop_store rfl rfl rfl rfl rfl rfl (Nat.le_of_ble_eq_true rfl))) | (apply Go.sop; exact rfl; (first | exact aop_lenM rfl | exact rfl)) | (apply Go.no; exact rfl) | (apply Go.sno; exact rfl) | (apply Qg.op; exact rfl; (first | exact aop_lenM rfl | exact rfl)) | (apply Qg.no; exact rfl) | (apply Go.cond true; exact rfl) | (apply Go.cond false; exact rfl) | (exfalso; omega) | ((first | (apply Go.iteD; exact rfl) | (apply Go.iteE; exact rfl) | (apply Go.iteN; exact rfl) | (apply Go.guardD; exact rfl) | (apply Go.guardE; exact rfl) | (apply Go.guardN; exact rfl) | (apply Go.sguardD; exact rfl) | (apply Go.sguardE; exact rfl) | (apply Go.sguardN; exact rfl) | (apply Qg.guardD; exact rfl) | (apply Qg.guardE; exact rfl) | (apply Qg.guardN; exact rfl)) <;> intro _) | (((first | (apply Go.guard; exact rfl) | (apply Go.sguard; exact rfl) | (apply Qg.guard; exact rfl) | (apply Go.ite; exact rfl)); fail_if_success (intro h; exact absurd h (by decide)); rotate_left; fail_if_success (intro h; exact absurd h (by decide)); rotate_right) <;> intro _)
  refine Go.call _ rfl rfl rfl (toTokS_ok a.when_ hb.2.1.1 hb.2.1.2 _) ?_
  rintro r σ0 ⟨x0, m0, rfl, rfl, t0, h0⟩
  rw [E_E] at h0 ⊢
  have t0 := tidy_up t0
  have h0 := h0.new2
  repeat' first | apply Go.seq | apply Go.skip | apply Go.region | apply Go.nil | apply Go.block | apply Go.blk | apply Go.draw | apply Go.segs | apply Go.qs | apply Qg.nil | (apply Go.exit; exact rfl) | (apply Go.var2; (first | exact Nat.le_add_right _ _ | assumption); (iterate 4 decide); iterate 5 exact rfl) | (apply Go.var; (first | exact Nat.le_add_right _ _ | assumption); decide; iterate 4 exact rfl) | (apply Go.op; exact rfl; (first | exact aop_alloc | exact aop_new rfl rfl | exact aop_mksl rfl | exact aop_lenM rfl | exact rfl | exact aop_load rfl rfl rfl (Nat.le_of_ble_eq_true rfl) rfl | exact aop_store rfl rfl rfl rfl rfl rfl (Nat.le_of_ble_eq_true rfl))) | (apply Go.sop; exact rfl; (first | exact aop_lenM rfl | exact rfl)) | (apply Go.no; exact rfl) | (apply Go.sno; exact rfl) | (apply Qg.op; exact rfl; (first | exact aop_lenM rfl | exact rfl)) | (apply Qg.no; exact rfl) | (apply Go.cond true; exact rfl) | (apply Go.cond false; exact rfl) | (exfalso; omega) | ((first | (apply Go.iteD; exact rfl) | (apply Go.iteE; exact rfl) | (apply Go.iteN; exact rfl) | (apply Go.guardD; exact rfl) | (apply Go.guardE; exact rfl) | (apply Go.guardN; exact rfl) | (apply Go.sguardD; exact rfl) | (apply Go.sguardE; exact rfl) | (apply Go.sguardN; exact rfl) | (apply Qg.guardD; exact rfl) | (apply Qg.guardE; exact rfl) | (apply Qg.guardN; exact rfl)) <;> intro _) | (((first | (apply Go.guard; exact rfl) | (apply Go.sguard; exact rfl) | (apply Qg.guard; exact rfl) | (apply Go.ite; exact rfl)); fail_if_success (intro h; exact absurd h (by decide)); rotate_left; fail_if_success (intro h; exact absurd h (by decide)); rotate_right) <;> intro _)
  refine Go.call _ rfl rfl rfl (toTermS_ok a.terms hb.2.2.2.1 hb.2.2.2.2 _) ?_
  rintro r σ1 ⟨x1, m1, rfl, rfl, t1, h1⟩
  rw [E_E] at h1 ⊢
  have t1 := tidy_up t1
  have h1 := h1.new2
  have h0 := Has.more h0 (fun a ha => by have h9 := ha.1; have h8 := ha.2; simp only [List.append_eq, List.length_nil, List.length_append, List.nil_append] at h9 h8 ⊢; omega) m1
  repeat' first | apply Go.seq | apply Go.skip | apply Go.region | apply Go.nil | apply Go.block | apply Go.blk | apply Go.draw | apply Go.segs | apply Go.qs | apply Qg.nil | (apply Go.exit; exact rfl) | (apply Go.var2; (first | exact Nat.le_add_right _ _ | assumption); (iterate 4 decide); iterate 5 exact rfl) | (apply Go.var; (first | exact Nat.le_add_right _ _ | assumption); decide; iterate 4 exact rfl) | (apply Go.op; exact rfl; (first | exact aop_alloc | exact aop_new rfl rfl | exact aop_mksl rfl | exact aop_lenM rfl | exact rfl | exact aop_load rfl rfl rfl (Nat.le_of_ble_eq_true rfl) rfl | exact aop_store rfl rfl rfl rfl rfl rfl (Nat.le_of_ble_eq_true rfl))) | (apply Go.sop; exact rfl; (first | exact aop_lenM rfl | exact rfl)) | (apply Go.no; exact rfl) | (apply Go.sno; exact rfl) | (apply Qg.op; exact rfl; (first | exact aop_lenM rfl | exact rfl)) | (apply Qg.no; exact rfl) | (apply Go.cond true; exact rfl) | (apply Go.cond false; exact rfl) | (exfalso; omega) | ((first | (apply Go.iteD; exact rfl) | (apply Go.iteE; exact rfl) | (apply Go.iteN; exact rfl) | (apply Go.guardD; exact rfl) | (apply Go.guardE; exact rfl) | (apply Go.guardN; exact rfl) | (apply Go.sguardD; exact rfl) | (apply Go.sguardE; exact rfl) | (apply Go.sguardN; exact rfl) | (apply Qg.guardD; exact rfl) | (apply Qg.guardE; exact rfl) | (apply Qg.guardN; exact rfl)) <;> intro _) | (((first | (apply Go.guard; exact rfl) | (apply Go.sguard; exact rfl) | (apply Qg.guard; exact rfl) | (apply Go.ite; exact rfl)); fail_if_success (intro h; exact absurd h (by decide)); rotate_left; fail_if_success (intro h; exact absurd h (by decide)); rotate_right) <;> intro _)
  have hL : HasL (E σ ((0, [[.str a.table, .int .i64 a.event, x0, .str a.into, x1]]) :: (0, [[.str a.table, .int .i64 a.event, x0, .str a.into, x1]]) :: ([] ++ m0 ++ m1))) (fun a => σ.next + 2 ≤ a ∧ a < σ.next + 2 + ([] ++ m0 ++ m1).length) (encTrigger a) [.str a.table, .int .i64 a.event, x0, .str a.into, x1] := by
    refine HasL.mono ?_ (HasL.skip (.str _) (HasL.skip (.int _ _) (HasL.two (h0 _ _) (HasL.skip (.str _) (HasL.two (h1 _ _) (HasL.nil (S := fun a => a < 0)) (fun a ha hb => by (try dsimp only at ha hb); (try simp only [List.append_eq, List.length_append, List.length_nil, List.nil_append] at ha hb); omega))) (fun a ha hb => by (try dsimp only at ha hb); (try simp only [List.append_eq, List.length_append, List.length_nil, List.nil_append] at ha hb); omega))))
    intro a ha
    (try dsimp only at ha)
    (try simp only [List.append_eq, List.length_append, List.length_nil, List.nil_append] at ha ⊢)
    omega
  have hT := hL.tidy (n := σ.next) fun a ha => by have := ha.1; omega
  have hM : TidyL σ.next ([] ++ m0 ++ m1) := (tidy_pre (tidy_pre (fun b hb => by simp at hb) t0) t1)
  have hN : NewL σ (encTrigger a) (.agg [.str a.table, .int .i64 a.event, x0, .str a.into, x1]) (E σ ((0, [[.str a.table, .int .i64 a.event, x0, .str a.into, x1]]) :: (0, [[.str a.table, .int .i64 a.event, x0, .str a.into, x1]]) :: ([] ++ m0 ++ m1))) := by
    refine ⟨_, _, rfl, rfl, .one hT (.one hT hM), hL.mono ?_⟩
    intro a ha
    have h9 := ha.1
    have h8 := ha.2
    (try simp only [E_next, List.length_cons, List.append_eq, List.length_append, List.length_nil, List.nil_append] at h8 ⊢)
    constructor <;> omega
  exact .ret (retv_m rfl rfl rfl (Nat.le_of_ble_eq_true rfl) rfl) hN
theorem toTriggerS_ok (xs : List Trigger) (hx : xs.length ≤ 34359738368) (hv : ∀ e ∈ xs, bTrigger 34359738368 e) (σ : Store) : Ok Tryz.prog 16 [.c (.fz (xs.map encTrigger))] σ (New σ (.fz (xs.map encTrigger))) :=
  toS_ok mixed c_laws_toTriggerS_ok encTrigger xs hx (by decide) rfl (fun _ => rfl) (by intro x hx; simp only [List.mem_cons, List.not_mem_nil, or_false] at hx; rcases hx with rfl | rfl | rfl | rfl | rfl <;> constructor) (fun a ha σ => toTrigger_ok a (hv a ha) σ) σ
theorem Trigger_beq (a b : Trigger) : (a == b) = (a.table == b.table && a.event == b.event && a.when_ == b.when_ && a.into == b.into && a.terms == b.terms) := by
  obtain ⟨a0, a1, a2, a3, a4⟩ := a
  obtain ⟨b0, b1, b2, b3, b4⟩ := b
  rw [Bool.eq_iff_iff]
  simp [and_assoc]
theorem eqTrigger_ok (a b : Trigger) (hb : bTrigger 34359738368 a) : Pure Tryz.prog 50 [.agg (encTrigger a), .agg (encTrigger b)] (.c (.bool (a == b))) := by
  refine Pure.run mixed c_laws_eqTrigger_ok (Nat.le_of_ble_eq_true rfl) fun σ hS hA => ?_
  clear hS hA
  have hq := Trigger_beq a b
  repeat' first | apply Go.seq | apply Go.skip | apply Go.region | apply Go.nil | apply Go.block | apply Go.blk | apply Go.draw | apply Go.segs | apply Go.qs | apply Qg.nil | (apply Go.exit; exact rfl) | (apply Go.var2; (first | exact Nat.le_add_right _ _ | assumption); (iterate 4 decide); iterate 5 exact rfl) | (apply Go.var; (first | exact Nat.le_add_right _ _ | assumption); decide; iterate 4 exact rfl) | (apply Go.op; exact rfl; (first | exact aop_alloc | exact aop_new rfl rfl | exact aop_mksl rfl | exact aop_lenM rfl | exact rfl | exact aop_load rfl rfl rfl (Nat.le_of_ble_eq_true rfl) rfl | exact aop_store rfl rfl rfl rfl rfl rfl (Nat.le_of_ble_eq_true rfl))) | (apply Go.sop; exact rfl; (first | exact aop_lenM rfl | exact rfl)) | (apply Go.no; exact rfl) | (apply Go.sno; exact rfl) | (apply Qg.op; exact rfl; (first | exact aop_lenM rfl | exact rfl)) | (apply Qg.no; exact rfl) | (apply Go.cond true; exact rfl) | (apply Go.cond false; exact rfl) | ((first | (apply Go.pcallB; iterate 3 exact rfl) | (apply Go.spcallB; iterate 3 exact rfl) | (apply Qg.pcallB; iterate 3 exact rfl)); (first | exact eqTokS_ok a.when_ b.when_ hb.2.1.1 hb.2.1.2 | exact eqTermS_ok a.terms b.terms hb.2.2.2.1 hb.2.2.2.2); intro _ _) | (exfalso; omega) | ((first | (apply Go.iteD; exact rfl) | (apply Go.iteE; exact rfl) | (apply Go.iteN; exact rfl) | (apply Go.guardD; exact rfl) | (apply Go.guardE; exact rfl) | (apply Go.guardN; exact rfl) | (apply Go.sguardD; exact rfl) | (apply Go.sguardE; exact rfl) | (apply Go.sguardN; exact rfl) | (apply Qg.guardD; exact rfl) | (apply Qg.guardE; exact rfl) | (apply Qg.guardN; exact rfl)) <;> intro _) | (((first | (apply Go.guard; exact rfl) | (apply Go.sguard; exact rfl) | (apply Qg.guard; exact rfl) | (apply Go.ite; exact rfl)); fail_if_success (intro h; exact absurd h (by decide)); rotate_left; fail_if_success (intro h; exact absurd h (by decide)); rotate_right) <;> intro _)
  all_goals refine .ret rfl (.bool ?_)
  all_goals rw [hq]
  all_goals clear hq hb
  all_goals simp_all
theorem eqTriggerS_ok (xs ys : List Trigger) (hx : xs.length ≤ 34359738368) (hv : ∀ e ∈ xs, bTrigger 34359738368 e) : Pure Tryz.prog 18 [.c (.fz (xs.map encTrigger)), .c (.fz (ys.map encTrigger))] (.c (.bool (xs == ys))) :=
  eqS_ok mixed c_laws_eqTriggerS_ok encTrigger xs ys hx (fun _ => rfl) fun a ha b => eqTrigger_ok a b (hv a ha)
end Go.Proofs.YtpjfihdlbdogpaaGreat.Am

/- Names and expressions: what the program and its reference say of them. -/
set_option linter.unusedVariables false
set_option linter.unusedSimpArgs false
namespace Go.Proofs.YtpjfihdlbdogpaaGreat.Am

theorem aop_idxS {fr : Fr} {σ : Store} {x y : Opd} {kd : IntKind} {s : List UInt8} {z : Int} {n : Nat} (hx : x.ev fr = some (.c (.str s))) (hy : y.ev fr = some (.c (.int kd z))) (hz : z = (n : Int)) (hn : n < s.length) : aop (.idx x y) fr σ = some (.c (.int .u8 (s[n].toNat : Int)), σ) := by
  subst hz
  simp [aop, hx, hy, hn]
theorem aop_lenS {fr : Fr} {σ : Store} {x : Opd} {s : List UInt8} (hx : x.ev fr = some (.c (.str s))) : aop (.len true x) fr σ = some (.c (.int .i64 (s.length : Int)), σ) := by
  simp [aop, hx]
def letter (c : UInt8) : Bool := decide (97 ≤ c.toNat) && decide (c.toNat ≤ 122)
def isNameF (s : List UInt8) : Bool := s.all letter && isIn s.length 1 8
theorem isName_ok (s : List UInt8) (hx : s.length ≤ 34359738368) : Pure Tryz.prog 125 [.c (.str s)] (.c (.bool (isNameF s))) := by
  refine Pure.run mixed c_impl_isName_ok (Nat.le_of_ble_eq_true rfl) fun σ hS hA => ?_
  clear hS hA
  repeat' first | apply Go.seq | apply Go.skip | apply Go.region | apply Go.nil | apply Go.block | apply Go.blk | apply Go.draw | apply Go.segs | apply Go.qs | apply Qg.nil | (apply Go.exit; exact rfl) | (apply Go.var2; (first | exact Nat.le_add_right _ _ | assumption); (iterate 4 decide); iterate 5 exact rfl) | (apply Go.var; (first | exact Nat.le_add_right _ _ | assumption); decide; iterate 4 exact rfl) | (apply Go.op; exact rfl; (first | exact aop_alloc | exact aop_new rfl rfl | exact aop_mksl rfl | exact aop_lenM rfl | exact rfl | exact aop_load rfl rfl rfl (Nat.le_of_ble_eq_true rfl) rfl | exact aop_store rfl rfl rfl rfl rfl rfl (Nat.le_of_ble_eq_true rfl))) | (apply Go.sop; exact rfl; (first | exact aop_lenM rfl | exact rfl)) | (apply Go.no; exact rfl) | (apply Go.sno; exact rfl) | (apply Qg.op; exact rfl; (first | exact aop_lenM rfl | exact rfl)) | (apply Qg.no; exact rfl) | (apply Go.cond true; exact rfl) | (apply Go.cond false; exact rfl) | (exfalso; omega) | ((first | (apply Go.iteD; exact rfl) | (apply Go.iteE; exact rfl) | (apply Go.iteN; exact rfl) | (apply Go.guardD; exact rfl) | (apply Go.guardE; exact rfl) | (apply Go.guardN; exact rfl) | (apply Go.sguardD; exact rfl) | (apply Go.sguardE; exact rfl) | (apply Go.sguardN; exact rfl) | (apply Qg.guardD; exact rfl) | (apply Qg.guardE; exact rfl) | (apply Qg.guardN; exact rfl)) <;> intro _) | (((first | (apply Go.guard; exact rfl) | (apply Go.sguard; exact rfl) | (apply Qg.guard; exact rfl) | (apply Go.ite; exact rfl)); fail_if_success (intro h; exact absurd h (by decide)); rotate_left; fail_if_success (intro h; exact absurd h (by decide)); rotate_right) <;> intro _)
  refine Go.keep [0, 5, 6] (Go.loops (I := fun m fr τ => ∃ i : Nat, ∃ n : Int, m = s.length - i ∧ i ≤ s.length ∧ n = i ∧ s.all letter = (s.drop i).all letter ∧
    fr = [(0, .c (.str s)), (5, .c (.int .i64 (s.length : Int))), (6, .c (.int .i64 n))] ∧ τ = E σ []) ?_ _ _ _ ⟨0, _, rfl, Nat.zero_le _, rfl, rfl, rfl, rfl⟩)
  rintro m fr τ ⟨i, n, rfl, hi, hn, hs, rfl, rfl⟩ hrec
  by_cases hlt : i < s.length
  · have hd := List.drop_eq_getElem_cons hlt
    repeat' first | apply Go.seq | apply Go.skip | apply Go.region | apply Go.nil | apply Go.block | apply Go.blk | apply Go.draw | apply Go.segs | apply Go.qs | apply Qg.nil | (apply Go.exit; exact rfl) | (apply Go.var2; (first | exact Nat.le_add_right _ _ | assumption); (iterate 4 decide); iterate 5 exact rfl) | (apply Go.var; (first | exact Nat.le_add_right _ _ | assumption); decide; iterate 4 exact rfl) | (apply Go.op; exact rfl; (first | exact aop_alloc | exact aop_new rfl rfl | exact aop_mksl rfl | exact aop_lenM rfl | exact rfl | exact aop_load rfl rfl rfl (Nat.le_of_ble_eq_true rfl) rfl | exact aop_store rfl rfl rfl rfl rfl rfl (Nat.le_of_ble_eq_true rfl) | exact aop_idxS rfl rfl hn hlt)) | (apply Go.sop; exact rfl; (first | exact aop_lenM rfl | exact rfl | exact aop_idxS rfl rfl hn hlt)) | (apply Go.no; exact rfl) | (apply Go.sno; exact rfl) | (apply Qg.op; exact rfl; (first | exact aop_lenM rfl | exact rfl | exact aop_idxS rfl rfl hn hlt)) | (apply Qg.no; exact rfl) | (apply Go.cond true; exact rfl) | (apply Go.cond false; exact rfl) | (exfalso; omega) | ((first | (apply Go.iteD; exact rfl) | (apply Go.iteE; exact rfl) | (apply Go.iteN; exact rfl) | (apply Go.guardD; exact rfl) | (apply Go.guardE; exact rfl) | (apply Go.guardN; exact rfl) | (apply Go.sguardD; exact rfl) | (apply Go.sguardE; exact rfl) | (apply Go.sguardN; exact rfl) | (apply Qg.guardD; exact rfl) | (apply Qg.guardE; exact rfl) | (apply Qg.guardN; exact rfl)) <;> intro _) | (((first | (apply Go.guard; exact rfl) | (apply Go.sguard; exact rfl) | (apply Qg.guard; exact rfl) | (apply Go.ite; exact rfl)); fail_if_success (intro h; exact absurd h (by decide)); rotate_left; fail_if_success (intro h; exact absurd h (by decide)); rotate_right) <;> intro _)
    · refine .ret rfl (.bool ?_)
      rename_i h
      rw [isNameF, hs, hd, List.all_cons, letter, decide_eq_false (by omega)]
      rfl
    · refine .ret rfl (.bool ?_)
      rename_i h h2
      rw [isNameF, hs, hd, List.all_cons, letter, decide_eq_false (p := s[i].toNat ≤ 122) (by omega)]
      simp
    · rename_i h h2
      refine Go.keep [0, 5, 6] (hrec _ _ _ (by omega) ⟨i + 1, _, rfl, hlt, wrap_succ hn (by omega), ?_, rfl, rfl⟩)
      rw [hs, hd, List.all_cons, letter, decide_eq_true (by omega), decide_eq_true (by omega)]
      rfl
  · repeat' first | apply Go.seq | apply Go.skip | apply Go.region | apply Go.nil | apply Go.block | apply Go.blk | apply Go.draw | apply Go.segs | apply Go.qs | apply Qg.nil | (apply Go.exit; exact rfl) | (apply Go.var2; (first | exact Nat.le_add_right _ _ | assumption); (iterate 4 decide); iterate 5 exact rfl) | (apply Go.var; (first | exact Nat.le_add_right _ _ | assumption); decide; iterate 4 exact rfl) | (apply Go.op; exact rfl; (first | exact aop_alloc | exact aop_new rfl rfl | exact aop_mksl rfl | exact aop_lenM rfl | exact rfl | exact aop_load rfl rfl rfl (Nat.le_of_ble_eq_true rfl) rfl | exact aop_store rfl rfl rfl rfl rfl rfl (Nat.le_of_ble_eq_true rfl))) | (apply Go.sop; exact rfl; (first | exact aop_lenM rfl | exact rfl)) | (apply Go.no; exact rfl) | (apply Go.sno; exact rfl) | (apply Qg.op; exact rfl; (first | exact aop_lenM rfl | exact rfl)) | (apply Qg.no; exact rfl) | (apply Go.cond true; exact rfl) | (apply Go.cond false; exact rfl) | ((first | (apply Go.pcall; iterate 3 exact rfl) | (apply Go.spcall; iterate 3 exact rfl) | (apply Qg.pcall; iterate 3 exact rfl)); exact in_ok _ _ _) | (exfalso; omega) | ((first | (apply Go.iteD; exact rfl) | (apply Go.iteE; exact rfl) | (apply Go.iteN; exact rfl) | (apply Go.guardD; exact rfl) | (apply Go.guardE; exact rfl) | (apply Go.guardN; exact rfl) | (apply Go.sguardD; exact rfl) | (apply Go.sguardE; exact rfl) | (apply Go.sguardN; exact rfl) | (apply Qg.guardD; exact rfl) | (apply Qg.guardE; exact rfl) | (apply Qg.guardN; exact rfl)) <;> intro _) | (((first | (apply Go.guard; exact rfl) | (apply Go.sguard; exact rfl) | (apply Qg.guard; exact rfl) | (apply Go.ite; exact rfl)); fail_if_success (intro h; exact absurd h (by decide)); rotate_left; fail_if_success (intro h; exact absurd h (by decide)); rotate_right) <;> intro _)
    refine .ret rfl (.bool ?_)
    rw [isNameF, hs, List.drop_eq_nil_of_le (by omega)]
    rfl
theorem l3Name_ok (s : List UInt8) (hx : s.length ≤ 34359738368) : Pure Tryz.prog 115 [.c (.str s)] (.c (.bool (isNameF s))) := by
  refine Pure.run mixed c_spec_l3Name_ok (Nat.le_of_ble_eq_true rfl) fun σ hS hA => ?_
  clear hS hA
  repeat' first | apply Go.seq | apply Go.skip | apply Go.region | apply Go.nil | apply Go.block | apply Go.blk | apply Go.draw | apply Go.segs | apply Go.qs | apply Qg.nil | (apply Go.exit; exact rfl) | (apply Go.var2; (first | exact Nat.le_add_right _ _ | assumption); (iterate 4 decide); iterate 5 exact rfl) | (apply Go.var; (first | exact Nat.le_add_right _ _ | assumption); decide; iterate 4 exact rfl) | (apply Go.op; exact rfl; (first | exact aop_alloc | exact aop_new rfl rfl | exact aop_mksl rfl | exact aop_lenM rfl | exact rfl | exact aop_load rfl rfl rfl (Nat.le_of_ble_eq_true rfl) rfl | exact aop_store rfl rfl rfl rfl rfl rfl (Nat.le_of_ble_eq_true rfl))) | (apply Go.sop; exact rfl; (first | exact aop_lenM rfl | exact rfl)) | (apply Go.no; exact rfl) | (apply Go.sno; exact rfl) | (apply Qg.op; exact rfl; (first | exact aop_lenM rfl | exact rfl)) | (apply Qg.no; exact rfl) | (apply Go.cond true; exact rfl) | (apply Go.cond false; exact rfl) | (exfalso; omega) | ((first | (apply Go.iteD; exact rfl) | (apply Go.iteE; exact rfl) | (apply Go.iteN; exact rfl) | (apply Go.guardD; exact rfl) | (apply Go.guardE; exact rfl) | (apply Go.guardN; exact rfl) | (apply Go.sguardD; exact rfl) | (apply Go.sguardE; exact rfl) | (apply Go.sguardN; exact rfl) | (apply Qg.guardD; exact rfl) | (apply Qg.guardE; exact rfl) | (apply Qg.guardN; exact rfl)) <;> intro _) | (((first | (apply Go.guard; exact rfl) | (apply Go.sguard; exact rfl) | (apply Qg.guard; exact rfl) | (apply Go.ite; exact rfl)); fail_if_success (intro h; exact absurd h (by decide)); rotate_left; fail_if_success (intro h; exact absurd h (by decide)); rotate_right) <;> intro _)
  refine Go.keep [0, 3] (Go.loops (I := fun m fr τ => ∃ i : Nat, ∃ n : Int, m = s.length - i ∧ i ≤ s.length ∧ n = i ∧ s.all letter = (s.drop i).all letter ∧
    fr = [(0, .c (.str s)), (3, .c (.int .i64 n))] ∧ τ = E σ []) ?_ _ _ _ ⟨0, _, rfl, Nat.zero_le _, rfl, rfl, rfl, rfl⟩)
  rintro m fr τ ⟨i, n, rfl, hi, hn, hs, rfl, rfl⟩ hrec
  by_cases hlt : i < s.length
  · have hd := List.drop_eq_getElem_cons hlt
    repeat' first | apply Go.seq | apply Go.skip | apply Go.region | apply Go.nil | apply Go.block | apply Go.blk | apply Go.draw | apply Go.segs | apply Go.qs | apply Qg.nil | (apply Go.exit; exact rfl) | (apply Go.var2; (first | exact Nat.le_add_right _ _ | assumption); (iterate 4 decide); iterate 5 exact rfl) | (apply Go.var; (first | exact Nat.le_add_right _ _ | assumption); decide; iterate 4 exact rfl) | (apply Go.op; exact rfl; (first | exact aop_alloc | exact aop_new rfl rfl | exact aop_mksl rfl | exact aop_lenM rfl | exact rfl | exact aop_load rfl rfl rfl (Nat.le_of_ble_eq_true rfl) rfl | exact aop_store rfl rfl rfl rfl rfl rfl (Nat.le_of_ble_eq_true rfl) | exact aop_idxS rfl rfl hn hlt)) | (apply Go.sop; exact rfl; (first | exact aop_lenM rfl | exact rfl | exact aop_idxS rfl rfl hn hlt)) | (apply Go.no; exact rfl) | (apply Go.sno; exact rfl) | (apply Qg.op; exact rfl; (first | exact aop_lenM rfl | exact rfl | exact aop_idxS rfl rfl hn hlt)) | (apply Qg.no; exact rfl) | (apply Go.cond true; exact rfl) | (apply Go.cond false; exact rfl) | (exfalso; omega) | ((first | (apply Go.iteD; exact rfl) | (apply Go.iteE; exact rfl) | (apply Go.iteN; exact rfl) | (apply Go.guardD; exact rfl) | (apply Go.guardE; exact rfl) | (apply Go.guardN; exact rfl) | (apply Go.sguardD; exact rfl) | (apply Go.sguardE; exact rfl) | (apply Go.sguardN; exact rfl) | (apply Qg.guardD; exact rfl) | (apply Qg.guardE; exact rfl) | (apply Qg.guardN; exact rfl)) <;> intro _) | (((first | (apply Go.guard; exact rfl) | (apply Go.sguard; exact rfl) | (apply Qg.guard; exact rfl) | (apply Go.ite; exact rfl)); fail_if_success (intro h; exact absurd h (by decide)); rotate_left; fail_if_success (intro h; exact absurd h (by decide)); rotate_right) <;> intro _)
    · refine .ret rfl (.bool ?_)
      rename_i h
      rw [isNameF, hs, hd, List.all_cons, letter, decide_eq_false (by omega)]
      rfl
    · refine .ret rfl (.bool ?_)
      rename_i h h2
      rw [isNameF, hs, hd, List.all_cons, letter, decide_eq_false (p := s[i].toNat ≤ 122) (by omega)]
      simp
    · rename_i h h2
      refine Go.keep [0, 3] (hrec _ _ _ (by omega) ⟨i + 1, _, rfl, hlt, wrap_succ hn (by omega), ?_, rfl, rfl⟩)
      rw [hs, hd, List.all_cons, letter, decide_eq_true (by omega), decide_eq_true (by omega)]
      rfl
  · repeat' first | apply Go.seq | apply Go.skip | apply Go.region | apply Go.nil | apply Go.block | apply Go.blk | apply Go.draw | apply Go.segs | apply Go.qs | apply Qg.nil | (apply Go.exit; exact rfl) | (apply Go.var2; (first | exact Nat.le_add_right _ _ | assumption); (iterate 4 decide); iterate 5 exact rfl) | (apply Go.var; (first | exact Nat.le_add_right _ _ | assumption); decide; iterate 4 exact rfl) | (apply Go.op; exact rfl; (first | exact aop_alloc | exact aop_new rfl rfl | exact aop_mksl rfl | exact aop_lenM rfl | exact rfl | exact aop_load rfl rfl rfl (Nat.le_of_ble_eq_true rfl) rfl | exact aop_store rfl rfl rfl rfl rfl rfl (Nat.le_of_ble_eq_true rfl))) | (apply Go.sop; exact rfl; (first | exact aop_lenM rfl | exact rfl)) | (apply Go.no; exact rfl) | (apply Go.sno; exact rfl) | (apply Qg.op; exact rfl; (first | exact aop_lenM rfl | exact rfl)) | (apply Qg.no; exact rfl) | (apply Go.cond true; exact rfl) | (apply Go.cond false; exact rfl) | ((first | (apply Go.pcall; iterate 3 exact rfl) | (apply Go.spcall; iterate 3 exact rfl) | (apply Qg.pcall; iterate 3 exact rfl)); exact l1In_ok _ _ _) | (exfalso; omega) | ((first | (apply Go.iteD; exact rfl) | (apply Go.iteE; exact rfl) | (apply Go.iteN; exact rfl) | (apply Go.guardD; exact rfl) | (apply Go.guardE; exact rfl) | (apply Go.guardN; exact rfl) | (apply Go.sguardD; exact rfl) | (apply Go.sguardE; exact rfl) | (apply Go.sguardN; exact rfl) | (apply Qg.guardD; exact rfl) | (apply Qg.guardE; exact rfl) | (apply Qg.guardN; exact rfl)) <;> intro _) | (((first | (apply Go.guard; exact rfl) | (apply Go.sguard; exact rfl) | (apply Qg.guard; exact rfl) | (apply Go.ite; exact rfl)); fail_if_success (intro h; exact absurd h (by decide)); rotate_left; fail_if_success (intro h; exact absurd h (by decide)); rotate_right) <;> intro _)
    refine .ret rfl (.bool ?_)
    rw [isNameF, hs, List.drop_eq_nil_of_le (by omega)]
    rfl

/-! ### Expressions -/
def tokTakes (t : Tok) : Int := if t.kind = 1 ∨ t.kind = 2 then 0 else if t.kind = 7 ∨ t.kind = 8 then 1 else 2
def vz (v : Val) : Bool := v.k == 0 && (v.n == 0 && v.s == [])
def isTokF (t : Tok) (n : Int) : Bool := if t.kind = 1 then isIn t.col 0 (n - 1) && vz t.v else if t.kind = 2 then t.col == 0 && okVal t.v else isIn t.kind 3 10 && t.col == 0 && vz t.v
theorem takes_ok (t : Tok) : Pure Tryz.prog 138 [.agg (encTok t)] (.c (.int .i64 (tokTakes t))) := by
  refine Pure.run mixed c_impl_Tok_takes_ok (Nat.le_of_ble_eq_true rfl) fun σ hS hA => ?_
  clear hS hA
  repeat' first | apply Go.seq | apply Go.skip | apply Go.region | apply Go.nil | apply Go.block | apply Go.blk | apply Go.draw | apply Go.segs | apply Go.qs | apply Qg.nil | (apply Go.exit; exact rfl) | (apply Go.var2; (first | exact Nat.le_add_right _ _ | assumption); (iterate 4 decide); iterate 5 exact rfl) | (apply Go.var; (first | exact Nat.le_add_right _ _ | assumption); decide; iterate 4 exact rfl) | (apply Go.op; exact rfl; (first | exact aop_alloc | exact aop_new rfl rfl | exact aop_mksl rfl | exact aop_lenM rfl | exact rfl | exact aop_load rfl rfl rfl (Nat.le_of_ble_eq_true rfl) rfl | exact aop_store rfl rfl rfl rfl rfl rfl (Nat.le_of_ble_eq_true rfl))) | (apply Go.sop; exact rfl; (first | exact aop_lenM rfl | exact rfl)) | (apply Go.no; exact rfl) | (apply Go.sno; exact rfl) | (apply Qg.op; exact rfl; (first | exact aop_lenM rfl | exact rfl)) | (apply Qg.no; exact rfl) | (apply Go.cond true; exact rfl) | (apply Go.cond false; exact rfl) | (exfalso; omega) | ((first | (apply Go.iteD; exact rfl) | (apply Go.iteE; exact rfl) | (apply Go.iteN; exact rfl) | (apply Go.guardD; exact rfl) | (apply Go.guardE; exact rfl) | (apply Go.guardN; exact rfl) | (apply Go.sguardD; exact rfl) | (apply Go.sguardE; exact rfl) | (apply Go.sguardN; exact rfl) | (apply Qg.guardD; exact rfl) | (apply Qg.guardE; exact rfl) | (apply Qg.guardN; exact rfl)) <;> intro _) | (((first | (apply Go.guard; exact rfl) | (apply Go.sguard; exact rfl) | (apply Qg.guard; exact rfl) | (apply Go.ite; exact rfl)); fail_if_success (intro h; exact absurd h (by decide)); rotate_left; fail_if_success (intro h; exact absurd h (by decide)); rotate_right) <;> intro _)
  all_goals refine .ret rfl (.int ?_)
  all_goals simp_all [tokTakes]
theorem isTok_ok (t : Tok) (n : Int) (h0 : -4611686018427387904 ≤ n) (h1 : n ≤ 4611686018427387904) : Pure Tryz.prog 137 [.agg (encTok t), .c (.int .i64 n)] (.c (.bool (isTokF t n))) := by
  refine Pure.run mixed c_impl_isTok_ok (Nat.le_of_ble_eq_true rfl) fun σ hS hA => ?_
  clear hS hA
  have hw : IntKind.i64.wrap (n - 1) = n - 1 := wrap64 (by omega) (by omega)
  repeat' first | apply Go.seq | apply Go.skip | apply Go.region | apply Go.nil | apply Go.block | apply Go.blk | apply Go.draw | apply Go.segs | apply Go.qs | apply Qg.nil | (apply Go.exit; exact rfl) | (apply Go.var2; (first | exact Nat.le_add_right _ _ | assumption); (iterate 4 decide); iterate 5 exact rfl) | (apply Go.var; (first | exact Nat.le_add_right _ _ | assumption); decide; iterate 4 exact rfl) | (apply Go.op; exact rfl; (first | exact aop_alloc | exact aop_new rfl rfl | exact aop_mksl rfl | exact aop_lenM rfl | exact rfl | exact aop_load rfl rfl rfl (Nat.le_of_ble_eq_true rfl) rfl | exact aop_store rfl rfl rfl rfl rfl rfl (Nat.le_of_ble_eq_true rfl))) | (apply Go.sop; exact rfl; (first | exact aop_lenM rfl | exact rfl)) | (apply Go.no; exact rfl) | (apply Go.sno; exact rfl) | (apply Qg.op; exact rfl; (first | exact aop_lenM rfl | exact rfl)) | (apply Qg.no; exact rfl) | (apply Go.cond true; exact rfl) | (apply Go.cond false; exact rfl) | ((first | (apply Go.pcallB; iterate 3 exact rfl) | (apply Go.spcallB; iterate 3 exact rfl) | (apply Qg.pcallB; iterate 3 exact rfl)); (first | exact in_ok _ _ _ | exact ValOk_ok _); intro _ _) | (exfalso; omega) | ((first | (apply Go.iteD; exact rfl) | (apply Go.iteE; exact rfl) | (apply Go.iteN; exact rfl) | (apply Go.guardD; exact rfl) | (apply Go.guardE; exact rfl) | (apply Go.guardN; exact rfl) | (apply Go.sguardD; exact rfl) | (apply Go.sguardE; exact rfl) | (apply Go.sguardN; exact rfl) | (apply Qg.guardD; exact rfl) | (apply Qg.guardE; exact rfl) | (apply Qg.guardN; exact rfl)) <;> intro _) | (((first | (apply Go.guard; exact rfl) | (apply Go.sguard; exact rfl) | (apply Qg.guard; exact rfl) | (apply Go.ite; exact rfl)); fail_if_success (intro h; exact absurd h (by decide)); rotate_left; fail_if_success (intro h; exact absurd h (by decide)); rotate_right) <;> intro _)
  all_goals refine .ret rfl (.bool ?_)
  all_goals simp_all [isTokF, vz]
end Go.Proofs.YtpjfihdlbdogpaaGreat.Am

/- Expressions and lists of columns. -/
set_option linter.unusedVariables false
set_option linter.unusedSimpArgs false
namespace Go.Proofs.YtpjfihdlbdogpaaGreat.Am

theorem nbT {x b : Bool} (h : x = b) (k : (!b) = true) : x = false := by cases b <;> simp_all
theorem nbF {x b : Bool} (h : x = b) (k : (!b) = false) : x = true := by cases b <;> simp_all
theorem bT {x b : Bool} (h : x = b) (k : b = true) : x = true := h.trans k
theorem bF {x b : Bool} (h : x = b) (k : b = false) : x = false := h.trans k
def takesF (t : Tok) (n : Int) : Int := if isTokF t n then tokTakes t else -1
theorem isIn_310 {k : Int} : isIn k 3 10 = true ↔ (k = 3 ∨ k = 4 ∨ k = 5 ∨ k = 6 ∨ k = 7 ∨ k = 8 ∨ k = 9 ∨ k = 10) := by
  simp only [isIn, Bool.and_eq_true, decide_eq_true_eq]
  omega
theorem l2Takes_ok (t : Tok) (n : Int) (h0 : -4611686018427387904 ≤ n) (h1 : n ≤ 4611686018427387904) : Pure Tryz.prog 118 [.agg (encTok t), .c (.int .i64 n)] (.c (.int .i64 (takesF t n))) := by
  refine Pure.run mixed c_spec_l2Takes_ok (Nat.le_of_ble_eq_true rfl) fun σ hS hA => ?_
  clear hS hA
  have hw : IntKind.i64.wrap (n - 1) = n - 1 := wrap64 (by omega) (by omega)
  have h310 := @isIn_310 t.kind
  repeat' first | apply Go.seq | apply Go.skip | apply Go.region | apply Go.nil | apply Go.block | apply Go.blk | apply Go.draw | apply Go.segs | apply Go.qs | apply Qg.nil | (apply Go.exit; exact rfl) | (apply Go.var2; (first | exact Nat.le_add_right _ _ | assumption); (iterate 4 decide); iterate 5 exact rfl) | (apply Go.var; (first | exact Nat.le_add_right _ _ | assumption); decide; iterate 4 exact rfl) | (apply Go.op; exact rfl; (first | exact aop_alloc | exact aop_new rfl rfl | exact aop_mksl rfl | exact aop_lenM rfl | exact rfl | exact aop_load rfl rfl rfl (Nat.le_of_ble_eq_true rfl) rfl | exact aop_store rfl rfl rfl rfl rfl rfl (Nat.le_of_ble_eq_true rfl))) | (apply Go.sop; exact rfl; (first | exact aop_lenM rfl | exact rfl)) | (apply Go.no; exact rfl) | (apply Go.sno; exact rfl) | (apply Qg.op; exact rfl; (first | exact aop_lenM rfl | exact rfl)) | (apply Qg.no; exact rfl) | (apply Go.cond true; exact rfl) | (apply Go.cond false; exact rfl) | ((first | (apply Go.pcallB; iterate 3 exact rfl) | (apply Go.spcallB; iterate 3 exact rfl) | (apply Qg.pcallB; iterate 3 exact rfl)); (first | exact l1In_ok _ _ _ | exact sValOk_ok _); intro _ _) | (exfalso; omega) | ((first | (apply Go.iteD; exact rfl) | (apply Go.iteE; exact rfl) | (apply Go.iteN; exact rfl) | (apply Go.guardD; exact rfl) | (apply Go.guardE; exact rfl) | (apply Go.guardN; exact rfl) | (apply Go.sguardD; exact rfl) | (apply Go.sguardE; exact rfl) | (apply Go.sguardN; exact rfl) | (apply Qg.guardD; exact rfl) | (apply Qg.guardE; exact rfl) | (apply Qg.guardN; exact rfl)) <;> intro _) | (((first | (apply Go.guard; exact rfl) | (apply Go.sguard; exact rfl) | (apply Qg.guard; exact rfl) | (apply Go.ite; exact rfl)); fail_if_success (intro h; exact absurd h (by decide)); rotate_left; fail_if_success (intro h; exact absurd h (by decide)); rotate_right) <;> intro _)
  all_goals refine .ret rfl (.int ?_)
  all_goals first
    | (simp_all [takesF, isTokF, vz, tokTakes]; done)
    | (cases hk : isIn t.kind 3 10 <;> simp_all [takesF, isTokF, vz, tokTakes]; done)
    | (rename_i hl; have hz : vz t.v = false := (by cases h : vz t.v; (· rfl); (· exfalso; simp [vz] at h; simp [h] at hl)); clear hl; simp_all [takesF, isTokF]; done)
def exprAux (n : Int) : Int → List Tok → Bool
  | left, [] => left == 1
  | left, t :: r => isTokF t n && decide (tokTakes t ≤ left) && exprAux n (left + 1 - tokTakes t) r
theorem tokTakes_range (t : Tok) : 0 ≤ tokTakes t ∧ tokTakes t ≤ 2 := by
  simp only [tokTakes]
  split
  · omega
  · split <;> omega
theorem ExprOk_ok (e : List Tok) (n : Int) (hx : e.length ≤ 34359738368) : Pure Tryz.prog 90 [.c (.fz (e.map encTok)), .c (.int .i64 n)] (.c (.bool (decide ((e.length : Int) ≤ 24) && isIn n 0 16 && exprAux n 0 e))) := by
  refine Pure.run mixed c_impl_ExprOk_ok (Nat.le_of_ble_eq_true rfl) fun σ hS hA => ?_
  clear hS hA
  repeat' first | apply Go.seq | apply Go.skip | apply Go.region | apply Go.nil | apply Go.block | apply Go.blk | apply Go.draw | apply Go.segs | apply Go.qs | apply Qg.nil | (apply Go.exit; exact rfl) | (apply Go.var2; (first | exact Nat.le_add_right _ _ | assumption); (iterate 4 decide); iterate 5 exact rfl) | (apply Go.var; (first | exact Nat.le_add_right _ _ | assumption); decide; iterate 4 exact rfl) | (apply Go.op; exact rfl; (first | exact aop_alloc | exact aop_new rfl rfl | exact aop_mksl rfl | exact aop_lenM rfl | exact rfl | exact aop_load rfl rfl rfl (Nat.le_of_ble_eq_true rfl) rfl | exact aop_store rfl rfl rfl rfl rfl rfl (Nat.le_of_ble_eq_true rfl))) | (apply Go.sop; exact rfl; (first | exact aop_lenM rfl | exact rfl)) | (apply Go.no; exact rfl) | (apply Go.sno; exact rfl) | (apply Qg.op; exact rfl; (first | exact aop_lenM rfl | exact rfl)) | (apply Qg.no; exact rfl) | (apply Go.cond true; exact rfl) | (apply Go.cond false; exact rfl) | ((first | (apply Go.pcallB; iterate 3 exact rfl) | (apply Go.spcallB; iterate 3 exact rfl) | (apply Qg.pcallB; iterate 3 exact rfl)); exact in_ok _ _ _; intro _ _) | (exfalso; omega) | ((first | (apply Go.iteD; exact rfl) | (apply Go.iteE; exact rfl) | (apply Go.iteN; exact rfl) | (apply Go.guardD; exact rfl) | (apply Go.guardE; exact rfl) | (apply Go.guardN; exact rfl) | (apply Go.sguardD; exact rfl) | (apply Go.sguardE; exact rfl) | (apply Go.sguardN; exact rfl) | (apply Qg.guardD; exact rfl) | (apply Qg.guardE; exact rfl) | (apply Qg.guardN; exact rfl)) <;> intro _) | (((first | (apply Go.guard; exact rfl) | (apply Go.sguard; exact rfl) | (apply Qg.guard; exact rfl) | (apply Go.ite; exact rfl)); fail_if_success (intro h; exact absurd h (by decide)); rotate_left; fail_if_success (intro h; exact absurd h (by decide)); rotate_right) <;> intro _)
  · refine .ret rfl (.bool ?_)
    rename_i h
    rw [decide_eq_false (by omega)]
    rfl
  · refine .ret rfl (.bool ?_)
    simp_all
  rename_i hl b hb hn
  have hn16 : 0 ≤ n ∧ n ≤ 16 := by
    have : isIn n 0 16 = true := by simp_all
    simpa [isIn] using this
  refine Go.keep [1, 5, 16, 17, 18] (Go.loops (I := fun m fr τ => ∃ i : Nat, ∃ k l : Int, m = e.length - i ∧ i ≤ e.length ∧ k = i ∧ (0 ≤ l ∧ l ≤ i ∧ exprAux n 0 e = exprAux n l (e.drop i)) ∧
    fr = [(1, .c (.int .i64 n)), (5, .c (.int .i64 l)), (16, .c (.fz (e.map encTok))), (17, .c (.int .i64 (e.length : Int))), (18, .c (.int .i64 k))] ∧ τ = E σ []) ?_ _ _ _ ⟨0, _, _, rfl, Nat.zero_le _, rfl, ⟨Int.le_refl _, by simp, rfl⟩, rfl, rfl⟩)
  rintro m fr τ ⟨i, k, l, rfl, hi, hk, ⟨hl0, hl1, hsl⟩, rfl, rfl⟩ hrec
  have hres : (decide ((e.length : Int) ≤ 24) && isIn n 0 16 && exprAux n 0 e) = exprAux n 0 e := by
    rw [decide_eq_true (p := (e.length : Int) ≤ 24) (by omega), hb]
    cases b
    · simp at hn
    · simp
  by_cases hlt : i < e.length
  · have hd := List.drop_eq_getElem_cons hlt
    have ht := tokTakes_range e[i]
    repeat' first | apply Go.seq | apply Go.skip | apply Go.region | apply Go.nil | apply Go.block | apply Go.blk | apply Go.draw | apply Go.segs | apply Go.qs | apply Qg.nil | (apply Go.exit; exact rfl) | (apply Go.var2; (first | exact Nat.le_add_right _ _ | assumption); (iterate 4 decide); iterate 5 exact rfl) | (apply Go.var; (first | exact Nat.le_add_right _ _ | assumption); decide; iterate 4 exact rfl) | (apply Go.op; exact rfl; (first | exact aop_alloc | exact aop_new rfl rfl | exact aop_mksl rfl | exact aop_lenM rfl | exact rfl | exact aop_load rfl rfl rfl (Nat.le_of_ble_eq_true rfl) rfl | exact aop_store rfl rfl rfl rfl rfl rfl (Nat.le_of_ble_eq_true rfl) | exact aop_iaddrM (enc := encTok) rfl rfl hk hlt rfl)) | (apply Go.sop; exact rfl; (first | exact aop_lenM rfl | exact rfl | exact aop_iaddrM (enc := encTok) rfl rfl hk hlt rfl)) | (apply Go.no; exact rfl) | (apply Go.sno; exact rfl) | (apply Qg.op; exact rfl; (first | exact aop_lenM rfl | exact rfl | exact aop_iaddrM (enc := encTok) rfl rfl hk hlt rfl)) | (apply Qg.no; exact rfl) | (apply Go.cond true; exact rfl) | (apply Go.cond false; exact rfl) | ((first | (apply Go.pcall; iterate 3 exact rfl) | (apply Go.spcall; iterate 3 exact rfl) | (apply Qg.pcall; iterate 3 exact rfl)); exact takes_ok e[i]) | ((first | (apply Go.pcallB; iterate 3 exact rfl) | (apply Go.spcallB; iterate 3 exact rfl) | (apply Qg.pcallB; iterate 3 exact rfl)); exact isTok_ok e[i] n (by omega) (by omega); intro _ _) | (exfalso; omega) | ((first | (apply Go.iteD; exact rfl) | (apply Go.iteE; exact rfl) | (apply Go.iteN; exact rfl) | (apply Go.guardD; exact rfl) | (apply Go.guardE; exact rfl) | (apply Go.guardN; exact rfl) | (apply Go.sguardD; exact rfl) | (apply Go.sguardE; exact rfl) | (apply Go.sguardN; exact rfl) | (apply Qg.guardD; exact rfl) | (apply Qg.guardE; exact rfl) | (apply Qg.guardN; exact rfl)) <;> intro _) | (((first | (apply Go.guard; exact rfl) | (apply Go.sguard; exact rfl) | (apply Qg.guard; exact rfl) | (apply Go.ite; exact rfl)); fail_if_success (intro h; exact absurd h (by decide)); rotate_left; fail_if_success (intro h; exact absurd h (by decide)); rotate_right) <;> intro _)
    · refine .ret rfl (.bool ?_)
      rename_i b1 hb1 hb2
      rw [hres, hsl, hd, exprAux, nbT hb1 hb2]
      rfl
    · refine .ret rfl (.bool ?_)
      rename_i h
      rw [hres, hsl, hd, exprAux, decide_eq_false (p := tokTakes e[i] ≤ l) (by omega)]
      simp
    · rename_i b1 hb1 hb2 h
      have w1 : IntKind.i64.wrap (1 - tokTakes e[i]) = 1 - tokTakes e[i] := wrap64 (by omega) (by omega)
      have w2 : IntKind.i64.wrap (l + (1 - tokTakes e[i])) = l + 1 - tokTakes e[i] := by rw [wrap64 (by omega) (by omega)]; omega
      refine Go.keep [1, 5, 16, 17, 18] (hrec _ _ _ (by omega) ⟨i + 1, _, _, rfl, hlt, wrap_succ hk (by omega), ⟨?_, ?_, ?_⟩, rfl, rfl⟩)
      · rw [w1, w2]; omega
      · rw [w1, w2]; omega
      · rw [w1, w2, hsl, hd, exprAux, decide_eq_true (p := tokTakes e[i] ≤ l) (by omega)]
        rw [nbF hb1 hb2]
        rfl
  · repeat' first | apply Go.seq | apply Go.skip | apply Go.region | apply Go.nil | apply Go.block | apply Go.blk | apply Go.draw | apply Go.segs | apply Go.qs | apply Qg.nil | (apply Go.exit; exact rfl) | (apply Go.var2; (first | exact Nat.le_add_right _ _ | assumption); (iterate 4 decide); iterate 5 exact rfl) | (apply Go.var; (first | exact Nat.le_add_right _ _ | assumption); decide; iterate 4 exact rfl) | (apply Go.op; exact rfl; (first | exact aop_alloc | exact aop_new rfl rfl | exact aop_mksl rfl | exact aop_lenM rfl | exact rfl | exact aop_load rfl rfl rfl (Nat.le_of_ble_eq_true rfl) rfl | exact aop_store rfl rfl rfl rfl rfl rfl (Nat.le_of_ble_eq_true rfl))) | (apply Go.sop; exact rfl; (first | exact aop_lenM rfl | exact rfl)) | (apply Go.no; exact rfl) | (apply Go.sno; exact rfl) | (apply Qg.op; exact rfl; (first | exact aop_lenM rfl | exact rfl)) | (apply Qg.no; exact rfl) | (apply Go.cond true; exact rfl) | (apply Go.cond false; exact rfl) | (exfalso; omega) | ((first | (apply Go.iteD; exact rfl) | (apply Go.iteE; exact rfl) | (apply Go.iteN; exact rfl) | (apply Go.guardD; exact rfl) | (apply Go.guardE; exact rfl) | (apply Go.guardN; exact rfl) | (apply Go.sguardD; exact rfl) | (apply Go.sguardE; exact rfl) | (apply Go.sguardN; exact rfl) | (apply Qg.guardD; exact rfl) | (apply Qg.guardE; exact rfl) | (apply Qg.guardN; exact rfl)) <;> intro _) | (((first | (apply Go.guard; exact rfl) | (apply Go.sguard; exact rfl) | (apply Qg.guard; exact rfl) | (apply Go.ite; exact rfl)); fail_if_success (intro h; exact absurd h (by decide)); rotate_left; fail_if_success (intro h; exact absurd h (by decide)); rotate_right) <;> intro _)
    refine .ret rfl (.bool ?_)
    rw [hres, hsl, List.drop_eq_nil_of_le (by omega)]
    rfl
theorem l2Expr_ok (e : List Tok) (n : Int) (hx : e.length ≤ 34359738368) (h0 : -4611686018427387904 ≤ n) (h1 : n ≤ 4611686018427387904) : Pure Tryz.prog 72 [.c (.fz (e.map encTok)), .c (.int .i64 n)] (.c (.bool (decide ((e.length : Int) ≤ 24) && exprAux n 0 e))) := by
  refine Pure.run mixed c_spec_l2Expr_ok (Nat.le_of_ble_eq_true rfl) fun σ hS hA => ?_
  clear hS hA
  repeat' first | apply Go.seq | apply Go.skip | apply Go.region | apply Go.nil | apply Go.block | apply Go.blk | apply Go.draw | apply Go.segs | apply Go.qs | apply Qg.nil | (apply Go.exit; exact rfl) | (apply Go.var2; (first | exact Nat.le_add_right _ _ | assumption); (iterate 4 decide); iterate 5 exact rfl) | (apply Go.var; (first | exact Nat.le_add_right _ _ | assumption); decide; iterate 4 exact rfl) | (apply Go.op; exact rfl; (first | exact aop_alloc | exact aop_new rfl rfl | exact aop_mksl rfl | exact aop_lenM rfl | exact rfl | exact aop_load rfl rfl rfl (Nat.le_of_ble_eq_true rfl) rfl | exact aop_store rfl rfl rfl rfl rfl rfl (Nat.le_of_ble_eq_true rfl))) | (apply Go.sop; exact rfl; (first | exact aop_lenM rfl | exact rfl)) | (apply Go.no; exact rfl) | (apply Go.sno; exact rfl) | (apply Qg.op; exact rfl; (first | exact aop_lenM rfl | exact rfl)) | (apply Qg.no; exact rfl) | (apply Go.cond true; exact rfl) | (apply Go.cond false; exact rfl) | (exfalso; omega) | ((first | (apply Go.iteD; exact rfl) | (apply Go.iteE; exact rfl) | (apply Go.iteN; exact rfl) | (apply Go.guardD; exact rfl) | (apply Go.guardE; exact rfl) | (apply Go.guardN; exact rfl) | (apply Go.sguardD; exact rfl) | (apply Go.sguardE; exact rfl) | (apply Go.sguardN; exact rfl) | (apply Qg.guardD; exact rfl) | (apply Qg.guardE; exact rfl) | (apply Qg.guardN; exact rfl)) <;> intro _) | (((first | (apply Go.guard; exact rfl) | (apply Go.sguard; exact rfl) | (apply Qg.guard; exact rfl) | (apply Go.ite; exact rfl)); fail_if_success (intro h; exact absurd h (by decide)); rotate_left; fail_if_success (intro h; exact absurd h (by decide)); rotate_right) <;> intro _)
  refine Go.keep [0, 1, 5, 6] (Go.loops (I := fun m fr τ => ∃ i : Nat, ∃ k l : Int, m = e.length - i ∧ i ≤ e.length ∧ k = i ∧ (0 ≤ l ∧ l ≤ i ∧ exprAux n 0 e = exprAux n l (e.drop i)) ∧
    fr = [(0, .c (.fz (e.map encTok))), (1, .c (.int .i64 n)), (5, .c (.int .i64 l)), (6, .c (.int .i64 k))] ∧ τ = E σ []) ?_ _ _ _ ⟨0, _, _, rfl, Nat.zero_le _, rfl, ⟨Int.le_refl _, by simp, rfl⟩, rfl, rfl⟩)
  rintro m fr τ ⟨i, k, l, rfl, hi, hk, ⟨hl0, hl1, hsl⟩, rfl, rfl⟩ hrec
  by_cases hlt : i < e.length
  · have hd := List.drop_eq_getElem_cons hlt
    have ht := tokTakes_range e[i]
    have neg : (isTokF e[i] n = false ∨ ¬ tokTakes e[i] ≤ l) → (decide ((e.length : Int) ≤ 24) && exprAux n 0 e) = false := by
      intro h
      rw [hsl, hd, exprAux]
      rcases h with h | h
      · simp [h]
      · rw [decide_eq_false (p := tokTakes e[i] ≤ l) h]; simp
    repeat' first | apply Go.seq | apply Go.skip | apply Go.region | apply Go.nil | apply Go.block | apply Go.blk | apply Go.draw | apply Go.segs | apply Go.qs | apply Qg.nil | (apply Go.exit; exact rfl) | (apply Go.var2; (first | exact Nat.le_add_right _ _ | assumption); (iterate 4 decide); iterate 5 exact rfl) | (apply Go.var; (first | exact Nat.le_add_right _ _ | assumption); decide; iterate 4 exact rfl) | (apply Go.op; exact rfl; (first | exact aop_alloc | exact aop_new rfl rfl | exact aop_mksl rfl | exact aop_lenM rfl | exact rfl | exact aop_load rfl rfl rfl (Nat.le_of_ble_eq_true rfl) rfl | exact aop_store rfl rfl rfl rfl rfl rfl (Nat.le_of_ble_eq_true rfl) | exact aop_iaddrM (enc := encTok) rfl rfl hk hlt rfl)) | (apply Go.sop; exact rfl; (first | exact aop_lenM rfl | exact rfl | exact aop_iaddrM (enc := encTok) rfl rfl hk hlt rfl)) | (apply Go.no; exact rfl) | (apply Go.sno; exact rfl) | (apply Qg.op; exact rfl; (first | exact aop_lenM rfl | exact rfl | exact aop_iaddrM (enc := encTok) rfl rfl hk hlt rfl)) | (apply Qg.no; exact rfl) | (apply Go.cond true; exact rfl) | (apply Go.cond false; exact rfl) | ((first | (apply Go.pcallI; iterate 3 exact rfl) | (apply Go.spcallI; iterate 3 exact rfl) | (apply Qg.pcallI; iterate 3 exact rfl)); exact l2Takes_ok e[i] n h0 h1; intro _ _) | (exfalso; omega) | ((first | (apply Go.iteD; exact rfl) | (apply Go.iteE; exact rfl) | (apply Go.iteN; exact rfl) | (apply Go.guardD; exact rfl) | (apply Go.guardE; exact rfl) | (apply Go.guardN; exact rfl) | (apply Go.sguardD; exact rfl) | (apply Go.sguardE; exact rfl) | (apply Go.sguardN; exact rfl) | (apply Qg.guardD; exact rfl) | (apply Qg.guardE; exact rfl) | (apply Qg.guardN; exact rfl)) <;> intro _) | (((first | (apply Go.guard; exact rfl) | (apply Go.sguard; exact rfl) | (apply Qg.guard; exact rfl) | (apply Go.ite; exact rfl)); fail_if_success (intro h; exact absurd h (by decide)); rotate_left; fail_if_success (intro h; exact absurd h (by decide)); rotate_right) <;> intro _)
    · refine .ret rfl (.bool ?_)
      rename_i q hq h
      refine (neg (.inl ?_)).symm
      cases hc : isTokF e[i] n
      · rfl
      · simp only [takesF, hc, if_true] at hq; omega
    · refine .ret rfl (.bool ?_)
      rename_i q hq h h2
      refine (neg (.inr ?_)).symm
      simp only [takesF] at hq
      split at hq <;> omega
    · rename_i q hq h h2
      have hc : isTokF e[i] n = true ∧ tokTakes e[i] = q := by
        simp only [takesF] at hq
        split at hq
        · exact ⟨by assumption, hq⟩
        · omega
      have w1 : IntKind.i64.wrap (l - q) = l - q := wrap64 (by omega) (by omega)
      have w2 : IntKind.i64.wrap (l - q + 1) = l + 1 - tokTakes e[i] := by rw [wrap64 (by omega) (by omega)]; omega
      refine Go.keep [0, 1, 5, 6] (hrec _ _ _ (by omega) ⟨i + 1, _, _, rfl, hlt, wrap_succ hk (by omega), ⟨?_, ?_, ?_⟩, rfl, rfl⟩)
      · rw [w1, w2]; omega
      · rw [w1, w2]; omega
      · rw [w1, w2, hsl, hd, exprAux, decide_eq_true (p := tokTakes e[i] ≤ l) (by omega), hc.1]
        rfl
  · have hfin : exprAux n 0 e = (l == 1) := by
      rw [hsl, List.drop_eq_nil_of_le (by omega)]
      rfl
    repeat' first | apply Go.seq | apply Go.skip | apply Go.region | apply Go.nil | apply Go.block | apply Go.blk | apply Go.draw | apply Go.segs | apply Go.qs | apply Qg.nil | (apply Go.exit; exact rfl) | (apply Go.var2; (first | exact Nat.le_add_right _ _ | assumption); (iterate 4 decide); iterate 5 exact rfl) | (apply Go.var; (first | exact Nat.le_add_right _ _ | assumption); decide; iterate 4 exact rfl) | (apply Go.op; exact rfl; (first | exact aop_alloc | exact aop_new rfl rfl | exact aop_mksl rfl | exact aop_lenM rfl | exact rfl | exact aop_load rfl rfl rfl (Nat.le_of_ble_eq_true rfl) rfl | exact aop_store rfl rfl rfl rfl rfl rfl (Nat.le_of_ble_eq_true rfl))) | (apply Go.sop; exact rfl; (first | exact aop_lenM rfl | exact rfl)) | (apply Go.no; exact rfl) | (apply Go.sno; exact rfl) | (apply Qg.op; exact rfl; (first | exact aop_lenM rfl | exact rfl)) | (apply Qg.no; exact rfl) | (apply Go.cond true; exact rfl) | (apply Go.cond false; exact rfl) | (exfalso; omega) | ((first | (apply Go.iteD; exact rfl) | (apply Go.iteE; exact rfl) | (apply Go.iteN; exact rfl) | (apply Go.guardD; exact rfl) | (apply Go.guardE; exact rfl) | (apply Go.guardN; exact rfl) | (apply Go.sguardD; exact rfl) | (apply Go.sguardE; exact rfl) | (apply Go.sguardN; exact rfl) | (apply Qg.guardD; exact rfl) | (apply Qg.guardE; exact rfl) | (apply Qg.guardN; exact rfl)) <;> intro _) | (((first | (apply Go.guard; exact rfl) | (apply Go.sguard; exact rfl) | (apply Qg.guard; exact rfl) | (apply Go.ite; exact rfl)); fail_if_success (intro h; exact absurd h (by decide)); rotate_left; fail_if_success (intro h; exact absurd h (by decide)); rotate_right) <;> intro _)
    all_goals refine .ret rfl (.bool ?_)
    all_goals rw [hfin]
    all_goals clear hrec hfin hsl
    all_goals simp_all
/-! ### Lists of columns -/
def colsAux (n : Int) : List Int → List Int → Bool
  | _, [] => true
  | pre, c :: r => isIn c 0 (n - 1) && !(pre.any fun a => c == a) && colsAux n (pre ++ [c]) r
def colsF (l : List Int) (n : Int) : Bool := colsAux n [] l && decide (0 < (l.length : Int))
theorem aop_sliceF {fr : Fr} {σ : Store} {s : Nat} {x hi : Opd} {kd : IntKind} {es : List (List Ce)} {z : Int} {n : Nat} (hx : x.ev fr = some (.c (.fz es))) (hy : hi.ev fr = some (.c (.int kd z))) (hz : z = (n : Int)) (hn : n ≤ es.length) (hs : ∀ e ∈ es, e.length = s) : aop (.slice s x none (some hi) none) fr σ = some (.c (.fz (es.take n)), σ) := by
  have : sliceA σ s (.fz es) none (some (.c (.int kd z))) none = some (.fz (es.take n)) := by
    subst hz
    simp only [sliceA, bound]
    rw [if_pos (by omega)]
    simp only [Int.toNat_natCast]
    rw [if_pos ⟨Nat.zero_le _, hn, hs⟩, List.drop_zero]
  simp only [aop, hx, evo, hy, Option.map_some, this]
theorem encI_len {l : List Int} : ∀ e ∈ l.map encI, e.length = 1 := fun e he => (flatI l e he).1
theorem areColumns_ok (l : List Int) (n : Int) (hx : l.length ≤ 34359738368) (h0 : -4611686018427387904 ≤ n) (h1 : n ≤ 4611686018427387904) : Pure Tryz.prog 39 [.c (.fz (l.map encI)), .c (.int .i64 n)] (.c (.bool (colsF l n))) := by
  refine Pure.run mixed c_impl_areColumns_ok (Nat.le_of_ble_eq_true rfl) fun σ hS hA => ?_
  clear hS hA
  have hw : IntKind.i64.wrap (n - 1) = n - 1 := wrap64 (by omega) (by omega)
  repeat' first | apply Go.seq | apply Go.skip | apply Go.region | apply Go.nil | apply Go.block | apply Go.blk | apply Go.draw | apply Go.segs | apply Go.qs | apply Qg.nil | (apply Go.exit; exact rfl) | (apply Go.var2; (first | exact Nat.le_add_right _ _ | assumption); (iterate 4 decide); iterate 5 exact rfl) | (apply Go.var; (first | exact Nat.le_add_right _ _ | assumption); decide; iterate 4 exact rfl) | (apply Go.op; exact rfl; (first | exact aop_alloc | exact aop_new rfl rfl | exact aop_mksl rfl | exact aop_lenM rfl | exact rfl | exact aop_load rfl rfl rfl (Nat.le_of_ble_eq_true rfl) rfl | exact aop_store rfl rfl rfl rfl rfl rfl (Nat.le_of_ble_eq_true rfl))) | (apply Go.sop; exact rfl; (first | exact aop_lenM rfl | exact rfl)) | (apply Go.no; exact rfl) | (apply Go.sno; exact rfl) | (apply Qg.op; exact rfl; (first | exact aop_lenM rfl | exact rfl)) | (apply Qg.no; exact rfl) | (apply Go.cond true; exact rfl) | (apply Go.cond false; exact rfl) | (exfalso; omega) | ((first | (apply Go.iteD; exact rfl) | (apply Go.iteE; exact rfl) | (apply Go.iteN; exact rfl) | (apply Go.guardD; exact rfl) | (apply Go.guardE; exact rfl) | (apply Go.guardN; exact rfl) | (apply Go.sguardD; exact rfl) | (apply Go.sguardE; exact rfl) | (apply Go.sguardN; exact rfl) | (apply Qg.guardD; exact rfl) | (apply Qg.guardE; exact rfl) | (apply Qg.guardN; exact rfl)) <;> intro _) | (((first | (apply Go.guard; exact rfl) | (apply Go.sguard; exact rfl) | (apply Qg.guard; exact rfl) | (apply Go.ite; exact rfl)); fail_if_success (intro h; exact absurd h (by decide)); rotate_left; fail_if_success (intro h; exact absurd h (by decide)); rotate_right) <;> intro _)
  refine Go.keep [0, 1, 7, 8, 9] (Go.loops (I := fun m fr τ => ∃ i : Nat, ∃ k : Int, m = l.length - i ∧ i ≤ l.length ∧ k = i ∧ colsAux n [] l = colsAux n (l.take i) (l.drop i) ∧
    fr = [(0, .c (.fz (l.map encI))), (1, .c (.int .i64 n)), (7, .c (.fz (l.map encI))), (8, .c (.int .i64 (l.length : Int))), (9, .c (.int .i64 k))] ∧ τ = E σ []) ?_ _ _ _ ⟨0, _, rfl, Nat.zero_le _, rfl, rfl, rfl, rfl⟩)
  rintro m fr τ ⟨i, k, rfl, hi, hk, hsl, rfl, rfl⟩ hrec
  by_cases hlt : i < l.length
  · have hd := List.drop_eq_getElem_cons hlt
    have htk : (l.map encI).take i = (l.take i).map encI := List.map_take.symm
    have hstep : colsAux n [] l = (isIn l[i] 0 (n - 1) && !((l.take i).any fun a => l[i] == a) && colsAux n (l.take (i + 1)) (l.drop (i + 1))) := by
      rw [hsl, hd, colsAux, List.take_succ_eq_append_getElem hlt]
    repeat' first | apply Go.seq | apply Go.skip | apply Go.region | apply Go.nil | apply Go.block | apply Go.blk | apply Go.draw | apply Go.segs | apply Go.qs | apply Qg.nil | (apply Go.exit; exact rfl) | (apply Go.var2; (first | exact Nat.le_add_right _ _ | assumption); (iterate 4 decide); iterate 5 exact rfl) | (apply Go.var; (first | exact Nat.le_add_right _ _ | assumption); decide; iterate 4 exact rfl) | (apply Go.op; exact rfl; (first | exact aop_alloc | exact aop_new rfl rfl | exact aop_mksl rfl | exact aop_lenM rfl | exact rfl | exact aop_load rfl rfl rfl (Nat.le_of_ble_eq_true rfl) rfl | exact aop_store rfl rfl rfl rfl rfl rfl (Nat.le_of_ble_eq_true rfl) | exact aop_iaddrM (enc := encI) rfl rfl hk hlt rfl)) | (apply Go.sop; exact rfl; (first | exact aop_lenM rfl | exact rfl | exact aop_iaddrM (enc := encI) rfl rfl hk hlt rfl)) | (apply Go.no; exact rfl) | (apply Go.sno; exact rfl) | (apply Qg.op; exact rfl; (first | exact aop_lenM rfl | exact rfl | exact aop_iaddrM (enc := encI) rfl rfl hk hlt rfl)) | (apply Qg.no; exact rfl) | (apply Go.cond true; exact rfl) | (apply Go.cond false; exact rfl) | ((first | (apply Go.pcallB; iterate 3 exact rfl) | (apply Go.spcallB; iterate 3 exact rfl) | (apply Qg.pcallB; iterate 3 exact rfl)); exact in_ok _ _ _; intro _ _) | (exfalso; omega) | ((first | (apply Go.iteD; exact rfl) | (apply Go.iteE; exact rfl) | (apply Go.iteN; exact rfl) | (apply Go.guardD; exact rfl) | (apply Go.guardE; exact rfl) | (apply Go.guardN; exact rfl) | (apply Go.sguardD; exact rfl) | (apply Go.sguardE; exact rfl) | (apply Go.sguardN; exact rfl) | (apply Qg.guardD; exact rfl) | (apply Qg.guardE; exact rfl) | (apply Qg.guardN; exact rfl)) <;> intro _) | (((first | (apply Go.guard; exact rfl) | (apply Go.sguard; exact rfl) | (apply Qg.guard; exact rfl) | (apply Go.ite; exact rfl)); fail_if_success (intro h; exact absurd h (by decide)); rotate_left; fail_if_success (intro h; exact absurd h (by decide)); rotate_right) <;> intro _)
    · refine .ret rfl (.bool ?_)
      rename_i b hb hb2
      rw [hw] at hb
      rw [colsF, hstep, nbT hb hb2]
      rfl
    rename_i b hb hb2
    refine .op rfl (aop_sliceF (n := i) rfl rfl hk (by simp; omega) encI_len) ?_
    rw [htk]
    repeat' first | apply Go.seq | apply Go.skip | apply Go.region | apply Go.nil | apply Go.block | apply Go.blk | apply Go.draw | apply Go.segs | apply Go.qs | apply Qg.nil | (apply Go.exit; exact rfl) | (apply Go.var2; (first | exact Nat.le_add_right _ _ | assumption); (iterate 4 decide); iterate 5 exact rfl) | (apply Go.var; (first | exact Nat.le_add_right _ _ | assumption); decide; iterate 4 exact rfl) | (apply Go.op; exact rfl; (first | exact aop_alloc | exact aop_new rfl rfl | exact aop_mksl rfl | exact aop_lenM rfl | exact rfl | exact aop_load rfl rfl rfl (Nat.le_of_ble_eq_true rfl) rfl | exact aop_store rfl rfl rfl rfl rfl rfl (Nat.le_of_ble_eq_true rfl))) | (apply Go.sop; exact rfl; (first | exact aop_lenM rfl | exact rfl)) | (apply Go.no; exact rfl) | (apply Go.sno; exact rfl) | (apply Qg.op; exact rfl; (first | exact aop_lenM rfl | exact rfl)) | (apply Qg.no; exact rfl) | (apply Go.cond true; exact rfl) | (apply Go.cond false; exact rfl) | ((first | (apply Go.pcallB; iterate 3 exact rfl) | (apply Go.spcallB; iterate 3 exact rfl) | (apply Qg.pcallB; iterate 3 exact rfl)); exact containsInt_ok mixed c_slices_Contains_int64_int64_ok c_slices_Index_int64_int64_ok (l.take i) l[i] (by simp; omega); intro _ _) | (exfalso; omega) | ((first | (apply Go.iteD; exact rfl) | (apply Go.iteE; exact rfl) | (apply Go.iteN; exact rfl) | (apply Go.guardD; exact rfl) | (apply Go.guardE; exact rfl) | (apply Go.guardN; exact rfl) | (apply Go.sguardD; exact rfl) | (apply Go.sguardE; exact rfl) | (apply Go.sguardN; exact rfl) | (apply Qg.guardD; exact rfl) | (apply Qg.guardE; exact rfl) | (apply Qg.guardN; exact rfl)) <;> intro _) | (((first | (apply Go.guard; exact rfl) | (apply Go.sguard; exact rfl) | (apply Qg.guard; exact rfl) | (apply Go.ite; exact rfl)); fail_if_success (intro h; exact absurd h (by decide)); rotate_left; fail_if_success (intro h; exact absurd h (by decide)); rotate_right) <;> intro _)
    · refine .ret rfl (.bool ?_)
      rename_i b1 hb1 hb3
      rw [colsF, hstep, bT hb1 hb3]
      simp
    · refine Go.keep [0, 1, 7, 8, 9] (hrec _ _ _ (by omega) ⟨i + 1, _, rfl, hlt, wrap_succ hk (by omega), ?_, rfl, rfl⟩)
      rename_i b1 hb1 hb3
      rw [hw] at hb
      rw [hstep, bF hb1 hb3, nbF hb hb2]
      simp
  · have hfin : colsAux n [] l = true := by
      rw [hsl, List.drop_eq_nil_of_le (by omega)]
      rfl
    repeat' first | apply Go.seq | apply Go.skip | apply Go.region | apply Go.nil | apply Go.block | apply Go.blk | apply Go.draw | apply Go.segs | apply Go.qs | apply Qg.nil | (apply Go.exit; exact rfl) | (apply Go.var2; (first | exact Nat.le_add_right _ _ | assumption); (iterate 4 decide); iterate 5 exact rfl) | (apply Go.var; (first | exact Nat.le_add_right _ _ | assumption); decide; iterate 4 exact rfl) | (apply Go.op; exact rfl; (first | exact aop_alloc | exact aop_new rfl rfl | exact aop_mksl rfl | exact aop_lenM rfl | exact rfl | exact aop_load rfl rfl rfl (Nat.le_of_ble_eq_true rfl) rfl | exact aop_store rfl rfl rfl rfl rfl rfl (Nat.le_of_ble_eq_true rfl))) | (apply Go.sop; exact rfl; (first | exact aop_lenM rfl | exact rfl)) | (apply Go.no; exact rfl) | (apply Go.sno; exact rfl) | (apply Qg.op; exact rfl; (first | exact aop_lenM rfl | exact rfl)) | (apply Qg.no; exact rfl) | (apply Go.cond true; exact rfl) | (apply Go.cond false; exact rfl) | (exfalso; omega) | ((first | (apply Go.iteD; exact rfl) | (apply Go.iteE; exact rfl) | (apply Go.iteN; exact rfl) | (apply Go.guardD; exact rfl) | (apply Go.guardE; exact rfl) | (apply Go.guardN; exact rfl) | (apply Go.sguardD; exact rfl) | (apply Go.sguardE; exact rfl) | (apply Go.sguardN; exact rfl) | (apply Qg.guardD; exact rfl) | (apply Qg.guardE; exact rfl) | (apply Qg.guardN; exact rfl)) <;> intro _) | (((first | (apply Go.guard; exact rfl) | (apply Go.sguard; exact rfl) | (apply Qg.guard; exact rfl) | (apply Go.ite; exact rfl)); fail_if_success (intro h; exact absurd h (by decide)); rotate_left; fail_if_success (intro h; exact absurd h (by decide)); rotate_right) <;> intro _)
    refine .ret rfl (.bool ?_)
    rw [colsF, hfin]
    rfl
end Go.Proofs.YtpjfihdlbdogpaaGreat.Am

/- Tables: their columns, references, rules. -/
set_option linter.unusedVariables false
set_option linter.unusedSimpArgs false
namespace Go.Proofs.YtpjfihdlbdogpaaGreat.Am

theorem l1Has_ok (l : List Int) (v : Int) (hx : l.length ≤ 34359738368) : Pure Tryz.prog 119 [.c (.fz (l.map encI)), .c (.int .i64 v)] (.c (.bool (l.any fun a => v == a))) := by
  refine Pure.run mixed c_spec_l1Has_ok (Nat.le_of_ble_eq_true rfl) fun σ hS hA => ?_
  clear hS hA
  repeat' first | apply Go.seq | apply Go.skip | apply Go.region | apply Go.nil | apply Go.block | apply Go.blk | apply Go.draw | apply Go.segs | apply Go.qs | apply Qg.nil | (apply Go.exit; exact rfl) | (apply Go.var2; (first | exact Nat.le_add_right _ _ | assumption); (iterate 4 decide); iterate 5 exact rfl) | (apply Go.var; (first | exact Nat.le_add_right _ _ | assumption); decide; iterate 4 exact rfl) | (apply Go.op; exact rfl; (first | exact aop_alloc | exact aop_new rfl rfl | exact aop_mksl rfl | exact aop_lenM rfl | exact rfl | exact aop_load rfl rfl rfl (Nat.le_of_ble_eq_true rfl) rfl | exact aop_store rfl rfl rfl rfl rfl rfl (Nat.le_of_ble_eq_true rfl))) | (apply Go.sop; exact rfl; (first | exact aop_lenM rfl | exact rfl)) | (apply Go.no; exact rfl) | (apply Go.sno; exact rfl) | (apply Qg.op; exact rfl; (first | exact aop_lenM rfl | exact rfl)) | (apply Qg.no; exact rfl) | (apply Go.cond true; exact rfl) | (apply Go.cond false; exact rfl) | (exfalso; omega) | ((first | (apply Go.iteD; exact rfl) | (apply Go.iteE; exact rfl) | (apply Go.iteN; exact rfl) | (apply Go.guardD; exact rfl) | (apply Go.guardE; exact rfl) | (apply Go.guardN; exact rfl) | (apply Go.sguardD; exact rfl) | (apply Go.sguardE; exact rfl) | (apply Go.sguardN; exact rfl) | (apply Qg.guardD; exact rfl) | (apply Qg.guardE; exact rfl) | (apply Qg.guardN; exact rfl)) <;> intro _) | (((first | (apply Go.guard; exact rfl) | (apply Go.sguard; exact rfl) | (apply Qg.guard; exact rfl) | (apply Go.ite; exact rfl)); fail_if_success (intro h; exact absurd h (by decide)); rotate_left; fail_if_success (intro h; exact absurd h (by decide)); rotate_right) <;> intro _)
  refine Go.keep [0, 1, 5] (Go.loops (I := fun m fr τ => ∃ i : Nat, ∃ k : Int, m = l.length - i ∧ i ≤ l.length ∧ k = i ∧ (l.any fun a => v == a) = ((l.drop i).any fun a => v == a) ∧
    fr = [(0, .c (.fz (l.map encI))), (1, .c (.int .i64 v)), (5, .c (.int .i64 k))] ∧ τ = E σ []) ?_ _ _ _ ⟨0, _, rfl, Nat.zero_le _, rfl, rfl, rfl, rfl⟩)
  rintro m fr τ ⟨i, k, rfl, hi, hn, hsl, rfl, rfl⟩ hrec
  by_cases hlt : i < l.length
  · have hd := List.drop_eq_getElem_cons hlt
    repeat' first | apply Go.seq | apply Go.skip | apply Go.region | apply Go.nil | apply Go.block | apply Go.blk | apply Go.draw | apply Go.segs | apply Go.qs | apply Qg.nil | (apply Go.exit; exact rfl) | (apply Go.var2; (first | exact Nat.le_add_right _ _ | assumption); (iterate 4 decide); iterate 5 exact rfl) | (apply Go.var; (first | exact Nat.le_add_right _ _ | assumption); decide; iterate 4 exact rfl) | (apply Go.op; exact rfl; (first | exact aop_alloc | exact aop_new rfl rfl | exact aop_mksl rfl | exact aop_lenM rfl | exact rfl | exact aop_load rfl rfl rfl (Nat.le_of_ble_eq_true rfl) rfl | exact aop_store rfl rfl rfl rfl rfl rfl (Nat.le_of_ble_eq_true rfl) | exact aop_iaddrM (enc := encI) rfl rfl hn hlt rfl)) | (apply Go.sop; exact rfl; (first | exact aop_lenM rfl | exact rfl | exact aop_iaddrM (enc := encI) rfl rfl hn hlt rfl)) | (apply Go.no; exact rfl) | (apply Go.sno; exact rfl) | (apply Qg.op; exact rfl; (first | exact aop_lenM rfl | exact rfl | exact aop_iaddrM (enc := encI) rfl rfl hn hlt rfl)) | (apply Qg.no; exact rfl) | (apply Go.cond true; exact rfl) | (apply Go.cond false; exact rfl) | (exfalso; omega) | ((first | (apply Go.iteD; exact rfl) | (apply Go.iteE; exact rfl) | (apply Go.iteN; exact rfl) | (apply Go.guardD; exact rfl) | (apply Go.guardE; exact rfl) | (apply Go.guardN; exact rfl) | (apply Go.sguardD; exact rfl) | (apply Go.sguardE; exact rfl) | (apply Go.sguardN; exact rfl) | (apply Qg.guardD; exact rfl) | (apply Qg.guardE; exact rfl) | (apply Qg.guardN; exact rfl)) <;> intro _) | (((first | (apply Go.guard; exact rfl) | (apply Go.sguard; exact rfl) | (apply Qg.guard; exact rfl) | (apply Go.ite; exact rfl)); fail_if_success (intro h; exact absurd h (by decide)); rotate_left; fail_if_success (intro h; exact absurd h (by decide)); rotate_right) <;> intro _)
    · refine .ret rfl (.bool ?_)
      rename_i h
      rw [hsl, hd, List.any_cons, h]
      simp
    · rename_i h
      refine Go.keep [0, 1, 5] (hrec _ _ _ (by omega) ⟨i + 1, _, rfl, hlt, wrap_succ hn (by omega), ?_, rfl, rfl⟩)
      rw [hsl, hd, List.any_cons, beq_eq_false_iff_ne.2 (fun e => h e.symm)]
      rfl
  · repeat' first | apply Go.seq | apply Go.skip | apply Go.region | apply Go.nil | apply Go.block | apply Go.blk | apply Go.draw | apply Go.segs | apply Go.qs | apply Qg.nil | (apply Go.exit; exact rfl) | (apply Go.var2; (first | exact Nat.le_add_right _ _ | assumption); (iterate 4 decide); iterate 5 exact rfl) | (apply Go.var; (first | exact Nat.le_add_right _ _ | assumption); decide; iterate 4 exact rfl) | (apply Go.op; exact rfl; (first | exact aop_alloc | exact aop_new rfl rfl | exact aop_mksl rfl | exact aop_lenM rfl | exact rfl | exact aop_load rfl rfl rfl (Nat.le_of_ble_eq_true rfl) rfl | exact aop_store rfl rfl rfl rfl rfl rfl (Nat.le_of_ble_eq_true rfl))) | (apply Go.sop; exact rfl; (first | exact aop_lenM rfl | exact rfl)) | (apply Go.no; exact rfl) | (apply Go.sno; exact rfl) | (apply Qg.op; exact rfl; (first | exact aop_lenM rfl | exact rfl)) | (apply Qg.no; exact rfl) | (apply Go.cond true; exact rfl) | (apply Go.cond false; exact rfl) | (exfalso; omega) | ((first | (apply Go.iteD; exact rfl) | (apply Go.iteE; exact rfl) | (apply Go.iteN; exact rfl) | (apply Go.guardD; exact rfl) | (apply Go.guardE; exact rfl) | (apply Go.guardN; exact rfl) | (apply Go.sguardD; exact rfl) | (apply Go.sguardE; exact rfl) | (apply Go.sguardN; exact rfl) | (apply Qg.guardD; exact rfl) | (apply Qg.guardE; exact rfl) | (apply Qg.guardN; exact rfl)) <;> intro _) | (((first | (apply Go.guard; exact rfl) | (apply Go.sguard; exact rfl) | (apply Qg.guard; exact rfl) | (apply Go.ite; exact rfl)); fail_if_success (intro h; exact absurd h (by decide)); rotate_left; fail_if_success (intro h; exact absurd h (by decide)); rotate_right) <;> intro _)
    refine .ret rfl (.bool ?_)
    rw [hsl, List.drop_eq_nil_of_le (by omega)]
    rfl
theorem l3Cols_ok (l : List Int) (n : Int) (hx : l.length ≤ 34359738368) (h0 : -4611686018427387904 ≤ n) (h1 : n ≤ 4611686018427387904) : Pure Tryz.prog 73 [.c (.fz (l.map encI)), .c (.int .i64 n)] (.c (.bool (colsF l n))) := by
  refine Pure.run mixed c_spec_l3Cols_ok (Nat.le_of_ble_eq_true rfl) fun σ hS hA => ?_
  clear hS hA
  have hw : IntKind.i64.wrap (n - 1) = n - 1 := wrap64 (by omega) (by omega)
  repeat' first | apply Go.seq | apply Go.skip | apply Go.region | apply Go.nil | apply Go.block | apply Go.blk | apply Go.draw | apply Go.segs | apply Go.qs | apply Qg.nil | (apply Go.exit; exact rfl) | (apply Go.var2; (first | exact Nat.le_add_right _ _ | assumption); (iterate 4 decide); iterate 5 exact rfl) | (apply Go.var; (first | exact Nat.le_add_right _ _ | assumption); decide; iterate 4 exact rfl) | (apply Go.op; exact rfl; (first | exact aop_alloc | exact aop_new rfl rfl | exact aop_mksl rfl | exact aop_lenM rfl | exact rfl | exact aop_load rfl rfl rfl (Nat.le_of_ble_eq_true rfl) rfl | exact aop_store rfl rfl rfl rfl rfl rfl (Nat.le_of_ble_eq_true rfl))) | (apply Go.sop; exact rfl; (first | exact aop_lenM rfl | exact rfl)) | (apply Go.no; exact rfl) | (apply Go.sno; exact rfl) | (apply Qg.op; exact rfl; (first | exact aop_lenM rfl | exact rfl)) | (apply Qg.no; exact rfl) | (apply Go.cond true; exact rfl) | (apply Go.cond false; exact rfl) | (exfalso; omega) | ((first | (apply Go.iteD; exact rfl) | (apply Go.iteE; exact rfl) | (apply Go.iteN; exact rfl) | (apply Go.guardD; exact rfl) | (apply Go.guardE; exact rfl) | (apply Go.guardN; exact rfl) | (apply Go.sguardD; exact rfl) | (apply Go.sguardE; exact rfl) | (apply Go.sguardN; exact rfl) | (apply Qg.guardD; exact rfl) | (apply Qg.guardE; exact rfl) | (apply Qg.guardN; exact rfl)) <;> intro _) | (((first | (apply Go.guard; exact rfl) | (apply Go.sguard; exact rfl) | (apply Qg.guard; exact rfl) | (apply Go.ite; exact rfl)); fail_if_success (intro h; exact absurd h (by decide)); rotate_left; fail_if_success (intro h; exact absurd h (by decide)); rotate_right) <;> intro _)
  refine Go.keep [0, 1, 5] (Go.loops (I := fun m fr τ => ∃ i : Nat, ∃ k : Int, m = l.length - i ∧ i ≤ l.length ∧ k = i ∧ colsAux n [] l = colsAux n (l.take i) (l.drop i) ∧
    fr = [(0, .c (.fz (l.map encI))), (1, .c (.int .i64 n)), (5, .c (.int .i64 k))] ∧ τ = E σ []) ?_ _ _ _ ⟨0, _, rfl, Nat.zero_le _, rfl, rfl, rfl, rfl⟩)
  rintro m fr τ ⟨i, k, rfl, hi, hk, hsl, rfl, rfl⟩ hrec
  by_cases hlt : i < l.length
  · have hd := List.drop_eq_getElem_cons hlt
    have htk : (l.map encI).take i = (l.take i).map encI := List.map_take.symm
    have hstep : colsAux n [] l = (isIn l[i] 0 (n - 1) && !((l.take i).any fun a => l[i] == a) && colsAux n (l.take (i + 1)) (l.drop (i + 1))) := by
      rw [hsl, hd, colsAux, List.take_succ_eq_append_getElem hlt]
    repeat' first | apply Go.seq | apply Go.skip | apply Go.region | apply Go.nil | apply Go.block | apply Go.blk | apply Go.draw | apply Go.segs | apply Go.qs | apply Qg.nil | (apply Go.exit; exact rfl) | (apply Go.var2; (first | exact Nat.le_add_right _ _ | assumption); (iterate 4 decide); iterate 5 exact rfl) | (apply Go.var; (first | exact Nat.le_add_right _ _ | assumption); decide; iterate 4 exact rfl) | (apply Go.op; exact rfl; (first | exact aop_alloc | exact aop_new rfl rfl | exact aop_mksl rfl | exact aop_lenM rfl | exact rfl | exact aop_load rfl rfl rfl (Nat.le_of_ble_eq_true rfl) rfl | exact aop_store rfl rfl rfl rfl rfl rfl (Nat.le_of_ble_eq_true rfl) | exact aop_iaddrM (enc := encI) rfl rfl hk hlt rfl)) | (apply Go.sop; exact rfl; (first | exact aop_lenM rfl | exact rfl | exact aop_iaddrM (enc := encI) rfl rfl hk hlt rfl)) | (apply Go.no; exact rfl) | (apply Go.sno; exact rfl) | (apply Qg.op; exact rfl; (first | exact aop_lenM rfl | exact rfl | exact aop_iaddrM (enc := encI) rfl rfl hk hlt rfl)) | (apply Qg.no; exact rfl) | (apply Go.cond true; exact rfl) | (apply Go.cond false; exact rfl) | ((first | (apply Go.pcallB; iterate 3 exact rfl) | (apply Go.spcallB; iterate 3 exact rfl) | (apply Qg.pcallB; iterate 3 exact rfl)); exact l1In_ok _ _ _; intro _ _) | (exfalso; omega) | ((first | (apply Go.iteD; exact rfl) | (apply Go.iteE; exact rfl) | (apply Go.iteN; exact rfl) | (apply Go.guardD; exact rfl) | (apply Go.guardE; exact rfl) | (apply Go.guardN; exact rfl) | (apply Go.sguardD; exact rfl) | (apply Go.sguardE; exact rfl) | (apply Go.sguardN; exact rfl) | (apply Qg.guardD; exact rfl) | (apply Qg.guardE; exact rfl) | (apply Qg.guardN; exact rfl)) <;> intro _) | (((first | (apply Go.guard; exact rfl) | (apply Go.sguard; exact rfl) | (apply Qg.guard; exact rfl) | (apply Go.ite; exact rfl)); fail_if_success (intro h; exact absurd h (by decide)); rotate_left; fail_if_success (intro h; exact absurd h (by decide)); rotate_right) <;> intro _)
    · refine .ret rfl (.bool ?_)
      rename_i b hb hb2
      rw [hw] at hb
      rw [colsF, hstep, nbT hb hb2]
      rfl
    rename_i b hb hb2
    repeat' first | apply Go.seq | apply Go.skip | apply Go.region | apply Go.nil | apply Go.block | apply Go.blk | apply Go.draw | apply Go.segs | apply Go.qs | apply Qg.nil | (apply Go.exit; exact rfl) | (apply Go.var2; (first | exact Nat.le_add_right _ _ | assumption); (iterate 4 decide); iterate 5 exact rfl) | (apply Go.var; (first | exact Nat.le_add_right _ _ | assumption); decide; iterate 4 exact rfl) | (apply Go.op; exact rfl; (first | exact aop_alloc | exact aop_new rfl rfl | exact aop_mksl rfl | exact aop_lenM rfl | exact rfl | exact aop_load rfl rfl rfl (Nat.le_of_ble_eq_true rfl) rfl | exact aop_store rfl rfl rfl rfl rfl rfl (Nat.le_of_ble_eq_true rfl) | exact aop_sliceF (n := i) rfl rfl hk (by simp; omega) encI_len | exact aop_iaddrM (enc := encI) rfl rfl hk hlt rfl)) | (apply Go.sop; exact rfl; (first | exact aop_lenM rfl | exact rfl | exact aop_sliceF (n := i) rfl rfl hk (by simp; omega) encI_len | exact aop_iaddrM (enc := encI) rfl rfl hk hlt rfl)) | (apply Go.no; exact rfl) | (apply Go.sno; exact rfl) | (apply Qg.op; exact rfl; (first | exact aop_lenM rfl | exact rfl | exact aop_sliceF (n := i) rfl rfl hk (by simp; omega) encI_len | exact aop_iaddrM (enc := encI) rfl rfl hk hlt rfl)) | (apply Qg.no; exact rfl) | (apply Go.cond true; exact rfl) | (apply Go.cond false; exact rfl) | (exfalso; omega) | ((first | (apply Go.iteD; exact rfl) | (apply Go.iteE; exact rfl) | (apply Go.iteN; exact rfl) | (apply Go.guardD; exact rfl) | (apply Go.guardE; exact rfl) | (apply Go.guardN; exact rfl) | (apply Go.sguardD; exact rfl) | (apply Go.sguardE; exact rfl) | (apply Go.sguardN; exact rfl) | (apply Qg.guardD; exact rfl) | (apply Qg.guardE; exact rfl) | (apply Qg.guardN; exact rfl)) <;> intro _) | (((first | (apply Go.guard; exact rfl) | (apply Go.sguard; exact rfl) | (apply Qg.guard; exact rfl) | (apply Go.ite; exact rfl)); fail_if_success (intro h; exact absurd h (by decide)); rotate_left; fail_if_success (intro h; exact absurd h (by decide)); rotate_right) <;> intro _)
    rw [htk]
    repeat' first | apply Go.seq | apply Go.skip | apply Go.region | apply Go.nil | apply Go.block | apply Go.blk | apply Go.draw | apply Go.segs | apply Go.qs | apply Qg.nil | (apply Go.exit; exact rfl) | (apply Go.var2; (first | exact Nat.le_add_right _ _ | assumption); (iterate 4 decide); iterate 5 exact rfl) | (apply Go.var; (first | exact Nat.le_add_right _ _ | assumption); decide; iterate 4 exact rfl) | (apply Go.op; exact rfl; (first | exact aop_alloc | exact aop_new rfl rfl | exact aop_mksl rfl | exact aop_lenM rfl | exact rfl | exact aop_load rfl rfl rfl (Nat.le_of_ble_eq_true rfl) rfl | exact aop_store rfl rfl rfl rfl rfl rfl (Nat.le_of_ble_eq_true rfl))) | (apply Go.sop; exact rfl; (first | exact aop_lenM rfl | exact rfl)) | (apply Go.no; exact rfl) | (apply Go.sno; exact rfl) | (apply Qg.op; exact rfl; (first | exact aop_lenM rfl | exact rfl)) | (apply Qg.no; exact rfl) | (apply Go.cond true; exact rfl) | (apply Go.cond false; exact rfl) | ((first | (apply Go.pcallB; iterate 3 exact rfl) | (apply Go.spcallB; iterate 3 exact rfl) | (apply Qg.pcallB; iterate 3 exact rfl)); exact l1Has_ok (l.take i) l[i] (by simp; omega); intro _ _) | (exfalso; omega) | ((first | (apply Go.iteD; exact rfl) | (apply Go.iteE; exact rfl) | (apply Go.iteN; exact rfl) | (apply Go.guardD; exact rfl) | (apply Go.guardE; exact rfl) | (apply Go.guardN; exact rfl) | (apply Go.sguardD; exact rfl) | (apply Go.sguardE; exact rfl) | (apply Go.sguardN; exact rfl) | (apply Qg.guardD; exact rfl) | (apply Qg.guardE; exact rfl) | (apply Qg.guardN; exact rfl)) <;> intro _) | (((first | (apply Go.guard; exact rfl) | (apply Go.sguard; exact rfl) | (apply Qg.guard; exact rfl) | (apply Go.ite; exact rfl)); fail_if_success (intro h; exact absurd h (by decide)); rotate_left; fail_if_success (intro h; exact absurd h (by decide)); rotate_right) <;> intro _)
    · refine .ret rfl (.bool ?_)
      rename_i b1 hb1 hb3
      rw [colsF, hstep, bT hb1 hb3]
      simp
    · refine Go.keep [0, 1, 5] (hrec _ _ _ (by omega) ⟨i + 1, _, rfl, hlt, wrap_succ hk (by omega), ?_, rfl, rfl⟩)
      rename_i b1 hb1 hb3
      rw [hw] at hb
      rw [hstep, bF hb1 hb3, nbF hb hb2]
      simp
  · have hfin : colsAux n [] l = true := by
      rw [hsl, List.drop_eq_nil_of_le (by omega)]
      rfl
    repeat' first | apply Go.seq | apply Go.skip | apply Go.region | apply Go.nil | apply Go.block | apply Go.blk | apply Go.draw | apply Go.segs | apply Go.qs | apply Qg.nil | (apply Go.exit; exact rfl) | (apply Go.var2; (first | exact Nat.le_add_right _ _ | assumption); (iterate 4 decide); iterate 5 exact rfl) | (apply Go.var; (first | exact Nat.le_add_right _ _ | assumption); decide; iterate 4 exact rfl) | (apply Go.op; exact rfl; (first | exact aop_alloc | exact aop_new rfl rfl | exact aop_mksl rfl | exact aop_lenM rfl | exact rfl | exact aop_load rfl rfl rfl (Nat.le_of_ble_eq_true rfl) rfl | exact aop_store rfl rfl rfl rfl rfl rfl (Nat.le_of_ble_eq_true rfl))) | (apply Go.sop; exact rfl; (first | exact aop_lenM rfl | exact rfl)) | (apply Go.no; exact rfl) | (apply Go.sno; exact rfl) | (apply Qg.op; exact rfl; (first | exact aop_lenM rfl | exact rfl)) | (apply Qg.no; exact rfl) | (apply Go.cond true; exact rfl) | (apply Go.cond false; exact rfl) | (exfalso; omega) | ((first | (apply Go.iteD; exact rfl) | (apply Go.iteE; exact rfl) | (apply Go.iteN; exact rfl) | (apply Go.guardD; exact rfl) | (apply Go.guardE; exact rfl) | (apply Go.guardN; exact rfl) | (apply Go.sguardD; exact rfl) | (apply Go.sguardE; exact rfl) | (apply Go.sguardN; exact rfl) | (apply Qg.guardD; exact rfl) | (apply Qg.guardE; exact rfl) | (apply Qg.guardN; exact rfl)) <;> intro _) | (((first | (apply Go.guard; exact rfl) | (apply Go.sguard; exact rfl) | (apply Qg.guard; exact rfl) | (apply Go.ite; exact rfl)); fail_if_success (intro h; exact absurd h (by decide)); rotate_left; fail_if_success (intro h; exact absurd h (by decide)); rotate_right) <;> intro _)
    refine .ret rfl (.bool ?_)
    rw [colsF, hfin]
    rfl
def isOfF (v : Val) (k : Int) : Bool := okVal v && (v.k == 0 || v.k == k)
theorem isOf_ok (v : Val) (k : Int) : Pure Tryz.prog 105 [.agg (encV v), .c (.int .i64 k)] (.c (.bool (isOfF v k))) := by
  refine Pure.run mixed c_impl_isOf_ok (Nat.le_of_ble_eq_true rfl) fun σ hS hA => ?_
  clear hS hA
  repeat' first | apply Go.seq | apply Go.skip | apply Go.region | apply Go.nil | apply Go.block | apply Go.blk | apply Go.draw | apply Go.segs | apply Go.qs | apply Qg.nil | (apply Go.exit; exact rfl) | (apply Go.var2; (first | exact Nat.le_add_right _ _ | assumption); (iterate 4 decide); iterate 5 exact rfl) | (apply Go.var; (first | exact Nat.le_add_right _ _ | assumption); decide; iterate 4 exact rfl) | (apply Go.op; exact rfl; (first | exact aop_alloc | exact aop_new rfl rfl | exact aop_mksl rfl | exact aop_lenM rfl | exact rfl | exact aop_load rfl rfl rfl (Nat.le_of_ble_eq_true rfl) rfl | exact aop_store rfl rfl rfl rfl rfl rfl (Nat.le_of_ble_eq_true rfl))) | (apply Go.sop; exact rfl; (first | exact aop_lenM rfl | exact rfl)) | (apply Go.no; exact rfl) | (apply Go.sno; exact rfl) | (apply Qg.op; exact rfl; (first | exact aop_lenM rfl | exact rfl)) | (apply Qg.no; exact rfl) | (apply Go.cond true; exact rfl) | (apply Go.cond false; exact rfl) | ((first | (apply Go.pcallB; iterate 3 exact rfl) | (apply Go.spcallB; iterate 3 exact rfl) | (apply Qg.pcallB; iterate 3 exact rfl)); exact ValOk_ok _; intro _ _) | (exfalso; omega) | ((first | (apply Go.iteD; exact rfl) | (apply Go.iteE; exact rfl) | (apply Go.iteN; exact rfl) | (apply Go.guardD; exact rfl) | (apply Go.guardE; exact rfl) | (apply Go.guardN; exact rfl) | (apply Go.sguardD; exact rfl) | (apply Go.sguardE; exact rfl) | (apply Go.sguardN; exact rfl) | (apply Qg.guardD; exact rfl) | (apply Qg.guardE; exact rfl) | (apply Qg.guardN; exact rfl)) <;> intro _) | (((first | (apply Go.guard; exact rfl) | (apply Go.sguard; exact rfl) | (apply Qg.guard; exact rfl) | (apply Go.ite; exact rfl)); fail_if_success (intro h; exact absurd h (by decide)); rotate_left; fail_if_success (intro h; exact absurd h (by decide)); rotate_right) <;> intro _)
  all_goals refine .ret rfl (.bool ?_)
  all_goals simp_all [isOfF]
def isFkF (f : Fk) (n : Int) : Bool := colsF f.cols n && (isNameF f.table && (isIn f.onDelete 0 2 && isIn f.onUpdate 0 2))
theorem isFk_ok (f : Fk) (n : Int) (hb : bFk 34359738368 f) (h0 : -4611686018427387904 ≤ n) (h1 : n ≤ 4611686018427387904) : Pure Tryz.prog 134 [.agg (encFk f), .c (.int .i64 n)] (.c (.bool (isFkF f n))) := by
  refine Pure.run mixed c_impl_isFk_ok (Nat.le_of_ble_eq_true rfl) fun σ hS hA => ?_
  clear hS hA
  repeat' first | apply Go.seq | apply Go.skip | apply Go.region | apply Go.nil | apply Go.block | apply Go.blk | apply Go.draw | apply Go.segs | apply Go.qs | apply Qg.nil | (apply Go.exit; exact rfl) | (apply Go.var2; (first | exact Nat.le_add_right _ _ | assumption); (iterate 4 decide); iterate 5 exact rfl) | (apply Go.var; (first | exact Nat.le_add_right _ _ | assumption); decide; iterate 4 exact rfl) | (apply Go.op; exact rfl; (first | exact aop_alloc | exact aop_new rfl rfl | exact aop_mksl rfl | exact aop_lenM rfl | exact rfl | exact aop_load rfl rfl rfl (Nat.le_of_ble_eq_true rfl) rfl | exact aop_store rfl rfl rfl rfl rfl rfl (Nat.le_of_ble_eq_true rfl))) | (apply Go.sop; exact rfl; (first | exact aop_lenM rfl | exact rfl)) | (apply Go.no; exact rfl) | (apply Go.sno; exact rfl) | (apply Qg.op; exact rfl; (first | exact aop_lenM rfl | exact rfl)) | (apply Qg.no; exact rfl) | (apply Go.cond true; exact rfl) | (apply Go.cond false; exact rfl) | ((first | (apply Go.pcallB; iterate 3 exact rfl) | (apply Go.spcallB; iterate 3 exact rfl) | (apply Qg.pcallB; iterate 3 exact rfl)); (first | exact areColumns_ok f.cols n hb.1 h0 h1 | exact isName_ok f.table hb.2 | exact in_ok _ _ _); intro _ _) | (exfalso; omega) | ((first | (apply Go.iteD; exact rfl) | (apply Go.iteE; exact rfl) | (apply Go.iteN; exact rfl) | (apply Go.guardD; exact rfl) | (apply Go.guardE; exact rfl) | (apply Go.guardN; exact rfl) | (apply Go.sguardD; exact rfl) | (apply Go.sguardE; exact rfl) | (apply Go.sguardN; exact rfl) | (apply Qg.guardD; exact rfl) | (apply Qg.guardE; exact rfl) | (apply Qg.guardN; exact rfl)) <;> intro _) | (((first | (apply Go.guard; exact rfl) | (apply Go.sguard; exact rfl) | (apply Qg.guard; exact rfl) | (apply Go.ite; exact rfl)); fail_if_success (intro h; exact absurd h (by decide)); rotate_left; fail_if_success (intro h; exact absurd h (by decide)); rotate_right) <;> intro _)
  all_goals refine .ret rfl (.bool ?_)
  all_goals simp_all [isFkF]
/-! ### The columns of a table -/
def colOk (c : Col) : Bool := isNameF c.name && ((c.kind == 1 || c.kind == 2) && isOfF c.dflt c.kind)
def colsDef : List Col → List Col → Bool
  | _, [] => true
  | pre, c :: r => colOk c && !(pre.any fun d => d.name == c.name) && colsDef (pre ++ [c]) r
def areColsF (l : List Col) : Bool := decide ((l.length : Int) ≤ 8) && (colsDef [] l && decide (0 < (l.length : Int)))
theorem areCols1_ok (d c : Col) : Pure Tryz.prog 151 [.agg (encCol d), .c (.fp (encCol c))] (.c (.bool (d.name == c.name))) := by
  refine Pure.run mixed c_impl_areCols_1_ok (Nat.le_of_ble_eq_true rfl) fun σ hS hA => ?_
  clear hS hA
  repeat' first | apply Go.seq | apply Go.skip | apply Go.region | apply Go.nil | apply Go.block | apply Go.blk | apply Go.draw | apply Go.segs | apply Go.qs | apply Qg.nil | (apply Go.exit; exact rfl) | (apply Go.var2; (first | exact Nat.le_add_right _ _ | assumption); (iterate 4 decide); iterate 5 exact rfl) | (apply Go.var; (first | exact Nat.le_add_right _ _ | assumption); decide; iterate 4 exact rfl) | (apply Go.op; exact rfl; (first | exact aop_alloc | exact aop_new rfl rfl | exact aop_mksl rfl | exact aop_lenM rfl | exact rfl | exact aop_load rfl rfl rfl (Nat.le_of_ble_eq_true rfl) rfl | exact aop_store rfl rfl rfl rfl rfl rfl (Nat.le_of_ble_eq_true rfl))) | (apply Go.sop; exact rfl; (first | exact aop_lenM rfl | exact rfl)) | (apply Go.no; exact rfl) | (apply Go.sno; exact rfl) | (apply Qg.op; exact rfl; (first | exact aop_lenM rfl | exact rfl)) | (apply Qg.no; exact rfl) | (apply Go.cond true; exact rfl) | (apply Go.cond false; exact rfl) | (exfalso; omega) | ((first | (apply Go.iteD; exact rfl) | (apply Go.iteE; exact rfl) | (apply Go.iteN; exact rfl) | (apply Go.guardD; exact rfl) | (apply Go.guardE; exact rfl) | (apply Go.guardN; exact rfl) | (apply Go.sguardD; exact rfl) | (apply Go.sguardE; exact rfl) | (apply Go.sguardN; exact rfl) | (apply Qg.guardD; exact rfl) | (apply Qg.guardE; exact rfl) | (apply Qg.guardN; exact rfl)) <;> intro _) | (((first | (apply Go.guard; exact rfl) | (apply Go.sguard; exact rfl) | (apply Qg.guard; exact rfl) | (apply Go.ite; exact rfl)); fail_if_success (intro h; exact absurd h (by decide)); rotate_left; fail_if_success (intro h; exact absurd h (by decide)); rotate_right) <;> intro _)
  all_goals refine .ret rfl (.bool ?_)
  all_goals simp_all
theorem areCols_ok (l : List Col) (hx : l.length ≤ 34359738368) (hb : ∀ c ∈ l, bCol 34359738368 c) : Pure Tryz.prog 126 [.c (.fz (l.map encCol))] (.c (.bool (areColsF l))) := by
  refine Pure.run mixed c_impl_areCols_ok (Nat.le_of_ble_eq_true rfl) fun σ hS hA => ?_
  clear hS hA
  repeat' first | apply Go.seq | apply Go.skip | apply Go.region | apply Go.nil | apply Go.block | apply Go.blk | apply Go.draw | apply Go.segs | apply Go.qs | apply Qg.nil | (apply Go.exit; exact rfl) | (apply Go.var2; (first | exact Nat.le_add_right _ _ | assumption); (iterate 4 decide); iterate 5 exact rfl) | (apply Go.var; (first | exact Nat.le_add_right _ _ | assumption); decide; iterate 4 exact rfl) | (apply Go.op; exact rfl; (first | exact aop_alloc | exact aop_new rfl rfl | exact aop_mksl rfl | exact aop_lenM rfl | exact rfl | exact aop_load rfl rfl rfl (Nat.le_of_ble_eq_true rfl) rfl | exact aop_store rfl rfl rfl rfl rfl rfl (Nat.le_of_ble_eq_true rfl))) | (apply Go.sop; exact rfl; (first | exact aop_lenM rfl | exact rfl)) | (apply Go.no; exact rfl) | (apply Go.sno; exact rfl) | (apply Qg.op; exact rfl; (first | exact aop_lenM rfl | exact rfl)) | (apply Qg.no; exact rfl) | (apply Go.cond true; exact rfl) | (apply Go.cond false; exact rfl) | (exfalso; omega) | ((first | (apply Go.iteD; exact rfl) | (apply Go.iteE; exact rfl) | (apply Go.iteN; exact rfl) | (apply Go.guardD; exact rfl) | (apply Go.guardE; exact rfl) | (apply Go.guardN; exact rfl) | (apply Go.sguardD; exact rfl) | (apply Go.sguardE; exact rfl) | (apply Go.sguardN; exact rfl) | (apply Qg.guardD; exact rfl) | (apply Qg.guardE; exact rfl) | (apply Qg.guardN; exact rfl)) <;> intro _) | (((first | (apply Go.guard; exact rfl) | (apply Go.sguard; exact rfl) | (apply Qg.guard; exact rfl) | (apply Go.ite; exact rfl)); fail_if_success (intro h; exact absurd h (by decide)); rotate_left; fail_if_success (intro h; exact absurd h (by decide)); rotate_right) <;> intro _)
  refine Go.keep [0, 5, 6, 7] (Go.loops (I := fun m fr τ => ∃ i : Nat, ∃ k : Int, m = l.length - i ∧ i ≤ l.length ∧ k = i ∧ (i ≤ 8 ∧ colsDef [] l = colsDef (l.take i) (l.drop i)) ∧
    fr = [(0, .c (.fz (l.map encCol))), (5, .c (.fz (l.map encCol))), (6, .c (.int .i64 (l.length : Int))), (7, .c (.int .i64 k))] ∧ τ = E σ []) ?_ _ _ _ ⟨0, _, rfl, Nat.zero_le _, rfl, ⟨by omega, rfl⟩, rfl, rfl⟩)
  rintro m fr τ ⟨i, k, rfl, hi, hk, ⟨h8, hsl⟩, rfl, rfl⟩ hrec
  by_cases hlt : i < l.length
  · have hd := List.drop_eq_getElem_cons hlt
    have hbc := hb _ (List.getElem_mem hlt)
    have htk : (l.map encCol).take i = (l.take i).map encCol := List.map_take.symm
    have hstep : colsDef [] l = (colOk l[i] && !((l.take i).any fun d => d.name == l[i].name) && colsDef (l.take (i + 1)) (l.drop (i + 1))) := by
      rw [hsl, hd, colsDef, List.take_succ_eq_append_getElem hlt]
    have neg : (k = 8 ∨ colOk l[i] = false ∨ ((l.take i).any fun d => d.name == l[i].name) = true) → areColsF l = false := by
      rintro (h | h | h)
      · rw [areColsF, decide_eq_false (by omega)]
        rfl
      · rw [areColsF, hstep, h]
        simp
      · rw [areColsF, hstep, h]
        simp
    repeat' first | apply Go.seq | apply Go.skip | apply Go.region | apply Go.nil | apply Go.block | apply Go.blk | apply Go.draw | apply Go.segs | apply Go.qs | apply Qg.nil | (apply Go.exit; exact rfl) | (apply Go.var2; (first | exact Nat.le_add_right _ _ | assumption); (iterate 4 decide); iterate 5 exact rfl) | (apply Go.var; (first | exact Nat.le_add_right _ _ | assumption); decide; iterate 4 exact rfl) | (apply Go.op; exact rfl; (first | exact aop_alloc | exact aop_new rfl rfl | exact aop_mksl rfl | exact aop_lenM rfl | exact rfl | exact aop_load rfl rfl rfl (Nat.le_of_ble_eq_true rfl) rfl | exact aop_store rfl rfl rfl rfl rfl rfl (Nat.le_of_ble_eq_true rfl) | exact aop_iaddrM (enc := encCol) rfl rfl hk hlt rfl)) | (apply Go.sop; exact rfl; (first | exact aop_lenM rfl | exact rfl | exact aop_iaddrM (enc := encCol) rfl rfl hk hlt rfl)) | (apply Go.no; exact rfl) | (apply Go.sno; exact rfl) | (apply Qg.op; exact rfl; (first | exact aop_lenM rfl | exact rfl | exact aop_iaddrM (enc := encCol) rfl rfl hk hlt rfl)) | (apply Qg.no; exact rfl) | (apply Go.cond true; exact rfl) | (apply Go.cond false; exact rfl) | ((first | (apply Go.pcallB; iterate 3 exact rfl) | (apply Go.spcallB; iterate 3 exact rfl) | (apply Qg.pcallB; iterate 3 exact rfl)); (first | exact isName_ok l[i].name hbc.1 | exact isOf_ok l[i].dflt l[i].kind); intro _ _) | (exfalso; omega) | ((first | (apply Go.iteD; exact rfl) | (apply Go.iteE; exact rfl) | (apply Go.iteN; exact rfl) | (apply Go.guardD; exact rfl) | (apply Go.guardE; exact rfl) | (apply Go.guardN; exact rfl) | (apply Go.sguardD; exact rfl) | (apply Go.sguardE; exact rfl) | (apply Go.sguardN; exact rfl) | (apply Qg.guardD; exact rfl) | (apply Qg.guardE; exact rfl) | (apply Qg.guardN; exact rfl)) <;> intro _) | (((first | (apply Go.guard; exact rfl) | (apply Go.sguard; exact rfl) | (apply Qg.guard; exact rfl) | (apply Go.ite; exact rfl)); fail_if_success (intro h; exact absurd h (by decide)); rotate_left; fail_if_success (intro h; exact absurd h (by decide)); rotate_right) <;> intro _)
    all_goals try (refine .ret rfl (.bool (neg ?_).symm); clear hrec hsl hstep neg; simp_all [colOk]; done)
    all_goals have hcol : colOk l[i] = true := (by clear hrec hsl hstep neg; simp_all [colOk])
    all_goals refine .op rfl (aop_sliceF (n := i) rfl rfl hk (by simp; omega) (fun e he => by obtain ⟨c, _, rfl⟩ := List.mem_map.1 he; rfl)) ?_
    all_goals rw [htk]
    all_goals (repeat' first | apply Go.seq | apply Go.skip | apply Go.region | apply Go.nil | apply Go.block | apply Go.blk | apply Go.draw | apply Go.segs | apply Go.qs | apply Qg.nil | (apply Go.exit; exact rfl) | (apply Go.var2; (first | exact Nat.le_add_right _ _ | assumption); (iterate 4 decide); iterate 5 exact rfl) | (apply Go.var; (first | exact Nat.le_add_right _ _ | assumption); decide; iterate 4 exact rfl) | (apply Go.op; exact rfl; (first | exact aop_alloc | exact aop_new rfl rfl | exact aop_mksl rfl | exact aop_lenM rfl | exact rfl | exact aop_load rfl rfl rfl (Nat.le_of_ble_eq_true rfl) rfl | exact aop_store rfl rfl rfl rfl rfl rfl (Nat.le_of_ble_eq_true rfl))) | (apply Go.sop; exact rfl; (first | exact aop_lenM rfl | exact rfl)) | (apply Go.no; exact rfl) | (apply Go.sno; exact rfl) | (apply Qg.op; exact rfl; (first | exact aop_lenM rfl | exact rfl)) | (apply Qg.no; exact rfl) | (apply Go.cond true; exact rfl) | (apply Go.cond false; exact rfl) | ((first | (apply Go.pcallB; iterate 3 exact rfl) | (apply Go.spcallB; iterate 3 exact rfl) | (apply Qg.pcallB; iterate 3 exact rfl)); exact containsFuncA_ok mixed c_slices_ContainsFunc_Col_ok c_slices_IndexFunc_Col_ok encCol (fun c => .agg (encCol c)) (fun _ => rfl) (fun _ => rfl) (l.take i) (fun d => d.name == l[i].name) _ [] [.fp (encCol l[i])] (by simp; omega) (fun j hj _ => areCols1_ok _ _); intro _ _) | (exfalso; omega) | ((first | (apply Go.iteD; exact rfl) | (apply Go.iteE; exact rfl) | (apply Go.iteN; exact rfl) | (apply Go.guardD; exact rfl) | (apply Go.guardE; exact rfl) | (apply Go.guardN; exact rfl) | (apply Go.sguardD; exact rfl) | (apply Go.sguardE; exact rfl) | (apply Go.sguardN; exact rfl) | (apply Qg.guardD; exact rfl) | (apply Qg.guardE; exact rfl) | (apply Qg.guardN; exact rfl)) <;> intro _) | (((first | (apply Go.guard; exact rfl) | (apply Go.sguard; exact rfl) | (apply Qg.guard; exact rfl) | (apply Go.ite; exact rfl)); fail_if_success (intro h; exact absurd h (by decide)); rotate_left; fail_if_success (intro h; exact absurd h (by decide)); rotate_right) <;> intro _))
    all_goals rename_i b9 hb9 hb8
    all_goals first
      | exact .ret rfl (.bool (neg (.inr (.inr (bT hb9 hb8)))).symm)
      | (refine Go.keep [0, 5, 6, 7] (hrec _ _ _ (by omega) ⟨i + 1, _, rfl, hlt, wrap_succ hk (by omega), ⟨by omega, ?_⟩, rfl, rfl⟩); rw [hstep, hcol, bF hb9 hb8]; rfl)
  · have hfin : colsDef [] l = true := by
      rw [hsl, List.drop_eq_nil_of_le (by omega)]
      rfl
    repeat' first | apply Go.seq | apply Go.skip | apply Go.region | apply Go.nil | apply Go.block | apply Go.blk | apply Go.draw | apply Go.segs | apply Go.qs | apply Qg.nil | (apply Go.exit; exact rfl) | (apply Go.var2; (first | exact Nat.le_add_right _ _ | assumption); (iterate 4 decide); iterate 5 exact rfl) | (apply Go.var; (first | exact Nat.le_add_right _ _ | assumption); decide; iterate 4 exact rfl) | (apply Go.op; exact rfl; (first | exact aop_alloc | exact aop_new rfl rfl | exact aop_mksl rfl | exact aop_lenM rfl | exact rfl | exact aop_load rfl rfl rfl (Nat.le_of_ble_eq_true rfl) rfl | exact aop_store rfl rfl rfl rfl rfl rfl (Nat.le_of_ble_eq_true rfl))) | (apply Go.sop; exact rfl; (first | exact aop_lenM rfl | exact rfl)) | (apply Go.no; exact rfl) | (apply Go.sno; exact rfl) | (apply Qg.op; exact rfl; (first | exact aop_lenM rfl | exact rfl)) | (apply Qg.no; exact rfl) | (apply Go.cond true; exact rfl) | (apply Go.cond false; exact rfl) | (exfalso; omega) | ((first | (apply Go.iteD; exact rfl) | (apply Go.iteE; exact rfl) | (apply Go.iteN; exact rfl) | (apply Go.guardD; exact rfl) | (apply Go.guardE; exact rfl) | (apply Go.guardN; exact rfl) | (apply Go.sguardD; exact rfl) | (apply Go.sguardE; exact rfl) | (apply Go.sguardN; exact rfl) | (apply Qg.guardD; exact rfl) | (apply Qg.guardE; exact rfl) | (apply Qg.guardN; exact rfl)) <;> intro _) | (((first | (apply Go.guard; exact rfl) | (apply Go.sguard; exact rfl) | (apply Qg.guard; exact rfl) | (apply Go.ite; exact rfl)); fail_if_success (intro h; exact absurd h (by decide)); rotate_left; fail_if_success (intro h; exact absurd h (by decide)); rotate_right) <;> intro _)
    refine .ret rfl (.bool ?_)
    rw [areColsF, hfin, decide_eq_true (p := (l.length : Int) ≤ 8) (by omega)]
    rfl

/-! ### Tables -/
def notNullAt (t : Table) (c : Int) : Bool := match t.cols[c.toNat]? with | some x => x.notNull | none => false
def exprF (e : List Tok) (n : Int) : Bool := decide ((e.length : Int) ≤ 24) && exprAux n 0 e
def tableF (t : Table) : Bool :=
  isNameF t.name && (areColsF t.cols && (colsF t.key t.cols.length && (decide ((t.uniques.length : Int) ≤ 3) && (decide ((t.checks.length : Int) ≤ 3) && (decide ((t.fks.length : Int) ≤ 3) &&
    (!(t.key.any fun c => !notNullAt t c) && (!(t.uniques.any fun u => !colsF u.cols t.cols.length) && (!(t.checks.any fun c => !exprF c.expr t.cols.length) && !(t.fks.any fun f => !isFkF f t.cols.length)))))))))
theorem colsAux_in {n : Int} : ∀ {l pre : List Int}, colsAux n pre l = true → ∀ c ∈ l, isIn c 0 (n - 1) = true
  | [], _, _, c, h => by simp at h
  | a :: r, pre, h, c, hc => by
    simp only [colsAux, Bool.and_eq_true] at h
    rcases List.mem_cons.1 hc with rfl | hc
    · exact h.1.1
    · exact colsAux_in h.2 c hc
theorem colsF_in {l : List Int} {n : Int} (h : colsF l n = true) : ∀ c ∈ l, 0 ≤ c ∧ c < n := by
  intro c hc
  simp only [colsF, Bool.and_eq_true] at h
  have := colsAux_in h.1 c hc
  simp only [isIn, Bool.and_eq_true, decide_eq_true_eq] at this
  omega
theorem areColsF_len {l : List Col} (h : areColsF l = true) : 0 < l.length ∧ l.length ≤ 8 := by
  simp only [areColsF, Bool.and_eq_true, decide_eq_true_eq] at h
  omega
theorem TableOk1_ok (t : Table) (c : Int) (h0 : 0 ≤ c) (h1 : c < t.cols.length) : Pure Tryz.prog 128 [.c (.int .i64 c), .c (.fp (encTable t))] (.c (.bool (!notNullAt t c))) := by
  refine Pure.run mixed c_impl_TableOk_1_ok (Nat.le_of_ble_eq_true rfl) fun σ hS hA => ?_
  clear hS hA
  obtain ⟨n, rfl⟩ : ∃ n : Nat, c = n := ⟨c.toNat, by omega⟩
  have hn : n < t.cols.length := by omega
  repeat' first | apply Go.seq | apply Go.skip | apply Go.region | apply Go.nil | apply Go.block | apply Go.blk | apply Go.draw | apply Go.segs | apply Go.qs | apply Qg.nil | (apply Go.exit; exact rfl) | (apply Go.var2; (first | exact Nat.le_add_right _ _ | assumption); (iterate 4 decide); iterate 5 exact rfl) | (apply Go.var; (first | exact Nat.le_add_right _ _ | assumption); decide; iterate 4 exact rfl) | (apply Go.op; exact rfl; (first | exact aop_alloc | exact aop_new rfl rfl | exact aop_mksl rfl | exact aop_lenM rfl | exact rfl | exact aop_load rfl rfl rfl (Nat.le_of_ble_eq_true rfl) rfl | exact aop_store rfl rfl rfl rfl rfl rfl (Nat.le_of_ble_eq_true rfl) | exact aop_iaddrM (enc := encCol) rfl rfl rfl hn rfl)) | (apply Go.sop; exact rfl; (first | exact aop_lenM rfl | exact rfl | exact aop_iaddrM (enc := encCol) rfl rfl rfl hn rfl)) | (apply Go.no; exact rfl) | (apply Go.sno; exact rfl) | (apply Qg.op; exact rfl; (first | exact aop_lenM rfl | exact rfl | exact aop_iaddrM (enc := encCol) rfl rfl rfl hn rfl)) | (apply Qg.no; exact rfl) | (apply Go.cond true; exact rfl) | (apply Go.cond false; exact rfl) | (exfalso; omega) | ((first | (apply Go.iteD; exact rfl) | (apply Go.iteE; exact rfl) | (apply Go.iteN; exact rfl) | (apply Go.guardD; exact rfl) | (apply Go.guardE; exact rfl) | (apply Go.guardN; exact rfl) | (apply Go.sguardD; exact rfl) | (apply Go.sguardE; exact rfl) | (apply Go.sguardN; exact rfl) | (apply Qg.guardD; exact rfl) | (apply Qg.guardE; exact rfl) | (apply Qg.guardN; exact rfl)) <;> intro _) | (((first | (apply Go.guard; exact rfl) | (apply Go.sguard; exact rfl) | (apply Qg.guard; exact rfl) | (apply Go.ite; exact rfl)); fail_if_success (intro h; exact absurd h (by decide)); rotate_left; fail_if_success (intro h; exact absurd h (by decide)); rotate_right) <;> intro _)
  refine .ret rfl (.bool ?_)
  simp [notNullAt, hn]
theorem TableOk2_ok (u : Uniq) (n : Int) (hb : bUniq 34359738368 u) (h0 : -4611686018427387904 ≤ n) (h1 : n ≤ 4611686018427387904) : Pure Tryz.prog 130 [.agg (encUniq u), .c (.fp [.int .i64 n])] (.c (.bool (!colsF u.cols n))) := by
  refine Pure.run mixed c_impl_TableOk_2_ok (Nat.le_of_ble_eq_true rfl) fun σ hS hA => ?_
  clear hS hA
  repeat' first | apply Go.seq | apply Go.skip | apply Go.region | apply Go.nil | apply Go.block | apply Go.blk | apply Go.draw | apply Go.segs | apply Go.qs | apply Qg.nil | (apply Go.exit; exact rfl) | (apply Go.var2; (first | exact Nat.le_add_right _ _ | assumption); (iterate 4 decide); iterate 5 exact rfl) | (apply Go.var; (first | exact Nat.le_add_right _ _ | assumption); decide; iterate 4 exact rfl) | (apply Go.op; exact rfl; (first | exact aop_alloc | exact aop_new rfl rfl | exact aop_mksl rfl | exact aop_lenM rfl | exact rfl | exact aop_load rfl rfl rfl (Nat.le_of_ble_eq_true rfl) rfl | exact aop_store rfl rfl rfl rfl rfl rfl (Nat.le_of_ble_eq_true rfl))) | (apply Go.sop; exact rfl; (first | exact aop_lenM rfl | exact rfl)) | (apply Go.no; exact rfl) | (apply Go.sno; exact rfl) | (apply Qg.op; exact rfl; (first | exact aop_lenM rfl | exact rfl)) | (apply Qg.no; exact rfl) | (apply Go.cond true; exact rfl) | (apply Go.cond false; exact rfl) | ((first | (apply Go.pcall; iterate 3 exact rfl) | (apply Go.spcall; iterate 3 exact rfl) | (apply Qg.pcall; iterate 3 exact rfl)); exact areColumns_ok u.cols n hb h0 h1) | (exfalso; omega) | ((first | (apply Go.iteD; exact rfl) | (apply Go.iteE; exact rfl) | (apply Go.iteN; exact rfl) | (apply Go.guardD; exact rfl) | (apply Go.guardE; exact rfl) | (apply Go.guardN; exact rfl) | (apply Go.sguardD; exact rfl) | (apply Go.sguardE; exact rfl) | (apply Go.sguardN; exact rfl) | (apply Qg.guardD; exact rfl) | (apply Qg.guardE; exact rfl) | (apply Qg.guardN; exact rfl)) <;> intro _) | (((first | (apply Go.guard; exact rfl) | (apply Go.sguard; exact rfl) | (apply Qg.guard; exact rfl) | (apply Go.ite; exact rfl)); fail_if_success (intro h; exact absurd h (by decide)); rotate_left; fail_if_success (intro h; exact absurd h (by decide)); rotate_right) <;> intro _)
  exact .ret rfl (.bool rfl)
theorem exprF_eq {e : List Tok} {n : Int} (h0 : 0 ≤ n) (h1 : n ≤ 16) : (decide ((e.length : Int) ≤ 24) && isIn n 0 16 && exprAux n 0 e) = exprF e n := by
  have : isIn n 0 16 = true := by simp [isIn, h0, h1]
  rw [this, Bool.and_true]
  rfl
theorem TableOk3_ok (c : Chk) (n : Int) (hb : bChk 34359738368 c) (h0 : 0 ≤ n) (h1 : n ≤ 16) : Pure Tryz.prog 132 [.agg (encChk c), .c (.fp [.int .i64 n])] (.c (.bool (!exprF c.expr n))) := by
  refine Pure.run mixed c_impl_TableOk_3_ok (Nat.le_of_ble_eq_true rfl) fun σ hS hA => ?_
  clear hS hA
  have hc := ExprOk_ok c.expr n hb.1
  rw [exprF_eq h0 h1] at hc
  repeat' first | apply Go.seq | apply Go.skip | apply Go.region | apply Go.nil | apply Go.block | apply Go.blk | apply Go.draw | apply Go.segs | apply Go.qs | apply Qg.nil | (apply Go.exit; exact rfl) | (apply Go.var2; (first | exact Nat.le_add_right _ _ | assumption); (iterate 4 decide); iterate 5 exact rfl) | (apply Go.var; (first | exact Nat.le_add_right _ _ | assumption); decide; iterate 4 exact rfl) | (apply Go.op; exact rfl; (first | exact aop_alloc | exact aop_new rfl rfl | exact aop_mksl rfl | exact aop_lenM rfl | exact rfl | exact aop_load rfl rfl rfl (Nat.le_of_ble_eq_true rfl) rfl | exact aop_store rfl rfl rfl rfl rfl rfl (Nat.le_of_ble_eq_true rfl))) | (apply Go.sop; exact rfl; (first | exact aop_lenM rfl | exact rfl)) | (apply Go.no; exact rfl) | (apply Go.sno; exact rfl) | (apply Qg.op; exact rfl; (first | exact aop_lenM rfl | exact rfl)) | (apply Qg.no; exact rfl) | (apply Go.cond true; exact rfl) | (apply Go.cond false; exact rfl) | ((first | (apply Go.pcall; iterate 3 exact rfl) | (apply Go.spcall; iterate 3 exact rfl) | (apply Qg.pcall; iterate 3 exact rfl)); exact hc) | (exfalso; omega) | ((first | (apply Go.iteD; exact rfl) | (apply Go.iteE; exact rfl) | (apply Go.iteN; exact rfl) | (apply Go.guardD; exact rfl) | (apply Go.guardE; exact rfl) | (apply Go.guardN; exact rfl) | (apply Go.sguardD; exact rfl) | (apply Go.sguardE; exact rfl) | (apply Go.sguardN; exact rfl) | (apply Qg.guardD; exact rfl) | (apply Qg.guardE; exact rfl) | (apply Qg.guardN; exact rfl)) <;> intro _) | (((first | (apply Go.guard; exact rfl) | (apply Go.sguard; exact rfl) | (apply Qg.guard; exact rfl) | (apply Go.ite; exact rfl)); fail_if_success (intro h; exact absurd h (by decide)); rotate_left; fail_if_success (intro h; exact absurd h (by decide)); rotate_right) <;> intro _)
  exact .ret rfl (.bool rfl)
theorem TableOk4_ok (f : Fk) (n : Int) (hb : bFk 34359738368 f) (h0 : -4611686018427387904 ≤ n) (h1 : n ≤ 4611686018427387904) : Pure Tryz.prog 133 [.agg (encFk f), .c (.fp [.int .i64 n])] (.c (.bool (!isFkF f n))) := by
  refine Pure.run mixed c_impl_TableOk_4_ok (Nat.le_of_ble_eq_true rfl) fun σ hS hA => ?_
  clear hS hA
  repeat' first | apply Go.seq | apply Go.skip | apply Go.region | apply Go.nil | apply Go.block | apply Go.blk | apply Go.draw | apply Go.segs | apply Go.qs | apply Qg.nil | (apply Go.exit; exact rfl) | (apply Go.var2; (first | exact Nat.le_add_right _ _ | assumption); (iterate 4 decide); iterate 5 exact rfl) | (apply Go.var; (first | exact Nat.le_add_right _ _ | assumption); decide; iterate 4 exact rfl) | (apply Go.op; exact rfl; (first | exact aop_alloc | exact aop_new rfl rfl | exact aop_mksl rfl | exact aop_lenM rfl | exact rfl | exact aop_load rfl rfl rfl (Nat.le_of_ble_eq_true rfl) rfl | exact aop_store rfl rfl rfl rfl rfl rfl (Nat.le_of_ble_eq_true rfl))) | (apply Go.sop; exact rfl; (first | exact aop_lenM rfl | exact rfl)) | (apply Go.no; exact rfl) | (apply Go.sno; exact rfl) | (apply Qg.op; exact rfl; (first | exact aop_lenM rfl | exact rfl)) | (apply Qg.no; exact rfl) | (apply Go.cond true; exact rfl) | (apply Go.cond false; exact rfl) | ((first | (apply Go.pcall; iterate 3 exact rfl) | (apply Go.spcall; iterate 3 exact rfl) | (apply Qg.pcall; iterate 3 exact rfl)); exact isFk_ok f n hb h0 h1) | (exfalso; omega) | ((first | (apply Go.iteD; exact rfl) | (apply Go.iteE; exact rfl) | (apply Go.iteN; exact rfl) | (apply Go.guardD; exact rfl) | (apply Go.guardE; exact rfl) | (apply Go.guardN; exact rfl) | (apply Go.sguardD; exact rfl) | (apply Go.sguardE; exact rfl) | (apply Go.sguardN; exact rfl) | (apply Qg.guardD; exact rfl) | (apply Qg.guardE; exact rfl) | (apply Qg.guardN; exact rfl)) <;> intro _) | (((first | (apply Go.guard; exact rfl) | (apply Go.sguard; exact rfl) | (apply Qg.guard; exact rfl) | (apply Go.ite; exact rfl)); fail_if_success (intro h; exact absurd h (by decide)); rotate_left; fail_if_success (intro h; exact absurd h (by decide)); rotate_right) <;> intro _)
  exact .ret rfl (.bool rfl)
theorem TableOk_ok (t : Table) (hb : bTable 34359738368 t) : Pure Tryz.prog 82 [.agg (encTable t)] (.c (.bool (tableF t))) := by
  refine Pure.run mixed c_impl_TableOk_ok (Nat.le_of_ble_eq_true rfl) fun σ hS hA => ?_
  clear hS hA
  obtain ⟨b1, b2, b3, b4, b5, b6⟩ := hb
  repeat' first | apply Go.seq | apply Go.skip | apply Go.region | apply Go.nil | apply Go.block | apply Go.blk | apply Go.draw | apply Go.segs | apply Go.qs | apply Qg.nil | (apply Go.exit; exact rfl) | (apply Go.var2; (first | exact Nat.le_add_right _ _ | assumption); (iterate 4 decide); iterate 5 exact rfl) | (apply Go.var; (first | exact Nat.le_add_right _ _ | assumption); decide; iterate 4 exact rfl) | (apply Go.op; exact rfl; (first | exact aop_alloc | exact aop_new rfl rfl | exact aop_mksl rfl | exact aop_lenM rfl | exact rfl | exact aop_load rfl rfl rfl (Nat.le_of_ble_eq_true rfl) rfl | exact aop_store rfl rfl rfl rfl rfl rfl (Nat.le_of_ble_eq_true rfl))) | (apply Go.sop; exact rfl; (first | exact aop_lenM rfl | exact rfl)) | (apply Go.no; exact rfl) | (apply Go.sno; exact rfl) | (apply Qg.op; exact rfl; (first | exact aop_lenM rfl | exact rfl)) | (apply Qg.no; exact rfl) | (apply Go.cond true; exact rfl) | (apply Go.cond false; exact rfl) | ((first | (apply Go.pcallB; iterate 3 exact rfl) | (apply Go.spcallB; iterate 3 exact rfl) | (apply Qg.pcallB; iterate 3 exact rfl)); (first | exact isName_ok t.name b1 | exact areCols_ok t.cols b2.1 b2.2 | exact areColumns_ok t.key t.cols.length b3 (by omega) (by omega)); intro _ _) | (exfalso; omega) | ((first | (apply Go.iteD; exact rfl) | (apply Go.iteE; exact rfl) | (apply Go.iteN; exact rfl) | (apply Go.guardD; exact rfl) | (apply Go.guardE; exact rfl) | (apply Go.guardN; exact rfl) | (apply Go.sguardD; exact rfl) | (apply Go.sguardE; exact rfl) | (apply Go.sguardN; exact rfl) | (apply Qg.guardD; exact rfl) | (apply Qg.guardE; exact rfl) | (apply Qg.guardN; exact rfl)) <;> intro _) | (((first | (apply Go.guard; exact rfl) | (apply Go.sguard; exact rfl) | (apply Qg.guard; exact rfl) | (apply Go.ite; exact rfl)); fail_if_success (intro h; exact absurd h (by decide)); rotate_left; fail_if_success (intro h; exact absurd h (by decide)); rotate_right) <;> intro _)
  all_goals try (refine .ret rfl (.bool ?_); simp_all [tableF]; done)
  · refine .ret rfl (.bool ?_)
    rw [tableF, decide_eq_false (p := (t.uniques.length : Int) ≤ 3) (by omega)]
    simp
  · refine .ret rfl (.bool ?_)
    rw [tableF, decide_eq_false (p := (t.checks.length : Int) ≤ 3) (by omega)]
    simp
  · refine .ret rfl (.bool ?_)
    rw [tableF, decide_eq_false (p := (t.fks.length : Int) ≤ 3) (by omega)]
    simp
  rename_i c1 p1 q1 c2 p2 q2 c3 p3 q3 g1 g2 g3
  have k1 := nbF p1 q1
  have k2 := nbF p2 q2
  have k3 := nbF p3 q3
  have hcl := areColsF_len k2
  have hin := colsF_in k3
  clear p1 q1 p2 q2 p3 q3
  repeat' first | apply Go.seq | apply Go.skip | apply Go.region | apply Go.nil | apply Go.block | apply Go.blk | apply Go.draw | apply Go.segs | apply Go.qs | apply Qg.nil | (apply Go.exit; exact rfl) | (apply Go.var2; (first | exact Nat.le_add_right _ _ | assumption); (iterate 4 decide); iterate 5 exact rfl) | (apply Go.var; (first | exact Nat.le_add_right _ _ | assumption); decide; iterate 4 exact rfl) | (apply Go.op; exact rfl; (first | exact aop_alloc | exact aop_new rfl rfl | exact aop_mksl rfl | exact aop_lenM rfl | exact rfl | exact aop_load rfl rfl rfl (Nat.le_of_ble_eq_true rfl) rfl | exact aop_store rfl rfl rfl rfl rfl rfl (Nat.le_of_ble_eq_true rfl))) | (apply Go.sop; exact rfl; (first | exact aop_lenM rfl | exact rfl)) | (apply Go.no; exact rfl) | (apply Go.sno; exact rfl) | (apply Qg.op; exact rfl; (first | exact aop_lenM rfl | exact rfl)) | (apply Qg.no; exact rfl) | (apply Go.cond true; exact rfl) | (apply Go.cond false; exact rfl) | ((first | (apply Go.pcallB; iterate 3 exact rfl) | (apply Go.spcallB; iterate 3 exact rfl) | (apply Qg.pcallB; iterate 3 exact rfl)); (first | exact containsFuncA_ok mixed c_slices_ContainsFunc_int64_int64_ok c_slices_IndexFunc_int64_int64_ok encI (fun n => .c (.int .i64 n)) (fun _ => rfl) (fun _ => rfl) t.key (fun c => !notNullAt t c) _ [] [.fp (encTable t)] b3 (fun j hj _ => TableOk1_ok t _ (hin _ (List.getElem_mem hj)).1 (hin _ (List.getElem_mem hj)).2) | exact containsFuncA_ok mixed c_slices_ContainsFunc_Unique_ok c_slices_IndexFunc_Unique_ok encUniq (fun u => .agg (encUniq u)) (fun _ => rfl) (fun _ => rfl) t.uniques (fun u => !colsF u.cols t.cols.length) _ [] [.fp [.int .i64 t.cols.length]] b4.1 (fun j hj _ => TableOk2_ok _ _ (b4.2 _ (List.getElem_mem hj)) (by omega) (by omega)) | exact containsFuncA_ok mixed c_slices_ContainsFunc_Check_ok c_slices_IndexFunc_Check_ok encChk (fun u => .agg (encChk u)) (fun _ => rfl) (fun _ => rfl) t.checks (fun c => !exprF c.expr t.cols.length) _ [] [.fp [.int .i64 t.cols.length]] b5.1 (fun j hj _ => TableOk3_ok _ _ (b5.2 _ (List.getElem_mem hj)) (by omega) (by omega)) | exact containsFuncA_ok mixed c_slices_ContainsFunc_Fk_ok c_slices_IndexFunc_Fk_ok encFk (fun u => .agg (encFk u)) (fun _ => rfl) (fun _ => rfl) t.fks (fun f => !isFkF f t.cols.length) _ [] [.fp [.int .i64 t.cols.length]] b6.1 (fun j hj _ => TableOk4_ok _ _ (b6.2 _ (List.getElem_mem hj)) (by omega) (by omega))); intro _ _) | (exfalso; omega) | ((first | (apply Go.iteD; exact rfl) | (apply Go.iteE; exact rfl) | (apply Go.iteN; exact rfl) | (apply Go.guardD; exact rfl) | (apply Go.guardE; exact rfl) | (apply Go.guardN; exact rfl) | (apply Go.sguardD; exact rfl) | (apply Go.sguardE; exact rfl) | (apply Go.sguardN; exact rfl) | (apply Qg.guardD; exact rfl) | (apply Qg.guardE; exact rfl) | (apply Qg.guardN; exact rfl)) <;> intro _) | (((first | (apply Go.guard; exact rfl) | (apply Go.sguard; exact rfl) | (apply Qg.guard; exact rfl) | (apply Go.ite; exact rfl)); fail_if_success (intro h; exact absurd h (by decide)); rotate_left; fail_if_success (intro h; exact absurd h (by decide)); rotate_right) <;> intro _)
  all_goals refine .ret rfl (.bool ?_)
  all_goals rw [tableF, k1, k2, k3, decide_eq_true (p := (t.uniques.length : Int) ≤ 3) (by omega), decide_eq_true (p := (t.checks.length : Int) ≤ 3) (by omega), decide_eq_true (p := (t.fks.length : Int) ≤ 3) (by omega)]
  all_goals simp_all
end Go.Proofs.YtpjfihdlbdogpaaGreat.Am
