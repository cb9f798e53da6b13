/- Joined texts: K1, K2, S1, S2, S3, S4, P1, F9, E1, E3, E2, Y1, E4, Y2, K3, Y3, Y4, O3, O4, O5, O6, O7, O8, Q3, Q4, Q5, Q6, Q7, Q8, Q9, Q10, F10, F11, F12, Q11, Q12, O9, Q13, Q14, Q15. -/
import Derived.Test.YtdgnfdljkghpjaaGreatU1
import Derived.Test.YtdgnfdljkghpjaaGreatU2
import Derived.Test.YtdgnfdljkghpjaaGreatU3
import Derived.Test.YtdgnfdljkghpjaaGreatU4
/- The laws' helpers on types, printed by a program: Tok, Check, Unique, Fk, Col. -/
set_option linter.unusedVariables false
set_option linter.unusedSimpArgs false
namespace Go.Proofs.YtdgnfdljkghpjaaGreat.Am
/-- Sizes taken off one behind the other. -/
def chain : List (Int → Int) → Int → Int
  | [], l => l
  | f :: r, l => if f l < 0 then -1 else chain r (f l)
inductive Steps : List (Int → Int) → Prop where
  | nil : Steps []
  | cons {f : Int → Int} {r : List (Int → Int)} (h : ∀ l, 0 ≤ l → f l ≤ l) (k : Steps r) : Steps (f :: r)
theorem chain_le {fs : List (Int → Int)} (h : Steps fs) : ∀ l, 0 ≤ l → chain fs l ≤ l := by
  induction h with
  | nil => intro l _; exact Int.le_refl _
  | @cons f0 r h _ ih =>
    intro l hl
    simp only [chain]
    split
    · omega
    · have := h l hl
      have := ih (f0 l) (by omega)
      omega
theorem chain_all {fs : List (Int → Int)} (h : Steps fs) : ∀ l, 0 ≤ l → 0 ≤ chain fs l → ∀ f ∈ fs, ∃ q, 0 ≤ q ∧ q ≤ l ∧ 0 ≤ f q := by
  induction h with
  | nil => intro l _ _ f hf; simp at hf
  | @cons f0 r h _ ih =>
    intro l hl hc f hf
    simp only [chain] at hc
    split at hc
    · omega
    · rename_i h0
      rcases List.mem_cons.1 hf with rfl | hf
      · exact ⟨l, hl, Int.le_refl _, by omega⟩
      · obtain ⟨q, h1, h2, h3⟩ := ih _ (by omega) hc f hf
        have := h l hl
        exact ⟨q, h1, by omega, h3⟩
theorem step_str (s : List UInt8) : ∀ l : Int, 0 ≤ l → l - s.length ≤ l := fun l _ => by omega
def zI (xs : List Int) (l : Int) : Int := if l - xs.length < 0 then -1 else l - xs.length
theorem step_ints (xs : List Int) : ∀ l : Int, 0 ≤ l → zI xs l ≤ l := fun l _ => by
  simp only [zI]
  split <;> omega
def bV (N : Nat) (v : Val) : Prop := v.s.length ≤ N
theorem bV_of {v : Val} {l : Int} {N : Nat} (h : 0 ≤ szV v l) (hl : l ≤ N) : bV N v := by
  simp only [szV] at h
  simp only [bV]
  split at h <;> omega
theorem ints_of {xs : List Int} {l : Int} {N : Nat} (h : 0 ≤ zI xs l) (hl : l ≤ N) : xs.length ≤ N := by
  simp only [zI] at h
  split at h <;> omega
theorem list_of {α : Type} {g : α → Int → Int} {b : Nat → α → Prop} (hg : ∀ a l, 0 ≤ l → g a l ≤ l) (hb : ∀ a l (N : Nat), 0 ≤ l → 0 ≤ g a l → l ≤ N → b N a) {xs : List α} {l : Int} {N : Nat} (h0 : 0 ≤ l) (h : 0 ≤ szL g xs l) (hl : l ≤ N) : xs.length ≤ N ∧ ∀ x ∈ xs, b N x := by
  obtain ⟨h1, h2⟩ := szL_mem hg (xs := xs) (left := l) h0 h
  refine ⟨by omega, fun x hx => ?_⟩
  obtain ⟨q, a, b, c⟩ := h2 x hx
  exact hb x q N a c (by omega)
theorem szInt64S_ok (xs : List Int) (left : Int) (hx : xs.length ≤ 1125899906842624) (h0 : 0 ≤ left) (h1 : left ≤ 34359738368) : Pure Tryz.prog 116 [.c (.fz (xs.map encI)), .c (.int .i64 left)] (.c (.int .i64 (zI xs left))) := by
  refine Pure.run mixed c_laws_szInt64S_ok (Nat.le_of_ble_eq_true rfl) fun σ hS hA => ?_
  clear hS hA
  have hw : IntKind.i64.wrap (left - xs.length) = left - xs.length := wrap64 (by omega) (by omega)
  repeat' first|refine yaG ?_|(exfalso;omega)|(refine yaS ?_ ?_<;>intro _)
  · refine .ret rfl (.int ?_)
    rename_i h
    rw [hw] at h
    rw [zI, if_pos h]
  · refine .ret rfl (.int ?_)
    rename_i h
    rw [hw] at h ⊢
    rw [zI, if_neg h]
theorem toInt64S_ok (xs : List Int) (hx : xs.length ≤ 34359738368) (σ : Store) : Ok Tryz.prog 22 [.c (.fz (xs.map encI))] σ (New σ (.fz (xs.map encI))) := by
  refine Makes.new (s := 1) (flatI xs) (Makes.run mixed c_laws_toInt64S_ok (Nat.le_of_ble_eq_true rfl) fun σ hS hA => ?_) σ
  clear hS hA
  repeat' first|refine yaG ?_|((first|apply yG|apply yH|apply yI);exact rfl;(first|exact aop_mkslice rfl rfl (show 8 * xs.length ≤ 140737488355328 by omega)))|(exfalso;omega)|(refine yaS ?_ ?_<;>intro _)
  refine Go.keep [0, 3, 4] (Go.loops (I := fun m fr τ => ∃ i : Nat, ∃ n : Int, ∃ cs : List (List Ce), m = xs.length - i ∧ i ≤ xs.length ∧ n = i ∧ (cs.length = xs.length ∧ (∀ e ∈ cs, e.length = 1) ∧ ∀ j (h1 : j < xs.length) (h2 : j < cs.length), j < i → cs[j] = encI xs[j]) ∧
    fr = [(0, .c (.fz (xs.map encI))), (3, .c (.sl (σ.next + 0) 0 0 xs.length xs.length)), (4, .c (.int .i64 n))] ∧ τ = E σ [(0, cs)]) ?_ _ _ _ ⟨0, _, List.replicate xs.length [.int .i64 0], rfl, Nat.zero_le _, rfl, ⟨by simp, fun e he => by rw [List.eq_of_mem_replicate he]; rfl, fun j _ _ h => absurd h (by omega)⟩, rfl, rfl⟩)
  rintro m fr τ ⟨i, n, cs, rfl, hi, hn, ⟨hcl, hcs, hh⟩, rfl, rfl⟩ hrec
  by_cases hlt : i < xs.length
  · have hlc : i < cs.length := by omega
    have he : cs[0 + i]? = some cs[i] := by simp [hlc]
    have hel : cs[i].length = 1 := hcs _ (List.getElem_mem hlc)
    repeat' first|refine yaG ?_|((first|apply yG|apply yH|apply yI);exact rfl;(first|exact yX (enc := encI) rfl rfl hn hlt rfl|exact aop_iaddr (k := 0) (n := i) rfl rfl hn hlt rfl he hel|exact aop_store (k := 0) rfl rfl rfl rfl he rfl (by omega)))|(exfalso;omega)|(refine yaS ?_ ?_<;>intro _)
    have hsp : splice cs[i] 0 [Ce.int IntKind.i64 xs[i]] = encI xs[i] := splice_all hel rfl
    rw [hsp]
    refine Go.keep [0, 3, 4] (hrec _ _ _ (by omega) ⟨i + 1, _, cs.set (0 + i) (encI xs[i]), rfl, hlt, wrap_succ hn (by omega), ⟨by simp [hcl], fun e he' => ?_, fun j h1 h2 hj => ?_⟩, rfl, rfl⟩)
    · rcases List.mem_or_eq_of_mem_set he' with h | h
      · exact hcs _ h
      · rw [h]; rfl
    · by_cases e : j = i
      · subst e; simp
      · rw [List.getElem_set_ne (by omega)]
        exact hh j h1 (by simpa using h2) (by omega)
  · repeat' first|refine yaG ?_|(exfalso;omega)|(refine yaS ?_ ?_<;>intro _)
    have hcs2 : cs = xs.map encI := List.ext_getElem (by simp [hcl]) fun j h1 h2 => by
      rw [List.getElem_map]
      exact hh j (by simpa using h2) h1 (by simp at h2; omega)
    subst hcs2
    refine .ret rfl ⟨0, [], Jk.nil, ?_, by simp⟩
    simp [vec]
/-- Blocks 0 and 1 are a function's variables: what lies behind them stays. -/
theorem Has.more {σ : Store} {S : Nat → Prop} {y x : Ce} {l : List (Nat × List (List Ce))} (h : ∀ A B, Has (E σ (A :: B :: l)) S y x) (hS : ∀ a, S a → σ.next + 2 ≤ a ∧ a < σ.next + 2 + l.length) (m : List (Nat × List (List Ce))) : ∀ A B, Has (E σ (A :: B :: (l ++ m))) S y x := by
  intro A B
  refine (h A B).frame fun a ha => ?_
  have := hS a ha
  rw [E_ge (by omega), E_ge (by omega)]
  obtain ⟨q, hq⟩ : ∃ q, a - σ.next = q + 2 := ⟨a - σ.next - 2, by omega⟩
  rw [hq]
  simp only [List.getElem?_cons_succ]
  rw [List.getElem?_append_left (by omega)]
theorem Has.new2 {σ : Store} {y x : Ce} {A0 B0 : Nat × List (List Ce)} {l l2 : List (Nat × List (List Ce))} (h : Has (E σ ((A0 :: B0 :: l) ++ l2)) (fun a => (E σ (A0 :: B0 :: l)).next ≤ a ∧ a < (E σ ((A0 :: B0 :: l) ++ l2)).next) y x) :
    ∀ A B, Has (E σ (A :: B :: (l ++ l2))) (fun a => σ.next + 2 + l.length ≤ a ∧ a < σ.next + 2 + (l ++ l2).length) y x := by
  intro A B
  refine (h.frame fun a ha => ?_).mono fun a ha => ?_
  · have := ha.1
    simp only [E_next, List.length_cons] at this
    exact E_two (by omega)
  · have h1 := ha.1
    have h2 := ha.2
    simp only [E_next, List.length_cons, List.length_append] at h1 h2 ⊢
    omega
theorem HasL.skip {τ : Store} {S : Nat → Prop} {c : Ce} {ys xs : List Ce} (hc : Flat c) (k : HasL τ S ys xs) : HasL τ S (c :: ys) (c :: xs) :=
  (HasL.two (S := fun _ => False) (.c hc) k (fun _ h => h.elim)).mono fun a ha => ha.elim (fun h => h.elim) id
theorem tidy_pre {n : Nat} {l m : List (Nat × List (List Ce))} (h : TidyL n l) (k : TidyL n m) : TidyL n (l ++ m) := fun b hb => (List.mem_append.1 hb).elim (h b) (k b)
theorem tidy_up {σ : Store} {l l2 : List (Nat × List (List Ce))} (h : TidyL (E σ l).next l2) : TidyL σ.next l2 := fun b hb e he x hx => (h b hb e he x hx).mono (by simp [E_next])

structure Tok where
  kind : Int
  col : Int
  v : Val
  deriving DecidableEq
def encTok (a : Tok) : List Ce := [.int .i64 a.kind, .int .i64 a.col, .int .i64 a.v.k, .int .i64 a.v.n, .str a.v.s]
theorem flatTok (a : Tok) : ∀ x ∈ encTok a, Flat x := by
  intro x hx
  simp only [encTok, List.mem_cons, List.not_mem_nil, or_false] at hx
  rcases hx with rfl | rfl | rfl | rfl | rfl <;> constructor
def bTok (N : Nat) (a : Tok) : Prop := bV N a.v
def zTok (a : Tok) : Int → Int := chain [(szV a.v)]
theorem zTok_steps (a : Tok) : Steps [(szV a.v)] := (.cons (fun l h => szV_le _ l h) .nil)
theorem zTok_le (a : Tok) (l : Int) (h : 0 ≤ l) : zTok a l ≤ l := chain_le (zTok_steps a) l h
theorem bTok_of (a : Tok) (l : Int) (N : Nat) (h0 : 0 ≤ l) (h : 0 ≤ zTok a l) (hl : l ≤ N) : bTok N a := by
  have hh := chain_all (zTok_steps a) l h0 h
  obtain ⟨q0, u0, v0, w0⟩ := hh (szV a.v) (by simp)
  exact (bV_of w0 (by omega))
theorem szTok_ok (a : Tok) (left : Int) (hb : bTok 1125899906842624 a) (h0 : 0 ≤ left) (h1 : left ≤ 34359738368) : Pure Tryz.prog 235 [.agg (encTok a), .c (.int .i64 left)] (.c (.int .i64 (zTok a left))) := by
  refine Pure.run mixed c_laws_szTok_ok (Nat.le_of_ble_eq_true rfl) fun σ hS hA => ?_
  clear hS hA
  repeat' first|refine yaG ?_|fail
  refine .pcall rfl rfl rfl (szVal_ok a.v left hb (by omega) (by omega)) ?_
  have y1 := szV_le a.v left (by omega)
  generalize e1 : szV a.v left = l1 at y1 ⊢
  repeat' first|refine yaG ?_|(exfalso;omega)|(refine yaS ?_ ?_<;>intro _)
  · refine .ret rfl (.int ?_)
    rename_i h
    simp only [zTok, chain, e1, if_pos h]
  rename_i g1
  refine .ret rfl (.int ?_)
  simp only [zTok, chain, e1, if_neg g1]
theorem szTokS_ok (xs : List Tok) (left : Int) (hx : xs.length ≤ 1125899906842624) (hv : ∀ e ∈ xs, bTok 1125899906842624 e) (h0 : 0 ≤ left) (h1 : left ≤ 34359738368) : Pure Tryz.prog 202 [.c (.fz (xs.map encTok)), .c (.int .i64 left)] (.c (.int .i64 (szL zTok xs left))) :=
  szS_ok mixed c_laws_szTokS_ok encTok zTok xs left hx h0 h1 (fun _ => rfl) zTok_le fun a ha l h2 h3 => szTok_ok a l (hv a ha) h2 (by omega)
theorem toTok_ok (a : Tok) (hb : bTok 34359738368 a) (σ : Store) : Ok Tryz.prog 236 [.agg (encTok a)] σ (NewL σ (encTok a)) := by
  refine Ok.run mixed c_laws_toTok_ok (Nat.le_of_ble_eq_true rfl) fun hS hA => ?_
  clear hS hA
  repeat' first|refine yaG ?_|refine yaC (NewL.pure (toVal_ok a.v)) ?_|(exfalso;omega)|(refine yaS ?_ ?_<;>intro _)
  refine .ret (retv_m rfl rfl rfl (Nat.le_of_ble_eq_true rfl) rfl) ⟨encTok a, _, rfl, rfl, ?_, .flat (flatTok a)⟩
  show TidyL σ.next [(0, [encTok a]), (0, [encTok a])]
  exact .one (fun x hx => .flat (flatTok a x hx)) (.one (fun x hx => .flat (flatTok a x hx)) .nil)
theorem toTokS_ok (xs : List Tok) (hx : xs.length ≤ 34359738368) (hv : ∀ e ∈ xs, bTok 34359738368 e) (σ : Store) : Ok Tryz.prog 203 [.c (.fz (xs.map encTok))] σ (New σ (.fz (xs.map encTok))) :=
  toS_ok mixed c_laws_toTokS_ok encTok xs hx (by decide) rfl (fun _ => rfl) (by intro x hx; simp only [List.mem_cons, List.not_mem_nil, or_false] at hx; rcases hx with rfl | rfl | rfl | rfl | rfl <;> constructor) (fun a ha σ => toTok_ok a (hv a ha) σ) σ
theorem Tok_beq (a b : Tok) : (a == b) = (a.kind == b.kind && a.col == b.col && a.v == b.v) := by
  obtain ⟨a0, a1, a2⟩ := a
  obtain ⟨b0, b1, b2⟩ := b
  rw [Bool.eq_iff_iff]
  simp [and_assoc]
theorem eqTok_ok (a b : Tok) (hb : bTok 34359738368 a) : Pure Tryz.prog 237 [.agg (encTok a), .agg (encTok b)] (.c (.bool (a == b))) := by
  refine Pure.run mixed c_laws_eqTok_ok (Nat.le_of_ble_eq_true rfl) fun σ hS hA => ?_
  clear hS hA
  have hq := Tok_beq a b
  repeat' first|refine yaG ?_|((first|apply Go.pcallB|apply Go.spcallB|apply Qg.pcallB);(iterate 3 exact rfl);exact eqVal_ok a.v b.v;intro _ _)|(exfalso;omega)|(refine yaS ?_ ?_<;>intro _)
  all_goals refine .ret rfl (.bool ?_)
  all_goals rw [hq]
  all_goals clear hq hb
  all_goals simp_all
theorem eqTokS_ok (xs ys : List Tok) (hx : xs.length ≤ 34359738368) (hv : ∀ e ∈ xs, bTok 34359738368 e) : Pure Tryz.prog 204 [.c (.fz (xs.map encTok)), .c (.fz (ys.map encTok))] (.c (.bool (xs == ys))) :=
  eqS_ok mixed c_laws_eqTokS_ok encTok xs ys hx (fun _ => rfl) fun a ha b => eqTok_ok a b (hv a ha)
structure Chk where
  expr : List Tok
  deriving DecidableEq
def encChk (a : Chk) : List Ce := [.fz (a.expr.map encTok)]
def bChk (N : Nat) (a : Chk) : Prop := (a.expr.length ≤ N ∧ ∀ x ∈ a.expr, bTok N x)
def zChk (a : Chk) : Int → Int := chain [(szL zTok a.expr)]
theorem zChk_steps (a : Chk) : Steps [(szL zTok a.expr)] := (.cons (fun l h => szL_le zTok_le _ l h) .nil)
theorem zChk_le (a : Chk) (l : Int) (h : 0 ≤ l) : zChk a l ≤ l := chain_le (zChk_steps a) l h
theorem bChk_of (a : Chk) (l : Int) (N : Nat) (h0 : 0 ≤ l) (h : 0 ≤ zChk a l) (hl : l ≤ N) : bChk N a := by
  have hh := chain_all (zChk_steps a) l h0 h
  obtain ⟨q0, u0, v0, w0⟩ := hh (szL zTok a.expr) (by simp)
  exact (list_of zTok_le bTok_of u0 w0 (by omega))
theorem szChk_ok (a : Chk) (left : Int) (hb : bChk 1125899906842624 a) (h0 : 0 ≤ left) (h1 : left ≤ 34359738368) : Pure Tryz.prog 161 [.agg (encChk a), .c (.int .i64 left)] (.c (.int .i64 (zChk a left))) := by
  refine Pure.run mixed c_laws_szCheck_ok (Nat.le_of_ble_eq_true rfl) fun σ hS hA => ?_
  clear hS hA
  repeat' first|refine yaG ?_|fail
  refine .pcall rfl rfl rfl (szTokS_ok a.expr left hb.1 hb.2 (by omega) (by omega)) ?_
  have y1 := szL_le zTok_le a.expr left (by omega)
  generalize e1 : szL zTok a.expr left = l1 at y1 ⊢
  repeat' first|refine yaG ?_|(exfalso;omega)|(refine yaS ?_ ?_<;>intro _)
  · refine .ret rfl (.int ?_)
    rename_i h
    simp only [zChk, chain, e1, if_pos h]
  rename_i g1
  refine .ret rfl (.int ?_)
  simp only [zChk, chain, e1, if_neg g1]
theorem szChkS_ok (xs : List Chk) (left : Int) (hx : xs.length ≤ 1125899906842624) (hv : ∀ e ∈ xs, bChk 1125899906842624 e) (h0 : 0 ≤ left) (h1 : left ≤ 34359738368) : Pure Tryz.prog 118 [.c (.fz (xs.map encChk)), .c (.int .i64 left)] (.c (.int .i64 (szL zChk xs left))) :=
  szS_ok mixed c_laws_szCheckS_ok encChk zChk xs left hx h0 h1 (fun _ => rfl) zChk_le fun a ha l h2 h3 => szChk_ok a l (hv a ha) h2 (by omega)
theorem toChk_ok (a : Chk) (hb : bChk 34359738368 a) (σ : Store) : Ok Tryz.prog 167 [.agg (encChk a)] σ (NewL σ (encChk a)) := by
  refine Ok.run mixed c_laws_toCheck_ok (Nat.le_of_ble_eq_true rfl) fun hS hA => ?_
  clear hS hA
  repeat' first|refine yaG ?_|(exfalso;omega)|(refine yaS ?_ ?_<;>intro _)
  refine Go.call _ rfl rfl rfl (toTokS_ok a.expr hb.1 hb.2 _) ?_
  rintro r σ0 ⟨x0, m0, rfl, rfl, t0, h0⟩
  rw [E_E] at h0 ⊢
  have t0 := tidy_up t0
  have h0 := h0.new2
  repeat' first|refine yaG ?_|(exfalso;omega)|(refine yaS ?_ ?_<;>intro _)
  have hL : HasL (E σ ((0, [[x0]]) :: (0, [[x0]]) :: ([] ++ m0))) (fun a => σ.next + 2 ≤ a ∧ a < σ.next + 2 + ([] ++ m0).length) (encChk a) [x0] := by
    refine HasL.mono ?_ (HasL.two (h0 _ _) (HasL.nil (S := fun a => a < 0)) (fun a ha hb => by (try dsimp only at ha hb); (try simp only [List.append_eq, List.length_append, List.length_nil, List.nil_append] at ha hb); omega))
    intro a ha
    (try dsimp only at ha)
    (try simp only [List.append_eq, List.length_append, List.length_nil, List.nil_append] at ha ⊢)
    omega
  have hT := hL.tidy (n := σ.next) fun a ha => by have := ha.1; omega
  have hM : TidyL σ.next ([] ++ m0) := (tidy_pre (fun b hb => by simp at hb) t0)
  have hN : NewL σ (encChk a) (.agg [x0]) (E σ ((0, [[x0]]) :: (0, [[x0]]) :: ([] ++ m0))) := by
    refine ⟨_, _, rfl, rfl, .one hT (.one hT hM), hL.mono ?_⟩
    intro a ha
    have h9 := ha.1
    have h8 := ha.2
    (try simp only [E_next, List.length_cons, List.append_eq, List.length_append, List.length_nil, List.nil_append] at h8 ⊢)
    constructor <;> omega
  exact .ret (retv_m rfl rfl rfl (Nat.le_of_ble_eq_true rfl) rfl) hN
theorem toChkS_ok (xs : List Chk) (hx : xs.length ≤ 34359738368) (hv : ∀ e ∈ xs, bChk 34359738368 e) (σ : Store) : Ok Tryz.prog 124 [.c (.fz (xs.map encChk))] σ (New σ (.fz (xs.map encChk))) :=
  toS_ok mixed c_laws_toCheckS_ok encChk xs hx (by decide) rfl (fun _ => rfl) (by intro x hx; simp only [List.mem_cons, List.not_mem_nil, or_false] at hx; rcases hx with rfl <;> constructor) (fun a ha σ => toChk_ok a (hv a ha) σ) σ
theorem Chk_beq (a b : Chk) : (a == b) = (a.expr == b.expr) := by
  obtain ⟨a0⟩ := a
  obtain ⟨b0⟩ := b
  rw [Bool.eq_iff_iff]
  simp [and_assoc]
theorem eqChk_ok (a b : Chk) (hb : bChk 34359738368 a) : Pure Tryz.prog 173 [.agg (encChk a), .agg (encChk b)] (.c (.bool (a == b))) := by
  refine Pure.run mixed c_laws_eqCheck_ok (Nat.le_of_ble_eq_true rfl) fun σ hS hA => ?_
  clear hS hA
  have hq := Chk_beq a b
  repeat' first|refine yaG ?_|((first|apply Go.pcallB|apply Go.spcallB|apply Qg.pcallB);(iterate 3 exact rfl);exact eqTokS_ok a.expr b.expr hb.1 hb.2;intro _ _)|(exfalso;omega)|(refine yaS ?_ ?_<;>intro _)
  all_goals refine .ret rfl (.bool ?_)
  all_goals rw [hq]
  all_goals clear hq hb
  all_goals simp_all
theorem eqChkS_ok (xs ys : List Chk) (hx : xs.length ≤ 34359738368) (hv : ∀ e ∈ xs, bChk 34359738368 e) : Pure Tryz.prog 130 [.c (.fz (xs.map encChk)), .c (.fz (ys.map encChk))] (.c (.bool (xs == ys))) :=
  eqS_ok mixed c_laws_eqCheckS_ok encChk xs ys hx (fun _ => rfl) fun a ha b => eqChk_ok a b (hv a ha)
structure Uniq where
  cols : List Int
  deriving DecidableEq
def encUniq (a : Uniq) : List Ce := [.fz (a.cols.map encI)]
def bUniq (N : Nat) (a : Uniq) : Prop := a.cols.length ≤ N
def zUniq (a : Uniq) : Int → Int := chain [(zI a.cols)]
theorem zUniq_steps (a : Uniq) : Steps [(zI a.cols)] := (.cons (step_ints _) .nil)
theorem zUniq_le (a : Uniq) (l : Int) (h : 0 ≤ l) : zUniq a l ≤ l := chain_le (zUniq_steps a) l h
theorem bUniq_of (a : Uniq) (l : Int) (N : Nat) (h0 : 0 ≤ l) (h : 0 ≤ zUniq a l) (hl : l ≤ N) : bUniq N a := by
  have hh := chain_all (zUniq_steps a) l h0 h
  obtain ⟨q0, u0, v0, w0⟩ := hh (zI a.cols) (by simp)
  exact (ints_of w0 (by omega))
theorem szUniq_ok (a : Uniq) (left : Int) (hb : bUniq 1125899906842624 a) (h0 : 0 ≤ left) (h1 : left ≤ 34359738368) : Pure Tryz.prog 160 [.agg (encUniq a), .c (.int .i64 left)] (.c (.int .i64 (zUniq a left))) := by
  refine Pure.run mixed c_laws_szUnique_ok (Nat.le_of_ble_eq_true rfl) fun σ hS hA => ?_
  clear hS hA
  repeat' first|refine yaG ?_|fail
  refine .pcall rfl rfl rfl (szInt64S_ok a.cols left hb (by omega) (by omega)) ?_
  have y1 := step_ints a.cols left (by omega)
  generalize e1 : zI a.cols left = l1 at y1 ⊢
  repeat' first|refine yaG ?_|(exfalso;omega)|(refine yaS ?_ ?_<;>intro _)
  · refine .ret rfl (.int ?_)
    rename_i h
    simp only [zUniq, chain, e1, if_pos h]
  rename_i g1
  refine .ret rfl (.int ?_)
  simp only [zUniq, chain, e1, if_neg g1]
theorem szUniqS_ok (xs : List Uniq) (left : Int) (hx : xs.length ≤ 1125899906842624) (hv : ∀ e ∈ xs, bUniq 1125899906842624 e) (h0 : 0 ≤ left) (h1 : left ≤ 34359738368) : Pure Tryz.prog 117 [.c (.fz (xs.map encUniq)), .c (.int .i64 left)] (.c (.int .i64 (szL zUniq xs left))) :=
  szS_ok mixed c_laws_szUniqueS_ok encUniq zUniq xs left hx h0 h1 (fun _ => rfl) zUniq_le fun a ha l h2 h3 => szUniq_ok a l (hv a ha) h2 (by omega)
theorem toUniq_ok (a : Uniq) (hb : bUniq 34359738368 a) (σ : Store) : Ok Tryz.prog 166 [.agg (encUniq a)] σ (NewL σ (encUniq a)) := by
  refine Ok.run mixed c_laws_toUnique_ok (Nat.le_of_ble_eq_true rfl) fun hS hA => ?_
  clear hS hA
  repeat' first|refine yaG ?_|(exfalso;omega)|(refine yaS ?_ ?_<;>intro _)
  refine Go.call _ rfl rfl rfl (toInt64S_ok a.cols hb _) ?_
  rintro r σ0 ⟨x0, m0, rfl, rfl, t0, h0⟩
  rw [E_E] at h0 ⊢
  have t0 := tidy_up t0
  have h0 := h0.new2
  repeat' first|refine yaG ?_|(exfalso;omega)|(refine yaS ?_ ?_<;>intro _)
  have hL : HasL (E σ ((0, [[x0]]) :: (0, [[x0]]) :: ([] ++ m0))) (fun a => σ.next + 2 ≤ a ∧ a < σ.next + 2 + ([] ++ m0).length) (encUniq a) [x0] := by
    refine HasL.mono ?_ (HasL.two (h0 _ _) (HasL.nil (S := fun a => a < 0)) (fun a ha hb => by (try dsimp only at ha hb); (try simp only [List.append_eq, List.length_append, List.length_nil, List.nil_append] at ha hb); omega))
    intro a ha
    (try dsimp only at ha)
    (try simp only [List.append_eq, List.length_append, List.length_nil, List.nil_append] at ha ⊢)
    omega
  have hT := hL.tidy (n := σ.next) fun a ha => by have := ha.1; omega
  have hM : TidyL σ.next ([] ++ m0) := (tidy_pre (fun b hb => by simp at hb) t0)
  have hN : NewL σ (encUniq a) (.agg [x0]) (E σ ((0, [[x0]]) :: (0, [[x0]]) :: ([] ++ m0))) := by
    refine ⟨_, _, rfl, rfl, .one hT (.one hT hM), hL.mono ?_⟩
    intro a ha
    have h9 := ha.1
    have h8 := ha.2
    (try simp only [E_next, List.length_cons, List.append_eq, List.length_append, List.length_nil, List.nil_append] at h8 ⊢)
    constructor <;> omega
  exact .ret (retv_m rfl rfl rfl (Nat.le_of_ble_eq_true rfl) rfl) hN
theorem toUniqS_ok (xs : List Uniq) (hx : xs.length ≤ 34359738368) (hv : ∀ e ∈ xs, bUniq 34359738368 e) (σ : Store) : Ok Tryz.prog 123 [.c (.fz (xs.map encUniq))] σ (New σ (.fz (xs.map encUniq))) :=
  toS_ok mixed c_laws_toUniqueS_ok encUniq xs hx (by decide) rfl (fun _ => rfl) (by intro x hx; simp only [List.mem_cons, List.not_mem_nil, or_false] at hx; rcases hx with rfl <;> constructor) (fun a ha σ => toUniq_ok a (hv a ha) σ) σ
theorem Uniq_beq (a b : Uniq) : (a == b) = (a.cols == b.cols) := by
  obtain ⟨a0⟩ := a
  obtain ⟨b0⟩ := b
  rw [Bool.eq_iff_iff]
  simp [and_assoc]
theorem eqUniq_ok (a b : Uniq) (hb : bUniq 34359738368 a) : Pure Tryz.prog 172 [.agg (encUniq a), .agg (encUniq b)] (.c (.bool (a == b))) := by
  refine Pure.run mixed c_laws_eqUnique_ok (Nat.le_of_ble_eq_true rfl) fun σ hS hA => ?_
  clear hS hA
  have hq := Uniq_beq a b
  repeat' first|refine yaG ?_|((first|apply Go.pcallB|apply Go.spcallB|apply Qg.pcallB);(iterate 3 exact rfl);exact eqInt64S_ok a.cols b.cols hb;intro _ _)|(exfalso;omega)|(refine yaS ?_ ?_<;>intro _)
  all_goals refine .ret rfl (.bool ?_)
  all_goals rw [hq]
  all_goals clear hq hb
  all_goals simp_all
theorem eqUniqS_ok (xs ys : List Uniq) (hx : xs.length ≤ 34359738368) (hv : ∀ e ∈ xs, bUniq 34359738368 e) : Pure Tryz.prog 129 [.c (.fz (xs.map encUniq)), .c (.fz (ys.map encUniq))] (.c (.bool (xs == ys))) :=
  eqS_ok mixed c_laws_eqUniqueS_ok encUniq xs ys hx (fun _ => rfl) fun a ha b => eqUniq_ok a b (hv a ha)
structure Fk where
  cols : List Int
  table : List UInt8
  onDelete : Int
  onUpdate : Int
  deferred : Bool
  deriving DecidableEq
def encFk (a : Fk) : List Ce := [.fz (a.cols.map encI), .str a.table, .int .i64 a.onDelete, .int .i64 a.onUpdate, .bool a.deferred]
def bFk (N : Nat) (a : Fk) : Prop := a.cols.length ≤ N ∧ a.table.length ≤ N
def zFk (a : Fk) : Int → Int := chain [(zI a.cols), (fun l => l - a.table.length)]
theorem zFk_steps (a : Fk) : Steps [(zI a.cols), (fun l => l - a.table.length)] := (.cons (step_ints _) (.cons (step_str _) .nil))
theorem zFk_le (a : Fk) (l : Int) (h : 0 ≤ l) : zFk a l ≤ l := chain_le (zFk_steps a) l h
theorem bFk_of (a : Fk) (l : Int) (N : Nat) (h0 : 0 ≤ l) (h : 0 ≤ zFk a l) (hl : l ≤ N) : bFk N a := by
  have hh := chain_all (zFk_steps a) l h0 h
  obtain ⟨q0, u0, v0, w0⟩ := hh (zI a.cols) (by simp)
  obtain ⟨q1, u1, v1, w1⟩ := hh (fun l => l - a.table.length) (by simp)
  exact ⟨(ints_of w0 (by omega)), (by (try simp only at w1); omega)⟩
theorem szFk_ok (a : Fk) (left : Int) (hb : bFk 1125899906842624 a) (h0 : 0 ≤ left) (h1 : left ≤ 34359738368) : Pure Tryz.prog 162 [.agg (encFk a), .c (.int .i64 left)] (.c (.int .i64 (zFk a left))) := by
  refine Pure.run mixed c_laws_szFk_ok (Nat.le_of_ble_eq_true rfl) fun σ hS hA => ?_
  clear hS hA
  repeat' first|refine yaG ?_|fail
  refine .pcall rfl rfl rfl (szInt64S_ok a.cols left hb.1 (by omega) (by omega)) ?_
  have y1 := step_ints a.cols left (by omega)
  generalize e1 : zI a.cols left = l1 at y1 ⊢
  have w2 : 0 ≤ l1 → IntKind.i64.wrap (l1 - a.table.length) = l1 - a.table.length := fun h => wrap64 (by have : a.table.length ≤ 1125899906842624 := hb.2; omega) (by omega)
  repeat' first|refine yaG ?_|(exfalso;omega)|(refine yaS ?_ ?_<;>intro _)
  · refine .ret rfl (.int ?_)
    rename_i h
    simp only [zFk, chain, e1, if_pos h]
  · refine .ret rfl (.int ?_)
    rename_i g1 h
    have v2 := w2 (by omega)
    simp only [v2] at h
    simp only [zFk, chain, e1, if_neg g1, if_pos h]
  rename_i g1 g2
  have v2 := w2 (by omega)
  simp only [v2] at g2 ⊢
  obtain ⟨l2, e2⟩ : ∃ q, l1 - (a.table.length : Int) = q := ⟨_, rfl⟩
  rw [e2] at g2 ⊢
  refine .ret rfl (.int ?_)
  simp only [zFk, chain, e1, e2, if_neg g1, if_neg g2]
theorem szFkS_ok (xs : List Fk) (left : Int) (hx : xs.length ≤ 1125899906842624) (hv : ∀ e ∈ xs, bFk 1125899906842624 e) (h0 : 0 ≤ left) (h1 : left ≤ 34359738368) : Pure Tryz.prog 119 [.c (.fz (xs.map encFk)), .c (.int .i64 left)] (.c (.int .i64 (szL zFk xs left))) :=
  szS_ok mixed c_laws_szFkS_ok encFk zFk xs left hx h0 h1 (fun _ => rfl) zFk_le fun a ha l h2 h3 => szFk_ok a l (hv a ha) h2 (by omega)
theorem toFk_ok (a : Fk) (hb : bFk 34359738368 a) (σ : Store) : Ok Tryz.prog 168 [.agg (encFk a)] σ (NewL σ (encFk a)) := by
  refine Ok.run mixed c_laws_toFk_ok (Nat.le_of_ble_eq_true rfl) fun hS hA => ?_
  clear hS hA
  repeat' first|refine yaG ?_|(exfalso;omega)|(refine yaS ?_ ?_<;>intro _)
  refine Go.call _ rfl rfl rfl (toInt64S_ok a.cols hb.1 _) ?_
  rintro r σ0 ⟨x0, m0, rfl, rfl, t0, h0⟩
  rw [E_E] at h0 ⊢
  have t0 := tidy_up t0
  have h0 := h0.new2
  repeat' first|refine yaG ?_|(exfalso;omega)|(refine yaS ?_ ?_<;>intro _)
  have hL : HasL (E σ ((0, [[x0, .str a.table, .int .i64 a.onDelete, .int .i64 a.onUpdate, .bool a.deferred]]) :: (0, [[x0, .str a.table, .int .i64 a.onDelete, .int .i64 a.onUpdate, .bool a.deferred]]) :: ([] ++ m0))) (fun a => σ.next + 2 ≤ a ∧ a < σ.next + 2 + ([] ++ m0).length) (encFk a) [x0, .str a.table, .int .i64 a.onDelete, .int .i64 a.onUpdate, .bool a.deferred] := by
    refine HasL.mono ?_ (HasL.two (h0 _ _) (HasL.skip (.str _) (HasL.skip (.int _ _) (HasL.skip (.int _ _) (HasL.skip (.bool _) (HasL.nil (S := fun a => a < 0)))))) (fun a ha hb => by (try dsimp only at ha hb); (try simp only [List.append_eq, List.length_append, List.length_nil, List.nil_append] at ha hb); omega))
    intro a ha
    (try dsimp only at ha)
    (try simp only [List.append_eq, List.length_append, List.length_nil, List.nil_append] at ha ⊢)
    omega
  have hT := hL.tidy (n := σ.next) fun a ha => by have := ha.1; omega
  have hM : TidyL σ.next ([] ++ m0) := (tidy_pre (fun b hb => by simp at hb) t0)
  have hN : NewL σ (encFk a) (.agg [x0, .str a.table, .int .i64 a.onDelete, .int .i64 a.onUpdate, .bool a.deferred]) (E σ ((0, [[x0, .str a.table, .int .i64 a.onDelete, .int .i64 a.onUpdate, .bool a.deferred]]) :: (0, [[x0, .str a.table, .int .i64 a.onDelete, .int .i64 a.onUpdate, .bool a.deferred]]) :: ([] ++ m0))) := by
    refine ⟨_, _, rfl, rfl, .one hT (.one hT hM), hL.mono ?_⟩
    intro a ha
    have h9 := ha.1
    have h8 := ha.2
    (try simp only [E_next, List.length_cons, List.append_eq, List.length_append, List.length_nil, List.nil_append] at h8 ⊢)
    constructor <;> omega
  exact .ret (retv_m rfl rfl rfl (Nat.le_of_ble_eq_true rfl) rfl) hN
theorem toFkS_ok (xs : List Fk) (hx : xs.length ≤ 34359738368) (hv : ∀ e ∈ xs, bFk 34359738368 e) (σ : Store) : Ok Tryz.prog 125 [.c (.fz (xs.map encFk))] σ (New σ (.fz (xs.map encFk))) :=
  toS_ok mixed c_laws_toFkS_ok encFk xs hx (by decide) rfl (fun _ => rfl) (by intro x hx; simp only [List.mem_cons, List.not_mem_nil, or_false] at hx; rcases hx with rfl | rfl | rfl | rfl | rfl <;> constructor) (fun a ha σ => toFk_ok a (hv a ha) σ) σ
theorem Fk_beq (a b : Fk) : (a == b) = (a.cols == b.cols && a.table == b.table && a.onDelete == b.onDelete && a.onUpdate == b.onUpdate && a.deferred == b.deferred) := by
  obtain ⟨a0, a1, a2, a3, a4⟩ := a
  obtain ⟨b0, b1, b2, b3, b4⟩ := b
  rw [Bool.eq_iff_iff]
  simp [and_assoc]
theorem eqFk_ok (a b : Fk) (hb : bFk 34359738368 a) : Pure Tryz.prog 174 [.agg (encFk a), .agg (encFk b)] (.c (.bool (a == b))) := by
  refine Pure.run mixed c_laws_eqFk_ok (Nat.le_of_ble_eq_true rfl) fun σ hS hA => ?_
  clear hS hA
  have hq := Fk_beq a b
  repeat' first|refine yaG ?_|((first|apply Go.pcallB|apply Go.spcallB|apply Qg.pcallB);(iterate 3 exact rfl);exact eqInt64S_ok a.cols b.cols hb.1;intro _ _)|(exfalso;omega)|(refine yaS ?_ ?_<;>intro _)
  all_goals refine .ret rfl (.bool ?_)
  all_goals rw [hq]
  all_goals clear hq hb
  all_goals simp_all
theorem eqFkS_ok (xs ys : List Fk) (hx : xs.length ≤ 34359738368) (hv : ∀ e ∈ xs, bFk 34359738368 e) : Pure Tryz.prog 131 [.c (.fz (xs.map encFk)), .c (.fz (ys.map encFk))] (.c (.bool (xs == ys))) :=
  eqS_ok mixed c_laws_eqFkS_ok encFk xs ys hx (fun _ => rfl) fun a ha b => eqFk_ok a b (hv a ha)
structure Col where
  name : List UInt8
  kind : Int
  notNull : Bool
  dflt : Val
  deriving DecidableEq
def encCol (a : Col) : List Ce := [.str a.name, .int .i64 a.kind, .bool a.notNull, .int .i64 a.dflt.k, .int .i64 a.dflt.n, .str a.dflt.s]
theorem flatCol (a : Col) : ∀ x ∈ encCol a, Flat x := by
  intro x hx
  simp only [encCol, List.mem_cons, List.not_mem_nil, or_false] at hx
  rcases hx with rfl | rfl | rfl | rfl | rfl | rfl <;> constructor
def bCol (N : Nat) (a : Col) : Prop := a.name.length ≤ N ∧ bV N a.dflt
def zCol (a : Col) : Int → Int := chain [(fun l => l - a.name.length), (szV a.dflt)]
theorem zCol_steps (a : Col) : Steps [(fun l => l - a.name.length), (szV a.dflt)] := (.cons (step_str _) (.cons (fun l h => szV_le _ l h) .nil))
theorem zCol_le (a : Col) (l : Int) (h : 0 ≤ l) : zCol a l ≤ l := chain_le (zCol_steps a) l h
theorem bCol_of (a : Col) (l : Int) (N : Nat) (h0 : 0 ≤ l) (h : 0 ≤ zCol a l) (hl : l ≤ N) : bCol N a := by
  have hh := chain_all (zCol_steps a) l h0 h
  obtain ⟨q0, u0, v0, w0⟩ := hh (fun l => l - a.name.length) (by simp)
  obtain ⟨q1, u1, v1, w1⟩ := hh (szV a.dflt) (by simp)
  exact ⟨(by (try simp only at w0); omega), (bV_of w1 (by omega))⟩
theorem szCol_ok (a : Col) (left : Int) (hb : bCol 1125899906842624 a) (h0 : 0 ≤ left) (h1 : left ≤ 34359738368) : Pure Tryz.prog 159 [.agg (encCol a), .c (.int .i64 left)] (.c (.int .i64 (zCol a left))) := by
  refine Pure.run mixed c_laws_szCol_ok (Nat.le_of_ble_eq_true rfl) fun σ hS hA => ?_
  clear hS hA
  have w1 : 0 ≤ left → IntKind.i64.wrap (left - a.name.length) = left - a.name.length := fun h => wrap64 (by have : a.name.length ≤ 1125899906842624 := hb.1; omega) (by omega)
  repeat' first|refine yaG ?_|(exfalso;omega)|(refine yaS ?_ ?_<;>intro _)
  · refine .ret rfl (.int ?_)
    rename_i h
    have v1 := w1 (by omega)
    simp only [v1] at h
    simp only [zCol, chain, if_pos h]
  rename_i g1
  have v1 := w1 (by omega)
  simp only [v1] at g1 ⊢
  obtain ⟨l1, e1⟩ : ∃ q, left - (a.name.length : Int) = q := ⟨_, rfl⟩
  rw [e1] at g1 ⊢
  refine .pcall rfl rfl rfl (szVal_ok a.dflt l1 hb.2 (by omega) (by omega)) ?_
  have y2 := szV_le a.dflt l1 (by omega)
  generalize e2 : szV a.dflt l1 = l2 at y2 ⊢
  repeat' first|refine yaG ?_|(exfalso;omega)|(refine yaS ?_ ?_<;>intro _)
  · refine .ret rfl (.int ?_)
    rename_i h
    simp only [zCol, chain, e1, if_neg g1, e2, if_pos h]
  rename_i g2
  refine .ret rfl (.int ?_)
  simp only [zCol, chain, e1, if_neg g1, e2, if_neg g2]
theorem szColS_ok (xs : List Col) (left : Int) (hx : xs.length ≤ 1125899906842624) (hv : ∀ e ∈ xs, bCol 1125899906842624 e) (h0 : 0 ≤ left) (h1 : left ≤ 34359738368) : Pure Tryz.prog 115 [.c (.fz (xs.map encCol)), .c (.int .i64 left)] (.c (.int .i64 (szL zCol xs left))) :=
  szS_ok mixed c_laws_szColS_ok encCol zCol xs left hx h0 h1 (fun _ => rfl) zCol_le fun a ha l h2 h3 => szCol_ok a l (hv a ha) h2 (by omega)
theorem toCol_ok (a : Col) (hb : bCol 34359738368 a) (σ : Store) : Ok Tryz.prog 165 [.agg (encCol a)] σ (NewL σ (encCol a)) := by
  refine Ok.run mixed c_laws_toCol_ok (Nat.le_of_ble_eq_true rfl) fun hS hA => ?_
  clear hS hA
  repeat' first|refine yaG ?_|refine yaC (NewL.pure (toVal_ok a.dflt)) ?_|(exfalso;omega)|(refine yaS ?_ ?_<;>intro _)
  refine .ret (retv_m rfl rfl rfl (Nat.le_of_ble_eq_true rfl) rfl) ⟨encCol a, _, rfl, rfl, ?_, .flat (flatCol a)⟩
  show TidyL σ.next [(0, [encCol a]), (0, [encCol a])]
  exact .one (fun x hx => .flat (flatCol a x hx)) (.one (fun x hx => .flat (flatCol a x hx)) .nil)
theorem toColS_ok (xs : List Col) (hx : xs.length ≤ 34359738368) (hv : ∀ e ∈ xs, bCol 34359738368 e) (σ : Store) : Ok Tryz.prog 122 [.c (.fz (xs.map encCol))] σ (New σ (.fz (xs.map encCol))) :=
  toS_ok mixed c_laws_toColS_ok encCol xs hx (by decide) rfl (fun _ => rfl) (by intro x hx; simp only [List.mem_cons, List.not_mem_nil, or_false] at hx; rcases hx with rfl | rfl | rfl | rfl | rfl | rfl <;> constructor) (fun a ha σ => toCol_ok a (hv a ha) σ) σ
theorem Col_beq (a b : Col) : (a == b) = (a.name == b.name && a.kind == b.kind && a.notNull == b.notNull && a.dflt == b.dflt) := by
  obtain ⟨a0, a1, a2, a3⟩ := a
  obtain ⟨b0, b1, b2, b3⟩ := b
  rw [Bool.eq_iff_iff]
  simp [and_assoc]
theorem eqCol_ok (a b : Col) (hb : bCol 34359738368 a) : Pure Tryz.prog 171 [.agg (encCol a), .agg (encCol b)] (.c (.bool (a == b))) := by
  refine Pure.run mixed c_laws_eqCol_ok (Nat.le_of_ble_eq_true rfl) fun σ hS hA => ?_
  clear hS hA
  have hq := Col_beq a b
  repeat' first|refine yaG ?_|((first|apply Go.pcallB|apply Go.spcallB|apply Qg.pcallB);(iterate 3 exact rfl);exact eqVal_ok a.dflt b.dflt;intro _ _)|(exfalso;omega)|(refine yaS ?_ ?_<;>intro _)
  all_goals refine .ret rfl (.bool ?_)
  all_goals rw [hq]
  all_goals clear hq hb
  all_goals simp_all
theorem eqColS_ok (xs ys : List Col) (hx : xs.length ≤ 34359738368) (hv : ∀ e ∈ xs, bCol 34359738368 e) : Pure Tryz.prog 128 [.c (.fz (xs.map encCol)), .c (.fz (ys.map encCol))] (.c (.bool (xs == ys))) :=
  eqS_ok mixed c_laws_eqColS_ok encCol xs ys hx (fun _ => rfl) fun a ha b => eqCol_ok a b (hv a ha)
end Go.Proofs.YtdgnfdljkghpjaaGreat.Am

/- The laws' helpers on types, printed by a program: Table, Term, Select, Trigger. -/
set_option linter.unusedVariables false
set_option linter.unusedSimpArgs false
namespace Go.Proofs.YtdgnfdljkghpjaaGreat.Am
structure Table where
  name : List UInt8
  cols : List Col
  key : List Int
  uniques : List Uniq
  checks : List Chk
  fks : List Fk
  deriving DecidableEq
def encTable (a : Table) : List Ce := [.str a.name, .fz (a.cols.map encCol), .fz (a.key.map encI), .fz (a.uniques.map encUniq), .fz (a.checks.map encChk), .fz (a.fks.map encFk)]
def bTable (N : Nat) (a : Table) : Prop := a.name.length ≤ N ∧ (a.cols.length ≤ N ∧ ∀ x ∈ a.cols, bCol N x) ∧ a.key.length ≤ N ∧ (a.uniques.length ≤ N ∧ ∀ x ∈ a.uniques, bUniq N x) ∧ (a.checks.length ≤ N ∧ ∀ x ∈ a.checks, bChk N x) ∧ (a.fks.length ≤ N ∧ ∀ x ∈ a.fks, bFk N x)
def zTable (a : Table) : Int → Int := chain [(fun l => l - a.name.length), (szL zCol a.cols), (zI a.key), (szL zUniq a.uniques), (szL zChk a.checks), (szL zFk a.fks)]
theorem zTable_steps (a : Table) : Steps [(fun l => l - a.name.length), (szL zCol a.cols), (zI a.key), (szL zUniq a.uniques), (szL zChk a.checks), (szL zFk a.fks)] := (.cons (step_str _) (.cons (fun l h => szL_le zCol_le _ l h) (.cons (step_ints _) (.cons (fun l h => szL_le zUniq_le _ l h) (.cons (fun l h => szL_le zChk_le _ l h) (.cons (fun l h => szL_le zFk_le _ l h) .nil))))))
theorem zTable_le (a : Table) (l : Int) (h : 0 ≤ l) : zTable a l ≤ l := chain_le (zTable_steps a) l h
theorem bTable_of (a : Table) (l : Int) (N : Nat) (h0 : 0 ≤ l) (h : 0 ≤ zTable a l) (hl : l ≤ N) : bTable N a := by
  have hh := chain_all (zTable_steps a) l h0 h
  obtain ⟨q0, u0, v0, w0⟩ := hh (fun l => l - a.name.length) (by simp)
  obtain ⟨q1, u1, v1, w1⟩ := hh (szL zCol a.cols) (by simp)
  obtain ⟨q2, u2, v2, w2⟩ := hh (zI a.key) (by simp)
  obtain ⟨q3, u3, v3, w3⟩ := hh (szL zUniq a.uniques) (by simp)
  obtain ⟨q4, u4, v4, w4⟩ := hh (szL zChk a.checks) (by simp)
  obtain ⟨q5, u5, v5, w5⟩ := hh (szL zFk a.fks) (by simp)
  exact ⟨(by (try simp only at w0); omega), (list_of zCol_le bCol_of u1 w1 (by omega)), (ints_of w2 (by omega)), (list_of zUniq_le bUniq_of u3 w3 (by omega)), (list_of zChk_le bChk_of u4 w4 (by omega)), (list_of zFk_le bFk_of u5 w5 (by omega))⟩
theorem szTable_ok (a : Table) (left : Int) (hb : bTable 1125899906842624 a) (h0 : 0 ≤ left) (h1 : left ≤ 34359738368) : Pure Tryz.prog 66 [.agg (encTable a), .c (.int .i64 left)] (.c (.int .i64 (zTable a left))) := by
  refine Pure.run mixed c_laws_szTable_ok (Nat.le_of_ble_eq_true rfl) fun σ hS hA => ?_
  clear hS hA
  have w1 : 0 ≤ left → IntKind.i64.wrap (left - a.name.length) = left - a.name.length := fun h => wrap64 (by have : a.name.length ≤ 1125899906842624 := hb.1; omega) (by omega)
  repeat' first|refine yaG ?_|(exfalso;omega)|(refine yaS ?_ ?_<;>intro _)
  · refine .ret rfl (.int ?_)
    rename_i h
    have v1 := w1 (by omega)
    simp only [v1] at h
    simp only [zTable, chain, if_pos h]
  rename_i g1
  have v1 := w1 (by omega)
  simp only [v1] at g1 ⊢
  obtain ⟨l1, e1⟩ : ∃ q, left - (a.name.length : Int) = q := ⟨_, rfl⟩
  rw [e1] at g1 ⊢
  refine .pcall rfl rfl rfl (szColS_ok a.cols l1 hb.2.1.1 hb.2.1.2 (by omega) (by omega)) ?_
  have y2 := szL_le zCol_le a.cols l1 (by omega)
  generalize e2 : szL zCol a.cols l1 = l2 at y2 ⊢
  repeat' first|refine yaG ?_|(exfalso;omega)|(refine yaS ?_ ?_<;>intro _)
  · refine .ret rfl (.int ?_)
    rename_i h
    simp only [zTable, chain, e1, if_neg g1, e2, if_pos h]
  rename_i g2
  refine .pcall rfl rfl rfl (szInt64S_ok a.key l2 hb.2.2.1 (by omega) (by omega)) ?_
  have y3 := step_ints a.key l2 (by omega)
  generalize e3 : zI a.key l2 = l3 at y3 ⊢
  repeat' first|refine yaG ?_|(exfalso;omega)|(refine yaS ?_ ?_<;>intro _)
  · refine .ret rfl (.int ?_)
    rename_i h
    simp only [zTable, chain, e1, if_neg g1, e2, if_neg g2, e3, if_pos h]
  rename_i g3
  refine .pcall rfl rfl rfl (szUniqS_ok a.uniques l3 hb.2.2.2.1.1 hb.2.2.2.1.2 (by omega) (by omega)) ?_
  have y4 := szL_le zUniq_le a.uniques l3 (by omega)
  generalize e4 : szL zUniq a.uniques l3 = l4 at y4 ⊢
  repeat' first|refine yaG ?_|(exfalso;omega)|(refine yaS ?_ ?_<;>intro _)
  · refine .ret rfl (.int ?_)
    rename_i h
    simp only [zTable, chain, e1, if_neg g1, e2, if_neg g2, e3, if_neg g3, e4, if_pos h]
  rename_i g4
  refine .pcall rfl rfl rfl (szChkS_ok a.checks l4 hb.2.2.2.2.1.1 hb.2.2.2.2.1.2 (by omega) (by omega)) ?_
  have y5 := szL_le zChk_le a.checks l4 (by omega)
  generalize e5 : szL zChk a.checks l4 = l5 at y5 ⊢
  repeat' first|refine yaG ?_|(exfalso;omega)|(refine yaS ?_ ?_<;>intro _)
  · refine .ret rfl (.int ?_)
    rename_i h
    simp only [zTable, chain, e1, if_neg g1, e2, if_neg g2, e3, if_neg g3, e4, if_neg g4, e5, if_pos h]
  rename_i g5
  refine .pcall rfl rfl rfl (szFkS_ok a.fks l5 hb.2.2.2.2.2.1 hb.2.2.2.2.2.2 (by omega) (by omega)) ?_
  have y6 := szL_le zFk_le a.fks l5 (by omega)
  generalize e6 : szL zFk a.fks l5 = l6 at y6 ⊢
  repeat' first|refine yaG ?_|(exfalso;omega)|(refine yaS ?_ ?_<;>intro _)
  · refine .ret rfl (.int ?_)
    rename_i h
    simp only [zTable, chain, e1, if_neg g1, e2, if_neg g2, e3, if_neg g3, e4, if_neg g4, e5, if_neg g5, e6, if_pos h]
  rename_i g6
  refine .ret rfl (.int ?_)
  simp only [zTable, chain, e1, if_neg g1, e2, if_neg g2, e3, if_neg g3, e4, if_neg g4, e5, if_neg g5, e6, if_neg g6]
theorem szTableS_ok (xs : List Table) (left : Int) (hx : xs.length ≤ 1125899906842624) (hv : ∀ e ∈ xs, bTable 1125899906842624 e) (h0 : 0 ≤ left) (h1 : left ≤ 34359738368) : Pure Tryz.prog 16 [.c (.fz (xs.map encTable)), .c (.int .i64 left)] (.c (.int .i64 (szL zTable xs left))) :=
  szS_ok mixed c_laws_szTableS_ok encTable zTable xs left hx h0 h1 (fun _ => rfl) zTable_le fun a ha l h2 h3 => szTable_ok a l (hv a ha) h2 (by omega)
theorem toTable_ok (a : Table) (hb : bTable 34359738368 a) (σ : Store) : Ok Tryz.prog 69 [.agg (encTable a)] σ (NewL σ (encTable a)) := by
  refine Ok.run mixed c_laws_toTable_ok (Nat.le_of_ble_eq_true rfl) fun hS hA => ?_
  clear hS hA
  repeat' first|refine yaG ?_|(exfalso;omega)|(refine yaS ?_ ?_<;>intro _)
  refine Go.call _ rfl rfl rfl (toColS_ok a.cols hb.2.1.1 hb.2.1.2 _) ?_
  rintro r σ0 ⟨x0, m0, rfl, rfl, t0, h0⟩
  rw [E_E] at h0 ⊢
  have t0 := tidy_up t0
  have h0 := h0.new2
  repeat' first|refine yaG ?_|(exfalso;omega)|(refine yaS ?_ ?_<;>intro _)
  refine Go.call _ rfl rfl rfl (toInt64S_ok a.key hb.2.2.1 _) ?_
  rintro r σ1 ⟨x1, m1, rfl, rfl, t1, h1⟩
  rw [E_E] at h1 ⊢
  have t1 := tidy_up t1
  have h1 := h1.new2
  have h0 := Has.more h0 (fun a ha => by have h9 := ha.1; have h8 := ha.2; simp only [List.append_eq, List.length_nil, List.length_append, List.nil_append] at h9 h8 ⊢; omega) m1
  repeat' first|refine yaG ?_|(exfalso;omega)|(refine yaS ?_ ?_<;>intro _)
  refine Go.call _ rfl rfl rfl (toUniqS_ok a.uniques hb.2.2.2.1.1 hb.2.2.2.1.2 _) ?_
  rintro r σ2 ⟨x2, m2, rfl, rfl, t2, h2⟩
  rw [E_E] at h2 ⊢
  have t2 := tidy_up t2
  have h2 := h2.new2
  have h0 := Has.more h0 (fun a ha => by have h9 := ha.1; have h8 := ha.2; simp only [List.append_eq, List.length_nil, List.length_append, List.nil_append] at h9 h8 ⊢; omega) m2
  have h1 := Has.more h1 (fun a ha => by have h9 := ha.1; have h8 := ha.2; simp only [List.append_eq, List.length_nil, List.length_append, List.nil_append] at h9 h8 ⊢; omega) m2
  repeat' first|refine yaG ?_|(exfalso;omega)|(refine yaS ?_ ?_<;>intro _)
  refine Go.call _ rfl rfl rfl (toChkS_ok a.checks hb.2.2.2.2.1.1 hb.2.2.2.2.1.2 _) ?_
  rintro r σ3 ⟨x3, m3, rfl, rfl, t3, h3⟩
  rw [E_E] at h3 ⊢
  have t3 := tidy_up t3
  have h3 := h3.new2
  have h0 := Has.more h0 (fun a ha => by have h9 := ha.1; have h8 := ha.2; simp only [List.append_eq, List.length_nil, List.length_append, List.nil_append] at h9 h8 ⊢; omega) m3
  have h1 := Has.more h1 (fun a ha => by have h9 := ha.1; have h8 := ha.2; simp only [List.append_eq, List.length_nil, List.length_append, List.nil_append] at h9 h8 ⊢; omega) m3
  have h2 := Has.more h2 (fun a ha => by have h9 := ha.1; have h8 := ha.2; simp only [List.append_eq, List.length_nil, List.length_append, List.nil_append] at h9 h8 ⊢; omega) m3
  repeat' first|refine yaG ?_|(exfalso;omega)|(refine yaS ?_ ?_<;>intro _)
  refine Go.call _ rfl rfl rfl (toFkS_ok a.fks hb.2.2.2.2.2.1 hb.2.2.2.2.2.2 _) ?_
  rintro r σ4 ⟨x4, m4, rfl, rfl, t4, h4⟩
  rw [E_E] at h4 ⊢
  have t4 := tidy_up t4
  have h4 := h4.new2
  have h0 := Has.more h0 (fun a ha => by have h9 := ha.1; have h8 := ha.2; simp only [List.append_eq, List.length_nil, List.length_append, List.nil_append] at h9 h8 ⊢; omega) m4
  have h1 := Has.more h1 (fun a ha => by have h9 := ha.1; have h8 := ha.2; simp only [List.append_eq, List.length_nil, List.length_append, List.nil_append] at h9 h8 ⊢; omega) m4
  have h2 := Has.more h2 (fun a ha => by have h9 := ha.1; have h8 := ha.2; simp only [List.append_eq, List.length_nil, List.length_append, List.nil_append] at h9 h8 ⊢; omega) m4
  have h3 := Has.more h3 (fun a ha => by have h9 := ha.1; have h8 := ha.2; simp only [List.append_eq, List.length_nil, List.length_append, List.nil_append] at h9 h8 ⊢; omega) m4
  repeat' first|refine yaG ?_|(exfalso;omega)|(refine yaS ?_ ?_<;>intro _)
  have hL : HasL (E σ ((0, [[.str a.name, x0, x1, x2, x3, x4]]) :: (0, [[.str a.name, x0, x1, x2, x3, x4]]) :: ([] ++ m0 ++ m1 ++ m2 ++ m3 ++ m4))) (fun a => σ.next + 2 ≤ a ∧ a < σ.next + 2 + ([] ++ m0 ++ m1 ++ m2 ++ m3 ++ m4).length) (encTable a) [.str a.name, x0, x1, x2, x3, x4] := by
    refine HasL.mono ?_ (HasL.skip (.str _) (HasL.two (h0 _ _) (HasL.two (h1 _ _) (HasL.two (h2 _ _) (HasL.two (h3 _ _) (HasL.two (h4 _ _) (HasL.nil (S := fun a => a < 0)) (fun a ha hb => by (try dsimp only at ha hb); (try simp only [List.append_eq, List.length_append, List.length_nil, List.nil_append] at ha hb); omega)) (fun a ha hb => by (try dsimp only at ha hb); (try simp only [List.append_eq, List.length_append, List.length_nil, List.nil_append] at ha hb); omega)) (fun a ha hb => by (try dsimp only at ha hb); (try simp only [List.append_eq, List.length_append, List.length_nil, List.nil_append] at ha hb); omega)) (fun a ha hb => by (try dsimp only at ha hb); (try simp only [List.append_eq, List.length_append, List.length_nil, List.nil_append] at ha hb); omega)) (fun a ha hb => by (try dsimp only at ha hb); (try simp only [List.append_eq, List.length_append, List.length_nil, List.nil_append] at ha hb); omega)))
    intro a ha
    (try dsimp only at ha)
    (try simp only [List.append_eq, List.length_append, List.length_nil, List.nil_append] at ha ⊢)
    omega
  have hT := hL.tidy (n := σ.next) fun a ha => by have := ha.1; omega
  have hM : TidyL σ.next ([] ++ m0 ++ m1 ++ m2 ++ m3 ++ m4) := (tidy_pre (tidy_pre (tidy_pre (tidy_pre (tidy_pre (fun b hb => by simp at hb) t0) t1) t2) t3) t4)
  have hN : NewL σ (encTable a) (.agg [.str a.name, x0, x1, x2, x3, x4]) (E σ ((0, [[.str a.name, x0, x1, x2, x3, x4]]) :: (0, [[.str a.name, x0, x1, x2, x3, x4]]) :: ([] ++ m0 ++ m1 ++ m2 ++ m3 ++ m4))) := by
    refine ⟨_, _, rfl, rfl, .one hT (.one hT hM), hL.mono ?_⟩
    intro a ha
    have h9 := ha.1
    have h8 := ha.2
    (try simp only [E_next, List.length_cons, List.append_eq, List.length_append, List.length_nil, List.nil_append] at h8 ⊢)
    constructor <;> omega
  exact .ret (retv_m rfl rfl rfl (Nat.le_of_ble_eq_true rfl) rfl) hN
theorem toTableS_ok (xs : List Table) (hx : xs.length ≤ 34359738368) (hv : ∀ e ∈ xs, bTable 34359738368 e) (σ : Store) : Ok Tryz.prog 20 [.c (.fz (xs.map encTable))] σ (New σ (.fz (xs.map encTable))) :=
  toS_ok mixed c_laws_toTableS_ok encTable xs hx (by decide) rfl (fun _ => rfl) (by intro x hx; simp only [List.mem_cons, List.not_mem_nil, or_false] at hx; rcases hx with rfl | rfl | rfl | rfl | rfl | rfl <;> constructor) (fun a ha σ => toTable_ok a (hv a ha) σ) σ
theorem Table_beq (a b : Table) : (a == b) = (a.name == b.name && a.cols == b.cols && a.key == b.key && a.uniques == b.uniques && a.checks == b.checks && a.fks == b.fks) := by
  obtain ⟨a0, a1, a2, a3, a4, a5⟩ := a
  obtain ⟨b0, b1, b2, b3, b4, b5⟩ := b
  rw [Bool.eq_iff_iff]
  simp [and_assoc]
theorem eqTable_ok (a b : Table) (hb : bTable 34359738368 a) : Pure Tryz.prog 73 [.agg (encTable a), .agg (encTable b)] (.c (.bool (a == b))) := by
  refine Pure.run mixed c_laws_eqTable_ok (Nat.le_of_ble_eq_true rfl) fun σ hS hA => ?_
  clear hS hA
  have hq := Table_beq a b
  repeat' first|refine yaG ?_|((first|apply Go.pcallB|apply Go.spcallB|apply Qg.pcallB);(iterate 3 exact rfl);(first|exact eqColS_ok a.cols b.cols hb.2.1.1 hb.2.1.2|exact eqInt64S_ok a.key b.key hb.2.2.1|exact eqUniqS_ok a.uniques b.uniques hb.2.2.2.1.1 hb.2.2.2.1.2|exact eqChkS_ok a.checks b.checks hb.2.2.2.2.1.1 hb.2.2.2.2.1.2|exact eqFkS_ok a.fks b.fks hb.2.2.2.2.2.1 hb.2.2.2.2.2.2);intro _ _)|(exfalso;omega)|(refine yaS ?_ ?_<;>intro _)
  all_goals refine .ret rfl (.bool ?_)
  all_goals rw [hq]
  all_goals clear hq hb
  all_goals simp_all
theorem eqTableS_ok (xs ys : List Table) (hx : xs.length ≤ 34359738368) (hv : ∀ e ∈ xs, bTable 34359738368 e) : Pure Tryz.prog 25 [.c (.fz (xs.map encTable)), .c (.fz (ys.map encTable))] (.c (.bool (xs == ys))) :=
  eqS_ok mixed c_laws_eqTableS_ok encTable xs ys hx (fun _ => rfl) fun a ha b => eqTable_ok a b (hv a ha)
end Go.Proofs.YtdgnfdljkghpjaaGreat.Am

/- Names and expressions: what the program and its reference say of them. -/
set_option linter.unusedVariables false
set_option linter.unusedSimpArgs false
namespace Go.Proofs.YtdgnfdljkghpjaaGreat.Am

theorem aop_idxS {fr : Fr} {σ : Store} {x y : Opd} {kd : IntKind} {s : List UInt8} {z : Int} {n : Nat} (hx : x.ev fr = some (.c (.str s))) (hy : y.ev fr = some (.c (.int kd z))) (hz : z = (n : Int)) (hn : n < s.length) : aop (.idx x y) fr σ = some (.c (.int .u8 (s[n].toNat : Int)), σ) := by
  subst hz
  simp [aop, hx, hy, hn]
def letter (c : UInt8) : Bool := decide (97 ≤ c.toNat) && decide (c.toNat ≤ 122)
def isNameF (s : List UInt8) : Bool := s.all letter && isIn s.length 1 8
theorem isName_ok (s : List UInt8) (hx : s.length ≤ 34359738368) : Pure Tryz.prog 214 [.c (.str s)] (.c (.bool (isNameF s))) := by
  refine Pure.run mixed c_impl_isName_ok (Nat.le_of_ble_eq_true rfl) fun σ hS hA => ?_
  clear hS hA
  repeat' first|refine yaG ?_|(exfalso;omega)|(refine yaS ?_ ?_<;>intro _)
  refine Go.keep [0, 5, 6] (Go.loops (I := fun m fr τ => ∃ i : Nat, ∃ n : Int, m = s.length - i ∧ i ≤ s.length ∧ n = i ∧ s.all letter = (s.drop i).all letter ∧
    fr = [(0, .c (.str s)), (5, .c (.int .i64 (s.length : Int))), (6, .c (.int .i64 n))] ∧ τ = E σ []) ?_ _ _ _ ⟨0, _, rfl, Nat.zero_le _, rfl, rfl, rfl, rfl⟩)
  rintro m fr τ ⟨i, n, rfl, hi, hn, hs, rfl, rfl⟩ hrec
  by_cases hlt : i < s.length
  · have hd := List.drop_eq_getElem_cons hlt
    repeat' first|refine yaG ?_|((first|apply yG|apply yH|apply yI);exact rfl;(first|exact aop_idxS rfl rfl hn hlt))|(exfalso;omega)|(refine yaS ?_ ?_<;>intro _)
    · refine .ret rfl (.bool ?_)
      rename_i h
      rw [isNameF, hs, hd, List.all_cons, letter, decide_eq_false (by omega)]
      rfl
    · refine .ret rfl (.bool ?_)
      rename_i h h2
      rw [isNameF, hs, hd, List.all_cons, letter, decide_eq_false (p := s[i].toNat ≤ 122) (by omega)]
      simp
    · rename_i h h2
      refine Go.keep [0, 5, 6] (hrec _ _ _ (by omega) ⟨i + 1, _, rfl, hlt, wrap_succ hn (by omega), ?_, rfl, rfl⟩)
      rw [hs, hd, List.all_cons, letter, decide_eq_true (by omega), decide_eq_true (by omega)]
      rfl
  · repeat' first|refine yaG ?_|((first|apply yQ|apply yR|apply yS);(iterate 3 exact rfl);exact in_ok _ _ _)|(exfalso;omega)|(refine yaS ?_ ?_<;>intro _)
    refine .ret rfl (.bool ?_)
    rw [isNameF, hs, List.drop_eq_nil_of_le (by omega)]
    rfl
theorem l3Name_ok (s : List UInt8) (hx : s.length ≤ 34359738368) : Pure Tryz.prog 238 [.c (.str s)] (.c (.bool (isNameF s))) := by
  refine Pure.run mixed c_spec_l3Name_ok (Nat.le_of_ble_eq_true rfl) fun σ hS hA => ?_
  clear hS hA
  repeat' first|refine yaG ?_|(exfalso;omega)|(refine yaS ?_ ?_<;>intro _)
  refine Go.keep [0, 3] (Go.loops (I := fun m fr τ => ∃ i : Nat, ∃ n : Int, m = s.length - i ∧ i ≤ s.length ∧ n = i ∧ s.all letter = (s.drop i).all letter ∧
    fr = [(0, .c (.str s)), (3, .c (.int .i64 n))] ∧ τ = E σ []) ?_ _ _ _ ⟨0, _, rfl, Nat.zero_le _, rfl, rfl, rfl, rfl⟩)
  rintro m fr τ ⟨i, n, rfl, hi, hn, hs, rfl, rfl⟩ hrec
  by_cases hlt : i < s.length
  · have hd := List.drop_eq_getElem_cons hlt
    repeat' first|refine yaG ?_|((first|apply yG|apply yH|apply yI);exact rfl;(first|exact aop_idxS rfl rfl hn hlt))|(exfalso;omega)|(refine yaS ?_ ?_<;>intro _)
    · refine .ret rfl (.bool ?_)
      rename_i h
      rw [isNameF, hs, hd, List.all_cons, letter, decide_eq_false (by omega)]
      rfl
    · refine .ret rfl (.bool ?_)
      rename_i h h2
      rw [isNameF, hs, hd, List.all_cons, letter, decide_eq_false (p := s[i].toNat ≤ 122) (by omega)]
      simp
    · rename_i h h2
      refine Go.keep [0, 3] (hrec _ _ _ (by omega) ⟨i + 1, _, rfl, hlt, wrap_succ hn (by omega), ?_, rfl, rfl⟩)
      rw [hs, hd, List.all_cons, letter, decide_eq_true (by omega), decide_eq_true (by omega)]
      rfl
  · repeat' first|refine yaG ?_|((first|apply yQ|apply yR|apply yS);(iterate 3 exact rfl);exact l1In_ok _ _ _)|(exfalso;omega)|(refine yaS ?_ ?_<;>intro _)
    refine .ret rfl (.bool ?_)
    rw [isNameF, hs, List.drop_eq_nil_of_le (by omega)]
    rfl

/-! ### Expressions -/
def tokTakes (t : Tok) : Int := if t.kind = 1 ∨ t.kind = 2 then 0 else if t.kind = 7 ∨ t.kind = 8 then 1 else 2
def vz (v : Val) : Bool := v.k == 0 && (v.n == 0 && v.s == [])
def isTokF (t : Tok) (n : Int) : Bool := if t.kind = 1 then isIn t.col 0 (n - 1) && vz t.v else if t.kind = 2 then t.col == 0 && okVal t.v else isIn t.kind 3 10 && t.col == 0 && vz t.v
theorem takes_ok (t : Tok) : Pure Tryz.prog 252 [.agg (encTok t)] (.c (.int .i64 (tokTakes t))) := by
  refine Pure.run mixed c_impl_Tok_takes_ok (Nat.le_of_ble_eq_true rfl) fun σ hS hA => ?_
  clear hS hA
  repeat' first|refine yaG ?_|(exfalso;omega)|(refine yaS ?_ ?_<;>intro _)
  all_goals refine .ret rfl (.int ?_)
  all_goals simp_all [tokTakes]
theorem isTok_ok (t : Tok) (n : Int) (h0 : -4611686018427387904 ≤ n) (h1 : n ≤ 4611686018427387904) : Pure Tryz.prog 251 [.agg (encTok t), .c (.int .i64 n)] (.c (.bool (isTokF t n))) := by
  refine Pure.run mixed c_impl_isTok_ok (Nat.le_of_ble_eq_true rfl) fun σ hS hA => ?_
  clear hS hA
  have hw : IntKind.i64.wrap (n - 1) = n - 1 := wrap64 (by omega) (by omega)
  repeat' first|refine yaG ?_|((first|apply Go.pcallB|apply Go.spcallB|apply Qg.pcallB);(iterate 3 exact rfl);(first|exact in_ok _ _ _|exact ValOk_ok _);intro _ _)|(exfalso;omega)|(refine yaS ?_ ?_<;>intro _)
  all_goals refine .ret rfl (.bool ?_)
  all_goals simp_all [isTokF, vz]
end Go.Proofs.YtdgnfdljkghpjaaGreat.Am

/- Expressions and lists of columns. -/
set_option linter.unusedVariables false
set_option linter.unusedSimpArgs false
namespace Go.Proofs.YtdgnfdljkghpjaaGreat.Am

theorem nbT {x b : Bool} (h : x = b) (k : (!b) = true) : x = false := by cases b <;> simp_all
theorem nbF {x b : Bool} (h : x = b) (k : (!b) = false) : x = true := by cases b <;> simp_all
theorem bT {x b : Bool} (h : x = b) (k : b = true) : x = true := h.trans k
theorem bF {x b : Bool} (h : x = b) (k : b = false) : x = false := h.trans k
def takesF (t : Tok) (n : Int) : Int := if isTokF t n then tokTakes t else -1
theorem isIn_310 {k : Int} : isIn k 3 10 = true ↔ (k = 3 ∨ k = 4 ∨ k = 5 ∨ k = 6 ∨ k = 7 ∨ k = 8 ∨ k = 9 ∨ k = 10) := by
  simp only [isIn, Bool.and_eq_true, decide_eq_true_eq]
  omega
theorem l2Takes_ok (t : Tok) (n : Int) (h0 : -4611686018427387904 ≤ n) (h1 : n ≤ 4611686018427387904) : Pure Tryz.prog 254 [.agg (encTok t), .c (.int .i64 n)] (.c (.int .i64 (takesF t n))) := by
  refine Pure.run mixed c_spec_l2Takes_ok (Nat.le_of_ble_eq_true rfl) fun σ hS hA => ?_
  clear hS hA
  have hw : IntKind.i64.wrap (n - 1) = n - 1 := wrap64 (by omega) (by omega)
  have h310 := @isIn_310 t.kind
  repeat' first|refine yaG ?_|((first|apply Go.pcallB|apply Go.spcallB|apply Qg.pcallB);(iterate 3 exact rfl);(first|exact l1In_ok _ _ _|exact sValOk_ok _);intro _ _)|(exfalso;omega)|(refine yaS ?_ ?_<;>intro _)
  all_goals refine .ret rfl (.int ?_)
  all_goals first
    | (simp_all [takesF, isTokF, vz, tokTakes]; done)
    | (cases hk : isIn t.kind 3 10 <;> simp_all [takesF, isTokF, vz, tokTakes]; done)
    | (rename_i hl; have hz : vz t.v = false := (by cases h : vz t.v; (· rfl); (· exfalso; simp [vz] at h; simp [h] at hl)); clear hl; simp_all [takesF, isTokF]; done)
def exprAux (n : Int) : Int → List Tok → Bool
  | left, [] => left == 1
  | left, t :: r => isTokF t n && decide (tokTakes t ≤ left) && exprAux n (left + 1 - tokTakes t) r
theorem tokTakes_range (t : Tok) : 0 ≤ tokTakes t ∧ tokTakes t ≤ 2 := by
  simp only [tokTakes]
  split
  · omega
  · split <;> omega
theorem ExprOk_ok (e : List Tok) (n : Int) (hx : e.length ≤ 34359738368) : Pure Tryz.prog 221 [.c (.fz (e.map encTok)), .c (.int .i64 n)] (.c (.bool (decide ((e.length : Int) ≤ 24) && isIn n 0 16 && exprAux n 0 e))) := by
  refine Pure.run mixed c_impl_ExprOk_ok (Nat.le_of_ble_eq_true rfl) fun σ hS hA => ?_
  clear hS hA
  repeat' first|refine yaG ?_|((first|apply Go.pcallB|apply Go.spcallB|apply Qg.pcallB);(iterate 3 exact rfl);exact in_ok _ _ _;intro _ _)|(exfalso;omega)|(refine yaS ?_ ?_<;>intro _)
  · refine .ret rfl (.bool ?_)
    rename_i h
    rw [decide_eq_false (by omega)]
    rfl
  · refine .ret rfl (.bool ?_)
    simp_all
  rename_i hl b hb hn
  have hn16 : 0 ≤ n ∧ n ≤ 16 := by
    have : isIn n 0 16 = true := by simp_all
    simpa [isIn] using this
  refine Go.keep [1, 5, 16, 17, 18] (Go.loops (I := fun m fr τ => ∃ i : Nat, ∃ k l : Int, m = e.length - i ∧ i ≤ e.length ∧ k = i ∧ (0 ≤ l ∧ l ≤ i ∧ exprAux n 0 e = exprAux n l (e.drop i)) ∧
    fr = [(1, .c (.int .i64 n)), (5, .c (.int .i64 l)), (16, .c (.fz (e.map encTok))), (17, .c (.int .i64 (e.length : Int))), (18, .c (.int .i64 k))] ∧ τ = E σ []) ?_ _ _ _ ⟨0, _, _, rfl, Nat.zero_le _, rfl, ⟨Int.le_refl _, by simp, rfl⟩, rfl, rfl⟩)
  rintro m fr τ ⟨i, k, l, rfl, hi, hk, ⟨hl0, hl1, hsl⟩, rfl, rfl⟩ hrec
  have hres : (decide ((e.length : Int) ≤ 24) && isIn n 0 16 && exprAux n 0 e) = exprAux n 0 e := by
    rw [decide_eq_true (p := (e.length : Int) ≤ 24) (by omega), hb]
    cases b
    · simp at hn
    · simp
  by_cases hlt : i < e.length
  · have hd := List.drop_eq_getElem_cons hlt
    have ht := tokTakes_range e[i]
    repeat' first|refine yaG ?_|((first|apply yG|apply yH|apply yI);exact rfl;(first|exact yX (enc := encTok) rfl rfl hk hlt rfl))|refine yaC (takes_ok e[i]) ?_|((first|apply Go.pcallB|apply Go.spcallB|apply Qg.pcallB);(iterate 3 exact rfl);exact isTok_ok e[i] n (by omega) (by omega);intro _ _)|(exfalso;omega)|(refine yaS ?_ ?_<;>intro _)
    · refine .ret rfl (.bool ?_)
      rename_i b1 hb1 hb2
      rw [hres, hsl, hd, exprAux, nbT hb1 hb2]
      rfl
    · refine .ret rfl (.bool ?_)
      rename_i h
      rw [hres, hsl, hd, exprAux, decide_eq_false (p := tokTakes e[i] ≤ l) (by omega)]
      simp
    · rename_i b1 hb1 hb2 h
      have w1 : IntKind.i64.wrap (1 - tokTakes e[i]) = 1 - tokTakes e[i] := wrap64 (by omega) (by omega)
      have w2 : IntKind.i64.wrap (l + (1 - tokTakes e[i])) = l + 1 - tokTakes e[i] := by rw [wrap64 (by omega) (by omega)]; omega
      refine Go.keep [1, 5, 16, 17, 18] (hrec _ _ _ (by omega) ⟨i + 1, _, _, rfl, hlt, wrap_succ hk (by omega), ⟨?_, ?_, ?_⟩, rfl, rfl⟩)
      · rw [w1, w2]; omega
      · rw [w1, w2]; omega
      · rw [w1, w2, hsl, hd, exprAux, decide_eq_true (p := tokTakes e[i] ≤ l) (by omega)]
        rw [nbF hb1 hb2]
        rfl
  · repeat' first|refine yaG ?_|(exfalso;omega)|(refine yaS ?_ ?_<;>intro _)
    refine .ret rfl (.bool ?_)
    rw [hres, hsl, List.drop_eq_nil_of_le (by omega)]
    rfl
theorem l2Expr_ok (e : List Tok) (n : Int) (hx : e.length ≤ 34359738368) (h0 : -4611686018427387904 ≤ n) (h1 : n ≤ 4611686018427387904) : Pure Tryz.prog 240 [.c (.fz (e.map encTok)), .c (.int .i64 n)] (.c (.bool (decide ((e.length : Int) ≤ 24) && exprAux n 0 e))) := by
  refine Pure.run mixed c_spec_l2Expr_ok (Nat.le_of_ble_eq_true rfl) fun σ hS hA => ?_
  clear hS hA
  repeat' first|refine yaG ?_|(exfalso;omega)|(refine yaS ?_ ?_<;>intro _)
  refine Go.keep [0, 1, 5, 6] (Go.loops (I := fun m fr τ => ∃ i : Nat, ∃ k l : Int, m = e.length - i ∧ i ≤ e.length ∧ k = i ∧ (0 ≤ l ∧ l ≤ i ∧ exprAux n 0 e = exprAux n l (e.drop i)) ∧
    fr = [(0, .c (.fz (e.map encTok))), (1, .c (.int .i64 n)), (5, .c (.int .i64 l)), (6, .c (.int .i64 k))] ∧ τ = E σ []) ?_ _ _ _ ⟨0, _, _, rfl, Nat.zero_le _, rfl, ⟨Int.le_refl _, by simp, rfl⟩, rfl, rfl⟩)
  rintro m fr τ ⟨i, k, l, rfl, hi, hk, ⟨hl0, hl1, hsl⟩, rfl, rfl⟩ hrec
  by_cases hlt : i < e.length
  · have hd := List.drop_eq_getElem_cons hlt
    have ht := tokTakes_range e[i]
    have neg : (isTokF e[i] n = false ∨ ¬ tokTakes e[i] ≤ l) → (decide ((e.length : Int) ≤ 24) && exprAux n 0 e) = false := by
      intro h
      rw [hsl, hd, exprAux]
      rcases h with h | h
      · simp [h]
      · rw [decide_eq_false (p := tokTakes e[i] ≤ l) h]; simp
    repeat' first|refine yaG ?_|((first|apply yG|apply yH|apply yI);exact rfl;(first|exact yX (enc := encTok) rfl rfl hk hlt rfl))|((first|apply Go.pcallI|apply Go.spcallI|apply Qg.pcallI);(iterate 3 exact rfl);exact l2Takes_ok e[i] n h0 h1;intro _ _)|(exfalso;omega)|(refine yaS ?_ ?_<;>intro _)
    · refine .ret rfl (.bool ?_)
      rename_i q hq h
      refine (neg (.inl ?_)).symm
      cases hc : isTokF e[i] n
      · rfl
      · simp only [takesF, hc, if_true] at hq; omega
    · refine .ret rfl (.bool ?_)
      rename_i q hq h h2
      refine (neg (.inr ?_)).symm
      simp only [takesF] at hq
      split at hq <;> omega
    · rename_i q hq h h2
      have hc : isTokF e[i] n = true ∧ tokTakes e[i] = q := by
        simp only [takesF] at hq
        split at hq
        · exact ⟨by assumption, hq⟩
        · omega
      have w1 : IntKind.i64.wrap (l - q) = l - q := wrap64 (by omega) (by omega)
      have w2 : IntKind.i64.wrap (l - q + 1) = l + 1 - tokTakes e[i] := by rw [wrap64 (by omega) (by omega)]; omega
      refine Go.keep [0, 1, 5, 6] (hrec _ _ _ (by omega) ⟨i + 1, _, _, rfl, hlt, wrap_succ hk (by omega), ⟨?_, ?_, ?_⟩, rfl, rfl⟩)
      · rw [w1, w2]; omega
      · rw [w1, w2]; omega
      · rw [w1, w2, hsl, hd, exprAux, decide_eq_true (p := tokTakes e[i] ≤ l) (by omega), hc.1]
        rfl
  · have hfin : exprAux n 0 e = (l == 1) := by
      rw [hsl, List.drop_eq_nil_of_le (by omega)]
      rfl
    repeat' first|refine yaG ?_|(exfalso;omega)|(refine yaS ?_ ?_<;>intro _)
    all_goals refine .ret rfl (.bool ?_)
    all_goals rw [hfin]
    all_goals clear hrec hfin hsl
    all_goals simp_all
/-! ### Lists of columns -/
def colsAux (n : Int) : List Int → List Int → Bool
  | _, [] => true
  | pre, c :: r => isIn c 0 (n - 1) && !(pre.any fun a => c == a) && colsAux n (pre ++ [c]) r
def colsF (l : List Int) (n : Int) : Bool := colsAux n [] l && decide (0 < (l.length : Int))
theorem aop_sliceF {fr : Fr} {σ : Store} {s : Nat} {x hi : Opd} {kd : IntKind} {es : List (List Ce)} {z : Int} {n : Nat} (hx : x.ev fr = some (.c (.fz es))) (hy : hi.ev fr = some (.c (.int kd z))) (hz : z = (n : Int)) (hn : n ≤ es.length) (hs : ∀ e ∈ es, e.length = s) : aop (.slice s x none (some hi) none) fr σ = some (.c (.fz (es.take n)), σ) := by
  have : sliceA σ s (.fz es) none (some (.c (.int kd z))) none = some (.fz (es.take n)) := by
    subst hz
    simp only [sliceA, bound]
    rw [if_pos (by omega)]
    simp only [Int.toNat_natCast]
    rw [if_pos ⟨Nat.zero_le _, hn, hs⟩, List.drop_zero]
  simp only [aop, hx, evo, hy, Option.map_some, this]
theorem encI_len {l : List Int} : ∀ e ∈ l.map encI, e.length = 1 := fun e he => (flatI l e he).1
theorem areColumns_ok (l : List Int) (n : Int) (hx : l.length ≤ 34359738368) (h0 : -4611686018427387904 ≤ n) (h1 : n ≤ 4611686018427387904) : Pure Tryz.prog 143 [.c (.fz (l.map encI)), .c (.int .i64 n)] (.c (.bool (colsF l n))) := by
  refine Pure.run mixed c_impl_areColumns_ok (Nat.le_of_ble_eq_true rfl) fun σ hS hA => ?_
  clear hS hA
  have hw : IntKind.i64.wrap (n - 1) = n - 1 := wrap64 (by omega) (by omega)
  repeat' first|refine yaG ?_|(exfalso;omega)|(refine yaS ?_ ?_<;>intro _)
  refine Go.keep [0, 1, 7, 8, 9] (Go.loops (I := fun m fr τ => ∃ i : Nat, ∃ k : Int, m = l.length - i ∧ i ≤ l.length ∧ k = i ∧ colsAux n [] l = colsAux n (l.take i) (l.drop i) ∧
    fr = [(0, .c (.fz (l.map encI))), (1, .c (.int .i64 n)), (7, .c (.fz (l.map encI))), (8, .c (.int .i64 (l.length : Int))), (9, .c (.int .i64 k))] ∧ τ = E σ []) ?_ _ _ _ ⟨0, _, rfl, Nat.zero_le _, rfl, rfl, rfl, rfl⟩)
  rintro m fr τ ⟨i, k, rfl, hi, hk, hsl, rfl, rfl⟩ hrec
  by_cases hlt : i < l.length
  · have hd := List.drop_eq_getElem_cons hlt
    have htk : (l.map encI).take i = (l.take i).map encI := List.map_take.symm
    have hstep : colsAux n [] l = (isIn l[i] 0 (n - 1) && !((l.take i).any fun a => l[i] == a) && colsAux n (l.take (i + 1)) (l.drop (i + 1))) := by
      rw [hsl, hd, colsAux, List.take_succ_eq_append_getElem hlt]
    repeat' first|refine yaG ?_|((first|apply yG|apply yH|apply yI);exact rfl;(first|exact yX (enc := encI) rfl rfl hk hlt rfl))|((first|apply Go.pcallB|apply Go.spcallB|apply Qg.pcallB);(iterate 3 exact rfl);exact in_ok _ _ _;intro _ _)|(exfalso;omega)|(refine yaS ?_ ?_<;>intro _)
    · refine .ret rfl (.bool ?_)
      rename_i b hb hb2
      rw [hw] at hb
      rw [colsF, hstep, nbT hb hb2]
      rfl
    rename_i b hb hb2
    refine .op rfl (aop_sliceF (n := i) rfl rfl hk (by simp; omega) encI_len) ?_
    rw [htk]
    repeat' first|refine yaG ?_|((first|apply Go.pcallB|apply Go.spcallB|apply Qg.pcallB);(iterate 3 exact rfl);exact containsInt_ok mixed c_slices_Contains_int64_int64_ok c_slices_Index_int64_int64_ok (l.take i) l[i] (by simp;omega);intro _ _)|(exfalso;omega)|(refine yaS ?_ ?_<;>intro _)
    · refine .ret rfl (.bool ?_)
      rename_i b1 hb1 hb3
      rw [colsF, hstep, bT hb1 hb3]
      simp
    · refine Go.keep [0, 1, 7, 8, 9] (hrec _ _ _ (by omega) ⟨i + 1, _, rfl, hlt, wrap_succ hk (by omega), ?_, rfl, rfl⟩)
      rename_i b1 hb1 hb3
      rw [hw] at hb
      rw [hstep, bF hb1 hb3, nbF hb hb2]
      simp
  · have hfin : colsAux n [] l = true := by
      rw [hsl, List.drop_eq_nil_of_le (by omega)]
      rfl
    repeat' first|refine yaG ?_|(exfalso;omega)|(refine yaS ?_ ?_<;>intro _)
    refine .ret rfl (.bool ?_)
    rw [colsF, hfin]
    rfl
end Go.Proofs.YtdgnfdljkghpjaaGreat.Am

/- Tables: their columns, references, rules. -/
set_option linter.unusedVariables false
set_option linter.unusedSimpArgs false
namespace Go.Proofs.YtdgnfdljkghpjaaGreat.Am

theorem l1Has_ok (l : List Int) (v : Int) (hx : l.length ≤ 34359738368) : Pure Tryz.prog 147 [.c (.fz (l.map encI)), .c (.int .i64 v)] (.c (.bool (l.any fun a => v == a))) := by
  refine Pure.run mixed c_spec_l1Has_ok (Nat.le_of_ble_eq_true rfl) fun σ hS hA => ?_
  clear hS hA
  repeat' first|refine yaG ?_|(exfalso;omega)|(refine yaS ?_ ?_<;>intro _)
  refine Go.keep [0, 1, 5] (Go.loops (I := fun m fr τ => ∃ i : Nat, ∃ k : Int, m = l.length - i ∧ i ≤ l.length ∧ k = i ∧ (l.any fun a => v == a) = ((l.drop i).any fun a => v == a) ∧
    fr = [(0, .c (.fz (l.map encI))), (1, .c (.int .i64 v)), (5, .c (.int .i64 k))] ∧ τ = E σ []) ?_ _ _ _ ⟨0, _, rfl, Nat.zero_le _, rfl, rfl, rfl, rfl⟩)
  rintro m fr τ ⟨i, k, rfl, hi, hn, hsl, rfl, rfl⟩ hrec
  by_cases hlt : i < l.length
  · have hd := List.drop_eq_getElem_cons hlt
    repeat' first|refine yaG ?_|((first|apply yG|apply yH|apply yI);exact rfl;(first|exact yX (enc := encI) rfl rfl hn hlt rfl))|(exfalso;omega)|(refine yaS ?_ ?_<;>intro _)
    · refine .ret rfl (.bool ?_)
      rename_i h
      rw [hsl, hd, List.any_cons, h]
      simp
    · rename_i h
      refine Go.keep [0, 1, 5] (hrec _ _ _ (by omega) ⟨i + 1, _, rfl, hlt, wrap_succ hn (by omega), ?_, rfl, rfl⟩)
      rw [hsl, hd, List.any_cons, beq_eq_false_iff_ne.2 (fun e => h e.symm)]
      rfl
  · repeat' first|refine yaG ?_|(exfalso;omega)|(refine yaS ?_ ?_<;>intro _)
    refine .ret rfl (.bool ?_)
    rw [hsl, List.drop_eq_nil_of_le (by omega)]
    rfl
theorem l3Cols_ok (l : List Int) (n : Int) (hx : l.length ≤ 34359738368) (h0 : -4611686018427387904 ≤ n) (h1 : n ≤ 4611686018427387904) : Pure Tryz.prog 84 [.c (.fz (l.map encI)), .c (.int .i64 n)] (.c (.bool (colsF l n))) := by
  refine Pure.run mixed c_spec_l3Cols_ok (Nat.le_of_ble_eq_true rfl) fun σ hS hA => ?_
  clear hS hA
  have hw : IntKind.i64.wrap (n - 1) = n - 1 := wrap64 (by omega) (by omega)
  repeat' first|refine yaG ?_|(exfalso;omega)|(refine yaS ?_ ?_<;>intro _)
  refine Go.keep [0, 1, 5] (Go.loops (I := fun m fr τ => ∃ i : Nat, ∃ k : Int, m = l.length - i ∧ i ≤ l.length ∧ k = i ∧ colsAux n [] l = colsAux n (l.take i) (l.drop i) ∧
    fr = [(0, .c (.fz (l.map encI))), (1, .c (.int .i64 n)), (5, .c (.int .i64 k))] ∧ τ = E σ []) ?_ _ _ _ ⟨0, _, rfl, Nat.zero_le _, rfl, rfl, rfl, rfl⟩)
  rintro m fr τ ⟨i, k, rfl, hi, hk, hsl, rfl, rfl⟩ hrec
  by_cases hlt : i < l.length
  · have hd := List.drop_eq_getElem_cons hlt
    have htk : (l.map encI).take i = (l.take i).map encI := List.map_take.symm
    have hstep : colsAux n [] l = (isIn l[i] 0 (n - 1) && !((l.take i).any fun a => l[i] == a) && colsAux n (l.take (i + 1)) (l.drop (i + 1))) := by
      rw [hsl, hd, colsAux, List.take_succ_eq_append_getElem hlt]
    repeat' first|refine yaG ?_|((first|apply yG|apply yH|apply yI);exact rfl;(first|exact yX (enc := encI) rfl rfl hk hlt rfl))|((first|apply Go.pcallB|apply Go.spcallB|apply Qg.pcallB);(iterate 3 exact rfl);exact l1In_ok _ _ _;intro _ _)|(exfalso;omega)|(refine yaS ?_ ?_<;>intro _)
    · refine .ret rfl (.bool ?_)
      rename_i b hb hb2
      rw [hw] at hb
      rw [colsF, hstep, nbT hb hb2]
      rfl
    rename_i b hb hb2
    repeat' first|refine yaG ?_|((first|apply yG|apply yH|apply yI);exact rfl;(first|exact aop_sliceF (n := i) rfl rfl hk (by simp;omega) encI_len|exact yX (enc := encI) rfl rfl hk hlt rfl))|(exfalso;omega)|(refine yaS ?_ ?_<;>intro _)
    rw [htk]
    repeat' first|refine yaG ?_|((first|apply Go.pcallB|apply Go.spcallB|apply Qg.pcallB);(iterate 3 exact rfl);exact l1Has_ok (l.take i) l[i] (by simp;omega);intro _ _)|(exfalso;omega)|(refine yaS ?_ ?_<;>intro _)
    · refine .ret rfl (.bool ?_)
      rename_i b1 hb1 hb3
      rw [colsF, hstep, bT hb1 hb3]
      simp
    · refine Go.keep [0, 1, 5] (hrec _ _ _ (by omega) ⟨i + 1, _, rfl, hlt, wrap_succ hk (by omega), ?_, rfl, rfl⟩)
      rename_i b1 hb1 hb3
      rw [hw] at hb
      rw [hstep, bF hb1 hb3, nbF hb hb2]
      simp
  · have hfin : colsAux n [] l = true := by
      rw [hsl, List.drop_eq_nil_of_le (by omega)]
      rfl
    repeat' first|refine yaG ?_|(exfalso;omega)|(refine yaS ?_ ?_<;>intro _)
    refine .ret rfl (.bool ?_)
    rw [colsF, hfin]
    rfl
def isOfF (v : Val) (k : Int) : Bool := okVal v && (v.k == 0 || v.k == k)
theorem isOf_ok (v : Val) (k : Int) : Pure Tryz.prog 227 [.agg (encV v), .c (.int .i64 k)] (.c (.bool (isOfF v k))) := by
  refine Pure.run mixed c_impl_isOf_ok (Nat.le_of_ble_eq_true rfl) fun σ hS hA => ?_
  clear hS hA
  repeat' first|refine yaG ?_|((first|apply Go.pcallB|apply Go.spcallB|apply Qg.pcallB);(iterate 3 exact rfl);exact ValOk_ok _;intro _ _)|(exfalso;omega)|(refine yaS ?_ ?_<;>intro _)
  all_goals refine .ret rfl (.bool ?_)
  all_goals simp_all [isOfF]
def isFkF (f : Fk) (n : Int) : Bool := colsF f.cols n && (isNameF f.table && (isIn f.onDelete 0 2 && isIn f.onUpdate 0 2))
theorem isFk_ok (f : Fk) (n : Int) (hb : bFk 34359738368 f) (h0 : -4611686018427387904 ≤ n) (h1 : n ≤ 4611686018427387904) : Pure Tryz.prog 223 [.agg (encFk f), .c (.int .i64 n)] (.c (.bool (isFkF f n))) := by
  refine Pure.run mixed c_impl_isFk_ok (Nat.le_of_ble_eq_true rfl) fun σ hS hA => ?_
  clear hS hA
  repeat' first|refine yaG ?_|((first|apply Go.pcallB|apply Go.spcallB|apply Qg.pcallB);(iterate 3 exact rfl);(first|exact areColumns_ok f.cols n hb.1 h0 h1|exact isName_ok f.table hb.2|exact in_ok _ _ _);intro _ _)|(exfalso;omega)|(refine yaS ?_ ?_<;>intro _)
  all_goals refine .ret rfl (.bool ?_)
  all_goals simp_all [isFkF]
/-! ### The columns of a table -/
def colOk (c : Col) : Bool := isNameF c.name && ((c.kind == 1 || c.kind == 2) && isOfF c.dflt c.kind)
def colsDef : List Col → List Col → Bool
  | _, [] => true
  | pre, c :: r => colOk c && !(pre.any fun d => d.name == c.name) && colsDef (pre ++ [c]) r
def areColsF (l : List Col) : Bool := decide ((l.length : Int) ≤ 8) && (colsDef [] l && decide (0 < (l.length : Int)))
theorem areCols1_ok (d c : Col) : Pure Tryz.prog 248 [.agg (encCol d), .c (.fp (encCol c))] (.c (.bool (d.name == c.name))) := by
  refine Pure.run mixed c_impl_areCols_1_ok (Nat.le_of_ble_eq_true rfl) fun σ hS hA => ?_
  clear hS hA
  repeat' first|refine yaG ?_|(exfalso;omega)|(refine yaS ?_ ?_<;>intro _)
  all_goals refine .ret rfl (.bool ?_)
  all_goals simp_all
theorem areCols_ok (l : List Col) (hx : l.length ≤ 34359738368) (hb : ∀ c ∈ l, bCol 34359738368 c) : Pure Tryz.prog 215 [.c (.fz (l.map encCol))] (.c (.bool (areColsF l))) := by
  refine Pure.run mixed c_impl_areCols_ok (Nat.le_of_ble_eq_true rfl) fun σ hS hA => ?_
  clear hS hA
  repeat' first|refine yaG ?_|(exfalso;omega)|(refine yaS ?_ ?_<;>intro _)
  refine Go.keep [0, 5, 6, 7] (Go.loops (I := fun m fr τ => ∃ i : Nat, ∃ k : Int, m = l.length - i ∧ i ≤ l.length ∧ k = i ∧ (i ≤ 8 ∧ colsDef [] l = colsDef (l.take i) (l.drop i)) ∧
    fr = [(0, .c (.fz (l.map encCol))), (5, .c (.fz (l.map encCol))), (6, .c (.int .i64 (l.length : Int))), (7, .c (.int .i64 k))] ∧ τ = E σ []) ?_ _ _ _ ⟨0, _, rfl, Nat.zero_le _, rfl, ⟨by omega, rfl⟩, rfl, rfl⟩)
  rintro m fr τ ⟨i, k, rfl, hi, hk, ⟨h8, hsl⟩, rfl, rfl⟩ hrec
  by_cases hlt : i < l.length
  · have hd := List.drop_eq_getElem_cons hlt
    have hbc := hb _ (List.getElem_mem hlt)
    have htk : (l.map encCol).take i = (l.take i).map encCol := List.map_take.symm
    have hstep : colsDef [] l = (colOk l[i] && !((l.take i).any fun d => d.name == l[i].name) && colsDef (l.take (i + 1)) (l.drop (i + 1))) := by
      rw [hsl, hd, colsDef, List.take_succ_eq_append_getElem hlt]
    have neg : (k = 8 ∨ colOk l[i] = false ∨ ((l.take i).any fun d => d.name == l[i].name) = true) → areColsF l = false := by
      rintro (h | h | h)
      · rw [areColsF, decide_eq_false (by omega)]
        rfl
      · rw [areColsF, hstep, h]
        simp
      · rw [areColsF, hstep, h]
        simp
    repeat' first|refine yaG ?_|((first|apply yG|apply yH|apply yI);exact rfl;(first|exact yX (enc := encCol) rfl rfl hk hlt rfl))|((first|apply Go.pcallB|apply Go.spcallB|apply Qg.pcallB);(iterate 3 exact rfl);(first|exact isName_ok l[i].name hbc.1|exact isOf_ok l[i].dflt l[i].kind);intro _ _)|(exfalso;omega)|(refine yaS ?_ ?_<;>intro _)
    all_goals try (refine .ret rfl (.bool (neg ?_).symm); clear hrec hsl hstep neg; simp_all [colOk]; done)
    all_goals have hcol : colOk l[i] = true := (by clear hrec hsl hstep neg; simp_all [colOk])
    all_goals refine .op rfl (aop_sliceF (n := i) rfl rfl hk (by simp; omega) (fun e he => by obtain ⟨c, _, rfl⟩ := List.mem_map.1 he; rfl)) ?_
    all_goals rw [htk]
    all_goals (repeat' first|(apply yA;exact rfl)|apply yB|apply yC|((first|apply yD|apply yE);(first|exact yF|assumption);iterate 6 exact rfl)|((first|apply yG|apply yH|apply yI);exact rfl;(first|exact yJ|exact yK rfl rfl|exact yL rfl|exact yM rfl|exact rfl|exact aL rfl rfl rfl rfl rfl|exact aS rfl rfl rfl rfl rfl rfl rfl))|((first|apply yN|apply yO|apply yP);exact rfl)|((first|apply Go.pcallB|apply Go.spcallB|apply Qg.pcallB);(iterate 3 exact rfl);exact containsFuncA_ok mixed c_slices_ContainsFunc_Col_ok c_slices_IndexFunc_Col_ok encCol (fun c => .agg (encCol c)) (fun _ => rfl) (fun _ => rfl) (l.take i) (fun d => d.name == l[i].name) _ [] [.fp (encCol l[i])] (by simp;omega) (fun j hj _ => areCols1_ok _ _);intro _ _)|(exfalso;omega)|(((first|apply yT|apply yU|apply yV|apply yW);exact rfl;(first|exact .d|exact .e|exact .n|((fail_if_success exact bqt);(fail_if_success exact bqf);exact .b)))<;>intro _))
    all_goals rename_i b9 hb9 hb8
    all_goals first
      | exact .ret rfl (.bool (neg (.inr (.inr (bT hb9 hb8)))).symm)
      | (refine Go.keep [0, 5, 6, 7] (hrec _ _ _ (by omega) ⟨i + 1, _, rfl, hlt, wrap_succ hk (by omega), ⟨by omega, ?_⟩, rfl, rfl⟩); rw [hstep, hcol, bF hb9 hb8]; rfl)
  · have hfin : colsDef [] l = true := by
      rw [hsl, List.drop_eq_nil_of_le (by omega)]
      rfl
    repeat' first|refine yaG ?_|(exfalso;omega)|(refine yaS ?_ ?_<;>intro _)
    refine .ret rfl (.bool ?_)
    rw [areColsF, hfin, decide_eq_true (p := (l.length : Int) ≤ 8) (by omega)]
    rfl

/-! ### Tables -/
def notNullAt (t : Table) (c : Int) : Bool := match t.cols[c.toNat]? with | some x => x.notNull | none => false
def exprF (e : List Tok) (n : Int) : Bool := decide ((e.length : Int) ≤ 24) && exprAux n 0 e
def tableF (t : Table) : Bool :=
  isNameF t.name && (areColsF t.cols && (colsF t.key t.cols.length && (decide ((t.uniques.length : Int) ≤ 3) && (decide ((t.checks.length : Int) ≤ 3) && (decide ((t.fks.length : Int) ≤ 3) &&
    (!(t.key.any fun c => !notNullAt t c) && (!(t.uniques.any fun u => !colsF u.cols t.cols.length) && (!(t.checks.any fun c => !exprF c.expr t.cols.length) && !(t.fks.any fun f => !isFkF f t.cols.length)))))))))
theorem colsAux_in {n : Int} : ∀ {l pre : List Int}, colsAux n pre l = true → ∀ c ∈ l, isIn c 0 (n - 1) = true
  | [], _, _, c, h => by simp at h
  | a :: r, pre, h, c, hc => by
    simp only [colsAux, Bool.and_eq_true] at h
    rcases List.mem_cons.1 hc with rfl | hc
    · exact h.1.1
    · exact colsAux_in h.2 c hc
theorem colsF_in {l : List Int} {n : Int} (h : colsF l n = true) : ∀ c ∈ l, 0 ≤ c ∧ c < n := by
  intro c hc
  simp only [colsF, Bool.and_eq_true] at h
  have := colsAux_in h.1 c hc
  simp only [isIn, Bool.and_eq_true, decide_eq_true_eq] at this
  omega
theorem areColsF_len {l : List Col} (h : areColsF l = true) : 0 < l.length ∧ l.length ≤ 8 := by
  simp only [areColsF, Bool.and_eq_true, decide_eq_true_eq] at h
  omega
theorem TableOk1_ok (t : Table) (c : Int) (h0 : 0 ≤ c) (h1 : c < t.cols.length) : Pure Tryz.prog 216 [.c (.int .i64 c), .c (.fp (encTable t))] (.c (.bool (!notNullAt t c))) := by
  refine Pure.run mixed c_impl_TableOk_1_ok (Nat.le_of_ble_eq_true rfl) fun σ hS hA => ?_
  clear hS hA
  obtain ⟨n, rfl⟩ : ∃ n : Nat, c = n := ⟨c.toNat, by omega⟩
  have hn : n < t.cols.length := by omega
  repeat' first|refine yaG ?_|((first|apply yG|apply yH|apply yI);exact rfl;(first|exact yX (enc := encCol) rfl rfl rfl hn rfl))|(exfalso;omega)|(refine yaS ?_ ?_<;>intro _)
  refine .ret rfl (.bool ?_)
  simp [notNullAt, hn]
theorem TableOk2_ok (u : Uniq) (n : Int) (hb : bUniq 34359738368 u) (h0 : -4611686018427387904 ≤ n) (h1 : n ≤ 4611686018427387904) : Pure Tryz.prog 218 [.agg (encUniq u), .c (.fp [.int .i64 n])] (.c (.bool (!colsF u.cols n))) := by
  refine Pure.run mixed c_impl_TableOk_2_ok (Nat.le_of_ble_eq_true rfl) fun σ hS hA => ?_
  clear hS hA
  repeat' first|refine yaG ?_|refine yaC (areColumns_ok u.cols n hb h0 h1) ?_|(exfalso;omega)|(refine yaS ?_ ?_<;>intro _)
  exact .ret rfl (.bool rfl)
theorem exprF_eq {e : List Tok} {n : Int} (h0 : 0 ≤ n) (h1 : n ≤ 16) : (decide ((e.length : Int) ≤ 24) && isIn n 0 16 && exprAux n 0 e) = exprF e n := by
  have : isIn n 0 16 = true := by simp [isIn, h0, h1]
  rw [this, Bool.and_true]
  rfl
theorem TableOk3_ok (c : Chk) (n : Int) (hb : bChk 34359738368 c) (h0 : 0 ≤ n) (h1 : n ≤ 16) : Pure Tryz.prog 220 [.agg (encChk c), .c (.fp [.int .i64 n])] (.c (.bool (!exprF c.expr n))) := by
  refine Pure.run mixed c_impl_TableOk_3_ok (Nat.le_of_ble_eq_true rfl) fun σ hS hA => ?_
  clear hS hA
  have hc := ExprOk_ok c.expr n hb.1
  rw [exprF_eq h0 h1] at hc
  repeat' first|refine yaG ?_|refine yaC (hc) ?_|(exfalso;omega)|(refine yaS ?_ ?_<;>intro _)
  exact .ret rfl (.bool rfl)
theorem TableOk4_ok (f : Fk) (n : Int) (hb : bFk 34359738368 f) (h0 : -4611686018427387904 ≤ n) (h1 : n ≤ 4611686018427387904) : Pure Tryz.prog 222 [.agg (encFk f), .c (.fp [.int .i64 n])] (.c (.bool (!isFkF f n))) := by
  refine Pure.run mixed c_impl_TableOk_4_ok (Nat.le_of_ble_eq_true rfl) fun σ hS hA => ?_
  clear hS hA
  repeat' first|refine yaG ?_|refine yaC (isFk_ok f n hb h0 h1) ?_|(exfalso;omega)|(refine yaS ?_ ?_<;>intro _)
  exact .ret rfl (.bool rfl)
theorem TableOk_ok (t : Table) (hb : bTable 34359738368 t) : Pure Tryz.prog 181 [.agg (encTable t)] (.c (.bool (tableF t))) := by
  refine Pure.run mixed c_impl_TableOk_ok (Nat.le_of_ble_eq_true rfl) fun σ hS hA => ?_
  clear hS hA
  obtain ⟨b1, b2, b3, b4, b5, b6⟩ := hb
  repeat' first|refine yaG ?_|((first|apply Go.pcallB|apply Go.spcallB|apply Qg.pcallB);(iterate 3 exact rfl);(first|exact isName_ok t.name b1|exact areCols_ok t.cols b2.1 b2.2|exact areColumns_ok t.key t.cols.length b3 (by omega) (by omega));intro _ _)|(exfalso;omega)|(refine yaS ?_ ?_<;>intro _)
  all_goals try (refine .ret rfl (.bool ?_); simp_all [tableF]; done)
  · refine .ret rfl (.bool ?_)
    rw [tableF, decide_eq_false (p := (t.uniques.length : Int) ≤ 3) (by omega)]
    simp
  · refine .ret rfl (.bool ?_)
    rw [tableF, decide_eq_false (p := (t.checks.length : Int) ≤ 3) (by omega)]
    simp
  · refine .ret rfl (.bool ?_)
    rw [tableF, decide_eq_false (p := (t.fks.length : Int) ≤ 3) (by omega)]
    simp
  rename_i c1 p1 q1 c2 p2 q2 c3 p3 q3 g1 g2 g3
  have k1 := nbF p1 q1
  have k2 := nbF p2 q2
  have k3 := nbF p3 q3
  have hcl := areColsF_len k2
  have hin := colsF_in k3
  clear p1 q1 p2 q2 p3 q3
  repeat' first|refine yaG ?_|((first|apply Go.pcallB|apply Go.spcallB|apply Qg.pcallB);(iterate 3 exact rfl);(first|exact containsFuncA_ok mixed c_slices_ContainsFunc_int64_int64_ok c_slices_IndexFunc_int64_int64_ok encI (fun n => .c (.int .i64 n)) (fun _ => rfl) (fun _ => rfl) t.key (fun c => !notNullAt t c) _ [] [.fp (encTable t)] b3 (fun j hj _ => TableOk1_ok t _ (hin _ (List.getElem_mem hj)).1 (hin _ (List.getElem_mem hj)).2)|exact containsFuncA_ok mixed c_slices_ContainsFunc_Unique_ok c_slices_IndexFunc_Unique_ok encUniq (fun u => .agg (encUniq u)) (fun _ => rfl) (fun _ => rfl) t.uniques (fun u => !colsF u.cols t.cols.length) _ [] [.fp [.int .i64 t.cols.length]] b4.1 (fun j hj _ => TableOk2_ok _ _ (b4.2 _ (List.getElem_mem hj)) (by omega) (by omega))|exact containsFuncA_ok mixed c_slices_ContainsFunc_Check_ok c_slices_IndexFunc_Check_ok encChk (fun u => .agg (encChk u)) (fun _ => rfl) (fun _ => rfl) t.checks (fun c => !exprF c.expr t.cols.length) _ [] [.fp [.int .i64 t.cols.length]] b5.1 (fun j hj _ => TableOk3_ok _ _ (b5.2 _ (List.getElem_mem hj)) (by omega) (by omega))|exact containsFuncA_ok mixed c_slices_ContainsFunc_Fk_ok c_slices_IndexFunc_Fk_ok encFk (fun u => .agg (encFk u)) (fun _ => rfl) (fun _ => rfl) t.fks (fun f => !isFkF f t.cols.length) _ [] [.fp [.int .i64 t.cols.length]] b6.1 (fun j hj _ => TableOk4_ok _ _ (b6.2 _ (List.getElem_mem hj)) (by omega) (by omega)));intro _ _)|(exfalso;omega)|(refine yaS ?_ ?_<;>intro _)
  all_goals refine .ret rfl (.bool ?_)
  all_goals rw [tableF, k1, k2, k3, decide_eq_true (p := (t.uniques.length : Int) ≤ 3) (by omega), decide_eq_true (p := (t.checks.length : Int) ≤ 3) (by omega), decide_eq_true (p := (t.fks.length : Int) ≤ 3) (by omega)]
  all_goals simp_all
end Go.Proofs.YtdgnfdljkghpjaaGreat.Am

/- Tables, as the reference sees them. -/
set_option linter.unusedVariables false
set_option linter.unusedSimpArgs false
namespace Go.Proofs.YtdgnfdljkghpjaaGreat.Am

theorem ColAt_ok (x0 x2 x3 x4 x5 : Ce) (l : List Col) (s : List UInt8) (hx : l.length ≤ 34359738368) : Pure Tryz.prog 239 [.agg [x0, .fz (l.map encCol), x2, x3, x4, x5], .c (.str s)] (.c (.int .i64 (idxA (fun c => c.name == s) l 0))) := by
  refine Pure.run mixed c_spec_ColAt_ok (Nat.le_of_ble_eq_true rfl) fun σ hS hA => ?_
  clear hS hA
  repeat' first|refine yaG ?_|(exfalso;omega)|(refine yaS ?_ ?_<;>intro _)
  refine Go.keep [1, 2, 5] (Go.loops (I := fun m fr τ => ∃ i : Nat, ∃ k : Int, m = l.length - i ∧ i ≤ l.length ∧ k = i ∧ idxA (fun c => c.name == s) l 0 = idxA (fun c => c.name == s) (l.drop i) k ∧
    fr = [(1, .c (.str s)), (2, .c (.fp [x0, .fz (l.map encCol), x2, x3, x4, x5])), (5, .c (.int .i64 k))] ∧ τ = E σ []) ?_ _ _ _ ⟨0, _, rfl, Nat.zero_le _, rfl, rfl, rfl, rfl⟩)
  rintro m fr τ ⟨i, k, rfl, hi, hn, hsl, rfl, rfl⟩ hrec
  by_cases hlt : i < l.length
  · repeat' first|refine yaG ?_|((first|apply yG|apply yH|apply yI);exact rfl;(first|exact yX (enc := encCol) rfl rfl hn hlt rfl))|(exfalso;omega)|(refine yaS ?_ ?_<;>intro _)
    · refine .ret rfl (.int ?_)
      rw [hsl, List.drop_eq_getElem_cons hlt, idxA, if_pos (by assumption)]
    · rename_i h
      refine Go.keep [1, 2, 5] (hrec _ _ _ (by omega) ⟨i + 1, _, rfl, hlt, wrap_succ hn (by omega), ?_, rfl, rfl⟩)
      rw [hsl, List.drop_eq_getElem_cons hlt, idxA, if_neg (by rw [h]; simp), wrap64 (by omega) (by omega)]
  · repeat' first|refine yaG ?_|(exfalso;omega)|(refine yaS ?_ ?_<;>intro _)
    refine .ret rfl (.int ?_)
    rw [hsl, List.drop_eq_nil_of_le (by omega)]
    rfl
theorem l3At_ok (l : List Table) (s : List UInt8) (hx : l.length ≤ 34359738368) : Pure Tryz.prog 206 [.c (.fz (l.map encTable)), .c (.str s)] (.c (.int .i64 (idxA (fun t => t.name == s) l 0))) := by
  refine Pure.run mixed c_spec_l3At_ok (Nat.le_of_ble_eq_true rfl) fun σ hS hA => ?_
  clear hS hA
  repeat' first|refine yaG ?_|(exfalso;omega)|(refine yaS ?_ ?_<;>intro _)
  refine Go.keep [0, 1, 5] (Go.loops (I := fun m fr τ => ∃ i : Nat, ∃ k : Int, m = l.length - i ∧ i ≤ l.length ∧ k = i ∧ idxA (fun c => c.name == s) l 0 = idxA (fun c => c.name == s) (l.drop i) k ∧
    fr = [(0, .c (.fz (l.map encTable))), (1, .c (.str s)), (5, .c (.int .i64 k))] ∧ τ = E σ []) ?_ _ _ _ ⟨0, _, rfl, Nat.zero_le _, rfl, rfl, rfl, rfl⟩)
  rintro m fr τ ⟨i, k, rfl, hi, hn, hsl, rfl, rfl⟩ hrec
  by_cases hlt : i < l.length
  · repeat' first|refine yaG ?_|((first|apply yG|apply yH|apply yI);exact rfl;(first|exact yX (enc := encTable) rfl rfl hn hlt rfl))|(exfalso;omega)|(refine yaS ?_ ?_<;>intro _)
    · refine .ret rfl (.int ?_)
      rw [hsl, List.drop_eq_getElem_cons hlt, idxA, if_pos (by assumption)]
    · rename_i h
      refine Go.keep [0, 1, 5] (hrec _ _ _ (by omega) ⟨i + 1, _, rfl, hlt, wrap_succ hn (by omega), ?_, rfl, rfl⟩)
      rw [hsl, List.drop_eq_getElem_cons hlt, idxA, if_neg (by rw [h]; simp), wrap64 (by omega) (by omega)]
  · repeat' first|refine yaG ?_|(exfalso;omega)|(refine yaS ?_ ?_<;>intro _)
    refine .ret rfl (.int ?_)
    rw [hsl, List.drop_eq_nil_of_le (by omega)]
    rfl
theorem any_at {α : Type} {p : α → Bool} {l : List α} {i : Nat} (hi : i < l.length) (h : p l[i] = false) : (l.any fun a => !p a) = true := List.any_eq_true.2 ⟨l[i], List.getElem_mem hi, by rw [h]; rfl⟩
theorem any_none {α : Type} {p : α → Bool} {l : List α} (h : ∀ j (hj : j < l.length), p l[j] = true) : (l.any fun a => !p a) = false := by
  rw [List.any_eq_false]
  intro a ha
  obtain ⟨j, hj, rfl⟩ := List.mem_iff_getElem.1 ha
  rw [h j hj]
  simp
theorem upto {α : Type} {p : α → Bool} {l : List α} {i : Nat} (h : ∀ j (hj : j < l.length), j < i → p l[j] = true) (hi : i < l.length) (hp : p l[i] = true) : ∀ j (hj : j < l.length), j < i + 1 → p l[j] = true := fun j hj hji => by
  by_cases e : j = i
  · subst e; exact hp
  · exact h j hj (by omega)
theorem isIn12 {k : Int} : isIn k 1 2 = (k == 1 || k == 2) := by
  rw [Bool.eq_iff_iff]
  simp [isIn]
  omega
theorem tableF_iff {t : Table} : tableF t = true ↔ isNameF t.name = true ∧ isIn t.cols.length 1 8 = true ∧ colsF t.key t.cols.length = true ∧ (t.uniques.length : Int) ≤ 3 ∧ (t.checks.length : Int) ≤ 3 ∧ (t.fks.length : Int) ≤ 3 ∧ colsDef [] t.cols = true ∧
    (t.key.any fun c => !notNullAt t c) = false ∧ (t.uniques.any fun u => !colsF u.cols t.cols.length) = false ∧ (t.checks.any fun c => !exprF c.expr t.cols.length) = false ∧ (t.fks.any fun f => !isFkF f t.cols.length) = false := by
  simp only [tableF, areColsF, isIn, Bool.and_eq_true, decide_eq_true_eq, Bool.not_eq_true']
  constructor
  · rintro ⟨h1, ⟨h2, h3, h4⟩, h5, h6, h7, h8, h9, h10, h11, h12⟩
    exact ⟨h1, ⟨by omega, h2⟩, h5, h6, h7, h8, h3, h9, h10, h11, h12⟩
  · rintro ⟨h1, ⟨h2, h2'⟩, h3, h4, h5, h6, h7, h8, h9, h10, h11⟩
    exact ⟨h1, ⟨h2', h7, by omega⟩, h3, h4, h5, h6, h8, h9, h10, h11⟩
theorem tableF_not {t : Table} (h : tableF t = true → False) : tableF t = false := by
  cases c : tableF t
  · rfl
  · exact (h c).elim
theorem sTableOk_ok (t : Table) (hb : bTable 34359738368 t) : Pure Tryz.prog 205 [.agg (encTable t)] (.c (.bool (tableF t))) := by
  refine Pure.run mixed c_spec_TableOk_ok (Nat.le_of_ble_eq_true rfl) fun σ hS hA => ?_
  clear hS hA
  obtain ⟨b1, b2, b3, b4, b5, b6⟩ := hb
  repeat' first|refine yaG ?_|((first|apply Go.pcallB|apply Go.spcallB|apply Qg.pcallB);(iterate 3 exact rfl);(first|exact l3Name_ok t.name b1|exact l1In_ok _ _ _|exact l3Cols_ok t.key t.cols.length b3 (by omega) (by omega));intro _ _)|(exfalso;omega)|(refine yaS ?_ ?_<;>intro _)
  · exact .ret rfl (.bool (tableF_not fun h => by rename_i c p q; have h2 := (tableF_iff.1 h).1; rw [nbT p q] at h2; cases h2).symm)
  · exact .ret rfl (.bool (tableF_not fun h => by rename_i c1 p1 q1 c p q; have h2 := (tableF_iff.1 h).2.1; rw [nbT p q] at h2; cases h2).symm)
  · exact .ret rfl (.bool (tableF_not fun h => by rename_i c p q; have h2 := (tableF_iff.1 h).2.2.1; rw [nbT p q] at h2; cases h2).symm)
  · exact .ret rfl (.bool (tableF_not fun h => by have h2 := tableF_iff.1 h; omega).symm)
  · exact .ret rfl (.bool (tableF_not fun h => by have h2 := tableF_iff.1 h; omega).symm)
  · exact .ret rfl (.bool (tableF_not fun h => by have h2 := tableF_iff.1 h; omega).symm)
  rename_i c1 p1 q1 c2 p2 q2 c3 p3 q3 g1 g2 g3
  have k1 := nbF p1 q1
  have k2 := nbF p2 q2
  have k3 := nbF p3 q3
  have hin := colsF_in k3
  have hln : 1 ≤ (t.cols.length : Int) ∧ (t.cols.length : Int) ≤ 8 := by simpa [isIn] using k2
  clear p1 q1 p2 q2 p3 q3
  -- the columns
  refine Go.keep [1, 3, 4] (Go.loops (I := fun m fr τ => ∃ i : Nat, ∃ k : Int, m = t.cols.length - i ∧ i ≤ t.cols.length ∧ k = i ∧ colsDef [] t.cols = colsDef (t.cols.take i) (t.cols.drop i) ∧
    fr = [(1, .c (.fp (encTable t))), (3, .c (.int .i64 (t.cols.length : Int))), (4, .c (.int .i64 k))] ∧ τ = E σ []) ?_ _ _ _ ⟨0, _, rfl, Nat.zero_le _, rfl, rfl, rfl, rfl⟩)
  rintro m fr τ ⟨i, k, rfl, hi, hk, hsl, rfl, rfl⟩ hrec
  by_cases hlt : i < t.cols.length
  · have hd := List.drop_eq_getElem_cons hlt
    have hbc := b2.2 _ (List.getElem_mem hlt)
    have htk : (t.cols.map encCol).take i = (t.cols.take i).map encCol := List.map_take.symm
    have hstep : colsDef [] t.cols = (colOk t.cols[i] && !((t.cols.take i).any fun d => d.name == t.cols[i].name) && colsDef (t.cols.take (i + 1)) (t.cols.drop (i + 1))) := by
      rw [hsl, hd, colsDef, List.take_succ_eq_append_getElem hlt]
    have neg : (colOk t.cols[i] = false ∨ ((t.cols.take i).any fun d => d.name == t.cols[i].name) = true) → tableF t = false := fun h => tableF_not fun hh => by
      have h2 := (tableF_iff.1 hh).2.2.2.2.2.2.1
      rw [hstep] at h2
      rcases h with h | h <;> simp [h] at h2
    have hany := any_idx (p := fun d : Col => d.name == t.cols[i].name) (l := t.cols.take i)
    repeat' first|refine yaG ?_|((first|apply yG|apply yH|apply yI);exact rfl;(first|exact yX (enc := encCol) rfl rfl hk hlt rfl|exact aop_sliceF (n := i) rfl rfl hk (by simp;omega) (fun e he => by obtain ⟨c, _, rfl⟩ := List.mem_map.1 he;rfl)))|((first|apply Go.pcallB|apply Go.spcallB|apply Qg.pcallB);(iterate 3 exact rfl);exact l3Name_ok t.cols[i].name hbc.1;intro _ _)|(exfalso;omega)|(refine yaS ?_ ?_<;>intro _)
    · rename_i c p q
      exact .ret rfl (.bool (neg (.inl (by rw [colOk, nbT p q]; rfl))).symm)
    rename_i c p q
    have hnm := nbF p q
    rw [htk]
    repeat' first|refine yaG ?_|((first|apply Go.pcallB|apply Go.spcallB|apply Qg.pcallB);(iterate 3 exact rfl);(first|exact l1In_ok _ _ _|exact sValOk_ok _);intro _ _)|((first|apply Go.pcallI|apply Go.spcallI|apply Qg.pcallI);(iterate 3 exact rfl);exact ColAt_ok (.str []) .nils .nils .nils .nils (t.cols.take i) t.cols[i].name (by simp;omega);intro _ _)|(exfalso;omega)|(refine yaS ?_ ?_<;>intro _)
    all_goals clear p q
    all_goals try (refine .ret rfl (.bool (neg ?_).symm); clear hrec hsl hstep neg hin; simp_all [colOk, isOfF, isIn12]; done)
    all_goals have hok : (colOk t.cols[i] && !((t.cols.take i).any fun d => d.name == t.cols[i].name)) = true := (by clear hrec hsl hstep neg hin; simp_all [colOk, isOfF, isIn12])
    all_goals refine Go.keep [1, 3, 4] (hrec _ _ _ (by omega) ⟨i + 1, _, rfl, hlt, wrap_succ hk (by omega), ?_, rfl, rfl⟩)
    all_goals rw [hstep, hok, Bool.true_and]
  have hfin : colsDef [] t.cols = true := by
    rw [hsl, List.drop_eq_nil_of_le (by omega)]
    rfl
  clear hrec hsl
  repeat' first|refine yaG ?_|(exfalso;omega)|(refine yaS ?_ ?_<;>intro _)
  clear hlt hk hi
  -- the key
  refine Go.keep [1, 3, 6] (Go.loops (I := fun m fr τ => ∃ i : Nat, ∃ k : Int, m = t.key.length - i ∧ i ≤ t.key.length ∧ k = i ∧ (∀ j (hj : j < t.key.length), j < i → notNullAt t t.key[j] = true) ∧
    fr = [(1, .c (.fp (encTable t))), (3, .c (.int .i64 (t.cols.length : Int))), (6, .c (.int .i64 k))] ∧ τ = E σ []) ?_ _ _ _ ⟨0, _, rfl, Nat.zero_le _, rfl, fun j _ h => absurd h (by omega), rfl, rfl⟩)
  rintro m fr τ ⟨i, k, rfl, hi, hk, hall, rfl, rfl⟩ hrec
  by_cases hlt : i < t.key.length
  · have hc := hin _ (List.getElem_mem hlt)
    obtain ⟨n, hn⟩ : ∃ n : Nat, t.key[i] = n := ⟨t.key[i].toNat, by omega⟩
    have hn2 : n < t.cols.length := by omega
    have hnn : notNullAt t t.key[i] = t.cols[n].notNull := by simp [notNullAt, hn, hn2]
    repeat' first|refine yaG ?_|((first|apply yG|apply yH|apply yI);exact rfl;(first|exact yX (enc := encI) rfl rfl hk hlt rfl|exact yX (enc := encCol) rfl rfl hn hn2 rfl))|(exfalso;omega)|(refine yaS ?_ ?_<;>intro _)
    · rename_i h
      exact .ret rfl (.bool (tableF_not fun hh => by
        have h2 := (tableF_iff.1 hh).2.2.2.2.2.2.2.1
        rw [any_at hlt (by rw [hnn]; simpa using h)] at h2
        cases h2).symm)
    · rename_i h
      exact Go.keep [1, 3, 6] (hrec _ _ _ (by omega) ⟨i + 1, _, rfl, hlt, wrap_succ hk (by omega), upto hall hlt (by rw [hnn]; simpa using h), rfl, rfl⟩)
  have hkey := any_none (p := notNullAt t) (l := t.key) fun j hj => hall j hj (by omega)
  clear hrec hall
  repeat' first|refine yaG ?_|(exfalso;omega)|(refine yaS ?_ ?_<;>intro _)
  clear hlt hk hi
  -- the uniques
  refine Go.keep [1, 3, 7] (Go.loops (I := fun m fr τ => ∃ i : Nat, ∃ k : Int, m = t.uniques.length - i ∧ i ≤ t.uniques.length ∧ k = i ∧ (∀ j (hj : j < t.uniques.length), j < i → colsF t.uniques[j].cols t.cols.length = true) ∧
    fr = [(1, .c (.fp (encTable t))), (3, .c (.int .i64 (t.cols.length : Int))), (7, .c (.int .i64 k))] ∧ τ = E σ []) ?_ _ _ _ ⟨0, _, rfl, Nat.zero_le _, rfl, fun j _ h => absurd h (by omega), rfl, rfl⟩)
  rintro m fr τ ⟨i, k, rfl, hi, hk, hall, rfl, rfl⟩ hrec
  by_cases hlt : i < t.uniques.length
  · repeat' first|refine yaG ?_|((first|apply yG|apply yH|apply yI);exact rfl;(first|exact yX (enc := encUniq) rfl rfl hk hlt rfl))|((first|apply Go.pcallB|apply Go.spcallB|apply Qg.pcallB);(iterate 3 exact rfl);exact l3Cols_ok t.uniques[i].cols t.cols.length (b4.2 _ (List.getElem_mem hlt)) (by omega) (by omega);intro _ _)|(exfalso;omega)|(refine yaS ?_ ?_<;>intro _)
    · rename_i c p q
      exact .ret rfl (.bool (tableF_not fun hh => by
        have h2 := (tableF_iff.1 hh).2.2.2.2.2.2.2.2.1
        rw [any_at (p := fun u : Uniq => colsF u.cols t.cols.length) hlt (nbT p q)] at h2
        cases h2).symm)
    · rename_i c p q
      exact Go.keep [1, 3, 7] (hrec _ _ _ (by omega) ⟨i + 1, _, rfl, hlt, wrap_succ hk (by omega), upto (p := fun u : Uniq => colsF u.cols t.cols.length) hall hlt (nbF p q), rfl, rfl⟩)
  have huni := any_none (p := fun u : Uniq => colsF u.cols t.cols.length) (l := t.uniques) fun j hj => hall j hj (by omega)
  clear hrec hall
  repeat' first|refine yaG ?_|(exfalso;omega)|(refine yaS ?_ ?_<;>intro _)
  clear hlt hk hi
  -- the checks
  refine Go.keep [1, 3, 8] (Go.loops (I := fun m fr τ => ∃ i : Nat, ∃ k : Int, m = t.checks.length - i ∧ i ≤ t.checks.length ∧ k = i ∧ (∀ j (hj : j < t.checks.length), j < i → exprF t.checks[j].expr t.cols.length = true) ∧
    fr = [(1, .c (.fp (encTable t))), (3, .c (.int .i64 (t.cols.length : Int))), (8, .c (.int .i64 k))] ∧ τ = E σ []) ?_ _ _ _ ⟨0, _, rfl, Nat.zero_le _, rfl, fun j _ h => absurd h (by omega), rfl, rfl⟩)
  rintro m fr τ ⟨i, k, rfl, hi, hk, hall, rfl, rfl⟩ hrec
  by_cases hlt : i < t.checks.length
  · have hx := l2Expr_ok t.checks[i].expr t.cols.length (b5.2 _ (List.getElem_mem hlt)).1 (by omega) (by omega)
    rw [show (decide ((t.checks[i].expr.length : Int) ≤ 24) && exprAux t.cols.length 0 t.checks[i].expr) = exprF t.checks[i].expr t.cols.length from rfl] at hx
    repeat' first|refine yaG ?_|((first|apply yG|apply yH|apply yI);exact rfl;(first|exact yX (enc := encChk) rfl rfl hk hlt rfl))|((first|apply Go.pcallB|apply Go.spcallB|apply Qg.pcallB);(iterate 3 exact rfl);exact hx;intro _ _)|(exfalso;omega)|(refine yaS ?_ ?_<;>intro _)
    · rename_i c p q
      exact .ret rfl (.bool (tableF_not fun hh => by
        have h2 := (tableF_iff.1 hh).2.2.2.2.2.2.2.2.2.1
        rw [any_at (p := fun u : Chk => exprF u.expr t.cols.length) hlt (nbT p q)] at h2
        cases h2).symm)
    · rename_i c p q
      exact Go.keep [1, 3, 8] (hrec _ _ _ (by omega) ⟨i + 1, _, rfl, hlt, wrap_succ hk (by omega), upto (p := fun u : Chk => exprF u.expr t.cols.length) hall hlt (nbF p q), rfl, rfl⟩)
  have hchk := any_none (p := fun u : Chk => exprF u.expr t.cols.length) (l := t.checks) fun j hj => hall j hj (by omega)
  clear hrec hall
  repeat' first|refine yaG ?_|(exfalso;omega)|(refine yaS ?_ ?_<;>intro _)
  clear hlt hk hi
  -- the references
  refine Go.keep [1, 3, 9] (Go.loops (I := fun m fr τ => ∃ i : Nat, ∃ k : Int, m = t.fks.length - i ∧ i ≤ t.fks.length ∧ k = i ∧ (∀ j (hj : j < t.fks.length), j < i → isFkF t.fks[j] t.cols.length = true) ∧
    fr = [(1, .c (.fp (encTable t))), (3, .c (.int .i64 (t.cols.length : Int))), (9, .c (.int .i64 k))] ∧ τ = E σ []) ?_ _ _ _ ⟨0, _, rfl, Nat.zero_le _, rfl, fun j _ h => absurd h (by omega), rfl, rfl⟩)
  rintro m fr τ ⟨i, k, rfl, hi, hk, hall, rfl, rfl⟩ hrec
  by_cases hlt : i < t.fks.length
  · have hbf := b6.2 _ (List.getElem_mem hlt)
    have neg : isFkF t.fks[i] t.cols.length = false → tableF t = false := fun h => tableF_not fun hh => by
      have h2 := (tableF_iff.1 hh).2.2.2.2.2.2.2.2.2.2
      rw [any_at (p := fun u : Fk => isFkF u t.cols.length) hlt h] at h2
      cases h2
    repeat' first|refine yaG ?_|((first|apply yG|apply yH|apply yI);exact rfl;(first|exact yX (enc := encFk) rfl rfl hk hlt rfl))|((first|apply Go.pcallB|apply Go.spcallB|apply Qg.pcallB);(iterate 3 exact rfl);(first|exact l3Cols_ok t.fks[i].cols t.cols.length hbf.1 (by omega) (by omega)|exact l3Name_ok t.fks[i].table hbf.2|exact l1In_ok _ _ _);intro _ _)|(exfalso;omega)|(refine yaS ?_ ?_<;>intro _)
    all_goals try (refine .ret rfl (.bool (neg ?_).symm); clear hrec neg hin hall hkey huni hchk; simp_all [isFkF]; done)
    have hok : isFkF t.fks[i] t.cols.length = true := by
      clear hrec neg hin hall hkey huni hchk
      simp_all [isFkF]
    exact Go.keep [1, 3, 9] (hrec _ _ _ (by omega) ⟨i + 1, _, rfl, hlt, wrap_succ hk (by omega), upto (p := fun u : Fk => isFkF u t.cols.length) hall hlt hok, rfl, rfl⟩)
  have hfk := any_none (p := fun u : Fk => isFkF u t.cols.length) (l := t.fks) fun j hj => hall j hj (by omega)
  clear hrec hall
  repeat' first|refine yaG ?_|(exfalso;omega)|(refine yaS ?_ ?_<;>intro _)
  refine .ret rfl (.bool ?_)
  rw [eq_comm, tableF_iff]
  exact ⟨k1, k2, k3, by omega, by omega, by omega, hfin, hkey, huni, hchk, hfk⟩
end Go.Proofs.YtdgnfdljkghpjaaGreat.Am

/- What expressions come to, in plain Lean. -/
set_option linter.unusedVariables false
set_option linter.unusedSimpArgs false
namespace Go.Proofs.YtdgnfdljkghpjaaGreat.Am

def vNull : Val := ⟨0, 0, []⟩
def yes (b : Bool) : Int := if b then 1 else 0
end Go.Proofs.YtdgnfdljkghpjaaGreat.Am

/- Entries: sameness, copies, dropping. -/
set_option linter.unusedVariables false
set_option linter.unusedSimpArgs false
namespace Go.Proofs.YtdgnfdljkghpjaaGreat.Am

theorem sameVals_step {xs ys : List Val} {i : Nat} (h1 : i < xs.length) (h2 : i < ys.length) : (xs.drop i == ys.drop i) = ((xs[i].k == ys[i].k && (xs[i].n == ys[i].n && xs[i].s == ys[i].s)) && (xs.drop (i + 1) == ys.drop (i + 1))) := by
  rw [List.drop_eq_getElem_cons h1, List.drop_eq_getElem_cons h2, List.cons_beq_cons]
  congr 1
  generalize xs[i] = a
  generalize ys[i] = b
  obtain ⟨a1, a2, a3⟩ := a
  obtain ⟨b1, b2, b3⟩ := b
  rw [Bool.eq_iff_iff]
  simp
theorem l1SameVals_ok (xs ys : List Val) (hx : xs.length ≤ 34359738368) : Pure Tryz.prog 114 [.c (.fz (xs.map encV)), .c (.fz (ys.map encV))] (.c (.bool (xs == ys))) := by
  refine Pure.run mixed c_spec_l1SameVals_ok (Nat.le_of_ble_eq_true rfl) fun σ hS hA => ?_
  clear hS hA
  repeat' first|refine yaG ?_|(exfalso;omega)|(refine yaS ?_ ?_<;>intro _)
  · refine .ret rfl (.bool ?_)
    rw [eq_comm, beq_eq_false_iff_ne]
    rintro rfl
    simp at *
  refine Go.keep [0, 1, 5] (Go.loops (I := fun m fr τ => ∃ i : Nat, ∃ n : Int, m = xs.length - i ∧ i ≤ xs.length ∧ n = i ∧ (xs.length = ys.length ∧ (xs == ys) = (xs.drop i == ys.drop i)) ∧
    fr = [(0, .c (.fz (xs.map encV))), (1, .c (.fz (ys.map encV))), (5, .c (.int .i64 n))] ∧ τ = E σ []) ?_ _ _ _ ⟨0, _, rfl, Nat.zero_le _, rfl, ⟨by omega, rfl⟩, rfl, rfl⟩)
  rintro m fr τ ⟨i, n, rfl, hi, hn, ⟨hl, hsl⟩, rfl, rfl⟩ hrec
  by_cases hlt : i < xs.length
  · have hlt2 : i < ys.length := by omega
    have hst := sameVals_step hlt hlt2
    repeat' first|refine yaG ?_|((first|apply yG|apply yH|apply yI);exact rfl;(first|exact yX (enc := encV) rfl rfl hn hlt rfl|exact yX (enc := encV) rfl rfl hn hlt2 rfl))|(exfalso;omega)|(refine yaS ?_ ?_<;>intro _)
    · refine .ret rfl (.bool ?_)
      rw [hsl, hst]
      clear hrec
      simp_all
      intros
      simp_all
    · refine Go.keep [0, 1, 5] (hrec _ _ _ (by omega) ⟨i + 1, _, rfl, hlt, wrap_succ hn (by omega), ⟨hl, ?_⟩, rfl, rfl⟩)
      rw [hsl, hst]
      clear hrec
      simp_all
  · repeat' first|refine yaG ?_|(exfalso;omega)|(refine yaS ?_ ?_<;>intro _)
    refine .ret rfl (.bool ?_)
    rw [hsl, List.drop_eq_nil_of_le (by omega), List.drop_eq_nil_of_le (by omega)]
    rfl
theorem equalVals_ok (xs ys : List Val) (hx : xs.length ≤ 34359738368) : Pure Tryz.prog 113 [.c (.fz (xs.map encV)), .c (.fz (ys.map encV))] (.c (.bool (xs == ys))) := by
  refine Pure.run mixed c_slices_Equal_Val_ok (Nat.le_of_ble_eq_true rfl) fun σ hS hA => ?_
  clear hS hA
  repeat' first|refine yaG ?_|(exfalso;omega)|(refine yaS ?_ ?_<;>intro _)
  · refine .ret rfl (.bool ?_)
    rw [eq_comm, beq_eq_false_iff_ne]
    rintro rfl
    simp at *
  refine Go.keep [0, 1, 12, 13] (Go.loops (I := fun m fr τ => ∃ i : Nat, ∃ n : Int, m = xs.length - i ∧ i ≤ xs.length ∧ n = i ∧ (xs.length = ys.length ∧ (xs == ys) = (xs.drop i == ys.drop i)) ∧
    fr = [(0, .c (.fz (xs.map encV))), (1, .c (.fz (ys.map encV))), (12, .c (.int .i64 (xs.length : Int))), (13, .c (.int .i64 n))] ∧ τ = E σ []) ?_ _ _ _ ⟨0, _, rfl, Nat.zero_le _, rfl, ⟨by omega, rfl⟩, rfl, rfl⟩)
  rintro m fr τ ⟨i, n, rfl, hi, hn, ⟨hl, hsl⟩, rfl, rfl⟩ hrec
  by_cases hlt : i < xs.length
  · have hlt2 : i < ys.length := by omega
    have hst := sameVals_step hlt hlt2
    repeat' first|refine yaG ?_|((first|apply yG|apply yH|apply yI);exact rfl;(first|exact yX (enc := encV) rfl rfl hn hlt rfl|exact yX (enc := encV) rfl rfl hn hlt2 rfl))|(exfalso;omega)|(refine yaS ?_ ?_<;>intro _)
    · refine .ret rfl (.bool ?_)
      rw [hsl, hst]
      clear hrec
      simp_all
      intros
      simp_all
    · refine Go.keep [0, 1, 12, 13] (hrec _ _ _ (by omega) ⟨i + 1, _, rfl, hlt, wrap_succ hn (by omega), ⟨hl, ?_⟩, rfl, rfl⟩)
      rw [hsl, hst]
      clear hrec
      simp_all
  · repeat' first|refine yaG ?_|(exfalso;omega)|(refine yaS ?_ ?_<;>intro _)
    refine .ret rfl (.bool ?_)
    rw [hsl, List.drop_eq_nil_of_le (by omega), List.drop_eq_nil_of_le (by omega)]
    rfl
theorem entry_beq (e f : Entry) : (e == f) = (e.id == f.id && e.key == f.key) := by
  obtain ⟨a, b⟩ := e
  obtain ⟨c, d⟩ := f
  rw [Bool.eq_iff_iff]
  simp
  exact And.comm
theorem l11Same_ok (e f : Entry) (hx : e.key.length ≤ 34359738368) : Pure Tryz.prog 65 [.agg (encE e), .agg (encE f)] (.c (.bool (e == f))) := by
  refine Pure.run mixed c_spec_l11Same_ok (Nat.le_of_ble_eq_true rfl) fun σ hS hA => ?_
  clear hS hA
  repeat' first|refine yaG ?_|((first|apply Go.pcallB|apply Go.spcallB|apply Qg.pcallB);(iterate 3 exact rfl);exact l1SameVals_ok e.key f.key hx;intro _ _)|(exfalso;omega)|(refine yaS ?_ ?_<;>intro _)
  all_goals refine .ret rfl (.bool ?_)
  all_goals rw [entry_beq]
  all_goals simp_all
theorem sameEntry_ok (e f : Entry) (hx : e.key.length ≤ 34359738368) : Pure Tryz.prog 63 [.agg (encE e), .agg (encE f)] (.c (.bool (e == f))) := by
  refine Pure.run mixed c_impl_sameEntry_ok (Nat.le_of_ble_eq_true rfl) fun σ hS hA => ?_
  clear hS hA
  repeat' first|refine yaG ?_|((first|apply Go.pcallB|apply Go.spcallB|apply Qg.pcallB);(iterate 3 exact rfl);exact equalVals_ok e.key f.key hx;intro _ _)|(exfalso;omega)|(refine yaS ?_ ?_<;>intro _)
  all_goals refine .ret rfl (.bool ?_)
  all_goals rw [entry_beq]
  all_goals simp_all
/-! ### Copies -/
theorem clean_append {xs : List Val} : ∀ e ∈ xs.map encV, e.length = 3 ∧ ∀ x ∈ e, Flat x := by
  intro e he
  obtain ⟨a, _, rfl⟩ := List.mem_map.1 he
  exact ⟨rfl, flatV a⟩
end Go.Proofs.YtdgnfdljkghpjaaGreat.Am

/- Truths and what is made of values: the program. -/
set_option linter.unusedVariables false
set_option linter.unusedSimpArgs false
namespace Go.Proofs.YtdgnfdljkghpjaaGreat.Am

end Go.Proofs.YtdgnfdljkghpjaaGreat.Am

/- Expressions: the program's Eval and Truth. -/
set_option linter.unusedVariables false
set_option linter.unusedSimpArgs false
namespace Go.Proofs.YtdgnfdljkghpjaaGreat.Am

theorem flats {l : List Val} : ∀ e ∈ l.map encV, ∀ x ∈ e, Flat x := fun e he x hx => (clean_append e he).2 x hx
theorem lens {l : List Val} : ∀ e ∈ l.map encV, e.length = 3 := fun e he => (clean_append e he).1
end Go.Proofs.YtdgnfdljkghpjaaGreat.Am

/- Truths and what is made of values: the reference. -/
set_option linter.unusedVariables false
set_option linter.unusedSimpArgs false
namespace Go.Proofs.YtdgnfdljkghpjaaGreat.Am

end Go.Proofs.YtdgnfdljkghpjaaGreat.Am

/- The reader that draws: numbers. -/
set_option linter.unusedVariables false
set_option linter.unusedSimpArgs false
namespace Go.Proofs.YtdgnfdljkghpjaaGreat.Am

theorem old_c {n : Nat} {k : IntKind} {z : Int} : ∀ y ∈ (AV.c (.int k z)).all, Old n y := fun y hy => by
  simp only [AV.all, List.mem_singleton] at hy
  subst hy
  exact .int _ _
/-! ### values and tokens -/
end Go.Proofs.YtdgnfdljkghpjaaGreat.Am

/- Expressions: the reference's evaluation. -/
set_option linter.unusedVariables false
set_option linter.unusedSimpArgs false
namespace Go.Proofs.YtdgnfdljkghpjaaGreat.Am

end Go.Proofs.YtdgnfdljkghpjaaGreat.Am

/- The reader that draws: values, expressions, conditions, rows. -/
set_option linter.unusedVariables false
set_option linter.unusedSimpArgs false
namespace Go.Proofs.YtdgnfdljkghpjaaGreat.Am

/-! ### expressions -/
end Go.Proofs.YtdgnfdljkghpjaaGreat.Am

/- The laws' helpers on types, printed by a program: Set, Row, Stmt. -/
set_option linter.unusedVariables false
set_option linter.unusedSimpArgs false
namespace Go.Proofs.YtdgnfdljkghpjaaGreat.Am
structure RowD where
  id : Int
  vals : List Val
  deriving DecidableEq
def encRowD (a : RowD) : List Ce := [.int .i64 a.id, .fz (a.vals.map encV)]
def bRowD (N : Nat) (a : RowD) : Prop := (a.vals.length ≤ N ∧ ∀ x ∈ a.vals, bV N x)
def zRowD (a : RowD) : Int → Int := chain [(szL szV a.vals)]
theorem zRowD_steps (a : RowD) : Steps [(szL szV a.vals)] := (.cons (fun l h => szL_le szV_le _ l h) .nil)
theorem zRowD_le (a : RowD) (l : Int) (h : 0 ≤ l) : zRowD a l ≤ l := chain_le (zRowD_steps a) l h
theorem bRowD_of (a : RowD) (l : Int) (N : Nat) (h0 : 0 ≤ l) (h : 0 ≤ zRowD a l) (hl : l ≤ N) : bRowD N a := by
  have hh := chain_all (zRowD_steps a) l h0 h
  obtain ⟨q0, u0, v0, w0⟩ := hh (szL szV a.vals) (by simp)
  exact (list_of szV_le (fun _ _ _ _ h hl => bV_of h hl) u0 w0 (by omega))
theorem szRowD_ok (a : RowD) (left : Int) (hb : bRowD 1125899906842624 a) (h0 : 0 ≤ left) (h1 : left ≤ 34359738368) : Pure Tryz.prog 163 [.agg (encRowD a), .c (.int .i64 left)] (.c (.int .i64 (zRowD a left))) := by
  refine Pure.run mixed c_laws_szRow_ok (Nat.le_of_ble_eq_true rfl) fun σ hS hA => ?_
  clear hS hA
  repeat' first|refine yaG ?_|fail
  refine .pcall rfl rfl rfl (szValS_ok a.vals left hb.1 hb.2 (by omega) (by omega)) ?_
  have y1 := szL_le szV_le a.vals left (by omega)
  generalize e1 : szL szV a.vals left = l1 at y1 ⊢
  repeat' first|refine yaG ?_|(exfalso;omega)|(refine yaS ?_ ?_<;>intro _)
  · refine .ret rfl (.int ?_)
    rename_i h
    simp only [zRowD, chain, e1, if_pos h]
  rename_i g1
  refine .ret rfl (.int ?_)
  simp only [zRowD, chain, e1, if_neg g1]
theorem szRowDS_ok (xs : List RowD) (left : Int) (hx : xs.length ≤ 1125899906842624) (hv : ∀ e ∈ xs, bRowD 1125899906842624 e) (h0 : 0 ≤ left) (h1 : left ≤ 34359738368) : Pure Tryz.prog 120 [.c (.fz (xs.map encRowD)), .c (.int .i64 left)] (.c (.int .i64 (szL zRowD xs left))) :=
  szS_ok mixed c_laws_szRowS_ok encRowD zRowD xs left hx h0 h1 (fun _ => rfl) zRowD_le fun a ha l h2 h3 => szRowD_ok a l (hv a ha) h2 (by omega)
theorem toRowD_ok (a : RowD) (hb : bRowD 34359738368 a) (σ : Store) : Ok Tryz.prog 169 [.agg (encRowD a)] σ (NewL σ (encRowD a)) := by
  refine Ok.run mixed c_laws_toRow_ok (Nat.le_of_ble_eq_true rfl) fun hS hA => ?_
  clear hS hA
  repeat' first|refine yaG ?_|(exfalso;omega)|(refine yaS ?_ ?_<;>intro _)
  refine Go.call _ rfl rfl rfl (toValS_ok a.vals hb.1  _) ?_
  rintro r σ0 ⟨x0, m0, rfl, rfl, t0, h0⟩
  rw [E_E] at h0 ⊢
  have t0 := tidy_up t0
  have h0 := h0.new2
  repeat' first|refine yaG ?_|(exfalso;omega)|(refine yaS ?_ ?_<;>intro _)
  have hL : HasL (E σ ((0, [[.int .i64 a.id, x0]]) :: (0, [[.int .i64 a.id, x0]]) :: ([] ++ m0))) (fun a => σ.next + 2 ≤ a ∧ a < σ.next + 2 + ([] ++ m0).length) (encRowD a) [.int .i64 a.id, x0] := by
    refine HasL.mono ?_ (HasL.skip (.int _ _) (HasL.two (h0 _ _) (HasL.nil (S := fun a => a < 0)) (fun a ha hb => by (try dsimp only at ha hb); (try simp only [List.append_eq, List.length_append, List.length_nil, List.nil_append] at ha hb); omega)))
    intro a ha
    (try dsimp only at ha)
    (try simp only [List.append_eq, List.length_append, List.length_nil, List.nil_append] at ha ⊢)
    omega
  have hT := hL.tidy (n := σ.next) fun a ha => by have := ha.1; omega
  have hM : TidyL σ.next ([] ++ m0) := (tidy_pre (fun b hb => by simp at hb) t0)
  have hN : NewL σ (encRowD a) (.agg [.int .i64 a.id, x0]) (E σ ((0, [[.int .i64 a.id, x0]]) :: (0, [[.int .i64 a.id, x0]]) :: ([] ++ m0))) := by
    refine ⟨_, _, rfl, rfl, .one hT (.one hT hM), hL.mono ?_⟩
    intro a ha
    have h9 := ha.1
    have h8 := ha.2
    (try simp only [E_next, List.length_cons, List.append_eq, List.length_append, List.length_nil, List.nil_append] at h8 ⊢)
    constructor <;> omega
  exact .ret (retv_m rfl rfl rfl (Nat.le_of_ble_eq_true rfl) rfl) hN
theorem toRowDS_ok (xs : List RowD) (hx : xs.length ≤ 34359738368) (hv : ∀ e ∈ xs, bRowD 34359738368 e) (σ : Store) : Ok Tryz.prog 126 [.c (.fz (xs.map encRowD))] σ (New σ (.fz (xs.map encRowD))) :=
  toS_ok mixed c_laws_toRowS_ok encRowD xs hx (by decide) rfl (fun _ => rfl) (by intro x hx; simp only [List.mem_cons, List.not_mem_nil, or_false] at hx; rcases hx with rfl | rfl <;> constructor) (fun a ha σ => toRowD_ok a (hv a ha) σ) σ
theorem RowD_beq (a b : RowD) : (a == b) = (a.id == b.id && a.vals == b.vals) := by
  obtain ⟨a0, a1⟩ := a
  obtain ⟨b0, b1⟩ := b
  rw [Bool.eq_iff_iff]
  simp [and_assoc]
theorem eqRowD_ok (a b : RowD) (hb : bRowD 34359738368 a) : Pure Tryz.prog 175 [.agg (encRowD a), .agg (encRowD b)] (.c (.bool (a == b))) := by
  refine Pure.run mixed c_laws_eqRow_ok (Nat.le_of_ble_eq_true rfl) fun σ hS hA => ?_
  clear hS hA
  have hq := RowD_beq a b
  repeat' first|refine yaG ?_|((first|apply Go.pcallB|apply Go.spcallB|apply Qg.pcallB);(iterate 3 exact rfl);exact eqValS_ok a.vals b.vals hb.1;intro _ _)|(exfalso;omega)|(refine yaS ?_ ?_<;>intro _)
  all_goals refine .ret rfl (.bool ?_)
  all_goals rw [hq]
  all_goals clear hq hb
  all_goals simp_all
theorem eqRowDS_ok (xs ys : List RowD) (hx : xs.length ≤ 34359738368) (hv : ∀ e ∈ xs, bRowD 34359738368 e) : Pure Tryz.prog 132 [.c (.fz (xs.map encRowD)), .c (.fz (ys.map encRowD))] (.c (.bool (xs == ys))) :=
  eqS_ok mixed c_laws_eqRowS_ok encRowD xs ys hx (fun _ => rfl) fun a ha b => eqRowD_ok a b (hv a ha)
end Go.Proofs.YtdgnfdljkghpjaaGreat.Am

/- The reader that draws: expressions frozen, conditions, rows. -/
set_option linter.unusedVariables false
set_option linter.unusedSimpArgs false
namespace Go.Proofs.YtdgnfdljkghpjaaGreat.Am

theorem Rd.old {σ : Store} {id v : Nat} {code : List UInt8} {p q : Nat} (hr : Rd σ id v code p) (hS : OldS σ) : OldS (Rd.go σ id v code q) := by
  intro a y hy
  by_cases e : a = id
  · subst e
    rw [show (Rd.go σ a v code q).get a = some (v, rdB code q) from if_pos rfl] at hy
    injection hy with hy
    subst hy
    refine ⟨hr.2.1, fun i j hi hj => ?_⟩
    have hold := (hS a _ hr.1).2
    have hi0 : i = 0 := by simp [rdB] at hi; omega
    subst hi0
    have hj2 : j = 0 ∨ j = 1 := by simp [rdB] at hj; omega
    rcases hj2 with rfl | rfl
    · exact hold 0 0 (by simp [rdB]) (by simp [rdB])
    · exact .int _ _
  · rw [show (Rd.go σ id v code q).get a = σ.get a from if_neg e] at hy
    exact hS a y hy
/-! ### a table's row -/
end Go.Proofs.YtdgnfdljkghpjaaGreat.Am

/- The reader that draws: schemas. -/
set_option linter.unusedVariables false
set_option linter.unusedSimpArgs false
namespace Go.Proofs.YtdgnfdljkghpjaaGreat.Am

/-- Where ways meet, what follows kept from sight. -/
theorem Go.meet {P : Program} {n0 nt : Nat} {rets : List RV} {R : AV → Store → Prop} {K K' : List AK} {fr : Fr} {σ : Store} (I : Fr → Store → Prop) (h2 : ∀ K, (∀ fr σ, I fr σ → Go P n0 nt rets R K fr σ) → Go P n0 nt rets R (K' ++ K) fr σ) (h1 : ∀ fr σ, I fr σ → Go P n0 nt rets R K fr σ) : Go P n0 nt rets R (K' ++ K) fr σ := h2 K h1
def OldL (n : Nat) (ys : List (List Ce)) : Prop := ∀ e ∈ ys, ∀ c ∈ e, Old n c
theorem oldL_flat {n : Nat} {ys : List (List Ce)} (h : ∀ e ∈ ys, ∀ x ∈ e, Flat x) : OldL n ys := fun e he c hc => (h e he c hc).old _
theorem old_fz1 {n : Nat} {ys : List (List Ce)} (h : OldL n ys) : Old n (.fz ys) := .fz _ fun i j hi hj => h _ (List.getElem_mem hi) _ (List.getElem_mem hj)
theorem oldInts {n : Nat} (l : List Int) : OldL n (l.map encI) := oldL_flat fun e he x hx => (flatI l e he).2 x hx
end Go.Proofs.YtdgnfdljkghpjaaGreat.Am

/- pdqsort's functions walked: sifting, the heap. -/
set_option linter.unusedVariables false
set_option linter.unusedSimpArgs false
namespace Go.Proofs.YtdgnfdljkghpjaaGreat.Am
open Go.Sort (swp)

theorem siftDown_len {α : Type} [Inhabited α] {lt : α → α → Bool} {hi first : Nat} : ∀ (n root : Nat) (d : Array α), hi - root ≤ n → (Go.Sort.siftDown lt hi first root d).size = d.size
  | 0, root, d, h => by rw [Go.Sort.siftDown.eq_1, dif_pos (by omega)]
  | n + 1, root, d, h => by
    rw [Go.Sort.siftDown.eq_1]
    split
    · rfl
    · split
      · split
        · rfl
        · split
          · rw [siftDown_len n _ _ (by omega), swp_len]
          · rfl
      · split
        · rfl
        · rw [siftDown_len n _ _ (by omega), swp_len]
/-- The greater child. -/
def childA {α : Type} [Inhabited α] (lt : α → α → Bool) (hi first root : Nat) (d : Array α) : Nat := if 2 * root + 1 + 1 < hi && lt d[first + (2 * root + 1)]! d[first + (2 * root + 1) + 1]! then 2 * root + 2 else 2 * root + 1
theorem siftDown_child {α : Type} [Inhabited α] {lt : α → α → Bool} {hi first root : Nat} {d : Array α} (h : 2 * root + 1 < hi) :
    root < childA lt hi first root d ∧ childA lt hi first root d < hi ∧ Go.Sort.siftDown lt hi first root d = if lt d[first + root]! d[first + childA lt hi first root d]! then Go.Sort.siftDown lt hi first (childA lt hi first root d) (swp d (first + root) (first + childA lt hi first root d)) else d := by
  rw [Go.Sort.siftDown.eq_1, dif_neg (by omega), childA]
  split
  · rename_i hc
    rw [Bool.and_eq_true, decide_eq_true_eq] at hc
    refine ⟨by omega, by omega, ?_⟩
    cases hl : lt d[first + root]! d[first + (2 * root + 2)]!
    · simp
    · rw [dif_pos (by omega)]
      simp
  · refine ⟨by omega, h, ?_⟩
    cases hl : lt d[first + root]! d[first + (2 * root + 1)]! <;> simp
theorem siftDown_ok {P : Program} (hm : P.follows .mixedOrders = true) {fz : List Nat} {n : Nat} (hc : compFn P fz n = some c_slices_siftDownCmpFunc_Entry) {α : Type} [Inhabited α] (F : Fam α) (co : α → α → Int) (g : Nat) (pre cap : List Ce) (hcmp : CmpsA P F co g pre cap) (d : Array α) (N lo hi first c : Nat) (zl zh zf : Int) (hl : zl = lo) (hh : zh = hi) (hf : zf = first) (hN : d.size = N) (h3 : first + hi ≤ N) (hlo : lo ≤ N) (hx : N ≤ 34359738368) :
    Ok P n [.c (.sl F.id F.v 0 N c), .c (.int .i64 zl), .c (.int .i64 zh), .c (.int .i64 zf), .c (.fn g pre cap)] (F.A d) (fun r τ => r = .tup [] ∧ τ = F.A (Go.Sort.siftDown (lessA co) hi first lo d)) := by
  refine .of_go hm hc (Nat.le_of_ble_eq_true rfl) ?_
  repeat' first|refine yaG ?_|(exfalso;omega)|(refine yaS ?_ ?_<;>intro _)
  refine Go.keep [0, 2, 3, 4, 10] (Go.loops (I := fun mm fr τ => ∃ (i : Nat) (z : Int) (q : Array α), mm = N + 1 + hi - i ∧ i ≤ N ∧ z = i ∧ q.size = N ∧ Go.Sort.siftDown (lessA co) hi first lo d = Go.Sort.siftDown (lessA co) hi first i q ∧
    fr = [(0, .c (.sl F.id F.v 0 N c)), (2, .c (.int .i64 zh)), (3, .c (.int .i64 zf)), (4, .c (.fn g pre cap)), (10, .c (.int .i64 z))] ∧ τ = F.A q) ?_ _ _ _ ⟨lo, _, d, rfl, hlo, hl, hN, rfl, rfl, rfl⟩)
  rintro mm fr τ ⟨i, z, q, rfl, hiN, hz, hq, hr, rfl, rfl⟩ hrec
  have em : IntKind.i64.wrap (2 * z) = ((2 * i : Nat) : Int) := by rw [wrap64 (by omega) (by omega)]; omega
  have ec : IntKind.i64.wrap (IntKind.i64.wrap (2 * z) + 1) = ((2 * i + 1 : Nat) : Int) := by rw [em, wrap64 (by omega) (by omega)]; omega
  by_cases hlt : 2 * i + 1 < hi
  · obtain ⟨k1, k2, k3⟩ := siftDown_child (lt := lessA co) (first := first) (d := q) hlt
    rw [k3] at hr
    clear k3
    generalize hch : childA (lessA co) hi first i q = ch at *
    rw [childA, lessA] at hch
    have er : IntKind.i64.wrap (zf + z) = ((first + i : Nat) : Int) := by rw [wrap64 (by omega) (by omega)]; omega
    have hri : first + i < q.size := by omega
    have hci : first + ch < q.size := by omega
    have h1i : first + (2 * i + 1) < q.size := by omega
    have ec1 : IntKind.i64.wrap (IntKind.i64.wrap (IntKind.i64.wrap (2 * z) + 1) + 1) = ((2 * i + 2 : Nat) : Int) := by rw [ec, wrap64 (by omega) (by omega)]; omega
    have ef1 : IntKind.i64.wrap (zf + IntKind.i64.wrap (IntKind.i64.wrap (2 * z) + 1)) = ((first + (2 * i + 1) : Nat) : Int) := by rw [ec, wrap64 (by omega) (by omega)]; omega
    have ef2 : IntKind.i64.wrap (IntKind.i64.wrap (zf + IntKind.i64.wrap (IntKind.i64.wrap (2 * z) + 1)) + 1) = ((first + (2 * i + 1) + 1 : Nat) : Int) := by rw [ef1, wrap64 (by omega) (by omega)]; omega
    obtain ⟨zc, hzc⟩ : ∃ zc, zc = IntKind.i64.wrap (IntKind.i64.wrap (2 * z) + 1) := ⟨_, rfl⟩
    repeat' first|(apply yA;exact rfl)|apply yC|((first|apply yD|apply yE);(first|exact yF|assumption);iterate 6 exact rfl)|((first|apply yG|apply yH|apply yI);exact rfl;(first|exact yJ|exact yK rfl rfl|exact yL rfl|exact yM rfl|exact rfl|exact aL rfl rfl rfl rfl rfl|exact aS rfl rfl rfl rfl rfl rfl rfl))|((first|apply yN|apply yO|apply yP);exact rfl)|(exfalso;omega)|(((first|apply yT|apply yU|apply yV|apply yW);exact rfl;(first|exact .d|exact .e|exact .n|((fail_if_success exact bqt);(fail_if_success exact bqf);exact .b)))<;>intro _)
    all_goals first
      | (exfalso; omega)
      | skip
    rw [← hzc] at ec ec1 ef1 ef2
    rw [← hzc]
    refine Go.meet (K' := [_, _]) (fun fr τ => ∃ zk : Int, zk = (ch : Int) ∧ fr = [(0, .c (.sl F.id F.v 0 N c)), (2, .c (.int .i64 zh)), (3, .c (.int .i64 zf)), (4, .c (.fn g pre cap)), (10, .c (.int .i64 z)), (11, .c (.int .i64 zk))] ∧ τ = F.A q) (fun K hmt => ?_) ?_
    · by_cases h2 : 2 * i + 1 + 1 < hi
      · have h2i : first + (2 * i + 1) + 1 < q.size := by omega
        have cc := hcmp.at q q[first + (2 * i + 1)]! q[first + (2 * i + 1) + 1]!
        repeat' first|refine yaG ?_|((first|apply yG|apply yH|apply yI);exact rfl;(first|exact aop_ai (F := F) rfl rfl ef1 hq h1i|exact aop_ai (F := F) rfl rfl ef2 hq h2i|exact aop_al (F := F) rfl h1i|exact aop_al (F := F) rfl h2i))|(exfalso;omega)|(refine yaS ?_ ?_<;>intro _)
        all_goals first
          | (exfalso; omega)
          | skip
        refine Go.scall _ rfl rfl rfl cc ?_
        rintro r τ ⟨rfl, rfl⟩
        generalize co q[first + (2 * i + 1)]! q[first + (2 * i + 1) + 1]! = o at hch
        by_cases ho : o < 0
        · rw [if_pos (by simp [ho, h2])] at hch
          repeat' first|refine yaG ?_|(exfalso;omega)|(refine yaS ?_ ?_<;>intro _)
          all_goals first
            | (exfalso; omega)
            | skip
          exact Go.keep [0, 2, 3, 4, 10, 11] (hmt _ _ ⟨_, by omega, rfl, rfl⟩)
        · rw [if_neg (by simp [ho])] at hch
          repeat' first|refine yaG ?_|(exfalso;omega)|(refine yaS ?_ ?_<;>intro _)
          all_goals first
            | (exfalso; omega)
            | skip
          exact Go.keep [0, 2, 3, 4, 10, 11] (hmt _ _ ⟨_, by omega, rfl, rfl⟩)
      · rw [if_neg (by simp; omega)] at hch
        repeat' first|refine yaG ?_|(exfalso;omega)|(refine yaS ?_ ?_<;>intro _)
        all_goals first
          | (exfalso; omega)
          | skip
        exact Go.keep [0, 2, 3, 4, 10, 11] (hmt _ _ ⟨_, by omega, rfl, rfl⟩)
    · rintro fr τ ⟨zk, hzk, rfl, rfl⟩
      have ek : IntKind.i64.wrap (zf + zk) = ((first + ch : Nat) : Int) := by rw [wrap64 (by omega) (by omega)]; omega
      have cc := hcmp.at q q[first + i]! q[first + ch]!
      repeat' first|refine yaG ?_|((first|apply yG|apply yH|apply yI);exact rfl;(first|exact aop_ai (F := F) rfl rfl er hq hri|exact aop_ai (F := F) rfl rfl ek hq hci|exact aop_al (F := F) rfl hri|exact aop_al (F := F) rfl hci))|(exfalso;omega)|(refine yaS ?_ ?_<;>intro _)
      refine Go.scall _ rfl rfl rfl cc ?_
      rintro r τ ⟨rfl, rfl⟩
      rw [lessA] at hr
      generalize co q[first + i]! q[first + ch]! = o at hr
      by_cases ho : o < 0
      · rw [if_pos (by simp [ho])] at hr
        repeat' first|(apply yA;exact rfl)|apply yC|((first|apply yD|apply yE);(first|exact yF|assumption);iterate 6 exact rfl)|((first|apply yG|apply yH|apply yI);exact rfl;(first|exact yJ|exact yK rfl rfl|exact yL rfl|exact yM rfl|exact rfl|exact aL rfl rfl rfl rfl rfl|exact aS rfl rfl rfl rfl rfl rfl rfl))|((first|apply yN|apply yO|apply yP);exact rfl)|(exfalso;omega)|(((first|apply yT|apply yU|apply yV|apply yW);exact rfl;(first|exact .d|exact .e|exact .n|((fail_if_success exact bqt);(fail_if_success exact bqf);exact .b)))<;>intro _)
        all_goals first
          | (exfalso; omega)
          | (exfalso; rename_i hbad; rw [decide_eq_true ho] at hbad; cases hbad; done)
          | (exfalso; rename_i hbad; rw [decide_eq_false ho] at hbad; cases hbad; done)
          | skip
        refine Go.qw (fun F' τ => Go P (F.A d).next _ _ _ (.segs _ :: _) F' τ) ?_ fun _ _ h => h
        repeat' first|(apply Qw.op;exact rfl;exact fun _ => rfl)|(apply Qw.rd;exact rfl;exact rfl;first|exact aop_ai (F := F) rfl rfl er hq hri|exact aop_ai (F := F) rfl rfl ek hq hci|exact aop_al (F := F) rfl hri|exact aop_al (F := F) rfl hci)|(apply Qw.wr;exact rfl;exact rfl;exact aop_as (F := F) rfl rfl hri)|apply Qw.nil
        repeat' first|refine yaG ?_|((first|apply yG|apply yH|apply yI);exact rfl;(first|exact aop_ai (F := F) rfl rfl ek (Array.size_setIfInBounds.trans hq) (by rw [Array.size_setIfInBounds];exact hci)|exact aop_as (F := F) rfl rfl (by rw [Array.size_setIfInBounds];exact hci)))|(exfalso;omega)|(refine yaS ?_ ?_<;>intro _)
        refine Go.keep [0, 2, 3, 4, 10] (hrec _ _ _ (by omega) ⟨ch, _, swp q (first + i) (first + ch), rfl, by omega, hzk, swp_len.trans hq, hr, rfl, rfl⟩)
      · rw [if_neg (by simp [ho])] at hr
        repeat' first|refine yaG ?_|(exfalso;omega)|(refine yaS ?_ ?_<;>intro _)
        all_goals first
          | (exfalso; omega)
          | (exfalso; rename_i hbad; rw [decide_eq_false ho] at hbad; cases hbad; done)
          | skip
        first
          | exact .ret rfl ⟨rfl, by rw [hr]⟩
          | exact .fin rfl ⟨rfl, by rw [hr]⟩
  · repeat' first|refine yaG ?_|(exfalso;omega)|(refine yaS ?_ ?_<;>intro _)
    all_goals first
      | (exfalso; omega)
      | skip
    rw [Go.Sort.siftDown.eq_1 (lessA co) hi first i q, dif_pos (by omega)] at hr
    exact .fin rfl ⟨rfl, by rw [hr]⟩
theorem heapBuild_len {α : Type} [Inhabited α] {lt : α → α → Bool} {hi first : Nat} : ∀ (k : Nat) (d : Array α), (Go.Sort.heapBuild lt hi first k d).size = d.size
  | 0, d => rfl
  | k + 1, d => by rw [Go.Sort.heapBuild, heapBuild_len k, siftDown_len _ _ _ (Nat.le_refl _)]
theorem heapSort_ok {P : Program} (hm : P.follows .mixedOrders = true) {fz : List Nat} {n : Nat} (hc : compFn P fz n = some c_slices_heapSortCmpFunc_Entry) {α : Type} [Inhabited α] (F : Fam α) {fz' : List Nat} (hc' : compFn P fz' 229 = some c_slices_siftDownCmpFunc_Entry) (co : α → α → Int) (g : Nat) (pre cap : List Ce) (hcmp : CmpsA P F co g pre cap) (d : Array α) (N a b c : Nat) (za zb : Int) (ha : za = a) (hb : zb = b) (hN : d.size = N) (hab : a < b) (h3 : b ≤ N) (hx : N ≤ 34359738368) :
    Ok P n [.c (.sl F.id F.v 0 N c), .c (.int .i64 za), .c (.int .i64 zb), .c (.fn g pre cap)] (F.A d) (fun r τ => r = .tup [] ∧ τ = F.A (Go.Sort.heapSort (lessA co) d a b)) := by
  refine .of_go hm hc (Nat.le_of_ble_eq_true rfl) ?_
  rw [Go.Sort.heapSort]
  have e1 : IntKind.i64.wrap (zb - za) = ((b - a : Nat) : Int) := by rw [wrap64 (by omega) (by omega)]; omega
  have e2 : IntKind.i64.wrap (IntKind.i64.wrap (zb - za) - 1) = ((b - a - 1 : Nat) : Int) := by rw [e1, wrap64 (by omega) (by omega)]; omega
  have e3 : IntKind.i64.wrap ((IntKind.i64.wrap (IntKind.i64.wrap (zb - za) - 1)).tdiv 2) = (((b - a - 1) / 2 : Nat) : Int) := by rw [e2, Int.tdiv_eq_ediv_of_nonneg (by omega), wrap64 (by omega) (by omega)]; omega
  repeat' first|refine yaG ?_|(exfalso;omega)|(refine yaS ?_ ?_<;>intro _)
  refine Go.keep [0, 3, 8, 9, 10, 11] ?_
  refine Go.meet (K' := [_, _]) (fun fr τ => fr = [(0, .c (.sl F.id F.v 0 N c)), (3, .c (.fn g pre cap)), (8, .c (.int .i64 za)), (9, .c (.int .i64 0)), (10, .c (.int .i64 (IntKind.i64.wrap (zb - za))))] ∧ τ = F.A (Go.Sort.heapBuild (lessA co) (b - a) a ((b - a - 1) / 2 + 1) d)) (fun K hmt => ?_) ?_
  · refine Go.loops (I := fun mm fr τ => ∃ (k : Nat) (z : Int) (q : Array α), mm = k ∧ k ≤ (b - a - 1) / 2 + 1 ∧ z + 1 = k ∧ q.size = N ∧ Go.Sort.heapBuild (lessA co) (b - a) a ((b - a - 1) / 2 + 1) d = Go.Sort.heapBuild (lessA co) (b - a) a k q ∧
      fr = [(0, .c (.sl F.id F.v 0 N c)), (3, .c (.fn g pre cap)), (8, .c (.int .i64 za)), (9, .c (.int .i64 0)), (10, .c (.int .i64 (IntKind.i64.wrap (zb - za)))), (11, .c (.int .i64 z))] ∧ τ = F.A q) ?_ _ _ _ ⟨(b - a - 1) / 2 + 1, _, d, rfl, Nat.le_refl _, by rw [e3]; rfl, hN, rfl, rfl, rfl⟩
    rintro mm fr τ ⟨k, z, q, hmk, hk, hz, hq, hr, rfl, rfl⟩ hrec
    cases k with
    | zero =>
      repeat' first|refine yaG ?_|(exfalso;omega)|(refine yaS ?_ ?_<;>intro _)
      all_goals first
        | (exfalso; omega)
        | skip
      exact Go.keep [0, 3, 8, 9, 10] (hmt _ _ ⟨rfl, by rw [hr]; rfl⟩)
    | succ k =>
      rw [Go.Sort.heapBuild] at hr
      have cs := siftDown_ok hm hc' F co g pre cap hcmp q N k (b - a) a c z (IntKind.i64.wrap (zb - za)) za (by omega) e1 ha hq (by omega) (by omega) hx
      repeat' first|refine yaG ?_|(exfalso;omega)|(refine yaS ?_ ?_<;>intro _)
      all_goals first
        | (exfalso; omega)
        | skip
      refine .call _ rfl rfl rfl cs ?_
      rintro r τ ⟨rfl, rfl⟩
      repeat' first|refine yaG ?_|(exfalso;omega)|(refine yaS ?_ ?_<;>intro _)
      exact Go.keep [0, 3, 8, 9, 10, 11] (hrec k _ _ (by omega) ⟨k, _, _, rfl, by omega, by rw [wrap64 (by omega) (by omega)]; omega, (siftDown_len _ _ _ (Nat.le_refl _)).trans hq, hr, rfl, rfl⟩)
  · rintro fr τ ⟨rfl, rfl⟩
    have hB : (Go.Sort.heapBuild (lessA co) (b - a) a ((b - a - 1) / 2 + 1) d).size = N := (heapBuild_len _ _).trans hN
    generalize Go.Sort.heapBuild (lessA co) (b - a) a ((b - a - 1) / 2 + 1) d = B at hB ⊢
    repeat' first|refine yaG ?_|(exfalso;omega)|(refine yaS ?_ ?_<;>intro _)
    refine Go.keep [0, 3, 8, 9, 12] (Go.loops (I := fun mm fr τ => ∃ (k : Nat) (z : Int) (q : Array α), mm = k ∧ k ≤ b - a ∧ z + 1 = k ∧ q.size = N ∧ Go.Sort.heapPop (lessA co) a (b - a) B = Go.Sort.heapPop (lessA co) a k q ∧
      fr = [(0, .c (.sl F.id F.v 0 N c)), (3, .c (.fn g pre cap)), (8, .c (.int .i64 za)), (9, .c (.int .i64 0)), (12, .c (.int .i64 z))] ∧ τ = F.A q) ?_ _ _ _ ⟨b - a, _, B, rfl, Nat.le_refl _, by rw [e2]; omega, hB, rfl, rfl, rfl⟩)
    rintro mm fr τ ⟨k, z, q, hmk, hk, hz, hq, hr, rfl, rfl⟩ hrec
    cases k with
    | zero =>
      repeat' first|refine yaG ?_|(exfalso;omega)|(refine yaS ?_ ?_<;>intro _)
      all_goals first
        | (exfalso; omega)
        | skip
      exact .fin rfl ⟨rfl, by rw [hr]; rfl⟩
    | succ k =>
      rw [Go.Sort.heapPop] at hr
      have e4 : IntKind.i64.wrap (za + z) = ((a + k : Nat) : Int) := by rw [wrap64 (by omega) (by omega)]; omega
      have ha0 : a < q.size := by omega
      have hk0 : a + k < q.size := by omega
      have cs := siftDown_ok hm hc' F co g pre cap hcmp (swp q a (a + k)) N 0 k a c 0 z za rfl (by omega) ha (swp_len.trans hq) (by omega) (by omega) hx
      repeat' first|(apply yA;exact rfl)|apply yC|((first|apply yD|apply yE);(first|exact yF|assumption);iterate 6 exact rfl)|((first|apply yG|apply yH|apply yI);exact rfl;(first|exact yJ|exact yK rfl rfl|exact yL rfl|exact yM rfl|exact rfl|exact aL rfl rfl rfl rfl rfl|exact aS rfl rfl rfl rfl rfl rfl rfl))|((first|apply yN|apply yO|apply yP);exact rfl)|(exfalso;omega)|(((first|apply yT|apply yU|apply yV|apply yW);exact rfl;(first|exact .d|exact .e|exact .n|((fail_if_success exact bqt);(fail_if_success exact bqf);exact .b)))<;>intro _)
      all_goals first
        | (exfalso; omega)
        | skip
      refine Go.qw (fun F' τ => Go P (F.A d).next _ _ _ (.segs _ :: _) F' τ) ?_ fun _ _ h => h
      repeat' first|(apply Qw.op;exact rfl;exact fun _ => rfl)|(apply Qw.rd;exact rfl;exact rfl;first|exact aop_ai (F := F) rfl rfl ha hq ha0|exact aop_ai (F := F) rfl rfl e4 hq hk0|exact aop_al (F := F) rfl ha0|exact aop_al (F := F) rfl hk0)|(apply Qw.wr;exact rfl;exact rfl;exact aop_as (F := F) rfl rfl ha0)|apply Qw.nil
      repeat' first|refine yaG ?_|((first|apply yG|apply yH|apply yI);exact rfl;(first|exact aop_ai (F := F) rfl rfl e4 (Array.size_setIfInBounds.trans hq) (by rw [Array.size_setIfInBounds];exact hk0)|exact aop_as (F := F) rfl rfl (by rw [Array.size_setIfInBounds];exact hk0)))|(exfalso;omega)|(refine yaS ?_ ?_<;>intro _)
      refine .call _ rfl rfl rfl cs ?_
      rintro r τ ⟨rfl, rfl⟩
      repeat' first|refine yaG ?_|(exfalso;omega)|(refine yaS ?_ ?_<;>intro _)
      exact Go.keep [0, 3, 8, 9, 12] (hrec k _ _ (by omega) ⟨k, _, _, rfl, by omega, by rw [wrap64 (by omega) (by omega)]; omega, (siftDown_len _ _ _ (Nat.le_refl _)).trans (swp_len.trans hq), hr, rfl, rfl⟩)
end Go.Proofs.YtdgnfdljkghpjaaGreat.Am

/- pdqsort's functions walked: the partial insertion sort. -/
set_option linter.unusedVariables false
set_option linter.unusedSimpArgs false
namespace Go.Proofs.YtdgnfdljkghpjaaGreat.Am
open Go.Sort (swp)

theorem shiftDown_size {α : Type} [Inhabited α] {lt : α → α → Bool} : ∀ (j : Nat) (d : Array α), (Go.Sort.shiftDown lt j d).size = d.size
  | 0, d => rfl
  | j + 1, d => by
    rw [Go.Sort.shiftDown]
    split
    · rfl
    · rw [shiftDown_size j, swp_len]
theorem shiftUp_size {α : Type} [Inhabited α] {lt : α → α → Bool} {b : Nat} : ∀ (n j : Nat) (d : Array α), b - j ≤ n → (Go.Sort.shiftUp lt b j d).size = d.size
  | 0, j, d, h => by rw [Go.Sort.shiftUp.eq_1, if_neg (by omega)]
  | n + 1, j, d, h => by
    rw [Go.Sort.shiftUp.eq_1]
    split
    · split
      · rfl
      · rw [shiftUp_size n _ _ (by omega), swp_len]
    · rfl
theorem fixDown_size {α : Type} [Inhabited α] {lt : α → α → Bool} {a i : Nat} {d : Array α} : (Go.Sort.fixDown lt a i d).size = d.size := by
  rw [Go.Sort.fixDown]
  split
  · exact shiftDown_size _ _
  · rfl
theorem fixUp_size {α : Type} [Inhabited α] {lt : α → α → Bool} {b i : Nat} {d : Array α} : (Go.Sort.fixUp lt b i d).size = d.size := by
  rw [Go.Sort.fixUp]
  split
  · exact shiftUp_size _ _ _ (Nat.le_refl _)
  · rfl
theorem partial_ok {P : Program} (hm : P.follows .mixedOrders = true) {fz : List Nat} {n : Nat} (hc : compFn P fz n = some c_slices_partialInsertionSortCmpFunc_Entry) {α : Type} [Inhabited α] (F : Fam α) (co : α → α → Int) (g : Nat) (pre cap : List Ce) (hcmp : CmpsA P F co g pre cap) (d : Array α) (N a b c : Nat) (za zb : Int) (ha : za = a) (hb : zb = b) (hN : d.size = N) (hab : a < b) (h3 : b ≤ N) (hx : N ≤ 34359738368) :
    Ok P n [.c (.sl F.id F.v 0 N c), .c (.int .i64 za), .c (.int .i64 zb), .c (.fn g pre cap)] (F.A d) (fun r τ => r = .c (.bool (Go.Sort.partialInsertionSort (lessA co) d a b).2) ∧ τ = F.A (Go.Sort.partialInsertionSort (lessA co) d a b).1) := by
  refine .of_go hm hc (Nat.le_of_ble_eq_true rfl) ?_
  rw [Go.Sort.partialInsertionSort]
  have e1 : IntKind.i64.wrap (za + 1) = ((a + 1 : Nat) : Int) := by rw [wrap64 (by omega) (by omega)]; omega
  have eba : IntKind.i64.wrap (zb - za) = ((b - a : Nat) : Int) := by rw [wrap64 (by omega) (by omega)]; omega
  repeat' first|refine yaG ?_|(exfalso;omega)|(refine yaS ?_ ?_<;>intro _)
  refine Go.keep [0, 1, 2, 3, 9, 10] (Go.loops (I := fun mm fr τ => ∃ (s i : Nat) (z zj : Int) (q : Array α), mm = s ∧ s ≤ 5 ∧ zj + s = 5 ∧ z = i ∧ a < i ∧ i ≤ b ∧ q.size = N ∧ Go.Sort.partialIns (lessA co) a b 5 (a + 1) d = Go.Sort.partialIns (lessA co) a b s i q ∧
    fr = [(0, .c (.sl F.id F.v 0 N c)), (1, .c (.int .i64 za)), (2, .c (.int .i64 zb)), (3, .c (.fn g pre cap)), (9, .c (.int .i64 z)), (10, .c (.int .i64 zj))] ∧ τ = F.A q) ?_ _ _ _ ⟨5, a + 1, _, _, d, rfl, Nat.le_refl _, rfl, e1, by omega, by omega, hN, rfl, rfl, rfl⟩)
  rintro mm fr τ ⟨s, i, z, zj, q, hmm, hs, hzj, hz, hai, hib, hq, hr, rfl, rfl⟩ hrec
  cases s with
  | zero =>
    repeat' first|refine yaG ?_|(exfalso;omega)|(refine yaS ?_ ?_<;>intro _)
    all_goals first
      | (exfalso; omega)
      | skip
    exact .ret rfl ⟨by rw [hr]; rfl, by rw [hr]; rfl⟩
  | succ s =>
    rw [Go.Sort.partialIns_succ a b s i q] at hr
    repeat' first|refine yaG ?_|(exfalso;omega)|(refine yaS ?_ ?_<;>intro _)
    all_goals first
      | (exfalso; omega)
      | skip
    refine Go.meet (K' := [_, _]) (fun fr τ => ∃ (k : Nat) (zk : Int), i ≤ k ∧ k ≤ b ∧ zk = k ∧ Go.Sort.scanSorted (lessA co) q b i = k ∧ fr = [(0, .c (.sl F.id F.v 0 N c)), (1, .c (.int .i64 za)), (2, .c (.int .i64 zb)), (3, .c (.fn g pre cap)), (9, .c (.int .i64 zk)), (10, .c (.int .i64 zj))] ∧ τ = F.A q) (fun K hmt => ?_) ?_
    · refine Go.keep [0, 1, 2, 3, 9, 10] (Go.loops (I := fun mm fr τ => ∃ (k : Nat) (zk : Int), mm = b - k ∧ i ≤ k ∧ k ≤ b ∧ zk = k ∧ Go.Sort.scanSorted (lessA co) q b i = Go.Sort.scanSorted (lessA co) q b k ∧
        fr = [(0, .c (.sl F.id F.v 0 N c)), (1, .c (.int .i64 za)), (2, .c (.int .i64 zb)), (3, .c (.fn g pre cap)), (9, .c (.int .i64 zk)), (10, .c (.int .i64 zj))] ∧ τ = F.A q) ?_ _ _ _ ⟨i, _, rfl, Nat.le_refl _, hib, hz, rfl, rfl, rfl⟩)
      clear hrec
      rintro mm fr τ ⟨k, zk, rfl, hik, hkb, hzk, hsc, rfl, rfl⟩ hrec
      rw [Go.Sort.scanSorted.eq_1 (lessA co) q b k] at hsc
      by_cases hlt : k < b
      · have hk1 : k < q.size := by omega
        have hk0 : k - 1 < q.size := by omega
        have ek : IntKind.i64.wrap (zk - 1) = ((k - 1 : Nat) : Int) := by rw [wrap64 (by omega) (by omega)]; omega
        have cc := hcmp.at q q[k]! q[k - 1]!
        rw [lessA] at hsc
        repeat' first|refine yaG ?_|((first|apply yG|apply yH|apply yI);exact rfl;(first|exact aop_ai (F := F) rfl rfl hzk hq hk1|exact aop_ai (F := F) rfl rfl ek hq hk0|exact aop_al (F := F) rfl hk1|exact aop_al (F := F) rfl hk0))|(exfalso;omega)|(refine yaS ?_ ?_<;>intro _)
        all_goals first
          | (exfalso; omega)
          | skip
        refine Go.scall _ rfl rfl rfl cc ?_
        rintro r τ ⟨rfl, rfl⟩
        generalize co q[k]! q[k - 1]! = o at hsc
        by_cases ho : o < 0
        · rw [if_neg (by simp [ho])] at hsc
          repeat' first|refine yaG ?_|(exfalso;omega)|(refine yaS ?_ ?_<;>intro _)
          all_goals first
            | (exfalso; omega)
            | (exfalso; rename_i hbad; rw [decide_eq_true ho] at hbad; cases hbad; done)
            | (exfalso; rename_i hbad; rw [decide_eq_false ho] at hbad; cases hbad; done)
            | skip
          exact Go.keep [0, 1, 2, 3, 9, 10] (hmt _ _ ⟨k, _, hik, hkb, hzk, hsc, rfl, rfl⟩)
        · rw [if_pos (by simp [ho, hlt])] at hsc
          repeat' first|refine yaG ?_|(exfalso;omega)|(refine yaS ?_ ?_<;>intro _)
          all_goals first
            | (exfalso; omega)
            | (exfalso; rename_i hbad; rw [decide_eq_true ho] at hbad; cases hbad; done)
            | (exfalso; rename_i hbad; rw [decide_eq_false ho] at hbad; cases hbad; done)
            | skip
          exact Go.keep [0, 1, 2, 3, 9, 10] (hrec _ _ _ (by omega) ⟨k + 1, _, rfl, by omega, by omega, wrap_succ hzk (by omega), hsc, rfl, rfl⟩)
      · rw [if_neg (by simp; omega)] at hsc
        repeat' first|refine yaG ?_|(exfalso;omega)|(refine yaS ?_ ?_<;>intro _)
        all_goals first
          | (exfalso; omega)
          | skip
        exact Go.keep [0, 1, 2, 3, 9, 10] (hmt _ _ ⟨k, _, hik, hkb, hzk, hsc, rfl, rfl⟩)
    · rintro fr τ ⟨k, zk, hik, hkb, hzk, hsc, rfl, rfl⟩
      rw [hsc] at hr
      by_cases hkb2 : k = b
      · rw [if_pos hkb2] at hr
        repeat' first|refine yaG ?_|(exfalso;omega)|(refine yaS ?_ ?_<;>intro _)
        all_goals first
          | (exfalso; omega)
          | skip
        exact .ret rfl ⟨by rw [hr], by rw [hr]⟩
      rw [if_neg hkb2] at hr
      by_cases h50 : b - a < 50
      · rw [if_pos h50] at hr
        repeat' first|refine yaG ?_|(exfalso;omega)|(refine yaS ?_ ?_<;>intro _)
        all_goals first
          | (exfalso; omega)
          | skip
        exact .ret rfl ⟨by rw [hr], by rw [hr]⟩
      rw [if_neg h50] at hr
      have hk1 : k < q.size := by omega
      have hk0 : k - 1 < q.size := by omega
      have ek : IntKind.i64.wrap (zk - 1) = ((k - 1 : Nat) : Int) := by rw [wrap64 (by omega) (by omega)]; omega
      have eka : IntKind.i64.wrap (zk - za) = ((k - a : Nat) : Int) := by rw [wrap64 (by omega) (by omega)]; omega
      have ebk : IntKind.i64.wrap (zb - zk) = ((b - k : Nat) : Int) := by rw [wrap64 (by omega) (by omega)]; omega
      repeat' first|(apply yA;exact rfl)|apply yC|((first|apply yD|apply yE);(first|exact yF|assumption);iterate 6 exact rfl)|((first|apply yG|apply yH|apply yI);exact rfl;(first|exact yJ|exact yK rfl rfl|exact yL rfl|exact yM rfl|exact rfl|exact aL rfl rfl rfl rfl rfl|exact aS rfl rfl rfl rfl rfl rfl rfl))|((first|apply yN|apply yO|apply yP);exact rfl)|(exfalso;omega)|(((first|apply yT|apply yU|apply yV|apply yW);exact rfl;(first|exact .d|exact .e|exact .n|((fail_if_success exact bqt);(fail_if_success exact bqf);exact .b)))<;>intro _)
      all_goals first
        | (exfalso; omega)
        | skip
      refine Go.qw (fun F' τ => Go P (F.A d).next _ _ _ (.segs _ :: _) F' τ) ?_ fun _ _ h => h
      repeat' first|(apply Qw.op;exact rfl;exact fun _ => rfl)|(apply Qw.rd;exact rfl;exact rfl;first|exact aop_ai (F := F) rfl rfl hzk hq hk1|exact aop_ai (F := F) rfl rfl ek hq hk0|exact aop_al (F := F) rfl hk1|exact aop_al (F := F) rfl hk0)|(apply Qw.wr;exact rfl;exact rfl;exact aop_as (F := F) rfl rfl hk1)|apply Qw.nil
      repeat' first|refine yaG ?_|((first|apply yG|apply yH|apply yI);exact rfl;(first|exact aop_ai (F := F) rfl rfl ek (Array.size_setIfInBounds.trans hq) (by rw [Array.size_setIfInBounds];exact hk0)|exact aop_as (F := F) rfl rfl (by rw [Array.size_setIfInBounds];exact hk0)))
      have hq1 : (swp q k (k - 1)).size = N := swp_len.trans hq
      clear hk1 hk0 hsc
      rw [swp_is]
      generalize swp q k (k - 1) = q1 at hq1 hr ⊢
      clear hq
      refine Go.meet (K' := [_]) (fun fr τ => fr = [(0, .c (.sl F.id F.v 0 N c)), (1, .c (.int .i64 za)), (2, .c (.int .i64 zb)), (3, .c (.fn g pre cap)), (9, .c (.int .i64 zk)), (10, .c (.int .i64 zj))] ∧ τ = F.A (Go.Sort.fixDown (lessA co) a k q1)) (fun K hmt => ?_) ?_
      · clear hrec hr
        rw [Go.Sort.fixDown] at hmt
        by_cases h2 : k - a ≥ 2
        · rw [if_pos h2] at hmt
          repeat' first|refine yaG ?_|(exfalso;omega)|(refine yaS ?_ ?_<;>intro _)
          all_goals first
            | (exfalso; omega)
            | skip
          refine Go.keep [0, 1, 2, 3, 9, 10, 11] (Go.loops (I := fun mm fr τ => ∃ (j : Nat) (zi : Int) (u : Array α), mm = j ∧ j ≤ k ∧ zi = j ∧ u.size = N ∧ Go.Sort.shiftDown (lessA co) (k - 1) q1 = Go.Sort.shiftDown (lessA co) j u ∧
            fr = [(0, .c (.sl F.id F.v 0 N c)), (1, .c (.int .i64 za)), (2, .c (.int .i64 zb)), (3, .c (.fn g pre cap)), (9, .c (.int .i64 zk)), (10, .c (.int .i64 zj)), (11, .c (.int .i64 zi))] ∧ τ = F.A u) ?_ _ _ _ ⟨k - 1, _, q1, rfl, by omega, ek, hq1, rfl, rfl, rfl⟩)
          rintro mm fr τ ⟨j, zi, u, hmm, hjk, hzi, hu, hsd, rfl, rfl⟩ hrec
          cases j with
          | zero =>
            repeat' first|refine yaG ?_|(exfalso;omega)|(refine yaS ?_ ?_<;>intro _)
            all_goals first
              | (exfalso; omega)
              | skip
            exact Go.keep [0, 1, 2, 3, 9, 10] (hmt _ _ ⟨rfl, by rw [hsd]; rfl⟩)
          | succ j =>
            rw [Go.Sort.shiftDown] at hsd
            have hj1 : j + 1 < u.size := by omega
            have hj0 : j < u.size := by omega
            have ej : IntKind.i64.wrap (zi - 1) = (j : Int) := by rw [wrap64 (by omega) (by omega)]; omega
            have cc := hcmp.at u u[j + 1]! u[j]!
            rw [lessA] at hsd
            repeat' first|refine yaG ?_|((first|apply yG|apply yH|apply yI);exact rfl;(first|exact aop_ai (F := F) rfl rfl hzi hu hj1|exact aop_ai (F := F) rfl rfl ej hu hj0|exact aop_al (F := F) rfl hj1|exact aop_al (F := F) rfl hj0))|(exfalso;omega)|(refine yaS ?_ ?_<;>intro _)
            all_goals first
              | (exfalso; omega)
              | skip
            refine Go.scall _ rfl rfl rfl cc ?_
            rintro r τ ⟨rfl, rfl⟩
            generalize co u[j + 1]! u[j]! = o at hsd
            by_cases ho : o < 0
            · rw [if_neg (by simp [ho])] at hsd
              repeat' first|(apply yA;exact rfl)|apply yC|((first|apply yD|apply yE);(first|exact yF|assumption);iterate 6 exact rfl)|((first|apply yG|apply yH|apply yI);exact rfl;(first|exact yJ|exact yK rfl rfl|exact yL rfl|exact yM rfl|exact rfl|exact aL rfl rfl rfl rfl rfl|exact aS rfl rfl rfl rfl rfl rfl rfl))|((first|apply yN|apply yO|apply yP);exact rfl)|(exfalso;omega)|(((first|apply yT|apply yU|apply yV|apply yW);exact rfl;(first|exact .d|exact .e|exact .n|((fail_if_success exact bqt);(fail_if_success exact bqf);exact .b)))<;>intro _)
              all_goals first
                | (exfalso; omega)
                | (exfalso; rename_i hbad; rw [decide_eq_true ho] at hbad; cases hbad; done)
                | (exfalso; rename_i hbad; rw [decide_eq_false ho] at hbad; cases hbad; done)
                | skip
              refine Go.qw (fun F' τ => Go P (F.A d).next _ _ _ (.segs _ :: _) F' τ) ?_ fun _ _ h => h
              repeat' first|(apply Qw.op;exact rfl;exact fun _ => rfl)|(apply Qw.rd;exact rfl;exact rfl;first|exact aop_ai (F := F) rfl rfl hzi hu hj1|exact aop_ai (F := F) rfl rfl ej hu hj0|exact aop_al (F := F) rfl hj1|exact aop_al (F := F) rfl hj0)|(apply Qw.wr;exact rfl;exact rfl;exact aop_as (F := F) rfl rfl hj1)|apply Qw.nil
              repeat' first|refine yaG ?_|((first|apply yG|apply yH|apply yI);exact rfl;(first|exact aop_ai (F := F) rfl rfl ej (Array.size_setIfInBounds.trans hu) (by rw [Array.size_setIfInBounds];exact hj0)|exact aop_as (F := F) rfl rfl (by rw [Array.size_setIfInBounds];exact hj0)))|(exfalso;omega)|(refine yaS ?_ ?_<;>intro _)
              exact Go.keep [0, 1, 2, 3, 9, 10, 11] (hrec j _ _ (by omega) ⟨j, _, swp u (j + 1) j, rfl, by omega, ej, swp_len.trans hu, hsd, rfl, rfl⟩)
            · rw [if_pos (by simp [ho])] at hsd
              repeat' first|refine yaG ?_|(exfalso;omega)|(refine yaS ?_ ?_<;>intro _)
              all_goals first
                | (exfalso; omega)
                | (exfalso; rename_i hbad; rw [decide_eq_true ho] at hbad; cases hbad; done)
                | (exfalso; rename_i hbad; rw [decide_eq_false ho] at hbad; cases hbad; done)
                | skip
              exact Go.keep [0, 1, 2, 3, 9, 10] (hmt _ _ ⟨rfl, by rw [hsd]⟩)
        · rw [if_neg h2] at hmt
          repeat' first|refine yaG ?_|(exfalso;omega)|(refine yaS ?_ ?_<;>intro _)
          all_goals first
            | (exfalso; omega)
            | skip
          exact Go.keep [0, 1, 2, 3, 9, 10] (hmt _ _ ⟨rfl, rfl⟩)
      · rintro fr τ ⟨rfl, rfl⟩
        have hq2 : (Go.Sort.fixDown (lessA co) a k q1).size = N := fixDown_size.trans hq1
        generalize Go.Sort.fixDown (lessA co) a k q1 = q2 at hq2 hr ⊢
        have hq3 : (Go.Sort.fixUp (lessA co) b k q2).size = N := fixUp_size.trans hq2
        have fin : ∀ fr τ, fr = [(0, AV.c (.sl F.id F.v 0 N c)), (1, .c (.int .i64 za)), (2, .c (.int .i64 zb)), (3, .c (.fn g pre cap)), (9, .c (.int .i64 zk)), (10, .c (.int .i64 (IntKind.i64.wrap (zj + 1))))] → τ = F.A (Go.Sort.fixUp (lessA co) b k q2) → _ := fun fr τ p1 p2 => hrec s fr τ (by omega) ⟨s, k, _, _, _, rfl, by omega, by rw [wrap64 (by omega) (by omega)]; omega, hzk, by omega, hkb, hq3, hr, p1, p2⟩
        clear hrec hr
        rw [Go.Sort.fixUp] at fin
        by_cases h2 : b - k ≥ 2
        · rw [if_pos h2] at fin
          have ek1 : IntKind.i64.wrap (zk + 1) = ((k + 1 : Nat) : Int) := by rw [wrap64 (by omega) (by omega)]; omega
          repeat' first|refine yaG ?_|(exfalso;omega)|(refine yaS ?_ ?_<;>intro _)
          all_goals first
            | (exfalso; omega)
            | skip
          refine Go.keep [0, 1, 2, 3, 9, 10, 12] (Go.loops (I := fun mm fr τ => ∃ (j : Nat) (zi : Int) (u : Array α), mm = b - j ∧ k < j ∧ j ≤ b ∧ zi = j ∧ u.size = N ∧ Go.Sort.shiftUp (lessA co) b (k + 1) q2 = Go.Sort.shiftUp (lessA co) b j u ∧
            fr = [(0, .c (.sl F.id F.v 0 N c)), (1, .c (.int .i64 za)), (2, .c (.int .i64 zb)), (3, .c (.fn g pre cap)), (9, .c (.int .i64 zk)), (10, .c (.int .i64 zj)), (12, .c (.int .i64 zi))] ∧ τ = F.A u) ?_ _ _ _ ⟨k + 1, _, q2, rfl, by omega, by omega, ek1, hq2, rfl, rfl, rfl⟩)
          rintro mm fr τ ⟨j, zi, u, rfl, hkj, hjb, hzi, hu, hsu, rfl, rfl⟩ hrec
          rw [Go.Sort.shiftUp.eq_1 (lessA co) b j u] at hsu
          by_cases hlt : j < b
          · rw [if_pos hlt] at hsu
            have hj1 : j < u.size := by omega
            have hj0 : j - 1 < u.size := by omega
            have ej : IntKind.i64.wrap (zi - 1) = ((j - 1 : Nat) : Int) := by rw [wrap64 (by omega) (by omega)]; omega
            have cc := hcmp.at u u[j]! u[j - 1]!
            rw [lessA] at hsu
            repeat' first|refine yaG ?_|((first|apply yG|apply yH|apply yI);exact rfl;(first|exact aop_ai (F := F) rfl rfl hzi hu hj1|exact aop_ai (F := F) rfl rfl ej hu hj0|exact aop_al (F := F) rfl hj1|exact aop_al (F := F) rfl hj0))|(exfalso;omega)|(refine yaS ?_ ?_<;>intro _)
            all_goals first
              | (exfalso; omega)
              | skip
            refine Go.scall _ rfl rfl rfl cc ?_
            rintro r τ ⟨rfl, rfl⟩
            generalize co u[j]! u[j - 1]! = o at hsu
            by_cases ho : o < 0
            · rw [if_neg (by simp [ho])] at hsu
              repeat' first|(apply yA;exact rfl)|apply yC|((first|apply yD|apply yE);(first|exact yF|assumption);iterate 6 exact rfl)|((first|apply yG|apply yH|apply yI);exact rfl;(first|exact yJ|exact yK rfl rfl|exact yL rfl|exact yM rfl|exact rfl|exact aL rfl rfl rfl rfl rfl|exact aS rfl rfl rfl rfl rfl rfl rfl))|((first|apply yN|apply yO|apply yP);exact rfl)|(exfalso;omega)|(((first|apply yT|apply yU|apply yV|apply yW);exact rfl;(first|exact .d|exact .e|exact .n|((fail_if_success exact bqt);(fail_if_success exact bqf);exact .b)))<;>intro _)
              all_goals first
                | (exfalso; omega)
                | (exfalso; rename_i hbad; rw [decide_eq_true ho] at hbad; cases hbad; done)
                | (exfalso; rename_i hbad; rw [decide_eq_false ho] at hbad; cases hbad; done)
                | skip
              refine Go.qw (fun F' τ => Go P (F.A d).next _ _ _ (.segs _ :: _) F' τ) ?_ fun _ _ h => h
              repeat' first|(apply Qw.op;exact rfl;exact fun _ => rfl)|(apply Qw.rd;exact rfl;exact rfl;first|exact aop_ai (F := F) rfl rfl hzi hu hj1|exact aop_ai (F := F) rfl rfl ej hu hj0|exact aop_al (F := F) rfl hj1|exact aop_al (F := F) rfl hj0)|(apply Qw.wr;exact rfl;exact rfl;exact aop_as (F := F) rfl rfl hj1)|apply Qw.nil
              repeat' first|refine yaG ?_|((first|apply yG|apply yH|apply yI);exact rfl;(first|exact aop_ai (F := F) rfl rfl ej (Array.size_setIfInBounds.trans hu) (by rw [Array.size_setIfInBounds];exact hj0)|exact aop_as (F := F) rfl rfl (by rw [Array.size_setIfInBounds];exact hj0)))|(exfalso;omega)|(refine yaS ?_ ?_<;>intro _)
              exact Go.keep [0, 1, 2, 3, 9, 10, 12] (hrec _ _ _ (by omega) ⟨j + 1, _, swp u j (j - 1), rfl, by omega, by omega, wrap_succ hzi (by omega), swp_len.trans hu, hsu, rfl, rfl⟩)
            · rw [if_pos (by simp [ho])] at hsu
              repeat' first|refine yaG ?_|(exfalso;omega)|(refine yaS ?_ ?_<;>intro _)
              all_goals first
                | (exfalso; omega)
                | (exfalso; rename_i hbad; rw [decide_eq_true ho] at hbad; cases hbad; done)
                | (exfalso; rename_i hbad; rw [decide_eq_false ho] at hbad; cases hbad; done)
                | skip
              exact Go.keep [0, 1, 2, 3, 9, 10] (fin _ _ rfl (by rw [hsu]))
          · rw [if_neg hlt] at hsu
            repeat' first|refine yaG ?_|(exfalso;omega)|(refine yaS ?_ ?_<;>intro _)
            all_goals first
              | (exfalso; omega)
              | skip
            exact Go.keep [0, 1, 2, 3, 9, 10] (fin _ _ rfl (by rw [hsu]))
        · rw [if_neg h2] at fin
          repeat' first|refine yaG ?_|(exfalso;omega)|(refine yaS ?_ ?_<;>intro _)
          all_goals first
            | (exfalso; omega)
            | skip
          exact Go.keep [0, 1, 2, 3, 9, 10] (fin _ _ rfl rfl)
end Go.Proofs.YtdgnfdljkghpjaaGreat.Am

/- pdqsort's functions walked: the partitions. -/
set_option linter.unusedVariables false
set_option linter.unusedSimpArgs false
namespace Go.Proofs.YtdgnfdljkghpjaaGreat.Am
open Go.Sort (swp)

theorem partEqual_ok {P : Program} (hm : P.follows .mixedOrders = true) {fz : List Nat} {n : Nat} (hc : compFn P fz n = some c_slices_partitionEqualCmpFunc_Entry) {α : Type} [Inhabited α] (F : Fam α) (co : α → α → Int) (g : Nat) (pre cap : List Ce) (hcmp : CmpsA P F co g pre cap) (d : Array α) (N a b pv c : Nat) (za zb zp : Int) (ha : za = a) (hb : zb = b) (hpv : zp = pv) (hN : d.size = N) (hab : a < b) (hp1 : pv < b) (h3 : b ≤ N) (hx : N ≤ 34359738368) :
    Ok P n [.c (.sl F.id F.v 0 N c), .c (.int .i64 za), .c (.int .i64 zb), .c (.int .i64 zp), .c (.fn g pre cap)] (F.A d) (fun r τ => r = .c (.int .i64 ((Go.Sort.partitionEqual (lessA co) d a b pv).1 : Nat)) ∧ τ = F.A (Go.Sort.partitionEqual (lessA co) d a b pv).2) := by
  refine .of_go hm hc (Nat.le_of_ble_eq_true rfl) ?_
  rw [Go.Sort.partitionEqual]
  have haq : a < d.size := by omega
  have hpq : pv < d.size := by omega
  have e1 : IntKind.i64.wrap (za + 1) = ((a + 1 : Nat) : Int) := by rw [wrap64 (by omega) (by omega)]; omega
  have e2 : IntKind.i64.wrap (zb - 1) = ((b - 1 : Nat) : Int) := by rw [wrap64 (by omega) (by omega)]; omega
  repeat' first|(apply yA;exact rfl)|apply yC|((first|apply yD|apply yE);(first|exact yF|assumption);iterate 6 exact rfl)|((first|apply yG|apply yH|apply yI);exact rfl;(first|exact yJ|exact yK rfl rfl|exact yL rfl|exact yM rfl|exact rfl|exact aL rfl rfl rfl rfl rfl|exact aS rfl rfl rfl rfl rfl rfl rfl))|((first|apply yN|apply yO|apply yP);exact rfl)|(exfalso;omega)|(((first|apply yT|apply yU|apply yV|apply yW);exact rfl;(first|exact .d|exact .e|exact .n|((fail_if_success exact bqt);(fail_if_success exact bqf);exact .b)))<;>intro _)
  refine Go.qw (fun F' τ => Go P (F.A d).next _ _ _ (.segs _ :: _) F' τ) ?_ fun _ _ h => h
  repeat' first|(apply Qw.op;exact rfl;exact fun _ => rfl)|(apply Qw.rd;exact rfl;exact rfl;first|exact aop_ai (F := F) rfl rfl ha hN haq|exact aop_ai (F := F) rfl rfl hpv hN hpq|exact aop_al (F := F) rfl haq|exact aop_al (F := F) rfl hpq)|(apply Qw.wr;exact rfl;exact rfl;exact aop_as (F := F) rfl rfl haq)|apply Qw.nil
  repeat' first|refine yaG ?_|((first|apply yG|apply yH|apply yI);exact rfl;(first|exact aop_ai (F := F) rfl rfl hpv (Array.size_setIfInBounds.trans hN) (by rw [Array.size_setIfInBounds];exact hpq)|exact aop_as (F := F) rfl rfl (by rw [Array.size_setIfInBounds];exact hpq)))|(exfalso;omega)|(refine yaS ?_ ?_<;>intro _)
  rw [swp_is]
  have hB : (swp d a pv).size = N := swp_len.trans hN
  obtain ⟨R0, hR0⟩ : ∃ R, R = Go.Sort.partEqLoop (lessA co) a (a + 1) (b - 1) (swp d a pv) := ⟨_, rfl⟩
  rw [← hR0]
  generalize swp d a pv = B at hB hR0 ⊢
  refine Go.keep [0, 1, 4, 11, 12] (Go.loops (I := fun mm fr τ => ∃ (i j : Nat) (zi zj : Int) (q : Array α), mm = j + 1 - i ∧ a < i ∧ i ≤ j + 1 ∧ j < b ∧ zi = i ∧ zj = j ∧ q.size = N ∧ R0 = Go.Sort.partEqLoop (lessA co) a i j q ∧
    fr = [(0, .c (.sl F.id F.v 0 N c)), (1, .c (.int .i64 za)), (4, .c (.fn g pre cap)), (11, .c (.int .i64 zi)), (12, .c (.int .i64 zj))] ∧ τ = F.A q) ?_ _ _ _ ⟨a + 1, b - 1, _, _, B, rfl, by omega, by omega, by omega, e1, e2, hB, hR0, rfl, rfl⟩)
  clear hR0 hB e1 e2 haq hpq
  rintro mm fr τ ⟨i, j, zi, zj, q, rfl, hai, hij, hjb, hzi, hzj, hq, hr, rfl, rfl⟩ hrec
  rw [Go.Sort.partEqLoop_eq] at hr
  obtain ⟨p, hp0⟩ : ∃ p : α → Bool, p = fun x => !lessA co q[a]! x := ⟨_, rfl⟩
  obtain ⟨p2, hp20⟩ : ∃ p : α → Bool, p = fun x => lessA co q[a]! x := ⟨_, rfl⟩
  rw [← hp0, ← hp20] at hr
  have hp : ∀ x, p x = !decide (co q[a]! x < 0) := fun x => by rw [hp0]; rfl
  have hp2 : ∀ x, p2 x = decide (co q[a]! x < 0) := fun x => by rw [hp20]; rfl
  clear hp0 hp20
  repeat' first|refine yaG ?_|(exfalso;omega)|(refine yaS ?_ ?_<;>intro _)
  refine Go.meet (K' := [_, _]) (fun fr τ => ∃ (k : Nat) (zk : Int), i ≤ k ∧ k ≤ j + 1 ∧ zk = k ∧ Go.Sort.scanUp p q j i = k ∧ fr = [(0, .c (.sl F.id F.v 0 N c)), (1, .c (.int .i64 za)), (4, .c (.fn g pre cap)), (11, .c (.int .i64 zk)), (12, .c (.int .i64 zj))] ∧ τ = F.A q) (fun K hmt => ?_) ?_
  · refine Go.keep [0, 1, 4, 11, 12] (Go.loops (I := fun mm fr τ => ∃ (k : Nat) (zk : Int), mm = j + 1 - k ∧ i ≤ k ∧ k ≤ j + 1 ∧ zk = k ∧ Go.Sort.scanUp p q j i = Go.Sort.scanUp p q j k ∧
        fr = [(0, .c (.sl F.id F.v 0 N c)), (1, .c (.int .i64 za)), (4, .c (.fn g pre cap)), (11, .c (.int .i64 zk)), (12, .c (.int .i64 zj))] ∧ τ = F.A q) ?_ _ _ _ ⟨i, _, rfl, by omega, by omega, hzi, rfl, rfl, rfl⟩)
    clear hrec
    rintro mm fr τ ⟨k, zk, rfl, hk1, hk2, hzk, hsc, rfl, rfl⟩ hrec
    rw [Go.Sort.scanUp.eq_1 p q j k] at hsc
    by_cases hlt : k ≤ j
    · have hkq : k < q.size := by omega
      have haq : a < q.size := by omega
      have hpk := hp q[k]!
      have cc := hcmp.at q q[a]! q[k]!
      generalize co q[a]! q[k]! = o at cc hpk
      rw [hpk] at hsc
      repeat' first|refine yaG ?_|((first|apply yG|apply yH|apply yI);exact rfl;(first|exact aop_ai (F := F) rfl rfl hzk hq hkq|exact aop_ai (F := F) rfl rfl ha hq haq|exact aop_al (F := F) rfl hkq|exact aop_al (F := F) rfl haq))|(exfalso;omega)|(refine yaS ?_ ?_<;>intro _)
      all_goals first
        | (exfalso; omega)
        | skip
      refine Go.scall _ rfl rfl rfl cc ?_
      rintro r τ ⟨rfl, rfl⟩
      by_cases ho : o < 0
      · rw [if_neg (by simp [ho])] at hsc
        repeat' first|refine yaG ?_|(exfalso;omega)|(refine yaS ?_ ?_<;>intro _)
        all_goals first
          | (exfalso; omega)
          | (exfalso; rename_i hbad; rw [decide_eq_true ho] at hbad; cases hbad; done)
          | (exfalso; rename_i hbad; rw [decide_eq_false ho] at hbad; cases hbad; done)
          | skip
        exact Go.keep [0, 1, 4, 11, 12] (hmt _ _ ⟨k, _, by omega, by omega, hzk, hsc, rfl, rfl⟩)
      · rw [if_pos (by simp [ho]; omega)] at hsc
        repeat' first|refine yaG ?_|(exfalso;omega)|(refine yaS ?_ ?_<;>intro _)
        all_goals first
          | (exfalso; omega)
          | (exfalso; rename_i hbad; rw [decide_eq_true ho] at hbad; cases hbad; done)
          | (exfalso; rename_i hbad; rw [decide_eq_false ho] at hbad; cases hbad; done)
          | skip
        exact Go.keep [0, 1, 4, 11, 12] (hrec _ _ _ (by omega) ⟨k + 1, _, rfl, by omega, by omega, wrap_succ hzk (by omega), hsc, rfl, rfl⟩)
    · rw [if_neg (by simp; omega)] at hsc
      repeat' first|refine yaG ?_|(exfalso;omega)|(refine yaS ?_ ?_<;>intro _)
      all_goals first
        | (exfalso; omega)
        | skip
      exact Go.keep [0, 1, 4, 11, 12] (hmt _ _ ⟨k, _, by omega, by omega, hzk, hsc, rfl, rfl⟩)
  · rintro fr τ ⟨i2, zi2, hk1, hk2, hzi2, hsc, rfl, rfl⟩
    rw [hsc] at hr
    have hsu := (Go.Sort.scanUp_spec p q j _ i rfl).2.2.2
    rw [hsc] at hsu
    clear hsc
    repeat' first|refine yaG ?_|(exfalso;omega)|(refine yaS ?_ ?_<;>intro _)
    refine Go.meet (K' := [_, _]) (fun fr τ => ∃ (k : Nat) (zk : Int), k ≤ j ∧ i2 ≤ k + 1 ∧ zk = k ∧ Go.Sort.scanDown p2 q i2 j = k ∧ fr = [(0, .c (.sl F.id F.v 0 N c)), (1, .c (.int .i64 za)), (4, .c (.fn g pre cap)), (11, .c (.int .i64 zi2)), (12, .c (.int .i64 zk))] ∧ τ = F.A q) (fun K hmt => ?_) ?_
    · refine Go.keep [0, 1, 4, 11, 12] (Go.loops (I := fun mm fr τ => ∃ (k : Nat) (zk : Int), mm = k ∧ k ≤ j ∧ i2 ≤ k + 1 ∧ zk = k ∧ Go.Sort.scanDown p2 q i2 j = Go.Sort.scanDown p2 q i2 k ∧
          fr = [(0, .c (.sl F.id F.v 0 N c)), (1, .c (.int .i64 za)), (4, .c (.fn g pre cap)), (11, .c (.int .i64 zi2)), (12, .c (.int .i64 zk))] ∧ τ = F.A q) ?_ _ _ _ ⟨j, _, rfl, by omega, by omega, hzj, rfl, rfl, rfl⟩)
      clear hrec
      rintro mm fr τ ⟨k, zk, hmm, hk1, hk2, hzk, hsc, rfl, rfl⟩ hrec
      cases k with
      | zero =>
        rw [Go.Sort.scanDown] at hsc
        repeat' first|refine yaG ?_|(exfalso;omega)|(refine yaS ?_ ?_<;>intro _)
        all_goals first
          | (exfalso; omega)
          | skip
        exact Go.keep [0, 1, 4, 11, 12] (hmt _ _ ⟨0, _, by omega, by omega, hzk, hsc, rfl, rfl⟩)
      | succ k =>
        rw [Go.Sort.scanDown] at hsc
        by_cases hlt : i2 ≤ k + 1
        · have hkq : (k + 1) < q.size := by omega
          have haq : a < q.size := by omega
          have hpk := hp2 q[(k + 1)]!
          have cc := hcmp.at q q[a]! q[(k + 1)]!
          generalize co q[a]! q[(k + 1)]! = o at cc hpk
          rw [hpk] at hsc
          repeat' first|refine yaG ?_|((first|apply yG|apply yH|apply yI);exact rfl;(first|exact aop_ai (F := F) rfl rfl hzk hq hkq|exact aop_ai (F := F) rfl rfl ha hq haq|exact aop_al (F := F) rfl hkq|exact aop_al (F := F) rfl haq))|(exfalso;omega)|(refine yaS ?_ ?_<;>intro _)
          all_goals first
            | (exfalso; omega)
            | skip
          refine Go.scall _ rfl rfl rfl cc ?_
          rintro r τ ⟨rfl, rfl⟩
          by_cases ho : o < 0
          · rw [if_pos (by simp [ho]; omega)] at hsc
            repeat' first|refine yaG ?_|(exfalso;omega)|(refine yaS ?_ ?_<;>intro _)
            all_goals first
              | (exfalso; omega)
              | (exfalso; rename_i hbad; rw [decide_eq_true ho] at hbad; cases hbad; done)
              | (exfalso; rename_i hbad; rw [decide_eq_false ho] at hbad; cases hbad; done)
              | skip
            exact Go.keep [0, 1, 4, 11, 12] (hrec k _ _ (by omega) ⟨k, _, rfl, by omega, by omega, by rw [wrap64 (by omega) (by omega)]; omega, hsc, rfl, rfl⟩)
          · rw [if_neg (by simp [ho])] at hsc
            repeat' first|refine yaG ?_|(exfalso;omega)|(refine yaS ?_ ?_<;>intro _)
            all_goals first
              | (exfalso; omega)
              | (exfalso; rename_i hbad; rw [decide_eq_true ho] at hbad; cases hbad; done)
              | (exfalso; rename_i hbad; rw [decide_eq_false ho] at hbad; cases hbad; done)
              | skip
            exact Go.keep [0, 1, 4, 11, 12] (hmt _ _ ⟨k + 1, _, by omega, by omega, hzk, hsc, rfl, rfl⟩)
        · rw [if_neg (by simp; omega)] at hsc
          repeat' first|refine yaG ?_|(exfalso;omega)|(refine yaS ?_ ?_<;>intro _)
          all_goals first
            | (exfalso; omega)
            | skip
          exact Go.keep [0, 1, 4, 11, 12] (hmt _ _ ⟨k + 1, _, by omega, by omega, hzk, hsc, rfl, rfl⟩)
    · rintro fr τ ⟨j2, zj2, hk3, hk4, hzj2, hsc, rfl, rfl⟩
      rw [hsc] at hr
      have hne : i2 ≠ j2 := by
        rintro rfl
        have hsd := (Go.Sort.scanDown_spec p2 q i2 j).2.2.2
        rw [hsc] at hsd
        have h1 := hsu (by omega)
        have h2 := hsd (Nat.le_refl _) (by omega)
        rw [hp] at h1
        rw [hp2] at h2
        rw [h2] at h1
        cases h1
      by_cases hgt : i2 > j2
      · rw [if_pos hgt] at hr
        repeat' first|refine yaG ?_|(exfalso;omega)|(refine yaS ?_ ?_<;>intro _)
        all_goals first
          | (exfalso; omega)
          | skip
        exact .ret rfl ⟨by rw [hr, hzi2], by rw [hr]⟩
      · rw [if_neg hgt] at hr
        have hiq : i2 < q.size := by omega
        have hjq : j2 < q.size := by omega
        repeat' first|(apply yA;exact rfl)|apply yC|((first|apply yD|apply yE);(first|exact yF|assumption);iterate 6 exact rfl)|((first|apply yG|apply yH|apply yI);exact rfl;(first|exact yJ|exact yK rfl rfl|exact yL rfl|exact yM rfl|exact rfl|exact aL rfl rfl rfl rfl rfl|exact aS rfl rfl rfl rfl rfl rfl rfl))|((first|apply yN|apply yO|apply yP);exact rfl)|(exfalso;omega)|(((first|apply yT|apply yU|apply yV|apply yW);exact rfl;(first|exact .d|exact .e|exact .n|((fail_if_success exact bqt);(fail_if_success exact bqf);exact .b)))<;>intro _)
        all_goals first
          | (exfalso; omega)
          | skip
        refine Go.qw (fun F' τ => Go P (F.A d).next _ _ _ (.segs _ :: _) F' τ) ?_ fun _ _ h => h
        repeat' first|(apply Qw.op;exact rfl;exact fun _ => rfl)|(apply Qw.rd;exact rfl;exact rfl;first|exact aop_ai (F := F) rfl rfl hzi2 hq hiq|exact aop_ai (F := F) rfl rfl hzj2 hq hjq|exact aop_al (F := F) rfl hiq|exact aop_al (F := F) rfl hjq)|(apply Qw.wr;exact rfl;exact rfl;exact aop_as (F := F) rfl rfl hiq)|apply Qw.nil
        repeat' first|refine yaG ?_|((first|apply yG|apply yH|apply yI);exact rfl;(first|exact aop_ai (F := F) rfl rfl hzj2 (Array.size_setIfInBounds.trans hq) (by rw [Array.size_setIfInBounds];exact hjq)|exact aop_as (F := F) rfl rfl (by rw [Array.size_setIfInBounds];exact hjq)))|(exfalso;omega)|(refine yaS ?_ ?_<;>intro _)
        refine Go.keep [0, 1, 4, 11, 12] (hrec _ _ _ ?_ ⟨i2 + 1, j2 - 1, _, _, swp q i2 j2, rfl, by omega, by omega, by omega, wrap_succ hzi2 (by omega), by rw [wrap64 (by omega) (by omega)]; omega, swp_len.trans hq, hr, rfl, rfl⟩)
        omega
theorem partition_eqA {α : Type} [Inhabited α] (lt : α → α → Bool) (d : Array α) (a b pv : Nat) : Go.Sort.partition lt d a b pv =
    if Go.Sort.scanUp (fun x => lt x (swp d a pv)[a]!) (swp d a pv) (b - 1) (a + 1) > Go.Sort.scanDown (fun x => !lt x (swp d a pv)[a]!) (swp d a pv) (Go.Sort.scanUp (fun x => lt x (swp d a pv)[a]!) (swp d a pv) (b - 1) (a + 1)) (b - 1) then
      (Go.Sort.scanDown (fun x => !lt x (swp d a pv)[a]!) (swp d a pv) (Go.Sort.scanUp (fun x => lt x (swp d a pv)[a]!) (swp d a pv) (b - 1) (a + 1)) (b - 1), true, swp (swp d a pv) (Go.Sort.scanDown (fun x => !lt x (swp d a pv)[a]!) (swp d a pv) (Go.Sort.scanUp (fun x => lt x (swp d a pv)[a]!) (swp d a pv) (b - 1) (a + 1)) (b - 1)) a)
    else
      ((Go.Sort.partLoop lt a (Go.Sort.scanUp (fun x => lt x (swp d a pv)[a]!) (swp d a pv) (b - 1) (a + 1) + 1) (Go.Sort.scanDown (fun x => !lt x (swp d a pv)[a]!) (swp d a pv) (Go.Sort.scanUp (fun x => lt x (swp d a pv)[a]!) (swp d a pv) (b - 1) (a + 1)) (b - 1) - 1) (swp (swp d a pv) (Go.Sort.scanUp (fun x => lt x (swp d a pv)[a]!) (swp d a pv) (b - 1) (a + 1)) (Go.Sort.scanDown (fun x => !lt x (swp d a pv)[a]!) (swp d a pv) (Go.Sort.scanUp (fun x => lt x (swp d a pv)[a]!) (swp d a pv) (b - 1) (a + 1)) (b - 1)))).1, false,
        swp (Go.Sort.partLoop lt a (Go.Sort.scanUp (fun x => lt x (swp d a pv)[a]!) (swp d a pv) (b - 1) (a + 1) + 1) (Go.Sort.scanDown (fun x => !lt x (swp d a pv)[a]!) (swp d a pv) (Go.Sort.scanUp (fun x => lt x (swp d a pv)[a]!) (swp d a pv) (b - 1) (a + 1)) (b - 1) - 1) (swp (swp d a pv) (Go.Sort.scanUp (fun x => lt x (swp d a pv)[a]!) (swp d a pv) (b - 1) (a + 1)) (Go.Sort.scanDown (fun x => !lt x (swp d a pv)[a]!) (swp d a pv) (Go.Sort.scanUp (fun x => lt x (swp d a pv)[a]!) (swp d a pv) (b - 1) (a + 1)) (b - 1)))).2 (Go.Sort.partLoop lt a (Go.Sort.scanUp (fun x => lt x (swp d a pv)[a]!) (swp d a pv) (b - 1) (a + 1) + 1) (Go.Sort.scanDown (fun x => !lt x (swp d a pv)[a]!) (swp d a pv) (Go.Sort.scanUp (fun x => lt x (swp d a pv)[a]!) (swp d a pv) (b - 1) (a + 1)) (b - 1) - 1) (swp (swp d a pv) (Go.Sort.scanUp (fun x => lt x (swp d a pv)[a]!) (swp d a pv) (b - 1) (a + 1)) (Go.Sort.scanDown (fun x => !lt x (swp d a pv)[a]!) (swp d a pv) (Go.Sort.scanUp (fun x => lt x (swp d a pv)[a]!) (swp d a pv) (b - 1) (a + 1)) (b - 1)))).1 a) := rfl
theorem partition_ok {P : Program} (hm : P.follows .mixedOrders = true) {fz : List Nat} {n : Nat} (hc : compFn P fz n = some c_slices_partitionCmpFunc_Entry) {α : Type} [Inhabited α] (F : Fam α) (co : α → α → Int) (g : Nat) (pre cap : List Ce) (hcmp : CmpsA P F co g pre cap) (d : Array α) (N a b pv c : Nat) (za zb zp : Int) (ha : za = a) (hb : zb = b) (hpv : zp = pv) (hN : d.size = N) (hab : a < b) (hp1 : pv < b) (h3 : b ≤ N) (hx : N ≤ 34359738368) :
    Ok P n [.c (.sl F.id F.v 0 N c), .c (.int .i64 za), .c (.int .i64 zb), .c (.int .i64 zp), .c (.fn g pre cap)] (F.A d) (fun r τ => r = .tup [.c (.int .i64 ((Go.Sort.partition (lessA co) d a b pv).1 : Nat)), .c (.bool (Go.Sort.partition (lessA co) d a b pv).2.1)] ∧ τ = F.A (Go.Sort.partition (lessA co) d a b pv).2.2) := by
  refine .of_go hm hc (Nat.le_of_ble_eq_true rfl) ?_
  have haq : a < d.size := by omega
  have hpq : pv < d.size := by omega
  have e1 : IntKind.i64.wrap (za + 1) = ((a + 1 : Nat) : Int) := by rw [wrap64 (by omega) (by omega)]; omega
  have e2 : IntKind.i64.wrap (zb - 1) = ((b - 1 : Nat) : Int) := by rw [wrap64 (by omega) (by omega)]; omega
  repeat' first|(apply yA;exact rfl)|apply yC|((first|apply yD|apply yE);(first|exact yF|assumption);iterate 6 exact rfl)|((first|apply yG|apply yH|apply yI);exact rfl;(first|exact yJ|exact yK rfl rfl|exact yL rfl|exact yM rfl|exact rfl|exact aL rfl rfl rfl rfl rfl|exact aS rfl rfl rfl rfl rfl rfl rfl))|((first|apply yN|apply yO|apply yP);exact rfl)|(exfalso;omega)|(((first|apply yT|apply yU|apply yV|apply yW);exact rfl;(first|exact .d|exact .e|exact .n|((fail_if_success exact bqt);(fail_if_success exact bqf);exact .b)))<;>intro _)
  refine Go.qw (fun F' τ => Go P (F.A d).next _ _ _ (.segs _ :: _) F' τ) ?_ fun _ _ h => h
  repeat' first|(apply Qw.op;exact rfl;exact fun _ => rfl)|(apply Qw.rd;exact rfl;exact rfl;first|exact aop_ai (F := F) rfl rfl ha hN haq|exact aop_ai (F := F) rfl rfl hpv hN hpq|exact aop_al (F := F) rfl haq|exact aop_al (F := F) rfl hpq)|(apply Qw.wr;exact rfl;exact rfl;exact aop_as (F := F) rfl rfl haq)|apply Qw.nil
  repeat' first|refine yaG ?_|((first|apply yG|apply yH|apply yI);exact rfl;(first|exact aop_ai (F := F) rfl rfl hpv (Array.size_setIfInBounds.trans hN) (by rw [Array.size_setIfInBounds];exact hpq)|exact aop_as (F := F) rfl rfl (by rw [Array.size_setIfInBounds];exact hpq)))|(exfalso;omega)|(refine yaS ?_ ?_<;>intro _)
  rw [swp_is]
  obtain ⟨R0, hr⟩ : ∃ R, R = Go.Sort.partition (lessA co) d a b pv := ⟨_, rfl⟩
  rw [← hr]
  rw [partition_eqA] at hr
  have hq : (swp d a pv).size = N := swp_len.trans hN
  generalize swp d a pv = q at hq hr ⊢
  obtain ⟨p, hp0⟩ : ∃ p : α → Bool, p = fun x => lessA co x q[a]! := ⟨_, rfl⟩
  obtain ⟨p2, hp20⟩ : ∃ p : α → Bool, p = fun x => !lessA co x q[a]! := ⟨_, rfl⟩
  rw [← hp0, ← hp20] at hr
  have hp : ∀ x, p x = decide (co x q[a]! < 0) := fun x => by rw [hp0]; rfl
  have hp2 : ∀ x, p2 x = !decide (co x q[a]! < 0) := fun x => by rw [hp20]; rfl
  clear hp0 hp20 haq hpq
  obtain ⟨i, hi⟩ : ∃ i, i = a + 1 := ⟨_, rfl⟩
  obtain ⟨j, hj⟩ : ∃ j, j = b - 1 := ⟨_, rfl⟩
  obtain ⟨zi, hzi0⟩ : ∃ z, z = IntKind.i64.wrap (za + 1) := ⟨_, rfl⟩
  obtain ⟨zj, hzj0⟩ : ∃ z, z = IntKind.i64.wrap (zb - 1) := ⟨_, rfl⟩
  have hzi : zi = (i : Int) := by rw [hzi0, e1, hi]
  have hzj : zj = (j : Int) := by rw [hzj0, e2, hj]
  rw [← hzi0, ← hzj0]
  rw [← hi, ← hj] at hr
  clear hzi0 hzj0 e1 e2
  have hrec : True := trivial
  refine Go.meet (K' := [_, _]) (fun fr τ => ∃ (k : Nat) (zk : Int), i ≤ k ∧ k ≤ j + 1 ∧ zk = k ∧ Go.Sort.scanUp p q j i = k ∧ fr = [(0, .c (.sl F.id F.v 0 N c)), (1, .c (.int .i64 za)), (4, .c (.fn g pre cap)), (12, .c (.int .i64 zk)), (13, .c (.int .i64 zj))] ∧ τ = F.A q) (fun K hmt => ?_) ?_
  · refine Go.keep [0, 1, 4, 12, 13] (Go.loops (I := fun mm fr τ => ∃ (k : Nat) (zk : Int), mm = j + 1 - k ∧ i ≤ k ∧ k ≤ j + 1 ∧ zk = k ∧ Go.Sort.scanUp p q j i = Go.Sort.scanUp p q j k ∧
        fr = [(0, .c (.sl F.id F.v 0 N c)), (1, .c (.int .i64 za)), (4, .c (.fn g pre cap)), (12, .c (.int .i64 zk)), (13, .c (.int .i64 zj))] ∧ τ = F.A q) ?_ _ _ _ ⟨i, _, rfl, by omega, by omega, hzi, rfl, rfl, rfl⟩)
    clear hrec
    rintro mm fr τ ⟨k, zk, rfl, hk1, hk2, hzk, hsc, rfl, rfl⟩ hrec
    rw [Go.Sort.scanUp.eq_1 p q j k] at hsc
    by_cases hlt : k ≤ j
    · have hkq : k < q.size := by omega
      have haq : a < q.size := by omega
      have hpk := hp q[k]!
      have cc := hcmp.at q q[k]! q[a]!
      generalize co q[k]! q[a]! = o at cc hpk
      rw [hpk] at hsc
      repeat' first|refine yaG ?_|((first|apply yG|apply yH|apply yI);exact rfl;(first|exact aop_ai (F := F) rfl rfl hzk hq hkq|exact aop_ai (F := F) rfl rfl ha hq haq|exact aop_al (F := F) rfl hkq|exact aop_al (F := F) rfl haq))|(exfalso;omega)|(refine yaS ?_ ?_<;>intro _)
      all_goals first
        | (exfalso; omega)
        | skip
      refine Go.scall _ rfl rfl rfl cc ?_
      rintro r τ ⟨rfl, rfl⟩
      by_cases ho : o < 0
      · rw [if_pos (by simp [ho]; omega)] at hsc
        repeat' first|refine yaG ?_|(exfalso;omega)|(refine yaS ?_ ?_<;>intro _)
        all_goals first
          | (exfalso; omega)
          | (exfalso; rename_i hbad; rw [decide_eq_true ho] at hbad; cases hbad; done)
          | (exfalso; rename_i hbad; rw [decide_eq_false ho] at hbad; cases hbad; done)
          | skip
        exact Go.keep [0, 1, 4, 12, 13] (hrec _ _ _ (by omega) ⟨k + 1, _, rfl, by omega, by omega, wrap_succ hzk (by omega), hsc, rfl, rfl⟩)
      · rw [if_neg (by simp [ho])] at hsc
        repeat' first|refine yaG ?_|(exfalso;omega)|(refine yaS ?_ ?_<;>intro _)
        all_goals first
          | (exfalso; omega)
          | (exfalso; rename_i hbad; rw [decide_eq_true ho] at hbad; cases hbad; done)
          | (exfalso; rename_i hbad; rw [decide_eq_false ho] at hbad; cases hbad; done)
          | skip
        exact Go.keep [0, 1, 4, 12, 13] (hmt _ _ ⟨k, _, by omega, by omega, hzk, hsc, rfl, rfl⟩)
    · rw [if_neg (by simp; omega)] at hsc
      repeat' first|refine yaG ?_|(exfalso;omega)|(refine yaS ?_ ?_<;>intro _)
      all_goals first
        | (exfalso; omega)
        | skip
      exact Go.keep [0, 1, 4, 12, 13] (hmt _ _ ⟨k, _, by omega, by omega, hzk, hsc, rfl, rfl⟩)
  · rintro fr τ ⟨i2, zi2, hk1, hk2, hzi2, hsc, rfl, rfl⟩
    rw [hsc] at hr
    have hsu := (Go.Sort.scanUp_spec p q j _ i rfl).2.2.2
    rw [hsc] at hsu
    clear hsc
    repeat' first|refine yaG ?_|(exfalso;omega)|(refine yaS ?_ ?_<;>intro _)
    refine Go.meet (K' := [_, _]) (fun fr τ => ∃ (k : Nat) (zk : Int), k ≤ j ∧ i2 ≤ k + 1 ∧ zk = k ∧ Go.Sort.scanDown p2 q i2 j = k ∧ fr = [(0, .c (.sl F.id F.v 0 N c)), (1, .c (.int .i64 za)), (4, .c (.fn g pre cap)), (12, .c (.int .i64 zi2)), (13, .c (.int .i64 zk))] ∧ τ = F.A q) (fun K hmt => ?_) ?_
    · refine Go.keep [0, 1, 4, 12, 13] (Go.loops (I := fun mm fr τ => ∃ (k : Nat) (zk : Int), mm = k ∧ k ≤ j ∧ i2 ≤ k + 1 ∧ zk = k ∧ Go.Sort.scanDown p2 q i2 j = Go.Sort.scanDown p2 q i2 k ∧
          fr = [(0, .c (.sl F.id F.v 0 N c)), (1, .c (.int .i64 za)), (4, .c (.fn g pre cap)), (12, .c (.int .i64 zi2)), (13, .c (.int .i64 zk))] ∧ τ = F.A q) ?_ _ _ _ ⟨j, _, rfl, by omega, by omega, hzj, rfl, rfl, rfl⟩)
      clear hrec
      rintro mm fr τ ⟨k, zk, hmm, hk1, hk2, hzk, hsc, rfl, rfl⟩ hrec
      cases k with
      | zero =>
        rw [Go.Sort.scanDown] at hsc
        repeat' first|refine yaG ?_|(exfalso;omega)|(refine yaS ?_ ?_<;>intro _)
        all_goals first
          | (exfalso; omega)
          | skip
        exact Go.keep [0, 1, 4, 12, 13] (hmt _ _ ⟨0, _, by omega, by omega, hzk, hsc, rfl, rfl⟩)
      | succ k =>
        rw [Go.Sort.scanDown] at hsc
        by_cases hlt : i2 ≤ k + 1
        · have hkq : (k + 1) < q.size := by omega
          have haq : a < q.size := by omega
          have hpk := hp2 q[(k + 1)]!
          have cc := hcmp.at q q[(k + 1)]! q[a]!
          generalize co q[(k + 1)]! q[a]! = o at cc hpk
          rw [hpk] at hsc
          repeat' first|refine yaG ?_|((first|apply yG|apply yH|apply yI);exact rfl;(first|exact aop_ai (F := F) rfl rfl hzk hq hkq|exact aop_ai (F := F) rfl rfl ha hq haq|exact aop_al (F := F) rfl hkq|exact aop_al (F := F) rfl haq))|(exfalso;omega)|(refine yaS ?_ ?_<;>intro _)
          all_goals first
            | (exfalso; omega)
            | skip
          refine Go.scall _ rfl rfl rfl cc ?_
          rintro r τ ⟨rfl, rfl⟩
          by_cases ho : o < 0
          · rw [if_neg (by simp [ho])] at hsc
            repeat' first|refine yaG ?_|(exfalso;omega)|(refine yaS ?_ ?_<;>intro _)
            all_goals first
              | (exfalso; omega)
              | (exfalso; rename_i hbad; rw [decide_eq_true ho] at hbad; cases hbad; done)
              | (exfalso; rename_i hbad; rw [decide_eq_false ho] at hbad; cases hbad; done)
              | skip
            exact Go.keep [0, 1, 4, 12, 13] (hmt _ _ ⟨k + 1, _, by omega, by omega, hzk, hsc, rfl, rfl⟩)
          · rw [if_pos (by simp [ho]; omega)] at hsc
            repeat' first|refine yaG ?_|(exfalso;omega)|(refine yaS ?_ ?_<;>intro _)
            all_goals first
              | (exfalso; omega)
              | (exfalso; rename_i hbad; rw [decide_eq_true ho] at hbad; cases hbad; done)
              | (exfalso; rename_i hbad; rw [decide_eq_false ho] at hbad; cases hbad; done)
              | skip
            exact Go.keep [0, 1, 4, 12, 13] (hrec k _ _ (by omega) ⟨k, _, rfl, by omega, by omega, by rw [wrap64 (by omega) (by omega)]; omega, hsc, rfl, rfl⟩)
        · rw [if_neg (by simp; omega)] at hsc
          repeat' first|refine yaG ?_|(exfalso;omega)|(refine yaS ?_ ?_<;>intro _)
          all_goals first
            | (exfalso; omega)
            | skip
          exact Go.keep [0, 1, 4, 12, 13] (hmt _ _ ⟨k + 1, _, by omega, by omega, hzk, hsc, rfl, rfl⟩)
    · rintro fr τ ⟨j2, zj2, hk3, hk4, hzj2, hsc, rfl, rfl⟩
      rw [hsc] at hr
      have hne : i2 ≠ j2 := by
        rintro rfl
        have hsd := (Go.Sort.scanDown_spec p2 q i2 j).2.2.2
        rw [hsc] at hsd
        have h1 := hsu (by omega)
        have h2 := hsd (Nat.le_refl _) (by omega)
        rw [hp] at h1
        rw [hp2, h1] at h2
        cases h2
      have haq : a < q.size := by omega
      have hjq : j2 < q.size := by omega
      by_cases hgt : i2 > j2
      · rw [if_pos hgt] at hr
        repeat' first|(apply yA;exact rfl)|apply yC|((first|apply yD|apply yE);(first|exact yF|assumption);iterate 6 exact rfl)|((first|apply yG|apply yH|apply yI);exact rfl;(first|exact yJ|exact yK rfl rfl|exact yL rfl|exact yM rfl|exact rfl|exact aL rfl rfl rfl rfl rfl|exact aS rfl rfl rfl rfl rfl rfl rfl))|((first|apply yN|apply yO|apply yP);exact rfl)|(exfalso;omega)|(((first|apply yT|apply yU|apply yV|apply yW);exact rfl;(first|exact .d|exact .e|exact .n|((fail_if_success exact bqt);(fail_if_success exact bqf);exact .b)))<;>intro _)
        all_goals first
          | (exfalso; omega)
          | skip
        refine Go.qw (fun F' τ => Go P (F.A d).next _ _ _ (.segs _ :: _) F' τ) ?_ fun _ _ h => h
        repeat' first|(apply Qw.op;exact rfl;exact fun _ => rfl)|(apply Qw.rd;exact rfl;exact rfl;first|exact aop_ai (F := F) rfl rfl hzj2 hq hjq|exact aop_ai (F := F) rfl rfl ha hq haq|exact aop_al (F := F) rfl hjq|exact aop_al (F := F) rfl haq)|(apply Qw.wr;exact rfl;exact rfl;exact aop_as (F := F) rfl rfl hjq)|apply Qw.nil
        repeat' first|refine yaG ?_|((first|apply yG|apply yH|apply yI);exact rfl;(first|exact aop_ai (F := F) rfl rfl ha (Array.size_setIfInBounds.trans hq) (by rw [Array.size_setIfInBounds];exact haq)|exact aop_as (F := F) rfl rfl (by rw [Array.size_setIfInBounds];exact haq)))|(exfalso;omega)|(refine yaS ?_ ?_<;>intro _)
        rw [swp_is]
        exact .ret rfl ⟨by rw [hr, hzj2], by rw [hr]⟩
      · rw [if_neg hgt] at hr
        have hiq : i2 < q.size := by omega
        repeat' first|(apply yA;exact rfl)|apply yC|((first|apply yD|apply yE);(first|exact yF|assumption);iterate 6 exact rfl)|((first|apply yG|apply yH|apply yI);exact rfl;(first|exact yJ|exact yK rfl rfl|exact yL rfl|exact yM rfl|exact rfl|exact aL rfl rfl rfl rfl rfl|exact aS rfl rfl rfl rfl rfl rfl rfl))|((first|apply yN|apply yO|apply yP);exact rfl)|(exfalso;omega)|(((first|apply yT|apply yU|apply yV|apply yW);exact rfl;(first|exact .d|exact .e|exact .n|((fail_if_success exact bqt);(fail_if_success exact bqf);exact .b)))<;>intro _)
        all_goals first
          | (exfalso; omega)
          | skip
        refine Go.qw (fun F' τ => Go P (F.A d).next _ _ _ (.segs _ :: _) F' τ) ?_ fun _ _ h => h
        repeat' first|(apply Qw.op;exact rfl;exact fun _ => rfl)|(apply Qw.rd;exact rfl;exact rfl;first|exact aop_ai (F := F) rfl rfl hzi2 hq hiq|exact aop_ai (F := F) rfl rfl hzj2 hq hjq|exact aop_al (F := F) rfl hiq|exact aop_al (F := F) rfl hjq)|(apply Qw.wr;exact rfl;exact rfl;exact aop_as (F := F) rfl rfl hiq)|apply Qw.nil
        repeat' first|refine yaG ?_|((first|apply yG|apply yH|apply yI);exact rfl;(first|exact aop_ai (F := F) rfl rfl hzj2 (Array.size_setIfInBounds.trans hq) (by rw [Array.size_setIfInBounds];exact hjq)|exact aop_as (F := F) rfl rfl (by rw [Array.size_setIfInBounds];exact hjq)))|(exfalso;omega)|(refine yaS ?_ ?_<;>intro _)
        rw [swp_is]
        have hB : (swp q i2 j2).size = N := swp_len.trans hq
        generalize swp q i2 j2 = B at hB hr ⊢
        clear hsc hsu hp hp2 hrec hq hjq haq hiq hzi hzj
        clear p p2
        obtain ⟨L0, hL0⟩ : ∃ L, L = Go.Sort.partLoop (lessA co) a (i2 + 1) (j2 - 1) B := ⟨_, rfl⟩
        rw [← hL0] at hr
        refine Go.keep [0, 1, 4, 12, 13] (Go.loops (I := fun mm fr τ => ∃ (i j : Nat) (zi zj : Int) (q : Array α), mm = j + 1 - i ∧ a < i ∧ i ≤ j + 1 ∧ j < b ∧ zi = i ∧ zj = j ∧ q.size = N ∧ L0 = Go.Sort.partLoop (lessA co) a i j q ∧
          fr = [(0, .c (.sl F.id F.v 0 N c)), (1, .c (.int .i64 za)), (4, .c (.fn g pre cap)), (12, .c (.int .i64 zi)), (13, .c (.int .i64 zj))] ∧ τ = F.A q) ?_ _ _ _ ⟨i2 + 1, j2 - 1, _, _, B, rfl, by omega, by omega, by omega, wrap_succ hzi2 (by omega), by rw [wrap64 (by omega) (by omega)]; omega, hB, hL0, rfl, rfl⟩)
        rename_i B0
        clear hL0 hB hk1 hk2 hk3 hk4 hzi2 hzj2 hgt hi hj hne
        clear i j zi zj i2 zi2 j2 zj2 B0
        rintro mm fr τ ⟨i, j, zi, zj, q, rfl, hai, hij, hjb, hzi, hzj, hq, hl, rfl, rfl⟩ hrec
        rw [Go.Sort.partLoop_eq] at hl
        obtain ⟨p, hp0⟩ : ∃ p : α → Bool, p = fun x => lessA co x q[a]! := ⟨_, rfl⟩
        obtain ⟨p2, hp20⟩ : ∃ p : α → Bool, p = fun x => !lessA co x q[a]! := ⟨_, rfl⟩
        rw [← hp0, ← hp20] at hl
        have hp : ∀ x, p x = decide (co x q[a]! < 0) := fun x => by rw [hp0]; rfl
        have hp2 : ∀ x, p2 x = !decide (co x q[a]! < 0) := fun x => by rw [hp20]; rfl
        clear hp0 hp20
        repeat' first|refine yaG ?_|(exfalso;omega)|(refine yaS ?_ ?_<;>intro _)
        refine Go.meet (K' := [_, _]) (fun fr τ => ∃ (k : Nat) (zk : Int), i ≤ k ∧ k ≤ j + 1 ∧ zk = k ∧ Go.Sort.scanUp p q j i = k ∧ fr = [(0, .c (.sl F.id F.v 0 N c)), (1, .c (.int .i64 za)), (4, .c (.fn g pre cap)), (12, .c (.int .i64 zk)), (13, .c (.int .i64 zj))] ∧ τ = F.A q) (fun K hmt => ?_) ?_
        · refine Go.keep [0, 1, 4, 12, 13] (Go.loops (I := fun mm fr τ => ∃ (k : Nat) (zk : Int), mm = j + 1 - k ∧ i ≤ k ∧ k ≤ j + 1 ∧ zk = k ∧ Go.Sort.scanUp p q j i = Go.Sort.scanUp p q j k ∧
              fr = [(0, .c (.sl F.id F.v 0 N c)), (1, .c (.int .i64 za)), (4, .c (.fn g pre cap)), (12, .c (.int .i64 zk)), (13, .c (.int .i64 zj))] ∧ τ = F.A q) ?_ _ _ _ ⟨i, _, rfl, by omega, by omega, hzi, rfl, rfl, rfl⟩)
          clear hrec
          rintro mm fr τ ⟨k, zk, rfl, hk1, hk2, hzk, hsc, rfl, rfl⟩ hrec
          rw [Go.Sort.scanUp.eq_1 p q j k] at hsc
          by_cases hlt : k ≤ j
          · have hkq : k < q.size := by omega
            have haq : a < q.size := by omega
            have hpk := hp q[k]!
            have cc := hcmp.at q q[k]! q[a]!
            generalize co q[k]! q[a]! = o at cc hpk
            rw [hpk] at hsc
            repeat' first|refine yaG ?_|((first|apply yG|apply yH|apply yI);exact rfl;(first|exact aop_ai (F := F) rfl rfl hzk hq hkq|exact aop_ai (F := F) rfl rfl ha hq haq|exact aop_al (F := F) rfl hkq|exact aop_al (F := F) rfl haq))|(exfalso;omega)|(refine yaS ?_ ?_<;>intro _)
            all_goals first
              | (exfalso; omega)
              | skip
            refine Go.scall _ rfl rfl rfl cc ?_
            rintro r τ ⟨rfl, rfl⟩
            by_cases ho : o < 0
            · rw [if_pos (by simp [ho]; omega)] at hsc
              repeat' first|refine yaG ?_|(exfalso;omega)|(refine yaS ?_ ?_<;>intro _)
              all_goals first
                | (exfalso; omega)
                | (exfalso; rename_i hbad; rw [decide_eq_true ho] at hbad; cases hbad; done)
                | (exfalso; rename_i hbad; rw [decide_eq_false ho] at hbad; cases hbad; done)
                | skip
              exact Go.keep [0, 1, 4, 12, 13] (hrec _ _ _ (by omega) ⟨k + 1, _, rfl, by omega, by omega, wrap_succ hzk (by omega), hsc, rfl, rfl⟩)
            · rw [if_neg (by simp [ho])] at hsc
              repeat' first|refine yaG ?_|(exfalso;omega)|(refine yaS ?_ ?_<;>intro _)
              all_goals first
                | (exfalso; omega)
                | (exfalso; rename_i hbad; rw [decide_eq_true ho] at hbad; cases hbad; done)
                | (exfalso; rename_i hbad; rw [decide_eq_false ho] at hbad; cases hbad; done)
                | skip
              exact Go.keep [0, 1, 4, 12, 13] (hmt _ _ ⟨k, _, by omega, by omega, hzk, hsc, rfl, rfl⟩)
          · rw [if_neg (by simp; omega)] at hsc
            repeat' first|refine yaG ?_|(exfalso;omega)|(refine yaS ?_ ?_<;>intro _)
            all_goals first
              | (exfalso; omega)
              | skip
            exact Go.keep [0, 1, 4, 12, 13] (hmt _ _ ⟨k, _, by omega, by omega, hzk, hsc, rfl, rfl⟩)
        · rintro fr τ ⟨i2, zi2, hk1, hk2, hzi2, hsc, rfl, rfl⟩
          rw [hsc] at hl
          have hsu := (Go.Sort.scanUp_spec p q j _ i rfl).2.2.2
          rw [hsc] at hsu
          clear hsc
          repeat' first|refine yaG ?_|(exfalso;omega)|(refine yaS ?_ ?_<;>intro _)
          refine Go.meet (K' := [_, _]) (fun fr τ => ∃ (k : Nat) (zk : Int), k ≤ j ∧ i2 ≤ k + 1 ∧ zk = k ∧ Go.Sort.scanDown p2 q i2 j = k ∧ fr = [(0, .c (.sl F.id F.v 0 N c)), (1, .c (.int .i64 za)), (4, .c (.fn g pre cap)), (12, .c (.int .i64 zi2)), (13, .c (.int .i64 zk))] ∧ τ = F.A q) (fun K hmt => ?_) ?_
          · refine Go.keep [0, 1, 4, 12, 13] (Go.loops (I := fun mm fr τ => ∃ (k : Nat) (zk : Int), mm = k ∧ k ≤ j ∧ i2 ≤ k + 1 ∧ zk = k ∧ Go.Sort.scanDown p2 q i2 j = Go.Sort.scanDown p2 q i2 k ∧
                fr = [(0, .c (.sl F.id F.v 0 N c)), (1, .c (.int .i64 za)), (4, .c (.fn g pre cap)), (12, .c (.int .i64 zi2)), (13, .c (.int .i64 zk))] ∧ τ = F.A q) ?_ _ _ _ ⟨j, _, rfl, by omega, by omega, hzj, rfl, rfl, rfl⟩)
            clear hrec
            rintro mm fr τ ⟨k, zk, hmm, hk1, hk2, hzk, hsc, rfl, rfl⟩ hrec
            cases k with
            | zero =>
              rw [Go.Sort.scanDown] at hsc
              repeat' first|refine yaG ?_|(exfalso;omega)|(refine yaS ?_ ?_<;>intro _)
              all_goals first
                | (exfalso; omega)
                | skip
              exact Go.keep [0, 1, 4, 12, 13] (hmt _ _ ⟨0, _, by omega, by omega, hzk, hsc, rfl, rfl⟩)
            | succ k =>
              rw [Go.Sort.scanDown] at hsc
              by_cases hlt : i2 ≤ k + 1
              · have hkq : (k + 1) < q.size := by omega
                have haq : a < q.size := by omega
                have hpk := hp2 q[(k + 1)]!
                have cc := hcmp.at q q[(k + 1)]! q[a]!
                generalize co q[(k + 1)]! q[a]! = o at cc hpk
                rw [hpk] at hsc
                repeat' first|refine yaG ?_|((first|apply yG|apply yH|apply yI);exact rfl;(first|exact aop_ai (F := F) rfl rfl hzk hq hkq|exact aop_ai (F := F) rfl rfl ha hq haq|exact aop_al (F := F) rfl hkq|exact aop_al (F := F) rfl haq))|(exfalso;omega)|(refine yaS ?_ ?_<;>intro _)
                all_goals first
                  | (exfalso; omega)
                  | skip
                refine Go.scall _ rfl rfl rfl cc ?_
                rintro r τ ⟨rfl, rfl⟩
                by_cases ho : o < 0
                · rw [if_neg (by simp [ho])] at hsc
                  repeat' first|refine yaG ?_|(exfalso;omega)|(refine yaS ?_ ?_<;>intro _)
                  all_goals first
                    | (exfalso; omega)
                    | (exfalso; rename_i hbad; rw [decide_eq_true ho] at hbad; cases hbad; done)
                    | (exfalso; rename_i hbad; rw [decide_eq_false ho] at hbad; cases hbad; done)
                    | skip
                  exact Go.keep [0, 1, 4, 12, 13] (hmt _ _ ⟨k + 1, _, by omega, by omega, hzk, hsc, rfl, rfl⟩)
                · rw [if_pos (by simp [ho]; omega)] at hsc
                  repeat' first|refine yaG ?_|(exfalso;omega)|(refine yaS ?_ ?_<;>intro _)
                  all_goals first
                    | (exfalso; omega)
                    | (exfalso; rename_i hbad; rw [decide_eq_true ho] at hbad; cases hbad; done)
                    | (exfalso; rename_i hbad; rw [decide_eq_false ho] at hbad; cases hbad; done)
                    | skip
                  exact Go.keep [0, 1, 4, 12, 13] (hrec k _ _ (by omega) ⟨k, _, rfl, by omega, by omega, by rw [wrap64 (by omega) (by omega)]; omega, hsc, rfl, rfl⟩)
              · rw [if_neg (by simp; omega)] at hsc
                repeat' first|refine yaG ?_|(exfalso;omega)|(refine yaS ?_ ?_<;>intro _)
                all_goals first
                  | (exfalso; omega)
                  | skip
                exact Go.keep [0, 1, 4, 12, 13] (hmt _ _ ⟨k + 1, _, by omega, by omega, hzk, hsc, rfl, rfl⟩)
          · rintro fr τ ⟨j2, zj2, hk3, hk4, hzj2, hsc, rfl, rfl⟩
            rw [hsc] at hl
            have hne : i2 ≠ j2 := by
              rintro rfl
              have hsd := (Go.Sort.scanDown_spec p2 q i2 j).2.2.2
              rw [hsc] at hsd
              have h1 := hsu (by omega)
              have h2 := hsd (Nat.le_refl _) (by omega)
              rw [hp] at h1
              rw [hp2, h1] at h2
              cases h2
            have haq : a < q.size := by omega
            have hjq : j2 < q.size := by omega
            by_cases hgt : i2 > j2
            · rw [if_pos hgt] at hl
              repeat' first|(apply yA;exact rfl)|apply yC|((first|apply yD|apply yE);(first|exact yF|assumption);iterate 6 exact rfl)|((first|apply yG|apply yH|apply yI);exact rfl;(first|exact yJ|exact yK rfl rfl|exact yL rfl|exact yM rfl|exact rfl|exact aL rfl rfl rfl rfl rfl|exact aS rfl rfl rfl rfl rfl rfl rfl))|((first|apply yN|apply yO|apply yP);exact rfl)|(exfalso;omega)|(((first|apply yT|apply yU|apply yV|apply yW);exact rfl;(first|exact .d|exact .e|exact .n|((fail_if_success exact bqt);(fail_if_success exact bqf);exact .b)))<;>intro _)
              all_goals first
                | (exfalso; omega)
                | skip
              refine Go.qw (fun F' τ => Go P (F.A d).next _ _ _ (.segs _ :: _) F' τ) ?_ fun _ _ h => h
              repeat' first|(apply Qw.op;exact rfl;exact fun _ => rfl)|(apply Qw.rd;exact rfl;exact rfl;first|exact aop_ai (F := F) rfl rfl hzj2 hq hjq|exact aop_ai (F := F) rfl rfl ha hq haq|exact aop_al (F := F) rfl hjq|exact aop_al (F := F) rfl haq)|(apply Qw.wr;exact rfl;exact rfl;exact aop_as (F := F) rfl rfl hjq)|apply Qw.nil
              repeat' first|refine yaG ?_|((first|apply yG|apply yH|apply yI);exact rfl;(first|exact aop_ai (F := F) rfl rfl ha (Array.size_setIfInBounds.trans hq) (by rw [Array.size_setIfInBounds];exact haq)|exact aop_as (F := F) rfl rfl (by rw [Array.size_setIfInBounds];exact haq)))|(exfalso;omega)|(refine yaS ?_ ?_<;>intro _)
              rw [swp_is]
              exact .ret rfl ⟨by rw [hr, hl, hzj2], by rw [hr, hl]⟩
            · rw [if_neg hgt] at hl
              have hiq : i2 < q.size := by omega
              repeat' first|(apply yA;exact rfl)|apply yC|((first|apply yD|apply yE);(first|exact yF|assumption);iterate 6 exact rfl)|((first|apply yG|apply yH|apply yI);exact rfl;(first|exact yJ|exact yK rfl rfl|exact yL rfl|exact yM rfl|exact rfl|exact aL rfl rfl rfl rfl rfl|exact aS rfl rfl rfl rfl rfl rfl rfl))|((first|apply yN|apply yO|apply yP);exact rfl)|(exfalso;omega)|(((first|apply yT|apply yU|apply yV|apply yW);exact rfl;(first|exact .d|exact .e|exact .n|((fail_if_success exact bqt);(fail_if_success exact bqf);exact .b)))<;>intro _)
              all_goals first
                | (exfalso; omega)
                | skip
              refine Go.qw (fun F' τ => Go P (F.A d).next _ _ _ (.segs _ :: _) F' τ) ?_ fun _ _ h => h
              repeat' first|(apply Qw.op;exact rfl;exact fun _ => rfl)|(apply Qw.rd;exact rfl;exact rfl;first|exact aop_ai (F := F) rfl rfl hzi2 hq hiq|exact aop_ai (F := F) rfl rfl hzj2 hq hjq|exact aop_al (F := F) rfl hiq|exact aop_al (F := F) rfl hjq)|(apply Qw.wr;exact rfl;exact rfl;exact aop_as (F := F) rfl rfl hiq)|apply Qw.nil
              repeat' first|refine yaG ?_|((first|apply yG|apply yH|apply yI);exact rfl;(first|exact aop_ai (F := F) rfl rfl hzj2 (Array.size_setIfInBounds.trans hq) (by rw [Array.size_setIfInBounds];exact hjq)|exact aop_as (F := F) rfl rfl (by rw [Array.size_setIfInBounds];exact hjq)))|(exfalso;omega)|(refine yaS ?_ ?_<;>intro _)
              refine Go.keep [0, 1, 4, 12, 13] (hrec _ _ _ ?_ ⟨i2 + 1, j2 - 1, _, _, swp q i2 j2, rfl, by omega, by omega, by omega, wrap_succ hzi2 (by omega), by rw [wrap64 (by omega) (by omega)]; omega, swp_len.trans hq, hl, rfl, rfl⟩)
              omega
end Go.Proofs.YtdgnfdljkghpjaaGreat.Am

/- pdqsort's functions walked: the pivot. -/
set_option linter.unusedVariables false
set_option linter.unusedSimpArgs false
namespace Go.Proofs.YtdgnfdljkghpjaaGreat.Am
open Go.Sort (swp)

section
variable {α : Type} {F : Fam α}
theorem aop_aiE (hF : F.id < F.σ.next) {l : List (Nat × List (List Ce))} {fr : Fr} {d : Array α} {x y : Opd} {kd : IntKind} {z : Int} {m c i : Nat} (hx : x.ev fr = some (.c (.sl F.id F.v 0 m c))) (hy : y.ev fr = some (.c (.int kd z))) (hz : z = (i : Int)) (hm : d.size = m) (hi : i < d.size) :
    aop (.iaddr 2 x y) fr (E (F.A d) l) = some (.c (.ptr F.id F.v i 0), E (F.A d) l) := by
  rw [← Fam.up_A hF]
  exact aop_ai (F := F.up l) hx hy hz hm hi
theorem aop_alE [Inhabited α] (hF : F.id < F.σ.next) {l : List (Nat × List (List Ce))} {fr : Fr} {d : Array α} {a : Opd} {i : Nat} (ha : a.ev fr = some (.c (.ptr F.id F.v i 0))) (hi : i < d.size) : aop (.load true 2 a) fr (E (F.A d) l) = some (.agg (F.ce d[i]!), E (F.A d) l) := by
  rw [← Fam.up_A hF]
  exact aop_al (F := F.up l) ha hi
theorem aop_asE (hF : F.id < F.σ.next) {l : List (Nat × List (List Ce))} {fr : Fr} {d : Array α} {a y : Opd} {i : Nat} {x : α} (ha : a.ev fr = some (.c (.ptr F.id F.v i 0))) (hy : y.ev fr = some (.agg (F.ce x))) (hi : i < d.size) : aop (.store 2 a y) fr (E (F.A d) l) = some (.un, E (F.A (d.setIfInBounds i x)) l) := by
  rw [← Fam.up_A hF, ← Fam.up_A hF]
  exact aop_as (F := F.up l) ha hy hi
theorem CmpsA.e {P : Program} {c : α → α → Int} {g : Nat} {pre cap : List Ce} (h : CmpsA P F c g pre cap) (d : Array α) (l : List (Nat × List (List Ce))) (x y : α) : Ok P g (pre.map .c ++ [.agg (F.ce x), .agg (F.ce y)] ++ cap.map .c) (E (F.A d) l) (fun r τ => r = .c (.int .i64 (c x y)) ∧ τ = E (F.A d) l) :=
  h _ x y (fun a h1 h2 => (E_lt (σ := F.A d) h2).trans (show (F.A d).get a = F.σ.get a from if_neg h1)) (Nat.le_add_right _ _)
end
theorem order2_ok {P : Program} (hm : P.follows .mixedOrders = true) {fz : List Nat} {n : Nat} (hc : compFn P fz n = some c_slices_order2CmpFunc_Entry) {α : Type} [Inhabited α] (F : Fam α) (co : α → α → Int) (g : Nat) (pre cap : List Ce) (hcmp : CmpsA P F co g pre cap) (hF : F.id < F.σ.next) (d : Array α) (N lo hi x y c : Nat) (zx zy s : Int) (hzx : zx = x) (hzy : zy = y) (hN : d.size = N) (hhi : hi ≤ N) (hx1 : lo ≤ x) (hx2 : x < hi) (hy1 : lo ≤ y) (hy2 : y < hi) :
    Ok P n [.c (.sl F.id F.v 0 N c), .c (.int .i64 zx), .c (.int .i64 zy), .c (.ptr ((F.A d).next + 0) 0 0 0), .c (.fn g pre cap)] (E (F.A d) [(0, [[.int .i64 s]])]) (fun r τ => ∃ (s' zu zv : Int) (u v : Nat), τ = E (F.A d) [(0, [[.int .i64 s']])] ∧ zu = u ∧ zv = v ∧ lo ≤ u ∧ u < hi ∧ lo ≤ v ∧ v < hi ∧ r = .tup [.c (.int .i64 zu), .c (.int .i64 zv)]) := by
  refine .of_go hm hc (Nat.le_of_ble_eq_true rfl) ?_
  have hxq : x < d.size := by omega
  have hyq : y < d.size := by omega
  have cc := hcmp.e d [(0, [[.int .i64 s]])] d[y]! d[x]!
  repeat' first|refine yaN ?_|((first|apply yG|apply yH|apply yI);exact rfl;(first|exact aop_aiE (F := F) hF rfl rfl hzx hN hxq|exact aop_aiE (F := F) hF rfl rfl hzy hN hyq|exact aop_alE (F := F) hF rfl hxq|exact aop_alE (F := F) hF rfl hyq))|(exfalso;omega)|(refine yaS ?_ ?_<;>intro _)
  refine Go.scall _ rfl rfl rfl cc ?_
  rintro r τ ⟨rfl, rfl⟩
  generalize co d[y]! d[x]! = o
  by_cases ho : o < 0
  · repeat' first|refine yaN ?_|(exfalso;omega)|(refine yaS ?_ ?_<;>intro _)
    all_goals first
      | (exfalso; omega)
      | skip
    exact .ret rfl ⟨_, _, _, y, x, rfl, hzy, hzx, hy1, hy2, hx1, hx2, rfl⟩
  · repeat' first|refine yaN ?_|(exfalso;omega)|(refine yaS ?_ ?_<;>intro _)
    all_goals first
      | (exfalso; omega)
      | skip
    exact .ret rfl ⟨_, _, _, x, y, rfl, hzx, hzy, hx1, hx2, hy1, hy2, rfl⟩
theorem median_ok {P : Program} (hm : P.follows .mixedOrders = true) {fz : List Nat} {n : Nat} (hc : compFn P fz n = some c_slices_medianCmpFunc_Entry) {α : Type} [Inhabited α] (F : Fam α) {fz' : List Nat} (hc' : compFn P fz' 253 = some c_slices_order2CmpFunc_Entry) (co : α → α → Int) (g : Nat) (pre cap : List Ce) (hcmp : CmpsA P F co g pre cap) (hF : F.id < F.σ.next) (d : Array α) (N lo hi x y z c : Nat) (zx zy zz s : Int) (hzx : zx = x) (hzy : zy = y) (hzz : zz = z) (hN : d.size = N) (hhi : hi ≤ N) (hx1 : lo ≤ x) (hx2 : x < hi) (hy1 : lo ≤ y) (hy2 : y < hi) (hz1 : lo ≤ z) (hz2 : z < hi) :
    Ok P n [.c (.sl F.id F.v 0 N c), .c (.int .i64 zx), .c (.int .i64 zy), .c (.int .i64 zz), .c (.ptr ((F.A d).next + 0) 0 0 0), .c (.fn g pre cap)] (E (F.A d) [(0, [[.int .i64 s]])]) (fun r τ => ∃ (s' zu : Int) (u : Nat), τ = E (F.A d) [(0, [[.int .i64 s']])] ∧ zu = u ∧ lo ≤ u ∧ u < hi ∧ r = .c (.int .i64 zu)) := by
  refine .of_go hm hc (Nat.le_of_ble_eq_true rfl) ?_
  repeat' first|refine yaN ?_|(exfalso;omega)|(refine yaS ?_ ?_<;>intro _)
  refine .call _ rfl rfl rfl (order2_ok hm hc' F co g pre cap hcmp hF d N lo hi x y c zx zy s hzx hzy hN hhi hx1 hx2 hy1 hy2) ?_
  rintro r τ ⟨s1, zu, zv, u, v, rfl, hzu, hzv, hu1, hu2, hv1, hv2, rfl⟩
  repeat' first|refine yaN ?_|(exfalso;omega)|(refine yaS ?_ ?_<;>intro _)
  refine .call _ rfl rfl rfl (order2_ok hm hc' F co g pre cap hcmp hF d N lo hi v z c zv zz s1 hzv hzz hN hhi hv1 hv2 hz1 hz2) ?_
  rintro r τ ⟨s2, zu2, zv2, u2, v2, rfl, hzu2, hzv2, hu3, hu4, hv3, hv4, rfl⟩
  repeat' first|refine yaN ?_|(exfalso;omega)|(refine yaS ?_ ?_<;>intro _)
  refine .call _ rfl rfl rfl (order2_ok hm hc' F co g pre cap hcmp hF d N lo hi u u2 c zu zu2 s2 hzu hzu2 hN hhi hu1 hu2 hu3 hu4) ?_
  rintro r τ ⟨s3, zu3, zv3, u3, v3, rfl, hzu3, hzv3, hu5, hu6, hv5, hv6, rfl⟩
  repeat' first|refine yaN ?_|(exfalso;omega)|(refine yaS ?_ ?_<;>intro _)
  exact .ret rfl ⟨s3, zv3, v3, rfl, hzv3, hv5, hv6, rfl⟩
theorem medianAdj_ok {P : Program} (hm : P.follows .mixedOrders = true) {fz : List Nat} {n : Nat} (hc : compFn P fz n = some c_slices_medianAdjacentCmpFunc_Entry) {α : Type} [Inhabited α] (F : Fam α) {fz' fz'' : List Nat} (hc' : compFn P fz' 233 = some c_slices_medianCmpFunc_Entry) (hc'' : compFn P fz'' 253 = some c_slices_order2CmpFunc_Entry) (co : α → α → Int) (g : Nat) (pre cap : List Ce) (hcmp : CmpsA P F co g pre cap) (hF : F.id < F.σ.next) (d : Array α) (N lo hi x c : Nat) (zx s : Int) (hzx : zx = x) (hN : d.size = N) (hhi : hi ≤ N) (hx1 : lo + 1 ≤ x) (hx2 : x + 1 < hi) (hx : N ≤ 34359738368) :
    Ok P n [.c (.sl F.id F.v 0 N c), .c (.int .i64 zx), .c (.ptr ((F.A d).next + 0) 0 0 0), .c (.fn g pre cap)] (E (F.A d) [(0, [[.int .i64 s]])]) (fun r τ => ∃ (s' zu : Int) (u : Nat), τ = E (F.A d) [(0, [[.int .i64 s']])] ∧ zu = u ∧ lo ≤ u ∧ u < hi ∧ r = .c (.int .i64 zu)) := by
  refine .of_go hm hc (Nat.le_of_ble_eq_true rfl) ?_
  have e1 : IntKind.i64.wrap (zx - 1) = ((x - 1 : Nat) : Int) := by rw [wrap64 (by omega) (by omega)]; omega
  have e2 : IntKind.i64.wrap (zx + 1) = ((x + 1 : Nat) : Int) := by rw [wrap64 (by omega) (by omega)]; omega
  repeat' first|refine yaN ?_|(exfalso;omega)|(refine yaS ?_ ?_<;>intro _)
  refine .call _ rfl rfl rfl (median_ok hm hc' F hc'' co g pre cap hcmp hF d N lo hi (x - 1) x (x + 1) c _ zx _ s e1 hzx e2 hN hhi (by omega) (by omega) (by omega) (by omega) (by omega) (by omega)) ?_
  rintro r τ ⟨s1, zu, u, rfl, hzu, hu1, hu2, rfl⟩
  repeat' first|refine yaN ?_|(exfalso;omega)|(refine yaS ?_ ?_<;>intro _)
  exact .ret rfl ⟨s1, zu, u, rfl, hzu, hu1, hu2, rfl⟩
theorem choosePivot_ok {P : Program} (hm : P.follows .mixedOrders = true) {fz : List Nat} {n : Nat} (hc : compFn P fz n = some c_slices_choosePivotCmpFunc_Entry) {α : Type} [Inhabited α] (F : Fam α) {fz' fz'' fz3 : List Nat} (hc3 : compFn P fz3 232 = some c_slices_medianAdjacentCmpFunc_Entry) (hc' : compFn P fz' 233 = some c_slices_medianCmpFunc_Entry) (hc'' : compFn P fz'' 253 = some c_slices_order2CmpFunc_Entry) (co : α → α → Int) (g : Nat) (pre cap : List Ce) (hcmp : CmpsA P F co g pre cap) (hF : F.id < F.σ.next) (d : Array α) (N a b c : Nat) (za zb : Int) (ha : za = a) (hb : zb = b) (hN : d.size = N) (h3 : b ≤ N) (hab : a + 8 ≤ b) (hx : N ≤ 34359738368) :
    Ok P n [.c (.sl F.id F.v 0 N c), .c (.int .i64 za), .c (.int .i64 zb), .c (.fn g pre cap)] (F.A d) (fun r τ => ∃ (zu h : Int) (u : Nat), τ = F.A d ∧ zu = u ∧ a ≤ u ∧ u < b ∧ r = .tup [.c (.int .i64 zu), .c (.int .i64 h)]) := by
  refine Ok.run hm hc (Nat.le_of_ble_eq_true rfl) fun hS hA => ?_
  clear hA
  have el : IntKind.i64.wrap (zb - za) = ((b - a : Nat) : Int) := by rw [wrap64 (by omega) (by omega)]; omega
  have e4 : IntKind.i64.wrap ((IntKind.i64.wrap (zb - za)).tdiv 4) = (((b - a) / 4 : Nat) : Int) := by rw [el, Int.tdiv_eq_ediv_of_nonneg (by omega), wrap64 (by omega) (by omega)]; omega
  have m1 : IntKind.i64.wrap (IntKind.i64.wrap ((IntKind.i64.wrap (zb - za)).tdiv 4) * 1) = (((b - a) / 4 * 1 : Nat) : Int) := by rw [e4, wrap64 (by omega) (by omega)]; omega
  have m2 : IntKind.i64.wrap (IntKind.i64.wrap ((IntKind.i64.wrap (zb - za)).tdiv 4) * 2) = (((b - a) / 4 * 2 : Nat) : Int) := by rw [e4, wrap64 (by omega) (by omega)]; omega
  have m3 : IntKind.i64.wrap (IntKind.i64.wrap ((IntKind.i64.wrap (zb - za)).tdiv 4) * 3) = (((b - a) / 4 * 3 : Nat) : Int) := by rw [e4, wrap64 (by omega) (by omega)]; omega
  have i1 : IntKind.i64.wrap (za + IntKind.i64.wrap (IntKind.i64.wrap ((IntKind.i64.wrap (zb - za)).tdiv 4) * 1)) = ((a + (b - a) / 4 * 1 : Nat) : Int) := by rw [m1, wrap64 (by omega) (by omega)]; omega
  have i2 : IntKind.i64.wrap (za + IntKind.i64.wrap (IntKind.i64.wrap ((IntKind.i64.wrap (zb - za)).tdiv 4) * 2)) = ((a + (b - a) / 4 * 2 : Nat) : Int) := by rw [m2, wrap64 (by omega) (by omega)]; omega
  have i3 : IntKind.i64.wrap (za + IntKind.i64.wrap (IntKind.i64.wrap ((IntKind.i64.wrap (zb - za)).tdiv 4) * 3)) = ((a + (b - a) / 4 * 3 : Nat) : Int) := by rw [m3, wrap64 (by omega) (by omega)]; omega
  have tail : ∀ (K : List AK) (s1 zu z9 : Int) (u : Nat), zu = u → a ≤ u → u < b → Go P (F.A d).next c_slices_choosePivotCmpFunc_Entry.nt c_slices_choosePivotCmpFunc_Entry.rets (fun r τ => ∃ (zu h : Int) (u : Nat), τ = F.A d ∧ zu = u ∧ a ≤ u ∧ u < b ∧ r = .tup [.c (.int .i64 zu), .c (.int .i64 h)]) (.code .ret :: K) [(8, .c (.int .i64 zu)), (9, .c (.int .i64 z9))] (E (F.A d) [(0, [[.int .i64 s1]])]) := fun K s1 zu z9 u h1 h2 h4 => by
    refine Go.freezeN (l := []) (m := [(0, [[.int .i64 s1]])]) (fr' := [(8, .c (.int .i64 zu)), (9, .c (.int .i64 z9))]) hS (fun b hb => by cases hb) (Nat.le_refl _) (.frz rfl (.refl old_c) (.frz rfl (.refl old_c) .nil)) ?_
    exact .ret rfl ⟨zu, z9, u, E_nil hS, h1, h2, h4, rfl⟩
  by_cases h50 : 50 ≤ b - a
  · repeat' first|refine yaN ?_|(exfalso;omega)|(refine yaS ?_ ?_<;>intro _)
    all_goals first
      | (exfalso; omega)
      | skip
    refine .call _ rfl rfl rfl (medianAdj_ok hm hc3 F hc' hc'' co g pre cap hcmp hF d N a b _ c _ _ i1 hN h3 (by omega) (by omega) hx) ?_
    rintro r τ ⟨s1, zu1, u1, rfl, hzu1, hu1, hu2, rfl⟩
    repeat' first|refine yaN ?_|(exfalso;omega)|(refine yaS ?_ ?_<;>intro _)
    refine .call _ rfl rfl rfl (medianAdj_ok hm hc3 F hc' hc'' co g pre cap hcmp hF d N a b _ c _ _ i2 hN h3 (by omega) (by omega) hx) ?_
    rintro r τ ⟨s2, zu2, u2, rfl, hzu2, hu3, hu4, rfl⟩
    repeat' first|refine yaN ?_|(exfalso;omega)|(refine yaS ?_ ?_<;>intro _)
    refine .call _ rfl rfl rfl (medianAdj_ok hm hc3 F hc' hc'' co g pre cap hcmp hF d N a b _ c _ _ i3 hN h3 (by omega) (by omega) hx) ?_
    rintro r τ ⟨s3, zu3, u3, rfl, hzu3, hu5, hu6, rfl⟩
    repeat' first|refine yaN ?_|(exfalso;omega)|(refine yaS ?_ ?_<;>intro _)
    refine .call _ rfl rfl rfl (median_ok hm hc' F hc'' co g pre cap hcmp hF d N a b _ _ _ c _ _ _ _ hzu1 hzu2 hzu3 hN h3 hu1 hu2 hu3 hu4 hu5 hu6) ?_
    rintro r τ ⟨s4, zu, u, rfl, hzu, hu7, hu8, rfl⟩
    repeat' first|refine yaN ?_|(exfalso;omega)|(refine yaS ?_ ?_<;>intro _)
    all_goals exact Go.keep [8, 9] (tail _ _ _ _ _ hzu hu7 hu8)
  · repeat' first|refine yaN ?_|(exfalso;omega)|(refine yaS ?_ ?_<;>intro _)
    all_goals first
      | (exfalso; omega)
      | skip
    refine .call _ rfl rfl rfl (median_ok hm hc' F hc'' co g pre cap hcmp hF d N a b _ _ _ c _ _ _ _ i1 i2 i3 hN h3 (by omega) (by omega) (by omega) (by omega) (by omega) (by omega)) ?_
    rintro r τ ⟨s4, zu, u, rfl, hzu, hu7, hu8, rfl⟩
    repeat' first|refine yaN ?_|(exfalso;omega)|(refine yaS ?_ ?_<;>intro _)
    all_goals exact Go.keep [8, 9] (tail _ _ _ _ _ hzu hu7 hu8)
end Go.Proofs.YtdgnfdljkghpjaaGreat.Am

/- pdqsort's functions walked: numbers' lengths, the patterns broken. -/
set_option linter.unusedVariables false
set_option linter.unusedSimpArgs false
namespace Go.Proofs.YtdgnfdljkghpjaaGreat.Am
open Go.Sort (swp)

def lenTab : List UInt8 := [0, 1, 2, 2, 3, 3, 3, 3, 4, 4, 4, 4, 4, 4, 4, 4, 5, 5, 5, 5, 5, 5, 5, 5, 5, 5, 5, 5, 5, 5, 5, 5, 6, 6, 6, 6, 6, 6, 6, 6, 6, 6, 6, 6, 6, 6, 6, 6, 6, 6, 6, 6, 6, 6, 6, 6, 6, 6, 6, 6, 6, 6, 6, 6, 7, 7, 7, 7, 7, 7, 7, 7, 7, 7, 7, 7, 7, 7, 7, 7, 7, 7, 7, 7, 7, 7, 7, 7, 7, 7, 7, 7, 7, 7, 7, 7, 7, 7, 7, 7, 7, 7, 7, 7, 7, 7, 7, 7, 7, 7, 7, 7, 7, 7, 7, 7, 7, 7, 7, 7, 7, 7, 7, 7, 7, 7, 7, 7, 8, 8, 8, 8, 8, 8, 8, 8, 8, 8, 8, 8, 8, 8, 8, 8, 8, 8, 8, 8, 8, 8, 8, 8, 8, 8, 8, 8, 8, 8, 8, 8, 8, 8, 8, 8, 8, 8, 8, 8, 8, 8, 8, 8, 8, 8, 8, 8, 8, 8, 8, 8, 8, 8, 8, 8, 8, 8, 8, 8, 8, 8, 8, 8, 8, 8, 8, 8, 8, 8, 8, 8, 8, 8, 8, 8, 8, 8, 8, 8, 8, 8, 8, 8, 8, 8, 8, 8, 8, 8, 8, 8, 8, 8, 8, 8, 8, 8, 8, 8, 8, 8, 8, 8, 8, 8, 8, 8, 8, 8, 8, 8, 8, 8, 8, 8, 8, 8, 8, 8, 8, 8, 8, 8, 8, 8, 8, 8]
theorem lenTab_len : lenTab.length = 256 := by kernel_rfl
theorem lenTab_all : (List.range 256).all (fun n => (lenTab[n]?.getD 0).toNat == Go.Sort.bitsLen n) = true := by kernel_rfl
theorem lenTab_at {n : Nat} (h : n < 256) : (lenTab[n]?.getD 0).toNat = Go.Sort.bitsLen n := by
  have := List.all_eq_true.1 lenTab_all n (List.mem_range.2 h)
  simpa using this
theorem Len64_ok (n : Nat) (hn : n < 256) : Pure Tryz.prog 198 [.c (.int .u64 n)] (.c (.int .i64 (Go.Sort.bitsLen n : Nat))) := by
  refine Pure.run mixed c_bits_Len64_ok (Nat.le_of_ble_eq_true rfl) fun σ hS hA => ?_
  clear hS hA
  have hw : IntKind.u8.wrap (n : Int) = (n : Int) := by
    simp only [IntKind.wrap]
    simp [IntKind.bits, IntKind.signed]
    omega
  have hl : n < lenTab.length := by rw [lenTab_len]; exact hn
  have ht : (lenTab[n].toNat : Int) = (Go.Sort.bitsLen n : Nat) := by
    have := lenTab_at hn
    rw [List.getElem?_eq_getElem hl, Option.getD_some] at this
    rw [this]
  have hb : Go.Sort.bitsLen n ≤ 8 := (Go.Sort.bitsLen_le_iff n 8).2 hn
  repeat' first|refine yaG ?_|((first|apply yG|apply yH|apply yI);exact rfl;(first|exact aop_idxS (s := lenTab) rfl rfl hw hl))|(exfalso;omega)|(refine yaS ?_ ?_<;>intro _)
  all_goals first
    | (exfalso; omega)
    | skip
  rw [ht]
  refine .ret rfl (.int ?_)
  rw [wrap64 (n := ((Go.Sort.bitsLen n : Nat) : Int)) (by omega) (by omega), wrap64 (by omega) (by omega)]
  omega
theorem Len_ok (n : Nat) (hn : n < 256) : Pure Tryz.prog 145 [.c (.int .u64 n)] (.c (.int .i64 (Go.Sort.bitsLen n : Nat))) := by
  refine Pure.run mixed c_bits_Len_ok (Nat.le_of_ble_eq_true rfl) fun σ hS hA => ?_
  clear hS hA
  repeat' first|refine yaG ?_|refine yaC (Len64_ok n hn) ?_|(exfalso;omega)|(refine yaS ?_ ?_<;>intro _)
  exact .ret rfl (.int rfl)
theorem nextPow_ok (z : Int) (n : Nat) (hz : z = n) (hn : n < 256) : Pure Tryz.prog 230 [.c (.int .i64 z)] (.c (.int .u64 (2 ^ Go.Sort.bitsLen n : Nat))) := by
  refine Pure.run mixed c_slices_nextPowerOfTwo_ok (Nat.le_of_ble_eq_true rfl) fun σ hS hA => ?_
  clear hS hA
  have hw : IntKind.u64.wrap z = (n : Int) := by
    rw [hz]
    simp only [IntKind.wrap]
    simp [IntKind.bits, IntKind.signed]
    omega
  have hb : Go.Sort.bitsLen n ≤ 8 := (Go.Sort.bitsLen_le_iff n 8).2 hn
  have c1 := Len_ok n hn
  rw [← hw] at c1
  have h0 : (0 : Int) ≤ ((Go.Sort.bitsLen n : Nat) : Int) := by omega
  repeat' first|refine yaG ?_|refine yaC (c1) ?_|(exfalso;omega)|(refine yaS ?_ ?_<;>intro _)
  refine .ret rfl (.int ?_)
  rw [Int.toNat_natCast, Nat.min_eq_left (Nat.le_trans hb (by decide)), Int.one_mul]
  have h2 : 2 ^ Go.Sort.bitsLen n ≤ 2 ^ 8 := Nat.pow_le_pow_right (by decide) hb
  rw [show ((2 : Int) ^ Go.Sort.bitsLen n) = ((2 ^ Go.Sort.bitsLen n : Nat) : Int) by simp]
  generalize 2 ^ Go.Sort.bitsLen n = k at h2 ⊢
  simp only [IntKind.wrap]
  simp [IntKind.bits, IntKind.signed]
  omega
theorem Next_ok (v : Int) (σ : Store) : Ok Tryz.prog 231 [.c (.ptr (σ.next + 0) 0 0 0)] (E σ [(0, [[.int .u64 v]])]) (fun r τ => ∃ w : Int, r = .c (.int .u64 w) ∧ τ = E σ [(0, [[.int .u64 w]])]) := by
  refine .of_go mixed c_slices_xorshift_Next_ok (Nat.le_of_ble_eq_true rfl) ?_
  repeat' first|refine yaN ?_|(exfalso;omega)|(refine yaS ?_ ?_<;>intro _)
  exact .ret rfl ⟨_, rfl, rfl⟩
theorem and_in (w : Int) (M : Nat) (h1 : 1 ≤ M) (h2 : M ≤ 512) : ∃ k : Nat, k < M ∧ IntKind.i64.wrap (IntKind.u64.wrap ((BitVec.ofInt IntKind.u64.bits w &&& BitVec.ofInt IntKind.u64.bits (IntKind.u64.wrap ((M : Nat) - 1 : Int))).toNat : Int)) = (k : Int) := by
  have hw : IntKind.u64.wrap ((M : Nat) - 1 : Int) = ((M - 1 : Nat) : Int) := by
    simp only [IntKind.wrap]
    simp [IntKind.bits, IntKind.signed]
    omega
  rw [hw]
  have hk : (BitVec.ofInt IntKind.u64.bits w &&& BitVec.ofInt IntKind.u64.bits ((M - 1 : Nat) : Int)).toNat ≤ M - 1 := by
    rw [BitVec.toNat_and]
    refine Nat.le_trans Nat.and_le_right ?_
    rw [BitVec.ofInt_natCast, BitVec.toNat_ofNat]
    exact Nat.mod_le _ _
  generalize (BitVec.ofInt IntKind.u64.bits w &&& BitVec.ofInt IntKind.u64.bits ((M - 1 : Nat) : Int)).toNat = k at hk ⊢
  refine ⟨k, by omega, ?_⟩
  have h3 : IntKind.u64.wrap (k : Int) = (k : Int) := by
    simp only [IntKind.wrap]
    simp [IntKind.bits, IntKind.signed]
    omega
  rw [h3, wrap64 (by omega) (by omega)]
theorem oldA {α : Type} [Inhabited α] {F : Fam α} {d q : Array α} (hF : F.id < F.σ.next) (h : OldS (F.A d)) (hm : ∀ x ∈ q.toList, x ∈ d.toList) : OldS (F.A q) := by
  intro id y hy
  by_cases e : id = F.id
  · subst e
    have hy2 : (F.v, q.toList.map F.ce ++ F.junk) = y := by
      have : (F.A q).get F.id = some (F.v, q.toList.map F.ce ++ F.junk) := if_pos rfl
      rw [this] at hy
      exact Option.some.inj hy
    subst hy2
    refine ⟨hF, fun i j hi hj => ?_⟩
    have key : ∀ e ∈ q.toList.map F.ce ++ F.junk, ∀ x ∈ e, Old (F.A q).next x := by
      have hd : (F.A d).get F.id = some (F.v, d.toList.map F.ce ++ F.junk) := if_pos rfl
      have ho := (h _ _ hd).2
      have ho2 : ∀ e ∈ d.toList.map F.ce ++ F.junk, ∀ x ∈ e, Old (F.A d).next x := fun e he x hx => by
        obtain ⟨i, hi, rfl⟩ := List.getElem_of_mem he
        obtain ⟨j, hj, rfl⟩ := List.getElem_of_mem hx
        exact ho i j hi hj
      intro e he x hx
      rcases List.mem_append.1 he with he | he
      · obtain ⟨a, ha, rfl⟩ := List.mem_map.1 he
        exact ho2 _ (List.mem_append_left _ (List.mem_map_of_mem (hm a ha))) x hx
      · exact ho2 e (List.mem_append_right _ he) x hx
    exact key _ (List.getElem_mem hi) _ (List.getElem_mem hj)
  · have h1 : (F.A q).get id = F.σ.get id := if_neg e
    have h2 : (F.A d).get id = F.σ.get id := if_neg e
    rw [h1, ← h2] at hy
    exact h id y hy
theorem permIn_mem {α : Type} [Inhabited α] {a b : Nat} {d q : Array α} (hb : b ≤ d.size) (h : Go.Sort.PermIn a b d q) : ∀ x ∈ q.toList, x ∈ d.toList := by
  intro x hx
  obtain ⟨i, hi, rfl⟩ := List.getElem_of_mem hx
  have hi2 : i < q.size := by simpa using hi
  have e : q.toList[i] = q[i]! := by rw [Array.getElem_toList, getElem!_pos q i hi2]
  rw [e]
  have mem : ∀ k, k < d.size → d[k]! ∈ d.toList := fun k hk => by
    rw [getElem!_pos d k hk, ← Array.getElem_toList]
    exact List.getElem_mem _
  by_cases hin : a ≤ i ∧ i < b
  · exact Go.Sort.permIn_all d q a b (fun x => x ∈ d.toList) hb h (fun k _ hk => mem k (by omega)) i hin.1 hin.2
  · rw [h.2.1 i (by omega)]
    exact mem i (by rw [← h.1]; exact hi2)
theorem break_ok {fz : List Nat} {n : Nat} (hc : compFn Tryz.prog fz n = some c_slices_breakPatternsCmpFunc_Entry) {α : Type} [Inhabited α] (F : Fam α) (hF : F.id < F.σ.next) (d : Array α) (N a b c : Nat) (za zb : Int) (ha : za = a) (hb : zb = b) (f : Ce) (hN : d.size = N) (h3 : b ≤ N) (hab : a + 8 ≤ b) (hx : N ≤ 255) :
    Ok Tryz.prog n [.c (.sl F.id F.v 0 N c), .c (.int .i64 za), .c (.int .i64 zb), .c f] (F.A d) (fun r τ => r = .tup [] ∧ ∃ q, τ = F.A q ∧ Go.Sort.PermIn a b d q) := by
  refine Ok.run mixed hc (Nat.le_of_ble_eq_true rfl) fun hS hA => ?_
  clear hA
  have el : IntKind.i64.wrap (zb - za) = ((b - a : Nat) : Int) := by rw [wrap64 (by omega) (by omega)]; omega
  have hbl := Go.Sort.two_pow_bitsLen_le (n := b - a) (by omega)
  have hbp : 1 ≤ 2 ^ Go.Sort.bitsLen (b - a) := Nat.one_le_two_pow
  have cN := nextPow_ok (IntKind.i64.wrap (zb - za)) (b - a) el (by omega)
  have e4 : IntKind.i64.wrap ((IntKind.i64.wrap (zb - za)).tdiv 4) = (((b - a) / 4 : Nat) : Int) := by rw [el, Int.tdiv_eq_ediv_of_nonneg (by omega), wrap64 (by omega) (by omega)]; omega
  have m2 : IntKind.i64.wrap (IntKind.i64.wrap ((IntKind.i64.wrap (zb - za)).tdiv 4) * 2) = (((b - a) / 4 * 2 : Nat) : Int) := by rw [e4, wrap64 (by omega) (by omega)]; omega
  have i2 : IntKind.i64.wrap (za + IntKind.i64.wrap (IntKind.i64.wrap ((IntKind.i64.wrap (zb - za)).tdiv 4) * 2)) = ((a + (b - a) / 4 * 2 : Nat) : Int) := by rw [m2, wrap64 (by omega) (by omega)]; omega
  have i3 : IntKind.i64.wrap (IntKind.i64.wrap (za + IntKind.i64.wrap (IntKind.i64.wrap ((IntKind.i64.wrap (zb - za)).tdiv 4) * 2)) - 1) = ((a + (b - a) / 4 * 2 - 1 : Nat) : Int) := by rw [i2, wrap64 (by omega) (by omega)]; omega
  have i4 : IntKind.i64.wrap (IntKind.i64.wrap (za + IntKind.i64.wrap (IntKind.i64.wrap ((IntKind.i64.wrap (zb - za)).tdiv 4) * 2)) + 1) = ((a + (b - a) / 4 * 2 + 1 : Nat) : Int) := by rw [i2, wrap64 (by omega) (by omega)]; omega
  generalize 2 ^ Go.Sort.bitsLen (b - a) = M at cN hbl hbp
  repeat' first|refine yaN ?_|refine yaC (cN) ?_|(exfalso;omega)|(refine yaS ?_ ?_<;>intro _)
  all_goals first
    | (exfalso; omega)
    | skip
  clear cN m2 e4
  refine Go.keep [0, 1, 8, 9, 10, 11] (Go.loops (I := fun mm fr τ => ∃ (i : Nat) (zi v : Int) (q : Array α), mm = b - i ∧ a ≤ i ∧ i ≤ a + (b - a) / 4 * 2 + 2 ∧ zi = i ∧ Go.Sort.PermIn a b d q ∧
    fr = [(0, .c (.sl F.id F.v 0 N c)), (1, .c (.int .i64 za)), (8, .c (.int .i64 (IntKind.i64.wrap (zb - za)))), (9, .c (.ptr ((F.A d).next + 0) 0 0 0)), (10, .c (.int .u64 (M : Nat))), (11, .c (.int .i64 zi))] ∧ τ = E (F.A q) [(0, [[.int .u64 v]])]) ?_ _ _ _ ⟨_, _, _, d, rfl, by omega, by omega, i3, Go.Sort.permIn_refl d a b, rfl, rfl⟩)
  rintro mm fr τ ⟨i, zi, v, q, rfl, hai, hib, hzi, hp, rfl, rfl⟩ hrec
  have hq : q.size = N := hp.1.trans hN
  by_cases hlt : i ≤ a + (b - a) / 4 * 2 + 1
  · repeat' first|refine yaN ?_|(exfalso;omega)|(refine yaS ?_ ?_<;>intro _)
    all_goals first
      | (exfalso; omega)
      | skip
    refine .call _ rfl rfl rfl (Next_ok v (F.A q)) ?_
    rintro r τ ⟨w, rfl, rfl⟩
    obtain ⟨k, hk1, hk2⟩ := and_in w M hbp (by omega)
    have hiq : i < q.size := by omega
    have fin : ∀ (o : Nat) (u : Int), o < b - a → Go.Sort.PermIn a b d (swp q i (a + o)) := fun o u ho =>
      Go.Sort.permIn_trans _ _ _ a b hp (Go.Sort.swp_permIn q a b i (a + o) hai (by omega) (by omega) (by omega) (by omega))
    by_cases hkl : b - a ≤ k
    · have eo : IntKind.i64.wrap (IntKind.i64.wrap (IntKind.u64.wrap ((BitVec.ofInt IntKind.u64.bits w &&& BitVec.ofInt IntKind.u64.bits (IntKind.u64.wrap ((M : Nat) - 1 : Int))).toNat : Int)) - IntKind.i64.wrap (zb - za)) = ((k - (b - a) : Nat) : Int) := by rw [hk2, el, wrap64 (by omega) (by omega)]; omega
      have ea : IntKind.i64.wrap (za + IntKind.i64.wrap (IntKind.i64.wrap (IntKind.u64.wrap ((BitVec.ofInt IntKind.u64.bits w &&& BitVec.ofInt IntKind.u64.bits (IntKind.u64.wrap ((M : Nat) - 1 : Int))).toNat : Int)) - IntKind.i64.wrap (zb - za))) = ((a + (k - (b - a)) : Nat) : Int) := by rw [eo, wrap64 (by omega) (by omega)]; omega
      have hoq : a + (k - (b - a)) < q.size := by omega
      repeat' first|(apply yA;exact rfl)|apply yC|((first|apply yG|apply yH|apply yI);exact rfl;(first|exact yJ|exact yK rfl rfl|exact yL rfl|exact yM rfl|exact rfl|exact aL rfl rfl rfl rfl rfl|exact aS rfl rfl rfl rfl rfl rfl rfl))|((first|apply yN|apply yO|apply yP);exact rfl)|(exfalso;omega)|(((first|apply yT|apply yU|apply yV|apply yW);exact rfl;(first|exact .d|exact .e|exact .n|((fail_if_success exact bqt);(fail_if_success exact bqf);exact .b)))<;>intro _)
      all_goals first
        | (exfalso; omega)
        | skip
      refine Go.qw (fun F' τ => Go Tryz.prog (F.A d).next _ _ _ (.segs _ :: _) F' τ) ?_ fun _ _ h => h
      repeat' first|(apply Qw.op;exact rfl;exact fun _ => rfl)|(apply Qw.rd;exact rfl;exact rfl;first|exact aop_aiE (F := F) hF rfl rfl hzi hq hiq|exact aop_aiE (F := F) hF rfl rfl ea hq hoq|exact aop_alE (F := F) hF rfl hiq|exact aop_alE (F := F) hF rfl hoq)|(apply Qw.wr;exact rfl;exact rfl;exact aop_asE (F := F) hF rfl rfl hiq)|apply Qw.nil
      repeat' first|refine yaN ?_|((first|apply yG|apply yH|apply yI);exact rfl;(first|exact aop_aiE (F := F) hF rfl rfl ea (Array.size_setIfInBounds.trans hq) (by rw [Array.size_setIfInBounds];exact hoq)|exact aop_asE (F := F) hF rfl rfl (by rw [Array.size_setIfInBounds];exact hoq)))|(exfalso;omega)|(refine yaS ?_ ?_<;>intro _)
      exact Go.keep [0, 1, 8, 9, 10, 11] (hrec _ _ _ (by omega) ⟨i + 1, _, w, swp q i (a + (k - (b - a))), rfl, by omega, by omega, wrap_succ hzi (by omega), fin _ w (by omega), rfl, rfl⟩)
    · have ea : IntKind.i64.wrap (za + IntKind.i64.wrap (IntKind.u64.wrap ((BitVec.ofInt IntKind.u64.bits w &&& BitVec.ofInt IntKind.u64.bits (IntKind.u64.wrap ((M : Nat) - 1 : Int))).toNat : Int))) = ((a + k : Nat) : Int) := by rw [hk2, wrap64 (by omega) (by omega)]; omega
      have hoq : a + k < q.size := by omega
      repeat' first|(apply yA;exact rfl)|apply yC|((first|apply yG|apply yH|apply yI);exact rfl;(first|exact yJ|exact yK rfl rfl|exact yL rfl|exact yM rfl|exact rfl|exact aL rfl rfl rfl rfl rfl|exact aS rfl rfl rfl rfl rfl rfl rfl))|((first|apply yN|apply yO|apply yP);exact rfl)|(exfalso;omega)|(((first|apply yT|apply yU|apply yV|apply yW);exact rfl;(first|exact .d|exact .e|exact .n|((fail_if_success exact bqt);(fail_if_success exact bqf);exact .b)))<;>intro _)
      all_goals first
        | (exfalso; omega)
        | skip
      refine Go.qw (fun F' τ => Go Tryz.prog (F.A d).next _ _ _ (.segs _ :: _) F' τ) ?_ fun _ _ h => h
      repeat' first|(apply Qw.op;exact rfl;exact fun _ => rfl)|(apply Qw.rd;exact rfl;exact rfl;first|exact aop_aiE (F := F) hF rfl rfl hzi hq hiq|exact aop_aiE (F := F) hF rfl rfl ea hq hoq|exact aop_alE (F := F) hF rfl hiq|exact aop_alE (F := F) hF rfl hoq)|(apply Qw.wr;exact rfl;exact rfl;exact aop_asE (F := F) hF rfl rfl hiq)|apply Qw.nil
      repeat' first|refine yaN ?_|((first|apply yG|apply yH|apply yI);exact rfl;(first|exact aop_aiE (F := F) hF rfl rfl ea (Array.size_setIfInBounds.trans hq) (by rw [Array.size_setIfInBounds];exact hoq)|exact aop_asE (F := F) hF rfl rfl (by rw [Array.size_setIfInBounds];exact hoq)))|(exfalso;omega)|(refine yaS ?_ ?_<;>intro _)
      exact Go.keep [0, 1, 8, 9, 10, 11] (hrec _ _ _ (by omega) ⟨i + 1, _, w, swp q i (a + k), rfl, by omega, by omega, wrap_succ hzi (by omega), fin _ w (by omega), rfl, rfl⟩)
  · repeat' first|refine yaN ?_|(exfalso;omega)|(refine yaS ?_ ?_<;>intro _)
    all_goals first
      | (exfalso; omega)
      | skip
    refine Go.keep [0] ?_
    refine Go.freezeN (l := []) (m := [(0, [[.int .u64 v]])]) (fr' := []) (oldA hF hS (permIn_mem (by omega) hp)) (fun b hb => by cases hb) (Nat.le_refl _) .nil ?_
    exact .fin rfl ⟨rfl, q, E_nil (oldA hF hS (permIn_mem (by omega) hp)), hp⟩
end Go.Proofs.YtdgnfdljkghpjaaGreat.Am

/- pdqsort walked. -/
set_option linter.unusedVariables false
set_option linter.unusedSimpArgs false
namespace Go.Proofs.YtdgnfdljkghpjaaGreat.Am
open Go.Sort (swp)

set_option maxHeartbeats 4000000 in
theorem pdq_ok {α : Type} [Inhabited α] (F : Fam α) (co : α → α → Int) (g : Nat) (pre cap : List Ce) (hcmp : CmpsA Tryz.prog F co g pre cap) (hF : F.id < F.σ.next) (hSW : Go.Sort.SWO (lessA co)) (N c : Nat) (hx : N ≤ 255) :
    ∀ (m : Nat) (d : Array α) (a b : Nat) (za zb zl : Int), b - a = m → za = a → zb = b → d.size = N → a ≤ b → b ≤ N → Go.Sort.Below (lessA co) a b d →
    Ok Tryz.prog 144 [.c (.sl F.id F.v 0 N c), .c (.int .i64 za), .c (.int .i64 zb), .c (.int .i64 zl), .c (.fn g pre cap)] (F.A d) (fun r τ => r = .tup [] ∧ ∃ R, τ = F.A R ∧ Go.Sort.PermIn a b d R ∧ Go.Sort.SortedIn (lessA co) a b R) := by
  intro m
  induction m using Nat.strongRecOn with
  | _ m ih =>
  intro d a b za zb zl hm ha hb hN hab h3 hB
  refine .of_go mixed c_slices_pdqsortCmpFunc_Entry_ok (Nat.le_of_ble_eq_true rfl) ?_
  repeat' first|refine yaG ?_|(exfalso;omega)|(refine yaS ?_ ?_<;>intro _)
  refine Go.keep [0, 1, 2, 3, 4, 10, 11] (Go.loops (I := fun mm fr τ => ∃ (a' b' : Nat) (za' zb' zl : Int) (wb wp : Bool) (q : Array α), mm = b' - a' ∧ b' - a' ≤ m ∧ a' ≤ b' ∧ b' ≤ N ∧ za' = a' ∧ zb' = b' ∧ q.size = N ∧ Go.Sort.Below (lessA co) a' b' q ∧
    (∀ R, Go.Sort.PermIn a' b' q R → Go.Sort.SortedIn (lessA co) a' b' R → Go.Sort.PermIn a b d R ∧ Go.Sort.SortedIn (lessA co) a b R) ∧
    fr = [(0, .c (.sl F.id F.v 0 N c)), (1, .c (.int .i64 za')), (2, .c (.int .i64 zb')), (3, .c (.int .i64 zl)), (4, .c (.fn g pre cap)), (10, .c (.bool wb)), (11, .c (.bool wp))] ∧ τ = F.A q) ?_ _ _ _ ⟨a, b, _, _, _, _, _, d, rfl, by omega, hab, h3, ha, hb, hN, hB, fun R h1 h2 => ⟨h1, h2⟩, rfl, rfl⟩)
  clear ha hb hN hB hab h3 hm
  rintro mm fr τ ⟨a', b', za', zb', zl, wb, wp, q, rfl, hm, hab, hbN, hza, hzb, hq, hB, hres, rfl, rfl⟩ hrec
  have el : IntKind.i64.wrap (zb' - za') = ((b' - a' : Nat) : Int) := by rw [wrap64 (by omega) (by omega)]; omega
  by_cases h12 : b' - a' ≤ 12
  · have ci := insertionA_ok mixed c_slices_insertionSortCmpFunc_Entry_ok F co g pre cap hcmp q N a' b' c za' zb' hza hzb hq hab hbN (by omega)
    obtain ⟨p1, p2⟩ := Go.Sort.insertionSort_holds hSW q a' b' hab (by omega)
    repeat' first|refine yaG ?_|(exfalso;omega)|(refine yaS ?_ ?_<;>intro _)
    all_goals first
      | (exfalso; omega)
      | skip
    refine .call _ rfl rfl rfl ci ?_
    rintro r τ ⟨rfl, rfl⟩
    repeat' first|refine yaG ?_|(exfalso;omega)|(refine yaS ?_ ?_<;>intro _)
    exact .ret rfl ⟨rfl, _, rfl, hres _ p1 p2⟩
  have h25 : decide (IntKind.i64.wrap (zb' - za') ≤ 12) = false := decide_eq_false (by omega)
  by_cases hl0 : zl = 0
  · subst hl0
    have ci := heapSort_ok mixed c_slices_heapSortCmpFunc_Entry_ok F c_slices_siftDownCmpFunc_Entry_ok co g pre cap hcmp q N a' b' c za' zb' hza hzb hq (by omega) hbN (by omega)
    obtain ⟨p1, p2⟩ := Go.Sort.heapSort_holds hSW q a' b' hab (by omega)
    repeat' first|refine yaG ?_|(exfalso;omega)|(refine yaS ?_ ?_<;>intro _)
    all_goals first
      | (exfalso; omega)
      | skip
    refine .call _ rfl rfl rfl ci ?_
    rintro r τ ⟨rfl, rfl⟩
    repeat' first|refine yaG ?_|(exfalso;omega)|(refine yaS ?_ ?_<;>intro _)
    exact .ret rfl ⟨rfl, _, rfl, hres _ p1 p2⟩
  have h32 : (zl == 0) = false := by simp [hl0]
  repeat' first|refine yaG ?_|fail
  rw [h25]
  repeat' first|refine yaG ?_|fail
  rw [h32]
  repeat' first|refine yaG ?_|fail
  refine Go.meet (K' := [_]) (fun fr τ => ∃ (q1 : Array α) (zl1 : Int), Go.Sort.PermIn a' b' q q1 ∧ fr = [(0, .c (.sl F.id F.v 0 N c)), (1, .c (.int .i64 za')), (2, .c (.int .i64 zb')), (3, .c (.int .i64 zl1)), (4, .c (.fn g pre cap)), (10, .c (.bool wb)), (11, .c (.bool wp)), (12, .c (.int .i64 (IntKind.i64.wrap (zb' - za'))))] ∧ τ = F.A q1) (fun K hmt => ?_) ?_
  · cases wb
    · repeat' first|refine yaG ?_|(exfalso;omega)|(refine yaS ?_ ?_<;>intro _)
      refine .call _ rfl rfl rfl (break_ok c_slices_breakPatternsCmpFunc_Entry_ok F hF q N a' b' c za' zb' hza hzb (.fn g pre cap) hq hbN (by omega) (by omega)) ?_
      rintro r τ ⟨rfl, q1, rfl, hp1⟩
      repeat' first|refine yaG ?_|(exfalso;omega)|(refine yaS ?_ ?_<;>intro _)
      exact Go.keep [0, 1, 2, 3, 4, 10, 11, 12] (hmt _ _ ⟨q1, _, hp1, rfl, rfl⟩)
    · repeat' first|refine yaG ?_|(exfalso;omega)|(refine yaS ?_ ?_<;>intro _)
      exact Go.keep [0, 1, 2, 3, 4, 10, 11, 12] (hmt _ _ ⟨q, _, Go.Sort.permIn_refl q a' b', rfl, rfl⟩)
  rintro fr τ ⟨q1, zl1, hp1, rfl, rfl⟩
  have hq1 : q1.size = N := hp1.1.trans hq
  have hB1 := hB.perm (by omega) hp1
  repeat' first|refine yaG ?_|(exfalso;omega)|(refine yaS ?_ ?_<;>intro _)
  refine .call _ rfl rfl rfl (choosePivot_ok mixed c_slices_choosePivotCmpFunc_Entry_ok F c_slices_medianAdjacentCmpFunc_Entry_ok c_slices_medianCmpFunc_Entry_ok c_slices_order2CmpFunc_Entry_ok co g pre cap hcmp hF q1 N a' b' c za' zb' hza hzb hq1 hbN (by omega) (by omega)) ?_
  rintro r τ ⟨zp, h, u, rfl, hzp, hu1, hu2, rfl⟩
  repeat' first|refine yaG ?_|fail
  refine Go.meet (K' := [_]) (fun fr τ => ∃ (q2 : Array α) (zp2 h2 : Int) (u2 : Nat), Go.Sort.PermIn a' b' q1 q2 ∧ zp2 = u2 ∧ a' ≤ u2 ∧ u2 < b' ∧ fr = [(0, .c (.sl F.id F.v 0 N c)), (1, .c (.int .i64 za')), (2, .c (.int .i64 zb')), (3, .c (.int .i64 zl1)), (4, .c (.fn g pre cap)), (10, .c (.bool wb)), (11, .c (.bool wp)), (12, .c (.int .i64 (IntKind.i64.wrap (zb' - za')))), (13, .c (.int .i64 zp2)), (14, .c (.int .i64 h2))] ∧ τ = F.A q2) (fun K hmt => ?_) ?_
  · by_cases hh : h = 2
    · subst hh
      have cr := reverse_ok mixed c_slices_reverseRangeCmpFunc_Entry_ok F q1 N a' b' c za' zb' hza hzb (.fn g pre cap) hq1 (by omega) hbN (by omega)
      repeat' first|refine yaG ?_|(exfalso;omega)|(refine yaS ?_ ?_<;>intro _)
      refine .call _ rfl rfl rfl cr ?_
      rintro r τ ⟨rfl, rfl⟩
      repeat' first|refine yaG ?_|(exfalso;omega)|(refine yaS ?_ ?_<;>intro _)
      refine Go.keep [0, 1, 2, 3, 4, 10, 11, 12, 13, 14] (hmt _ _ ⟨_, _, _, (b' - 1) - (u - a'), Go.Sort.reverseRange_holds q1 a' b' hab (by omega), ?_, by omega, by omega, rfl, rfl⟩)
      have x1 : IntKind.i64.wrap (zb' - 1) = ((b' - 1 : Nat) : Int) := by rw [wrap64 (by omega) (by omega)]; omega
      have x2 : IntKind.i64.wrap (zp - za') = ((u - a' : Nat) : Int) := by rw [wrap64 (by omega) (by omega)]; omega
      rw [x1, x2, wrap64 (by omega) (by omega)]
      omega
    · repeat' first|refine yaG ?_|(exfalso;omega)|(refine yaS ?_ ?_<;>intro _)
      all_goals first
        | contradiction
        | (exfalso; omega)
        | skip
      exact Go.keep [0, 1, 2, 3, 4, 10, 11, 12, 13, 14] (hmt _ _ ⟨_, _, _, u, Go.Sort.permIn_refl q1 a' b', hzp, hu1, hu2, rfl, rfl⟩)
  rintro fr τ ⟨q2, zp2, h2, u2, hp2, hzp2, hu3, hu4, rfl, rfl⟩
  have hq2 : q2.size = N := hp2.1.trans hq1
  have hB2 := hB1.perm (by omega) hp2
  clear hzp hu1 hu2
  apply Go.seq
  refine Go.meet (K' := [_]) (fun fr τ => ∃ (q3 : Array α), Go.Sort.PermIn a' b' q2 q3 ∧ fr = [(0, .c (.sl F.id F.v 0 N c)), (1, .c (.int .i64 za')), (2, .c (.int .i64 zb')), (3, .c (.int .i64 zl1)), (4, .c (.fn g pre cap)), (10, .c (.bool wb)), (11, .c (.bool wp)), (12, .c (.int .i64 (IntKind.i64.wrap (zb' - za')))), (13, .c (.int .i64 zp2))] ∧ τ = F.A q3) (fun K hmt => ?_) ?_
  · cases wb
    · repeat' first|refine yaG ?_|(exfalso;omega)|(refine yaS ?_ ?_<;>intro _)
      exact Go.keep [0, 1, 2, 3, 4, 10, 11, 12, 13] (hmt _ _ ⟨q2, Go.Sort.permIn_refl q2 a' b', rfl, rfl⟩)
    cases wp
    · repeat' first|refine yaG ?_|(exfalso;omega)|(refine yaS ?_ ?_<;>intro _)
      exact Go.keep [0, 1, 2, 3, 4, 10, 11, 12, 13] (hmt _ _ ⟨q2, Go.Sort.permIn_refl q2 a' b', rfl, rfl⟩)
    by_cases hh : h2 = 1
    · subst hh
      obtain ⟨p1, p2⟩ := Go.Sort.partialInsertionSort_holds hSW q2 a' b' (by omega) (by omega) hB2
      have cp := partial_ok mixed c_slices_partialInsertionSortCmpFunc_Entry_ok F co g pre cap hcmp q2 N a' b' c za' zb' hza hzb hq2 (by omega) hbN (by omega)
      generalize Go.Sort.partialInsertionSort (lessA co) q2 a' b' = X at p1 p2 cp
      obtain ⟨q3, is⟩ := X
      repeat' first|refine yaG ?_|(exfalso;omega)|(refine yaS ?_ ?_<;>intro _)
      refine .call _ rfl rfl rfl cp ?_
      rintro r τ ⟨rfl, rfl⟩
      cases is
      · repeat' first|refine yaG ?_|(exfalso;omega)|(refine yaS ?_ ?_<;>intro _)
        exact Go.keep [0, 1, 2, 3, 4, 10, 11, 12, 13] (hmt _ _ ⟨q3, p1, rfl, rfl⟩)
      · repeat' first|refine yaG ?_|(exfalso;omega)|(refine yaS ?_ ?_<;>intro _)
        exact .ret rfl ⟨rfl, q3, rfl, hres _ (Go.Sort.permIn_trans _ _ _ a' b' (Go.Sort.permIn_trans _ _ _ a' b' hp1 hp2) p1) (p2 rfl)⟩
    · repeat' first|refine yaG ?_|(exfalso;omega)|(refine yaS ?_ ?_<;>intro _)
      all_goals first
        | contradiction
        | (exfalso; omega)
        | skip
      exact Go.keep [0, 1, 2, 3, 4, 10, 11, 12, 13] (hmt _ _ ⟨q2, Go.Sort.permIn_refl q2 a' b', rfl, rfl⟩)
  rintro fr τ ⟨q3, hp3, rfl, rfl⟩
  have hq3 : q3.size = N := hp3.1.trans hq2
  have hB3 := hB2.perm (by omega) hp3
  have hp := Go.Sort.permIn_trans _ _ _ a' b' (Go.Sort.permIn_trans _ _ _ a' b' hp1 hp2) hp3
  clear hp1 hp2 hp3 hq1 hq2 hB1 hB2 hB
  have huq : u2 < q3.size := by omega
  apply Go.seq
  apply Go.seq
  refine Go.meet (K' := [_]) (fun fr τ => ∃ t : Bool, (t = true → 0 < a' ∧ lessA co q3[a' - 1]! q3[u2]! = false) ∧ fr = [(0, .c (.sl F.id F.v 0 N c)), (1, .c (.int .i64 za')), (2, .c (.int .i64 zb')), (3, .c (.int .i64 zl1)), (4, .c (.fn g pre cap)), (10, .c (.bool wb)), (11, .c (.bool wp)), (12, .c (.int .i64 (IntKind.i64.wrap (zb' - za')))), (13, .c (.int .i64 zp2)), (97, .c (.bool t))] ∧ τ = F.A q3) (fun K hmt => ?_) ?_
  · by_cases ha0 : 0 < a'
    · have e1 : IntKind.i64.wrap (za' - 1) = ((a' - 1 : Nat) : Int) := by rw [wrap64 (by omega) (by omega)]; omega
      have haq : a' - 1 < q3.size := by omega
      have cc := hcmp.at q3 q3[a' - 1]! q3[u2]!
      repeat' first|refine yaG ?_|((first|apply yG|apply yH|apply yI);exact rfl;(first|exact aop_ai (F := F) rfl rfl e1 hq3 haq|exact aop_ai (F := F) rfl rfl hzp2 hq3 huq|exact aop_al (F := F) rfl haq|exact aop_al (F := F) rfl huq))|(exfalso;omega)|(refine yaS ?_ ?_<;>intro _)
      all_goals first
        | (exfalso; omega)
        | skip
      refine Go.scall _ rfl rfl rfl cc ?_
      rintro r τ ⟨rfl, rfl⟩
      have hls : lessA co q3[a' - 1]! q3[u2]! = decide (co q3[a' - 1]! q3[u2]! < 0) := rfl
      generalize co q3[a' - 1]! q3[u2]! = o at hls
      repeat' first|refine yaG ?_|(exfalso;omega)|(refine yaS ?_ ?_<;>intro _)
      exact Go.keep [0, 1, 2, 3, 4, 10, 11, 12, 13, 97] (hmt _ _ ⟨!decide (o < 0), (fun h => ⟨ha0, by rw [hls]; simpa using h⟩), rfl, rfl⟩)
    · repeat' first|refine yaG ?_|(exfalso;omega)|(refine yaS ?_ ?_<;>intro _)
      all_goals first
        | (exfalso; omega)
        | skip
      exact Go.keep [0, 1, 2, 3, 4, 10, 11, 12, 13, 97] (hmt _ _ ⟨false, (fun h => by cases h), rfl, rfl⟩)
  rintro fr τ ⟨t, ht, rfl, rfl⟩
  cases t
  · clear ht
    have cp := partition_ok mixed c_slices_partitionCmpFunc_Entry_ok F co g pre cap hcmp q3 N a' b' u2 c za' zb' zp2 hza hzb hzp2 hq3 (by omega) hu4 hbN (by omega)
    have rp := fun mid ap d4 => Go.Sort.round_part (mid := mid) (ap := ap) (d4 := d4) hSW (Go.Sort.partition_holds (lessA co)) hu3 hu4 (by omega) hB3
    generalize Go.Sort.partition (lessA co) q3 a' b' u2 = X at cp rp
    obtain ⟨mid, ap, d4⟩ := X
    simp only at cp
    obtain ⟨r1, r2, r3, r4, r5, r6, r7⟩ := rp mid ap d4 rfl
    clear rp
    have hd4 : d4.size = N := r3.trans hq3
    repeat' first|refine yaG ?_|(exfalso;omega)|(refine yaS ?_ ?_<;>intro _)
    refine .call _ rfl rfl rfl cp ?_
    rintro r τ ⟨rfl, rfl⟩
    have x1 : IntKind.i64.wrap (((mid : Nat) : Int) - za') = ((mid - a' : Nat) : Int) := by rw [wrap64 (by omega) (by omega)]; omega
    have x2 : IntKind.i64.wrap (zb' - ((mid : Nat) : Int)) = ((b' - mid : Nat) : Int) := by rw [wrap64 (by omega) (by omega)]; omega
    have x3 : IntKind.i64.wrap (((mid : Nat) : Int) + 1) = ((mid + 1 : Nat) : Int) := by rw [wrap64 (by omega) (by omega)]; omega
    by_cases hlr : mid - a' < b' - mid
    · repeat' first|refine yaG ?_|(exfalso;omega)|(refine yaS ?_ ?_<;>intro _)
      all_goals first
        | (exfalso; omega)
        | skip
      refine .call _ rfl rfl rfl (ih (mid - a') (by omega) d4 a' mid za' _ zl1 rfl hza rfl hd4 r1 (by omega) r4) ?_
      rintro r τ ⟨rfl, L, rfl, l1, l2⟩
      obtain ⟨k1, k2⟩ := r6 L l1 l2
      repeat' first|refine yaG ?_|(exfalso;omega)|(refine yaS ?_ ?_<;>intro _)
      exact Go.keep [0, 1, 2, 3, 4, 10, 11] (hrec _ _ _ (by omega) ⟨mid + 1, b', _, _, _, _, _, L, rfl, by omega, by omega, hbN, x3, hzb, l1.1.trans hd4, k1, fun R h1 h2 => by
        obtain ⟨y1, y2⟩ := k2 R h1 h2
        exact hres R (Go.Sort.permIn_trans _ _ _ a' b' hp y1) y2, rfl, rfl⟩)
    · repeat' first|refine yaG ?_|(exfalso;omega)|(refine yaS ?_ ?_<;>intro _)
      all_goals first
        | (exfalso; omega)
        | skip
      refine .call _ rfl rfl rfl (ih (b' - (mid + 1)) (by omega) d4 (mid + 1) b' _ zb' zl1 rfl x3 hzb hd4 (by omega) hbN r5) ?_
      rintro r τ ⟨rfl, L, rfl, l1, l2⟩
      obtain ⟨k1, k2⟩ := r7 L l1 l2
      repeat' first|refine yaG ?_|(exfalso;omega)|(refine yaS ?_ ?_<;>intro _)
      exact Go.keep [0, 1, 2, 3, 4, 10, 11] (hrec _ _ _ (by omega) ⟨a', mid, _, _, _, _, _, L, rfl, by omega, r1, by omega, hza, rfl, l1.1.trans hd4, k1, fun R h1 h2 => by
        obtain ⟨y1, y2⟩ := k2 R h1 h2
        exact hres R (Go.Sort.permIn_trans _ _ _ a' b' hp y1) y2, rfl, rfl⟩)
  · obtain ⟨ha0, hls⟩ := ht rfl
    have cp := partEqual_ok mixed c_slices_partitionEqualCmpFunc_Entry_ok F co g pre cap hcmp q3 N a' b' u2 c za' zb' zp2 hza hzb hzp2 hq3 (by omega) hu4 hbN (by omega)
    have rp := fun mid d4 => Go.Sort.round_eq (mid := mid) (d4 := d4) hSW (Go.Sort.partitionEqual_holds (lessA co)) ha0 hu3 hu4 (by omega) hB3 hls
    generalize Go.Sort.partitionEqual (lessA co) q3 a' b' u2 = X at cp rp
    obtain ⟨mid, d4⟩ := X
    simp only at cp
    obtain ⟨r1, r2, r3, r4, r5⟩ := rp mid d4 rfl
    clear rp
    repeat' first|refine yaG ?_|(exfalso;omega)|(refine yaS ?_ ?_<;>intro _)
    refine .call _ rfl rfl rfl cp ?_
    rintro r τ ⟨rfl, rfl⟩
    repeat' first|refine yaG ?_|(exfalso;omega)|(refine yaS ?_ ?_<;>intro _)
    exact Go.keep [0, 1, 2, 3, 4, 10, 11] (hrec _ _ _ (by omega) ⟨mid, b', _, _, _, _, _, d4, rfl, by omega, r2, hbN, rfl, hzb, r3.trans hq3, r4, fun R h1 h2 => by
      obtain ⟨y1, y2⟩ := r5 R h1 h2
      exact hres R (Go.Sort.permIn_trans _ _ _ a' b' hp y1) y2, rfl, rfl⟩)
end Go.Proofs.YtdgnfdljkghpjaaGreat.Am

/- Sorting in place: merging. Plain part, and the three searches. -/
set_option linter.unusedVariables false
set_option linter.unusedSimpArgs false
namespace Go.Proofs.YtdgnfdljkghpjaaGreat.Am

def bs (p : Nat → Bool) : Nat → Nat → Nat → Nat
  | 0, i, _ => i
  | n + 1, i, j => if i < j then (if p ((i + j) / 2) then bs p n ((i + j) / 2 + 1) j else bs p n i ((i + j) / 2)) else i
end Go.Proofs.YtdgnfdljkghpjaaGreat.Am

/- Sorting in place: merging, one element against many. -/
set_option linter.unusedVariables false
set_option linter.unusedSimpArgs false
namespace Go.Proofs.YtdgnfdljkghpjaaGreat.Am

end Go.Proofs.YtdgnfdljkghpjaaGreat.Am

/- Sorting in place: merging, many against many; the whole sort. -/
set_option linter.unusedVariables false
set_option linter.unusedSimpArgs false
namespace Go.Proofs.YtdgnfdljkghpjaaGreat.Am

end Go.Proofs.YtdgnfdljkghpjaaGreat.Am

/- Sorting in place: the whole stable sort. -/
set_option linter.unusedVariables false
set_option linter.unusedSimpArgs false
namespace Go.Proofs.YtdgnfdljkghpjaaGreat.Am

def blk {α : Type} (c : α → α → Int) (n : Nat) : Nat → Nat → List α → List α
  | 0, _, l => l
  | k + 1, a, l => if a + 20 ≤ n then blk c n k (a + 20) (insF c a (a + 20) l) else insF c a n l
end Go.Proofs.YtdgnfdljkghpjaaGreat.Am

/- The stable sort's plain law: swaps, rotations, shifts. -/
set_option linter.unusedVariables false
set_option linter.unusedSimpArgs false
namespace Go.Proofs.YtdgnfdljkghpjaaGreat.Am

end Go.Proofs.YtdgnfdljkghpjaaGreat.Am

/- The stable sort's plain law: merging. -/
set_option linter.unusedVariables false
set_option linter.unusedSimpArgs false
namespace Go.Proofs.YtdgnfdljkghpjaaGreat.Am

section
variable {α : Type} {c : α → α → Int} {R : α → α → Prop}
end
end Go.Proofs.YtdgnfdljkghpjaaGreat.Am

/- The stable sort's plain law: merging, whole. -/
set_option linter.unusedVariables false
set_option linter.unusedSimpArgs false
namespace Go.Proofs.YtdgnfdljkghpjaaGreat.Am

section
variable {α : Type} {c : α → α → Int} {R : α → α → Prop}
end
end Go.Proofs.YtdgnfdljkghpjaaGreat.Am

/- The stable sort's plain law, whole. -/
set_option linter.unusedVariables false
set_option linter.unusedSimpArgs false
namespace Go.Proofs.YtdgnfdljkghpjaaGreat.Am

section
variable {α : Type} {c : α → α → Int} {R : α → α → Prop}
end
end Go.Proofs.YtdgnfdljkghpjaaGreat.Am

/- Entries: copies of many, marks that are held. -/
set_option linter.unusedVariables false
set_option linter.unusedSimpArgs false
namespace Go.Proofs.YtdgnfdljkghpjaaGreat.Am

theorem entry_owned {τ : Store} {S : Nat → Prop} {k : Ce} {xk : Ce} {n : Int} (h : Has τ S k xk) : HasL τ S [k, .int .i64 n] [xk, .int .i64 n] :=
  (HasL.two h (HasL.flat (S := fun _ => False) (xs := [.int .i64 n]) (fun x hx => by simp at hx; subst hx; exact .int _ _)) (fun _ _ h => h)).mono fun a ha => ha.elim id (fun h => h.elim)
def heldV (v : Val) (k : Int) : Int := if v.k = k ∧ v.n = k + 1 ∧ v.s = mText (k + 2) then k + 3 else -1
def heldS {α : Type} (h : α → Int → Int) : List α → Int → Int
  | [], k => k
  | a :: r, k => if h a k < 0 then -1 else heldS h r (h a k)
theorem heldS_mark {α : Type} {h : α → Int → Int} {m : α → Int → α} {c : α → Int} (hm : ∀ a k, 0 ≤ k → h (m a k) k = k + c a) (hc : ∀ a, 0 ≤ c a) : ∀ (xs : List α) (k : Int), 0 ≤ k → heldS h (markL m c xs k) k = k + cntL c xs
  | [], k, _ => by simp [markL, heldS, cntL]
  | a :: r, k, hk => by
    have := hc a
    have := hm a k hk
    simp only [markL, heldS, cntL]
    rw [if_neg (by omega), this, heldS_mark hm hc r _ (by omega)]
    omega
theorem heldV_mark (v : Val) (k : Int) (hk : 0 ≤ k) : heldV (markV v k) k = k + 3 := by simp [heldV, markV]
theorem heldValS_ok (xs : List Val) (k : Int) (hx : xs.length ≤ 34359738368) (hk0 : 0 ≤ k) (hk : k + cntL (fun _ => 3) xs ≤ 34359738368) : Pure Tryz.prog 100 [.c (.fz (xs.map encV)), .c (.int .i64 k)] (.c (.int .i64 (heldS heldV xs k))) := by
  refine Pure.run mixed c_laws_heldValS_ok (Nat.le_of_ble_eq_true rfl) fun σ hS hA => ?_
  clear hS hA
  rw [cnt3] at hk
  repeat' first|refine yaG ?_|(exfalso;omega)|(refine yaS ?_ ?_<;>intro _)
  refine Go.keep [0, 1, 5] (Go.loops (I := fun m fr τ => ∃ i : Nat, ∃ n l : Int, m = xs.length - i ∧ i ≤ xs.length ∧ n = i ∧ (l = k + 3 * i ∧ heldS heldV xs k = heldS heldV (xs.drop i) l) ∧
    fr = [(0, .c (.fz (xs.map encV))), (1, .c (.int .i64 l)), (5, .c (.int .i64 n))] ∧ τ = E σ []) ?_ _ _ _ ⟨0, _, _, rfl, Nat.zero_le _, rfl, ⟨by simp, rfl⟩, rfl, rfl⟩)
  rintro m fr τ ⟨i, n, l, rfl, hi, hn, ⟨hl, hsl⟩, rfl, rfl⟩ hrec
  by_cases hlt : i < xs.length
  · have hw1 : IntKind.i64.wrap (l + 1) = l + 1 := wrap64 (by omega) (by omega)
    have hw2 : IntKind.i64.wrap (l + 1 + 1) = l + 2 := by rw [wrap64 (by omega) (by omega)]; omega
    have hw3 : IntKind.i64.wrap (l + 2 + 1) = l + 3 := by rw [wrap64 (by omega) (by omega)]; omega
    have hdr := List.drop_eq_getElem_cons hlt
    have neg : ¬ (xs[i].k = l ∧ xs[i].n = l + 1 ∧ xs[i].s = mText (l + 2)) → heldS heldV xs k = -1 := fun h => by
      have hv : heldV xs[i] l = -1 := if_neg h
      rw [hsl, hdr, heldS, hv]
      rfl
    repeat' first|refine yaG ?_|((first|apply yG|apply yH|apply yI);exact rfl;(first|exact yX (enc := encV) rfl rfl hn hlt rfl))|(exfalso;omega)|(refine yaS ?_ ?_<;>intro _)
    · refine .ret rfl (.int ?_)
      rename_i h9
      exact (neg fun e => h9 e.1).symm
    · refine .ret rfl (.int ?_)
      rename_i h9
      rw [hw1] at h9
      exact (neg fun e => h9 e.2.1).symm
    rename_i h1 h2
    rw [hw1] at h2 ⊢
    rw [hw2]
    repeat' first|refine yaG ?_|((first|apply yG|apply yH|apply yI);exact rfl;(first|exact yX (enc := encV) rfl rfl hn hlt rfl))|((first|apply yQ|apply yR|apply yS);(iterate 3 exact rfl);exact markText_ok (l + 2) (by omega))|(exfalso;omega)|(refine yaS ?_ ?_<;>intro _)
    · refine .ret rfl (.int ?_)
      rename_i h9
      exact (neg fun e => by simp [e.2.2] at h9).symm
    · refine Go.keep [0, 1, 5] (hrec _ _ _ (by omega) ⟨i + 1, _, _, rfl, hlt, wrap_succ hn (by omega), ⟨hw3.trans (by omega), ?_⟩, rfl, rfl⟩)
      rename_i h3
      have hv : heldV xs[i] l = l + 3 := if_pos ⟨by simpa using h1, by simpa using h2, by simpa using h3⟩
      rw [hsl, hdr, heldS, hv, if_neg (by omega), hw3]
  · repeat' first|refine yaG ?_|(exfalso;omega)|(refine yaS ?_ ?_<;>intro _)
    refine .ret rfl (.int ?_)
    rw [hsl, List.drop_eq_nil_of_le (by omega)]
    rfl
end Go.Proofs.YtdgnfdljkghpjaaGreat.Am

/- The order of entries; an index without one of its entries. Plain laws. -/
set_option linter.unusedVariables false
set_option linter.unusedSimpArgs false
namespace Go.Proofs.YtdgnfdljkghpjaaGreat.Am

/-- A three-way order among those that are R. -/
structure Cmp {α : Type} (R : α → Prop) (c : α → α → Int) : Prop where
  refl : ∀ a, R a → c a a = 0
  eq : ∀ a b, R a → R b → c a b = 0 → a = b
  flip : ∀ a b, R a → R b → (c a b < 0 ↔ 0 < c b a)
  trans : ∀ a b d, R a → R b → R d → c a b < 0 → c b d < 0 → c a d < 0
theorem Cmp.lex {α β γ : Type} {R : γ → Prop} {f : γ → α} {g : γ → β} {c : α → α → Int} {d : β → β → Int} {Rα : α → Prop} {Rβ : β → Prop} (hc : Cmp Rα c) (hd : Cmp Rβ d) (h1 : ∀ x, R x → Rα (f x)) (h2 : ∀ x, R x → Rβ (g x)) (inj : ∀ x y, f x = f y → g x = g y → x = y) {e : γ → γ → Int} (he : ∀ x y, e x y = if c (f x) (f y) = 0 then d (g x) (g y) else c (f x) (f y)) : Cmp R e := by
  refine ⟨fun a ha => ?_, fun a b ha hb h => ?_, fun a b ha hb => ?_, fun a b x ha hb hx p q => ?_⟩
  · rw [he, hc.refl _ (h1 a ha), if_pos rfl, hd.refl _ (h2 a ha)]
  · rw [he] at h
    split at h
    · rename_i h0
      exact inj a b (hc.eq _ _ (h1 a ha) (h1 b hb) h0) (hd.eq _ _ (h2 a ha) (h2 b hb) h)
    · contradiction
  · have f1 := hc.flip _ _ (h1 a ha) (h1 b hb)
    have f2 := hc.flip _ _ (h1 b hb) (h1 a ha)
    have f3 := hd.flip _ _ (h2 a ha) (h2 b hb)
    rw [he, he]
    split <;> split <;> omega
  · rw [he] at p q ⊢
    split at p
    · rename_i e1
      have e1' := hc.eq _ _ (h1 a ha) (h1 b hb) e1
      rw [e1']
      split at q
      · rename_i e2
        rw [if_pos e2]
        exact hd.trans _ _ _ (h2 a ha) (h2 b hb) (h2 x hx) p q
      · rename_i e2
        rw [if_neg e2]
        exact q
    · rename_i e1
      split at q
      · rename_i e2
        have e2' := hc.eq _ _ (h1 b hb) (h1 x hx) e2
        rw [← e2', if_neg e1]
        exact p
      · have := hc.trans _ _ _ (h1 a ha) (h1 b hb) (h1 x hx) p q
        rw [if_neg (by omega)]
        exact this
theorem cmpI_cmp : Cmp (fun _ => True) cmpI := by
  refine ⟨fun a _ => ?_, fun a b _ _ h => ?_, fun a b _ _ => ?_, fun a b d _ _ _ h k => ?_⟩ <;> simp only [cmpI] at *
  · simp
  · split at h
    · omega
    · split at h <;> omega
  · split <;> split <;> (try split) <;> (try split) <;> omega
  · split at h <;> split at k <;> (try split at h) <;> (try split at k) <;> (try omega)
theorem bytesLt_trans : ∀ {a b d : List UInt8}, bytesLt a b = true → bytesLt b d = true → bytesLt a d = true
  | [], [], _, h, _ => by simp [bytesLt, Op.bytesLess] at h
  | [], _ :: _, [], _, k => by simp [bytesLt, Op.bytesLess] at k
  | [], _ :: _, _ :: _, _, _ => by simp [bytesLt, Op.bytesLess]
  | _ :: _, [], _, h, _ => by simp [bytesLt, Op.bytesLess] at h
  | _ :: _, _ :: _, [], _, k => by simp [bytesLt, Op.bytesLess] at k
  | x :: a, y :: b, z :: d, h, k => by
    have ih := @bytesLt_trans a b d
    simp only [bytesLt, Op.bytesLess, Bool.or_eq_true, Bool.and_eq_true, decide_eq_true_eq, beq_iff_eq] at h k ih ⊢
    rcases h with h | ⟨rfl, h⟩ <;> rcases k with k | ⟨rfl, k⟩
    · exact .inl (UInt8.lt_trans h k)
    · exact .inl h
    · exact .inl k
    · exact .inr ⟨rfl, ih h k⟩
theorem cmpS_cmp : Cmp (fun _ => True) cmpS := by
  refine ⟨fun a _ => ?_, fun a b _ _ h => ?_, fun a b _ _ => ?_, fun a b d _ _ _ h k => ?_⟩
  · simp [cmpS, bytesLt_irrefl]
  · simp only [cmpS] at h
    split at h
    · omega
    · split at h
      · rename_i h8; exact beq_iff_eq.1 h8
      · omega
  · have h1 := bytesLt_cases a b
    simp only [cmpS, h1]
    cases h2 : bytesLt a b <;> by_cases e : a = b
    · subst e; simp
    · have e' : ¬ b = a := fun h => e h.symm
      simp [e]
    · subst e; rw [bytesLt_irrefl] at h2; cases h2
    · have e' : ¬ b = a := fun h => e h.symm
      simp [e, e']
  · have key : ∀ {x y : List UInt8}, cmpS x y < 0 ↔ bytesLt x y = true := by
      intro x y
      simp only [cmpS]
      split
      · simp_all
      · split <;> simp_all
    rw [key] at *
    exact bytesLt_trans h k
theorem order_cmp : Cmp (fun _ : Val => True) order := by
  have h2 : Cmp (fun _ : Int × List UInt8 => True) (fun p q => if cmpI p.1 q.1 = 0 then cmpS p.2 q.2 else cmpI p.1 q.1) := Cmp.lex (f := Prod.fst) (g := Prod.snd) cmpI_cmp cmpS_cmp (fun _ _ => trivial) (fun _ _ => trivial) (fun _ _ h k => Prod.ext h k) (fun _ _ => rfl)
  refine Cmp.lex (f := Val.k) (g := fun v => (v.n, v.s)) cmpI_cmp h2 (fun _ _ => trivial) (fun _ _ => trivial) (fun x y h k => ?_) (fun x y => ?_)
  · obtain ⟨a, b, c⟩ := x
    obtain ⟨a', b', c'⟩ := y
    simp_all
  · simp only [order, orI]
    split
    · split
      · split <;> simp_all
      · rfl
    · rfl
theorem orderOf_cmp : ∀ n, Cmp (fun l : List Val => l.length = n) orderOf
  | 0 => ⟨fun a h => by rw [List.eq_nil_of_length_eq_zero h]; rfl, fun a b h k _ => by rw [List.eq_nil_of_length_eq_zero h, List.eq_nil_of_length_eq_zero k], fun a b h k => by rw [List.eq_nil_of_length_eq_zero h, List.eq_nil_of_length_eq_zero k]; simp [orderOf], fun a b d h k _ p => by rw [List.eq_nil_of_length_eq_zero h, List.eq_nil_of_length_eq_zero k] at p; simp [orderOf] at p⟩
  | n + 1 => by
    have ih := orderOf_cmp n
    have key : Cmp (fun p : Val × List Val => p.2.length = n) (fun p q => if order p.1 q.1 = 0 then orderOf p.2 q.2 else order p.1 q.1) := Cmp.lex (f := Prod.fst) (g := Prod.snd) order_cmp ih (fun _ _ => trivial) (fun _ h => h) (fun _ _ h k => Prod.ext h k) (fun _ _ => rfl)
    have cons : ∀ {a : List Val}, a.length = n + 1 → ∃ v r, a = v :: r ∧ r.length = n := by
      intro a h
      cases a with
      | nil => simp at h
      | cons v r => exact ⟨v, r, rfl, by simpa using h⟩
    refine ⟨fun a h => ?_, fun a b h k e => ?_, fun a b h k => ?_, fun a b d h k l p q => ?_⟩
    · obtain ⟨v, r, rfl, hr⟩ := cons h
      exact key.refl (v, r) hr
    · obtain ⟨v, r, rfl, hr⟩ := cons h
      obtain ⟨w, s, rfl, hs⟩ := cons k
      have := key.eq (v, r) (w, s) hr hs e
      injection this with h1 h2
      rw [h1, h2]
    · obtain ⟨v, r, rfl, hr⟩ := cons h
      obtain ⟨w, s, rfl, hs⟩ := cons k
      exact key.flip (v, r) (w, s) hr hs
    · obtain ⟨v, r, rfl, hr⟩ := cons h
      obtain ⟨w, s, rfl, hs⟩ := cons k
      obtain ⟨u, t, rfl, ht⟩ := cons l
      exact key.trans (v, r) (w, s) (u, t) hr hs ht p q
theorem entOrd_cmp (n : Nat) : Cmp (fun e : Entry => e.key.length = n) entOrd := by
  refine Cmp.lex (f := Entry.key) (g := Entry.id) (orderOf_cmp n) cmpI_cmp (fun _ h => h) (fun _ _ => trivial) (fun x y h k => ?_) (fun x y => ?_)
  · obtain ⟨a, b⟩ := x
    obtain ⟨a', b'⟩ := y
    simp_all
  · simp only [entOrd, orI]
    split
    · split <;> simp_all
    · rfl
/-- An index without an entry. -/
def without (l : List Entry) (e : Entry) : List Entry := l.filter fun x => !(x == e)
end Go.Proofs.YtdgnfdljkghpjaaGreat.Am

/- An index without an entry: the program and its reference. -/
set_option linter.unusedVariables false
set_option linter.unusedSimpArgs false
namespace Go.Proofs.YtdgnfdljkghpjaaGreat.Am

theorem solid_bool {τ : Store} {S : Nat → Prop} (b : Bool) : HasV τ S (.c (.bool b)) (.c (.bool b)) := .c (.c (.bool b))
/-- A tree and an answer. -/
theorem newPairE {σ τ : Store} {y x : Ce} {b : Bool} (h : NewV σ (.c y) (.c x) τ) : NewV σ (.tup [.c y, .c (.bool b)]) (.tup [.c x, .c (.bool b)]) τ :=
  ⟨h.1, .pair h.2 (solid_bool (S := fun _ => False) b) (fun _ h => h) (fun _ h => h.elim) (fun _ _ h => h)⟩
theorem old_map {n : Nat} {e : Entry} : ∀ x ∈ encE e, Old n x := by
  have hv : ∀ (v : Val), ∀ x ∈ encV v, Old n x := fun v x hx => (flatV v x hx).old n
  intro x hx
  simp only [encE, List.mem_cons, List.not_mem_nil, or_false] at hx
  rcases hx with rfl | rfl
  · refine .fz _ fun i j hi hj => ?_
    have hi' : i < e.key.length := by simpa using hi
    have : (e.key.map encV)[i] = encV e.key[i] := by simp
    exact hv e.key[i] _ (by rw [← this]; exact List.getElem_mem hj)
  · exact .int _ _
theorem old_maps {n : Nat} {l : List Entry} : ∀ q ∈ l.map encE, ∀ x ∈ q, Old n x := by
  intro q hq x hx
  obtain ⟨e, _, rfl⟩ := List.mem_map.1 hq
  exact old_map x hx
end Go.Proofs.YtdgnfdljkghpjaaGreat.Am

/- An entry put into an index: the reference's. -/
set_option linter.unusedVariables false
set_option linter.unusedSimpArgs false
namespace Go.Proofs.YtdgnfdljkghpjaaGreat.Am

theorem aop_cutF {fr : Fr} {σ : Store} {s : Nat} {x hi : Opd} {kd : IntKind} {es : List (List Ce)} {z : Int} {n : Nat} (hx : x.ev fr = some (.c (.fz es))) (hy : hi.ev fr = some (.c (.int kd z))) (hz : z = (n : Int)) (hn : n ≤ es.length) (hs : ∀ e ∈ es, e.length = s) : aop (.slice s x none (some hi) none) fr σ = some (.c (.fz (es.take n)), σ) := by
  have : sliceA σ s (.fz es) none (some (.c (.int kd z))) none = some (.fz (es.take n)) := by
    subst hz
    simp only [sliceA, bound]
    rw [if_pos (by omega)]
    simp only [Int.toNat_natCast]
    rw [if_pos ⟨Nat.zero_le _, hn, hs⟩, List.drop_zero]
  simp only [aop, hx, evo, hy, Option.map_some, this]
theorem aop_restF {fr : Fr} {σ : Store} {s : Nat} {x lo : Opd} {kd : IntKind} {es : List (List Ce)} {z : Int} {n : Nat} (hx : x.ev fr = some (.c (.fz es))) (hy : lo.ev fr = some (.c (.int kd z))) (hz : z = (n : Int)) (hn : n ≤ es.length) (hs : ∀ e ∈ es, e.length = s) : aop (.slice s x (some lo) none none) fr σ = some (.c (.fz (es.drop n)), σ) := by
  have : sliceA σ s (.fz es) (some (.c (.int kd z))) none none = some (.fz (es.drop n)) := by
    subst hz
    simp only [sliceA, bound]
    rw [if_pos (by omega)]
    simp only [Int.toNat_natCast]
    rw [if_pos ⟨hn, Nat.le_refl _, hs⟩, List.take_of_length_le (Nat.le_refl _)]
  simp only [aop, hx, evo, hy, Option.map_some, this]
def putPos (e : Entry) : List Entry → Nat
  | [] => 0
  | a :: r => if lessK a.key e.key a.id e.id then putPos e r + 1 else 0
def putF (e : Entry) (l : List Entry) : List Entry := l.take (putPos e l) ++ e :: l.drop (putPos e l)
theorem encE_two {l : List Entry} : ∀ q ∈ l.map encE, q.length = 2 := fun q hq => by
  obtain ⟨a, _, rfl⟩ := List.mem_map.1 hq
  rfl
theorem old_encE (n : Nat) (e : Entry) : ∀ x ∈ encE e, Old n x := fun x hx => by
  simp only [encE, List.mem_cons, List.not_mem_nil, or_false] at hx
  rcases hx with rfl | rfl
  · refine .fz _ fun i j hi hj => ?_
    exact ((clean_append _ (List.getElem_mem hi)).2 _ (List.getElem_mem hj)).old n
  · exact .int _ _
theorem frz_oldQ {σ : Store} {l : List (Nat × List (List Ce))} {k v N : Nat} {ys junk : List (List Ce)} (hl : l[k]? = some (v, ys ++ junk)) (ho : ∀ e ∈ ys, ∀ x ∈ e, Old N x) (hN : N ≤ σ.next + k) : FrzV (E σ l) N (.c (vec (σ.next + k) v ys junk)) (.c (.fz ys)) := by
  refine .c (.sl _ _ _ _ _ (ys ++ junk) ys hN (by rw [E_at]; exact hl) (by simp) rfl (fun i hi => ?_) (fun i j hi hj => ?_))
  · simp only [Nat.zero_add]
    rw [List.getElem_append_left hi]
  · have e : (ys ++ junk)[0 + i]'(by simp; omega) = ys[i] := by
      simp only [Nat.zero_add]
      rw [List.getElem_append_left hi]
    simp only [e]
    exact .same _ (ho _ (List.getElem_mem _) _ (List.getElem_mem hj))
end Go.Proofs.YtdgnfdljkghpjaaGreat.Am

/- An owned tree of entries sorted in place. -/
set_option linter.unusedVariables false
set_option linter.unusedSimpArgs false
namespace Go.Proofs.YtdgnfdljkghpjaaGreat.Am

def entAt (l : List Entry) (i : Nat) : Entry := l[i]?.getD ⟨[], 0⟩
def cellAt (cs : List (List Ce)) (i : Nat) : List Ce := if (cs[i]?.getD []).length = 2 then cs[i]?.getD [] else [.nils, .nils]
theorem cellAt_two (cs : List (List Ce)) (i : Nat) : (cellAt cs i).length = 2 := by
  rw [cellAt]
  split
  · assumption
  · rfl
theorem entAt_eq {l : List Entry} {i : Nat} (h : i < l.length) : entAt l i = l[i] := by rw [entAt, List.getElem?_eq_getElem h]; rfl
theorem cellAt_eq {cs : List (List Ce)} {i : Nat} (h : i < cs.length) (h2 : cs[i].length = 2) : cellAt cs i = cs[i] := by
  rw [cellAt, List.getElem?_eq_getElem h]
  exact if_pos h2
theorem map_entAt (l : List Entry) : (List.range l.length).map (entAt l) = l := by
  refine List.ext_getElem (by simp) fun i h1 h2 => ?_
  rw [List.getElem_map, List.getElem_range, entAt_eq h2]
theorem map_cellAt {cs : List (List Ce)} (h : ∀ e ∈ cs, e.length = 2) : (List.range cs.length).map (cellAt cs) = cs := by
  refine List.ext_getElem (by simp) fun i h1 h2 => ?_
  rw [List.getElem_map, List.getElem_range, cellAt_eq h2 (h _ (List.getElem_mem _))]
theorem putS_same {τ : Store} {id : Nat} {b : Nat × List (List Ce)} (h : τ.get id = some b) : τ.put id b = τ := by
  cases τ with
  | mk nx g =>
    simp only [Store.put, Store.mk.injEq, true_and]
    funext a
    split
    · rename_i e; subst e; exact h.symm
    · rfl
end Go.Proofs.YtdgnfdljkghpjaaGreat.Am

/- slices.SortFunc on an owned tree of entries. -/
set_option linter.unusedVariables false
set_option linter.unusedSimpArgs false
namespace Go.Proofs.YtdgnfdljkghpjaaGreat.Am

theorem sortFuncA_ok {α : Type} [Inhabited α] (F : Fam α) (co : α → α → Int) (g : Nat) (pre cap : List Ce) (hcmp : CmpsA Tryz.prog F co g pre cap) (hF : F.id < F.σ.next) (hSW : Go.Sort.SWO (lessA co)) (N c : Nat) (hx : N ≤ 255) (d : Array α) (hN : d.size = N) :
    Ok Tryz.prog 82 [.c (.sl F.id F.v 0 N c), .c (.fn g pre cap)] (F.A d) (fun r τ => r = .tup [] ∧ ∃ R, τ = F.A R ∧ Go.Sort.PermIn 0 N d R ∧ Go.Sort.SortedIn (lessA co) 0 N R) := by
  refine .of_go mixed c_slices_SortFunc_Entry_ok (Nat.le_of_ble_eq_true rfl) ?_
  have hw : IntKind.u64.wrap (N : Int) = (N : Int) := by
    simp only [IntKind.wrap]
    simp [IntKind.bits, IntKind.signed]
    omega
  have cl := Len_ok N (by omega)
  rw [← hw] at cl
  repeat' first|refine yaG ?_|refine yaC (cl) ?_|(exfalso;omega)|(refine yaS ?_ ?_<;>intro _)
  refine .call _ rfl rfl rfl (pdq_ok F co g pre cap hcmp hF hSW N c hx N d 0 N 0 (N : Int) _ rfl rfl rfl hN (Nat.zero_le _) (Nat.le_refl _) (.inl rfl)) ?_
  rintro r τ ⟨rfl, R, rfl, h1, h2⟩
  repeat' first|refine yaG ?_|(exfalso;omega)|(refine yaS ?_ ?_<;>intro _)
  exact .fin rfl ⟨rfl, R, rfl, h1, h2⟩
theorem cmp_swo {α : Type} {c : α → α → Int} (h : Cmp (fun _ => True) c) : Go.Sort.SWO (lessA c) := by
  refine ⟨fun x => ?_, fun x y z h1 h2 => ?_, fun x y z h1 h2 => ?_⟩
  · rw [lessA, h.refl x trivial]
    rfl
  · rw [lessA, decide_eq_true_eq] at h1 h2 ⊢
    exact h.trans x y z trivial trivial trivial h1 h2
  · rw [lessA, decide_eq_false_iff_not] at h1 h2 ⊢
    intro h3
    by_cases e : c y x = 0
    · have := h.eq _ _ trivial trivial e
      subst this
      exact h2 h3
    · have h4 : c y x < 0 := by
        have := (h.flip x y trivial trivial)
        have h5 := (h.flip y x trivial trivial)
        omega
      exact h2 (h.trans y x z trivial trivial trivial h4 h3)
abbrev Ix (n : Nat) : Type := { i : Nat // i < n }
def ixs (n : Nat) : List (Ix n) := (List.range n).pmap (fun i h => ⟨i, h⟩) fun i hi => List.mem_range.1 hi
theorem ixs_val (n : Nat) : (ixs n).map Subtype.val = List.range n := by
  rw [ixs, List.map_pmap]
  simp
theorem ixs_len (n : Nat) : (ixs n).length = n := by simp [ixs]
theorem extract_all {α : Type} {d : Array α} {n : Nat} (h : d.size = n) : d.extract 0 n = d := by
  subst h
  simp
theorem pdqEntries_ok (l : List Entry) (n0 : Nat) (h0 : ∀ e ∈ l, e.key.length = n0) (hn0 : n0 ≤ 34359738368) (hx : l.length ≤ 255) {τ : Store} {S : Nat → Prop} {x : Ce} (hSn : ∀ a, S a → a < τ.next) (hne : x ≠ .nils) (hh : Has τ S (.fz (l.map encE)) x) :
    Ok Tryz.prog 82 [.c x, .c (.fn 56 [] [])] τ (fun r τ' => r = .tup [] ∧ ∃ l' : List Entry, l'.Perm l ∧ l'.Pairwise (fun a b => entOrd a b < 0 ∨ a = b) ∧ Has τ' S (.fz (l'.map encE)) x ∧ τ'.next = τ.next ∧ (∀ a, ¬ S a → τ'.get a = τ.get a) ∧ ∀ σ, Gr σ τ → (∀ a, S a → σ.next ≤ a ∧ a < τ.next) → Gr σ τ') := by
  have hh0 := hh
  generalize hys : l.map encE = ys at hh
  cases hh with
  | c h' => cases h'
  | nil => exact absurd rfl hne
  | o ys id v s cs junk T hg hSid hl hsz hall hj hT hd hcell =>
    subst hys
    have hidn : id < τ.next := hSn id hSid
    have hcl : cs.length = l.length := by rw [hl, List.length_map]
    by_cases hpos : l.length = 0
    · have hl0 : l = [] := List.eq_nil_of_length_eq_zero hpos
      subst hl0
      have hcs : cs = [] := List.eq_nil_of_length_eq_zero hcl
      subst hcs
      let F : Fam { e : Entry // e.key.length = n0 } := ⟨τ, id, v, fun e => encE e.1, junk, fun e => rfl⟩
      haveI : Inhabited { e : Entry // e.key.length = n0 } := ⟨⟨⟨List.replicate n0 ⟨0, 0, []⟩, 0⟩, List.length_replicate⟩⟩
      have hF0 : F.A #[] = τ := by
        show τ.put id (v, [] ++ junk) = τ
        exact putS_same hg
      have hcmp : CmpsA Tryz.prog F (fun a b => entOrd a.1 b.1) 56 [] [] := by
        intro G a b h1 h2
        exact Lend.pure (.same (.same .nil)) (entryOrder_ok a.1 b.1 (by rw [a.2]; exact hn0) (by rw [a.2, b.2])) (.int _ _)
      have hs := sortFuncA_ok F _ _ [] [] hcmp hidn (cmp_swo ⟨fun a _ => (entOrd_cmp n0).refl _ a.2, fun a b _ _ h => Subtype.ext ((entOrd_cmp n0).eq _ _ a.2 b.2 h), fun a b _ _ => (entOrd_cmp n0).flip _ _ a.2 b.2, fun a b d _ _ _ => (entOrd_cmp n0).trans _ _ _ a.2 b.2 d.2⟩) 0 (0 + junk.length) (by decide) #[] rfl
      rw [hF0] at hs
      refine hs.mono ?_
      rintro r τ' ⟨rfl, R, rfl, q1, q2⟩
      have hR : R = #[] := Array.eq_empty_of_size_eq_zero q1.1
      rw [hR, hF0]
      exact ⟨rfl, [], .nil, .nil, hh0, rfl, fun a _ => rfl, fun σ hG _ => hG⟩
    · have hs2 : s = 2 := by
        have := hsz 0 (by simp; omega)
        rw [hall _ (List.mem_append_left _ (List.getElem_mem _))] at this
        rw [this, List.getElem_map]
        rfl
      subst hs2
      have hallc : ∀ e ∈ cs, e.length = 2 := fun e he => hall e (List.mem_append_left _ he)
      let F : Fam (Ix l.length) := ⟨τ, id, v, fun i => cellAt cs i.1, junk, fun i => cellAt_two cs i.1⟩
      haveI : Inhabited (Ix l.length) := ⟨⟨0, by omega⟩⟩
      have hix : ((ixs l.length).map fun i => cellAt cs i.1) = cs := by
        have := congrArg (List.map (cellAt cs)) (ixs_val l.length)
        rw [List.map_map, ← hcl, map_cellAt hallc] at this
        rw [← hcl]
        exact this
      have hF0 : F.A (ixs l.length).toArray = τ := by
        show τ.put id (v, ((ixs l.length).map fun i => cellAt cs i.1) ++ junk) = τ
        rw [hix]
        exact putS_same hg
      have hcmp : CmpsA Tryz.prog F (fun i j => entOrd (entAt l i.1) (entAt l j.1)) 56 [] [] := by
        intro G i j g1 g2
        have hlen : ∀ k, k < l.length → HasL G (fun a => ∃ j, T k j a) (encE (entAt l k)) (cellAt cs k) := fun k hk => by
          have hk2 : k < (l.map encE).length := by rw [List.length_map]; exact hk
          have e1 : (l.map encE)[k] = encE (entAt l k) := by rw [List.getElem_map, entAt_eq hk]
          have e2 : cellAt cs k = cs[k]'(by omega) := cellAt_eq (by omega) (hallc _ (List.getElem_mem _))
          rw [e2, ← e1]
          refine ⟨fun j a => T k j a, by rw [hsz k hk2], fun j a ha => ⟨j, ha⟩, fun j j' a p1 p2 => (hd _ _ _ _ a p1 p2).2, fun j hy hxx => ?_⟩
          exact (hcell k j hk2 hy).frame fun a ha => g1 a (hT k j a ha).2 (hSn a (hT k j a ha).1)
        refine Lend.pure (.own ((hlen i.1 i.2).frz fun _ _ => Nat.zero_le _) (.own ((hlen j.1 j.2).frz fun _ _ => Nat.zero_le _) .nil)) ?_ (.int _ _)
        refine entryOrder_ok (entAt l i.1) (entAt l j.1) ?_ ?_
        · rw [entAt_eq i.2, h0 _ (List.getElem_mem _)]; exact hn0
        · rw [entAt_eq i.2, entAt_eq j.2, h0 _ (List.getElem_mem _), h0 _ (List.getElem_mem _)]
      have hC := entOrd_cmp n0
      have hkk : ∀ i : Ix l.length, (entAt l i.1).key.length = n0 := fun i => by rw [entAt_eq i.2]; exact h0 _ (List.getElem_mem _)
      have hSW : Go.Sort.SWO (lessA fun i j : Ix l.length => entOrd (entAt l i.1) (entAt l j.1)) := by
        refine ⟨fun x => ?_, fun x y z p q => ?_, fun x y z p q => ?_⟩
        · rw [lessA, hC.refl _ (hkk x)]
          rfl
        · rw [lessA, decide_eq_true_eq] at p q ⊢
          exact hC.trans _ _ _ (hkk x) (hkk y) (hkk z) p q
        · rw [lessA, decide_eq_false_iff_not] at p q ⊢
          intro h3
          by_cases e : entOrd (entAt l y.1) (entAt l x.1) = 0
          · rw [← hC.eq _ _ (hkk y) (hkk x) e] at h3
            exact q h3
          · have a1 := hC.flip _ _ (hkk x) (hkk y)
            have a2 := hC.flip _ _ (hkk y) (hkk x)
            exact q (hC.trans _ _ _ (hkk y) (hkk x) (hkk z) (by omega) h3)
      have hsize : (ixs l.length).toArray.size = l.length := by simp [ixs_len]
      have hsort := sortFuncA_ok F _ _ [] [] hcmp hidn hSW l.length (l.length + junk.length) hx (ixs l.length).toArray hsize
      rw [hF0] at hsort
      have hlen2 : (l.map encE).length = l.length := List.length_map _
      rw [hlen2]
      refine hsort.mono ?_
      rintro r τ' ⟨rfl, R, rfl, q1, q2⟩
      have hRs : R.size = l.length := q1.1.trans hsize
      have hperm : R.toList.Perm (ixs l.length) := by
        have := q1.2.2
        rwa [extract_all hRs, extract_all hsize] at this
      obtain ⟨ps, hps0⟩ : ∃ ps : List Nat, ps = R.toList.map Subtype.val := ⟨_, rfl⟩
      have p1 : ps.Perm (List.range l.length) := by
        rw [hps0, ← ixs_val]
        exact hperm.map _
      have p2 : ps.Pairwise fun i j => entOrd (entAt l i) (entAt l j) < 0 ∨ entAt l i = entAt l j := by
        rw [hps0, List.pairwise_map, List.pairwise_iff_getElem]
        intro i j hi hj hij
        have hj2 : j < R.size := by simpa using hj
        have hi2 : i < R.size := by simpa using hi
        have := q2 i j (Nat.zero_le _) hij (by omega)
        rw [lessA, decide_eq_false_iff_not, ← arr_at hj2, ← arr_at hi2] at this
        by_cases e : entOrd (entAt l R.toList[i].1) (entAt l R.toList[j].1) = 0
        · exact .inr (hC.eq _ _ (hkk _) (hkk _) e)
        · have a1 := hC.flip _ _ (hkk R.toList[i]) (hkk R.toList[j])
          have a2 := hC.flip _ _ (hkk R.toList[j]) (hkk R.toList[i])
          exact .inl (by omega)
      have hst : F.A R = τ.put id (v, ps.map (cellAt cs) ++ junk) := by
        show τ.put id (v, (R.toList.map fun i => cellAt cs i.1) ++ junk) = _
        rw [hps0, List.map_map]
        rfl
      rw [hst]
      clear hst hps0 hperm q1 q2 hRs hsort hcmp hF0 hSW
      have hps : ps.length = l.length := by rw [p1.length_eq, List.length_range]
      have hpl : ∀ i ∈ ps, i < l.length := fun i hi => List.mem_range.1 (p1.mem_iff.1 hi)
      have hnd : ps.Nodup := p1.nodup_iff.2 List.nodup_range
      refine ⟨rfl, ps.map (entAt l), ?_, ?_, ?_, rfl, fun a ha => if_neg fun e => ha (by rw [e]; exact hSid), fun σ hG hlo => ?_⟩
      · have := p1.map (entAt l)
        rwa [map_entAt] at this
      · exact List.pairwise_map.2 p2
      · have hcs : ∀ i (hi : i < ps.length), cellAt cs ps[i] = cs[ps[i]]'(by have := hpl _ (List.getElem_mem hi); omega) := fun i hi => cellAt_eq (by have := hpl _ (List.getElem_mem hi); omega) (hallc _ (List.getElem_mem _))
        have hrl : l.length = ((ps.map (entAt l)).map encE).length := by simp [hps]
        have hz : Ce.sl id v 0 l.length (l.length + junk.length) = Ce.sl id v 0 ((ps.map (entAt l)).map encE).length (((ps.map (entAt l)).map encE).length + junk.length) := by rw [← hrl]
        rw [hz]
        refine .o ((ps.map (entAt l)).map encE) id v 2 (ps.map (cellAt cs)) junk (fun i j a => ∃ h : i < ps.length, T ps[i] j a) (if_pos rfl) hSid (by simp) (fun i hi => ?_) (fun e he => ?_) hj (fun i j a ⟨hi, ha⟩ => hT _ _ _ ha) (fun i j i' j' a q1 q2 => ?_) (fun i j hiy hjy => ?_)
        · have hi2 : i < ps.length := by simpa using hi
          rw [List.getElem_map, List.getElem_map, List.getElem_map, cellAt_two]
          rfl
        · rcases List.mem_append.1 he with he | he
          · obtain ⟨i, _, rfl⟩ := List.mem_map.1 he
            exact cellAt_two cs i
          · exact hall e (List.mem_append_right _ he)
        · obtain ⟨hi, q1⟩ := q1
          obtain ⟨hi', q2⟩ := q2
          obtain ⟨e1, e2⟩ := hd _ _ _ _ a q1 q2
          exact ⟨(List.getElem_inj hnd).1 e1, e2⟩
        · have hi2 : i < ps.length := by simpa using hiy
          have hpi := hpl _ (List.getElem_mem hi2)
          have hpi2 : ps[i] < (l.map encE).length := by simpa using hpi
          have e1 : ((ps.map (entAt l)).map encE)[i] = (l.map encE)[ps[i]] := by
            rw [List.getElem_map, List.getElem_map, List.getElem_map, entAt_eq hpi]
          have e2 : (ps.map (cellAt cs))[i]'(by simpa using hi2) = cs[ps[i]]'(by omega) := by rw [List.getElem_map, hcs i hi2]
          simp only [e1, e2]
          have hjy' : j < ((l.map encE)[ps[i]]).length := by rw [← e1]; exact hjy
          exact ((hcell ps[i] j hpi2 hjy').frame fun a ha => if_neg (hT _ _ _ ha).2).mono fun a ha => ⟨hi2, ha⟩
      · refine hG.put (hlo id hSid).1 (hlo id hSid).2 fun e he => ?_
        have hold := hG.tidy (hlo id hSid).1 hg
        rcases List.mem_append.1 he with he | he
        · obtain ⟨i, hi, rfl⟩ := List.mem_map.1 he
          have := hpl i hi
          rw [cellAt_eq (show i < cs.length by omega) (hallc _ (List.getElem_mem _))]
          exact hold _ (List.mem_append_left _ (List.getElem_mem _))
        · exact hold _ (List.mem_append_right _ he)
end Go.Proofs.YtdgnfdljkghpjaaGreat.Am

/- An entry put into an index: plain law. -/
set_option linter.unusedVariables false
set_option linter.unusedSimpArgs false
namespace Go.Proofs.YtdgnfdljkghpjaaGreat.Am

theorem putF_perm (e : Entry) (l : List Entry) : (putF e l).Perm (l ++ [e]) := by
  have h := List.perm_middle (l₁ := l.take (putPos e l)) (a := e) (l₂ := l.drop (putPos e l))
  rw [List.take_append_drop] at h
  exact h.trans (List.perm_append_singleton e l).symm
theorem ent_eq_sorted {n0 : Nat} {a b : List Entry} (ha : a.Pairwise fun x y => entOrd x y < 0) (hb : b.Pairwise fun x y => entOrd x y < 0) (hn : ∀ q ∈ a, q.key.length = n0) (hp : a.Perm b) : a = b := by
  have hC := entOrd_cmp n0
  have key : ∀ {a b : List Entry}, a.Pairwise (fun x y => entOrd x y < 0) → b.Pairwise (fun x y => entOrd x y < 0) → (∀ q ∈ a, q.key.length = n0) → a.Perm b → a = b := by
    intro a
    induction a with
    | nil => intro b _ _ _ hp; exact (List.nil_perm.1 hp).symm
    | cons x r ih =>
      intro b ha hb hn hp
      cases b with
      | nil => exact absurd hp.symm (fun h => by simpa using List.nil_perm.1 h)
      | cons y t =>
        rw [List.pairwise_cons] at ha hb
        have hxy : x = y := by
          have h1 : x ∈ y :: t := hp.mem_iff.1 (by simp)
          have h2 : y ∈ x :: r := hp.mem_iff.2 (by simp)
          rcases List.mem_cons.1 h1 with h1 | h1
          · exact h1
          · rcases List.mem_cons.1 h2 with h2 | h2
            · exact h2.symm
            · have p1 := hb.1 x h1
              have p2 := ha.1 y h2
              have := (hC.flip _ _ (hn x (by simp)) (hn y (by simp [h2]))).1 p2
              omega
        subst hxy
        rw [ih ha.2 hb.2 (fun q hq => hn q (by simp [hq])) (List.Perm.cons_inv hp)]
  exact key ha hb hn hp
theorem strict_of {a : List Entry} (h : a.Pairwise fun x y => entOrd x y < 0 ∨ x = y) (hn : a.Nodup) : a.Pairwise fun x y => entOrd x y < 0 :=
  (List.pairwise_and_iff.2 ⟨h, hn⟩).imp fun ⟨h1, h2⟩ => h1.elim (fun h => h) fun h => absurd h h2
theorem putF_sorted {n0 : Nat} {e : Entry} : ∀ {l : List Entry}, l.Pairwise (fun x y => entOrd x y < 0) → (∀ q ∈ l, q.key.length = n0) → e.key.length = n0 → e ∉ l → (∀ q ∈ l, lessK q.key e.key q.id e.id = decide (entOrd q e < 0)) → (putF e l).Pairwise fun x y => entOrd x y < 0
  | [], _, _, _, _, _ => by simp [putF, putPos]
  | a :: r, hs, hn, he, hne, hl => by
    have hC := entOrd_cmp n0
    rw [List.pairwise_cons] at hs
    have hla := hl a (by simp)
    have hna := hn a (by simp)
    rw [putF, putPos, hla]
    by_cases h : entOrd a e < 0
    · rw [if_pos (decide_eq_true h), List.take_succ_cons, List.drop_succ_cons, List.cons_append, List.pairwise_cons]
      have ih := putF_sorted hs.2 (fun q hq => hn q (by simp [hq])) he (fun h => hne (by simp [h])) fun q hq => hl q (by simp [hq])
      refine ⟨fun q hq => ?_, ih⟩
      have hq2 := (putF_perm e r).mem_iff.1 hq
      rcases List.mem_append.1 hq2 with hq2 | hq2
      · exact hs.1 q hq2
      · rw [List.mem_singleton.1 hq2]; exact h
    · rw [if_neg (by simp [h])]
      simp only [List.take_zero, List.drop_zero, List.nil_append]
      have hea : entOrd e a < 0 := by
        by_cases h0 : entOrd a e = 0
        · exact absurd (hC.eq _ _ hna he h0) (fun h => hne (by simp [h]))
        · exact (hC.flip _ _ he hna).2 (by omega)
      rw [List.pairwise_cons, List.pairwise_cons]
      refine ⟨fun q hq => ?_, hs⟩
      rcases List.mem_cons.1 hq with rfl | hq
      · exact hea
      · exact hC.trans _ _ _ he hna (hn q (by simp [hq])) hea (hs.1 q hq)
end Go.Proofs.YtdgnfdljkghpjaaGreat.Am

/- An entry put into an index: the reference's own. -/
set_option linter.unusedVariables false
set_option linter.unusedSimpArgs false
namespace Go.Proofs.YtdgnfdljkghpjaaGreat.Am

theorem fin_no {σ : Store} {l : List (Nat × List (List Ce))} {b : Bool} : Fin σ (.tup [.c (.fz []), .c (.bool b)]) (.tup [.c .nils, .c (.bool b)]) (E σ l) :=
  ⟨l, rfl, .tup rfl fun i hi => by
    match i, hi with
    | 0, _ => exact .c .nil
    | 1, _ => exact .refl (by intro y hy; simp [AV.all] at hy; subst hy; exact .bool _)⟩
end Go.Proofs.YtdgnfdljkghpjaaGreat.Am

/- An entry put into an index: the program's own. -/
set_option linter.unusedVariables false
set_option linter.unusedSimpArgs false
namespace Go.Proofs.YtdgnfdljkghpjaaGreat.Am

end Go.Proofs.YtdgnfdljkghpjaaGreat.Am
