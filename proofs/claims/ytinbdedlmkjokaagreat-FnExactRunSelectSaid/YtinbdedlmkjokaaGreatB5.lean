/- Joined texts: K1, K2, S1, S2, S3, S4, S5, S6, S7, K3, S9, K4, D1, P1, F9, E1, E2, E3, E4, M0, M1. -/
import Derived.Test.YtinbdedlmkjokaaGreatB1
import Derived.Test.YtinbdedlmkjokaaGreatB2
import Derived.Test.YtinbdedlmkjokaaGreatB3
import Derived.Test.YtinbdedlmkjokaaGreatB4
/- The laws' helpers on types, printed by a program: Tok, Check, Unique, Fk, Col. -/
set_option linter.unusedVariables false
set_option linter.unusedSimpArgs false
namespace Go.Proofs.YtinbdedlmkjokaaGreat.Am
/-- Sizes taken off one behind the other. -/
def chain : List (Int → Int) → Int → Int
  | [], l => l
  | f :: r, l => if f l < 0 then -1 else chain r (f l)
inductive Steps : List (Int → Int) → Prop where
  | nil : Steps []
  | cons {f : Int → Int} {r : List (Int → Int)} (h : ∀ l, 0 ≤ l → f l ≤ l) (k : Steps r) : Steps (f :: r)
theorem chain_le {fs : List (Int → Int)} (h : Steps fs) : ∀ l, 0 ≤ l → chain fs l ≤ l := by
  induction h with
  | nil => intro l _; exact Int.le_refl _
  | @cons f0 r h _ ih =>
    intro l hl
    simp only [chain]
    split
    · omega
    · have := h l hl
      have := ih (f0 l) (by omega)
      omega
theorem chain_all {fs : List (Int → Int)} (h : Steps fs) : ∀ l, 0 ≤ l → 0 ≤ chain fs l → ∀ f ∈ fs, ∃ q, 0 ≤ q ∧ q ≤ l ∧ 0 ≤ f q := by
  induction h with
  | nil => intro l _ _ f hf; simp at hf
  | @cons f0 r h _ ih =>
    intro l hl hc f hf
    simp only [chain] at hc
    split at hc
    · omega
    · rename_i h0
      rcases List.mem_cons.1 hf with rfl | hf
      · exact ⟨l, hl, Int.le_refl _, by omega⟩
      · obtain ⟨q, h1, h2, h3⟩ := ih _ (by omega) hc f hf
        have := h l hl
        exact ⟨q, h1, by omega, h3⟩
theorem step_str (s : List UInt8) : ∀ l : Int, 0 ≤ l → l - s.length ≤ l := fun l _ => by omega
def zI (xs : List Int) (l : Int) : Int := if l - xs.length < 0 then -1 else l - xs.length
theorem step_ints (xs : List Int) : ∀ l : Int, 0 ≤ l → zI xs l ≤ l := fun l _ => by
  simp only [zI]
  split <;> omega
def bV (N : Nat) (v : Val) : Prop := v.s.length ≤ N
theorem bV_of {v : Val} {l : Int} {N : Nat} (h : 0 ≤ szV v l) (hl : l ≤ N) : bV N v := by
  simp only [szV] at h
  simp only [bV]
  split at h <;> omega
theorem ints_of {xs : List Int} {l : Int} {N : Nat} (h : 0 ≤ zI xs l) (hl : l ≤ N) : xs.length ≤ N := by
  simp only [zI] at h
  split at h <;> omega
theorem list_of {α : Type} {g : α → Int → Int} {b : Nat → α → Prop} (hg : ∀ a l, 0 ≤ l → g a l ≤ l) (hb : ∀ a l (N : Nat), 0 ≤ l → 0 ≤ g a l → l ≤ N → b N a) {xs : List α} {l : Int} {N : Nat} (h0 : 0 ≤ l) (h : 0 ≤ szL g xs l) (hl : l ≤ N) : xs.length ≤ N ∧ ∀ x ∈ xs, b N x := by
  obtain ⟨h1, h2⟩ := szL_mem hg (xs := xs) (left := l) h0 h
  refine ⟨by omega, fun x hx => ?_⟩
  obtain ⟨q, a, b, c⟩ := h2 x hx
  exact hb x q N a c (by omega)
theorem szInt64S_ok (xs : List Int) (left : Int) (hx : xs.length ≤ 1125899906842624) (h0 : 0 ≤ left) (h1 : left ≤ 34359738368) : Pure Tryz.prog 103 [.c (.fz (xs.map encI)), .c (.int .i64 left)] (.c (.int .i64 (zI xs left))) := by
  refine Pure.run mixed c_laws_szInt64S_ok (Nat.le_of_ble_eq_true rfl) fun σ hS hA => ?_
  clear hS hA
  have hw : IntKind.i64.wrap (left - xs.length) = left - xs.length := wrap64 (by omega) (by omega)
  repeat' first|refine yaG ?_|(exfalso;omega)|(refine yaS ?_ ?_<;>intro _)
  · refine .ret rfl (.int ?_)
    rename_i h
    rw [hw] at h
    rw [zI, if_pos h]
  · refine .ret rfl (.int ?_)
    rename_i h
    rw [hw] at h ⊢
    rw [zI, if_neg h]
theorem toInt64S_ok (xs : List Int) (hx : xs.length ≤ 34359738368) (σ : Store) : Ok Tryz.prog 107 [.c (.fz (xs.map encI))] σ (New σ (.fz (xs.map encI))) := by
  refine Makes.new (s := 1) (flatI xs) (Makes.run mixed c_laws_toInt64S_ok (Nat.le_of_ble_eq_true rfl) fun σ hS hA => ?_) σ
  clear hS hA
  repeat' first|refine yaG ?_|((first|apply yG|apply yH|apply yI);exact rfl;(first|exact aop_mkslice rfl rfl (show 8 * xs.length ≤ 140737488355328 by omega)))|(exfalso;omega)|(refine yaS ?_ ?_<;>intro _)
  refine Go.keep [0, 3, 4] (Go.loops (I := fun m fr τ => ∃ i : Nat, ∃ n : Int, ∃ cs : List (List Ce), m = xs.length - i ∧ i ≤ xs.length ∧ n = i ∧ (cs.length = xs.length ∧ (∀ e ∈ cs, e.length = 1) ∧ ∀ j (h1 : j < xs.length) (h2 : j < cs.length), j < i → cs[j] = encI xs[j]) ∧
    fr = [(0, .c (.fz (xs.map encI))), (3, .c (.sl (σ.next + 0) 0 0 xs.length xs.length)), (4, .c (.int .i64 n))] ∧ τ = E σ [(0, cs)]) ?_ _ _ _ ⟨0, _, List.replicate xs.length [.int .i64 0], rfl, Nat.zero_le _, rfl, ⟨by simp, fun e he => by rw [List.eq_of_mem_replicate he]; rfl, fun j _ _ h => absurd h (by omega)⟩, rfl, rfl⟩)
  rintro m fr τ ⟨i, n, cs, rfl, hi, hn, ⟨hcl, hcs, hh⟩, rfl, rfl⟩ hrec
  by_cases hlt : i < xs.length
  · have hlc : i < cs.length := by omega
    have he : cs[0 + i]? = some cs[i] := by simp [hlc]
    have hel : cs[i].length = 1 := hcs _ (List.getElem_mem hlc)
    repeat' first|refine yaG ?_|((first|apply yG|apply yH|apply yI);exact rfl;(first|exact yX (enc := encI) rfl rfl hn hlt rfl|exact aop_iaddr (k := 0) (n := i) rfl rfl hn hlt rfl he hel|exact aop_store (k := 0) rfl rfl rfl rfl he rfl (by omega)))|(exfalso;omega)|(refine yaS ?_ ?_<;>intro _)
    have hsp : splice cs[i] 0 [Ce.int IntKind.i64 xs[i]] = encI xs[i] := splice_all hel rfl
    rw [hsp]
    refine Go.keep [0, 3, 4] (hrec _ _ _ (by omega) ⟨i + 1, _, cs.set (0 + i) (encI xs[i]), rfl, hlt, wrap_succ hn (by omega), ⟨by simp [hcl], fun e he' => ?_, fun j h1 h2 hj => ?_⟩, rfl, rfl⟩)
    · rcases List.mem_or_eq_of_mem_set he' with h | h
      · exact hcs _ h
      · rw [h]; rfl
    · by_cases e : j = i
      · subst e; simp
      · rw [List.getElem_set_ne (by omega)]
        exact hh j h1 (by simpa using h2) (by omega)
  · repeat' first|refine yaG ?_|(exfalso;omega)|(refine yaS ?_ ?_<;>intro _)
    have hcs2 : cs = xs.map encI := List.ext_getElem (by simp [hcl]) fun j h1 h2 => by
      rw [List.getElem_map]
      exact hh j (by simpa using h2) h1 (by simp at h2; omega)
    subst hcs2
    refine .ret rfl ⟨0, [], Jk.nil, ?_, by simp⟩
    simp [vec]
/-- Blocks 0 and 1 are a function's variables: what lies behind them stays. -/
theorem Has.more {σ : Store} {S : Nat → Prop} {y x : Ce} {l : List (Nat × List (List Ce))} (h : ∀ A B, Has (E σ (A :: B :: l)) S y x) (hS : ∀ a, S a → σ.next + 2 ≤ a ∧ a < σ.next + 2 + l.length) (m : List (Nat × List (List Ce))) : ∀ A B, Has (E σ (A :: B :: (l ++ m))) S y x := by
  intro A B
  refine (h A B).frame fun a ha => ?_
  have := hS a ha
  rw [E_ge (by omega), E_ge (by omega)]
  obtain ⟨q, hq⟩ : ∃ q, a - σ.next = q + 2 := ⟨a - σ.next - 2, by omega⟩
  rw [hq]
  simp only [List.getElem?_cons_succ]
  rw [List.getElem?_append_left (by omega)]
theorem Has.new2 {σ : Store} {y x : Ce} {A0 B0 : Nat × List (List Ce)} {l l2 : List (Nat × List (List Ce))} (h : Has (E σ ((A0 :: B0 :: l) ++ l2)) (fun a => (E σ (A0 :: B0 :: l)).next ≤ a ∧ a < (E σ ((A0 :: B0 :: l) ++ l2)).next) y x) :
    ∀ A B, Has (E σ (A :: B :: (l ++ l2))) (fun a => σ.next + 2 + l.length ≤ a ∧ a < σ.next + 2 + (l ++ l2).length) y x := by
  intro A B
  refine (h.frame fun a ha => ?_).mono fun a ha => ?_
  · have := ha.1
    simp only [E_next, List.length_cons] at this
    exact E_two (by omega)
  · have h1 := ha.1
    have h2 := ha.2
    simp only [E_next, List.length_cons, List.length_append] at h1 h2 ⊢
    omega
theorem HasL.skip {τ : Store} {S : Nat → Prop} {c : Ce} {ys xs : List Ce} (hc : Flat c) (k : HasL τ S ys xs) : HasL τ S (c :: ys) (c :: xs) :=
  (HasL.two (S := fun _ => False) (.c hc) k (fun _ h => h.elim)).mono fun a ha => ha.elim (fun h => h.elim) id
theorem tidy_pre {n : Nat} {l m : List (Nat × List (List Ce))} (h : TidyL n l) (k : TidyL n m) : TidyL n (l ++ m) := fun b hb => (List.mem_append.1 hb).elim (h b) (k b)
theorem tidy_up {σ : Store} {l l2 : List (Nat × List (List Ce))} (h : TidyL (E σ l).next l2) : TidyL σ.next l2 := fun b hb e he x hx => (h b hb e he x hx).mono (by simp [E_next])

structure Tok where
  kind : Int
  col : Int
  v : Val
  deriving DecidableEq
def encTok (a : Tok) : List Ce := [.int .i64 a.kind, .int .i64 a.col, .int .i64 a.v.k, .int .i64 a.v.n, .str a.v.s]
theorem flatTok (a : Tok) : ∀ x ∈ encTok a, Flat x := by
  intro x hx
  simp only [encTok, List.mem_cons, List.not_mem_nil, or_false] at hx
  rcases hx with rfl | rfl | rfl | rfl | rfl <;> constructor
def bTok (N : Nat) (a : Tok) : Prop := bV N a.v
def zTok (a : Tok) : Int → Int := chain [(szV a.v)]
theorem zTok_steps (a : Tok) : Steps [(szV a.v)] := (.cons (fun l h => szV_le _ l h) .nil)
theorem zTok_le (a : Tok) (l : Int) (h : 0 ≤ l) : zTok a l ≤ l := chain_le (zTok_steps a) l h
theorem bTok_of (a : Tok) (l : Int) (N : Nat) (h0 : 0 ≤ l) (h : 0 ≤ zTok a l) (hl : l ≤ N) : bTok N a := by
  have hh := chain_all (zTok_steps a) l h0 h
  obtain ⟨q0, u0, v0, w0⟩ := hh (szV a.v) (by simp)
  exact (bV_of w0 (by omega))
theorem szTok_ok (a : Tok) (left : Int) (hb : bTok 1125899906842624 a) (h0 : 0 ≤ left) (h1 : left ≤ 34359738368) : Pure Tryz.prog 187 [.agg (encTok a), .c (.int .i64 left)] (.c (.int .i64 (zTok a left))) := by
  refine Pure.run mixed c_laws_szTok_ok (Nat.le_of_ble_eq_true rfl) fun σ hS hA => ?_
  clear hS hA
  repeat' first|refine yaG ?_|fail
  refine .pcall rfl rfl rfl (szVal_ok a.v left hb (by omega) (by omega)) ?_
  have y1 := szV_le a.v left (by omega)
  generalize e1 : szV a.v left = l1 at y1 ⊢
  repeat' first|refine yaG ?_|(exfalso;omega)|(refine yaS ?_ ?_<;>intro _)
  · refine .ret rfl (.int ?_)
    rename_i h
    simp only [zTok, chain, e1, if_pos h]
  rename_i g1
  refine .ret rfl (.int ?_)
  simp only [zTok, chain, e1, if_neg g1]
theorem szTokS_ok (xs : List Tok) (left : Int) (hx : xs.length ≤ 1125899906842624) (hv : ∀ e ∈ xs, bTok 1125899906842624 e) (h0 : 0 ≤ left) (h1 : left ≤ 34359738368) : Pure Tryz.prog 102 [.c (.fz (xs.map encTok)), .c (.int .i64 left)] (.c (.int .i64 (szL zTok xs left))) :=
  szS_ok mixed c_laws_szTokS_ok encTok zTok xs left hx h0 h1 (fun _ => rfl) zTok_le fun a ha l h2 h3 => szTok_ok a l (hv a ha) h2 (by omega)
theorem toTok_ok (a : Tok) (hb : bTok 34359738368 a) (σ : Store) : Ok Tryz.prog 190 [.agg (encTok a)] σ (NewL σ (encTok a)) := by
  refine Ok.run mixed c_laws_toTok_ok (Nat.le_of_ble_eq_true rfl) fun hS hA => ?_
  clear hS hA
  repeat' first|refine yaG ?_|refine yaC (NewL.pure (toVal_ok a.v)) ?_|(exfalso;omega)|(refine yaS ?_ ?_<;>intro _)
  refine .ret (retv_m rfl rfl rfl (Nat.le_of_ble_eq_true rfl) rfl) ⟨encTok a, _, rfl, rfl, ?_, .flat (flatTok a)⟩
  show TidyL σ.next [(0, [encTok a]), (0, [encTok a])]
  exact .one (fun x hx => .flat (flatTok a x hx)) (.one (fun x hx => .flat (flatTok a x hx)) .nil)
theorem toTokS_ok (xs : List Tok) (hx : xs.length ≤ 34359738368) (hv : ∀ e ∈ xs, bTok 34359738368 e) (σ : Store) : Ok Tryz.prog 106 [.c (.fz (xs.map encTok))] σ (New σ (.fz (xs.map encTok))) :=
  toS_ok mixed c_laws_toTokS_ok encTok xs hx (by decide) rfl (fun _ => rfl) (by intro x hx; simp only [List.mem_cons, List.not_mem_nil, or_false] at hx; rcases hx with rfl | rfl | rfl | rfl | rfl <;> constructor) (fun a ha σ => toTok_ok a (hv a ha) σ) σ
theorem Tok_beq (a b : Tok) : (a == b) = (a.kind == b.kind && a.col == b.col && a.v == b.v) := by
  obtain ⟨a0, a1, a2⟩ := a
  obtain ⟨b0, b1, b2⟩ := b
  rw [Bool.eq_iff_iff]
  simp [and_assoc]
theorem eqTok_ok (a b : Tok) (hb : bTok 34359738368 a) : Pure Tryz.prog 194 [.agg (encTok a), .agg (encTok b)] (.c (.bool (a == b))) := by
  refine Pure.run mixed c_laws_eqTok_ok (Nat.le_of_ble_eq_true rfl) fun σ hS hA => ?_
  clear hS hA
  have hq := Tok_beq a b
  repeat' first|refine yaG ?_|((first|apply Go.pcallB|apply Go.spcallB|apply Qg.pcallB);(iterate 3 exact rfl);exact eqVal_ok a.v b.v;intro _ _)|(exfalso;omega)|(refine yaS ?_ ?_<;>intro _)
  all_goals refine .ret rfl (.bool ?_)
  all_goals rw [hq]
  all_goals clear hq hb
  all_goals simp_all
theorem eqTokS_ok (xs ys : List Tok) (hx : xs.length ≤ 34359738368) (hv : ∀ e ∈ xs, bTok 34359738368 e) : Pure Tryz.prog 111 [.c (.fz (xs.map encTok)), .c (.fz (ys.map encTok))] (.c (.bool (xs == ys))) :=
  eqS_ok mixed c_laws_eqTokS_ok encTok xs ys hx (fun _ => rfl) fun a ha b => eqTok_ok a b (hv a ha)
structure Chk where
  expr : List Tok
  deriving DecidableEq
def encChk (a : Chk) : List Ce := [.fz (a.expr.map encTok)]
def bChk (N : Nat) (a : Chk) : Prop := (a.expr.length ≤ N ∧ ∀ x ∈ a.expr, bTok N x)
def zChk (a : Chk) : Int → Int := chain [(szL zTok a.expr)]
theorem zChk_steps (a : Chk) : Steps [(szL zTok a.expr)] := (.cons (fun l h => szL_le zTok_le _ l h) .nil)
theorem zChk_le (a : Chk) (l : Int) (h : 0 ≤ l) : zChk a l ≤ l := chain_le (zChk_steps a) l h
theorem bChk_of (a : Chk) (l : Int) (N : Nat) (h0 : 0 ≤ l) (h : 0 ≤ zChk a l) (hl : l ≤ N) : bChk N a := by
  have hh := chain_all (zChk_steps a) l h0 h
  obtain ⟨q0, u0, v0, w0⟩ := hh (szL zTok a.expr) (by simp)
  exact (list_of zTok_le bTok_of u0 w0 (by omega))
theorem szChk_ok (a : Chk) (left : Int) (hb : bChk 1125899906842624 a) (h0 : 0 ≤ left) (h1 : left ≤ 34359738368) : Pure Tryz.prog 211 [.agg (encChk a), .c (.int .i64 left)] (.c (.int .i64 (zChk a left))) := by
  refine Pure.run mixed c_laws_szCheck_ok (Nat.le_of_ble_eq_true rfl) fun σ hS hA => ?_
  clear hS hA
  repeat' first|refine yaG ?_|fail
  refine .pcall rfl rfl rfl (szTokS_ok a.expr left hb.1 hb.2 (by omega) (by omega)) ?_
  have y1 := szL_le zTok_le a.expr left (by omega)
  generalize e1 : szL zTok a.expr left = l1 at y1 ⊢
  repeat' first|refine yaG ?_|(exfalso;omega)|(refine yaS ?_ ?_<;>intro _)
  · refine .ret rfl (.int ?_)
    rename_i h
    simp only [zChk, chain, e1, if_pos h]
  rename_i g1
  refine .ret rfl (.int ?_)
  simp only [zChk, chain, e1, if_neg g1]
theorem szChkS_ok (xs : List Chk) (left : Int) (hx : xs.length ≤ 1125899906842624) (hv : ∀ e ∈ xs, bChk 1125899906842624 e) (h0 : 0 ≤ left) (h1 : left ≤ 34359738368) : Pure Tryz.prog 133 [.c (.fz (xs.map encChk)), .c (.int .i64 left)] (.c (.int .i64 (szL zChk xs left))) :=
  szS_ok mixed c_laws_szCheckS_ok encChk zChk xs left hx h0 h1 (fun _ => rfl) zChk_le fun a ha l h2 h3 => szChk_ok a l (hv a ha) h2 (by omega)
theorem toChk_ok (a : Chk) (hb : bChk 34359738368 a) (σ : Store) : Ok Tryz.prog 215 [.agg (encChk a)] σ (NewL σ (encChk a)) := by
  refine Ok.run mixed c_laws_toCheck_ok (Nat.le_of_ble_eq_true rfl) fun hS hA => ?_
  clear hS hA
  repeat' first|refine yaG ?_|(exfalso;omega)|(refine yaS ?_ ?_<;>intro _)
  refine Go.call _ rfl rfl rfl (toTokS_ok a.expr hb.1 hb.2 _) ?_
  rintro r σ0 ⟨x0, m0, rfl, rfl, t0, h0⟩
  rw [E_E] at h0 ⊢
  have t0 := tidy_up t0
  have h0 := h0.new2
  repeat' first|refine yaG ?_|(exfalso;omega)|(refine yaS ?_ ?_<;>intro _)
  have hL : HasL (E σ ((0, [[x0]]) :: (0, [[x0]]) :: ([] ++ m0))) (fun a => σ.next + 2 ≤ a ∧ a < σ.next + 2 + ([] ++ m0).length) (encChk a) [x0] := by
    refine HasL.mono ?_ (HasL.two (h0 _ _) (HasL.nil (S := fun a => a < 0)) (fun a ha hb => by (try dsimp only at ha hb); (try simp only [List.append_eq, List.length_append, List.length_nil, List.nil_append] at ha hb); omega))
    intro a ha
    (try dsimp only at ha)
    (try simp only [List.append_eq, List.length_append, List.length_nil, List.nil_append] at ha ⊢)
    omega
  have hT := hL.tidy (n := σ.next) fun a ha => by have := ha.1; omega
  have hM : TidyL σ.next ([] ++ m0) := (tidy_pre (fun b hb => by simp at hb) t0)
  have hN : NewL σ (encChk a) (.agg [x0]) (E σ ((0, [[x0]]) :: (0, [[x0]]) :: ([] ++ m0))) := by
    refine ⟨_, _, rfl, rfl, .one hT (.one hT hM), hL.mono ?_⟩
    intro a ha
    have h9 := ha.1
    have h8 := ha.2
    (try simp only [E_next, List.length_cons, List.append_eq, List.length_append, List.length_nil, List.nil_append] at h8 ⊢)
    constructor <;> omega
  exact .ret (retv_m rfl rfl rfl (Nat.le_of_ble_eq_true rfl) rfl) hN
theorem toChkS_ok (xs : List Chk) (hx : xs.length ≤ 34359738368) (hv : ∀ e ∈ xs, bChk 34359738368 e) (σ : Store) : Ok Tryz.prog 137 [.c (.fz (xs.map encChk))] σ (New σ (.fz (xs.map encChk))) :=
  toS_ok mixed c_laws_toCheckS_ok encChk xs hx (by decide) rfl (fun _ => rfl) (by intro x hx; simp only [List.mem_cons, List.not_mem_nil, or_false] at hx; rcases hx with rfl <;> constructor) (fun a ha σ => toChk_ok a (hv a ha) σ) σ
theorem Chk_beq (a b : Chk) : (a == b) = (a.expr == b.expr) := by
  obtain ⟨a0⟩ := a
  obtain ⟨b0⟩ := b
  rw [Bool.eq_iff_iff]
  simp [and_assoc]
theorem eqChk_ok (a b : Chk) (hb : bChk 34359738368 a) : Pure Tryz.prog 219 [.agg (encChk a), .agg (encChk b)] (.c (.bool (a == b))) := by
  refine Pure.run mixed c_laws_eqCheck_ok (Nat.le_of_ble_eq_true rfl) fun σ hS hA => ?_
  clear hS hA
  have hq := Chk_beq a b
  repeat' first|refine yaG ?_|((first|apply Go.pcallB|apply Go.spcallB|apply Qg.pcallB);(iterate 3 exact rfl);exact eqTokS_ok a.expr b.expr hb.1 hb.2;intro _ _)|(exfalso;omega)|(refine yaS ?_ ?_<;>intro _)
  all_goals refine .ret rfl (.bool ?_)
  all_goals rw [hq]
  all_goals clear hq hb
  all_goals simp_all
theorem eqChkS_ok (xs ys : List Chk) (hx : xs.length ≤ 34359738368) (hv : ∀ e ∈ xs, bChk 34359738368 e) : Pure Tryz.prog 142 [.c (.fz (xs.map encChk)), .c (.fz (ys.map encChk))] (.c (.bool (xs == ys))) :=
  eqS_ok mixed c_laws_eqCheckS_ok encChk xs ys hx (fun _ => rfl) fun a ha b => eqChk_ok a b (hv a ha)
structure Uniq where
  cols : List Int
  deriving DecidableEq
def encUniq (a : Uniq) : List Ce := [.fz (a.cols.map encI)]
def bUniq (N : Nat) (a : Uniq) : Prop := a.cols.length ≤ N
def zUniq (a : Uniq) : Int → Int := chain [(zI a.cols)]
theorem zUniq_steps (a : Uniq) : Steps [(zI a.cols)] := (.cons (step_ints _) .nil)
theorem zUniq_le (a : Uniq) (l : Int) (h : 0 ≤ l) : zUniq a l ≤ l := chain_le (zUniq_steps a) l h
theorem bUniq_of (a : Uniq) (l : Int) (N : Nat) (h0 : 0 ≤ l) (h : 0 ≤ zUniq a l) (hl : l ≤ N) : bUniq N a := by
  have hh := chain_all (zUniq_steps a) l h0 h
  obtain ⟨q0, u0, v0, w0⟩ := hh (zI a.cols) (by simp)
  exact (ints_of w0 (by omega))
theorem szUniq_ok (a : Uniq) (left : Int) (hb : bUniq 1125899906842624 a) (h0 : 0 ≤ left) (h1 : left ≤ 34359738368) : Pure Tryz.prog 210 [.agg (encUniq a), .c (.int .i64 left)] (.c (.int .i64 (zUniq a left))) := by
  refine Pure.run mixed c_laws_szUnique_ok (Nat.le_of_ble_eq_true rfl) fun σ hS hA => ?_
  clear hS hA
  repeat' first|refine yaG ?_|fail
  refine .pcall rfl rfl rfl (szInt64S_ok a.cols left hb (by omega) (by omega)) ?_
  have y1 := step_ints a.cols left (by omega)
  generalize e1 : zI a.cols left = l1 at y1 ⊢
  repeat' first|refine yaG ?_|(exfalso;omega)|(refine yaS ?_ ?_<;>intro _)
  · refine .ret rfl (.int ?_)
    rename_i h
    simp only [zUniq, chain, e1, if_pos h]
  rename_i g1
  refine .ret rfl (.int ?_)
  simp only [zUniq, chain, e1, if_neg g1]
theorem szUniqS_ok (xs : List Uniq) (left : Int) (hx : xs.length ≤ 1125899906842624) (hv : ∀ e ∈ xs, bUniq 1125899906842624 e) (h0 : 0 ≤ left) (h1 : left ≤ 34359738368) : Pure Tryz.prog 132 [.c (.fz (xs.map encUniq)), .c (.int .i64 left)] (.c (.int .i64 (szL zUniq xs left))) :=
  szS_ok mixed c_laws_szUniqueS_ok encUniq zUniq xs left hx h0 h1 (fun _ => rfl) zUniq_le fun a ha l h2 h3 => szUniq_ok a l (hv a ha) h2 (by omega)
theorem toUniq_ok (a : Uniq) (hb : bUniq 34359738368 a) (σ : Store) : Ok Tryz.prog 214 [.agg (encUniq a)] σ (NewL σ (encUniq a)) := by
  refine Ok.run mixed c_laws_toUnique_ok (Nat.le_of_ble_eq_true rfl) fun hS hA => ?_
  clear hS hA
  repeat' first|refine yaG ?_|(exfalso;omega)|(refine yaS ?_ ?_<;>intro _)
  refine Go.call _ rfl rfl rfl (toInt64S_ok a.cols hb _) ?_
  rintro r σ0 ⟨x0, m0, rfl, rfl, t0, h0⟩
  rw [E_E] at h0 ⊢
  have t0 := tidy_up t0
  have h0 := h0.new2
  repeat' first|refine yaG ?_|(exfalso;omega)|(refine yaS ?_ ?_<;>intro _)
  have hL : HasL (E σ ((0, [[x0]]) :: (0, [[x0]]) :: ([] ++ m0))) (fun a => σ.next + 2 ≤ a ∧ a < σ.next + 2 + ([] ++ m0).length) (encUniq a) [x0] := by
    refine HasL.mono ?_ (HasL.two (h0 _ _) (HasL.nil (S := fun a => a < 0)) (fun a ha hb => by (try dsimp only at ha hb); (try simp only [List.append_eq, List.length_append, List.length_nil, List.nil_append] at ha hb); omega))
    intro a ha
    (try dsimp only at ha)
    (try simp only [List.append_eq, List.length_append, List.length_nil, List.nil_append] at ha ⊢)
    omega
  have hT := hL.tidy (n := σ.next) fun a ha => by have := ha.1; omega
  have hM : TidyL σ.next ([] ++ m0) := (tidy_pre (fun b hb => by simp at hb) t0)
  have hN : NewL σ (encUniq a) (.agg [x0]) (E σ ((0, [[x0]]) :: (0, [[x0]]) :: ([] ++ m0))) := by
    refine ⟨_, _, rfl, rfl, .one hT (.one hT hM), hL.mono ?_⟩
    intro a ha
    have h9 := ha.1
    have h8 := ha.2
    (try simp only [E_next, List.length_cons, List.append_eq, List.length_append, List.length_nil, List.nil_append] at h8 ⊢)
    constructor <;> omega
  exact .ret (retv_m rfl rfl rfl (Nat.le_of_ble_eq_true rfl) rfl) hN
theorem toUniqS_ok (xs : List Uniq) (hx : xs.length ≤ 34359738368) (hv : ∀ e ∈ xs, bUniq 34359738368 e) (σ : Store) : Ok Tryz.prog 136 [.c (.fz (xs.map encUniq))] σ (New σ (.fz (xs.map encUniq))) :=
  toS_ok mixed c_laws_toUniqueS_ok encUniq xs hx (by decide) rfl (fun _ => rfl) (by intro x hx; simp only [List.mem_cons, List.not_mem_nil, or_false] at hx; rcases hx with rfl <;> constructor) (fun a ha σ => toUniq_ok a (hv a ha) σ) σ
theorem Uniq_beq (a b : Uniq) : (a == b) = (a.cols == b.cols) := by
  obtain ⟨a0⟩ := a
  obtain ⟨b0⟩ := b
  rw [Bool.eq_iff_iff]
  simp [and_assoc]
theorem eqUniq_ok (a b : Uniq) (hb : bUniq 34359738368 a) : Pure Tryz.prog 218 [.agg (encUniq a), .agg (encUniq b)] (.c (.bool (a == b))) := by
  refine Pure.run mixed c_laws_eqUnique_ok (Nat.le_of_ble_eq_true rfl) fun σ hS hA => ?_
  clear hS hA
  have hq := Uniq_beq a b
  repeat' first|refine yaG ?_|((first|apply Go.pcallB|apply Go.spcallB|apply Qg.pcallB);(iterate 3 exact rfl);exact eqInt64S_ok a.cols b.cols hb;intro _ _)|(exfalso;omega)|(refine yaS ?_ ?_<;>intro _)
  all_goals refine .ret rfl (.bool ?_)
  all_goals rw [hq]
  all_goals clear hq hb
  all_goals simp_all
theorem eqUniqS_ok (xs ys : List Uniq) (hx : xs.length ≤ 34359738368) (hv : ∀ e ∈ xs, bUniq 34359738368 e) : Pure Tryz.prog 141 [.c (.fz (xs.map encUniq)), .c (.fz (ys.map encUniq))] (.c (.bool (xs == ys))) :=
  eqS_ok mixed c_laws_eqUniqueS_ok encUniq xs ys hx (fun _ => rfl) fun a ha b => eqUniq_ok a b (hv a ha)
structure Fk where
  cols : List Int
  table : List UInt8
  onDelete : Int
  onUpdate : Int
  deferred : Bool
  deriving DecidableEq
def encFk (a : Fk) : List Ce := [.fz (a.cols.map encI), .str a.table, .int .i64 a.onDelete, .int .i64 a.onUpdate, .bool a.deferred]
def bFk (N : Nat) (a : Fk) : Prop := a.cols.length ≤ N ∧ a.table.length ≤ N
def zFk (a : Fk) : Int → Int := chain [(zI a.cols), (fun l => l - a.table.length)]
theorem zFk_steps (a : Fk) : Steps [(zI a.cols), (fun l => l - a.table.length)] := (.cons (step_ints _) (.cons (step_str _) .nil))
theorem zFk_le (a : Fk) (l : Int) (h : 0 ≤ l) : zFk a l ≤ l := chain_le (zFk_steps a) l h
theorem bFk_of (a : Fk) (l : Int) (N : Nat) (h0 : 0 ≤ l) (h : 0 ≤ zFk a l) (hl : l ≤ N) : bFk N a := by
  have hh := chain_all (zFk_steps a) l h0 h
  obtain ⟨q0, u0, v0, w0⟩ := hh (zI a.cols) (by simp)
  obtain ⟨q1, u1, v1, w1⟩ := hh (fun l => l - a.table.length) (by simp)
  exact ⟨(ints_of w0 (by omega)), (by (try simp only at w1); omega)⟩
theorem szFk_ok (a : Fk) (left : Int) (hb : bFk 1125899906842624 a) (h0 : 0 ≤ left) (h1 : left ≤ 34359738368) : Pure Tryz.prog 212 [.agg (encFk a), .c (.int .i64 left)] (.c (.int .i64 (zFk a left))) := by
  refine Pure.run mixed c_laws_szFk_ok (Nat.le_of_ble_eq_true rfl) fun σ hS hA => ?_
  clear hS hA
  repeat' first|refine yaG ?_|fail
  refine .pcall rfl rfl rfl (szInt64S_ok a.cols left hb.1 (by omega) (by omega)) ?_
  have y1 := step_ints a.cols left (by omega)
  generalize e1 : zI a.cols left = l1 at y1 ⊢
  have w2 : 0 ≤ l1 → IntKind.i64.wrap (l1 - a.table.length) = l1 - a.table.length := fun h => wrap64 (by have : a.table.length ≤ 1125899906842624 := hb.2; omega) (by omega)
  repeat' first|refine yaG ?_|(exfalso;omega)|(refine yaS ?_ ?_<;>intro _)
  · refine .ret rfl (.int ?_)
    rename_i h
    simp only [zFk, chain, e1, if_pos h]
  · refine .ret rfl (.int ?_)
    rename_i g1 h
    have v2 := w2 (by omega)
    simp only [v2] at h
    simp only [zFk, chain, e1, if_neg g1, if_pos h]
  rename_i g1 g2
  have v2 := w2 (by omega)
  simp only [v2] at g2 ⊢
  obtain ⟨l2, e2⟩ : ∃ q, l1 - (a.table.length : Int) = q := ⟨_, rfl⟩
  rw [e2] at g2 ⊢
  refine .ret rfl (.int ?_)
  simp only [zFk, chain, e1, e2, if_neg g1, if_neg g2]
theorem szFkS_ok (xs : List Fk) (left : Int) (hx : xs.length ≤ 1125899906842624) (hv : ∀ e ∈ xs, bFk 1125899906842624 e) (h0 : 0 ≤ left) (h1 : left ≤ 34359738368) : Pure Tryz.prog 134 [.c (.fz (xs.map encFk)), .c (.int .i64 left)] (.c (.int .i64 (szL zFk xs left))) :=
  szS_ok mixed c_laws_szFkS_ok encFk zFk xs left hx h0 h1 (fun _ => rfl) zFk_le fun a ha l h2 h3 => szFk_ok a l (hv a ha) h2 (by omega)
theorem toFk_ok (a : Fk) (hb : bFk 34359738368 a) (σ : Store) : Ok Tryz.prog 216 [.agg (encFk a)] σ (NewL σ (encFk a)) := by
  refine Ok.run mixed c_laws_toFk_ok (Nat.le_of_ble_eq_true rfl) fun hS hA => ?_
  clear hS hA
  repeat' first|refine yaG ?_|(exfalso;omega)|(refine yaS ?_ ?_<;>intro _)
  refine Go.call _ rfl rfl rfl (toInt64S_ok a.cols hb.1 _) ?_
  rintro r σ0 ⟨x0, m0, rfl, rfl, t0, h0⟩
  rw [E_E] at h0 ⊢
  have t0 := tidy_up t0
  have h0 := h0.new2
  repeat' first|refine yaG ?_|(exfalso;omega)|(refine yaS ?_ ?_<;>intro _)
  have hL : HasL (E σ ((0, [[x0, .str a.table, .int .i64 a.onDelete, .int .i64 a.onUpdate, .bool a.deferred]]) :: (0, [[x0, .str a.table, .int .i64 a.onDelete, .int .i64 a.onUpdate, .bool a.deferred]]) :: ([] ++ m0))) (fun a => σ.next + 2 ≤ a ∧ a < σ.next + 2 + ([] ++ m0).length) (encFk a) [x0, .str a.table, .int .i64 a.onDelete, .int .i64 a.onUpdate, .bool a.deferred] := by
    refine HasL.mono ?_ (HasL.two (h0 _ _) (HasL.skip (.str _) (HasL.skip (.int _ _) (HasL.skip (.int _ _) (HasL.skip (.bool _) (HasL.nil (S := fun a => a < 0)))))) (fun a ha hb => by (try dsimp only at ha hb); (try simp only [List.append_eq, List.length_append, List.length_nil, List.nil_append] at ha hb); omega))
    intro a ha
    (try dsimp only at ha)
    (try simp only [List.append_eq, List.length_append, List.length_nil, List.nil_append] at ha ⊢)
    omega
  have hT := hL.tidy (n := σ.next) fun a ha => by have := ha.1; omega
  have hM : TidyL σ.next ([] ++ m0) := (tidy_pre (fun b hb => by simp at hb) t0)
  have hN : NewL σ (encFk a) (.agg [x0, .str a.table, .int .i64 a.onDelete, .int .i64 a.onUpdate, .bool a.deferred]) (E σ ((0, [[x0, .str a.table, .int .i64 a.onDelete, .int .i64 a.onUpdate, .bool a.deferred]]) :: (0, [[x0, .str a.table, .int .i64 a.onDelete, .int .i64 a.onUpdate, .bool a.deferred]]) :: ([] ++ m0))) := by
    refine ⟨_, _, rfl, rfl, .one hT (.one hT hM), hL.mono ?_⟩
    intro a ha
    have h9 := ha.1
    have h8 := ha.2
    (try simp only [E_next, List.length_cons, List.append_eq, List.length_append, List.length_nil, List.nil_append] at h8 ⊢)
    constructor <;> omega
  exact .ret (retv_m rfl rfl rfl (Nat.le_of_ble_eq_true rfl) rfl) hN
theorem toFkS_ok (xs : List Fk) (hx : xs.length ≤ 34359738368) (hv : ∀ e ∈ xs, bFk 34359738368 e) (σ : Store) : Ok Tryz.prog 138 [.c (.fz (xs.map encFk))] σ (New σ (.fz (xs.map encFk))) :=
  toS_ok mixed c_laws_toFkS_ok encFk xs hx (by decide) rfl (fun _ => rfl) (by intro x hx; simp only [List.mem_cons, List.not_mem_nil, or_false] at hx; rcases hx with rfl | rfl | rfl | rfl | rfl <;> constructor) (fun a ha σ => toFk_ok a (hv a ha) σ) σ
theorem Fk_beq (a b : Fk) : (a == b) = (a.cols == b.cols && a.table == b.table && a.onDelete == b.onDelete && a.onUpdate == b.onUpdate && a.deferred == b.deferred) := by
  obtain ⟨a0, a1, a2, a3, a4⟩ := a
  obtain ⟨b0, b1, b2, b3, b4⟩ := b
  rw [Bool.eq_iff_iff]
  simp [and_assoc]
theorem eqFk_ok (a b : Fk) (hb : bFk 34359738368 a) : Pure Tryz.prog 220 [.agg (encFk a), .agg (encFk b)] (.c (.bool (a == b))) := by
  refine Pure.run mixed c_laws_eqFk_ok (Nat.le_of_ble_eq_true rfl) fun σ hS hA => ?_
  clear hS hA
  have hq := Fk_beq a b
  repeat' first|refine yaG ?_|((first|apply Go.pcallB|apply Go.spcallB|apply Qg.pcallB);(iterate 3 exact rfl);exact eqInt64S_ok a.cols b.cols hb.1;intro _ _)|(exfalso;omega)|(refine yaS ?_ ?_<;>intro _)
  all_goals refine .ret rfl (.bool ?_)
  all_goals rw [hq]
  all_goals clear hq hb
  all_goals simp_all
theorem eqFkS_ok (xs ys : List Fk) (hx : xs.length ≤ 34359738368) (hv : ∀ e ∈ xs, bFk 34359738368 e) : Pure Tryz.prog 143 [.c (.fz (xs.map encFk)), .c (.fz (ys.map encFk))] (.c (.bool (xs == ys))) :=
  eqS_ok mixed c_laws_eqFkS_ok encFk xs ys hx (fun _ => rfl) fun a ha b => eqFk_ok a b (hv a ha)
structure Col where
  name : List UInt8
  kind : Int
  notNull : Bool
  dflt : Val
  deriving DecidableEq
def encCol (a : Col) : List Ce := [.str a.name, .int .i64 a.kind, .bool a.notNull, .int .i64 a.dflt.k, .int .i64 a.dflt.n, .str a.dflt.s]
theorem flatCol (a : Col) : ∀ x ∈ encCol a, Flat x := by
  intro x hx
  simp only [encCol, List.mem_cons, List.not_mem_nil, or_false] at hx
  rcases hx with rfl | rfl | rfl | rfl | rfl | rfl <;> constructor
def bCol (N : Nat) (a : Col) : Prop := a.name.length ≤ N ∧ bV N a.dflt
def zCol (a : Col) : Int → Int := chain [(fun l => l - a.name.length), (szV a.dflt)]
theorem zCol_steps (a : Col) : Steps [(fun l => l - a.name.length), (szV a.dflt)] := (.cons (step_str _) (.cons (fun l h => szV_le _ l h) .nil))
theorem zCol_le (a : Col) (l : Int) (h : 0 ≤ l) : zCol a l ≤ l := chain_le (zCol_steps a) l h
theorem bCol_of (a : Col) (l : Int) (N : Nat) (h0 : 0 ≤ l) (h : 0 ≤ zCol a l) (hl : l ≤ N) : bCol N a := by
  have hh := chain_all (zCol_steps a) l h0 h
  obtain ⟨q0, u0, v0, w0⟩ := hh (fun l => l - a.name.length) (by simp)
  obtain ⟨q1, u1, v1, w1⟩ := hh (szV a.dflt) (by simp)
  exact ⟨(by (try simp only at w0); omega), (bV_of w1 (by omega))⟩
theorem szCol_ok (a : Col) (left : Int) (hb : bCol 1125899906842624 a) (h0 : 0 ≤ left) (h1 : left ≤ 34359738368) : Pure Tryz.prog 209 [.agg (encCol a), .c (.int .i64 left)] (.c (.int .i64 (zCol a left))) := by
  refine Pure.run mixed c_laws_szCol_ok (Nat.le_of_ble_eq_true rfl) fun σ hS hA => ?_
  clear hS hA
  have w1 : 0 ≤ left → IntKind.i64.wrap (left - a.name.length) = left - a.name.length := fun h => wrap64 (by have : a.name.length ≤ 1125899906842624 := hb.1; omega) (by omega)
  repeat' first|refine yaG ?_|(exfalso;omega)|(refine yaS ?_ ?_<;>intro _)
  · refine .ret rfl (.int ?_)
    rename_i h
    have v1 := w1 (by omega)
    simp only [v1] at h
    simp only [zCol, chain, if_pos h]
  rename_i g1
  have v1 := w1 (by omega)
  simp only [v1] at g1 ⊢
  obtain ⟨l1, e1⟩ : ∃ q, left - (a.name.length : Int) = q := ⟨_, rfl⟩
  rw [e1] at g1 ⊢
  refine .pcall rfl rfl rfl (szVal_ok a.dflt l1 hb.2 (by omega) (by omega)) ?_
  have y2 := szV_le a.dflt l1 (by omega)
  generalize e2 : szV a.dflt l1 = l2 at y2 ⊢
  repeat' first|refine yaG ?_|(exfalso;omega)|(refine yaS ?_ ?_<;>intro _)
  · refine .ret rfl (.int ?_)
    rename_i h
    simp only [zCol, chain, e1, if_neg g1, e2, if_pos h]
  rename_i g2
  refine .ret rfl (.int ?_)
  simp only [zCol, chain, e1, if_neg g1, e2, if_neg g2]
theorem szColS_ok (xs : List Col) (left : Int) (hx : xs.length ≤ 1125899906842624) (hv : ∀ e ∈ xs, bCol 1125899906842624 e) (h0 : 0 ≤ left) (h1 : left ≤ 34359738368) : Pure Tryz.prog 131 [.c (.fz (xs.map encCol)), .c (.int .i64 left)] (.c (.int .i64 (szL zCol xs left))) :=
  szS_ok mixed c_laws_szColS_ok encCol zCol xs left hx h0 h1 (fun _ => rfl) zCol_le fun a ha l h2 h3 => szCol_ok a l (hv a ha) h2 (by omega)
theorem toCol_ok (a : Col) (hb : bCol 34359738368 a) (σ : Store) : Ok Tryz.prog 213 [.agg (encCol a)] σ (NewL σ (encCol a)) := by
  refine Ok.run mixed c_laws_toCol_ok (Nat.le_of_ble_eq_true rfl) fun hS hA => ?_
  clear hS hA
  repeat' first|refine yaG ?_|refine yaC (NewL.pure (toVal_ok a.dflt)) ?_|(exfalso;omega)|(refine yaS ?_ ?_<;>intro _)
  refine .ret (retv_m rfl rfl rfl (Nat.le_of_ble_eq_true rfl) rfl) ⟨encCol a, _, rfl, rfl, ?_, .flat (flatCol a)⟩
  show TidyL σ.next [(0, [encCol a]), (0, [encCol a])]
  exact .one (fun x hx => .flat (flatCol a x hx)) (.one (fun x hx => .flat (flatCol a x hx)) .nil)
theorem toColS_ok (xs : List Col) (hx : xs.length ≤ 34359738368) (hv : ∀ e ∈ xs, bCol 34359738368 e) (σ : Store) : Ok Tryz.prog 135 [.c (.fz (xs.map encCol))] σ (New σ (.fz (xs.map encCol))) :=
  toS_ok mixed c_laws_toColS_ok encCol xs hx (by decide) rfl (fun _ => rfl) (by intro x hx; simp only [List.mem_cons, List.not_mem_nil, or_false] at hx; rcases hx with rfl | rfl | rfl | rfl | rfl | rfl <;> constructor) (fun a ha σ => toCol_ok a (hv a ha) σ) σ
theorem Col_beq (a b : Col) : (a == b) = (a.name == b.name && a.kind == b.kind && a.notNull == b.notNull && a.dflt == b.dflt) := by
  obtain ⟨a0, a1, a2, a3⟩ := a
  obtain ⟨b0, b1, b2, b3⟩ := b
  rw [Bool.eq_iff_iff]
  simp [and_assoc]
theorem eqCol_ok (a b : Col) (hb : bCol 34359738368 a) : Pure Tryz.prog 217 [.agg (encCol a), .agg (encCol b)] (.c (.bool (a == b))) := by
  refine Pure.run mixed c_laws_eqCol_ok (Nat.le_of_ble_eq_true rfl) fun σ hS hA => ?_
  clear hS hA
  have hq := Col_beq a b
  repeat' first|refine yaG ?_|((first|apply Go.pcallB|apply Go.spcallB|apply Qg.pcallB);(iterate 3 exact rfl);exact eqVal_ok a.dflt b.dflt;intro _ _)|(exfalso;omega)|(refine yaS ?_ ?_<;>intro _)
  all_goals refine .ret rfl (.bool ?_)
  all_goals rw [hq]
  all_goals clear hq hb
  all_goals simp_all
theorem eqColS_ok (xs ys : List Col) (hx : xs.length ≤ 34359738368) (hv : ∀ e ∈ xs, bCol 34359738368 e) : Pure Tryz.prog 140 [.c (.fz (xs.map encCol)), .c (.fz (ys.map encCol))] (.c (.bool (xs == ys))) :=
  eqS_ok mixed c_laws_eqColS_ok encCol xs ys hx (fun _ => rfl) fun a ha b => eqCol_ok a b (hv a ha)
end Go.Proofs.YtinbdedlmkjokaaGreat.Am

/- The laws' helpers on types, printed by a program: Table, Term, Select, Trigger. -/
set_option linter.unusedVariables false
set_option linter.unusedSimpArgs false
namespace Go.Proofs.YtinbdedlmkjokaaGreat.Am
structure Table where
  name : List UInt8
  cols : List Col
  key : List Int
  uniques : List Uniq
  checks : List Chk
  fks : List Fk
  deriving DecidableEq
def encTable (a : Table) : List Ce := [.str a.name, .fz (a.cols.map encCol), .fz (a.key.map encI), .fz (a.uniques.map encUniq), .fz (a.checks.map encChk), .fz (a.fks.map encFk)]
def bTable (N : Nat) (a : Table) : Prop := a.name.length ≤ N ∧ (a.cols.length ≤ N ∧ ∀ x ∈ a.cols, bCol N x) ∧ a.key.length ≤ N ∧ (a.uniques.length ≤ N ∧ ∀ x ∈ a.uniques, bUniq N x) ∧ (a.checks.length ≤ N ∧ ∀ x ∈ a.checks, bChk N x) ∧ (a.fks.length ≤ N ∧ ∀ x ∈ a.fks, bFk N x)
def zTable (a : Table) : Int → Int := chain [(fun l => l - a.name.length), (szL zCol a.cols), (zI a.key), (szL zUniq a.uniques), (szL zChk a.checks), (szL zFk a.fks)]
theorem zTable_steps (a : Table) : Steps [(fun l => l - a.name.length), (szL zCol a.cols), (zI a.key), (szL zUniq a.uniques), (szL zChk a.checks), (szL zFk a.fks)] := (.cons (step_str _) (.cons (fun l h => szL_le zCol_le _ l h) (.cons (step_ints _) (.cons (fun l h => szL_le zUniq_le _ l h) (.cons (fun l h => szL_le zChk_le _ l h) (.cons (fun l h => szL_le zFk_le _ l h) .nil))))))
theorem zTable_le (a : Table) (l : Int) (h : 0 ≤ l) : zTable a l ≤ l := chain_le (zTable_steps a) l h
theorem bTable_of (a : Table) (l : Int) (N : Nat) (h0 : 0 ≤ l) (h : 0 ≤ zTable a l) (hl : l ≤ N) : bTable N a := by
  have hh := chain_all (zTable_steps a) l h0 h
  obtain ⟨q0, u0, v0, w0⟩ := hh (fun l => l - a.name.length) (by simp)
  obtain ⟨q1, u1, v1, w1⟩ := hh (szL zCol a.cols) (by simp)
  obtain ⟨q2, u2, v2, w2⟩ := hh (zI a.key) (by simp)
  obtain ⟨q3, u3, v3, w3⟩ := hh (szL zUniq a.uniques) (by simp)
  obtain ⟨q4, u4, v4, w4⟩ := hh (szL zChk a.checks) (by simp)
  obtain ⟨q5, u5, v5, w5⟩ := hh (szL zFk a.fks) (by simp)
  exact ⟨(by (try simp only at w0); omega), (list_of zCol_le bCol_of u1 w1 (by omega)), (ints_of w2 (by omega)), (list_of zUniq_le bUniq_of u3 w3 (by omega)), (list_of zChk_le bChk_of u4 w4 (by omega)), (list_of zFk_le bFk_of u5 w5 (by omega))⟩
theorem szTable_ok (a : Table) (left : Int) (hb : bTable 1125899906842624 a) (h0 : 0 ≤ left) (h1 : left ≤ 34359738368) : Pure Tryz.prog 54 [.agg (encTable a), .c (.int .i64 left)] (.c (.int .i64 (zTable a left))) := by
  refine Pure.run mixed c_laws_szTable_ok (Nat.le_of_ble_eq_true rfl) fun σ hS hA => ?_
  clear hS hA
  have w1 : 0 ≤ left → IntKind.i64.wrap (left - a.name.length) = left - a.name.length := fun h => wrap64 (by have : a.name.length ≤ 1125899906842624 := hb.1; omega) (by omega)
  repeat' first|refine yaG ?_|(exfalso;omega)|(refine yaS ?_ ?_<;>intro _)
  · refine .ret rfl (.int ?_)
    rename_i h
    have v1 := w1 (by omega)
    simp only [v1] at h
    simp only [zTable, chain, if_pos h]
  rename_i g1
  have v1 := w1 (by omega)
  simp only [v1] at g1 ⊢
  obtain ⟨l1, e1⟩ : ∃ q, left - (a.name.length : Int) = q := ⟨_, rfl⟩
  rw [e1] at g1 ⊢
  refine .pcall rfl rfl rfl (szColS_ok a.cols l1 hb.2.1.1 hb.2.1.2 (by omega) (by omega)) ?_
  have y2 := szL_le zCol_le a.cols l1 (by omega)
  generalize e2 : szL zCol a.cols l1 = l2 at y2 ⊢
  repeat' first|refine yaG ?_|(exfalso;omega)|(refine yaS ?_ ?_<;>intro _)
  · refine .ret rfl (.int ?_)
    rename_i h
    simp only [zTable, chain, e1, if_neg g1, e2, if_pos h]
  rename_i g2
  refine .pcall rfl rfl rfl (szInt64S_ok a.key l2 hb.2.2.1 (by omega) (by omega)) ?_
  have y3 := step_ints a.key l2 (by omega)
  generalize e3 : zI a.key l2 = l3 at y3 ⊢
  repeat' first|refine yaG ?_|(exfalso;omega)|(refine yaS ?_ ?_<;>intro _)
  · refine .ret rfl (.int ?_)
    rename_i h
    simp only [zTable, chain, e1, if_neg g1, e2, if_neg g2, e3, if_pos h]
  rename_i g3
  refine .pcall rfl rfl rfl (szUniqS_ok a.uniques l3 hb.2.2.2.1.1 hb.2.2.2.1.2 (by omega) (by omega)) ?_
  have y4 := szL_le zUniq_le a.uniques l3 (by omega)
  generalize e4 : szL zUniq a.uniques l3 = l4 at y4 ⊢
  repeat' first|refine yaG ?_|(exfalso;omega)|(refine yaS ?_ ?_<;>intro _)
  · refine .ret rfl (.int ?_)
    rename_i h
    simp only [zTable, chain, e1, if_neg g1, e2, if_neg g2, e3, if_neg g3, e4, if_pos h]
  rename_i g4
  refine .pcall rfl rfl rfl (szChkS_ok a.checks l4 hb.2.2.2.2.1.1 hb.2.2.2.2.1.2 (by omega) (by omega)) ?_
  have y5 := szL_le zChk_le a.checks l4 (by omega)
  generalize e5 : szL zChk a.checks l4 = l5 at y5 ⊢
  repeat' first|refine yaG ?_|(exfalso;omega)|(refine yaS ?_ ?_<;>intro _)
  · refine .ret rfl (.int ?_)
    rename_i h
    simp only [zTable, chain, e1, if_neg g1, e2, if_neg g2, e3, if_neg g3, e4, if_neg g4, e5, if_pos h]
  rename_i g5
  refine .pcall rfl rfl rfl (szFkS_ok a.fks l5 hb.2.2.2.2.2.1 hb.2.2.2.2.2.2 (by omega) (by omega)) ?_
  have y6 := szL_le zFk_le a.fks l5 (by omega)
  generalize e6 : szL zFk a.fks l5 = l6 at y6 ⊢
  repeat' first|refine yaG ?_|(exfalso;omega)|(refine yaS ?_ ?_<;>intro _)
  · refine .ret rfl (.int ?_)
    rename_i h
    simp only [zTable, chain, e1, if_neg g1, e2, if_neg g2, e3, if_neg g3, e4, if_neg g4, e5, if_neg g5, e6, if_pos h]
  rename_i g6
  refine .ret rfl (.int ?_)
  simp only [zTable, chain, e1, if_neg g1, e2, if_neg g2, e3, if_neg g3, e4, if_neg g4, e5, if_neg g5, e6, if_neg g6]
theorem szTableS_ok (xs : List Table) (left : Int) (hx : xs.length ≤ 1125899906842624) (hv : ∀ e ∈ xs, bTable 1125899906842624 e) (h0 : 0 ≤ left) (h1 : left ≤ 34359738368) : Pure Tryz.prog 15 [.c (.fz (xs.map encTable)), .c (.int .i64 left)] (.c (.int .i64 (szL zTable xs left))) :=
  szS_ok mixed c_laws_szTableS_ok encTable zTable xs left hx h0 h1 (fun _ => rfl) zTable_le fun a ha l h2 h3 => szTable_ok a l (hv a ha) h2 (by omega)
theorem toTable_ok (a : Table) (hb : bTable 34359738368 a) (σ : Store) : Ok Tryz.prog 55 [.agg (encTable a)] σ (NewL σ (encTable a)) := by
  refine Ok.run mixed c_laws_toTable_ok (Nat.le_of_ble_eq_true rfl) fun hS hA => ?_
  clear hS hA
  repeat' first|refine yaG ?_|(exfalso;omega)|(refine yaS ?_ ?_<;>intro _)
  refine Go.call _ rfl rfl rfl (toColS_ok a.cols hb.2.1.1 hb.2.1.2 _) ?_
  rintro r σ0 ⟨x0, m0, rfl, rfl, t0, h0⟩
  rw [E_E] at h0 ⊢
  have t0 := tidy_up t0
  have h0 := h0.new2
  repeat' first|refine yaG ?_|(exfalso;omega)|(refine yaS ?_ ?_<;>intro _)
  refine Go.call _ rfl rfl rfl (toInt64S_ok a.key hb.2.2.1 _) ?_
  rintro r σ1 ⟨x1, m1, rfl, rfl, t1, h1⟩
  rw [E_E] at h1 ⊢
  have t1 := tidy_up t1
  have h1 := h1.new2
  have h0 := Has.more h0 (fun a ha => by have h9 := ha.1; have h8 := ha.2; simp only [List.append_eq, List.length_nil, List.length_append, List.nil_append] at h9 h8 ⊢; omega) m1
  repeat' first|refine yaG ?_|(exfalso;omega)|(refine yaS ?_ ?_<;>intro _)
  refine Go.call _ rfl rfl rfl (toUniqS_ok a.uniques hb.2.2.2.1.1 hb.2.2.2.1.2 _) ?_
  rintro r σ2 ⟨x2, m2, rfl, rfl, t2, h2⟩
  rw [E_E] at h2 ⊢
  have t2 := tidy_up t2
  have h2 := h2.new2
  have h0 := Has.more h0 (fun a ha => by have h9 := ha.1; have h8 := ha.2; simp only [List.append_eq, List.length_nil, List.length_append, List.nil_append] at h9 h8 ⊢; omega) m2
  have h1 := Has.more h1 (fun a ha => by have h9 := ha.1; have h8 := ha.2; simp only [List.append_eq, List.length_nil, List.length_append, List.nil_append] at h9 h8 ⊢; omega) m2
  repeat' first|refine yaG ?_|(exfalso;omega)|(refine yaS ?_ ?_<;>intro _)
  refine Go.call _ rfl rfl rfl (toChkS_ok a.checks hb.2.2.2.2.1.1 hb.2.2.2.2.1.2 _) ?_
  rintro r σ3 ⟨x3, m3, rfl, rfl, t3, h3⟩
  rw [E_E] at h3 ⊢
  have t3 := tidy_up t3
  have h3 := h3.new2
  have h0 := Has.more h0 (fun a ha => by have h9 := ha.1; have h8 := ha.2; simp only [List.append_eq, List.length_nil, List.length_append, List.nil_append] at h9 h8 ⊢; omega) m3
  have h1 := Has.more h1 (fun a ha => by have h9 := ha.1; have h8 := ha.2; simp only [List.append_eq, List.length_nil, List.length_append, List.nil_append] at h9 h8 ⊢; omega) m3
  have h2 := Has.more h2 (fun a ha => by have h9 := ha.1; have h8 := ha.2; simp only [List.append_eq, List.length_nil, List.length_append, List.nil_append] at h9 h8 ⊢; omega) m3
  repeat' first|refine yaG ?_|(exfalso;omega)|(refine yaS ?_ ?_<;>intro _)
  refine Go.call _ rfl rfl rfl (toFkS_ok a.fks hb.2.2.2.2.2.1 hb.2.2.2.2.2.2 _) ?_
  rintro r σ4 ⟨x4, m4, rfl, rfl, t4, h4⟩
  rw [E_E] at h4 ⊢
  have t4 := tidy_up t4
  have h4 := h4.new2
  have h0 := Has.more h0 (fun a ha => by have h9 := ha.1; have h8 := ha.2; simp only [List.append_eq, List.length_nil, List.length_append, List.nil_append] at h9 h8 ⊢; omega) m4
  have h1 := Has.more h1 (fun a ha => by have h9 := ha.1; have h8 := ha.2; simp only [List.append_eq, List.length_nil, List.length_append, List.nil_append] at h9 h8 ⊢; omega) m4
  have h2 := Has.more h2 (fun a ha => by have h9 := ha.1; have h8 := ha.2; simp only [List.append_eq, List.length_nil, List.length_append, List.nil_append] at h9 h8 ⊢; omega) m4
  have h3 := Has.more h3 (fun a ha => by have h9 := ha.1; have h8 := ha.2; simp only [List.append_eq, List.length_nil, List.length_append, List.nil_append] at h9 h8 ⊢; omega) m4
  repeat' first|refine yaG ?_|(exfalso;omega)|(refine yaS ?_ ?_<;>intro _)
  have hL : HasL (E σ ((0, [[.str a.name, x0, x1, x2, x3, x4]]) :: (0, [[.str a.name, x0, x1, x2, x3, x4]]) :: ([] ++ m0 ++ m1 ++ m2 ++ m3 ++ m4))) (fun a => σ.next + 2 ≤ a ∧ a < σ.next + 2 + ([] ++ m0 ++ m1 ++ m2 ++ m3 ++ m4).length) (encTable a) [.str a.name, x0, x1, x2, x3, x4] := by
    refine HasL.mono ?_ (HasL.skip (.str _) (HasL.two (h0 _ _) (HasL.two (h1 _ _) (HasL.two (h2 _ _) (HasL.two (h3 _ _) (HasL.two (h4 _ _) (HasL.nil (S := fun a => a < 0)) (fun a ha hb => by (try dsimp only at ha hb); (try simp only [List.append_eq, List.length_append, List.length_nil, List.nil_append] at ha hb); omega)) (fun a ha hb => by (try dsimp only at ha hb); (try simp only [List.append_eq, List.length_append, List.length_nil, List.nil_append] at ha hb); omega)) (fun a ha hb => by (try dsimp only at ha hb); (try simp only [List.append_eq, List.length_append, List.length_nil, List.nil_append] at ha hb); omega)) (fun a ha hb => by (try dsimp only at ha hb); (try simp only [List.append_eq, List.length_append, List.length_nil, List.nil_append] at ha hb); omega)) (fun a ha hb => by (try dsimp only at ha hb); (try simp only [List.append_eq, List.length_append, List.length_nil, List.nil_append] at ha hb); omega)))
    intro a ha
    (try dsimp only at ha)
    (try simp only [List.append_eq, List.length_append, List.length_nil, List.nil_append] at ha ⊢)
    omega
  have hT := hL.tidy (n := σ.next) fun a ha => by have := ha.1; omega
  have hM : TidyL σ.next ([] ++ m0 ++ m1 ++ m2 ++ m3 ++ m4) := (tidy_pre (tidy_pre (tidy_pre (tidy_pre (tidy_pre (fun b hb => by simp at hb) t0) t1) t2) t3) t4)
  have hN : NewL σ (encTable a) (.agg [.str a.name, x0, x1, x2, x3, x4]) (E σ ((0, [[.str a.name, x0, x1, x2, x3, x4]]) :: (0, [[.str a.name, x0, x1, x2, x3, x4]]) :: ([] ++ m0 ++ m1 ++ m2 ++ m3 ++ m4))) := by
    refine ⟨_, _, rfl, rfl, .one hT (.one hT hM), hL.mono ?_⟩
    intro a ha
    have h9 := ha.1
    have h8 := ha.2
    (try simp only [E_next, List.length_cons, List.append_eq, List.length_append, List.length_nil, List.nil_append] at h8 ⊢)
    constructor <;> omega
  exact .ret (retv_m rfl rfl rfl (Nat.le_of_ble_eq_true rfl) rfl) hN
theorem toTableS_ok (xs : List Table) (hx : xs.length ≤ 34359738368) (hv : ∀ e ∈ xs, bTable 34359738368 e) (σ : Store) : Ok Tryz.prog 16 [.c (.fz (xs.map encTable))] σ (New σ (.fz (xs.map encTable))) :=
  toS_ok mixed c_laws_toTableS_ok encTable xs hx (by decide) rfl (fun _ => rfl) (by intro x hx; simp only [List.mem_cons, List.not_mem_nil, or_false] at hx; rcases hx with rfl | rfl | rfl | rfl | rfl | rfl <;> constructor) (fun a ha σ => toTable_ok a (hv a ha) σ) σ
theorem Table_beq (a b : Table) : (a == b) = (a.name == b.name && a.cols == b.cols && a.key == b.key && a.uniques == b.uniques && a.checks == b.checks && a.fks == b.fks) := by
  obtain ⟨a0, a1, a2, a3, a4, a5⟩ := a
  obtain ⟨b0, b1, b2, b3, b4, b5⟩ := b
  rw [Bool.eq_iff_iff]
  simp [and_assoc]
theorem eqTable_ok (a b : Table) (hb : bTable 34359738368 a) : Pure Tryz.prog 57 [.agg (encTable a), .agg (encTable b)] (.c (.bool (a == b))) := by
  refine Pure.run mixed c_laws_eqTable_ok (Nat.le_of_ble_eq_true rfl) fun σ hS hA => ?_
  clear hS hA
  have hq := Table_beq a b
  repeat' first|refine yaG ?_|((first|apply Go.pcallB|apply Go.spcallB|apply Qg.pcallB);(iterate 3 exact rfl);(first|exact eqColS_ok a.cols b.cols hb.2.1.1 hb.2.1.2|exact eqInt64S_ok a.key b.key hb.2.2.1|exact eqUniqS_ok a.uniques b.uniques hb.2.2.2.1.1 hb.2.2.2.1.2|exact eqChkS_ok a.checks b.checks hb.2.2.2.2.1.1 hb.2.2.2.2.1.2|exact eqFkS_ok a.fks b.fks hb.2.2.2.2.2.1 hb.2.2.2.2.2.2);intro _ _)|(exfalso;omega)|(refine yaS ?_ ?_<;>intro _)
  all_goals refine .ret rfl (.bool ?_)
  all_goals rw [hq]
  all_goals clear hq hb
  all_goals simp_all
theorem eqTableS_ok (xs ys : List Table) (hx : xs.length ≤ 34359738368) (hv : ∀ e ∈ xs, bTable 34359738368 e) : Pure Tryz.prog 18 [.c (.fz (xs.map encTable)), .c (.fz (ys.map encTable))] (.c (.bool (xs == ys))) :=
  eqS_ok mixed c_laws_eqTableS_ok encTable xs ys hx (fun _ => rfl) fun a ha b => eqTable_ok a b (hv a ha)
structure Term where
  expr : List Tok
  deriving DecidableEq
def encTerm (a : Term) : List Ce := [.fz (a.expr.map encTok)]
def bTerm (N : Nat) (a : Term) : Prop := (a.expr.length ≤ N ∧ ∀ x ∈ a.expr, bTok N x)
def zTerm (a : Term) : Int → Int := chain [(szL zTok a.expr)]
theorem zTerm_steps (a : Term) : Steps [(szL zTok a.expr)] := (.cons (fun l h => szL_le zTok_le _ l h) .nil)
theorem zTerm_le (a : Term) (l : Int) (h : 0 ≤ l) : zTerm a l ≤ l := chain_le (zTerm_steps a) l h
theorem bTerm_of (a : Term) (l : Int) (N : Nat) (h0 : 0 ≤ l) (h : 0 ≤ zTerm a l) (hl : l ≤ N) : bTerm N a := by
  have hh := chain_all (zTerm_steps a) l h0 h
  obtain ⟨q0, u0, v0, w0⟩ := hh (szL zTok a.expr) (by simp)
  exact (list_of zTok_le bTok_of u0 w0 (by omega))
theorem szTerm_ok (a : Term) (left : Int) (hb : bTerm 1125899906842624 a) (h0 : 0 ≤ left) (h1 : left ≤ 34359738368) : Pure Tryz.prog 186 [.agg (encTerm a), .c (.int .i64 left)] (.c (.int .i64 (zTerm a left))) := by
  refine Pure.run mixed c_laws_szTerm_ok (Nat.le_of_ble_eq_true rfl) fun σ hS hA => ?_
  clear hS hA
  repeat' first|refine yaG ?_|fail
  refine .pcall rfl rfl rfl (szTokS_ok a.expr left hb.1 hb.2 (by omega) (by omega)) ?_
  have y1 := szL_le zTok_le a.expr left (by omega)
  generalize e1 : szL zTok a.expr left = l1 at y1 ⊢
  repeat' first|refine yaG ?_|(exfalso;omega)|(refine yaS ?_ ?_<;>intro _)
  · refine .ret rfl (.int ?_)
    rename_i h
    simp only [zTerm, chain, e1, if_pos h]
  rename_i g1
  refine .ret rfl (.int ?_)
  simp only [zTerm, chain, e1, if_neg g1]
theorem szTermS_ok (xs : List Term) (left : Int) (hx : xs.length ≤ 1125899906842624) (hv : ∀ e ∈ xs, bTerm 1125899906842624 e) (h0 : 0 ≤ left) (h1 : left ≤ 34359738368) : Pure Tryz.prog 101 [.c (.fz (xs.map encTerm)), .c (.int .i64 left)] (.c (.int .i64 (szL zTerm xs left))) :=
  szS_ok mixed c_laws_szTermS_ok encTerm zTerm xs left hx h0 h1 (fun _ => rfl) zTerm_le fun a ha l h2 h3 => szTerm_ok a l (hv a ha) h2 (by omega)
theorem toTerm_ok (a : Term) (hb : bTerm 34359738368 a) (σ : Store) : Ok Tryz.prog 189 [.agg (encTerm a)] σ (NewL σ (encTerm a)) := by
  refine Ok.run mixed c_laws_toTerm_ok (Nat.le_of_ble_eq_true rfl) fun hS hA => ?_
  clear hS hA
  repeat' first|refine yaG ?_|(exfalso;omega)|(refine yaS ?_ ?_<;>intro _)
  refine Go.call _ rfl rfl rfl (toTokS_ok a.expr hb.1 hb.2 _) ?_
  rintro r σ0 ⟨x0, m0, rfl, rfl, t0, h0⟩
  rw [E_E] at h0 ⊢
  have t0 := tidy_up t0
  have h0 := h0.new2
  repeat' first|refine yaG ?_|(exfalso;omega)|(refine yaS ?_ ?_<;>intro _)
  have hL : HasL (E σ ((0, [[x0]]) :: (0, [[x0]]) :: ([] ++ m0))) (fun a => σ.next + 2 ≤ a ∧ a < σ.next + 2 + ([] ++ m0).length) (encTerm a) [x0] := by
    refine HasL.mono ?_ (HasL.two (h0 _ _) (HasL.nil (S := fun a => a < 0)) (fun a ha hb => by (try dsimp only at ha hb); (try simp only [List.append_eq, List.length_append, List.length_nil, List.nil_append] at ha hb); omega))
    intro a ha
    (try dsimp only at ha)
    (try simp only [List.append_eq, List.length_append, List.length_nil, List.nil_append] at ha ⊢)
    omega
  have hT := hL.tidy (n := σ.next) fun a ha => by have := ha.1; omega
  have hM : TidyL σ.next ([] ++ m0) := (tidy_pre (fun b hb => by simp at hb) t0)
  have hN : NewL σ (encTerm a) (.agg [x0]) (E σ ((0, [[x0]]) :: (0, [[x0]]) :: ([] ++ m0))) := by
    refine ⟨_, _, rfl, rfl, .one hT (.one hT hM), hL.mono ?_⟩
    intro a ha
    have h9 := ha.1
    have h8 := ha.2
    (try simp only [E_next, List.length_cons, List.append_eq, List.length_append, List.length_nil, List.nil_append] at h8 ⊢)
    constructor <;> omega
  exact .ret (retv_m rfl rfl rfl (Nat.le_of_ble_eq_true rfl) rfl) hN
theorem toTermS_ok (xs : List Term) (hx : xs.length ≤ 34359738368) (hv : ∀ e ∈ xs, bTerm 34359738368 e) (σ : Store) : Ok Tryz.prog 105 [.c (.fz (xs.map encTerm))] σ (New σ (.fz (xs.map encTerm))) :=
  toS_ok mixed c_laws_toTermS_ok encTerm xs hx (by decide) rfl (fun _ => rfl) (by intro x hx; simp only [List.mem_cons, List.not_mem_nil, or_false] at hx; rcases hx with rfl <;> constructor) (fun a ha σ => toTerm_ok a (hv a ha) σ) σ
theorem Term_beq (a b : Term) : (a == b) = (a.expr == b.expr) := by
  obtain ⟨a0⟩ := a
  obtain ⟨b0⟩ := b
  rw [Bool.eq_iff_iff]
  simp [and_assoc]
theorem eqTerm_ok (a b : Term) (hb : bTerm 34359738368 a) : Pure Tryz.prog 193 [.agg (encTerm a), .agg (encTerm b)] (.c (.bool (a == b))) := by
  refine Pure.run mixed c_laws_eqTerm_ok (Nat.le_of_ble_eq_true rfl) fun σ hS hA => ?_
  clear hS hA
  have hq := Term_beq a b
  repeat' first|refine yaG ?_|((first|apply Go.pcallB|apply Go.spcallB|apply Qg.pcallB);(iterate 3 exact rfl);exact eqTokS_ok a.expr b.expr hb.1 hb.2;intro _ _)|(exfalso;omega)|(refine yaS ?_ ?_<;>intro _)
  all_goals refine .ret rfl (.bool ?_)
  all_goals rw [hq]
  all_goals clear hq hb
  all_goals simp_all
theorem eqTermS_ok (xs ys : List Term) (hx : xs.length ≤ 34359738368) (hv : ∀ e ∈ xs, bTerm 34359738368 e) : Pure Tryz.prog 110 [.c (.fz (xs.map encTerm)), .c (.fz (ys.map encTerm))] (.c (.bool (xs == ys))) :=
  eqS_ok mixed c_laws_eqTermS_ok encTerm xs ys hx (fun _ => rfl) fun a ha b => eqTerm_ok a b (hv a ha)
structure Sel where
  table : List UInt8
  terms : List Term
  wher : List Tok
  by_ : List Int
  most : Int
  deriving DecidableEq
def encSel (a : Sel) : List Ce := [.str a.table, .fz (a.terms.map encTerm), .fz (a.wher.map encTok), .fz (a.by_.map encI), .int .i64 a.most]
def bSel (N : Nat) (a : Sel) : Prop := a.table.length ≤ N ∧ (a.terms.length ≤ N ∧ ∀ x ∈ a.terms, bTerm N x) ∧ (a.wher.length ≤ N ∧ ∀ x ∈ a.wher, bTok N x) ∧ a.by_.length ≤ N
def zSel (a : Sel) : Int → Int := chain [(fun l => l - a.table.length), (szL zTerm a.terms), (szL zTok a.wher), (zI a.by_)]
theorem zSel_steps (a : Sel) : Steps [(fun l => l - a.table.length), (szL zTerm a.terms), (szL zTok a.wher), (zI a.by_)] := (.cons (step_str _) (.cons (fun l h => szL_le zTerm_le _ l h) (.cons (fun l h => szL_le zTok_le _ l h) (.cons (step_ints _) .nil))))
theorem zSel_le (a : Sel) (l : Int) (h : 0 ≤ l) : zSel a l ≤ l := chain_le (zSel_steps a) l h
theorem bSel_of (a : Sel) (l : Int) (N : Nat) (h0 : 0 ≤ l) (h : 0 ≤ zSel a l) (hl : l ≤ N) : bSel N a := by
  have hh := chain_all (zSel_steps a) l h0 h
  obtain ⟨q0, u0, v0, w0⟩ := hh (fun l => l - a.table.length) (by simp)
  obtain ⟨q1, u1, v1, w1⟩ := hh (szL zTerm a.terms) (by simp)
  obtain ⟨q2, u2, v2, w2⟩ := hh (szL zTok a.wher) (by simp)
  obtain ⟨q3, u3, v3, w3⟩ := hh (zI a.by_) (by simp)
  exact ⟨(by (try simp only at w0); omega), (list_of zTerm_le bTerm_of u1 w1 (by omega)), (list_of zTok_le bTok_of u2 w2 (by omega)), (ints_of w3 (by omega))⟩
theorem szSel_ok (a : Sel) (left : Int) (hb : bSel 1125899906842624 a) (h0 : 0 ≤ left) (h1 : left ≤ 34359738368) : Pure Tryz.prog 31 [.agg (encSel a), .c (.int .i64 left)] (.c (.int .i64 (zSel a left))) := by
  refine Pure.run mixed c_laws_szSelect_ok (Nat.le_of_ble_eq_true rfl) fun σ hS hA => ?_
  clear hS hA
  have w1 : 0 ≤ left → IntKind.i64.wrap (left - a.table.length) = left - a.table.length := fun h => wrap64 (by have : a.table.length ≤ 1125899906842624 := hb.1; omega) (by omega)
  repeat' first|refine yaG ?_|(exfalso;omega)|(refine yaS ?_ ?_<;>intro _)
  · refine .ret rfl (.int ?_)
    rename_i h
    have v1 := w1 (by omega)
    simp only [v1] at h
    simp only [zSel, chain, if_pos h]
  rename_i g1
  have v1 := w1 (by omega)
  simp only [v1] at g1 ⊢
  obtain ⟨l1, e1⟩ : ∃ q, left - (a.table.length : Int) = q := ⟨_, rfl⟩
  rw [e1] at g1 ⊢
  refine .pcall rfl rfl rfl (szTermS_ok a.terms l1 hb.2.1.1 hb.2.1.2 (by omega) (by omega)) ?_
  have y2 := szL_le zTerm_le a.terms l1 (by omega)
  generalize e2 : szL zTerm a.terms l1 = l2 at y2 ⊢
  repeat' first|refine yaG ?_|(exfalso;omega)|(refine yaS ?_ ?_<;>intro _)
  · refine .ret rfl (.int ?_)
    rename_i h
    simp only [zSel, chain, e1, if_neg g1, e2, if_pos h]
  rename_i g2
  refine .pcall rfl rfl rfl (szTokS_ok a.wher l2 hb.2.2.1.1 hb.2.2.1.2 (by omega) (by omega)) ?_
  have y3 := szL_le zTok_le a.wher l2 (by omega)
  generalize e3 : szL zTok a.wher l2 = l3 at y3 ⊢
  repeat' first|refine yaG ?_|(exfalso;omega)|(refine yaS ?_ ?_<;>intro _)
  · refine .ret rfl (.int ?_)
    rename_i h
    simp only [zSel, chain, e1, if_neg g1, e2, if_neg g2, e3, if_pos h]
  rename_i g3
  refine .pcall rfl rfl rfl (szInt64S_ok a.by_ l3 hb.2.2.2 (by omega) (by omega)) ?_
  have y4 := step_ints a.by_ l3 (by omega)
  generalize e4 : zI a.by_ l3 = l4 at y4 ⊢
  repeat' first|refine yaG ?_|(exfalso;omega)|(refine yaS ?_ ?_<;>intro _)
  · refine .ret rfl (.int ?_)
    rename_i h
    simp only [zSel, chain, e1, if_neg g1, e2, if_neg g2, e3, if_neg g3, e4, if_pos h]
  rename_i g4
  refine .ret rfl (.int ?_)
  simp only [zSel, chain, e1, if_neg g1, e2, if_neg g2, e3, if_neg g3, e4, if_neg g4]
theorem toSel_ok (a : Sel) (hb : bSel 34359738368 a) (σ : Store) : Ok Tryz.prog 33 [.agg (encSel a)] σ (NewL σ (encSel a)) := by
  refine Ok.run mixed c_laws_toSelect_ok (Nat.le_of_ble_eq_true rfl) fun hS hA => ?_
  clear hS hA
  repeat' first|refine yaG ?_|(exfalso;omega)|(refine yaS ?_ ?_<;>intro _)
  refine Go.call _ rfl rfl rfl (toTermS_ok a.terms hb.2.1.1 hb.2.1.2 _) ?_
  rintro r σ0 ⟨x0, m0, rfl, rfl, t0, h0⟩
  rw [E_E] at h0 ⊢
  have t0 := tidy_up t0
  have h0 := h0.new2
  repeat' first|refine yaG ?_|(exfalso;omega)|(refine yaS ?_ ?_<;>intro _)
  refine Go.call _ rfl rfl rfl (toTokS_ok a.wher hb.2.2.1.1 hb.2.2.1.2 _) ?_
  rintro r σ1 ⟨x1, m1, rfl, rfl, t1, h1⟩
  rw [E_E] at h1 ⊢
  have t1 := tidy_up t1
  have h1 := h1.new2
  have h0 := Has.more h0 (fun a ha => by have h9 := ha.1; have h8 := ha.2; simp only [List.append_eq, List.length_nil, List.length_append, List.nil_append] at h9 h8 ⊢; omega) m1
  repeat' first|refine yaG ?_|(exfalso;omega)|(refine yaS ?_ ?_<;>intro _)
  refine Go.call _ rfl rfl rfl (toInt64S_ok a.by_ hb.2.2.2 _) ?_
  rintro r σ2 ⟨x2, m2, rfl, rfl, t2, h2⟩
  rw [E_E] at h2 ⊢
  have t2 := tidy_up t2
  have h2 := h2.new2
  have h0 := Has.more h0 (fun a ha => by have h9 := ha.1; have h8 := ha.2; simp only [List.append_eq, List.length_nil, List.length_append, List.nil_append] at h9 h8 ⊢; omega) m2
  have h1 := Has.more h1 (fun a ha => by have h9 := ha.1; have h8 := ha.2; simp only [List.append_eq, List.length_nil, List.length_append, List.nil_append] at h9 h8 ⊢; omega) m2
  repeat' first|refine yaG ?_|(exfalso;omega)|(refine yaS ?_ ?_<;>intro _)
  have hL : HasL (E σ ((0, [[.str a.table, x0, x1, x2, .int .i64 a.most]]) :: (0, [[.str a.table, x0, x1, x2, .int .i64 a.most]]) :: ([] ++ m0 ++ m1 ++ m2))) (fun a => σ.next + 2 ≤ a ∧ a < σ.next + 2 + ([] ++ m0 ++ m1 ++ m2).length) (encSel a) [.str a.table, x0, x1, x2, .int .i64 a.most] := by
    refine HasL.mono ?_ (HasL.skip (.str _) (HasL.two (h0 _ _) (HasL.two (h1 _ _) (HasL.two (h2 _ _) (HasL.skip (.int _ _) (HasL.nil (S := fun a => a < 0))) (fun a ha hb => by (try dsimp only at ha hb); (try simp only [List.append_eq, List.length_append, List.length_nil, List.nil_append] at ha hb); omega)) (fun a ha hb => by (try dsimp only at ha hb); (try simp only [List.append_eq, List.length_append, List.length_nil, List.nil_append] at ha hb); omega)) (fun a ha hb => by (try dsimp only at ha hb); (try simp only [List.append_eq, List.length_append, List.length_nil, List.nil_append] at ha hb); omega)))
    intro a ha
    (try dsimp only at ha)
    (try simp only [List.append_eq, List.length_append, List.length_nil, List.nil_append] at ha ⊢)
    omega
  have hT := hL.tidy (n := σ.next) fun a ha => by have := ha.1; omega
  have hM : TidyL σ.next ([] ++ m0 ++ m1 ++ m2) := (tidy_pre (tidy_pre (tidy_pre (fun b hb => by simp at hb) t0) t1) t2)
  have hN : NewL σ (encSel a) (.agg [.str a.table, x0, x1, x2, .int .i64 a.most]) (E σ ((0, [[.str a.table, x0, x1, x2, .int .i64 a.most]]) :: (0, [[.str a.table, x0, x1, x2, .int .i64 a.most]]) :: ([] ++ m0 ++ m1 ++ m2))) := by
    refine ⟨_, _, rfl, rfl, .one hT (.one hT hM), hL.mono ?_⟩
    intro a ha
    have h9 := ha.1
    have h8 := ha.2
    (try simp only [E_next, List.length_cons, List.append_eq, List.length_append, List.length_nil, List.nil_append] at h8 ⊢)
    constructor <;> omega
  exact .ret (retv_m rfl rfl rfl (Nat.le_of_ble_eq_true rfl) rfl) hN
theorem Sel_beq (a b : Sel) : (a == b) = (a.table == b.table && a.terms == b.terms && a.wher == b.wher && a.by_ == b.by_ && a.most == b.most) := by
  obtain ⟨a0, a1, a2, a3, a4⟩ := a
  obtain ⟨b0, b1, b2, b3, b4⟩ := b
  rw [Bool.eq_iff_iff]
  simp [and_assoc]
theorem eqSel_ok (a b : Sel) (hb : bSel 34359738368 a) : Pure Tryz.prog 36 [.agg (encSel a), .agg (encSel b)] (.c (.bool (a == b))) := by
  refine Pure.run mixed c_laws_eqSelect_ok (Nat.le_of_ble_eq_true rfl) fun σ hS hA => ?_
  clear hS hA
  have hq := Sel_beq a b
  repeat' first|refine yaG ?_|((first|apply Go.pcallB|apply Go.spcallB|apply Qg.pcallB);(iterate 3 exact rfl);(first|exact eqTermS_ok a.terms b.terms hb.2.1.1 hb.2.1.2|exact eqTokS_ok a.wher b.wher hb.2.2.1.1 hb.2.2.1.2|exact eqInt64S_ok a.by_ b.by_ hb.2.2.2);intro _ _)|(exfalso;omega)|(refine yaS ?_ ?_<;>intro _)
  all_goals refine .ret rfl (.bool ?_)
  all_goals rw [hq]
  all_goals clear hq hb
  all_goals simp_all
end Go.Proofs.YtinbdedlmkjokaaGreat.Am

/- Names and expressions: what the program and its reference say of them. -/
set_option linter.unusedVariables false
set_option linter.unusedSimpArgs false
namespace Go.Proofs.YtinbdedlmkjokaaGreat.Am

theorem aop_idxS {fr : Fr} {σ : Store} {x y : Opd} {kd : IntKind} {s : List UInt8} {z : Int} {n : Nat} (hx : x.ev fr = some (.c (.str s))) (hy : y.ev fr = some (.c (.int kd z))) (hz : z = (n : Int)) (hn : n < s.length) : aop (.idx x y) fr σ = some (.c (.int .u8 (s[n].toNat : Int)), σ) := by
  subst hz
  simp [aop, hx, hy, hn]
def letter (c : UInt8) : Bool := decide (97 ≤ c.toNat) && decide (c.toNat ≤ 122)
def isNameF (s : List UInt8) : Bool := s.all letter && isIn s.length 1 8
theorem isName_ok (s : List UInt8) (hx : s.length ≤ 34359738368) : Pure Tryz.prog 51 [.c (.str s)] (.c (.bool (isNameF s))) := by
  refine Pure.run mixed c_impl_isName_ok (Nat.le_of_ble_eq_true rfl) fun σ hS hA => ?_
  clear hS hA
  repeat' first|refine yaG ?_|(exfalso;omega)|(refine yaS ?_ ?_<;>intro _)
  refine Go.keep [0, 5, 6] (Go.loops (I := fun m fr τ => ∃ i : Nat, ∃ n : Int, m = s.length - i ∧ i ≤ s.length ∧ n = i ∧ s.all letter = (s.drop i).all letter ∧
    fr = [(0, .c (.str s)), (5, .c (.int .i64 (s.length : Int))), (6, .c (.int .i64 n))] ∧ τ = E σ []) ?_ _ _ _ ⟨0, _, rfl, Nat.zero_le _, rfl, rfl, rfl, rfl⟩)
  rintro m fr τ ⟨i, n, rfl, hi, hn, hs, rfl, rfl⟩ hrec
  by_cases hlt : i < s.length
  · have hd := List.drop_eq_getElem_cons hlt
    repeat' first|refine yaG ?_|((first|apply yG|apply yH|apply yI);exact rfl;(first|exact aop_idxS rfl rfl hn hlt))|(exfalso;omega)|(refine yaS ?_ ?_<;>intro _)
    · refine .ret rfl (.bool ?_)
      rename_i h
      rw [isNameF, hs, hd, List.all_cons, letter, decide_eq_false (by omega)]
      rfl
    · refine .ret rfl (.bool ?_)
      rename_i h h2
      rw [isNameF, hs, hd, List.all_cons, letter, decide_eq_false (p := s[i].toNat ≤ 122) (by omega)]
      simp
    · rename_i h h2
      refine Go.keep [0, 5, 6] (hrec _ _ _ (by omega) ⟨i + 1, _, rfl, hlt, wrap_succ hn (by omega), ?_, rfl, rfl⟩)
      rw [hs, hd, List.all_cons, letter, decide_eq_true (by omega), decide_eq_true (by omega)]
      rfl
  · repeat' first|refine yaG ?_|((first|apply yQ|apply yR|apply yS);(iterate 3 exact rfl);exact in_ok _ _ _)|(exfalso;omega)|(refine yaS ?_ ?_<;>intro _)
    refine .ret rfl (.bool ?_)
    rw [isNameF, hs, List.drop_eq_nil_of_le (by omega)]
    rfl
theorem l3Name_ok (s : List UInt8) (hx : s.length ≤ 34359738368) : Pure Tryz.prog 251 [.c (.str s)] (.c (.bool (isNameF s))) := by
  refine Pure.run mixed c_spec_l3Name_ok (Nat.le_of_ble_eq_true rfl) fun σ hS hA => ?_
  clear hS hA
  repeat' first|refine yaG ?_|(exfalso;omega)|(refine yaS ?_ ?_<;>intro _)
  refine Go.keep [0, 3] (Go.loops (I := fun m fr τ => ∃ i : Nat, ∃ n : Int, m = s.length - i ∧ i ≤ s.length ∧ n = i ∧ s.all letter = (s.drop i).all letter ∧
    fr = [(0, .c (.str s)), (3, .c (.int .i64 n))] ∧ τ = E σ []) ?_ _ _ _ ⟨0, _, rfl, Nat.zero_le _, rfl, rfl, rfl, rfl⟩)
  rintro m fr τ ⟨i, n, rfl, hi, hn, hs, rfl, rfl⟩ hrec
  by_cases hlt : i < s.length
  · have hd := List.drop_eq_getElem_cons hlt
    repeat' first|refine yaG ?_|((first|apply yG|apply yH|apply yI);exact rfl;(first|exact aop_idxS rfl rfl hn hlt))|(exfalso;omega)|(refine yaS ?_ ?_<;>intro _)
    · refine .ret rfl (.bool ?_)
      rename_i h
      rw [isNameF, hs, hd, List.all_cons, letter, decide_eq_false (by omega)]
      rfl
    · refine .ret rfl (.bool ?_)
      rename_i h h2
      rw [isNameF, hs, hd, List.all_cons, letter, decide_eq_false (p := s[i].toNat ≤ 122) (by omega)]
      simp
    · rename_i h h2
      refine Go.keep [0, 3] (hrec _ _ _ (by omega) ⟨i + 1, _, rfl, hlt, wrap_succ hn (by omega), ?_, rfl, rfl⟩)
      rw [hs, hd, List.all_cons, letter, decide_eq_true (by omega), decide_eq_true (by omega)]
      rfl
  · repeat' first|refine yaG ?_|((first|apply yQ|apply yR|apply yS);(iterate 3 exact rfl);exact l1In_ok _ _ _)|(exfalso;omega)|(refine yaS ?_ ?_<;>intro _)
    refine .ret rfl (.bool ?_)
    rw [isNameF, hs, List.drop_eq_nil_of_le (by omega)]
    rfl

/-! ### Expressions -/
def tokTakes (t : Tok) : Int := if t.kind = 1 ∨ t.kind = 2 then 0 else if t.kind = 7 ∨ t.kind = 8 then 1 else 2
def vz (v : Val) : Bool := v.k == 0 && (v.n == 0 && v.s == [])
def isTokF (t : Tok) (n : Int) : Bool := if t.kind = 1 then isIn t.col 0 (n - 1) && vz t.v else if t.kind = 2 then t.col == 0 && okVal t.v else isIn t.kind 3 10 && t.col == 0 && vz t.v
theorem takes_ok (t : Tok) : Pure Tryz.prog 170 [.agg (encTok t)] (.c (.int .i64 (tokTakes t))) := by
  refine Pure.run mixed c_impl_Tok_takes_ok (Nat.le_of_ble_eq_true rfl) fun σ hS hA => ?_
  clear hS hA
  repeat' first|refine yaG ?_|(exfalso;omega)|(refine yaS ?_ ?_<;>intro _)
  all_goals refine .ret rfl (.int ?_)
  all_goals simp_all [tokTakes]
theorem isTok_ok (t : Tok) (n : Int) (h0 : -4611686018427387904 ≤ n) (h1 : n ≤ 4611686018427387904) : Pure Tryz.prog 235 [.agg (encTok t), .c (.int .i64 n)] (.c (.bool (isTokF t n))) := by
  refine Pure.run mixed c_impl_isTok_ok (Nat.le_of_ble_eq_true rfl) fun σ hS hA => ?_
  clear hS hA
  have hw : IntKind.i64.wrap (n - 1) = n - 1 := wrap64 (by omega) (by omega)
  repeat' first|refine yaG ?_|((first|apply Go.pcallB|apply Go.spcallB|apply Qg.pcallB);(iterate 3 exact rfl);(first|exact in_ok _ _ _|exact ValOk_ok _);intro _ _)|(exfalso;omega)|(refine yaS ?_ ?_<;>intro _)
  all_goals refine .ret rfl (.bool ?_)
  all_goals simp_all [isTokF, vz]
end Go.Proofs.YtinbdedlmkjokaaGreat.Am

/- Expressions and lists of columns. -/
set_option linter.unusedVariables false
set_option linter.unusedSimpArgs false
namespace Go.Proofs.YtinbdedlmkjokaaGreat.Am

theorem nbT {x b : Bool} (h : x = b) (k : (!b) = true) : x = false := by cases b <;> simp_all
theorem nbF {x b : Bool} (h : x = b) (k : (!b) = false) : x = true := by cases b <;> simp_all
theorem bT {x b : Bool} (h : x = b) (k : b = true) : x = true := h.trans k
theorem bF {x b : Bool} (h : x = b) (k : b = false) : x = false := h.trans k
def takesF (t : Tok) (n : Int) : Int := if isTokF t n then tokTakes t else -1
theorem isIn_310 {k : Int} : isIn k 3 10 = true ↔ (k = 3 ∨ k = 4 ∨ k = 5 ∨ k = 6 ∨ k = 7 ∨ k = 8 ∨ k = 9 ∨ k = 10) := by
  simp only [isIn, Bool.and_eq_true, decide_eq_true_eq]
  omega
theorem l2Takes_ok (t : Tok) (n : Int) (h0 : -4611686018427387904 ≤ n) (h1 : n ≤ 4611686018427387904) : Pure Tryz.prog 244 [.agg (encTok t), .c (.int .i64 n)] (.c (.int .i64 (takesF t n))) := by
  refine Pure.run mixed c_spec_l2Takes_ok (Nat.le_of_ble_eq_true rfl) fun σ hS hA => ?_
  clear hS hA
  have hw : IntKind.i64.wrap (n - 1) = n - 1 := wrap64 (by omega) (by omega)
  have h310 := @isIn_310 t.kind
  repeat' first|refine yaG ?_|((first|apply Go.pcallB|apply Go.spcallB|apply Qg.pcallB);(iterate 3 exact rfl);(first|exact l1In_ok _ _ _|exact sValOk_ok _);intro _ _)|(exfalso;omega)|(refine yaS ?_ ?_<;>intro _)
  all_goals refine .ret rfl (.int ?_)
  all_goals first
    | (simp_all [takesF, isTokF, vz, tokTakes]; done)
    | (cases hk : isIn t.kind 3 10 <;> simp_all [takesF, isTokF, vz, tokTakes]; done)
    | (rename_i hl; have hz : vz t.v = false := (by cases h : vz t.v; (· rfl); (· exfalso; simp [vz] at h; simp [h] at hl)); clear hl; simp_all [takesF, isTokF]; done)
def exprAux (n : Int) : Int → List Tok → Bool
  | left, [] => left == 1
  | left, t :: r => isTokF t n && decide (tokTakes t ≤ left) && exprAux n (left + 1 - tokTakes t) r
theorem tokTakes_range (t : Tok) : 0 ≤ tokTakes t ∧ tokTakes t ≤ 2 := by
  simp only [tokTakes]
  split
  · omega
  · split <;> omega
theorem ExprOk_ok (e : List Tok) (n : Int) (hx : e.length ≤ 34359738368) : Pure Tryz.prog 169 [.c (.fz (e.map encTok)), .c (.int .i64 n)] (.c (.bool (decide ((e.length : Int) ≤ 24) && isIn n 0 16 && exprAux n 0 e))) := by
  refine Pure.run mixed c_impl_ExprOk_ok (Nat.le_of_ble_eq_true rfl) fun σ hS hA => ?_
  clear hS hA
  repeat' first|refine yaG ?_|((first|apply Go.pcallB|apply Go.spcallB|apply Qg.pcallB);(iterate 3 exact rfl);exact in_ok _ _ _;intro _ _)|(exfalso;omega)|(refine yaS ?_ ?_<;>intro _)
  · refine .ret rfl (.bool ?_)
    rename_i h
    rw [decide_eq_false (by omega)]
    rfl
  · refine .ret rfl (.bool ?_)
    simp_all
  rename_i hl b hb hn
  have hn16 : 0 ≤ n ∧ n ≤ 16 := by
    have : isIn n 0 16 = true := by simp_all
    simpa [isIn] using this
  refine Go.keep [1, 5, 16, 17, 18] (Go.loops (I := fun m fr τ => ∃ i : Nat, ∃ k l : Int, m = e.length - i ∧ i ≤ e.length ∧ k = i ∧ (0 ≤ l ∧ l ≤ i ∧ exprAux n 0 e = exprAux n l (e.drop i)) ∧
    fr = [(1, .c (.int .i64 n)), (5, .c (.int .i64 l)), (16, .c (.fz (e.map encTok))), (17, .c (.int .i64 (e.length : Int))), (18, .c (.int .i64 k))] ∧ τ = E σ []) ?_ _ _ _ ⟨0, _, _, rfl, Nat.zero_le _, rfl, ⟨Int.le_refl _, by simp, rfl⟩, rfl, rfl⟩)
  rintro m fr τ ⟨i, k, l, rfl, hi, hk, ⟨hl0, hl1, hsl⟩, rfl, rfl⟩ hrec
  have hres : (decide ((e.length : Int) ≤ 24) && isIn n 0 16 && exprAux n 0 e) = exprAux n 0 e := by
    rw [decide_eq_true (p := (e.length : Int) ≤ 24) (by omega), hb]
    cases b
    · simp at hn
    · simp
  by_cases hlt : i < e.length
  · have hd := List.drop_eq_getElem_cons hlt
    have ht := tokTakes_range e[i]
    repeat' first|refine yaG ?_|((first|apply yG|apply yH|apply yI);exact rfl;(first|exact yX (enc := encTok) rfl rfl hk hlt rfl))|refine yaC (takes_ok e[i]) ?_|((first|apply Go.pcallB|apply Go.spcallB|apply Qg.pcallB);(iterate 3 exact rfl);exact isTok_ok e[i] n (by omega) (by omega);intro _ _)|(exfalso;omega)|(refine yaS ?_ ?_<;>intro _)
    · refine .ret rfl (.bool ?_)
      rename_i b1 hb1 hb2
      rw [hres, hsl, hd, exprAux, nbT hb1 hb2]
      rfl
    · refine .ret rfl (.bool ?_)
      rename_i h
      rw [hres, hsl, hd, exprAux, decide_eq_false (p := tokTakes e[i] ≤ l) (by omega)]
      simp
    · rename_i b1 hb1 hb2 h
      have w1 : IntKind.i64.wrap (1 - tokTakes e[i]) = 1 - tokTakes e[i] := wrap64 (by omega) (by omega)
      have w2 : IntKind.i64.wrap (l + (1 - tokTakes e[i])) = l + 1 - tokTakes e[i] := by rw [wrap64 (by omega) (by omega)]; omega
      refine Go.keep [1, 5, 16, 17, 18] (hrec _ _ _ (by omega) ⟨i + 1, _, _, rfl, hlt, wrap_succ hk (by omega), ⟨?_, ?_, ?_⟩, rfl, rfl⟩)
      · rw [w1, w2]; omega
      · rw [w1, w2]; omega
      · rw [w1, w2, hsl, hd, exprAux, decide_eq_true (p := tokTakes e[i] ≤ l) (by omega)]
        rw [nbF hb1 hb2]
        rfl
  · repeat' first|refine yaG ?_|(exfalso;omega)|(refine yaS ?_ ?_<;>intro _)
    refine .ret rfl (.bool ?_)
    rw [hres, hsl, List.drop_eq_nil_of_le (by omega)]
    rfl
theorem l2Expr_ok (e : List Tok) (n : Int) (hx : e.length ≤ 34359738368) (h0 : -4611686018427387904 ≤ n) (h1 : n ≤ 4611686018427387904) : Pure Tryz.prog 174 [.c (.fz (e.map encTok)), .c (.int .i64 n)] (.c (.bool (decide ((e.length : Int) ≤ 24) && exprAux n 0 e))) := by
  refine Pure.run mixed c_spec_l2Expr_ok (Nat.le_of_ble_eq_true rfl) fun σ hS hA => ?_
  clear hS hA
  repeat' first|refine yaG ?_|(exfalso;omega)|(refine yaS ?_ ?_<;>intro _)
  refine Go.keep [0, 1, 5, 6] (Go.loops (I := fun m fr τ => ∃ i : Nat, ∃ k l : Int, m = e.length - i ∧ i ≤ e.length ∧ k = i ∧ (0 ≤ l ∧ l ≤ i ∧ exprAux n 0 e = exprAux n l (e.drop i)) ∧
    fr = [(0, .c (.fz (e.map encTok))), (1, .c (.int .i64 n)), (5, .c (.int .i64 l)), (6, .c (.int .i64 k))] ∧ τ = E σ []) ?_ _ _ _ ⟨0, _, _, rfl, Nat.zero_le _, rfl, ⟨Int.le_refl _, by simp, rfl⟩, rfl, rfl⟩)
  rintro m fr τ ⟨i, k, l, rfl, hi, hk, ⟨hl0, hl1, hsl⟩, rfl, rfl⟩ hrec
  by_cases hlt : i < e.length
  · have hd := List.drop_eq_getElem_cons hlt
    have ht := tokTakes_range e[i]
    have neg : (isTokF e[i] n = false ∨ ¬ tokTakes e[i] ≤ l) → (decide ((e.length : Int) ≤ 24) && exprAux n 0 e) = false := by
      intro h
      rw [hsl, hd, exprAux]
      rcases h with h | h
      · simp [h]
      · rw [decide_eq_false (p := tokTakes e[i] ≤ l) h]; simp
    repeat' first|refine yaG ?_|((first|apply yG|apply yH|apply yI);exact rfl;(first|exact yX (enc := encTok) rfl rfl hk hlt rfl))|((first|apply Go.pcallI|apply Go.spcallI|apply Qg.pcallI);(iterate 3 exact rfl);exact l2Takes_ok e[i] n h0 h1;intro _ _)|(exfalso;omega)|(refine yaS ?_ ?_<;>intro _)
    · refine .ret rfl (.bool ?_)
      rename_i q hq h
      refine (neg (.inl ?_)).symm
      cases hc : isTokF e[i] n
      · rfl
      · simp only [takesF, hc, if_true] at hq; omega
    · refine .ret rfl (.bool ?_)
      rename_i q hq h h2
      refine (neg (.inr ?_)).symm
      simp only [takesF] at hq
      split at hq <;> omega
    · rename_i q hq h h2
      have hc : isTokF e[i] n = true ∧ tokTakes e[i] = q := by
        simp only [takesF] at hq
        split at hq
        · exact ⟨by assumption, hq⟩
        · omega
      have w1 : IntKind.i64.wrap (l - q) = l - q := wrap64 (by omega) (by omega)
      have w2 : IntKind.i64.wrap (l - q + 1) = l + 1 - tokTakes e[i] := by rw [wrap64 (by omega) (by omega)]; omega
      refine Go.keep [0, 1, 5, 6] (hrec _ _ _ (by omega) ⟨i + 1, _, _, rfl, hlt, wrap_succ hk (by omega), ⟨?_, ?_, ?_⟩, rfl, rfl⟩)
      · rw [w1, w2]; omega
      · rw [w1, w2]; omega
      · rw [w1, w2, hsl, hd, exprAux, decide_eq_true (p := tokTakes e[i] ≤ l) (by omega), hc.1]
        rfl
  · have hfin : exprAux n 0 e = (l == 1) := by
      rw [hsl, List.drop_eq_nil_of_le (by omega)]
      rfl
    repeat' first|refine yaG ?_|(exfalso;omega)|(refine yaS ?_ ?_<;>intro _)
    all_goals refine .ret rfl (.bool ?_)
    all_goals rw [hfin]
    all_goals clear hrec hfin hsl
    all_goals simp_all
/-! ### Lists of columns -/
def colsAux (n : Int) : List Int → List Int → Bool
  | _, [] => true
  | pre, c :: r => isIn c 0 (n - 1) && !(pre.any fun a => c == a) && colsAux n (pre ++ [c]) r
def colsF (l : List Int) (n : Int) : Bool := colsAux n [] l && decide (0 < (l.length : Int))
theorem aop_sliceF {fr : Fr} {σ : Store} {s : Nat} {x hi : Opd} {kd : IntKind} {es : List (List Ce)} {z : Int} {n : Nat} (hx : x.ev fr = some (.c (.fz es))) (hy : hi.ev fr = some (.c (.int kd z))) (hz : z = (n : Int)) (hn : n ≤ es.length) (hs : ∀ e ∈ es, e.length = s) : aop (.slice s x none (some hi) none) fr σ = some (.c (.fz (es.take n)), σ) := by
  have : sliceA σ s (.fz es) none (some (.c (.int kd z))) none = some (.fz (es.take n)) := by
    subst hz
    simp only [sliceA, bound]
    rw [if_pos (by omega)]
    simp only [Int.toNat_natCast]
    rw [if_pos ⟨Nat.zero_le _, hn, hs⟩, List.drop_zero]
  simp only [aop, hx, evo, hy, Option.map_some, this]
theorem encI_len {l : List Int} : ∀ e ∈ l.map encI, e.length = 1 := fun e he => (flatI l e he).1
theorem areColumns_ok (l : List Int) (n : Int) (hx : l.length ≤ 34359738368) (h0 : -4611686018427387904 ≤ n) (h1 : n ≤ 4611686018427387904) : Pure Tryz.prog 162 [.c (.fz (l.map encI)), .c (.int .i64 n)] (.c (.bool (colsF l n))) := by
  refine Pure.run mixed c_impl_areColumns_ok (Nat.le_of_ble_eq_true rfl) fun σ hS hA => ?_
  clear hS hA
  have hw : IntKind.i64.wrap (n - 1) = n - 1 := wrap64 (by omega) (by omega)
  repeat' first|refine yaG ?_|(exfalso;omega)|(refine yaS ?_ ?_<;>intro _)
  refine Go.keep [0, 1, 7, 8, 9] (Go.loops (I := fun m fr τ => ∃ i : Nat, ∃ k : Int, m = l.length - i ∧ i ≤ l.length ∧ k = i ∧ colsAux n [] l = colsAux n (l.take i) (l.drop i) ∧
    fr = [(0, .c (.fz (l.map encI))), (1, .c (.int .i64 n)), (7, .c (.fz (l.map encI))), (8, .c (.int .i64 (l.length : Int))), (9, .c (.int .i64 k))] ∧ τ = E σ []) ?_ _ _ _ ⟨0, _, rfl, Nat.zero_le _, rfl, rfl, rfl, rfl⟩)
  rintro m fr τ ⟨i, k, rfl, hi, hk, hsl, rfl, rfl⟩ hrec
  by_cases hlt : i < l.length
  · have hd := List.drop_eq_getElem_cons hlt
    have htk : (l.map encI).take i = (l.take i).map encI := List.map_take.symm
    have hstep : colsAux n [] l = (isIn l[i] 0 (n - 1) && !((l.take i).any fun a => l[i] == a) && colsAux n (l.take (i + 1)) (l.drop (i + 1))) := by
      rw [hsl, hd, colsAux, List.take_succ_eq_append_getElem hlt]
    repeat' first|refine yaG ?_|((first|apply yG|apply yH|apply yI);exact rfl;(first|exact yX (enc := encI) rfl rfl hk hlt rfl))|((first|apply Go.pcallB|apply Go.spcallB|apply Qg.pcallB);(iterate 3 exact rfl);exact in_ok _ _ _;intro _ _)|(exfalso;omega)|(refine yaS ?_ ?_<;>intro _)
    · refine .ret rfl (.bool ?_)
      rename_i b hb hb2
      rw [hw] at hb
      rw [colsF, hstep, nbT hb hb2]
      rfl
    rename_i b hb hb2
    refine .op rfl (aop_sliceF (n := i) rfl rfl hk (by simp; omega) encI_len) ?_
    rw [htk]
    repeat' first|refine yaG ?_|((first|apply Go.pcallB|apply Go.spcallB|apply Qg.pcallB);(iterate 3 exact rfl);exact containsInt_ok mixed c_slices_Contains_int64_int64_ok c_slices_Index_int64_int64_ok (l.take i) l[i] (by simp;omega);intro _ _)|(exfalso;omega)|(refine yaS ?_ ?_<;>intro _)
    · refine .ret rfl (.bool ?_)
      rename_i b1 hb1 hb3
      rw [colsF, hstep, bT hb1 hb3]
      simp
    · refine Go.keep [0, 1, 7, 8, 9] (hrec _ _ _ (by omega) ⟨i + 1, _, rfl, hlt, wrap_succ hk (by omega), ?_, rfl, rfl⟩)
      rename_i b1 hb1 hb3
      rw [hw] at hb
      rw [hstep, bF hb1 hb3, nbF hb hb2]
      simp
  · have hfin : colsAux n [] l = true := by
      rw [hsl, List.drop_eq_nil_of_le (by omega)]
      rfl
    repeat' first|refine yaG ?_|(exfalso;omega)|(refine yaS ?_ ?_<;>intro _)
    refine .ret rfl (.bool ?_)
    rw [colsF, hfin]
    rfl
end Go.Proofs.YtinbdedlmkjokaaGreat.Am

/- Tables: their columns, references, rules. -/
set_option linter.unusedVariables false
set_option linter.unusedSimpArgs false
namespace Go.Proofs.YtinbdedlmkjokaaGreat.Am

theorem l1Has_ok (l : List Int) (v : Int) (hx : l.length ≤ 34359738368) : Pure Tryz.prog 245 [.c (.fz (l.map encI)), .c (.int .i64 v)] (.c (.bool (l.any fun a => v == a))) := by
  refine Pure.run mixed c_spec_l1Has_ok (Nat.le_of_ble_eq_true rfl) fun σ hS hA => ?_
  clear hS hA
  repeat' first|refine yaG ?_|(exfalso;omega)|(refine yaS ?_ ?_<;>intro _)
  refine Go.keep [0, 1, 5] (Go.loops (I := fun m fr τ => ∃ i : Nat, ∃ k : Int, m = l.length - i ∧ i ≤ l.length ∧ k = i ∧ (l.any fun a => v == a) = ((l.drop i).any fun a => v == a) ∧
    fr = [(0, .c (.fz (l.map encI))), (1, .c (.int .i64 v)), (5, .c (.int .i64 k))] ∧ τ = E σ []) ?_ _ _ _ ⟨0, _, rfl, Nat.zero_le _, rfl, rfl, rfl, rfl⟩)
  rintro m fr τ ⟨i, k, rfl, hi, hn, hsl, rfl, rfl⟩ hrec
  by_cases hlt : i < l.length
  · have hd := List.drop_eq_getElem_cons hlt
    repeat' first|refine yaG ?_|((first|apply yG|apply yH|apply yI);exact rfl;(first|exact yX (enc := encI) rfl rfl hn hlt rfl))|(exfalso;omega)|(refine yaS ?_ ?_<;>intro _)
    · refine .ret rfl (.bool ?_)
      rename_i h
      rw [hsl, hd, List.any_cons, h]
      simp
    · rename_i h
      refine Go.keep [0, 1, 5] (hrec _ _ _ (by omega) ⟨i + 1, _, rfl, hlt, wrap_succ hn (by omega), ?_, rfl, rfl⟩)
      rw [hsl, hd, List.any_cons, beq_eq_false_iff_ne.2 (fun e => h e.symm)]
      rfl
  · repeat' first|refine yaG ?_|(exfalso;omega)|(refine yaS ?_ ?_<;>intro _)
    refine .ret rfl (.bool ?_)
    rw [hsl, List.drop_eq_nil_of_le (by omega)]
    rfl
theorem l3Cols_ok (l : List Int) (n : Int) (hx : l.length ≤ 34359738368) (h0 : -4611686018427387904 ≤ n) (h1 : n ≤ 4611686018427387904) : Pure Tryz.prog 175 [.c (.fz (l.map encI)), .c (.int .i64 n)] (.c (.bool (colsF l n))) := by
  refine Pure.run mixed c_spec_l3Cols_ok (Nat.le_of_ble_eq_true rfl) fun σ hS hA => ?_
  clear hS hA
  have hw : IntKind.i64.wrap (n - 1) = n - 1 := wrap64 (by omega) (by omega)
  repeat' first|refine yaG ?_|(exfalso;omega)|(refine yaS ?_ ?_<;>intro _)
  refine Go.keep [0, 1, 5] (Go.loops (I := fun m fr τ => ∃ i : Nat, ∃ k : Int, m = l.length - i ∧ i ≤ l.length ∧ k = i ∧ colsAux n [] l = colsAux n (l.take i) (l.drop i) ∧
    fr = [(0, .c (.fz (l.map encI))), (1, .c (.int .i64 n)), (5, .c (.int .i64 k))] ∧ τ = E σ []) ?_ _ _ _ ⟨0, _, rfl, Nat.zero_le _, rfl, rfl, rfl, rfl⟩)
  rintro m fr τ ⟨i, k, rfl, hi, hk, hsl, rfl, rfl⟩ hrec
  by_cases hlt : i < l.length
  · have hd := List.drop_eq_getElem_cons hlt
    have htk : (l.map encI).take i = (l.take i).map encI := List.map_take.symm
    have hstep : colsAux n [] l = (isIn l[i] 0 (n - 1) && !((l.take i).any fun a => l[i] == a) && colsAux n (l.take (i + 1)) (l.drop (i + 1))) := by
      rw [hsl, hd, colsAux, List.take_succ_eq_append_getElem hlt]
    repeat' first|refine yaG ?_|((first|apply yG|apply yH|apply yI);exact rfl;(first|exact yX (enc := encI) rfl rfl hk hlt rfl))|((first|apply Go.pcallB|apply Go.spcallB|apply Qg.pcallB);(iterate 3 exact rfl);exact l1In_ok _ _ _;intro _ _)|(exfalso;omega)|(refine yaS ?_ ?_<;>intro _)
    · refine .ret rfl (.bool ?_)
      rename_i b hb hb2
      rw [hw] at hb
      rw [colsF, hstep, nbT hb hb2]
      rfl
    rename_i b hb hb2
    repeat' first|refine yaG ?_|((first|apply yG|apply yH|apply yI);exact rfl;(first|exact aop_sliceF (n := i) rfl rfl hk (by simp;omega) encI_len|exact yX (enc := encI) rfl rfl hk hlt rfl))|(exfalso;omega)|(refine yaS ?_ ?_<;>intro _)
    rw [htk]
    repeat' first|refine yaG ?_|((first|apply Go.pcallB|apply Go.spcallB|apply Qg.pcallB);(iterate 3 exact rfl);exact l1Has_ok (l.take i) l[i] (by simp;omega);intro _ _)|(exfalso;omega)|(refine yaS ?_ ?_<;>intro _)
    · refine .ret rfl (.bool ?_)
      rename_i b1 hb1 hb3
      rw [colsF, hstep, bT hb1 hb3]
      simp
    · refine Go.keep [0, 1, 5] (hrec _ _ _ (by omega) ⟨i + 1, _, rfl, hlt, wrap_succ hk (by omega), ?_, rfl, rfl⟩)
      rename_i b1 hb1 hb3
      rw [hw] at hb
      rw [hstep, bF hb1 hb3, nbF hb hb2]
      simp
  · have hfin : colsAux n [] l = true := by
      rw [hsl, List.drop_eq_nil_of_le (by omega)]
      rfl
    repeat' first|refine yaG ?_|(exfalso;omega)|(refine yaS ?_ ?_<;>intro _)
    refine .ret rfl (.bool ?_)
    rw [colsF, hfin]
    rfl
def isOfF (v : Val) (k : Int) : Bool := okVal v && (v.k == 0 || v.k == k)
theorem isOf_ok (v : Val) (k : Int) : Pure Tryz.prog 270 [.agg (encV v), .c (.int .i64 k)] (.c (.bool (isOfF v k))) := by
  refine Pure.run mixed c_impl_isOf_ok (Nat.le_of_ble_eq_true rfl) fun σ hS hA => ?_
  clear hS hA
  repeat' first|refine yaG ?_|((first|apply Go.pcallB|apply Go.spcallB|apply Qg.pcallB);(iterate 3 exact rfl);exact ValOk_ok _;intro _ _)|(exfalso;omega)|(refine yaS ?_ ?_<;>intro _)
  all_goals refine .ret rfl (.bool ?_)
  all_goals simp_all [isOfF]
def isFkF (f : Fk) (n : Int) : Bool := colsF f.cols n && (isNameF f.table && (isIn f.onDelete 0 2 && isIn f.onUpdate 0 2))
theorem isFk_ok (f : Fk) (n : Int) (hb : bFk 34359738368 f) (h0 : -4611686018427387904 ≤ n) (h1 : n ≤ 4611686018427387904) : Pure Tryz.prog 268 [.agg (encFk f), .c (.int .i64 n)] (.c (.bool (isFkF f n))) := by
  refine Pure.run mixed c_impl_isFk_ok (Nat.le_of_ble_eq_true rfl) fun σ hS hA => ?_
  clear hS hA
  repeat' first|refine yaG ?_|((first|apply Go.pcallB|apply Go.spcallB|apply Qg.pcallB);(iterate 3 exact rfl);(first|exact areColumns_ok f.cols n hb.1 h0 h1|exact isName_ok f.table hb.2|exact in_ok _ _ _);intro _ _)|(exfalso;omega)|(refine yaS ?_ ?_<;>intro _)
  all_goals refine .ret rfl (.bool ?_)
  all_goals simp_all [isFkF]
/-! ### The columns of a table -/
def colOk (c : Col) : Bool := isNameF c.name && ((c.kind == 1 || c.kind == 2) && isOfF c.dflt c.kind)
def colsDef : List Col → List Col → Bool
  | _, [] => true
  | pre, c :: r => colOk c && !(pre.any fun d => d.name == c.name) && colsDef (pre ++ [c]) r
def areColsF (l : List Col) : Bool := decide ((l.length : Int) ≤ 8) && (colsDef [] l && decide (0 < (l.length : Int)))
theorem areCols1_ok (d c : Col) : Pure Tryz.prog 292 [.agg (encCol d), .c (.fp (encCol c))] (.c (.bool (d.name == c.name))) := by
  refine Pure.run mixed c_impl_areCols_1_ok (Nat.le_of_ble_eq_true rfl) fun σ hS hA => ?_
  clear hS hA
  repeat' first|refine yaG ?_|(exfalso;omega)|(refine yaS ?_ ?_<;>intro _)
  all_goals refine .ret rfl (.bool ?_)
  all_goals simp_all
theorem areCols_ok (l : List Col) (hx : l.length ≤ 34359738368) (hb : ∀ c ∈ l, bCol 34359738368 c) : Pure Tryz.prog 261 [.c (.fz (l.map encCol))] (.c (.bool (areColsF l))) := by
  refine Pure.run mixed c_impl_areCols_ok (Nat.le_of_ble_eq_true rfl) fun σ hS hA => ?_
  clear hS hA
  repeat' first|refine yaG ?_|(exfalso;omega)|(refine yaS ?_ ?_<;>intro _)
  refine Go.keep [0, 5, 6, 7] (Go.loops (I := fun m fr τ => ∃ i : Nat, ∃ k : Int, m = l.length - i ∧ i ≤ l.length ∧ k = i ∧ (i ≤ 8 ∧ colsDef [] l = colsDef (l.take i) (l.drop i)) ∧
    fr = [(0, .c (.fz (l.map encCol))), (5, .c (.fz (l.map encCol))), (6, .c (.int .i64 (l.length : Int))), (7, .c (.int .i64 k))] ∧ τ = E σ []) ?_ _ _ _ ⟨0, _, rfl, Nat.zero_le _, rfl, ⟨by omega, rfl⟩, rfl, rfl⟩)
  rintro m fr τ ⟨i, k, rfl, hi, hk, ⟨h8, hsl⟩, rfl, rfl⟩ hrec
  by_cases hlt : i < l.length
  · have hd := List.drop_eq_getElem_cons hlt
    have hbc := hb _ (List.getElem_mem hlt)
    have htk : (l.map encCol).take i = (l.take i).map encCol := List.map_take.symm
    have hstep : colsDef [] l = (colOk l[i] && !((l.take i).any fun d => d.name == l[i].name) && colsDef (l.take (i + 1)) (l.drop (i + 1))) := by
      rw [hsl, hd, colsDef, List.take_succ_eq_append_getElem hlt]
    have neg : (k = 8 ∨ colOk l[i] = false ∨ ((l.take i).any fun d => d.name == l[i].name) = true) → areColsF l = false := by
      rintro (h | h | h)
      · rw [areColsF, decide_eq_false (by omega)]
        rfl
      · rw [areColsF, hstep, h]
        simp
      · rw [areColsF, hstep, h]
        simp
    repeat' first|refine yaG ?_|((first|apply yG|apply yH|apply yI);exact rfl;(first|exact yX (enc := encCol) rfl rfl hk hlt rfl))|((first|apply Go.pcallB|apply Go.spcallB|apply Qg.pcallB);(iterate 3 exact rfl);(first|exact isName_ok l[i].name hbc.1|exact isOf_ok l[i].dflt l[i].kind);intro _ _)|(exfalso;omega)|(refine yaS ?_ ?_<;>intro _)
    all_goals try (refine .ret rfl (.bool (neg ?_).symm); clear hrec hsl hstep neg; simp_all [colOk]; done)
    all_goals have hcol : colOk l[i] = true := (by clear hrec hsl hstep neg; simp_all [colOk])
    all_goals refine .op rfl (aop_sliceF (n := i) rfl rfl hk (by simp; omega) (fun e he => by obtain ⟨c, _, rfl⟩ := List.mem_map.1 he; rfl)) ?_
    all_goals rw [htk]
    all_goals (repeat' first|(apply yA;exact rfl)|apply yB|apply yC|((first|apply yD|apply yE);(first|exact yF|assumption);iterate 6 exact rfl)|((first|apply yG|apply yH|apply yI);exact rfl;(first|exact yJ|exact yK rfl rfl|exact yL rfl|exact yM rfl|exact rfl|exact aL rfl rfl rfl rfl rfl|exact aS rfl rfl rfl rfl rfl rfl rfl))|((first|apply yN|apply yO|apply yP);exact rfl)|((first|apply Go.pcallB|apply Go.spcallB|apply Qg.pcallB);(iterate 3 exact rfl);exact containsFuncA_ok mixed c_slices_ContainsFunc_Col_ok c_slices_IndexFunc_Col_ok encCol (fun c => .agg (encCol c)) (fun _ => rfl) (fun _ => rfl) (l.take i) (fun d => d.name == l[i].name) _ [] [.fp (encCol l[i])] (by simp;omega) (fun j hj _ => areCols1_ok _ _);intro _ _)|(exfalso;omega)|(((first|apply yT|apply yU|apply yV|apply yW);exact rfl;(first|exact .d|exact .e|exact .n|((fail_if_success exact bqt);(fail_if_success exact bqf);exact .b)))<;>intro _))
    all_goals rename_i b9 hb9 hb8
    all_goals first
      | exact .ret rfl (.bool (neg (.inr (.inr (bT hb9 hb8)))).symm)
      | (refine Go.keep [0, 5, 6, 7] (hrec _ _ _ (by omega) ⟨i + 1, _, rfl, hlt, wrap_succ hk (by omega), ⟨by omega, ?_⟩, rfl, rfl⟩); rw [hstep, hcol, bF hb9 hb8]; rfl)
  · have hfin : colsDef [] l = true := by
      rw [hsl, List.drop_eq_nil_of_le (by omega)]
      rfl
    repeat' first|refine yaG ?_|(exfalso;omega)|(refine yaS ?_ ?_<;>intro _)
    refine .ret rfl (.bool ?_)
    rw [areColsF, hfin, decide_eq_true (p := (l.length : Int) ≤ 8) (by omega)]
    rfl

/-! ### Tables -/
def notNullAt (t : Table) (c : Int) : Bool := match t.cols[c.toNat]? with | some x => x.notNull | none => false
def exprF (e : List Tok) (n : Int) : Bool := decide ((e.length : Int) ≤ 24) && exprAux n 0 e
def tableF (t : Table) : Bool :=
  isNameF t.name && (areColsF t.cols && (colsF t.key t.cols.length && (decide ((t.uniques.length : Int) ≤ 3) && (decide ((t.checks.length : Int) ≤ 3) && (decide ((t.fks.length : Int) ≤ 3) &&
    (!(t.key.any fun c => !notNullAt t c) && (!(t.uniques.any fun u => !colsF u.cols t.cols.length) && (!(t.checks.any fun c => !exprF c.expr t.cols.length) && !(t.fks.any fun f => !isFkF f t.cols.length)))))))))
theorem colsAux_in {n : Int} : ∀ {l pre : List Int}, colsAux n pre l = true → ∀ c ∈ l, isIn c 0 (n - 1) = true
  | [], _, _, c, h => by simp at h
  | a :: r, pre, h, c, hc => by
    simp only [colsAux, Bool.and_eq_true] at h
    rcases List.mem_cons.1 hc with rfl | hc
    · exact h.1.1
    · exact colsAux_in h.2 c hc
theorem colsF_in {l : List Int} {n : Int} (h : colsF l n = true) : ∀ c ∈ l, 0 ≤ c ∧ c < n := by
  intro c hc
  simp only [colsF, Bool.and_eq_true] at h
  have := colsAux_in h.1 c hc
  simp only [isIn, Bool.and_eq_true, decide_eq_true_eq] at this
  omega
theorem areColsF_len {l : List Col} (h : areColsF l = true) : 0 < l.length ∧ l.length ≤ 8 := by
  simp only [areColsF, Bool.and_eq_true, decide_eq_true_eq] at h
  omega
theorem TableOk1_ok (t : Table) (c : Int) (h0 : 0 ≤ c) (h1 : c < t.cols.length) : Pure Tryz.prog 263 [.c (.int .i64 c), .c (.fp (encTable t))] (.c (.bool (!notNullAt t c))) := by
  refine Pure.run mixed c_impl_TableOk_1_ok (Nat.le_of_ble_eq_true rfl) fun σ hS hA => ?_
  clear hS hA
  obtain ⟨n, rfl⟩ : ∃ n : Nat, c = n := ⟨c.toNat, by omega⟩
  have hn : n < t.cols.length := by omega
  repeat' first|refine yaG ?_|((first|apply yG|apply yH|apply yI);exact rfl;(first|exact yX (enc := encCol) rfl rfl rfl hn rfl))|(exfalso;omega)|(refine yaS ?_ ?_<;>intro _)
  refine .ret rfl (.bool ?_)
  simp [notNullAt, hn]
theorem TableOk2_ok (u : Uniq) (n : Int) (hb : bUniq 34359738368 u) (h0 : -4611686018427387904 ≤ n) (h1 : n ≤ 4611686018427387904) : Pure Tryz.prog 265 [.agg (encUniq u), .c (.fp [.int .i64 n])] (.c (.bool (!colsF u.cols n))) := by
  refine Pure.run mixed c_impl_TableOk_2_ok (Nat.le_of_ble_eq_true rfl) fun σ hS hA => ?_
  clear hS hA
  repeat' first|refine yaG ?_|refine yaC (areColumns_ok u.cols n hb h0 h1) ?_|(exfalso;omega)|(refine yaS ?_ ?_<;>intro _)
  exact .ret rfl (.bool rfl)
theorem exprF_eq {e : List Tok} {n : Int} (h0 : 0 ≤ n) (h1 : n ≤ 16) : (decide ((e.length : Int) ≤ 24) && isIn n 0 16 && exprAux n 0 e) = exprF e n := by
  have : isIn n 0 16 = true := by simp [isIn, h0, h1]
  rw [this, Bool.and_true]
  rfl
theorem TableOk3_ok (c : Chk) (n : Int) (hb : bChk 34359738368 c) (h0 : 0 ≤ n) (h1 : n ≤ 16) : Pure Tryz.prog 266 [.agg (encChk c), .c (.fp [.int .i64 n])] (.c (.bool (!exprF c.expr n))) := by
  refine Pure.run mixed c_impl_TableOk_3_ok (Nat.le_of_ble_eq_true rfl) fun σ hS hA => ?_
  clear hS hA
  have hc := ExprOk_ok c.expr n hb.1
  rw [exprF_eq h0 h1] at hc
  repeat' first|refine yaG ?_|refine yaC (hc) ?_|(exfalso;omega)|(refine yaS ?_ ?_<;>intro _)
  exact .ret rfl (.bool rfl)
theorem TableOk4_ok (f : Fk) (n : Int) (hb : bFk 34359738368 f) (h0 : -4611686018427387904 ≤ n) (h1 : n ≤ 4611686018427387904) : Pure Tryz.prog 267 [.agg (encFk f), .c (.fp [.int .i64 n])] (.c (.bool (!isFkF f n))) := by
  refine Pure.run mixed c_impl_TableOk_4_ok (Nat.le_of_ble_eq_true rfl) fun σ hS hA => ?_
  clear hS hA
  repeat' first|refine yaG ?_|refine yaC (isFk_ok f n hb h0 h1) ?_|(exfalso;omega)|(refine yaS ?_ ?_<;>intro _)
  exact .ret rfl (.bool rfl)
theorem TableOk_ok (t : Table) (hb : bTable 34359738368 t) : Pure Tryz.prog 195 [.agg (encTable t)] (.c (.bool (tableF t))) := by
  refine Pure.run mixed c_impl_TableOk_ok (Nat.le_of_ble_eq_true rfl) fun σ hS hA => ?_
  clear hS hA
  obtain ⟨b1, b2, b3, b4, b5, b6⟩ := hb
  repeat' first|refine yaG ?_|((first|apply Go.pcallB|apply Go.spcallB|apply Qg.pcallB);(iterate 3 exact rfl);(first|exact isName_ok t.name b1|exact areCols_ok t.cols b2.1 b2.2|exact areColumns_ok t.key t.cols.length b3 (by omega) (by omega));intro _ _)|(exfalso;omega)|(refine yaS ?_ ?_<;>intro _)
  all_goals try (refine .ret rfl (.bool ?_); simp_all [tableF]; done)
  · refine .ret rfl (.bool ?_)
    rw [tableF, decide_eq_false (p := (t.uniques.length : Int) ≤ 3) (by omega)]
    simp
  · refine .ret rfl (.bool ?_)
    rw [tableF, decide_eq_false (p := (t.checks.length : Int) ≤ 3) (by omega)]
    simp
  · refine .ret rfl (.bool ?_)
    rw [tableF, decide_eq_false (p := (t.fks.length : Int) ≤ 3) (by omega)]
    simp
  rename_i c1 p1 q1 c2 p2 q2 c3 p3 q3 g1 g2 g3
  have k1 := nbF p1 q1
  have k2 := nbF p2 q2
  have k3 := nbF p3 q3
  have hcl := areColsF_len k2
  have hin := colsF_in k3
  clear p1 q1 p2 q2 p3 q3
  repeat' first|refine yaG ?_|((first|apply Go.pcallB|apply Go.spcallB|apply Qg.pcallB);(iterate 3 exact rfl);(first|exact containsFuncA_ok mixed c_slices_ContainsFunc_int64_int64'_ok c_slices_IndexFunc_int64_int64'_ok encI (fun n => .c (.int .i64 n)) (fun _ => rfl) (fun _ => rfl) t.key (fun c => !notNullAt t c) _ [] [.fp (encTable t)] b3 (fun j hj _ => TableOk1_ok t _ (hin _ (List.getElem_mem hj)).1 (hin _ (List.getElem_mem hj)).2)|exact containsFuncA_ok mixed c_slices_ContainsFunc_Unique_ok c_slices_IndexFunc_Unique_ok encUniq (fun u => .agg (encUniq u)) (fun _ => rfl) (fun _ => rfl) t.uniques (fun u => !colsF u.cols t.cols.length) _ [] [.fp [.int .i64 t.cols.length]] b4.1 (fun j hj _ => TableOk2_ok _ _ (b4.2 _ (List.getElem_mem hj)) (by omega) (by omega))|exact containsFuncA_ok mixed c_slices_ContainsFunc_Check_ok c_slices_IndexFunc_Check_ok encChk (fun u => .agg (encChk u)) (fun _ => rfl) (fun _ => rfl) t.checks (fun c => !exprF c.expr t.cols.length) _ [] [.fp [.int .i64 t.cols.length]] b5.1 (fun j hj _ => TableOk3_ok _ _ (b5.2 _ (List.getElem_mem hj)) (by omega) (by omega))|exact containsFuncA_ok mixed c_slices_ContainsFunc_Fk_ok c_slices_IndexFunc_Fk_ok encFk (fun u => .agg (encFk u)) (fun _ => rfl) (fun _ => rfl) t.fks (fun f => !isFkF f t.cols.length) _ [] [.fp [.int .i64 t.cols.length]] b6.1 (fun j hj _ => TableOk4_ok _ _ (b6.2 _ (List.getElem_mem hj)) (by omega) (by omega)));intro _ _)|(exfalso;omega)|(refine yaS ?_ ?_<;>intro _)
  all_goals refine .ret rfl (.bool ?_)
  all_goals rw [tableF, k1, k2, k3, decide_eq_true (p := (t.uniques.length : Int) ≤ 3) (by omega), decide_eq_true (p := (t.checks.length : Int) ≤ 3) (by omega), decide_eq_true (p := (t.fks.length : Int) ≤ 3) (by omega)]
  all_goals simp_all
end Go.Proofs.YtinbdedlmkjokaaGreat.Am

/- Tables, as the reference sees them. -/
set_option linter.unusedVariables false
set_option linter.unusedSimpArgs false
namespace Go.Proofs.YtinbdedlmkjokaaGreat.Am

theorem ColAt_ok (x0 x2 x3 x4 x5 : Ce) (l : List Col) (s : List UInt8) (hx : l.length ≤ 34359738368) : Pure Tryz.prog 252 [.agg [x0, .fz (l.map encCol), x2, x3, x4, x5], .c (.str s)] (.c (.int .i64 (idxA (fun c => c.name == s) l 0))) := by
  refine Pure.run mixed c_spec_ColAt_ok (Nat.le_of_ble_eq_true rfl) fun σ hS hA => ?_
  clear hS hA
  repeat' first|refine yaG ?_|(exfalso;omega)|(refine yaS ?_ ?_<;>intro _)
  refine Go.keep [1, 2, 5] (Go.loops (I := fun m fr τ => ∃ i : Nat, ∃ k : Int, m = l.length - i ∧ i ≤ l.length ∧ k = i ∧ idxA (fun c => c.name == s) l 0 = idxA (fun c => c.name == s) (l.drop i) k ∧
    fr = [(1, .c (.str s)), (2, .c (.fp [x0, .fz (l.map encCol), x2, x3, x4, x5])), (5, .c (.int .i64 k))] ∧ τ = E σ []) ?_ _ _ _ ⟨0, _, rfl, Nat.zero_le _, rfl, rfl, rfl, rfl⟩)
  rintro m fr τ ⟨i, k, rfl, hi, hn, hsl, rfl, rfl⟩ hrec
  by_cases hlt : i < l.length
  · repeat' first|refine yaG ?_|((first|apply yG|apply yH|apply yI);exact rfl;(first|exact yX (enc := encCol) rfl rfl hn hlt rfl))|(exfalso;omega)|(refine yaS ?_ ?_<;>intro _)
    · refine .ret rfl (.int ?_)
      rw [hsl, List.drop_eq_getElem_cons hlt, idxA, if_pos (by assumption)]
    · rename_i h
      refine Go.keep [1, 2, 5] (hrec _ _ _ (by omega) ⟨i + 1, _, rfl, hlt, wrap_succ hn (by omega), ?_, rfl, rfl⟩)
      rw [hsl, List.drop_eq_getElem_cons hlt, idxA, if_neg (by rw [h]; simp), wrap64 (by omega) (by omega)]
  · repeat' first|refine yaG ?_|(exfalso;omega)|(refine yaS ?_ ?_<;>intro _)
    refine .ret rfl (.int ?_)
    rw [hsl, List.drop_eq_nil_of_le (by omega)]
    rfl
theorem l3At_ok (l : List Table) (s : List UInt8) (hx : l.length ≤ 34359738368) : Pure Tryz.prog 87 [.c (.fz (l.map encTable)), .c (.str s)] (.c (.int .i64 (idxA (fun t => t.name == s) l 0))) := by
  refine Pure.run mixed c_spec_l3At_ok (Nat.le_of_ble_eq_true rfl) fun σ hS hA => ?_
  clear hS hA
  repeat' first|refine yaG ?_|(exfalso;omega)|(refine yaS ?_ ?_<;>intro _)
  refine Go.keep [0, 1, 5] (Go.loops (I := fun m fr τ => ∃ i : Nat, ∃ k : Int, m = l.length - i ∧ i ≤ l.length ∧ k = i ∧ idxA (fun c => c.name == s) l 0 = idxA (fun c => c.name == s) (l.drop i) k ∧
    fr = [(0, .c (.fz (l.map encTable))), (1, .c (.str s)), (5, .c (.int .i64 k))] ∧ τ = E σ []) ?_ _ _ _ ⟨0, _, rfl, Nat.zero_le _, rfl, rfl, rfl, rfl⟩)
  rintro m fr τ ⟨i, k, rfl, hi, hn, hsl, rfl, rfl⟩ hrec
  by_cases hlt : i < l.length
  · repeat' first|refine yaG ?_|((first|apply yG|apply yH|apply yI);exact rfl;(first|exact yX (enc := encTable) rfl rfl hn hlt rfl))|(exfalso;omega)|(refine yaS ?_ ?_<;>intro _)
    · refine .ret rfl (.int ?_)
      rw [hsl, List.drop_eq_getElem_cons hlt, idxA, if_pos (by assumption)]
    · rename_i h
      refine Go.keep [0, 1, 5] (hrec _ _ _ (by omega) ⟨i + 1, _, rfl, hlt, wrap_succ hn (by omega), ?_, rfl, rfl⟩)
      rw [hsl, List.drop_eq_getElem_cons hlt, idxA, if_neg (by rw [h]; simp), wrap64 (by omega) (by omega)]
  · repeat' first|refine yaG ?_|(exfalso;omega)|(refine yaS ?_ ?_<;>intro _)
    refine .ret rfl (.int ?_)
    rw [hsl, List.drop_eq_nil_of_le (by omega)]
    rfl
theorem any_at {α : Type} {p : α → Bool} {l : List α} {i : Nat} (hi : i < l.length) (h : p l[i] = false) : (l.any fun a => !p a) = true := List.any_eq_true.2 ⟨l[i], List.getElem_mem hi, by rw [h]; rfl⟩
theorem any_none {α : Type} {p : α → Bool} {l : List α} (h : ∀ j (hj : j < l.length), p l[j] = true) : (l.any fun a => !p a) = false := by
  rw [List.any_eq_false]
  intro a ha
  obtain ⟨j, hj, rfl⟩ := List.mem_iff_getElem.1 ha
  rw [h j hj]
  simp
theorem upto {α : Type} {p : α → Bool} {l : List α} {i : Nat} (h : ∀ j (hj : j < l.length), j < i → p l[j] = true) (hi : i < l.length) (hp : p l[i] = true) : ∀ j (hj : j < l.length), j < i + 1 → p l[j] = true := fun j hj hji => by
  by_cases e : j = i
  · subst e; exact hp
  · exact h j hj (by omega)
theorem isIn12 {k : Int} : isIn k 1 2 = (k == 1 || k == 2) := by
  rw [Bool.eq_iff_iff]
  simp [isIn]
  omega
theorem tableF_iff {t : Table} : tableF t = true ↔ isNameF t.name = true ∧ isIn t.cols.length 1 8 = true ∧ colsF t.key t.cols.length = true ∧ (t.uniques.length : Int) ≤ 3 ∧ (t.checks.length : Int) ≤ 3 ∧ (t.fks.length : Int) ≤ 3 ∧ colsDef [] t.cols = true ∧
    (t.key.any fun c => !notNullAt t c) = false ∧ (t.uniques.any fun u => !colsF u.cols t.cols.length) = false ∧ (t.checks.any fun c => !exprF c.expr t.cols.length) = false ∧ (t.fks.any fun f => !isFkF f t.cols.length) = false := by
  simp only [tableF, areColsF, isIn, Bool.and_eq_true, decide_eq_true_eq, Bool.not_eq_true']
  constructor
  · rintro ⟨h1, ⟨h2, h3, h4⟩, h5, h6, h7, h8, h9, h10, h11, h12⟩
    exact ⟨h1, ⟨by omega, h2⟩, h5, h6, h7, h8, h3, h9, h10, h11, h12⟩
  · rintro ⟨h1, ⟨h2, h2'⟩, h3, h4, h5, h6, h7, h8, h9, h10, h11⟩
    exact ⟨h1, ⟨h2', h7, by omega⟩, h3, h4, h5, h6, h8, h9, h10, h11⟩
theorem tableF_not {t : Table} (h : tableF t = true → False) : tableF t = false := by
  cases c : tableF t
  · rfl
  · exact (h c).elim
theorem sTableOk_ok (t : Table) (hb : bTable 34359738368 t) : Pure Tryz.prog 183 [.agg (encTable t)] (.c (.bool (tableF t))) := by
  refine Pure.run mixed c_spec_TableOk_ok (Nat.le_of_ble_eq_true rfl) fun σ hS hA => ?_
  clear hS hA
  obtain ⟨b1, b2, b3, b4, b5, b6⟩ := hb
  repeat' first|refine yaG ?_|((first|apply Go.pcallB|apply Go.spcallB|apply Qg.pcallB);(iterate 3 exact rfl);(first|exact l3Name_ok t.name b1|exact l1In_ok _ _ _|exact l3Cols_ok t.key t.cols.length b3 (by omega) (by omega));intro _ _)|(exfalso;omega)|(refine yaS ?_ ?_<;>intro _)
  · exact .ret rfl (.bool (tableF_not fun h => by rename_i c p q; have h2 := (tableF_iff.1 h).1; rw [nbT p q] at h2; cases h2).symm)
  · exact .ret rfl (.bool (tableF_not fun h => by rename_i c1 p1 q1 c p q; have h2 := (tableF_iff.1 h).2.1; rw [nbT p q] at h2; cases h2).symm)
  · exact .ret rfl (.bool (tableF_not fun h => by rename_i c p q; have h2 := (tableF_iff.1 h).2.2.1; rw [nbT p q] at h2; cases h2).symm)
  · exact .ret rfl (.bool (tableF_not fun h => by have h2 := tableF_iff.1 h; omega).symm)
  · exact .ret rfl (.bool (tableF_not fun h => by have h2 := tableF_iff.1 h; omega).symm)
  · exact .ret rfl (.bool (tableF_not fun h => by have h2 := tableF_iff.1 h; omega).symm)
  rename_i c1 p1 q1 c2 p2 q2 c3 p3 q3 g1 g2 g3
  have k1 := nbF p1 q1
  have k2 := nbF p2 q2
  have k3 := nbF p3 q3
  have hin := colsF_in k3
  have hln : 1 ≤ (t.cols.length : Int) ∧ (t.cols.length : Int) ≤ 8 := by simpa [isIn] using k2
  clear p1 q1 p2 q2 p3 q3
  -- the columns
  refine Go.keep [1, 3, 4] (Go.loops (I := fun m fr τ => ∃ i : Nat, ∃ k : Int, m = t.cols.length - i ∧ i ≤ t.cols.length ∧ k = i ∧ colsDef [] t.cols = colsDef (t.cols.take i) (t.cols.drop i) ∧
    fr = [(1, .c (.fp (encTable t))), (3, .c (.int .i64 (t.cols.length : Int))), (4, .c (.int .i64 k))] ∧ τ = E σ []) ?_ _ _ _ ⟨0, _, rfl, Nat.zero_le _, rfl, rfl, rfl, rfl⟩)
  rintro m fr τ ⟨i, k, rfl, hi, hk, hsl, rfl, rfl⟩ hrec
  by_cases hlt : i < t.cols.length
  · have hd := List.drop_eq_getElem_cons hlt
    have hbc := b2.2 _ (List.getElem_mem hlt)
    have htk : (t.cols.map encCol).take i = (t.cols.take i).map encCol := List.map_take.symm
    have hstep : colsDef [] t.cols = (colOk t.cols[i] && !((t.cols.take i).any fun d => d.name == t.cols[i].name) && colsDef (t.cols.take (i + 1)) (t.cols.drop (i + 1))) := by
      rw [hsl, hd, colsDef, List.take_succ_eq_append_getElem hlt]
    have neg : (colOk t.cols[i] = false ∨ ((t.cols.take i).any fun d => d.name == t.cols[i].name) = true) → tableF t = false := fun h => tableF_not fun hh => by
      have h2 := (tableF_iff.1 hh).2.2.2.2.2.2.1
      rw [hstep] at h2
      rcases h with h | h <;> simp [h] at h2
    have hany := any_idx (p := fun d : Col => d.name == t.cols[i].name) (l := t.cols.take i)
    repeat' first|refine yaG ?_|((first|apply yG|apply yH|apply yI);exact rfl;(first|exact yX (enc := encCol) rfl rfl hk hlt rfl|exact aop_sliceF (n := i) rfl rfl hk (by simp;omega) (fun e he => by obtain ⟨c, _, rfl⟩ := List.mem_map.1 he;rfl)))|((first|apply Go.pcallB|apply Go.spcallB|apply Qg.pcallB);(iterate 3 exact rfl);exact l3Name_ok t.cols[i].name hbc.1;intro _ _)|(exfalso;omega)|(refine yaS ?_ ?_<;>intro _)
    · rename_i c p q
      exact .ret rfl (.bool (neg (.inl (by rw [colOk, nbT p q]; rfl))).symm)
    rename_i c p q
    have hnm := nbF p q
    rw [htk]
    repeat' first|refine yaG ?_|((first|apply Go.pcallB|apply Go.spcallB|apply Qg.pcallB);(iterate 3 exact rfl);(first|exact l1In_ok _ _ _|exact sValOk_ok _);intro _ _)|((first|apply Go.pcallI|apply Go.spcallI|apply Qg.pcallI);(iterate 3 exact rfl);exact ColAt_ok (.str []) .nils .nils .nils .nils (t.cols.take i) t.cols[i].name (by simp;omega);intro _ _)|(exfalso;omega)|(refine yaS ?_ ?_<;>intro _)
    all_goals clear p q
    all_goals try (refine .ret rfl (.bool (neg ?_).symm); clear hrec hsl hstep neg hin; simp_all [colOk, isOfF, isIn12]; done)
    all_goals have hok : (colOk t.cols[i] && !((t.cols.take i).any fun d => d.name == t.cols[i].name)) = true := (by clear hrec hsl hstep neg hin; simp_all [colOk, isOfF, isIn12])
    all_goals refine Go.keep [1, 3, 4] (hrec _ _ _ (by omega) ⟨i + 1, _, rfl, hlt, wrap_succ hk (by omega), ?_, rfl, rfl⟩)
    all_goals rw [hstep, hok, Bool.true_and]
  have hfin : colsDef [] t.cols = true := by
    rw [hsl, List.drop_eq_nil_of_le (by omega)]
    rfl
  clear hrec hsl
  repeat' first|refine yaG ?_|(exfalso;omega)|(refine yaS ?_ ?_<;>intro _)
  clear hlt hk hi
  -- the key
  refine Go.keep [1, 3, 6] (Go.loops (I := fun m fr τ => ∃ i : Nat, ∃ k : Int, m = t.key.length - i ∧ i ≤ t.key.length ∧ k = i ∧ (∀ j (hj : j < t.key.length), j < i → notNullAt t t.key[j] = true) ∧
    fr = [(1, .c (.fp (encTable t))), (3, .c (.int .i64 (t.cols.length : Int))), (6, .c (.int .i64 k))] ∧ τ = E σ []) ?_ _ _ _ ⟨0, _, rfl, Nat.zero_le _, rfl, fun j _ h => absurd h (by omega), rfl, rfl⟩)
  rintro m fr τ ⟨i, k, rfl, hi, hk, hall, rfl, rfl⟩ hrec
  by_cases hlt : i < t.key.length
  · have hc := hin _ (List.getElem_mem hlt)
    obtain ⟨n, hn⟩ : ∃ n : Nat, t.key[i] = n := ⟨t.key[i].toNat, by omega⟩
    have hn2 : n < t.cols.length := by omega
    have hnn : notNullAt t t.key[i] = t.cols[n].notNull := by simp [notNullAt, hn, hn2]
    repeat' first|refine yaG ?_|((first|apply yG|apply yH|apply yI);exact rfl;(first|exact yX (enc := encI) rfl rfl hk hlt rfl|exact yX (enc := encCol) rfl rfl hn hn2 rfl))|(exfalso;omega)|(refine yaS ?_ ?_<;>intro _)
    · rename_i h
      exact .ret rfl (.bool (tableF_not fun hh => by
        have h2 := (tableF_iff.1 hh).2.2.2.2.2.2.2.1
        rw [any_at hlt (by rw [hnn]; simpa using h)] at h2
        cases h2).symm)
    · rename_i h
      exact Go.keep [1, 3, 6] (hrec _ _ _ (by omega) ⟨i + 1, _, rfl, hlt, wrap_succ hk (by omega), upto hall hlt (by rw [hnn]; simpa using h), rfl, rfl⟩)
  have hkey := any_none (p := notNullAt t) (l := t.key) fun j hj => hall j hj (by omega)
  clear hrec hall
  repeat' first|refine yaG ?_|(exfalso;omega)|(refine yaS ?_ ?_<;>intro _)
  clear hlt hk hi
  -- the uniques
  refine Go.keep [1, 3, 7] (Go.loops (I := fun m fr τ => ∃ i : Nat, ∃ k : Int, m = t.uniques.length - i ∧ i ≤ t.uniques.length ∧ k = i ∧ (∀ j (hj : j < t.uniques.length), j < i → colsF t.uniques[j].cols t.cols.length = true) ∧
    fr = [(1, .c (.fp (encTable t))), (3, .c (.int .i64 (t.cols.length : Int))), (7, .c (.int .i64 k))] ∧ τ = E σ []) ?_ _ _ _ ⟨0, _, rfl, Nat.zero_le _, rfl, fun j _ h => absurd h (by omega), rfl, rfl⟩)
  rintro m fr τ ⟨i, k, rfl, hi, hk, hall, rfl, rfl⟩ hrec
  by_cases hlt : i < t.uniques.length
  · repeat' first|refine yaG ?_|((first|apply yG|apply yH|apply yI);exact rfl;(first|exact yX (enc := encUniq) rfl rfl hk hlt rfl))|((first|apply Go.pcallB|apply Go.spcallB|apply Qg.pcallB);(iterate 3 exact rfl);exact l3Cols_ok t.uniques[i].cols t.cols.length (b4.2 _ (List.getElem_mem hlt)) (by omega) (by omega);intro _ _)|(exfalso;omega)|(refine yaS ?_ ?_<;>intro _)
    · rename_i c p q
      exact .ret rfl (.bool (tableF_not fun hh => by
        have h2 := (tableF_iff.1 hh).2.2.2.2.2.2.2.2.1
        rw [any_at (p := fun u : Uniq => colsF u.cols t.cols.length) hlt (nbT p q)] at h2
        cases h2).symm)
    · rename_i c p q
      exact Go.keep [1, 3, 7] (hrec _ _ _ (by omega) ⟨i + 1, _, rfl, hlt, wrap_succ hk (by omega), upto (p := fun u : Uniq => colsF u.cols t.cols.length) hall hlt (nbF p q), rfl, rfl⟩)
  have huni := any_none (p := fun u : Uniq => colsF u.cols t.cols.length) (l := t.uniques) fun j hj => hall j hj (by omega)
  clear hrec hall
  repeat' first|refine yaG ?_|(exfalso;omega)|(refine yaS ?_ ?_<;>intro _)
  clear hlt hk hi
  -- the checks
  refine Go.keep [1, 3, 8] (Go.loops (I := fun m fr τ => ∃ i : Nat, ∃ k : Int, m = t.checks.length - i ∧ i ≤ t.checks.length ∧ k = i ∧ (∀ j (hj : j < t.checks.length), j < i → exprF t.checks[j].expr t.cols.length = true) ∧
    fr = [(1, .c (.fp (encTable t))), (3, .c (.int .i64 (t.cols.length : Int))), (8, .c (.int .i64 k))] ∧ τ = E σ []) ?_ _ _ _ ⟨0, _, rfl, Nat.zero_le _, rfl, fun j _ h => absurd h (by omega), rfl, rfl⟩)
  rintro m fr τ ⟨i, k, rfl, hi, hk, hall, rfl, rfl⟩ hrec
  by_cases hlt : i < t.checks.length
  · have hx := l2Expr_ok t.checks[i].expr t.cols.length (b5.2 _ (List.getElem_mem hlt)).1 (by omega) (by omega)
    rw [show (decide ((t.checks[i].expr.length : Int) ≤ 24) && exprAux t.cols.length 0 t.checks[i].expr) = exprF t.checks[i].expr t.cols.length from rfl] at hx
    repeat' first|refine yaG ?_|((first|apply yG|apply yH|apply yI);exact rfl;(first|exact yX (enc := encChk) rfl rfl hk hlt rfl))|((first|apply Go.pcallB|apply Go.spcallB|apply Qg.pcallB);(iterate 3 exact rfl);exact hx;intro _ _)|(exfalso;omega)|(refine yaS ?_ ?_<;>intro _)
    · rename_i c p q
      exact .ret rfl (.bool (tableF_not fun hh => by
        have h2 := (tableF_iff.1 hh).2.2.2.2.2.2.2.2.2.1
        rw [any_at (p := fun u : Chk => exprF u.expr t.cols.length) hlt (nbT p q)] at h2
        cases h2).symm)
    · rename_i c p q
      exact Go.keep [1, 3, 8] (hrec _ _ _ (by omega) ⟨i + 1, _, rfl, hlt, wrap_succ hk (by omega), upto (p := fun u : Chk => exprF u.expr t.cols.length) hall hlt (nbF p q), rfl, rfl⟩)
  have hchk := any_none (p := fun u : Chk => exprF u.expr t.cols.length) (l := t.checks) fun j hj => hall j hj (by omega)
  clear hrec hall
  repeat' first|refine yaG ?_|(exfalso;omega)|(refine yaS ?_ ?_<;>intro _)
  clear hlt hk hi
  -- the references
  refine Go.keep [1, 3, 9] (Go.loops (I := fun m fr τ => ∃ i : Nat, ∃ k : Int, m = t.fks.length - i ∧ i ≤ t.fks.length ∧ k = i ∧ (∀ j (hj : j < t.fks.length), j < i → isFkF t.fks[j] t.cols.length = true) ∧
    fr = [(1, .c (.fp (encTable t))), (3, .c (.int .i64 (t.cols.length : Int))), (9, .c (.int .i64 k))] ∧ τ = E σ []) ?_ _ _ _ ⟨0, _, rfl, Nat.zero_le _, rfl, fun j _ h => absurd h (by omega), rfl, rfl⟩)
  rintro m fr τ ⟨i, k, rfl, hi, hk, hall, rfl, rfl⟩ hrec
  by_cases hlt : i < t.fks.length
  · have hbf := b6.2 _ (List.getElem_mem hlt)
    have neg : isFkF t.fks[i] t.cols.length = false → tableF t = false := fun h => tableF_not fun hh => by
      have h2 := (tableF_iff.1 hh).2.2.2.2.2.2.2.2.2.2
      rw [any_at (p := fun u : Fk => isFkF u t.cols.length) hlt h] at h2
      cases h2
    repeat' first|refine yaG ?_|((first|apply yG|apply yH|apply yI);exact rfl;(first|exact yX (enc := encFk) rfl rfl hk hlt rfl))|((first|apply Go.pcallB|apply Go.spcallB|apply Qg.pcallB);(iterate 3 exact rfl);(first|exact l3Cols_ok t.fks[i].cols t.cols.length hbf.1 (by omega) (by omega)|exact l3Name_ok t.fks[i].table hbf.2|exact l1In_ok _ _ _);intro _ _)|(exfalso;omega)|(refine yaS ?_ ?_<;>intro _)
    all_goals try (refine .ret rfl (.bool (neg ?_).symm); clear hrec neg hin hall hkey huni hchk; simp_all [isFkF]; done)
    have hok : isFkF t.fks[i] t.cols.length = true := by
      clear hrec neg hin hall hkey huni hchk
      simp_all [isFkF]
    exact Go.keep [1, 3, 9] (hrec _ _ _ (by omega) ⟨i + 1, _, rfl, hlt, wrap_succ hk (by omega), upto (p := fun u : Fk => isFkF u t.cols.length) hall hlt hok, rfl, rfl⟩)
  have hfk := any_none (p := fun u : Fk => isFkF u t.cols.length) (l := t.fks) fun j hj => hall j hj (by omega)
  clear hrec hall
  repeat' first|refine yaG ?_|(exfalso;omega)|(refine yaS ?_ ?_<;>intro _)
  refine .ret rfl (.bool ?_)
  rw [eq_comm, tableF_iff]
  exact ⟨k1, k2, k3, by omega, by omega, by omega, hfin, hkey, huni, hchk, hfk⟩
end Go.Proofs.YtinbdedlmkjokaaGreat.Am

/- Schemas, as the program sees them. -/
set_option linter.unusedVariables false
set_option linter.unusedSimpArgs false
namespace Go.Proofs.YtinbdedlmkjokaaGreat.Am

theorem idxA_at {α : Type} {p : α → Bool} : ∀ {l : List α} {i : Int}, 0 ≤ i → idxA p l i = -1 ∨ ∃ n : Nat, ∃ h : n < l.length, idxA p l i = i + n ∧ p l[n] = true
  | [], i, h => .inl rfl
  | a :: r, i, h => by
    simp only [idxA]
    split
    · exact .inr ⟨0, by simp, by simp, by assumption⟩
    · rcases idxA_at (p := p) (l := r) (i := i + 1) (by omega) with h1 | ⟨n, hn, h1, h2⟩
      · exact .inl h1
      · exact .inr ⟨n + 1, by simpa using hn, by omega, by simpa using h2⟩
theorem TableAt1_ok (t : Table) (s : List UInt8) : Pure Tryz.prog 99 [.agg (encTable t), .c (.fp [.str s])] (.c (.bool (t.name == s))) := by
  refine Pure.run mixed c_impl_TableAt_1_ok (Nat.le_of_ble_eq_true rfl) fun σ hS hA => ?_
  clear hS hA
  repeat' first|refine yaG ?_|(exfalso;omega)|(refine yaS ?_ ?_<;>intro _)
  all_goals refine .ret rfl (.bool ?_)
  all_goals simp_all
theorem TableAt_ok (l : List Table) (s : List UInt8) (hx : l.length ≤ 34359738368) : Pure Tryz.prog 29 [.c (.fz (l.map encTable)), .c (.str s)] (.c (.int .i64 (idxA (fun t => t.name == s) l 0))) := by
  refine Pure.run mixed c_impl_TableAt_ok (Nat.le_of_ble_eq_true rfl) fun σ hS hA => ?_
  clear hS hA
  repeat' first|refine yaG ?_|((first|apply yQ|apply yR|apply yS);(iterate 3 exact rfl);exact indexFuncA_ok mixed c_slices_IndexFunc_Table_ok encTable (fun t => .agg (encTable t)) (fun _ => rfl) (fun _ => rfl) l (fun t => t.name == s) _ [] [.fp [.str s]] hx (fun j hj _ => TableAt1_ok _ _))|(exfalso;omega)|(refine yaS ?_ ?_<;>intro _)
  exact .ret rfl (.int rfl)
def kindAt (t : Table) (c : Int) : Int := match t.cols[c.toNat]? with | some x => x.kind | none => 0
def kindsEq (u t : Table) : List Int → List Int → Bool
  | a :: r, c :: q => kindAt u a == kindAt t c && kindsEq u t r q
  | _, _ => true
def metAt (u t : Table) (f : Fk) : Bool := decide (u.key.length = f.cols.length) && kindsEq u t u.key f.cols
def metF (s : List Table) (t : Table) (f : Fk) : Bool := s.any (fun u => u.name == f.table) && (match s[(idxA (fun u => u.name == f.table) s 0).toNat]? with | some u => metAt u t f | none => false)
theorem kindAt_at {t : Table} {c : Int} {n : Nat} (h : c = n) (hn : n < t.cols.length) : kindAt t c = t.cols[n].kind := by
  simp [kindAt, h, hn]
theorem metF_no {s : List Table} {t : Table} {f : Fk} (h : idxA (fun u => u.name == f.table) s 0 = -1) : metF s t f = false := by
  have := any_idx (p := fun u : Table => u.name == f.table) (l := s)
  rw [h] at this
  rw [metF, ← this]
  rfl
theorem metF_yes {s : List Table} {t : Table} {f : Fk} {n : Nat} (h : idxA (fun u => u.name == f.table) s 0 = n) (hn : n < s.length) : metF s t f = metAt s[n] t f := by
  have := any_idx (p := fun u : Table => u.name == f.table) (l := s)
  rw [h] at this
  rw [metF, ← this, h, decide_eq_true (by omega)]
  simp [hn]
theorem isMet_ok (s : List Table) (t : Table) (f : Fk) (hx : s.length ≤ 34359738368) (hs : ∀ u ∈ s, u.key.length ≤ 34359738368 ∧ ∀ c ∈ u.key, 0 ≤ c ∧ c < u.cols.length) (hf0 : f.cols.length ≤ 34359738368) (hf : ∀ c ∈ f.cols, 0 ≤ c ∧ c < t.cols.length) : Pure Tryz.prog 200 [.c (.fz (s.map encTable)), .agg (encTable t), .agg (encFk f)] (.c (.bool (metF s t f))) := by
  refine Pure.run mixed c_impl_isMet_ok (Nat.le_of_ble_eq_true rfl) fun σ hS hA => ?_
  clear hS hA
  repeat' first|refine yaG ?_|fail
  refine .pcall rfl rfl rfl (TableAt_ok s f.table hx) ?_
  rcases idxA_at (p := fun u : Table => u.name == f.table) (l := s) (i := 0) (Int.le_refl _) with hq | ⟨n, hn, hq, hp⟩
  · have hm := metF_no (t := t) hq
    rw [hq]
    repeat' first|refine yaG ?_|(exfalso;omega)|(refine yaS ?_ ?_<;>intro _)
    exact .ret rfl (.bool hm.symm)
  rw [Int.zero_add] at hq
  have hm := metF_yes (t := t) hq hn
  have hsn := hs _ (List.getElem_mem hn)
  rw [hq]
  have hnz : ¬ ((n : Int) < 0) := by omega
  repeat' first|refine yaG ?_|((first|apply yG|apply yH|apply yI);exact rfl;(first|exact yX (enc := encTable) rfl rfl rfl hn rfl))|(exfalso;omega)|(refine yaS ?_ ?_<;>intro _)
  · refine .ret rfl (.bool ?_)
    rename_i h
    rw [hm, metAt, decide_eq_false (by omega)]
    rfl
  rename_i hlen
  refine Go.keep [0, 4, 7, 29, 30, 31] (Go.loops (I := fun m fr τ => ∃ i : Nat, ∃ k : Int, m = f.cols.length - i ∧ i ≤ f.cols.length ∧ k = i ∧ kindsEq s[n] t s[n].key f.cols = kindsEq s[n] t (s[n].key.drop i) (f.cols.drop i) ∧
    fr = [(0, .c (.fz (s.map encTable))), (4, .c (.fp (encTable t))), (7, .c (.int .i64 (n : Int))), (29, .c (.fz (f.cols.map encI))), (30, .c (.int .i64 (f.cols.length : Int))), (31, .c (.int .i64 k))] ∧ τ = E σ []) ?_ _ _ _ ⟨0, _, rfl, Nat.zero_le _, rfl, rfl, rfl, rfl⟩)
  rintro m fr τ ⟨i, k, rfl, hi, hk, hsl, rfl, rfl⟩ hrec
  by_cases hlt : i < f.cols.length
  · have hlt2 : i < s[n].key.length := by omega
    have h1 := hsn.2 _ (List.getElem_mem hlt2)
    have h2 := hf _ (List.getElem_mem hlt)
    obtain ⟨a, ha⟩ : ∃ a : Nat, s[n].key[i] = a := ⟨s[n].key[i].toNat, by omega⟩
    obtain ⟨c, hc⟩ : ∃ c : Nat, f.cols[i] = c := ⟨f.cols[i].toNat, by omega⟩
    have ha2 : a < s[n].cols.length := by omega
    have hc2 : c < t.cols.length := by omega
    have e1 := kindAt_at ha ha2
    have e2 := kindAt_at hc hc2
    have hstep : kindsEq s[n] t s[n].key f.cols = (s[n].cols[a].kind == t.cols[c].kind && kindsEq s[n] t (s[n].key.drop (i + 1)) (f.cols.drop (i + 1))) := by
      rw [hsl, List.drop_eq_getElem_cons hlt, List.drop_eq_getElem_cons hlt2, kindsEq, e1, e2]
    repeat' first|refine yaG ?_|((first|apply yG|apply yH|apply yI);exact rfl;(first|exact yX (enc := encI) rfl rfl hk hlt rfl|exact yX (enc := encTable) rfl rfl rfl hn rfl|exact yX (enc := encI) rfl rfl hk hlt2 rfl|exact yX (enc := encCol) rfl rfl ha ha2 rfl|exact yX (enc := encCol) rfl rfl hc hc2 rfl))|(exfalso;omega)|(refine yaS ?_ ?_<;>intro _)
    · refine .ret rfl (.bool ?_)
      rename_i h
      rw [hm, metAt, hstep, beq_eq_false_iff_ne.2 h]
      simp
    · rename_i h
      refine Go.keep [0, 4, 7, 29, 30, 31] (hrec _ _ _ (by omega) ⟨i + 1, _, rfl, hlt, wrap_succ hk (by omega), ?_, rfl, rfl⟩)
      rw [hstep, h]
      simp
  · repeat' first|refine yaG ?_|(exfalso;omega)|(refine yaS ?_ ?_<;>intro _)
    refine .ret rfl (.bool ?_)
    rw [hm, metAt, hsl, List.drop_eq_nil_of_le (by omega), decide_eq_true (by omega)]
    cases s[n].key.drop i <;> rfl
def namesAux : List Table → List Table → Bool
  | _, [] => true
  | pre, t :: r => tableF t && !(pre.any fun u => u.name == t.name) && namesAux (pre ++ [t]) r
def schemaF (s : List Table) : Bool := decide ((s.length : Int) ≤ 5) && (namesAux [] s && !(s.any fun t => t.fks.any fun f => !metF s t f))
theorem namesAux_ok : ∀ {l pre : List Table}, namesAux pre l = true → ∀ t ∈ l, tableF t = true
  | [], _, _, t, h => by simp at h
  | a :: r, pre, h, t, ht => by
    simp only [namesAux, Bool.and_eq_true] at h
    rcases List.mem_cons.1 ht with rfl | ht
    · exact h.1.1
    · exact namesAux_ok h.2 t ht
theorem tableF_key {t : Table} (h : tableF t = true) : ∀ c ∈ t.key, 0 ≤ c ∧ c < t.cols.length := colsF_in (tableF_iff.1 h).2.2.1
theorem tableF_fk {t : Table} (h : tableF t = true) {f : Fk} (hf : f ∈ t.fks) : ∀ c ∈ f.cols, 0 ≤ c ∧ c < t.cols.length := by
  have h1 := (tableF_iff.1 h).2.2.2.2.2.2.2.2.2.2
  rw [List.any_eq_false] at h1
  have := h1 f hf
  simp only [Bool.not_eq_true', Bool.not_eq_false, isFkF, Bool.and_eq_true] at this
  exact colsF_in this.1
theorem SchemaOk11_ok (s : List Table) (t : Table) (f : Fk) (hx : s.length ≤ 34359738368) (hs : ∀ u ∈ s, u.key.length ≤ 34359738368 ∧ ∀ c ∈ u.key, 0 ≤ c ∧ c < u.cols.length) (hf0 : f.cols.length ≤ 34359738368) (hf : ∀ c ∈ f.cols, 0 ≤ c ∧ c < t.cols.length) : Pure Tryz.prog 199 [.agg (encFk f), .c (.fp [.fz (s.map encTable)]), .c (.fp (encTable t))] (.c (.bool (!metF s t f))) := by
  refine Pure.run mixed c_impl_SchemaOk_1_1_ok (Nat.le_of_ble_eq_true rfl) fun σ hS hA => ?_
  clear hS hA
  repeat' first|refine yaG ?_|refine yaC (isMet_ok s t f hx hs hf0 hf) ?_|(exfalso;omega)|(refine yaS ?_ ?_<;>intro _)
  exact .ret rfl (.bool rfl)
theorem SchemaOk1_ok (s : List Table) (t : Table) (hx : s.length ≤ 34359738368) (hs : ∀ u ∈ s, u.key.length ≤ 34359738368 ∧ ∀ c ∈ u.key, 0 ≤ c ∧ c < u.cols.length) (hb : bTable 34359738368 t) (hf : ∀ f ∈ t.fks, ∀ c ∈ f.cols, 0 ≤ c ∧ c < t.cols.length) : Pure Tryz.prog 197 [.agg (encTable t), .c (.fp [.fz (s.map encTable)])] (.c (.bool (t.fks.any fun f => !metF s t f))) := by
  refine Pure.run mixed c_impl_SchemaOk_1_ok (Nat.le_of_ble_eq_true rfl) fun σ hS hA => ?_
  clear hS hA
  have b6 := hb.2.2.2.2.2
  repeat' first|refine yaG ?_|((first|apply yQ|apply yR|apply yS);(iterate 3 exact rfl);exact containsFuncA_ok mixed c_slices_ContainsFunc_Fk_ok c_slices_IndexFunc_Fk_ok encFk (fun u => .agg (encFk u)) (fun _ => rfl) (fun _ => rfl) t.fks (fun f => !metF s t f) _ [] [.fp [.fz (s.map encTable)], .fp (encTable t)] b6.1 (fun j hj _ => SchemaOk11_ok s t _ hx hs (b6.2 _ (List.getElem_mem hj)).1 (hf _ (List.getElem_mem hj))))|(exfalso;omega)|(refine yaS ?_ ?_<;>intro _)
  exact .ret rfl (.bool rfl)
theorem encTable_len {l : List Table} : ∀ e ∈ l.map encTable, e.length = 6 := fun e he => by
  obtain ⟨t, _, rfl⟩ := List.mem_map.1 he
  rfl
theorem SchemaOk_ok (s : List Table) (hx : s.length ≤ 34359738368) (hb : ∀ t ∈ s, bTable 34359738368 t) : Pure Tryz.prog 118 [.c (.fz (s.map encTable))] (.c (.bool (schemaF s))) := by
  refine Pure.run mixed c_impl_SchemaOk_ok (Nat.le_of_ble_eq_true rfl) fun σ hS hA => ?_
  clear hS hA
  repeat' first|refine yaG ?_|(exfalso;omega)|(refine yaS ?_ ?_<;>intro _)
  · refine .ret rfl (.bool ?_)
    rw [schemaF, decide_eq_false (by omega)]
    rfl
  rename_i h5
  refine Go.keep [1, 8, 9, 10] (Go.loops (I := fun m fr τ => ∃ i : Nat, ∃ k : Int, m = s.length - i ∧ i ≤ s.length ∧ k = i ∧ namesAux [] s = namesAux (s.take i) (s.drop i) ∧
    fr = [(1, .c (.fp [.fz (s.map encTable)])), (8, .c (.fz (s.map encTable))), (9, .c (.int .i64 (s.length : Int))), (10, .c (.int .i64 k))] ∧ τ = E σ []) ?_ _ _ _ ⟨0, _, rfl, Nat.zero_le _, rfl, rfl, rfl, rfl⟩)
  rintro m fr τ ⟨i, k, rfl, hi, hk, hsl, rfl, rfl⟩ hrec
  by_cases hlt : i < s.length
  · have hd := List.drop_eq_getElem_cons hlt
    have htk : (s.map encTable).take i = (s.take i).map encTable := List.map_take.symm
    have hstep : namesAux [] s = (tableF s[i] && !((s.take i).any fun d => d.name == s[i].name) && namesAux (s.take (i + 1)) (s.drop (i + 1))) := by
      rw [hsl, hd, namesAux, List.take_succ_eq_append_getElem hlt]
    have neg : (tableF s[i] = false ∨ ((s.take i).any fun d => d.name == s[i].name) = true) → schemaF s = false := by
      rintro (h | h)
      · rw [schemaF, hstep, h]; simp
      · rw [schemaF, hstep, h]; simp
    have hany := any_idx (p := fun d : Table => d.name == s[i].name) (l := s.take i)
    repeat' first|refine yaG ?_|((first|apply yG|apply yH|apply yI);exact rfl;(first|exact yX (enc := encTable) rfl rfl hk hlt rfl|exact aop_sliceF (n := i) rfl rfl hk (by simp;omega) encTable_len))|((first|apply Go.pcallB|apply Go.spcallB|apply Qg.pcallB);(iterate 3 exact rfl);exact TableOk_ok s[i] (hb _ (List.getElem_mem hlt));intro _ _)|(exfalso;omega)|(refine yaS ?_ ?_<;>intro _)
    · rename_i c p q
      exact .ret rfl (.bool (neg (.inl (nbT p q))).symm)
    rename_i c p q
    rw [htk]
    repeat' first|refine yaG ?_|((first|apply Go.pcallI|apply Go.spcallI|apply Qg.pcallI);(iterate 3 exact rfl);exact TableAt_ok (s.take i) s[i].name (by simp;omega);intro _ _)|(exfalso;omega)|(refine yaS ?_ ?_<;>intro _)
    · rename_i z hz hz2
      refine .ret rfl (.bool (neg (.inr ?_)).symm)
      rw [← hany, hz]
      simpa using hz2
    · rename_i z hz hz2
      refine Go.keep [1, 8, 9, 10] (hrec _ _ _ (by omega) ⟨i + 1, _, rfl, hlt, wrap_succ hk (by omega), ?_, rfl, rfl⟩)
      rw [hstep, nbF p q, ← hany, hz, decide_eq_false (by omega)]
      rfl
  have hfin : namesAux [] s = true := by
    rw [hsl, List.drop_eq_nil_of_le (by omega)]
    rfl
  have hok := namesAux_ok hfin
  clear hrec hsl
  repeat' first|refine yaG ?_|((first|apply yQ|apply yR|apply yS);(iterate 3 exact rfl);exact containsFuncA_ok mixed c_slices_ContainsFunc_Table_ok c_slices_IndexFunc_Table_ok encTable (fun u => .agg (encTable u)) (fun _ => rfl) (fun _ => rfl) s (fun t => t.fks.any fun f => !metF s t f) _ [] [.fp [.fz (s.map encTable)]] hx (fun j hj _ => SchemaOk1_ok s _ hx (fun u hu => ⟨(hb u hu).2.2.1, tableF_key (hok u hu)⟩) (hb _ (List.getElem_mem hj)) (fun f hf => tableF_fk (hok _ (List.getElem_mem hj)) hf)))|(exfalso;omega)|(refine yaS ?_ ?_<;>intro _)
  refine .ret rfl (.bool ?_)
  rw [schemaF, hfin, decide_eq_true (by omega)]
  rfl
end Go.Proofs.YtinbdedlmkjokaaGreat.Am

/- Schemas, as the reference sees them. -/
set_option linter.unusedVariables false
set_option linter.unusedSimpArgs false
namespace Go.Proofs.YtinbdedlmkjokaaGreat.Am

theorem schemaF_not {s : List Table} (h : schemaF s = true → False) : schemaF s = false := by
  cases c : schemaF s
  · rfl
  · exact (h c).elim
theorem schemaF_iff {s : List Table} : schemaF s = true ↔ (s.length : Int) ≤ 5 ∧ namesAux [] s = true ∧ (s.any fun t => t.fks.any fun f => !metF s t f) = false := by
  simp only [schemaF, Bool.and_eq_true, decide_eq_true_eq, Bool.not_eq_true']
theorem sSchemaOk_ok (s : List Table) (hx : s.length ≤ 34359738368) (hb : ∀ t ∈ s, bTable 34359738368 t) : Pure Tryz.prog 92 [.c (.fz (s.map encTable))] (.c (.bool (schemaF s))) := by
  refine Pure.run mixed c_spec_SchemaOk_ok (Nat.le_of_ble_eq_true rfl) fun σ hS hA => ?_
  clear hS hA
  repeat' first|refine yaG ?_|(exfalso;omega)|(refine yaS ?_ ?_<;>intro _)
  refine Go.keep [0, 3] (Go.loops (I := fun m fr τ => ∃ i : Nat, ∃ k : Int, m = s.length - i ∧ i ≤ s.length ∧ k = i ∧ namesAux [] s = namesAux (s.take i) (s.drop i) ∧
    fr = [(0, .c (.fz (s.map encTable))), (3, .c (.int .i64 k))] ∧ τ = E σ []) ?_ _ _ _ ⟨0, _, rfl, Nat.zero_le _, rfl, rfl, rfl, rfl⟩)
  rintro m fr τ ⟨i, k, rfl, hi, hk, hsl, rfl, rfl⟩ hrec
  by_cases hlt : i < s.length
  · have hd := List.drop_eq_getElem_cons hlt
    have htk : (s.map encTable).take i = (s.take i).map encTable := List.map_take.symm
    have hstep : namesAux [] s = (tableF s[i] && !((s.take i).any fun d => d.name == s[i].name) && namesAux (s.take (i + 1)) (s.drop (i + 1))) := by
      rw [hsl, hd, namesAux, List.take_succ_eq_append_getElem hlt]
    have neg : (tableF s[i] = false ∨ ((s.take i).any fun d => d.name == s[i].name) = true) → schemaF s = false := by
      rintro (h | h)
      · rw [schemaF, hstep, h]; simp
      · rw [schemaF, hstep, h]; simp
    have hany := any_idx (p := fun d : Table => d.name == s[i].name) (l := s.take i)
    repeat' first|refine yaG ?_|((first|apply yG|apply yH|apply yI);exact rfl;(first|exact yX (enc := encTable) rfl rfl hk hlt rfl|exact aop_sliceF (n := i) rfl rfl hk (by simp;omega) encTable_len))|((first|apply Go.pcallB|apply Go.spcallB|apply Qg.pcallB);(iterate 3 exact rfl);exact sTableOk_ok s[i] (hb _ (List.getElem_mem hlt));intro _ _)|(exfalso;omega)|(refine yaS ?_ ?_<;>intro _)
    · rename_i c p q
      exact .ret rfl (.bool (neg (.inl (nbT p q))).symm)
    rename_i c p q
    rw [htk]
    repeat' first|refine yaG ?_|((first|apply Go.pcallI|apply Go.spcallI|apply Qg.pcallI);(iterate 3 exact rfl);exact l3At_ok (s.take i) s[i].name (by simp;omega);intro _ _)|(exfalso;omega)|(refine yaS ?_ ?_<;>intro _)
    · rename_i z hz hz2
      refine .ret rfl (.bool (neg (.inr ?_)).symm)
      rw [← hany, hz]
      simpa using hz2
    · rename_i z hz hz2
      refine Go.keep [0, 3] (hrec _ _ _ (by omega) ⟨i + 1, _, rfl, hlt, wrap_succ hk (by omega), ?_, rfl, rfl⟩)
      rw [hstep, nbF p q, ← hany, hz, decide_eq_false (by omega)]
      rfl
  have hfin : namesAux [] s = true := by
    rw [hsl, List.drop_eq_nil_of_le (by omega)]
    rfl
  have hok := namesAux_ok hfin
  clear hrec hsl
  repeat' first|refine yaG ?_|(exfalso;omega)|(refine yaS ?_ ?_<;>intro _)
  clear hlt hk hi
  -- the references
  refine Go.keep [0, 4] (Go.loops (I := fun m fr τ => ∃ i : Nat, ∃ k : Int, m = s.length - i ∧ i ≤ s.length ∧ k = i ∧ (∀ j (hj : j < s.length), j < i → (!(s[j].fks.any fun f => !metF s s[j] f)) = true) ∧
    fr = [(0, .c (.fz (s.map encTable))), (4, .c (.int .i64 k))] ∧ τ = E σ []) ?_ _ _ _ ⟨0, _, rfl, Nat.zero_le _, rfl, fun j _ h => absurd h (by omega), rfl, rfl⟩)
  rintro m fr τ ⟨i, k, rfl, hi, hk, hall, rfl, rfl⟩ hrec
  by_cases hlt : i < s.length
  · have hmem := List.getElem_mem hlt
    have hti := hok _ hmem
    have b6 := (hb _ hmem).2.2.2.2.2
    repeat' first|refine yaG ?_|(exfalso;omega)|(refine yaS ?_ ?_<;>intro _)
    refine Go.keep [0, 4, 5] (Go.loops (I := fun m fr τ => ∃ i2 : Nat, ∃ k2 : Int, m = s[i].fks.length - i2 ∧ i2 ≤ s[i].fks.length ∧ k2 = i2 ∧ (∀ j (hj : j < s[i].fks.length), j < i2 → metF s s[i] s[i].fks[j] = true) ∧
      fr = [(0, .c (.fz (s.map encTable))), (4, .c (.int .i64 k)), (5, .c (.int .i64 k2))] ∧ τ = E σ []) ?_ _ _ _ ⟨0, _, rfl, Nat.zero_le _, rfl, fun j _ h => absurd h (by omega), rfl, rfl⟩)
    rintro m fr τ ⟨i2, k2, rfl, hi2, hk2, hall2, rfl, rfl⟩ hrec2
    by_cases hlt2 : i2 < s[i].fks.length
    · have hfm := List.getElem_mem hlt2
      have hf := tableF_fk hti hfm
      have hf0 := (b6.2 _ hfm).1
      have neg : metF s s[i] s[i].fks[i2] = false → schemaF s = false := fun h => schemaF_not fun hh => by
        have h2 := (schemaF_iff.1 hh).2.2
        rw [List.any_eq_false] at h2
        exact h2 _ hmem (List.any_eq_true.2 ⟨_, hfm, by rw [h]; rfl⟩)
      repeat' first|refine yaG ?_|((first|apply yG|apply yH|apply yI);exact rfl;(first|exact yX (enc := encTable) rfl rfl hk hlt rfl|exact yX (enc := encFk) rfl rfl hk2 hlt2 rfl))|(exfalso;omega)|(refine yaS ?_ ?_<;>intro _)
      refine .pcall rfl rfl rfl (l3At_ok s s[i].fks[i2].table hx) ?_
      rcases idxA_at (p := fun u : Table => u.name == s[i].fks[i2].table) (l := s) (i := 0) (Int.le_refl _) with hq | ⟨n, hn, hq, hp⟩
      · have hm := metF_no (t := s[i]) hq
        rw [hq]
        repeat' first|refine yaG ?_|(exfalso;omega)|(refine yaS ?_ ?_<;>intro _)
        exact .ret rfl (.bool (neg hm).symm)
      rw [Int.zero_add] at hq
      have hm := metF_yes (t := s[i]) hq hn
      have hsk := tableF_key (hok _ (List.getElem_mem hn))
      rw [hq]
      have hnz : ¬ ((n : Int) < 0) := by omega
      repeat' first|refine yaG ?_|((first|apply yG|apply yH|apply yI);exact rfl;(first|exact yX (enc := encTable) rfl rfl rfl hn rfl))|(exfalso;omega)|(refine yaS ?_ ?_<;>intro _)
      · rename_i h
        refine .ret rfl (.bool (neg ?_).symm)
        rw [hm, metAt, decide_eq_false (by omega)]
        rfl
      rename_i hlen
      refine Go.keep [0, 4, 5, 6, 7, 8] (Go.loops (I := fun m fr τ => ∃ i3 : Nat, ∃ k3 : Int, m = s[i].fks[i2].cols.length - i3 ∧ i3 ≤ s[i].fks[i2].cols.length ∧ k3 = i3 ∧ kindsEq s[n] s[i] s[n].key s[i].fks[i2].cols = kindsEq s[n] s[i] (s[n].key.drop i3) (s[i].fks[i2].cols.drop i3) ∧
        fr = [(0, .c (.fz (s.map encTable))), (4, .c (.int .i64 k)), (5, .c (.int .i64 k2)), (6, .c (.fp (encFk s[i].fks[i2]))), (7, .c (.int .i64 (n : Int))), (8, .c (.int .i64 k3))] ∧ τ = E σ []) ?_ _ _ _ ⟨0, _, rfl, Nat.zero_le _, rfl, rfl, rfl, rfl⟩)
      rintro m fr τ ⟨i3, k3, rfl, hi3, hk3, hsl, rfl, rfl⟩ hrec3
      by_cases hlt3 : i3 < s[i].fks[i2].cols.length
      · have hlt4 : i3 < s[n].key.length := by omega
        have h1 := hsk _ (List.getElem_mem hlt4)
        have h2 := hf _ (List.getElem_mem hlt3)
        obtain ⟨a, ha⟩ : ∃ a : Nat, s[n].key[i3] = a := ⟨s[n].key[i3].toNat, by omega⟩
        obtain ⟨c, hc⟩ : ∃ c : Nat, s[i].fks[i2].cols[i3] = c := ⟨s[i].fks[i2].cols[i3].toNat, by omega⟩
        have ha2 : a < s[n].cols.length := by omega
        have hc2 : c < s[i].cols.length := by omega
        have e1 := kindAt_at ha ha2
        have e2 := kindAt_at hc hc2
        have hstep : kindsEq s[n] s[i] s[n].key s[i].fks[i2].cols = (s[n].cols[a].kind == s[i].cols[c].kind && kindsEq s[n] s[i] (s[n].key.drop (i3 + 1)) (s[i].fks[i2].cols.drop (i3 + 1))) := by
          rw [hsl, List.drop_eq_getElem_cons hlt3, List.drop_eq_getElem_cons hlt4, kindsEq, e1, e2]
        repeat' first|refine yaG ?_|((first|apply yG|apply yH|apply yI);exact rfl;(first|exact yX (enc := encTable) rfl rfl hk hlt rfl|exact yX (enc := encI) rfl rfl hk3 hlt3 rfl|exact yX (enc := encTable) rfl rfl rfl hn rfl|exact yX (enc := encI) rfl rfl hk3 hlt4 rfl|exact yX (enc := encCol) rfl rfl ha ha2 rfl|exact yX (enc := encCol) rfl rfl hc hc2 rfl))|(exfalso;omega)|(refine yaS ?_ ?_<;>intro _)
        · rename_i h
          refine .ret rfl (.bool (neg ?_).symm)
          rw [hm, metAt, hstep, beq_eq_false_iff_ne.2 fun e => h e.symm]
          simp
        · rename_i h
          refine Go.keep [0, 4, 5, 6, 7, 8] (hrec3 _ _ _ (by omega) ⟨i3 + 1, _, rfl, hlt3, wrap_succ hk3 (by omega), ?_, rfl, rfl⟩)
          rw [hstep, h]
          simp
      · have hmt : metF s s[i] s[i].fks[i2] = true := by
          rw [hm, metAt, hsl, List.drop_eq_nil_of_le (by omega), decide_eq_true (by omega)]
          cases s[n].key.drop i3 <;> rfl
        clear hrec3
        repeat' first|refine yaG ?_|(exfalso;omega)|(refine yaS ?_ ?_<;>intro _)
        exact Go.keep [0, 4, 5] (hrec2 _ _ _ (by omega) ⟨i2 + 1, _, rfl, hlt2, wrap_succ hk2 (by omega), upto (p := fun f => metF s s[i] f) hall2 hlt2 hmt, rfl, rfl⟩)
    · have hany := any_none (p := fun f => metF s s[i] f) (l := s[i].fks) fun j hj => hall2 j hj (by omega)
      clear hrec2
      repeat' first|refine yaG ?_|((first|apply yG|apply yH|apply yI);exact rfl;(first|exact yX (enc := encTable) rfl rfl hk hlt rfl))|(exfalso;omega)|(refine yaS ?_ ?_<;>intro _)
      exact Go.keep [0, 4] (hrec _ _ _ (by omega) ⟨i + 1, _, rfl, hlt, wrap_succ hk (by omega), upto (p := fun t : Table => !(t.fks.any fun f => !metF s t f)) hall hlt (by rw [hany]; rfl), rfl, rfl⟩)
  · have hany := any_none (p := fun t : Table => !(t.fks.any fun f => !metF s t f)) (l := s) fun j hj => hall j hj (by omega)
    clear hrec
    repeat' first|refine yaG ?_|(exfalso;omega)|(refine yaS ?_ ?_<;>intro _)
    refine .ret rfl (.bool ?_)
    simp only [Bool.not_not] at hany
    rw [schemaF, hfin, hany]
    simp
end Go.Proofs.YtinbdedlmkjokaaGreat.Am

/- Queries: the program and its reference. -/
set_option linter.unusedVariables false
set_option linter.unusedSimpArgs false
namespace Go.Proofs.YtinbdedlmkjokaaGreat.Am

def tabAt (s : List Table) (nm : List UInt8) : Option Table := if s.any (fun u => u.name == nm) then s[(idxA (fun u => u.name == nm) s 0).toNat]? else none
theorem tabAt_no {s : List Table} {nm : List UInt8} (h : idxA (fun u => u.name == nm) s 0 = -1) : tabAt s nm = none := by
  have := any_idx (p := fun u : Table => u.name == nm) (l := s)
  rw [h] at this
  rw [tabAt, ← this]
  rfl
theorem tabAt_yes {s : List Table} {nm : List UInt8} {n : Nat} (h : idxA (fun u => u.name == nm) s 0 = n) (hn : n < s.length) : tabAt s nm = some s[n] := by
  have := any_idx (p := fun u : Table => u.name == nm) (l := s)
  rw [h] at this
  rw [tabAt, ← this, h, decide_eq_true (by omega)]
  simp [hn]
theorem schemaF_cols {s : List Table} (h : schemaF s = true) : ∀ t ∈ s, 1 ≤ t.cols.length ∧ t.cols.length ≤ 8 := fun t ht => by
  have := (tableF_iff.1 (namesAux_ok (schemaF_iff.1 h).2.1 t ht)).2.1
  simp only [isIn, Bool.and_eq_true, decide_eq_true_eq] at this
  omega
def termsF (l : List Term) (n : Int) : Bool := !(l.any fun x => !exprF x.expr n)
def whereF (e : List Tok) (n : Int) : Bool := (e.length : Int) == 0 || exprF e n
theorem areTerms1_ok (x : Term) (n : Int) (hb : bTerm 34359738368 x) (h0 : 0 ≤ n) (h1 : n ≤ 16) : Pure Tryz.prog 231 [.agg (encTerm x), .c (.fp [.int .i64 n])] (.c (.bool (!exprF x.expr n))) := by
  refine Pure.run mixed c_impl_areTerms_1_ok (Nat.le_of_ble_eq_true rfl) fun σ hS hA => ?_
  clear hS hA
  have hc := ExprOk_ok x.expr n hb.1
  rw [exprF_eq h0 h1] at hc
  repeat' first|refine yaG ?_|refine yaC (hc) ?_|(exfalso;omega)|(refine yaS ?_ ?_<;>intro _)
  exact .ret rfl (.bool rfl)
theorem areTerms_ok (l : List Term) (n : Int) (hx : l.length ≤ 34359738368) (hb : ∀ x ∈ l, bTerm 34359738368 x) (h0 : 0 ≤ n) (h1 : n ≤ 16) : Pure Tryz.prog 161 [.c (.fz (l.map encTerm)), .c (.int .i64 n)] (.c (.bool (termsF l n))) := by
  refine Pure.run mixed c_impl_areTerms_ok (Nat.le_of_ble_eq_true rfl) fun σ hS hA => ?_
  clear hS hA
  repeat' first|refine yaG ?_|((first|apply yQ|apply yR|apply yS);(iterate 3 exact rfl);exact containsFuncA_ok mixed c_slices_ContainsFunc_Term_ok c_slices_IndexFunc_Term_ok encTerm (fun u => .agg (encTerm u)) (fun _ => rfl) (fun _ => rfl) l (fun x => !exprF x.expr n) _ [] [.fp [.int .i64 n]] hx (fun j hj _ => areTerms1_ok _ _ (hb _ (List.getElem_mem hj)) h0 h1))|(exfalso;omega)|(refine yaS ?_ ?_<;>intro _)
  exact .ret rfl (.bool rfl)
theorem isWhere_ok (e : List Tok) (n : Int) (hx : e.length ≤ 34359738368) (h0 : 0 ≤ n) (h1 : n ≤ 16) : Pure Tryz.prog 97 [.c (.fz (e.map encTok)), .c (.int .i64 n)] (.c (.bool (whereF e n))) := by
  refine Pure.run mixed c_impl_isWhere_ok (Nat.le_of_ble_eq_true rfl) fun σ hS hA => ?_
  clear hS hA
  have hc := ExprOk_ok e n hx
  rw [exprF_eq h0 h1] at hc
  repeat' first|refine yaG ?_|((first|apply Go.pcallB|apply Go.spcallB|apply Qg.pcallB);(iterate 3 exact rfl);exact hc;intro _ _)|(exfalso;omega)|(refine yaS ?_ ?_<;>intro _)
  all_goals refine .ret rfl (.bool ?_)
  · rename_i h
    rw [whereF, h]
    rfl
  · rename_i h b hb
    rw [whereF, hb, beq_eq_false_iff_ne.2 h]
    rfl
def byF (l : List Int) (n : Int) : Bool := (l.length : Int) == 0 || colsF l n
def selAt (u : Table) (q : Sel) : Bool := termsF q.terms u.cols.length && (whereF q.wher u.cols.length && byF q.by_ u.cols.length)
def l10F (s : List Table) (q : Sel) : Bool := match tabAt s q.table with | none => false | some u => isIn q.terms.length 1 8 && (isIn q.most 0 60 && selAt u q)
def selectF (s : List Table) (q : Sel) : Bool := schemaF s && l10F s q
theorem SelectOk_ok (s : List Table) (q : Sel) (hx : s.length ≤ 34359738368) (hb : ∀ t ∈ s, bTable 34359738368 t) (hq : bSel 34359738368 q) : Pure Tryz.prog 72 [.c (.fz (s.map encTable)), .agg (encSel q)] (.c (.bool (selectF s q))) := by
  refine Pure.run mixed c_impl_SelectOk_ok (Nat.le_of_ble_eq_true rfl) fun σ hS hA => ?_
  clear hS hA
  obtain ⟨q1, q2, q3, q4⟩ := hq
  repeat' first|refine yaG ?_|fail
  refine .pcall rfl rfl rfl (TableAt_ok s q.table hx) ?_
  rcases idxA_at (p := fun u : Table => u.name == q.table) (l := s) (i := 0) (Int.le_refl _) with hi | ⟨n, hn, hi, hp⟩
  · have hno : selectF s q = false := by rw [selectF, l10F, tabAt_no hi]; simp
    rw [hi]
    repeat' first|refine yaG ?_|((first|apply Go.pcallB|apply Go.spcallB|apply Qg.pcallB);(iterate 3 exact rfl);exact SchemaOk_ok s hx hb;intro _ _)|(exfalso;omega)|(refine yaS ?_ ?_<;>intro _)
    all_goals exact .ret rfl (.bool hno.symm)
  rw [Int.zero_add] at hi
  have hyes := tabAt_yes hi hn
  have hnz : ¬ ((n : Int) < 0) := by omega
  rw [hi]
  repeat' first|refine yaG ?_|((first|apply Go.pcallB|apply Go.spcallB|apply Qg.pcallB);(iterate 3 exact rfl);(first|exact SchemaOk_ok s hx hb|exact in_ok _ _ _);intro _ _)|(exfalso;omega)|(refine yaS ?_ ?_<;>intro _)
  · rename_i c p k
    refine .ret rfl (.bool ?_)
    rw [selectF, nbT p k]
    rfl
  · rename_i c p k c2 p2 k2
    refine .ret rfl (.bool ?_)
    rw [selectF, l10F, hyes]
    simp only [nbT p2 k2]
    simp
  · rename_i c p k c2 p2 k2 c3 p3 k3
    refine .ret rfl (.bool ?_)
    rw [selectF, l10F, hyes]
    simp only [nbT p3 k3]
    simp
  rename_i c p k c2 p2 k2 c3 p3 k3
  have hs := nbF p k
  have hc := schemaF_cols hs _ (List.getElem_mem hn)
  have hres : selectF s q = selAt s[n] q := by
    rw [selectF, hs, l10F, hyes]
    simp only [nbF p2 k2, nbF p3 k3]
    simp
  clear p k p2 k2 p3 k3
  repeat' first|refine yaG ?_|((first|apply yG|apply yH|apply yI);exact rfl;(first|exact yX (enc := encTable) rfl rfl rfl hn rfl))|((first|apply Go.pcallB|apply Go.spcallB|apply Qg.pcallB);(iterate 3 exact rfl);(first|exact areTerms_ok q.terms s[n].cols.length q2.1 q2.2 (by omega) (by omega)|exact isWhere_ok q.wher s[n].cols.length q3.1 (by omega) (by omega)|exact areColumns_ok q.by_ s[n].cols.length q4 (by omega) (by omega));intro _ _)|(exfalso;omega)|(refine yaS ?_ ?_<;>intro _)
  all_goals refine .ret rfl (.bool ?_)
  all_goals rw [hres, selAt]
  all_goals simp_all [byF]
theorem l10Ok_ok (s : List Table) (q : Sel) (hs : schemaF s = true) (hx : s.length ≤ 34359738368) (hb : ∀ t ∈ s, bTable 34359738368 t) (hq : bSel 34359738368 q) : Pure Tryz.prog 86 [.c (.fz (s.map encTable)), .agg (encSel q)] (.c (.bool (l10F s q))) := by
  refine Pure.run mixed c_spec_l10Ok_ok (Nat.le_of_ble_eq_true rfl) fun σ hS hA => ?_
  clear hS hA
  obtain ⟨q1, q2, q3, q4⟩ := hq
  repeat' first|refine yaG ?_|fail
  refine .pcall rfl rfl rfl (l3At_ok s q.table hx) ?_
  rcases idxA_at (p := fun u : Table => u.name == q.table) (l := s) (i := 0) (Int.le_refl _) with hi | ⟨n, hn, hi, hp⟩
  · have hno : l10F s q = false := by rw [l10F, tabAt_no hi]
    rw [hi]
    repeat' first|refine yaG ?_|(exfalso;omega)|(refine yaS ?_ ?_<;>intro _)
    exact .ret rfl (.bool hno.symm)
  rw [Int.zero_add] at hi
  have hyes := tabAt_yes hi hn
  have hnz : ¬ ((n : Int) < 0) := by omega
  rw [hi]
  repeat' first|refine yaG ?_|((first|apply Go.pcallB|apply Go.spcallB|apply Qg.pcallB);(iterate 3 exact rfl);exact l1In_ok _ _ _;intro _ _)|(exfalso;omega)|(refine yaS ?_ ?_<;>intro _)
  · rename_i c2 p2 k2
    refine .ret rfl (.bool ?_)
    rw [l10F, hyes]
    simp only [nbT p2 k2]
    simp
  · rename_i c2 p2 k2 c3 p3 k3
    refine .ret rfl (.bool ?_)
    rw [l10F, hyes]
    simp only [nbT p3 k3]
    simp
  rename_i c2 p2 k2 c3 p3 k3
  have hc := schemaF_cols hs _ (List.getElem_mem hn)
  have hres : l10F s q = selAt s[n] q := by
    rw [l10F, hyes]
    simp only [nbF p2 k2, nbF p3 k3]
    simp
  clear p2 k2 p3 k3
  rw [hres]
  repeat' first|refine yaG ?_|((first|apply yG|apply yH|apply yI);exact rfl;(first|exact yX (enc := encTable) rfl rfl rfl hn rfl))|(exfalso;omega)|(refine yaS ?_ ?_<;>intro _)
  refine Go.keep [3, 6, 7] (Go.loops (I := fun m fr τ => ∃ i : Nat, ∃ k : Int, m = q.terms.length - i ∧ i ≤ q.terms.length ∧ k = i ∧ (∀ j (hj : j < q.terms.length), j < i → exprF q.terms[j].expr s[n].cols.length = true) ∧
    fr = [(3, .c (.fp (encSel q))), (6, .c (.int .i64 (s[n].cols.length : Int))), (7, .c (.int .i64 k))] ∧ τ = E σ []) ?_ _ _ _ ⟨0, _, rfl, Nat.zero_le _, rfl, fun j _ h => absurd h (by omega), rfl, rfl⟩)
  rintro m fr τ ⟨i, k, rfl, hi2, hk, hall, rfl, rfl⟩ hrec
  have hex : ∀ e : List Tok, e.length ≤ 34359738368 → Pure Tryz.prog 174 [.c (.fz (e.map encTok)), .c (.int .i64 s[n].cols.length)] (.c (.bool (exprF e s[n].cols.length))) := fun e he => l2Expr_ok e _ he (by omega) (by omega)
  by_cases hlt : i < q.terms.length
  · repeat' first|refine yaG ?_|((first|apply yG|apply yH|apply yI);exact rfl;(first|exact yX (enc := encTerm) rfl rfl hk hlt rfl))|((first|apply Go.pcallB|apply Go.spcallB|apply Qg.pcallB);(iterate 3 exact rfl);exact hex q.terms[i].expr (q2.2 _ (List.getElem_mem hlt)).1;intro _ _)|(exfalso;omega)|(refine yaS ?_ ?_<;>intro _)
    · rename_i c p k4
      refine .ret rfl (.bool ?_)
      rw [selAt, termsF, any_at (p := fun x : Term => exprF x.expr s[n].cols.length) hlt (nbT p k4)]
      rfl
    · rename_i c p k4
      exact Go.keep [3, 6, 7] (hrec _ _ _ (by omega) ⟨i + 1, _, rfl, hlt, wrap_succ hk (by omega), upto (p := fun x : Term => exprF x.expr s[n].cols.length) hall hlt (nbF p k4), rfl, rfl⟩)
  have hterms := any_none (p := fun x : Term => exprF x.expr s[n].cols.length) (l := q.terms) fun j hj => hall j hj (by omega)
  clear hrec hall
  repeat' first|refine yaG ?_|((first|apply Go.pcallB|apply Go.spcallB|apply Qg.pcallB);(iterate 3 exact rfl);(first|exact hex q.wher q3.1|exact l3Cols_ok q.by_ s[n].cols.length q4 (by omega) (by omega));intro _ _)|(exfalso;omega)|(refine yaS ?_ ?_<;>intro _)
  all_goals refine .ret rfl (.bool ?_)
  all_goals rw [selAt, termsF, hterms]
  all_goals clear hex
  all_goals simp_all [byF, whereF]
end Go.Proofs.YtinbdedlmkjokaaGreat.Am

/- The laws' helpers on types, printed by a program: Set, Row, Stmt. -/
set_option linter.unusedVariables false
set_option linter.unusedSimpArgs false
namespace Go.Proofs.YtinbdedlmkjokaaGreat.Am
structure RowD where
  id : Int
  vals : List Val
  deriving DecidableEq
def encRowD (a : RowD) : List Ce := [.int .i64 a.id, .fz (a.vals.map encV)]
def bRowD (N : Nat) (a : RowD) : Prop := (a.vals.length ≤ N ∧ ∀ x ∈ a.vals, bV N x)
def zRowD (a : RowD) : Int → Int := chain [(szL szV a.vals)]
theorem zRowD_steps (a : RowD) : Steps [(szL szV a.vals)] := (.cons (fun l h => szL_le szV_le _ l h) .nil)
theorem zRowD_le (a : RowD) (l : Int) (h : 0 ≤ l) : zRowD a l ≤ l := chain_le (zRowD_steps a) l h
theorem bRowD_of (a : RowD) (l : Int) (N : Nat) (h0 : 0 ≤ l) (h : 0 ≤ zRowD a l) (hl : l ≤ N) : bRowD N a := by
  have hh := chain_all (zRowD_steps a) l h0 h
  obtain ⟨q0, u0, v0, w0⟩ := hh (szL szV a.vals) (by simp)
  exact (list_of szV_le (fun _ _ _ _ h hl => bV_of h hl) u0 w0 (by omega))
theorem szRowD_ok (a : RowD) (left : Int) (hb : bRowD 1125899906842624 a) (h0 : 0 ≤ left) (h1 : left ≤ 34359738368) : Pure Tryz.prog 255 [.agg (encRowD a), .c (.int .i64 left)] (.c (.int .i64 (zRowD a left))) := by
  refine Pure.run mixed c_laws_szRow_ok (Nat.le_of_ble_eq_true rfl) fun σ hS hA => ?_
  clear hS hA
  repeat' first|refine yaG ?_|fail
  refine .pcall rfl rfl rfl (szValS_ok a.vals left hb.1 hb.2 (by omega) (by omega)) ?_
  have y1 := szL_le szV_le a.vals left (by omega)
  generalize e1 : szL szV a.vals left = l1 at y1 ⊢
  repeat' first|refine yaG ?_|(exfalso;omega)|(refine yaS ?_ ?_<;>intro _)
  · refine .ret rfl (.int ?_)
    rename_i h
    simp only [zRowD, chain, e1, if_pos h]
  rename_i g1
  refine .ret rfl (.int ?_)
  simp only [zRowD, chain, e1, if_neg g1]
theorem szRowDS_ok (xs : List RowD) (left : Int) (hx : xs.length ≤ 1125899906842624) (hv : ∀ e ∈ xs, bRowD 1125899906842624 e) (h0 : 0 ≤ left) (h1 : left ≤ 34359738368) : Pure Tryz.prog 185 [.c (.fz (xs.map encRowD)), .c (.int .i64 left)] (.c (.int .i64 (szL zRowD xs left))) :=
  szS_ok mixed c_laws_szRowS_ok encRowD zRowD xs left hx h0 h1 (fun _ => rfl) zRowD_le fun a ha l h2 h3 => szRowD_ok a l (hv a ha) h2 (by omega)
theorem toRowD_ok (a : RowD) (hb : bRowD 34359738368 a) (σ : Store) : Ok Tryz.prog 257 [.agg (encRowD a)] σ (NewL σ (encRowD a)) := by
  refine Ok.run mixed c_laws_toRow_ok (Nat.le_of_ble_eq_true rfl) fun hS hA => ?_
  clear hS hA
  repeat' first|refine yaG ?_|(exfalso;omega)|(refine yaS ?_ ?_<;>intro _)
  refine Go.call _ rfl rfl rfl (toValS_ok a.vals hb.1  _) ?_
  rintro r σ0 ⟨x0, m0, rfl, rfl, t0, h0⟩
  rw [E_E] at h0 ⊢
  have t0 := tidy_up t0
  have h0 := h0.new2
  repeat' first|refine yaG ?_|(exfalso;omega)|(refine yaS ?_ ?_<;>intro _)
  have hL : HasL (E σ ((0, [[.int .i64 a.id, x0]]) :: (0, [[.int .i64 a.id, x0]]) :: ([] ++ m0))) (fun a => σ.next + 2 ≤ a ∧ a < σ.next + 2 + ([] ++ m0).length) (encRowD a) [.int .i64 a.id, x0] := by
    refine HasL.mono ?_ (HasL.skip (.int _ _) (HasL.two (h0 _ _) (HasL.nil (S := fun a => a < 0)) (fun a ha hb => by (try dsimp only at ha hb); (try simp only [List.append_eq, List.length_append, List.length_nil, List.nil_append] at ha hb); omega)))
    intro a ha
    (try dsimp only at ha)
    (try simp only [List.append_eq, List.length_append, List.length_nil, List.nil_append] at ha ⊢)
    omega
  have hT := hL.tidy (n := σ.next) fun a ha => by have := ha.1; omega
  have hM : TidyL σ.next ([] ++ m0) := (tidy_pre (fun b hb => by simp at hb) t0)
  have hN : NewL σ (encRowD a) (.agg [.int .i64 a.id, x0]) (E σ ((0, [[.int .i64 a.id, x0]]) :: (0, [[.int .i64 a.id, x0]]) :: ([] ++ m0))) := by
    refine ⟨_, _, rfl, rfl, .one hT (.one hT hM), hL.mono ?_⟩
    intro a ha
    have h9 := ha.1
    have h8 := ha.2
    (try simp only [E_next, List.length_cons, List.append_eq, List.length_append, List.length_nil, List.nil_append] at h8 ⊢)
    constructor <;> omega
  exact .ret (retv_m rfl rfl rfl (Nat.le_of_ble_eq_true rfl) rfl) hN
theorem toRowDS_ok (xs : List RowD) (hx : xs.length ≤ 34359738368) (hv : ∀ e ∈ xs, bRowD 34359738368 e) (σ : Store) : Ok Tryz.prog 188 [.c (.fz (xs.map encRowD))] σ (New σ (.fz (xs.map encRowD))) :=
  toS_ok mixed c_laws_toRowS_ok encRowD xs hx (by decide) rfl (fun _ => rfl) (by intro x hx; simp only [List.mem_cons, List.not_mem_nil, or_false] at hx; rcases hx with rfl | rfl <;> constructor) (fun a ha σ => toRowD_ok a (hv a ha) σ) σ
theorem RowD_beq (a b : RowD) : (a == b) = (a.id == b.id && a.vals == b.vals) := by
  obtain ⟨a0, a1⟩ := a
  obtain ⟨b0, b1⟩ := b
  rw [Bool.eq_iff_iff]
  simp [and_assoc]
theorem eqRowD_ok (a b : RowD) (hb : bRowD 34359738368 a) : Pure Tryz.prog 260 [.agg (encRowD a), .agg (encRowD b)] (.c (.bool (a == b))) := by
  refine Pure.run mixed c_laws_eqRow_ok (Nat.le_of_ble_eq_true rfl) fun σ hS hA => ?_
  clear hS hA
  have hq := RowD_beq a b
  repeat' first|refine yaG ?_|((first|apply Go.pcallB|apply Go.spcallB|apply Qg.pcallB);(iterate 3 exact rfl);exact eqValS_ok a.vals b.vals hb.1;intro _ _)|(exfalso;omega)|(refine yaS ?_ ?_<;>intro _)
  all_goals refine .ret rfl (.bool ?_)
  all_goals rw [hq]
  all_goals clear hq hb
  all_goals simp_all
theorem eqRowDS_ok (xs ys : List RowD) (hx : xs.length ≤ 34359738368) (hv : ∀ e ∈ xs, bRowD 34359738368 e) : Pure Tryz.prog 192 [.c (.fz (xs.map encRowD)), .c (.fz (ys.map encRowD))] (.c (.bool (xs == ys))) :=
  eqS_ok mixed c_laws_eqRowS_ok encRowD xs ys hx (fun _ => rfl) fun a ha b => eqRowD_ok a b (hv a ha)
end Go.Proofs.YtinbdedlmkjokaaGreat.Am

/- Statements: the program and its reference. -/
set_option linter.unusedVariables false
set_option linter.unusedSimpArgs false
namespace Go.Proofs.YtinbdedlmkjokaaGreat.Am

def fitAux (t : Table) : Nat → List Val → Bool
  | _, [] => true
  | i, v :: r => isOfF v (kindAt t i) && fitAux t (i + 1) r
def fitF (t : Table) (vals : List Val) : Bool := decide ((vals.length : Int) = t.cols.length) && fitAux t 0 vals
theorem fit_ok (t : Table) (vals : List Val) (hx : vals.length ≤ 34359738368) : Pure Tryz.prog 201 [.agg (encTable t), .c (.fz (vals.map encV))] (.c (.bool (fitF t vals))) := by
  refine Pure.run mixed c_impl_fit_ok (Nat.le_of_ble_eq_true rfl) fun σ hS hA => ?_
  clear hS hA
  repeat' first|refine yaG ?_|(exfalso;omega)|(refine yaS ?_ ?_<;>intro _)
  · rename_i h
    refine .ret rfl (.bool ?_)
    rw [fitF, decide_eq_false h]
    rfl
  rename_i hlen
  have hlen : (vals.length : Int) = t.cols.length := by omega
  refine Go.keep [2, 13, 14, 15] (Go.loops (I := fun m fr τ => ∃ i : Nat, ∃ k : Int, m = vals.length - i ∧ i ≤ vals.length ∧ k = i ∧ fitAux t 0 vals = fitAux t i (vals.drop i) ∧
    fr = [(2, .c (.fp (encTable t))), (13, .c (.fz (vals.map encV))), (14, .c (.int .i64 (vals.length : Int))), (15, .c (.int .i64 k))] ∧ τ = E σ []) ?_ _ _ _ ⟨0, _, rfl, Nat.zero_le _, rfl, rfl, rfl, rfl⟩)
  rintro m fr τ ⟨i, k, rfl, hi, hk, hsl, rfl, rfl⟩ hrec
  by_cases hlt : i < vals.length
  · have hd := List.drop_eq_getElem_cons hlt
    have hlc : i < t.cols.length := by omega
    have hka : kindAt t i = t.cols[i].kind := kindAt_at rfl hlc
    rw [hd, fitAux, hka] at hsl
    repeat' first|refine yaG ?_|((first|apply yG|apply yH|apply yI);exact rfl;(first|exact yX (enc := encV) rfl rfl hk hlt rfl|exact yX (enc := encCol) rfl rfl hk hlc rfl))|((first|apply Go.pcallB|apply Go.spcallB|apply Qg.pcallB);(iterate 3 exact rfl);exact isOf_ok vals[i] t.cols[i].kind;intro _ _)|(exfalso;omega)|(refine yaS ?_ ?_<;>intro _)
    · rename_i b p k4
      refine .ret rfl (.bool ?_)
      rw [fitF, hsl, nbT p k4]
      simp
    · rename_i b p k4
      refine Go.keep [2, 13, 14, 15] (hrec _ _ _ (by omega) ⟨i + 1, _, rfl, hlt, wrap_succ hk (by omega), ?_, rfl, rfl⟩)
      rw [hsl, nbF p k4]
      rfl
  · repeat' first|refine yaG ?_|(exfalso;omega)|(refine yaS ?_ ?_<;>intro _)
    refine .ret rfl (.bool ?_)
    rw [fitF, hsl, List.drop_eq_nil_of_le (by omega), decide_eq_true hlen]
    rfl
theorem l4Kinds_ok (t : Table) (vals : List Val) (hx : vals.length ≤ 34359738368) : Pure Tryz.prog 227 [.agg (encTable t), .c (.fz (vals.map encV))] (.c (.bool (fitF t vals))) := by
  refine Pure.run mixed c_spec_l4Kinds_ok (Nat.le_of_ble_eq_true rfl) fun σ hS hA => ?_
  clear hS hA
  repeat' first|refine yaG ?_|(exfalso;omega)|(refine yaS ?_ ?_<;>intro _)
  · rename_i h
    refine .ret rfl (.bool ?_)
    rw [fitF, decide_eq_false h]
    rfl
  rename_i hlen
  have hlen : (vals.length : Int) = t.cols.length := by omega
  refine Go.keep [1, 2, 5] (Go.loops (I := fun m fr τ => ∃ i : Nat, ∃ k : Int, m = vals.length - i ∧ i ≤ vals.length ∧ k = i ∧ fitAux t 0 vals = fitAux t i (vals.drop i) ∧
    fr = [(1, .c (.fz (vals.map encV))), (2, .c (.fp (encTable t))), (5, .c (.int .i64 k))] ∧ τ = E σ []) ?_ _ _ _ ⟨0, _, rfl, Nat.zero_le _, rfl, rfl, rfl, rfl⟩)
  rintro m fr τ ⟨i, k, rfl, hi, hk, hsl, rfl, rfl⟩ hrec
  by_cases hlt : i < vals.length
  · have hd := List.drop_eq_getElem_cons hlt
    have hlc : i < t.cols.length := by omega
    have hka : kindAt t i = t.cols[i].kind := kindAt_at rfl hlc
    rw [hd, fitAux, hka] at hsl
    repeat' first|refine yaG ?_|((first|apply yG|apply yH|apply yI);exact rfl;(first|exact yX (enc := encV) rfl rfl hk hlt rfl|exact yX (enc := encCol) rfl rfl hk hlc rfl))|((first|apply Go.pcallB|apply Go.spcallB|apply Qg.pcallB);(iterate 3 exact rfl);exact sValOk_ok vals[i];intro _ _)|(exfalso;omega)|(refine yaS ?_ ?_<;>intro _)
    all_goals first
      | (refine .ret rfl (.bool ?_); rw [fitF, hsl, isOfF]; clear hrec hsl; simp_all; done)
      | (refine Go.keep [1, 2, 5] (hrec _ _ _ (by omega) ⟨i + 1, _, rfl, hlt, wrap_succ hk (by omega), ?_, rfl, rfl⟩); rw [hsl, isOfF]; clear hrec hsl; simp_all; done)
  · repeat' first|refine yaG ?_|(exfalso;omega)|(refine yaS ?_ ?_<;>intro _)
    refine .ret rfl (.bool ?_)
    rw [fitF, hsl, List.drop_eq_nil_of_le (by omega), decide_eq_true hlen]
    rfl
end Go.Proofs.YtinbdedlmkjokaaGreat.Am

/- The laws' helpers on types, printed by a program: Data, Line, Save, Session. -/
set_option linter.unusedVariables false
set_option linter.unusedSimpArgs false
namespace Go.Proofs.YtinbdedlmkjokaaGreat.Am
structure Data where
  rows : List RowD
  deriving DecidableEq
def encData (a : Data) : List Ce := [.fz (a.rows.map encRowD)]
def bData (N : Nat) (a : Data) : Prop := (a.rows.length ≤ N ∧ ∀ x ∈ a.rows, bRowD N x)
def zData (a : Data) : Int → Int := chain [(szL zRowD a.rows)]
theorem zData_steps (a : Data) : Steps [(szL zRowD a.rows)] := (.cons (fun l h => szL_le zRowD_le _ l h) .nil)
theorem zData_le (a : Data) (l : Int) (h : 0 ≤ l) : zData a l ≤ l := chain_le (zData_steps a) l h
theorem bData_of (a : Data) (l : Int) (N : Nat) (h0 : 0 ≤ l) (h : 0 ≤ zData a l) (hl : l ≤ N) : bData N a := by
  have hh := chain_all (zData_steps a) l h0 h
  obtain ⟨q0, u0, v0, w0⟩ := hh (szL zRowD a.rows) (by simp)
  exact (list_of zRowD_le bRowD_of u0 w0 (by omega))
theorem szData_ok (a : Data) (left : Int) (hb : bData 1125899906842624 a) (h0 : 0 ≤ left) (h1 : left ≤ 34359738368) : Pure Tryz.prog 100 [.agg (encData a), .c (.int .i64 left)] (.c (.int .i64 (zData a left))) := by
  refine Pure.run mixed c_laws_szData_ok (Nat.le_of_ble_eq_true rfl) fun σ hS hA => ?_
  clear hS hA
  repeat' first|refine yaG ?_|fail
  refine .pcall rfl rfl rfl (szRowDS_ok a.rows left hb.1 hb.2 (by omega) (by omega)) ?_
  have y1 := szL_le zRowD_le a.rows left (by omega)
  generalize e1 : szL zRowD a.rows left = l1 at y1 ⊢
  repeat' first|refine yaG ?_|(exfalso;omega)|(refine yaS ?_ ?_<;>intro _)
  · refine .ret rfl (.int ?_)
    rename_i h
    simp only [zData, chain, e1, if_pos h]
  rename_i g1
  refine .ret rfl (.int ?_)
  simp only [zData, chain, e1, if_neg g1]
theorem szDataS_ok (xs : List Data) (left : Int) (hx : xs.length ≤ 1125899906842624) (hv : ∀ e ∈ xs, bData 1125899906842624 e) (h0 : 0 ≤ left) (h1 : left ≤ 34359738368) : Pure Tryz.prog 30 [.c (.fz (xs.map encData)), .c (.int .i64 left)] (.c (.int .i64 (szL zData xs left))) :=
  szS_ok mixed c_laws_szDataS_ok encData zData xs left hx h0 h1 (fun _ => rfl) zData_le fun a ha l h2 h3 => szData_ok a l (hv a ha) h2 (by omega)
theorem toData_ok (a : Data) (hb : bData 34359738368 a) (σ : Store) : Ok Tryz.prog 104 [.agg (encData a)] σ (NewL σ (encData a)) := by
  refine Ok.run mixed c_laws_toData_ok (Nat.le_of_ble_eq_true rfl) fun hS hA => ?_
  clear hS hA
  repeat' first|refine yaG ?_|(exfalso;omega)|(refine yaS ?_ ?_<;>intro _)
  refine Go.call _ rfl rfl rfl (toRowDS_ok a.rows hb.1 hb.2 _) ?_
  rintro r σ0 ⟨x0, m0, rfl, rfl, t0, h0⟩
  rw [E_E] at h0 ⊢
  have t0 := tidy_up t0
  have h0 := h0.new2
  repeat' first|refine yaG ?_|(exfalso;omega)|(refine yaS ?_ ?_<;>intro _)
  have hL : HasL (E σ ((0, [[x0]]) :: (0, [[x0]]) :: ([] ++ m0))) (fun a => σ.next + 2 ≤ a ∧ a < σ.next + 2 + ([] ++ m0).length) (encData a) [x0] := by
    refine HasL.mono ?_ (HasL.two (h0 _ _) (HasL.nil (S := fun a => a < 0)) (fun a ha hb => by (try dsimp only at ha hb); (try simp only [List.append_eq, List.length_append, List.length_nil, List.nil_append] at ha hb); omega))
    intro a ha
    (try dsimp only at ha)
    (try simp only [List.append_eq, List.length_append, List.length_nil, List.nil_append] at ha ⊢)
    omega
  have hT := hL.tidy (n := σ.next) fun a ha => by have := ha.1; omega
  have hM : TidyL σ.next ([] ++ m0) := (tidy_pre (fun b hb => by simp at hb) t0)
  have hN : NewL σ (encData a) (.agg [x0]) (E σ ((0, [[x0]]) :: (0, [[x0]]) :: ([] ++ m0))) := by
    refine ⟨_, _, rfl, rfl, .one hT (.one hT hM), hL.mono ?_⟩
    intro a ha
    have h9 := ha.1
    have h8 := ha.2
    (try simp only [E_next, List.length_cons, List.append_eq, List.length_append, List.length_nil, List.nil_append] at h8 ⊢)
    constructor <;> omega
  exact .ret (retv_m rfl rfl rfl (Nat.le_of_ble_eq_true rfl) rfl) hN
theorem toDataS_ok (xs : List Data) (hx : xs.length ≤ 34359738368) (hv : ∀ e ∈ xs, bData 34359738368 e) (σ : Store) : Ok Tryz.prog 32 [.c (.fz (xs.map encData))] σ (New σ (.fz (xs.map encData))) :=
  toS_ok mixed c_laws_toDataS_ok encData xs hx (by decide) rfl (fun _ => rfl) (by intro x hx; simp only [List.mem_cons, List.not_mem_nil, or_false] at hx; rcases hx with rfl <;> constructor) (fun a ha σ => toData_ok a (hv a ha) σ) σ
theorem Data_beq (a b : Data) : (a == b) = (a.rows == b.rows) := by
  obtain ⟨a0⟩ := a
  obtain ⟨b0⟩ := b
  rw [Bool.eq_iff_iff]
  simp [and_assoc]
theorem eqData_ok (a b : Data) (hb : bData 34359738368 a) : Pure Tryz.prog 109 [.agg (encData a), .agg (encData b)] (.c (.bool (a == b))) := by
  refine Pure.run mixed c_laws_eqData_ok (Nat.le_of_ble_eq_true rfl) fun σ hS hA => ?_
  clear hS hA
  have hq := Data_beq a b
  repeat' first|refine yaG ?_|((first|apply Go.pcallB|apply Go.spcallB|apply Qg.pcallB);(iterate 3 exact rfl);exact eqRowDS_ok a.rows b.rows hb.1 hb.2;intro _ _)|(exfalso;omega)|(refine yaS ?_ ?_<;>intro _)
  all_goals refine .ret rfl (.bool ?_)
  all_goals rw [hq]
  all_goals clear hq hb
  all_goals simp_all
theorem eqDataS_ok (xs ys : List Data) (hx : xs.length ≤ 34359738368) (hv : ∀ e ∈ xs, bData 34359738368 e) : Pure Tryz.prog 35 [.c (.fz (xs.map encData)), .c (.fz (ys.map encData))] (.c (.bool (xs == ys))) :=
  eqS_ok mixed c_laws_eqDataS_ok encData xs ys hx (fun _ => rfl) fun a ha b => eqData_ok a b (hv a ha)
structure Line where
  vals : List Val
  deriving DecidableEq
def encLine (a : Line) : List Ce := [.fz (a.vals.map encV)]
def bLine (N : Nat) (a : Line) : Prop := (a.vals.length ≤ N ∧ ∀ x ∈ a.vals, bV N x)
theorem Line_beq (a b : Line) : (a == b) = (a.vals == b.vals) := by
  obtain ⟨a0⟩ := a
  obtain ⟨b0⟩ := b
  rw [Bool.eq_iff_iff]
  simp [and_assoc]
theorem eqLine_ok (a b : Line) (hb : bLine 34359738368 a) : Pure Tryz.prog 108 [.agg (encLine a), .agg (encLine b)] (.c (.bool (a == b))) := by
  refine Pure.run mixed c_laws_eqLine_ok (Nat.le_of_ble_eq_true rfl) fun σ hS hA => ?_
  clear hS hA
  have hq := Line_beq a b
  repeat' first|refine yaG ?_|((first|apply Go.pcallB|apply Go.spcallB|apply Qg.pcallB);(iterate 3 exact rfl);exact eqValS_ok a.vals b.vals hb.1;intro _ _)|(exfalso;omega)|(refine yaS ?_ ?_<;>intro _)
  all_goals refine .ret rfl (.bool ?_)
  all_goals rw [hq]
  all_goals clear hq hb
  all_goals simp_all
theorem eqLineS_ok (xs ys : List Line) (hx : xs.length ≤ 34359738368) (hv : ∀ e ∈ xs, bLine 34359738368 e) : Pure Tryz.prog 34 [.c (.fz (xs.map encLine)), .c (.fz (ys.map encLine))] (.c (.bool (xs == ys))) :=
  eqS_ok mixed c_laws_eqLineS_ok encLine xs ys hx (fun _ => rfl) fun a ha b => eqLine_ok a b (hv a ha)
end Go.Proofs.YtinbdedlmkjokaaGreat.Am

/- Databases: which are right, by the program and its reference. -/
set_option linter.unusedVariables false
set_option linter.unusedSimpArgs false
namespace Go.Proofs.YtinbdedlmkjokaaGreat.Am

def risesId (p : Option Int) (n : Int) : Bool := match p with | none => true | some q => decide (q < n)
def rowOne (t : Table) (p : Option Int) (r : RowD) : Bool := isIn r.id 1 1000000000 && (risesId p r.id && fitF t r.vals)
def rowsAux (t : Table) : Option Int → List RowD → Bool
  | _, [] => true
  | p, r :: l => rowOne t p r && rowsAux t (some r.id) l
def rowsF (t : Table) (l : List RowD) : Bool := rowsAux t none l && decide ((l.length : Int) ≤ 60)
def dbAux : List Table → List Data → Bool
  | t :: s, d :: db => rowsF t d.rows && dbAux s db
  | _, _ => true
def dbF (s : List Table) (db : List Data) : Bool := schemaF s && (decide ((db.length : Int) = s.length) && dbAux s db)
theorem areRows_ok (t : Table) (l : List RowD) (hx : l.length ≤ 34359738368) (hb : ∀ r ∈ l, r.vals.length ≤ 34359738368) : Pure Tryz.prog 126 [.agg (encTable t), .c (.fz (l.map encRowD))] (.c (.bool (rowsF t l))) := by
  refine Pure.run mixed c_impl_areRows_ok (Nat.le_of_ble_eq_true rfl) fun σ hS hA => ?_
  clear hS hA
  repeat' first|refine yaG ?_|(exfalso;omega)|(refine yaS ?_ ?_<;>intro _)
  refine Go.keep [1, 2, 7, 8, 9] (Go.loops (I := fun m fr τ => ∃ (i : Nat) (k : Int) (p : Option Int), m = l.length - i ∧ i ≤ l.length ∧ k = i ∧ (rowsAux t none l = rowsAux t p (l.drop i) ∧ ((i = 0 ∧ p = none) ∨ ∃ j, ∃ hj : j < l.length, i = j + 1 ∧ p = some l[j].id)) ∧
    fr = [(1, .c (.fz (l.map encRowD))), (2, .c (.fp (encTable t))), (7, .c (.fz (l.map encRowD))), (8, .c (.int .i64 (l.length : Int))), (9, .c (.int .i64 k))] ∧ τ = E σ []) ?_ _ _ _ ⟨0, _, none, rfl, Nat.zero_le _, rfl, ⟨rfl, .inl ⟨rfl, rfl⟩⟩, rfl, rfl⟩)
  rintro m fr τ ⟨i, k, p, rfl, hi, hk, ⟨hs, hp⟩, rfl, rfl⟩ hrec
  by_cases hlt : i < l.length
  · have hv := hb _ (List.getElem_mem hlt)
    rw [List.drop_eq_getElem_cons hlt, rowsAux] at hs
    rcases hp with ⟨rfl, rfl⟩ | ⟨j, hj, rfl, rfl⟩
    · repeat' first|refine yaG ?_|((first|apply yG|apply yH|apply yI);exact rfl;(first|exact yX (enc := encRowD) rfl rfl hk hlt rfl))|((first|apply Go.pcallB|apply Go.spcallB|apply Qg.pcallB);(iterate 3 exact rfl);(first|exact in_ok _ _ _|exact fit_ok t l[0].vals hv);intro _ _)|(exfalso;omega)|(refine yaS ?_ ?_<;>intro _)
      all_goals first
        | (refine .ret rfl (.bool ?_); clear hrec; rw [rowsF, hs, rowOne, risesId]; clear hs; simp_all; done)
        | (refine Go.keep [1, 2, 7, 8, 9] (hrec _ _ _ (by omega) ⟨0 + 1, _, some l[0].id, rfl, hlt, wrap_succ hk (by omega), ⟨?_, .inr ⟨0, hlt, rfl, rfl⟩⟩, rfl, rfl⟩); clear hrec; rw [hs, rowOne, risesId]; clear hs; simp_all; done)
    · repeat' first|refine yaG ?_|((first|apply yG|apply yH|apply yI);exact rfl;(first|exact yX (enc := encRowD) rfl rfl hk hlt rfl|exact yX (enc := encRowD) rfl rfl (wrap_pred hk (by omega)) hj rfl))|((first|apply Go.pcallB|apply Go.spcallB|apply Qg.pcallB);(iterate 3 exact rfl);(first|exact in_ok _ _ _|exact fit_ok t l[j + 1].vals hv);intro _ _)|(exfalso;omega)|(refine yaS ?_ ?_<;>intro _)
      all_goals first
        | (refine .ret rfl (.bool ?_); clear hrec; rw [rowsF, hs, rowOne, risesId]; clear hs; (simp_all <;> intros <;> omega); done)
        | (refine Go.keep [1, 2, 7, 8, 9] (hrec _ _ _ (by omega) ⟨j + 1 + 1, _, some l[j + 1].id, rfl, hlt, wrap_succ hk (by omega), ⟨?_, .inr ⟨j + 1, hlt, rfl, rfl⟩⟩, rfl, rfl⟩); clear hrec; rw [hs, rowOne, risesId]; clear hs; (simp_all <;> intros <;> omega); done)
  · repeat' first|refine yaG ?_|(exfalso;omega)|(refine yaS ?_ ?_<;>intro _)
    refine .ret rfl (.bool ?_)
    rw [rowsF, hs, List.drop_eq_nil_of_le (by omega)]
    simp [rowsAux]
theorem DbOk_ok (s : List Table) (db : List Data) (hx : s.length ≤ 34359738368) (hb : ∀ t ∈ s, bTable 34359738368 t) (hd : db.length ≤ 34359738368) (hdb : ∀ d ∈ db, bData 34359738368 d) : Pure Tryz.prog 52 [.c (.fz (s.map encTable)), .c (.fz (db.map encData))] (.c (.bool (dbF s db))) := by
  refine Pure.run mixed c_impl_DbOk_ok (Nat.le_of_ble_eq_true rfl) fun σ hS hA => ?_
  clear hS hA
  have c1 := SchemaOk_ok s hx hb
  cases hs : schemaF s
  · rw [hs] at c1
    repeat' first|refine yaG ?_|refine yaC (c1) ?_|(exfalso;omega)|(refine yaS ?_ ?_<;>intro _)
    refine .ret rfl (.bool ?_)
    rw [dbF, hs]
    rfl
  rw [hs] at c1
  repeat' first|refine yaG ?_|refine yaC (c1) ?_|(exfalso;omega)|(refine yaS ?_ ?_<;>intro _)
  · rename_i h
    refine .ret rfl (.bool ?_)
    rw [dbF, hs, decide_eq_false h]
    rfl
  rename_i hl
  have hl : (db.length : Int) = s.length := by omega
  refine Go.keep [0, 17, 18, 19] (Go.loops (I := fun m fr τ => ∃ (i : Nat) (k : Int), m = db.length - i ∧ i ≤ db.length ∧ k = i ∧ dbAux s db = dbAux (s.drop i) (db.drop i) ∧
    fr = [(0, .c (.fz (s.map encTable))), (17, .c (.fz (db.map encData))), (18, .c (.int .i64 (db.length : Int))), (19, .c (.int .i64 k))] ∧ τ = E σ []) ?_ _ _ _ ⟨0, _, rfl, Nat.zero_le _, rfl, rfl, rfl, rfl⟩)
  rintro m fr τ ⟨i, k, rfl, hi, hk, hsl, rfl, rfl⟩ hrec
  clear c1
  by_cases hlt : i < db.length
  · have hlt2 : i < s.length := by omega
    have hbd := hdb _ (List.getElem_mem hlt)
    rw [List.drop_eq_getElem_cons hlt, List.drop_eq_getElem_cons hlt2, dbAux] at hsl
    repeat' first|refine yaG ?_|((first|apply yG|apply yH|apply yI);exact rfl;(first|exact yX (enc := encData) rfl rfl hk hlt rfl|exact yX (enc := encTable) rfl rfl hk hlt2 rfl))|((first|apply Go.pcallB|apply Go.spcallB|apply Qg.pcallB);(iterate 3 exact rfl);exact areRows_ok s[i] db[i].rows hbd.1 (fun r hr => (hbd.2 r hr).1);intro _ _)|(exfalso;omega)|(refine yaS ?_ ?_<;>intro _)
    · rename_i b p h
      refine .ret rfl (.bool ?_)
      rw [dbF, hsl, nbT p h]
      simp
    · rename_i b p h
      refine Go.keep [0, 17, 18, 19] (hrec _ _ _ (by omega) ⟨i + 1, _, rfl, hlt, wrap_succ hk (by omega), ?_, rfl, rfl⟩)
      rw [hsl, nbF p h, Bool.true_and]
  · repeat' first|refine yaG ?_|(exfalso;omega)|(refine yaS ?_ ?_<;>intro _)
    refine .ret rfl (.bool ?_)
    rw [dbF, hs, hsl, decide_eq_true hl, show db.drop i = [] from List.drop_eq_nil_of_le (by omega)]
    cases List.drop i s <;> rfl
theorem l4Db_ok (s : List Table) (db : List Data) (hx : s.length ≤ 34359738368) (hd : db.length ≤ 34359738368) (hdb : ∀ d ∈ db, bData 34359738368 d) : Pure Tryz.prog 172 [.c (.fz (s.map encTable)), .c (.fz (db.map encData))] (.c (.bool (decide ((db.length : Int) = s.length) && dbAux s db))) := by
  refine Pure.run mixed c_spec_l4Db_ok (Nat.le_of_ble_eq_true rfl) fun σ hS hA => ?_
  clear hS hA
  repeat' first|refine yaG ?_|(exfalso;omega)|(refine yaS ?_ ?_<;>intro _)
  · rename_i h
    refine .ret rfl (.bool ?_)
    rw [decide_eq_false h]
    rfl
  rename_i hl
  have hl : (db.length : Int) = s.length := by omega
  refine Go.keep [0, 1, 5] (Go.loops (I := fun m fr τ => ∃ (i : Nat) (k : Int), m = db.length - i ∧ i ≤ db.length ∧ k = i ∧ dbAux s db = dbAux (s.drop i) (db.drop i) ∧
    fr = [(0, .c (.fz (s.map encTable))), (1, .c (.fz (db.map encData))), (5, .c (.int .i64 k))] ∧ τ = E σ []) ?_ _ _ _ ⟨0, _, rfl, Nat.zero_le _, rfl, rfl, rfl, rfl⟩)
  rintro m fr τ ⟨i, k, rfl, hi, hk, hsl, rfl, rfl⟩ hrec
  by_cases hlt : i < db.length
  · have hlt2 : i < s.length := by omega
    have hbd := hdb _ (List.getElem_mem hlt)
    rw [List.drop_eq_getElem_cons hlt, List.drop_eq_getElem_cons hlt2, dbAux, rowsF] at hsl
    obtain ⟨l, hle⟩ : ∃ l, db[i].rows = l := ⟨_, rfl⟩
    have hrl : l.length ≤ 34359738368 := by rw [← hle]; exact hbd.1
    have hrv : ∀ r ∈ l, r.vals.length ≤ 34359738368 := by rw [← hle]; exact fun r hr => (hbd.2 r hr).1
    repeat' first|refine yaG ?_|((first|apply yG|apply yH|apply yI);exact rfl;(first|exact yX (enc := encData) rfl rfl hk hlt rfl))|(exfalso;omega)|(refine yaS ?_ ?_<;>intro _)
    rw [hle] at hsl ⊢
    refine Go.keep [0, 1, 5, 6, 7] (Go.loops (I := fun m fr τ => ∃ (j : Nat) (q : Int) (p : Option Int), m = l.length - j ∧ j ≤ l.length ∧ q = j ∧ (rowsAux s[i] none l = rowsAux s[i] p (l.drop j) ∧ ((j = 0 ∧ p = none) ∨ ∃ a, ∃ ha : a < l.length, j = a + 1 ∧ p = some l[a].id)) ∧
      fr = [(0, .c (.fz (s.map encTable))), (1, .c (.fz (db.map encData))), (5, .c (.int .i64 k)), (6, .c (.fz (l.map encRowD))), (7, .c (.int .i64 q))] ∧ τ = E σ []) ?_ _ _ _ ⟨0, _, none, rfl, Nat.zero_le _, rfl, ⟨rfl, .inl ⟨rfl, rfl⟩⟩, rfl, rfl⟩)
    rintro m fr τ ⟨j, q, p, rfl, hj, hq, ⟨hs2, hp⟩, rfl, rfl⟩ hrec2
    by_cases hlj : j < l.length
    · have hv := hrv _ (List.getElem_mem hlj)
      rw [List.drop_eq_getElem_cons hlj, rowsAux] at hs2
      clear hrec
      rcases hp with ⟨rfl, rfl⟩ | ⟨a, ha, rfl, rfl⟩
      · repeat' first|refine yaG ?_|((first|apply yG|apply yH|apply yI);exact rfl;(first|exact yX (enc := encRowD) rfl rfl hq hlj rfl|exact yX (enc := encTable) rfl rfl hk hlt2 rfl))|((first|apply Go.pcallB|apply Go.spcallB|apply Qg.pcallB);(iterate 3 exact rfl);(first|exact l1In_ok _ _ _|exact l4Kinds_ok s[i] l[0].vals hv);intro _ _)|(exfalso;omega)|(refine yaS ?_ ?_<;>intro _)
        all_goals first
          | (refine .ret rfl (.bool ?_); clear hrec2; rw [hsl, hs2, rowOne, risesId]; clear hs2 hsl; simp_all; done)
          | (refine Go.keep [0, 1, 5, 6, 7] (hrec2 _ _ _ (by omega) ⟨0 + 1, _, some l[0].id, rfl, hlj, wrap_succ hq (by omega), ⟨?_, .inr ⟨0, hlj, rfl, rfl⟩⟩, rfl, rfl⟩); clear hrec2; rw [hs2, rowOne, risesId]; clear hs2 hsl; simp_all; done)
      · repeat' first|refine yaG ?_|((first|apply yG|apply yH|apply yI);exact rfl;(first|exact yX (enc := encRowD) rfl rfl hq hlj rfl|exact yX (enc := encRowD) rfl rfl (wrap_pred hq (by omega)) ha rfl|exact yX (enc := encTable) rfl rfl hk hlt2 rfl))|((first|apply Go.pcallB|apply Go.spcallB|apply Qg.pcallB);(iterate 3 exact rfl);(first|exact l1In_ok _ _ _|exact l4Kinds_ok s[i] l[a + 1].vals hv);intro _ _)|(exfalso;omega)|(refine yaS ?_ ?_<;>intro _)
        all_goals first
          | (refine .ret rfl (.bool ?_); clear hrec2; rw [hsl, hs2, rowOne, risesId]; clear hs2 hsl; (simp_all <;> intros <;> omega); done)
          | (refine Go.keep [0, 1, 5, 6, 7] (hrec2 _ _ _ (by omega) ⟨a + 1 + 1, _, some l[a + 1].id, rfl, hlj, wrap_succ hq (by omega), ⟨?_, .inr ⟨a + 1, hlj, rfl, rfl⟩⟩, rfl, rfl⟩); clear hrec2; rw [hs2, rowOne, risesId]; clear hs2 hsl; (simp_all <;> intros <;> omega); done)
    · clear hrec2
      rw [List.drop_eq_nil_of_le (by omega), rowsAux] at hs2
      repeat' first|refine yaG ?_|(exfalso;omega)|(refine yaS ?_ ?_<;>intro _)
      · rename_i h
        refine .ret rfl (.bool ?_)
        rw [hsl, hs2, decide_eq_false (p := (l.length : Int) ≤ 60) (by omega)]
        simp
      · rename_i h
        refine Go.keep [0, 1, 5] (hrec _ _ _ (by omega) ⟨i + 1, _, rfl, hlt, wrap_succ hk (by omega), ?_, rfl, rfl⟩)
        rw [hsl, hs2, decide_eq_true (p := (l.length : Int) ≤ 60) (by omega)]
        rfl
  · repeat' first|refine yaG ?_|(exfalso;omega)|(refine yaS ?_ ?_<;>intro _)
    refine .ret rfl (.bool ?_)
    rw [hsl, decide_eq_true hl, show db.drop i = [] from List.drop_eq_nil_of_le (by omega)]
    cases List.drop i s <;> rfl
theorem sDbOk_ok (s : List Table) (db : List Data) (hx : s.length ≤ 34359738368) (hb : ∀ t ∈ s, bTable 34359738368 t) (hd : db.length ≤ 34359738368) (hdb : ∀ d ∈ db, bData 34359738368 d) : Pure Tryz.prog 85 [.c (.fz (s.map encTable)), .c (.fz (db.map encData))] (.c (.bool (dbF s db))) := by
  refine Pure.run mixed c_spec_DbOk_ok (Nat.le_of_ble_eq_true rfl) fun σ hS hA => ?_
  clear hS hA
  have c1 := sSchemaOk_ok s hx hb
  have c2 := l4Db_ok s db hx hd hdb
  rw [dbF]
  generalize (decide ((db.length : Int) = s.length) && dbAux s db) = B at c2 ⊢
  cases hs : schemaF s
  · rw [hs] at c1
    repeat' first|refine yaG ?_|refine yaC (c1) ?_|(exfalso;omega)|(refine yaS ?_ ?_<;>intro _)
    exact .ret rfl (.bool rfl)
  · rw [hs] at c1
    repeat' first|refine yaG ?_|refine yaC (c1) ?_|refine yaC (c2) ?_|(exfalso;omega)|(refine yaS ?_ ?_<;>intro _)
    exact .ret rfl (.bool rfl)
/-- What a right database is like. -/
theorem dbF_at {s : List Table} {db : List Data} (h : dbF s db = true) : schemaF s = true ∧ db.length = s.length ∧ ∀ i (hi : i < s.length) (hi2 : i < db.length), rowsF s[i] db[i].rows = true := by
  simp only [dbF, Bool.and_eq_true, decide_eq_true_eq] at h
  obtain ⟨h1, h2, h3⟩ := h
  refine ⟨h1, by omega, ?_⟩
  clear h1 h2
  induction s generalizing db with
  | nil => intro i hi; simp at hi
  | cons t s ih =>
    cases db with
    | nil => intro i _ hi; simp at hi
    | cons d db =>
      rw [dbAux, Bool.and_eq_true] at h3
      intro i hi hi2
      cases i with
      | zero => exact h3.1
      | succ i => exact ih h3.2 i (by simpa using hi) (by simpa using hi2)
theorem rowsAux_mem {t : Table} : ∀ {l : List RowD} {p : Option Int}, rowsAux t p l = true → ∀ r ∈ l, fitF t r.vals = true ∧ isIn r.id 1 1000000000 = true
  | [], _, _, r, hr => by simp at hr
  | a :: l, p, h, r, hr => by
    simp only [rowsAux, rowOne, Bool.and_eq_true] at h
    rcases List.mem_cons.1 hr with rfl | hr
    · exact ⟨h.1.2.2, h.1.1⟩
    · exact rowsAux_mem h.2 r hr
theorem rowsF_mem {t : Table} {l : List RowD} (h : rowsF t l = true) : l.length ≤ 60 ∧ ∀ r ∈ l, fitF t r.vals = true ∧ isIn r.id 1 1000000000 = true := by
  simp only [rowsF, Bool.and_eq_true, decide_eq_true_eq] at h
  exact ⟨by omega, rowsAux_mem h.1⟩
theorem fitAux_ok {t : Table} : ∀ {l : List Val} {i : Nat}, fitAux t i l = true → ∀ v ∈ l, okVal v = true
  | [], _, _, v, hv => by simp at hv
  | a :: l, i, h, v, hv => by
    simp only [fitAux, isOfF, Bool.and_eq_true] at h
    rcases List.mem_cons.1 hv with rfl | hv
    · exact h.1.1
    · exact fitAux_ok h.2 v hv
theorem fitF_vals {t : Table} {l : List Val} (h : fitF t l = true) : l.length = t.cols.length ∧ ∀ v ∈ l, okVal v = true := by
  simp only [fitF, Bool.and_eq_true, decide_eq_true_eq] at h
  exact ⟨by omega, fitAux_ok h.2⟩
theorem fitF_are {t : Table} {l : List Val} (h : fitF t l = true) (hc : t.cols.length ≤ 8) : areVals l 16 = true := by
  obtain ⟨h1, h2⟩ := fitF_vals h
  simp only [areVals, Bool.and_eq_true, decide_eq_true_eq, List.all_eq_true]
  exact ⟨by omega, h2⟩
end Go.Proofs.YtinbdedlmkjokaaGreat.Am

/- What expressions come to, in plain Lean. -/
set_option linter.unusedVariables false
set_option linter.unusedSimpArgs false
namespace Go.Proofs.YtinbdedlmkjokaaGreat.Am

def vNull : Val := ⟨0, 0, []⟩
def vInt (n : Int) : Val := ⟨1, n, []⟩
def yes (b : Bool) : Int := if b then 1 else 0
def truthV (v : Val) : Int := if v.k = 0 then 2 else if v.k = 1 then (if v.n = 0 then 0 else 1) else -1
def knownV (a b : Val) : Bool := okVal a && (okVal b && (!(a.k == 0) && !(b.k == 0)))
def eq3 (a b : Val) : Int := if knownV a b then yes (a == b) else 2
def less3 (a b : Val) : Int := if knownV a b then yes (decide (order a b < 0)) else 2
def tru (a : Int) : Bool := isIn a 0 2
def and3 (a b : Int) : Int := if tru a && tru b then (if a = 0 ∨ b = 0 then 0 else if a = 1 ∧ b = 1 then 1 else 2) else -1
def or3 (a b : Int) : Int := if tru a && tru b then (if a = 1 ∨ b = 1 then 1 else if a = 0 ∧ b = 0 then 0 else 2) else -1
def not3 (a : Int) : Int := if tru a then (if a = 2 then 2 else 1 - a) else -1
def asV (t : Int) : Val × Bool := if t = 2 then (vNull, true) else (vInt t, decide (0 ≤ t))
def sumV (a b : Val) (s : Int) : Val × Bool := if a.k = 2 ∨ b.k = 2 then (vNull, false) else if a.k = 0 ∨ b.k = 0 then (vNull, true) else (vInt (a.n + s * b.n), okVal (vInt (a.n + s * b.n)))
def vAt (l : List Val) (i : Nat) : Val := l[i]?.getD vNull
def applyF (t : Tok) (l row : List Val) : Val × Bool :=
  if t.kind = 1 then (vAt row t.col.toNat, true) else if t.kind = 2 then (t.v, true) else if t.kind = 3 then asV (eq3 (vAt l 0) (vAt l 1)) else if t.kind = 4 then asV (less3 (vAt l 0) (vAt l 1))
  else if t.kind = 5 then asV (and3 (truthV (vAt l 0)) (truthV (vAt l 1))) else if t.kind = 6 then asV (or3 (truthV (vAt l 0)) (truthV (vAt l 1))) else if t.kind = 7 then asV (not3 (truthV (vAt l 0)))
  else if t.kind = 8 then asV (yes ((vAt l 0).k == 0)) else if t.kind = 9 then sumV (vAt l 0) (vAt l 1) 1 else sumV (vAt l 0) (vAt l 1) (-1)
def fromOf (t : Tok) (st : List Val) : Nat := st.length - (tokTakes t).toNat
def evalL (row : List Val) : List Tok → List Val → Option (List Val)
  | [], st => some st
  | t :: r, st => if (applyF t (st.drop (fromOf t st)) row).2 then evalL row r (st.take (fromOf t st) ++ [(applyF t (st.drop (fromOf t st)) row).1]) else none
def evalR (e : List Tok) (row : List Val) : Val × Bool := match evalL row e [] with
  | some (v :: _) => (v, true)
  | _ => (vNull, false)
def evalOk (e : List Tok) (row : List Val) : Bool := areVals row 16 && exprF e row.length
def evalI (e : List Tok) (row : List Val) : Val × Bool := if evalOk e row then evalR e row else (vNull, false)
def truthR (e : List Tok) (row : List Val) : Int := if (evalR e row).2 then truthV (evalR e row).1 else -1
def truthI (e : List Tok) (row : List Val) : Int := if evalOk e row then truthR e row else -1
theorem truthI_eq (e : List Tok) (row : List Val) : (if (evalI e row).2 then truthV (evalI e row).1 else -1) = truthI e row := by
  simp only [evalI, truthI, truthR]
  split <;> simp
/-- Values that are right: what an expression leaves on its stack. -/
def Oks (l : List Val) : Prop := ∀ v ∈ l, okVal v = true
theorem Oks.at_ {l : List Val} (h : Oks l) (i : Nat) : okVal (vAt l i) = true := by
  simp only [vAt]
  cases hi : l[i]? with
  | none => rfl
  | some v => exact h v (List.mem_of_getElem? hi)
theorem okVal_null : okVal vNull = true := rfl
theorem okVal_int {n : Int} (h0 : -1000000000 ≤ n) (h1 : n ≤ 1000000000) : okVal (vInt n) = true := by
  simp [okVal, vInt, isIn, h0, h1]
theorem yes_range (b : Bool) : 0 ≤ yes b ∧ yes b ≤ 1 := by cases b <;> simp [yes]
theorem okVal_asV {t : Int} (h : t ≤ 2) (hk : (asV t).2 = true) : okVal (asV t).1 = true := by
  simp only [asV] at hk ⊢
  split
  · rfl
  · rename_i h2
    rw [if_neg h2] at hk
    have h0 : 0 ≤ t := of_decide_eq_true hk
    exact okVal_int (by omega) (by omega)
theorem okVal_sumV {a b : Val} {s : Int} (hk : (sumV a b s).2 = true) : okVal (sumV a b s).1 = true := by
  simp only [sumV] at hk ⊢
  split
  · rfl
  · rename_i h
    rw [if_neg h] at hk
    split
    · rfl
    · rename_i h2
      rw [if_neg h2] at hk
      exact hk
theorem eq3_range (a b : Val) : 0 ≤ eq3 a b ∧ eq3 a b ≤ 2 := by
  simp only [eq3]
  have := yes_range (a == b)
  split <;> omega
theorem less3_range (a b : Val) : 0 ≤ less3 a b ∧ less3 a b ≤ 2 := by
  simp only [less3]
  have := yes_range (decide (order a b < 0))
  split <;> omega
theorem and3_range (a b : Int) : -1 ≤ and3 a b ∧ and3 a b ≤ 2 := by
  simp only [and3]
  split
  · split
    · omega
    · split <;> omega
  · omega
theorem or3_range (a b : Int) : -1 ≤ or3 a b ∧ or3 a b ≤ 2 := by
  simp only [or3]
  split
  · split
    · omega
    · split <;> omega
  · omega
theorem tru_range {a : Int} : tru a = true ↔ 0 ≤ a ∧ a ≤ 2 := by simp [tru, isIn]
theorem not3_range (a : Int) : -1 ≤ not3 a ∧ not3 a ≤ 2 := by
  simp only [not3]
  split
  · rename_i h
    have := tru_range.1 h
    split <;> omega
  · omega
theorem applyF_ok {t : Tok} {l row : List Val} (ht : t.kind = 2 → okVal t.v = true) (hl : Oks l) (hr : Oks row) (h : (applyF t l row).2 = true) : okVal (applyF t l row).1 = true := by
  simp only [applyF] at h ⊢
  split
  · exact hr.at_ _
  · rename_i n1
    rw [if_neg n1] at h
    split
    · rename_i n2; exact ht n2
    · rename_i n2
      rw [if_neg n2] at h
      split
      · rename_i n3
        rw [if_pos n3] at h
        exact okVal_asV (eq3_range _ _).2 h
      · rename_i n3
        rw [if_neg n3] at h
        split
        · rename_i n4
          rw [if_pos n4] at h
          exact okVal_asV (less3_range _ _).2 h
        · rename_i n4
          rw [if_neg n4] at h
          split
          · rename_i n5
            rw [if_pos n5] at h
            exact okVal_asV (and3_range _ _).2 h
          · rename_i n5
            rw [if_neg n5] at h
            split
            · rename_i n6
              rw [if_pos n6] at h
              exact okVal_asV (or3_range _ _).2 h
            · rename_i n6
              rw [if_neg n6] at h
              split
              · rename_i n7
                rw [if_pos n7] at h
                exact okVal_asV (not3_range _).2 h
              · rename_i n7
                rw [if_neg n7] at h
                split
                · rename_i n8
                  rw [if_pos n8] at h
                  exact okVal_asV (by have := yes_range ((vAt l 0).k == 0); omega) h
                · rename_i n8
                  rw [if_neg n8] at h
                  split
                  · rename_i n9
                    rw [if_pos n9] at h
                    exact okVal_sumV h
                  · rename_i n9
                    rw [if_neg n9] at h
                    exact okVal_sumV h
theorem tokOk_const {t : Tok} {n : Int} (h : isTokF t n = true) (h2 : t.kind = 2) : okVal t.v = true := by
  simp only [isTokF] at h
  rw [if_neg (by omega), if_pos h2] at h
  simp at h
  exact h.2
theorem okVal_range {v : Val} (h : okVal v = true) (h1 : v.k = 1) : -1000000000 ≤ v.n ∧ v.n ≤ 1000000000 := by
  simp [okVal, isIn, h1] at h
  exact h.1
theorem okVal_kind {v : Val} (h : okVal v = true) : v.k = 0 ∨ v.k = 1 ∨ v.k = 2 := by
  simp [okVal] at h
  rcases h with (h | h) | h <;> simp [h]
end Go.Proofs.YtinbdedlmkjokaaGreat.Am

/- Entries: sameness, copies, dropping. -/
set_option linter.unusedVariables false
set_option linter.unusedSimpArgs false
namespace Go.Proofs.YtinbdedlmkjokaaGreat.Am

/-! ### Copies -/
theorem clean_append {xs : List Val} : ∀ e ∈ xs.map encV, e.length = 3 ∧ ∀ x ∈ e, Flat x := by
  intro e he
  obtain ⟨a, _, rfl⟩ := List.mem_map.1 he
  exact ⟨rfl, flatV a⟩
end Go.Proofs.YtinbdedlmkjokaaGreat.Am

/- Truths and what is made of values: the program. -/
set_option linter.unusedVariables false
set_option linter.unusedSimpArgs false
namespace Go.Proofs.YtinbdedlmkjokaaGreat.Am

theorem val_eq (v w : Val) : ((v.k == w.k && (v.n == w.n && (v.s == w.s && true))) != false) = (v == w) := by
  obtain ⟨a, b, c⟩ := v
  obtain ⟨d, e, f⟩ := w
  rw [Bool.eq_iff_iff]
  simp
theorem encV_flat (v : Val) : ∀ x ∈ encV v, Flat x := flatV v
theorem fin_v {σ : Store} {l : List (Nat × List (List Ce))} (v : Val) : Fin σ (.agg (encV v)) (.agg (encV v)) (E σ l) :=
  ⟨l, rfl, .refl fun y hy => (encV_flat v y hy).old _⟩
theorem fin_vb {σ : Store} {l : List (Nat × List (List Ce))} (v : Val) (b : Bool) : Fin σ (.tup [.agg (encV v), .c (.bool b)]) (.tup [.agg (encV v), .c (.bool b)]) (E σ l) :=
  ⟨l, rfl, .refl fun y hy => by
    simp [AV.all, AV.all.allL, encV] at hy
    rcases hy with rfl | rfl | rfl | rfl
    · exact .int _ _
    · exact .int _ _
    · exact .str _
    · exact .bool _⟩
theorem retv_mt {fr : Fr} {σ : Store} {l : List (Nat × List (List Ce))} {k v i t u j s : Nat} {g : Bool} {es : List (List Ce)} {e : List Ce} {x y : AV} (hp : look fr t = some (.c (.ptr (σ.next + k) v i j))) (hl : l[k]? = some (v, es)) (he : es[i]? = some e) (hj : j ≤ e.length) (hx : takeA g s (e.drop j) = some x) (hu : look fr u = some y) :
    retv fr (E σ l) [.m t g s, .t u] = some (.tup [x, y]) := by
  have h1 := retv_m hp hl he hj hx
  simp only [retv, revs] at h1 ⊢
  cases hq : RV.ev fr (E σ l) (.m t g s) with
  | none => rw [hq] at h1; simp at h1
  | some q =>
    rw [hq] at h1
    simp only [Option.some.injEq] at h1
    subst h1
    have h2 : RV.ev fr (E σ l) (.t u) = some y := hu
    rw [h2]
theorem truthOf_ok (b : Bool) : Pure Tryz.prog 242 [.c (.bool b)] (.c (.int .i64 (yes b))) := by
  refine Pure.run mixed c_impl_truthOf_ok (Nat.le_of_ble_eq_true rfl) fun σ hS hA => ?_
  clear hS hA
  repeat' first|refine yaG ?_|(exfalso;omega)|(refine yaS ?_ ?_<;>intro _)
  all_goals refine .ret rfl (.int ?_)
  all_goals simp_all [yes]
theorem truth_ok (v : Val) : Pure Tryz.prog 232 [.agg (encV v)] (.c (.int .i64 (truthV v))) := by
  refine Pure.run mixed c_impl_truth_ok (Nat.le_of_ble_eq_true rfl) fun σ hS hA => ?_
  clear hS hA
  repeat' first|refine yaG ?_|((first|apply yQ|apply yR|apply yS);(iterate 3 exact rfl);exact truthOf_ok _)|(exfalso;omega)|(refine yaS ?_ ?_<;>intro _)
  all_goals refine .ret rfl (.int ?_)
  all_goals simp_all [truthV, yes]
  all_goals (cases h : decide (v.n = 0) <;> simp_all)
theorem valOf_ok (t : Int) : Pure Tryz.prog 236 [.c (.int .i64 t)] (.tup [.agg (encV (asV t).1), .c (.bool (asV t).2)]) := by
  refine Pure.run mixed c_impl_valOf_ok (Nat.le_of_ble_eq_true rfl) fun σ hS hA => ?_
  clear hS hA
  repeat' first|refine yaG ?_|(exfalso;omega)|(refine yaS ?_ ?_<;>intro _)
  · rename_i h
    rw [asV, if_pos h]
    exact .ret (retv_mt rfl rfl rfl (Nat.zero_le _) rfl rfl) (fin_vb _ _)
  · rename_i h
    rw [asV, if_neg h]
    exact .ret (retv_mt rfl rfl rfl (Nat.zero_le _) rfl rfl) (fin_vb (vInt t) _)
theorem areKnown_ok (v w : Val) : Pure Tryz.prog 286 [.agg (encV v), .agg (encV w)] (.c (.bool (knownV v w))) := by
  refine Pure.run mixed c_impl_areKnown_ok (Nat.le_of_ble_eq_true rfl) fun σ hS hA => ?_
  clear hS hA
  repeat' first|refine yaG ?_|((first|apply Go.pcallB|apply Go.spcallB|apply Qg.pcallB);(iterate 3 exact rfl);(first|exact ValOk_ok v|exact ValOk_ok w);intro _ _)|(exfalso;omega)|(refine yaS ?_ ?_<;>intro _)
  all_goals refine .ret rfl (.bool ?_)
  all_goals simp_all [knownV]
  all_goals first
    | rfl
    | (rename_i h; rw [beq_eq_false_iff_ne.2 h]; rfl)
theorem Equal3_ok (v w : Val) : Pure Tryz.prog 237 [.agg (encV v), .agg (encV w)] (.c (.int .i64 (eq3 v w))) := by
  refine Pure.run mixed c_impl_Equal3_ok (Nat.le_of_ble_eq_true rfl) fun σ hS hA => ?_
  clear hS hA
  repeat' first|refine yaG ?_|((first|apply yQ|apply yR|apply yS);(iterate 3 exact rfl);exact truthOf_ok _)|((first|apply Go.pcallB|apply Go.spcallB|apply Qg.pcallB);(iterate 3 exact rfl);exact areKnown_ok v w;intro _ _)|(exfalso;omega)|(refine yaS ?_ ?_<;>intro _)
  all_goals refine .ret rfl (.int ?_)
  all_goals rename_i b p k
  · rw [eq3, nbT p k]
    rfl
  · rw [eq3, nbF p k, val_eq]
    rfl
theorem Less3_ok (v w : Val) : Pure Tryz.prog 238 [.agg (encV v), .agg (encV w)] (.c (.int .i64 (less3 v w))) := by
  refine Pure.run mixed c_impl_Less3_ok (Nat.le_of_ble_eq_true rfl) fun σ hS hA => ?_
  clear hS hA
  repeat' first|refine yaG ?_|refine yaC (order_ok v w) ?_|((first|apply yQ|apply yR|apply yS);(iterate 3 exact rfl);exact truthOf_ok _)|((first|apply Go.pcallB|apply Go.spcallB|apply Qg.pcallB);(iterate 3 exact rfl);exact areKnown_ok v w;intro _ _)|(exfalso;omega)|(refine yaS ?_ ?_<;>intro _)
  all_goals refine .ret rfl (.int ?_)
  all_goals rename_i b p k
  · rw [less3, nbT p k]
    rfl
  · rw [less3, nbF p k]
    rfl
theorem areTruths1_ok (t : Int) : Pure Tryz.prog 301 [.c (.int .i64 t)] (.c (.bool (!tru t))) := by
  refine Pure.run mixed c_impl_areTruths_1_ok (Nat.le_of_ble_eq_true rfl) fun σ hS hA => ?_
  clear hS hA
  repeat' first|refine yaG ?_|((first|apply yQ|apply yR|apply yS);(iterate 3 exact rfl);exact in_ok _ _ _)|(exfalso;omega)|(refine yaS ?_ ?_<;>intro _)
  exact .ret rfl (.bool rfl)
theorem areTruths_ok (l : List Int) (hx : l.length ≤ 34359738368) : Pure Tryz.prog 287 [.c (.fz (l.map encI))] (.c (.bool (!(l.any fun t => !tru t)))) := by
  refine Pure.run mixed c_impl_areTruths_ok (Nat.le_of_ble_eq_true rfl) fun σ hS hA => ?_
  clear hS hA
  repeat' first|refine yaG ?_|((first|apply yQ|apply yR|apply yS);(iterate 3 exact rfl);exact containsFuncA_ok mixed c_slices_ContainsFunc_int64_int64'_ok c_slices_IndexFunc_int64_int64'_ok encI (fun n => .c (.int .i64 n)) (fun _ => rfl) (fun _ => rfl) l (fun t => !tru t) _ [] [] hx (fun j hj _ => areTruths1_ok _))|(exfalso;omega)|(refine yaS ?_ ?_<;>intro _)
  exact .ret rfl (.bool rfl)
theorem two_truths (a b : Int) : (!([a, b].any fun t => !tru t)) = (tru a && tru b) := by
  simp only [List.any_cons, List.any_nil]
  cases tru a <;> cases tru b <;> rfl
theorem And3_ok (a b : Int) : Pure Tryz.prog 239 [.c (.int .i64 a), .c (.int .i64 b)] (.c (.int .i64 (and3 a b))) := by
  refine Pure.run mixed c_impl_And3_ok (Nat.le_of_ble_eq_true rfl) fun σ hS hA => ?_
  clear hS hA
  have c1 := areTruths_ok [a, b] (by simp)
  rw [two_truths] at c1
  repeat' first|refine yaG ?_|((first|apply Go.pcallB|apply Go.spcallB|apply Qg.pcallB);(iterate 3 exact rfl);exact c1;intro _ _)|(exfalso;omega)|(refine yaS ?_ ?_<;>intro _)
  all_goals refine .ret rfl (.int ?_)
  all_goals clear c1
  all_goals simp_all [and3]
theorem Or3_ok (a b : Int) : Pure Tryz.prog 240 [.c (.int .i64 a), .c (.int .i64 b)] (.c (.int .i64 (or3 a b))) := by
  refine Pure.run mixed c_impl_Or3_ok (Nat.le_of_ble_eq_true rfl) fun σ hS hA => ?_
  clear hS hA
  have c1 := areTruths_ok [a, b] (by simp)
  rw [two_truths] at c1
  repeat' first|refine yaG ?_|((first|apply Go.pcallB|apply Go.spcallB|apply Qg.pcallB);(iterate 3 exact rfl);exact c1;intro _ _)|(exfalso;omega)|(refine yaS ?_ ?_<;>intro _)
  all_goals refine .ret rfl (.int ?_)
  all_goals clear c1
  all_goals simp_all [or3]
theorem Not3_ok (a : Int) : Pure Tryz.prog 241 [.c (.int .i64 a)] (.c (.int .i64 (not3 a))) := by
  refine Pure.run mixed c_impl_Not3_ok (Nat.le_of_ble_eq_true rfl) fun σ hS hA => ?_
  clear hS hA
  have c1 := areTruths_ok [a] (by simp)
  have h1 : (!([a].any fun t => !tru t)) = tru a := by simp only [List.any_cons, List.any_nil]; cases tru a <;> rfl
  rw [h1] at c1
  repeat' first|refine yaG ?_|((first|apply Go.pcallB|apply Go.spcallB|apply Qg.pcallB);(iterate 3 exact rfl);exact c1;intro _ _)|(exfalso;omega)|(refine yaS ?_ ?_<;>intro _)
  all_goals refine .ret rfl (.int ?_)
  all_goals clear c1
  · rename_i b p k
    rw [not3, nbT p k]
    rfl
  · rename_i b p k h
    rw [not3, nbF p k, if_pos rfl, if_pos h]
  · rename_i b p k h
    have hr := tru_range.1 (nbF p k)
    rw [not3, nbF p k, if_pos rfl, if_neg h]
    exact wrap64 (by omega) (by omega)
theorem sumOf_ok (a b : Val) (s : Int) (hs : s = 1 ∨ s = -1) (ha : okVal a = true) (hb : okVal b = true) : Pure Tryz.prog 243 [.agg (encV a), .agg (encV b), .c (.int .i64 s)] (.tup [.agg (encV (sumV a b s).1), .c (.bool (sumV a b s).2)]) := by
  refine Pure.run mixed c_impl_sumOf_ok (Nat.le_of_ble_eq_true rfl) fun σ hS hA => ?_
  clear hS hA
  by_cases h1 : a.k = 2 ∨ b.k = 2
  · have e : sumV a b s = (vNull, false) := by simp only [sumV, if_pos h1]
    rw [e]
    rcases h1 with h1 | h1
    · repeat' first|refine yaG ?_|(exfalso;omega)|(refine yaS ?_ ?_<;>intro _)
      all_goals first
        | exact .ret (retv_mt rfl rfl rfl (Nat.zero_le _) rfl rfl) (fin_vb vNull _)
        | (exfalso; omega)
    · repeat' first|refine yaG ?_|(exfalso;omega)|(refine yaS ?_ ?_<;>intro _)
      all_goals first
        | exact .ret (retv_mt rfl rfl rfl (Nat.zero_le _) rfl rfl) (fin_vb vNull _)
        | (exfalso; omega)
  by_cases h2 : a.k = 0 ∨ b.k = 0
  · have e : sumV a b s = (vNull, true) := by simp only [sumV, if_neg h1, if_pos h2]
    rw [e]
    rcases h2 with h2 | h2
    · repeat' first|refine yaG ?_|(exfalso;omega)|(refine yaS ?_ ?_<;>intro _)
      all_goals first
        | exact .ret (retv_mt rfl rfl rfl (Nat.zero_le _) rfl rfl) (fin_vb vNull _)
        | (exfalso; omega)
    · repeat' first|refine yaG ?_|(exfalso;omega)|(refine yaS ?_ ?_<;>intro _)
      all_goals first
        | exact .ret (retv_mt rfl rfl rfl (Nat.zero_le _) rfl rfl) (fin_vb vNull _)
        | (exfalso; omega)
  have e : sumV a b s = (vInt (a.n + s * b.n), okVal (vInt (a.n + s * b.n))) := by simp only [sumV, if_neg h1, if_neg h2]
  have ka : a.k = 1 := by have := okVal_kind ha; omega
  have kb : b.k = 1 := by have := okVal_kind hb; omega
  have ra := okVal_range ha ka
  have rb := okVal_range hb kb
  have hw : IntKind.i64.wrap (a.n + IntKind.i64.wrap (s * b.n)) = a.n + s * b.n := by
    rcases hs with rfl | rfl
    · rw [wrap64 (n := 1 * b.n) (by omega) (by omega), wrap64 (by omega) (by omega)]
    · rw [wrap64 (n := -1 * b.n) (by omega) (by omega), wrap64 (by omega) (by omega)]
  rw [e]
  repeat' first|refine yaG ?_|((first|apply yG|apply yH|apply yI);exact rfl;(first|exact aop_store rfl rfl rfl rfl rfl rfl (Nat.le_of_ble_eq_true rfl)))|refine yaC (ValOk_ok (vInt (IntKind.i64.wrap (a.n + IntKind.i64.wrap (s * b.n))))) ?_|(exfalso;omega)|(refine yaS ?_ ?_<;>intro _)
  all_goals first
    | (exfalso; omega)
    | skip
  rw [hw]
  exact .ret (retv_mt rfl rfl rfl (Nat.zero_le _) rfl rfl) (fin_vb (vInt _) _)
theorem apply0_ok (t : Tok) (row : List Val) (hk : t.kind = 1 ∨ t.kind = 2) (hc : t.kind = 1 → 0 ≤ t.col ∧ t.col < row.length) : Pure Tryz.prog 171 [.agg (encTok t), .c (.fz []), .c (.fz (row.map encV))] (.tup [.agg (encV (applyF t [] row).1), .c (.bool (applyF t [] row).2)]) := by
  refine Pure.run mixed c_impl_Tok_apply_ok (Nat.le_of_ble_eq_true rfl) fun σ hS hA => ?_
  clear hS hA
  rcases hk with h1 | h1
  · have h2 := hc h1
    have hn : t.col.toNat < row.length := by omega
    have hz : t.col = (t.col.toNat : Int) := by omega
    have e : applyF t [] row = (row[t.col.toNat], true) := by simp [applyF, h1, vAt, hn]
    rw [e]
    repeat' first|refine yaG ?_|((first|apply yG|apply yH|apply yI);exact rfl;(first|exact yX (enc := encV) rfl rfl hz hn rfl))|(exfalso;omega)|(refine yaS ?_ ?_<;>intro _)
    exact .ret (retv_mt rfl rfl rfl (Nat.zero_le _) rfl rfl) (fin_vb row[t.col.toNat] _)
  · have e : applyF t [] row = (t.v, true) := by simp [applyF, h1]
    rw [e]
    repeat' first|refine yaG ?_|(exfalso;omega)|(refine yaS ?_ ?_<;>intro _)
    exact .ret (retv_mt rfl rfl rfl (Nat.zero_le _) rfl rfl) (fin_vb t.v _)
theorem apply1_ok (t : Tok) (x : Val) (row : List Val) (hk : t.kind = 7 ∨ t.kind = 8) : Pure Tryz.prog 171 [.agg (encTok t), .c (.fz [encV x]), .c (.fz (row.map encV))] (.tup [.agg (encV (applyF t [x] row).1), .c (.bool (applyF t [x] row).2)]) := by
  refine Pure.run mixed c_impl_Tok_apply_ok (Nat.le_of_ble_eq_true rfl) fun σ hS hA => ?_
  clear hS hA
  rcases hk with h1 | h1
  · have e : applyF t [x] row = asV (not3 (truthV x)) := by simp [applyF, h1, vAt]
    rw [e]
    repeat' first|refine yaG ?_|refine yaC (truth_ok x) ?_|((first|apply yQ|apply yR|apply yS);(iterate 3 exact rfl);exact Not3_ok _)|((first|apply yQ|apply yR|apply yS);(iterate 3 exact rfl);exact valOf_ok _)|(exfalso;omega)|(refine yaS ?_ ?_<;>intro _)
    exact .ret (retv_mt rfl rfl rfl (Nat.zero_le _) rfl rfl) (fin_vb _ _)
  · have e : applyF t [x] row = asV (yes (x.k == 0)) := by simp [applyF, h1, vAt]
    rw [e]
    repeat' first|refine yaG ?_|((first|apply yQ|apply yR|apply yS);(iterate 3 exact rfl);exact truthOf_ok _)|((first|apply yQ|apply yR|apply yS);(iterate 3 exact rfl);exact valOf_ok _)|(exfalso;omega)|(refine yaS ?_ ?_<;>intro _)
    exact .ret (retv_mt rfl rfl rfl (Nat.zero_le _) rfl rfl) (fin_vb _ _)
theorem apply2_ok (t : Tok) (x y : Val) (row : List Val) (hk : t.kind = 3 ∨ t.kind = 4 ∨ t.kind = 5 ∨ t.kind = 6 ∨ t.kind = 9 ∨ t.kind = 10) (hx : okVal x = true) (hy : okVal y = true) : Pure Tryz.prog 171 [.agg (encTok t), .c (.fz [encV x, encV y]), .c (.fz (row.map encV))] (.tup [.agg (encV (applyF t [x, y] row).1), .c (.bool (applyF t [x, y] row).2)]) := by
  refine Pure.run mixed c_impl_Tok_apply_ok (Nat.le_of_ble_eq_true rfl) fun σ hS hA => ?_
  clear hS hA
  obtain ⟨r, hr⟩ : ∃ r, applyF t [x, y] row = r := ⟨_, rfl⟩
  rcases hk with h1 | h1 | h1 | h1 | h1 | h1
  all_goals simp only [applyF, h1, vAt, List.getElem?_cons_zero, List.getElem?_cons_succ, Option.getD_some, Int.reduceEq, if_true, if_false, reduceIte] at hr
  all_goals rw [show applyF t [x, y] row = r by simp [applyF, h1, vAt, hr]]
  all_goals repeat' first|refine yaG ?_|((first|apply yG|apply yH|apply yI);exact rfl;(first|exact aop_store rfl rfl rfl rfl rfl rfl (Nat.le_of_ble_eq_true rfl)))|refine yaC (Equal3_ok x y) ?_|refine yaC (Less3_ok x y) ?_|refine yaC (truth_ok x) ?_|refine yaC (truth_ok y) ?_|((first|apply yQ|apply yR|apply yS);(iterate 3 exact rfl);exact And3_ok _ _)|((first|apply yQ|apply yR|apply yS);(iterate 3 exact rfl);exact Or3_ok _ _)|refine yaC (sumOf_ok x y 1 (.inl rfl) hx hy) ?_|refine yaC (sumOf_ok x y (-1) (.inr rfl) hx hy) ?_|((first|apply yQ|apply yR|apply yS);(iterate 3 exact rfl);exact valOf_ok _)|(exfalso;omega)|(refine yaS ?_ ?_<;>intro _)
  all_goals subst hr
  all_goals exact .ret (retv_mt rfl rfl rfl (Nat.zero_le _) rfl rfl) (fin_vb _ _)
end Go.Proofs.YtinbdedlmkjokaaGreat.Am

/- Truths and what is made of values: the reference. -/
set_option linter.unusedVariables false
set_option linter.unusedSimpArgs false
namespace Go.Proofs.YtinbdedlmkjokaaGreat.Am

theorem fin_ib {σ : Store} {l : List (Nat × List (List Ce))} (n : Int) (b : Bool) : Fin σ (.tup [.c (.int .i64 n), .c (.bool b)]) (.tup [.c (.int .i64 n), .c (.bool b)]) (E σ l) :=
  ⟨l, rfl, .refl fun y hy => by
    simp [AV.all, AV.all.allL] at hy
    rcases hy with rfl | rfl
    · exact .int _ _
    · exact .bool _⟩
theorem l1Yes_ok (b : Bool) : Pure Tryz.prog 178 [.c (.bool b)] (.c (.int .i64 (yes b))) := by
  refine Pure.run mixed c_spec_l1Yes_ok (Nat.le_of_ble_eq_true rfl) fun σ hS hA => ?_
  clear hS hA
  repeat' first|refine yaG ?_|(exfalso;omega)|(refine yaS ?_ ?_<;>intro _)
  all_goals refine .ret rfl (.int ?_)
  all_goals simp_all [yes]
theorem l1Int_ok (n : Int) : Pure Tryz.prog 150 [.c (.int .i64 n)] (.agg (encV (vInt n))) := by
  refine Pure.run mixed c_spec_l1Int_ok (Nat.le_of_ble_eq_true rfl) fun σ hS hA => ?_
  clear hS hA
  repeat' first|refine yaG ?_|(exfalso;omega)|(refine yaS ?_ ?_<;>intro _)
  exact .ret (retv_m rfl rfl rfl (Nat.zero_le _) rfl) (fin_v (vInt n))
def asR (t : Int) : Val := if t = 2 then vNull else vInt t
theorem l2As_ok (t : Int) : Pure Tryz.prog 180 [.c (.int .i64 t)] (.agg (encV (asR t))) := by
  refine Pure.run mixed c_spec_l2As_ok (Nat.le_of_ble_eq_true rfl) fun σ hS hA => ?_
  clear hS hA
  repeat' first|refine yaG ?_|refine yaC (l1Int_ok t) ?_|(exfalso;omega)|(refine yaS ?_ ?_<;>intro _)
  · rename_i h
    rw [asR, if_pos h]
    exact .ret (retv_m rfl rfl rfl (Nat.zero_le _) rfl) (fin_v vNull)
  · rename_i h
    rw [asR, if_neg h]
    exact .ret (retv_m rfl rfl rfl (Nat.zero_le _) rfl) (fin_v (vInt t))
def ofT (v : Val) : Int := if v.k = 0 then 2 else if v.k = 1 then yes (v.n != 0) else 0
def ofB (v : Val) : Bool := decide (v.k = 0) || decide (v.k = 1)
theorem l2Of_ok (v : Val) : Pure Tryz.prog 179 [.agg (encV v)] (.tup [.c (.int .i64 (ofT v)), .c (.bool (ofB v))]) := by
  refine Pure.run mixed c_spec_l2Of_ok (Nat.le_of_ble_eq_true rfl) fun σ hS hA => ?_
  clear hS hA
  repeat' first|refine yaG ?_|((first|apply yQ|apply yR|apply yS);(iterate 3 exact rfl);exact l1Yes_ok _)|(exfalso;omega)|(refine yaS ?_ ?_<;>intro _)
  · rename_i h
    rw [ofT, if_pos h, ofB, decide_eq_true h]
    exact .ret rfl (fin_ib _ _)
  · rename_i h h1
    rw [ofT, if_neg h, if_pos h1, ofB, decide_eq_true h1, Bool.or_true]
    exact .ret rfl (fin_ib _ _)
  · rename_i h h1
    rw [ofT, if_neg h, if_neg h1, ofB, decide_eq_false h, decide_eq_false h1]
    exact .ret rfl (fin_ib _ _)
theorem sEqual3_ok (v w : Val) : Pure Tryz.prog 246 [.agg (encV v), .agg (encV w)] (.c (.int .i64 (eq3 v w))) := by
  refine Pure.run mixed c_spec_Equal3_ok (Nat.le_of_ble_eq_true rfl) fun σ hS hA => ?_
  clear hS hA
  cases hk : knownV v w
  · rw [eq3, hk]
    have hk2 := hk
    simp only [knownV] at hk2
    repeat' first|refine yaG ?_|((first|apply yQ|apply yR|apply yS);(iterate 3 exact rfl);exact l1Yes_ok _)|((first|apply Go.pcallB|apply Go.spcallB|apply Qg.pcallB);(iterate 3 exact rfl);(first|exact sValOk_ok v|exact sValOk_ok w);intro _ _)|(exfalso;omega)|(refine yaS ?_ ?_<;>intro _)
    all_goals first
      | exact .ret rfl (.int rfl)
      | (exfalso; simp_all; done)
  · rw [eq3, hk]
    have hk2 := hk
    simp only [knownV, Bool.and_eq_true, Bool.not_eq_true', beq_eq_false_iff_ne] at hk2
    obtain ⟨k1, k2, k3, k4⟩ := hk2
    have c1 := sValOk_ok v
    have c2 := sValOk_ok w
    rw [k1] at c1
    rw [k2] at c2
    repeat' first|refine yaG ?_|refine yaC (c1) ?_|refine yaC (c2) ?_|((first|apply yQ|apply yR|apply yS);(iterate 3 exact rfl);exact l1Yes_ok _)|(exfalso;omega)|(refine yaS ?_ ?_<;>intro _)
    all_goals first
      | (refine .ret rfl (.int ?_); rw [val_eq]; rfl)
      | (exfalso; simp_all; done)
theorem sLess3_ok (v w : Val) : Pure Tryz.prog 247 [.agg (encV v), .agg (encV w)] (.c (.int .i64 (less3 v w))) := by
  refine Pure.run mixed c_spec_Less3_ok (Nat.le_of_ble_eq_true rfl) fun σ hS hA => ?_
  clear hS hA
  cases hk : knownV v w
  · rw [less3, hk]
    have hk2 := hk
    simp only [knownV] at hk2
    repeat' first|refine yaG ?_|refine yaC (l1Order_ok v w) ?_|((first|apply yQ|apply yR|apply yS);(iterate 3 exact rfl);exact l1Yes_ok _)|((first|apply Go.pcallB|apply Go.spcallB|apply Qg.pcallB);(iterate 3 exact rfl);(first|exact sValOk_ok v|exact sValOk_ok w);intro _ _)|(exfalso;omega)|(refine yaS ?_ ?_<;>intro _)
    all_goals first
      | exact .ret rfl (.int rfl)
      | (exfalso; simp_all; done)
  · rw [less3, hk]
    have hk2 := hk
    simp only [knownV, Bool.and_eq_true, Bool.not_eq_true', beq_eq_false_iff_ne] at hk2
    obtain ⟨k1, k2, k3, k4⟩ := hk2
    have c1 := sValOk_ok v
    have c2 := sValOk_ok w
    have c3 := l1Order_ok v w
    rw [l1Ord_order k1 k2] at c3
    rw [k1] at c1
    rw [k2] at c2
    repeat' first|refine yaG ?_|refine yaC (c1) ?_|refine yaC (c2) ?_|refine yaC (c3) ?_|((first|apply yQ|apply yR|apply yS);(iterate 3 exact rfl);exact l1Yes_ok _)|(exfalso;omega)|(refine yaS ?_ ?_<;>intro _)
    all_goals first
      | exact .ret rfl (.int rfl)
      | (exfalso; simp_all; done)
theorem l2Tru_ok (t : Int) : Pure Tryz.prog 288 [.c (.int .i64 t)] (.c (.bool (tru t))) := by
  refine Pure.run mixed c_spec_l2Tru_ok (Nat.le_of_ble_eq_true rfl) fun σ hS hA => ?_
  clear hS hA
  repeat' first|refine yaG ?_|((first|apply yQ|apply yR|apply yS);(iterate 3 exact rfl);exact l1In_ok _ _ _)|(exfalso;omega)|(refine yaS ?_ ?_<;>intro _)
  exact .ret rfl (.bool rfl)
theorem sAnd3_ok (a b : Int) : Pure Tryz.prog 249 [.c (.int .i64 a), .c (.int .i64 b)] (.c (.int .i64 (and3 a b))) := by
  refine Pure.run mixed c_spec_And3_ok (Nat.le_of_ble_eq_true rfl) fun σ hS hA => ?_
  clear hS hA
  repeat' first|refine yaG ?_|((first|apply Go.pcallB|apply Go.spcallB|apply Qg.pcallB);(iterate 3 exact rfl);(first|exact l2Tru_ok a|exact l2Tru_ok b);intro _ _)|(exfalso;omega)|(refine yaS ?_ ?_<;>intro _)
  all_goals refine .ret rfl (.int ?_)
  all_goals simp_all [and3]
theorem sOr3_ok (a b : Int) : Pure Tryz.prog 250 [.c (.int .i64 a), .c (.int .i64 b)] (.c (.int .i64 (or3 a b))) := by
  refine Pure.run mixed c_spec_Or3_ok (Nat.le_of_ble_eq_true rfl) fun σ hS hA => ?_
  clear hS hA
  repeat' first|refine yaG ?_|((first|apply Go.pcallB|apply Go.spcallB|apply Qg.pcallB);(iterate 3 exact rfl);(first|exact l2Tru_ok a|exact l2Tru_ok b);intro _ _)|(exfalso;omega)|(refine yaS ?_ ?_<;>intro _)
  all_goals refine .ret rfl (.int ?_)
  all_goals simp_all [or3]
theorem sNot3_ok (a : Int) : Pure Tryz.prog 181 [.c (.int .i64 a)] (.c (.int .i64 (not3 a))) := by
  refine Pure.run mixed c_spec_Not3_ok (Nat.le_of_ble_eq_true rfl) fun σ hS hA => ?_
  clear hS hA
  repeat' first|refine yaG ?_|(exfalso;omega)|(refine yaS ?_ ?_<;>intro _)
  all_goals refine .ret rfl (.int ?_)
  · rename_i h; subst h; rfl
  · rename_i h1 h; subst h; rfl
  · rename_i h1 h2 h; subst h; rfl
  · rename_i h1 h2 h3
    have : tru a = false := by
      cases ht : tru a
      · rfl
      · have := tru_range.1 ht; omega
    rw [not3, this]
    rfl
theorem l2Sum_ok (a b : Val) (s : Int) (hs : s = 1 ∨ s = -1) (ha : okVal a = true) (hb : okVal b = true) : Pure Tryz.prog 248 [.agg (encV a), .agg (encV b), .c (.int .i64 s)] (.tup [.agg (encV (sumV a b s).1), .c (.bool (sumV a b s).2)]) := by
  refine Pure.run mixed c_spec_l2Sum_ok (Nat.le_of_ble_eq_true rfl) fun σ hS hA => ?_
  clear hS hA
  by_cases h1 : a.k = 2 ∨ b.k = 2
  · have e : sumV a b s = (vNull, false) := by simp only [sumV, if_pos h1]
    rw [e]
    rcases h1 with h1 | h1
    · repeat' first|refine yaG ?_|(exfalso;omega)|(refine yaS ?_ ?_<;>intro _)
      all_goals first
        | exact .ret (retv_mt rfl rfl rfl (Nat.zero_le _) rfl rfl) (fin_vb vNull _)
        | (exfalso; omega)
    · repeat' first|refine yaG ?_|(exfalso;omega)|(refine yaS ?_ ?_<;>intro _)
      all_goals first
        | exact .ret (retv_mt rfl rfl rfl (Nat.zero_le _) rfl rfl) (fin_vb vNull _)
        | (exfalso; omega)
  by_cases h2 : a.k = 0 ∨ b.k = 0
  · have e : sumV a b s = (vNull, true) := by simp only [sumV, if_neg h1, if_pos h2]
    rw [e]
    rcases h2 with h2 | h2
    · repeat' first|refine yaG ?_|(exfalso;omega)|(refine yaS ?_ ?_<;>intro _)
      all_goals first
        | exact .ret (retv_mt rfl rfl rfl (Nat.zero_le _) rfl rfl) (fin_vb vNull _)
        | (exfalso; omega)
    · repeat' first|refine yaG ?_|(exfalso;omega)|(refine yaS ?_ ?_<;>intro _)
      all_goals first
        | exact .ret (retv_mt rfl rfl rfl (Nat.zero_le _) rfl rfl) (fin_vb vNull _)
        | (exfalso; omega)
  have e : sumV a b s = (vInt (a.n + s * b.n), okVal (vInt (a.n + s * b.n))) := by simp only [sumV, if_neg h1, if_neg h2]
  have ka : a.k = 1 := by have := okVal_kind ha; omega
  have kb : b.k = 1 := by have := okVal_kind hb; omega
  have ra := okVal_range ha ka
  have rb := okVal_range hb kb
  have hw : IntKind.i64.wrap (a.n + IntKind.i64.wrap (s * b.n)) = a.n + s * b.n := by
    rcases hs with rfl | rfl
    · rw [wrap64 (n := 1 * b.n) (by omega) (by omega), wrap64 (by omega) (by omega)]
    · rw [wrap64 (n := -1 * b.n) (by omega) (by omega), wrap64 (by omega) (by omega)]
  rw [e]
  repeat' first|refine yaG ?_|((first|apply yG|apply yH|apply yI);exact rfl;(first|exact aop_store rfl rfl rfl rfl rfl rfl (Nat.le_of_ble_eq_true rfl)))|((first|apply yQ|apply yR|apply yS);(iterate 3 exact rfl);exact l1Int_ok _)|refine yaC (sValOk_ok (vInt (IntKind.i64.wrap (a.n + IntKind.i64.wrap (s * b.n))))) ?_|(exfalso;omega)|(refine yaS ?_ ?_<;>intro _)
  all_goals first
    | (exfalso; omega)
    | skip
  rw [hw]
  exact .ret (retv_mt rfl rfl rfl (Nat.zero_le _) rfl rfl) (fin_vb (vInt _) _)
def twoR (k : Int) (a b : Val) : Val × Bool := if k = 3 then (asR (eq3 a b), true) else if k = 4 then (asR (less3 a b), true) else if k = 9 then sumV a b 1 else if k = 10 then sumV a b (-1)
  else if ofB a && ofB b then (asR (if k = 5 then and3 (ofT a) (ofT b) else or3 (ofT a) (ofT b)), true) else (vNull, false)
theorem l2Two_ok (k : Int) (a b : Val) (ha : okVal a = true) (hb : okVal b = true) : Pure Tryz.prog 182 [.c (.int .i64 k), .agg (encV a), .agg (encV b)] (.tup [.agg (encV (twoR k a b).1), .c (.bool (twoR k a b).2)]) := by
  refine Pure.run mixed c_spec_l2Two_ok (Nat.le_of_ble_eq_true rfl) fun σ hS hA => ?_
  clear hS hA
  repeat' first|refine yaG ?_|refine yaC (sEqual3_ok a b) ?_|refine yaC (sLess3_ok a b) ?_|((first|apply yQ|apply yR|apply yS);(iterate 3 exact rfl);exact l2As_ok _)|refine yaC (l2Sum_ok a b 1 (.inl rfl) ha hb) ?_|refine yaC (l2Sum_ok a b (-1) (.inr rfl) ha hb) ?_|refine yaC (l2Of_ok a) ?_|refine yaC (l2Of_ok b) ?_|((first|apply yQ|apply yR|apply yS);(iterate 3 exact rfl);exact sAnd3_ok _ _)|((first|apply yQ|apply yR|apply yS);(iterate 3 exact rfl);exact sOr3_ok _ _)|(exfalso;omega)|(refine yaS ?_ ?_<;>intro _)
  · rename_i h
    rw [twoR, if_pos h]
    exact .ret (retv_mt rfl rfl rfl (Nat.zero_le _) rfl rfl) (fin_vb _ _)
  · rename_i h0 h
    rw [twoR, if_neg h0, if_pos h]
    exact .ret (retv_mt rfl rfl rfl (Nat.zero_le _) rfl rfl) (fin_vb _ _)
  · rename_i h0 h1 h
    rw [twoR, if_neg h0, if_neg h1, if_pos h]
    exact .ret (retv_mt rfl rfl rfl (Nat.zero_le _) rfl rfl) (fin_vb _ _)
  · rename_i h0 h1 h2 h
    rw [twoR, if_neg h0, if_neg h1, if_neg h2, if_pos h]
    exact .ret (retv_mt rfl rfl rfl (Nat.zero_le _) rfl rfl) (fin_vb _ _)
  · rename_i h0 h1 h2 h3 h
    have h : ofB a = false := by simpa using h
    rw [twoR, if_neg h0, if_neg h1, if_neg h2, if_neg h3, h]
    exact .ret (retv_mt rfl rfl rfl (Nat.zero_le _) rfl rfl) (fin_vb vNull _)
  · rename_i h0 h1 h2 h3 h4 h
    have h : ofB b = false := by simpa using h
    rw [twoR, if_neg h0, if_neg h1, if_neg h2, if_neg h3, h, Bool.and_false]
    exact .ret (retv_mt rfl rfl rfl (Nat.zero_le _) rfl rfl) (fin_vb vNull _)
  · rename_i h0 h1 h2 h3 h4 h h5
    have h4 : ofB a = true := by simpa using h4
    have h : ofB b = true := by simpa using h
    rw [twoR, if_neg h0, if_neg h1, if_neg h2, if_neg h3, h4, h, if_pos h5]
    exact .ret (retv_mt rfl rfl rfl (Nat.zero_le _) rfl rfl) (fin_vb _ _)
  · rename_i h0 h1 h2 h3 h4 h h5
    have h4 : ofB a = true := by simpa using h4
    have h : ofB b = true := by simpa using h
    rw [twoR, if_neg h0, if_neg h1, if_neg h2, if_neg h3, h4, h, if_neg h5]
    exact .ret (retv_mt rfl rfl rfl (Nat.zero_le _) rfl rfl) (fin_vb _ _)
theorem asV_asR {t : Int} (h0 : 0 ≤ t) : asV t = (asR t, true) := by
  simp only [asV, asR]
  split
  · rfl
  · rw [decide_eq_true h0]
theorem ofB_truth {a : Val} (h : ofB a = true) : truthV a = ofT a ∧ 0 ≤ ofT a ∧ ofT a ≤ 2 := by
  simp only [ofB, Bool.or_eq_true, decide_eq_true_eq] at h
  simp only [truthV, ofT]
  have := yes_range (a.n != 0)
  rcases h with h | h
  · simp [h]
  · have hn : ¬ a.k = 0 := by omega
    simp only [if_neg hn, if_pos h]
    refine ⟨?_, this.1, by omega⟩
    by_cases h0 : a.n = 0 <;> simp [h0, yes]
theorem ofB_not {a : Val} (h : ofB a = false) : truthV a = -1 := by
  simp only [ofB, Bool.or_eq_false_iff, decide_eq_false_iff_not] at h
  rw [truthV, if_neg h.1, if_neg h.2]
theorem and3_tru {a b : Int} (ha : 0 ≤ a ∧ a ≤ 2) (hb : 0 ≤ b ∧ b ≤ 2) : 0 ≤ and3 a b := by
  rw [and3, tru_range.2 ha, tru_range.2 hb]
  simp only [Bool.and_self, if_true]
  split
  · omega
  · split <;> omega
theorem or3_tru {a b : Int} (ha : 0 ≤ a ∧ a ≤ 2) (hb : 0 ≤ b ∧ b ≤ 2) : 0 ≤ or3 a b := by
  rw [or3, tru_range.2 ha, tru_range.2 hb]
  simp only [Bool.and_self, if_true]
  split
  · omega
  · split <;> omega
/-- The reference's op of two is the program's. -/
theorem twoR_eq (t : Tok) (a b : Val) (row : List Val) (hk : t.kind = 3 ∨ t.kind = 4 ∨ t.kind = 5 ∨ t.kind = 6 ∨ t.kind = 9 ∨ t.kind = 10) : (twoR t.kind a b).2 = (applyF t [a, b] row).2 ∧ ((applyF t [a, b] row).2 = true → twoR t.kind a b = applyF t [a, b] row) := by
  have h5 : ∀ f : Int → Int → Int, (f = and3 ∨ f = or3) → (if ofB a && ofB b then (asR (f (ofT a) (ofT b)), true) else (vNull, false)).2 = (asV (f (truthV a) (truthV b))).2 ∧ ((asV (f (truthV a) (truthV b))).2 = true → (if ofB a && ofB b then (asR (f (ofT a) (ofT b)), true) else (vNull, false)) = asV (f (truthV a) (truthV b))) := by
    intro f hf
    cases h1 : ofB a
    · have h3 : asV (f (truthV a) (truthV b)) = (vInt (-1), false) := by
        rw [ofB_not h1]
        rcases hf with rfl | rfl
        · rw [and3, show tru (-1) = false from rfl]; rfl
        · rw [or3, show tru (-1) = false from rfl]; rfl
      rw [h3]
      simp
    cases h2 : ofB b
    · have h3 : asV (f (truthV a) (truthV b)) = (vInt (-1), false) := by
        rw [ofB_not h2]
        rcases hf with rfl | rfl
        · rw [and3, show tru (-1) = false from rfl, Bool.and_false]; rfl
        · rw [or3, show tru (-1) = false from rfl, Bool.and_false]; rfl
      rw [h3]
      simp
    obtain ⟨e1, r1⟩ := ofB_truth h1
    obtain ⟨e2, r2⟩ := ofB_truth h2
    rw [e1, e2, asV_asR (by
      rcases hf with rfl | rfl
      · exact and3_tru r1 r2
      · exact or3_tru r1 r2)]
    simp
  rcases hk with h | h | h | h | h | h
  · simp only [twoR, applyF, vAt, h, List.getElem?_cons_zero, List.getElem?_cons_succ, Option.getD_some, Int.reduceEq, if_true, if_false, reduceIte]
    rw [asV_asR (eq3_range a b).1]
    simp
  · simp only [twoR, applyF, vAt, h, List.getElem?_cons_zero, List.getElem?_cons_succ, Option.getD_some, Int.reduceEq, if_true, if_false, reduceIte]
    rw [asV_asR (less3_range a b).1]
    simp
  · simp only [twoR, applyF, vAt, h, List.getElem?_cons_zero, List.getElem?_cons_succ, Option.getD_some, Int.reduceEq, if_true, if_false, reduceIte]
    exact h5 and3 (.inl rfl)
  · simp only [twoR, applyF, vAt, h, List.getElem?_cons_zero, List.getElem?_cons_succ, Option.getD_some, Int.reduceEq, if_true, if_false, reduceIte]
    exact h5 or3 (.inr rfl)
  · simp only [twoR, applyF, vAt, h, List.getElem?_cons_zero, List.getElem?_cons_succ, Option.getD_some, Int.reduceEq, if_true, if_false, reduceIte]
    simp
  · simp only [twoR, applyF, vAt, h, List.getElem?_cons_zero, List.getElem?_cons_succ, Option.getD_some, Int.reduceEq, if_true, if_false, reduceIte]
    simp
end Go.Proofs.YtinbdedlmkjokaaGreat.Am

/- Expressions: the program's Eval and Truth. -/
set_option linter.unusedVariables false
set_option linter.unusedSimpArgs false
namespace Go.Proofs.YtinbdedlmkjokaaGreat.Am

theorem solid_val (v : Val) : Solid (.agg (encV v)) := .agg _ fun i hi => by
  have : i = 0 ∨ i = 1 ∨ i = 2 := by simp only [encV, List.length_cons, List.length_nil] at hi; omega
  rcases this with rfl | rfl | rfl
  · exact .int _ _
  · exact .int _ _
  · exact .str _
theorem solid_vb (v : Val) (b : Bool) : Solid (.tup [.agg (encV v), .c (.bool b)]) := .tup _ fun i hi => by
  have : i = 0 ∨ i = 1 := by simp only [List.length_cons, List.length_nil] at hi; omega
  rcases this with rfl | rfl
  · exact solid_val v
  · exact .bool b
theorem isTok_kinds {t : Tok} {n : Int} (h : isTokF t n = true) : t.kind = 1 ∨ t.kind = 2 ∨ (t.kind = 3 ∨ t.kind = 4 ∨ t.kind = 5 ∨ t.kind = 6 ∨ t.kind = 7 ∨ t.kind = 8 ∨ t.kind = 9 ∨ t.kind = 10) := by
  simp only [isTokF] at h
  split at h
  · exact .inl ‹_›
  · split at h
    · exact .inr (.inl ‹_›)
    · simp only [Bool.and_eq_true] at h
      exact .inr (.inr (isIn_310.1 h.1.1))
theorem isTok_col {t : Tok} {n : Int} (h : isTokF t n = true) (h1 : t.kind = 1) : 0 ≤ t.col ∧ t.col < n := by
  simp only [isTokF, if_pos h1, Bool.and_eq_true, isIn, decide_eq_true_eq] at h
  omega
/-- What a token takes from a stack, applied. -/
theorem apply_ok (t : Tok) (l row : List Val) (ht : isTokF t row.length = true) (hl : (l.length : Int) = tokTakes t) (ho : Oks l) : Pure Tryz.prog 171 [.agg (encTok t), .c (.fz (l.map encV)), .c (.fz (row.map encV))] (.tup [.agg (encV (applyF t l row).1), .c (.bool (applyF t l row).2)]) := by
  have hk := isTok_kinds ht
  have hc := isTok_col ht
  by_cases h0 : t.kind = 1 ∨ t.kind = 2
  · have : tokTakes t = 0 := by rw [tokTakes, if_pos h0]
    have hl0 : l = [] := List.eq_nil_of_length_eq_zero (by omega)
    subst hl0
    exact apply0_ok t row h0 hc
  by_cases h1 : t.kind = 7 ∨ t.kind = 8
  · have : tokTakes t = 1 := by rw [tokTakes, if_neg h0, if_pos h1]
    match l, hl with
    | [x], _ => exact apply1_ok t x row h1
    | [], hl => simp at hl; omega
    | _ :: _ :: _, hl => simp only [List.length_cons] at hl; omega
  · have : tokTakes t = 2 := by rw [tokTakes, if_neg h0, if_neg h1]
    match l, hl with
    | [x, y], _ => exact apply2_ok t x y row (by omega) (ho x (by simp)) (ho y (by simp))
    | [], hl => simp at hl; omega
    | [_], hl => simp at hl; omega
    | _ :: _ :: _ :: _, hl => simp only [List.length_cons] at hl; omega
theorem areVals_oks {l : List Val} {n : Int} (h : areVals l n = true) : Oks l ∧ (l.length : Int) ≤ n := by
  simp only [areVals, Bool.and_eq_true, decide_eq_true_eq, List.all_eq_true] at h
  exact ⟨h.2, h.1⟩
theorem exprF_aux {e : List Tok} {n : Int} (h : exprF e n = true) : (e.length : Int) ≤ 24 ∧ exprAux n 0 e = true := by
  simpa only [exprF, Bool.and_eq_true, decide_eq_true_eq] using h
theorem exprAux_cons {n a : Int} {t : Tok} {r : List Tok} (h : exprAux n a (t :: r) = true) : isTokF t n = true ∧ tokTakes t ≤ a ∧ exprAux n (a + 1 - tokTakes t) r = true := by
  simp only [exprAux, Bool.and_eq_true, decide_eq_true_eq] at h
  exact ⟨h.1.1, h.1.2, h.2⟩
theorem Oks.take {l : List Val} (h : Oks l) (n : Nat) : Oks (l.take n) := fun v hv => h v (List.mem_of_mem_take hv)
theorem Oks.drop {l : List Val} (h : Oks l) (n : Nat) : Oks (l.drop n) := fun v hv => h v (List.mem_of_mem_drop hv)
theorem Oks.snoc {l : List Val} (h : Oks l) {v : Val} (hv : okVal v = true) : Oks (l ++ [v]) := fun w hw => by
  rcases List.mem_append.1 hw with hw | hw
  · exact h w hw
  · rw [List.mem_singleton.1 hw]; exact hv
theorem flats {l : List Val} : ∀ e ∈ l.map encV, ∀ x ∈ e, Flat x := fun e he x hx => (clean_append e he).2 x hx
theorem lens {l : List Val} : ∀ e ∈ l.map encV, e.length = 3 := fun e he => (clean_append e he).1
theorem old_ptr {n id v i j : Nat} (h : id < n) : ∀ y ∈ (AV.c (.ptr id v i j)).all, Old n y := fun y hy => by
  simp only [AV.all, List.mem_singleton] at hy
  subst hy
  exact .ptr _ _ _ _ h
theorem old_sl {n id v i j c : Nat} (h : id < n) : ∀ y ∈ (AV.c (.sl id v i j c)).all, Old n y := fun y hy => by
  simp only [AV.all, List.mem_singleton] at hy
  subst hy
  exact .sl _ _ _ _ _ h
theorem old_int {n : Nat} {k : IntKind} {z : Int} : ∀ y ∈ (AV.c (.int k z)).all, Old n y := fun y hy => by
  simp only [AV.all, List.mem_singleton] at hy
  subst hy
  exact .int _ _
theorem old_fzF {n : Nat} {es : List (List Ce)} (h : ∀ e ∈ es, ∀ x ∈ e, Flat x) : ∀ y ∈ (AV.c (.fz es)).all, Old n y := fun y hy => by
  simp only [AV.all, List.mem_singleton] at hy
  subst hy
  exact .fz _ fun i j hi hj => (h _ (List.getElem_mem hi) _ (List.getElem_mem hj)).old _
theorem old_encV {n : Nat} {l : List Val} : ∀ y ∈ (AV.c (.fz (l.map encV))).all, Old n y := old_fzF flats
theorem old_encTok {n : Nat} {l : List Tok} : ∀ y ∈ (AV.c (.fz (l.map encTok))).all, Old n y := old_fzF fun e he x hx => by
  obtain ⟨a, _, rfl⟩ := List.mem_map.1 he
  exact flatTok a x hx
theorem Eval_ok (e : List Tok) (row : List Val) (hx : e.length ≤ 34359738368) (hr : row.length ≤ 34359738368) : Pure Tryz.prog 84 [.c (.fz (e.map encTok)), .c (.fz (row.map encV))] (.tup [.agg (encV (evalI e row).1), .c (.bool (evalI e row).2)]) := by
  refine Pure.run mixed c_impl_Eval_ok (Nat.le_of_ble_eq_true rfl) fun σ hS hA => ?_
  clear hA
  have c1 := areVals_ok row 16 (by decide) hr
  cases hv : areVals row 16
  · rw [hv] at c1
    rw [evalI, evalOk, hv]
    repeat' first|refine yaG ?_|refine yaC (c1) ?_|(exfalso;omega)|(refine yaS ?_ ?_<;>intro _)
    exact .ret (retv_mt rfl rfl rfl (Nat.zero_le _) rfl rfl) (fin_vb vNull _)
  obtain ⟨hok, hrl⟩ := areVals_oks hv
  have c2 := ExprOk_ok e row.length hx
  rw [exprF_eq (by omega) hrl] at c2
  rw [hv] at c1
  cases he : exprF e row.length
  · rw [he] at c2
    rw [evalI, evalOk, hv, he]
    repeat' first|refine yaG ?_|refine yaC (c1) ?_|refine yaC (c2) ?_|(exfalso;omega)|(refine yaS ?_ ?_<;>intro _)
    exact .ret (retv_mt rfl rfl rfl (Nat.zero_le _) rfl rfl) (fin_vb vNull _)
  rw [he] at c2
  obtain ⟨hel, hea⟩ := exprF_aux he
  have hI : evalI e row = evalR e row := by rw [evalI, evalOk, hv, he]; rfl
  rw [hI]
  repeat' first|refine yaG ?_|refine yaC (c1) ?_|refine yaC (c2) ?_|(exfalso;omega)|(refine yaS ?_ ?_<;>intro _)
  refine Go.keep [1, 4, 6, 24, 25, 26] (Go.loops (I := fun m fr τ => ∃ (i : Nat) (k : Int) (st : List Val) (v : Nat) (junk : List (List Ce)), m = e.length - i ∧ i ≤ e.length ∧ k = i ∧ Jk 3 junk ∧ (st.length ≤ i ∧ Oks st ∧ exprAux row.length st.length (e.drop i) = true ∧ evalL row e [] = evalL row (e.drop i) st) ∧
    fr = [(1, .c (.fz (row.map encV))), (4, .c (.ptr (σ.next + 0) 0 0 0)), (6, .c (vec (σ.next + 1) v (st.map encV) junk)), (24, .c (.fz (e.map encTok))), (25, .c (.int .i64 (e.length : Int))), (26, .c (.int .i64 k))] ∧
      τ = E σ [(0, [[.int .i64 0, .int .i64 0, .str []]]), (v, st.map encV ++ junk)]) ?_ _ _ _ ⟨0, _, [], 0, [], rfl, Nat.zero_le _, rfl, Jk.nil, ⟨Nat.zero_le _, fun v hv => (by simp at hv), hea, rfl⟩, rfl, rfl⟩)
  rintro m fr τ ⟨i, k, st, v, junk, rfl, hi, hk, hj, ⟨hsl, hst, haux, hev⟩, rfl, rfl⟩ hrec
  clear hea he hv c1 c2 hI
  by_cases hlt : i < e.length
  · rw [List.drop_eq_getElem_cons hlt] at haux hev
    obtain ⟨htk, hle, haux⟩ := exprAux_cons haux
    have htr := tokTakes_range e[i]
    have hz : IntKind.i64.wrap (((st.map encV).length : Int) - tokTakes e[i]) = (fromOf e[i] st : Int) := by
      rw [List.length_map, wrap64 (by omega) (by omega), fromOf]
      omega
    have hfn : fromOf e[i] st ≤ st.length := by rw [fromOf]; omega
    have hfn' : fromOf e[i] st ≤ (st.map encV).length := by rw [List.length_map]; exact hfn
    have hdl : ((st.drop (fromOf e[i] st)).length : Int) = tokTakes e[i] := by rw [List.length_drop, fromOf]; omega
    have hap := apply_ok e[i] (st.drop (fromOf e[i] st)) row htk hdl (hst.drop _)
    have hres := applyF_ok (tokOk_const htk) (hst.drop (fromOf e[i] st)) hok
    rw [List.map_drop] at hap
    rw [evalL] at hev
    generalize applyF e[i] (st.drop (fromOf e[i] st)) row = ap at hap hres hev
    obtain ⟨av, ab⟩ := ap
    simp only at hap hres hev
    repeat' first|apply Go.seq|apply Go.skip|apply Go.region|apply Go.nil|apply Go.block|apply Go.blk|apply Go.segs|(apply Go.exit;exact rfl)|(apply Go.cond true;exact rfl)|(apply Go.cond false;exact rfl)|apply yB|apply yC|((first|apply yD|apply yE);(first|exact yF|assumption);iterate 6 exact rfl)|((first|apply yG|apply yH|apply yI);exact rfl;(first|exact yJ|exact yK rfl rfl|exact yL rfl|exact yM rfl|exact rfl|exact aL rfl rfl rfl rfl rfl|exact aS rfl rfl rfl rfl rfl rfl rfl|exact yX (enc := encTok) rfl rfl hk hlt rfl))|((first|apply yN|apply yO|apply yP);exact rfl)|((first|apply yQ|apply yR|apply yS);(iterate 3 exact rfl);exact takes_ok e[i])|(exfalso;omega)|(((first|apply yT|apply yU|apply yV|apply yW);exact rfl;(first|exact .d|exact .e|exact .n|((fail_if_success exact bqt);(fail_if_success exact bqf);exact .b)))<;>intro _)
    rw [hz]
    generalize fromOf e[i] st = n at hz hfn hfn' hap hev hdl
    apply Go.draw
    refine Go.qkd [(0, [[.int .i64 0, .int .i64 0, .str []]]), (v, st.map encV ++ junk)] ?_
    repeat' first|(apply Qk.nil;show Go _ _ _ _ _ _ _ _)|(apply Qk.op;exact rfl;(first|(rintro _ ⟨_, rfl⟩;exact rfl)|(rintro _ ⟨_, rfl⟩;exact aop_load rfl rfl rfl (Nat.le_of_ble_eq_true rfl) rfl)|(rintro _ ⟨_, rfl⟩;exact aop_drop (k := 1) (s := 3) rfl rfl rfl hfn' rfl (fun e he => (List.mem_append.1 he).elim (lens e) fun h => (hj e h).1))))|(apply Qk.no;exact rfl)|(apply Qk.wop;exact rfl;exact rfl;(first|exact yJ|exact yL rfl|exact aop_store rfl rfl rfl rfl rfl rfl (Nat.le_of_ble_eq_true rfl));exact ⟨_, rfl⟩)
    refine Qk.lcall rfl rfl rfl hap (solid_vb _ _) (fun m => .same (.own (frz_drop (k := 1) rfl flats hfn' (Nat.zero_le _)) (.same .nil))) ?_
    repeat' first|(apply Qk.nil;show Go _ _ _ _ _ _ _ _)|(apply Qk.op;exact rfl;(first|(rintro _ ⟨_, rfl⟩;exact rfl)|(rintro _ ⟨_, rfl⟩;exact aop_load rfl rfl rfl (Nat.le_of_ble_eq_true rfl) rfl)))|(apply Qk.no;exact rfl)|(apply Qk.wop;exact rfl;exact rfl;(first|exact yJ|exact yL rfl|exact aop_store rfl rfl rfl rfl rfl rfl (Nat.le_of_ble_eq_true rfl));exact ⟨_, rfl⟩)
    cases ab
    · rw [if_neg Bool.false_ne_true] at hev
      have hR : evalR e row = (vNull, false) := by rw [evalR, hev]
      rw [hR]
      repeat' first|refine yaG ?_|(exfalso;omega)|(refine yaS ?_ ?_<;>intro _)
      exact .ret (retv_mt rfl rfl rfl (Nat.zero_le _) rfl rfl) (fin_vb vNull _)
    · rw [if_pos rfl] at hev
      repeat' first|refine yaG ?_|((first|apply yG|apply yH|apply yI);exact rfl;(first|exact aop_load rfl rfl rfl (Nat.le_of_ble_eq_true rfl) rfl|exact aop_take (k := 1) rfl rfl rfl hfn' rfl (fun e he => (List.mem_append.1 he).elim (lens e) fun h => (hj e h).1)))|(exfalso;omega)|(refine yaS ?_ ?_<;>intro _)
      have hsplit : st.map encV ++ junk = (st.map encV).take n ++ ((st.map encV).drop n ++ junk) := by rw [← List.append_assoc, List.take_append_drop]
      have hbd : (((st.map encV).take n).length + 1) * 32 ≤ 140737488355328 := by rw [List.length_take, List.length_map]; omega
      refine Go.sapp1 (k := 1) (z := encV av) rfl rfl rfl rfl (congrArg (fun q => some (v, q)) hsplit) (fun e he => lens e (List.mem_of_mem_take he)) (Jk.drop clean_append hj n) rfl hbd fun v' junk' hj' => ?_
      repeat' first|refine yaG ?_|(exfalso;omega)|(refine yaS ?_ ?_<;>intro _)
      refine Go.freezeN (l := [(0, [[.int .i64 0, .int .i64 0, .str []]]), (v', (st.map encV).take n ++ [encV av] ++ junk')]) (m := [(0, [encV av])])
        (fr' := [(1, .c (.fz (row.map encV))), (4, .c (.ptr (σ.next + 0) 0 0 0)), (6, .c (vec (σ.next + 1) v' ((st.map encV).take n ++ [encV av]) junk')), (24, .c (.fz (e.map encTok))), (25, .c (.int .i64 (e.length : Int))), (26, .c (.int .i64 (IntKind.i64.wrap (k + 1))))])
        hS ?_ (Nat.le_refl _) (.frz rfl (.refl old_encV) (.frz rfl (.refl (old_ptr (by simp))) (.frz rfl (.refl (old_sl (by simp))) (.frz rfl (.refl old_encTok) (.frz rfl (.refl old_int) (.frz rfl (.refl old_int) .nil)))))) ?_
      · intro b hb e he x hx
        refine Flat.old ?_ _
        rcases List.mem_cons.1 hb with rfl | hb
        · exact flats (l := [vNull]) e he x hx
        · rw [List.mem_singleton.1 hb] at he
          rcases List.mem_append.1 he with he | he
          · rcases List.mem_append.1 he with he | he
            · exact flats e (List.mem_of_mem_take he) x hx
            · exact flats (l := [av]) e he x hx
          · exact (hj' e he).2 x hx
      have e1 : (st.map encV).take n ++ [encV av] = (st.take n ++ [av]).map encV := by simp
      rw [e1]
      refine hrec _ _ _ (by omega) ⟨i + 1, _, st.take n ++ [av], v', junk', rfl, hlt, wrap_succ hk (by omega), hj', ⟨?_, (hst.take n).snoc (hres rfl), ?_, hev⟩, rfl, rfl⟩
      · simp only [List.length_append, List.length_take, List.length_singleton]; omega
      · have e2 : ((st.take n ++ [av]).length : Int) = st.length + 1 - tokTakes e[i] := by
          rw [List.length_drop] at hdl
          simp only [List.length_append, List.length_take, List.length_singleton]
          omega
        rw [e2]
        exact haux
  · have hd : e.drop i = [] := List.drop_eq_nil_of_le (by omega)
    rw [hd] at haux hev
    simp only [exprAux, beq_iff_eq] at haux
    obtain ⟨w, rfl⟩ : ∃ w, st = [w] := List.length_eq_one_iff.1 (by omega)
    have hR : evalR e row = (w, true) := by rw [evalR, hev]; rfl
    rw [hR]
    repeat' first|refine yaG ?_|((first|apply yG|apply yH|apply yI);exact rfl;(first|exact aop_iaddr (k := 1) (n := 0) rfl rfl rfl (Nat.zero_lt_one) rfl rfl rfl))|(exfalso;omega)|(refine yaS ?_ ?_<;>intro _)
    exact .ret (retv_mt rfl rfl rfl (Nat.zero_le _) rfl rfl) (fin_vb w _)
theorem Truth_ok (e : List Tok) (row : List Val) (hx : e.length ≤ 34359738368) (hr : row.length ≤ 34359738368) : Pure Tryz.prog 163 [.c (.fz (e.map encTok)), .c (.fz (row.map encV))] (.c (.int .i64 (truthI e row))) := by
  refine Pure.run mixed c_impl_Truth_ok (Nat.le_of_ble_eq_true rfl) fun σ hS hA => ?_
  clear hS hA
  have c1 := Eval_ok e row hx hr
  have h1 := truthI_eq e row
  generalize evalI e row = q at c1 h1
  obtain ⟨v, b⟩ := q
  simp only at c1 h1
  cases b
  · repeat' first|refine yaG ?_|refine yaC (c1) ?_|(exfalso;omega)|(refine yaS ?_ ?_<;>intro _)
    refine .ret rfl (.int ?_)
    rw [← h1]
    rfl
  · repeat' first|refine yaG ?_|refine yaC (c1) ?_|refine yaC (truth_ok v) ?_|(exfalso;omega)|(refine yaS ?_ ?_<;>intro _)
    refine .ret rfl (.int ?_)
    rw [← h1]
    rfl
end Go.Proofs.YtinbdedlmkjokaaGreat.Am

/- Expressions: the reference's evaluation. -/
set_option linter.unusedVariables false
set_option linter.unusedSimpArgs false
namespace Go.Proofs.YtinbdedlmkjokaaGreat.Am

theorem drop1 {st : List Val} (h : 1 ≤ st.length) : st.drop (st.length - 1) = [st[st.length - 1]] := by
  rw [List.drop_eq_getElem_cons (by omega), List.drop_eq_nil_of_le (by omega)]
theorem drop2 {st : List Val} (h : 2 ≤ st.length) : st.drop (st.length - 2) = [st[st.length - 2], st[st.length - 1]] := by
  rw [List.drop_eq_getElem_cons (by omega), show st.length - 2 + 1 = st.length - 1 by omega, drop1 (by omega)]
theorem frz_all {σ : Store} {l : List (Nat × List (List Ce))} {k v N : Nat} {ys : List Val} {junk : List (List Ce)} (hl : l[k]? = some (v, ys.map encV ++ junk)) (hN : N ≤ σ.next + k) : FrzV (E σ l) N (.c (vec (σ.next + k) v (ys.map encV) junk)) (.c (.fz (ys.map encV))) :=
  frz_drop (n := 0) hl flats (Nat.zero_le _) hN
theorem l2Eval_ok (e : List Tok) (row : List Val) (hx : e.length ≤ 24) (hrl : row.length ≤ 16) (hok : Oks row) (hea : exprAux row.length 0 e = true) : Pure Tryz.prog 91 [.c (.fz (e.map encTok)), .c (.fz (row.map encV))] (.tup [.agg (encV (evalR e row).1), .c (.bool (evalR e row).2)]) := by
  refine Pure.run mixed c_spec_l2Eval_ok (Nat.le_of_ble_eq_true rfl) fun σ hS hA => ?_
  clear hA
  repeat' first|refine yaG ?_|(exfalso;omega)|(refine yaS ?_ ?_<;>intro _)
  refine Go.freezeN (l := [(0, [[.int .i64 0, .int .i64 0, .str []]])]) (m := [(0, [])]) (fr' := [(0, .c (.fz (e.map encTok))), (1, .c (.fz (row.map encV))), (4, .c (.ptr (σ.next + 0) 0 0 0)), (6, .c (.fz (([] : List Val).map encV))), (7, .c (.int .i64 0))])
    hS (fun b hb e he x hx => ?_) (Nat.le_refl _) (.frz rfl (.refl old_encTok) (.frz rfl (.refl old_encV) (.frz rfl (.refl (old_ptr (by simp))) (.frz rfl (frz_all (σ := σ) (l := [(0, [[.int .i64 0, .int .i64 0, .str []]]), (0, [])]) (k := 1) (v := 0) (ys := []) (junk := []) rfl (Nat.le_refl _)) (.frz rfl (.refl old_int) .nil))))) ?_
  · rw [List.mem_singleton.1 hb] at he
    exact (flats (l := [vNull]) e he x hx).old _
  refine Go.loops (I := fun m fr τ => ∃ (i : Nat) (k : Int) (st : List Val), m = e.length - i ∧ i ≤ e.length ∧ k = i ∧ (st.length ≤ i ∧ Oks st ∧ exprAux row.length st.length (e.drop i) = true ∧ evalL row e [] = evalL row (e.drop i) st) ∧
    fr = [(0, .c (.fz (e.map encTok))), (1, .c (.fz (row.map encV))), (4, .c (.ptr (σ.next + 0) 0 0 0)), (6, .c (.fz (st.map encV))), (7, .c (.int .i64 k))] ∧
      τ = E σ [(0, [[.int .i64 0, .int .i64 0, .str []]])]) ?_ _ _ _ ⟨0, _, [], rfl, Nat.zero_le _, rfl, ⟨Nat.zero_le _, fun v hv => (by simp at hv), hea, rfl⟩, rfl, rfl⟩
  rintro m fr τ ⟨i, k, st, rfl, hi, hk, ⟨hsl, hst, haux, hev⟩, rfl, rfl⟩ hrec
  clear hea
  by_cases hlt : i < e.length
  · rw [List.drop_eq_getElem_cons hlt] at haux hev
    obtain ⟨htk, hle, haux⟩ := exprAux_cons haux
    have htr := tokTakes_range e[i]
    have hkd := isTok_kinds htk
    have hcol := isTok_col htk
    have hft : fromOf e[i] st = st.length - (tokTakes e[i]).toNat := rfl
    have hres := applyF_ok (tokOk_const htk) (hst.drop (fromOf e[i] st)) hok
    rw [evalL] at hev
    have hsl1 : st.length ≤ 24 := by omega
    obtain ⟨ap, hap⟩ : ∃ ap, applyF e[i] (st.drop (fromOf e[i] st)) row = ap := ⟨_, rfl⟩
    rw [hap] at hres hev
    repeat' first|apply Go.seq|apply Go.skip|apply Go.region|apply Go.nil|apply Go.blk|apply Go.draw|apply Go.segs|(apply Go.exit;exact rfl)|(apply Go.cond true;exact rfl)|(apply Go.cond false;exact rfl)|apply yB|apply yC|((first|apply yG|apply yH|apply yI);exact rfl;(first|exact yJ|exact yK rfl rfl|exact yL rfl|exact yM rfl|exact rfl|exact aL rfl rfl rfl rfl rfl|exact aS rfl rfl rfl rfl rfl rfl rfl))|((first|apply yN|apply yO|apply yP);exact rfl)|(exfalso;omega)|(((first|apply yT|apply yU|apply yV|apply yW);exact rfl;(first|exact .d|exact .e|exact .n|((fail_if_success exact bqt);(fail_if_success exact bqf);exact .b)))<;>intro _)
    apply Go.block
    repeat' first|apply Go.seq|apply Go.skip|apply Go.region|apply Go.nil|apply Go.blk|apply Go.draw|apply Go.segs|(apply Go.exit;exact rfl)|(apply Go.cond true;exact rfl)|(apply Go.cond false;exact rfl)|apply yB|apply yC|((first|apply yG|apply yH|apply yI);exact rfl;(first|exact yJ|exact yK rfl rfl|exact yL rfl|exact yM rfl|exact rfl|exact aL rfl rfl rfl rfl rfl|exact aS rfl rfl rfl rfl rfl rfl rfl|exact yX (enc := encTok) rfl rfl hk hlt rfl))|((first|apply yN|apply yO|apply yP);exact rfl)|(exfalso;omega)|(((first|apply yT|apply yU|apply yV|apply yW);exact rfl;(first|exact .d|exact .e|exact .n|((fail_if_success exact bqt);(fail_if_success exact bqf);exact .b)))<;>intro _)
    apply Go.block
    refine Go.join (K' := [_]) (fun fr τ => ∃ (av : Val) (ab : Bool), ab = ap.2 ∧ (ab = true → av = ap.1) ∧
      fr = [(0, .c (.fz (e.map encTok))), (1, .c (.fz (row.map encV))), (4, .c (.ptr (σ.next + 0) 0 0 0)), (6, .c (.fz (st.map encV))), (7, .c (.int .i64 k)), (8, .c (.int .i64 (st.length : Int))), (9, .c (.ptr (σ.next + 1) 0 0 0)), (10, .c (.bool ab)), (11, .c (.int .i64 (tokTakes e[i])))] ∧
      τ = E σ [(0, [[.int .i64 0, .int .i64 0, .str []]]), (0, [encV av])]) ?_ ?_
    · rintro fr τ ⟨av, ab, hab, hav, rfl, rfl⟩
      cases ab
      · rw [← hab, if_neg Bool.false_ne_true] at hev
        have hR : evalR e row = (vNull, false) := by rw [evalR, hev]
        rw [hR]
        repeat' first|refine yaG ?_|(exfalso;omega)|(refine yaS ?_ ?_<;>intro _)
        exact .ret (retv_mt rfl rfl rfl (Nat.zero_le _) rfl rfl) (fin_vb vNull _)
      obtain rfl := hav rfl
      rw [← hab, if_pos rfl] at hev
      have hn : fromOf e[i] st ≤ (st.map encV).length := by rw [List.length_map, hft]; omega
      have hz : IntKind.i64.wrap ((st.length : Int) - tokTakes e[i]) = (fromOf e[i] st : Int) := by rw [wrap64 (by omega) (by omega), hft]; omega
      have hres := hres hab.symm
      have hl1 : ((st.take (fromOf e[i] st)).length : Int) = st.length - tokTakes e[i] := by rw [List.length_take, hft]; omega
      generalize fromOf e[i] st = n at hn hz hl1 hev
      repeat' first|apply Go.seq|apply Go.skip|apply Go.region|apply Go.nil|apply Go.block|apply Go.blk|apply Go.segs|(apply Go.exit;exact rfl)|(apply Go.cond true;exact rfl)|(apply Go.cond false;exact rfl)|apply yB|apply yC|((first|apply yD|apply yE);(first|exact yF|assumption);iterate 6 exact rfl)|((first|apply yG|apply yH|apply yI);exact rfl;(first|exact yJ|exact yK rfl rfl|exact yL rfl|exact yM rfl|exact rfl|exact aL rfl rfl rfl rfl rfl|exact aS rfl rfl rfl rfl rfl rfl rfl))|((first|apply yN|apply yO|apply yP);exact rfl)|(exfalso;omega)|(((first|apply yT|apply yU|apply yV|apply yW);exact rfl;(first|exact .d|exact .e|exact .n|((fail_if_success exact bqt);(fail_if_success exact bqf);exact .b)))<;>intro _)
      apply Go.draw
      refine Go.qkm [(0, [[.int .i64 0, .int .i64 0, .str []]]), (0, [encV ap.1])] [] ?_
      repeat' first|(apply Qk.nil;show Go _ _ _ _ _ _ _ _)|(apply Qk.op;exact rfl;(first|(rintro _ ⟨_, rfl⟩;exact rfl)|(rintro _ ⟨_, rfl⟩;exact aop_load rfl rfl rfl (Nat.le_of_ble_eq_true rfl) rfl)|(rintro _ ⟨_, rfl⟩;exact aop_sliceF (s := 3) rfl rfl hz hn lens)))|(apply Qk.no;exact rfl)|(apply Qk.wop;exact rfl;exact rfl;(first|exact yJ|exact yL rfl|exact aop_store rfl rfl rfl rfl rfl rfl (Nat.le_of_ble_eq_true rfl));exact ⟨_, rfl⟩)
      have hb1 : (([] : List (List Ce)).length + ((st.map encV).take n).length) * 32 ≤ 140737488355328 := by rw [List.length_take, List.length_map, List.length_nil]; omega
      refine Qk.app (k := 2) (v := 0) (ys := []) (junk := []) (zs := (st.map encV).take n) rfl rfl rfl rfl rfl (fun e he => (by simp at he)) Jk.nil (fun e he => lens e (List.mem_of_mem_take he)) hb1 (fun z => ⟨[z], rfl⟩) fun v1 j1 hj1 => ?_
      repeat' first|(apply Qk.nil;show Go _ _ _ _ _ _ _ _)|(apply Qk.op;exact rfl;(first|(rintro _ ⟨_, rfl⟩;exact rfl)|(rintro _ ⟨_, rfl⟩;exact aop_load rfl rfl rfl (Nat.le_of_ble_eq_true rfl) rfl)))|(apply Qk.no;exact rfl)|(apply Qk.wop;exact rfl;exact rfl;(first|exact yJ|exact yL rfl|exact aop_store rfl rfl rfl rfl rfl rfl (Nat.le_of_ble_eq_true rfl));exact ⟨_, rfl⟩)
      have hb2 : ((([] : List (List Ce)) ++ (st.map encV).take n).length + 1) * 32 ≤ 140737488355328 := by rw [List.nil_append, List.length_take, List.length_map]; omega
      refine Go.sapp1 (k := 2) (z := encV ap.1) rfl rfl rfl rfl rfl (fun e he => lens e (List.mem_of_mem_take he)) hj1 rfl hb2 fun v' junk' hj' => ?_
      repeat' first|refine yaG ?_|(exfalso;omega)|(refine yaS ?_ ?_<;>intro _)
      have e1 : [] ++ (st.map encV).take n ++ [encV ap.1] = (st.take n ++ [ap.1]).map encV := by simp
      rw [e1]
      refine Go.freezeN (l := [(0, [[.int .i64 0, .int .i64 0, .str []]])]) (m := [(0, [encV ap.1]), (v', (st.take n ++ [ap.1]).map encV ++ junk')])
        (fr' := [(0, .c (.fz (e.map encTok))), (1, .c (.fz (row.map encV))), (4, .c (.ptr (σ.next + 0) 0 0 0)), (6, .c (.fz ((st.take n ++ [ap.1]).map encV))), (7, .c (.int .i64 (IntKind.i64.wrap (k + 1))))])
        hS (fun b hb e he x hx => ?_) (Nat.le_refl _) (.frz rfl (.refl old_encTok) (.frz rfl (.refl old_encV) (.frz rfl (.refl (old_ptr (by simp))) (.frz rfl (frz_all (σ := σ) (l := [(0, [[.int .i64 0, .int .i64 0, .str []]]), (0, [encV ap.1]), (v', (st.take n ++ [ap.1]).map encV ++ junk')]) (k := 2) (v := v') (ys := st.take n ++ [ap.1]) (junk := junk') rfl (Nat.le_succ _)) (.frz rfl (.refl old_int) .nil))))) ?_
      · rw [List.mem_singleton.1 hb] at he
        exact (flats (l := [vNull]) e he x hx).old _
      refine hrec _ _ _ (by omega) ⟨i + 1, _, st.take n ++ [ap.1], rfl, hlt, wrap_succ hk (by omega), ⟨?_, (hst.take n).snoc hres, ?_, hev⟩, rfl, rfl⟩
      · simp only [List.length_append, List.length_take, List.length_singleton]; omega
      · have e2 : ((st.take n ++ [ap.1]).length : Int) = st.length + 1 - tokTakes e[i] := by
          simp only [List.length_append, List.length_singleton]
          omega
        rw [e2]
        exact haux
    intro hj
    rw [List.singleton_append]
    by_cases h1 : e[i].kind = 1
    · have htk0 : tokTakes e[i] = 0 := by rw [tokTakes, if_pos (.inl h1)]
      have hc2 := hcol h1
      have hcz : e[i].col = (e[i].col.toNat : Int) := by omega
      have hcl : e[i].col.toNat < row.length := by omega
      have hape : ap = (row[e[i].col.toNat], true) := by rw [← hap, applyF, if_pos h1, vAt, List.getElem?_eq_getElem hcl]; rfl
      rw [htk0] at hj
      repeat' first|apply Go.seq|apply Go.skip|apply Go.region|apply Go.nil|apply Go.block|apply Go.draw|apply Go.segs|(apply Go.exit;exact rfl)|(apply Go.cond true;exact rfl)|(apply Go.cond false;exact rfl)|apply yB|apply yC|((first|apply yG|apply yH|apply yI);exact rfl;(first|exact yJ|exact yK rfl rfl|exact yL rfl|exact yM rfl|exact rfl|exact aL rfl rfl rfl rfl rfl|exact aS rfl rfl rfl rfl rfl rfl rfl|exact yX (enc := encTok) rfl rfl hk hlt rfl|exact yX (enc := encV) rfl rfl hcz hcl rfl))|((first|apply yN|apply yO|apply yP);exact rfl)|(exfalso;omega)|(((first|apply yT|apply yU|apply yV|apply yW);exact rfl;(first|exact .d|exact .e|exact .n|((fail_if_success exact bqt);(fail_if_success exact bqf);exact .b)))<;>intro _)
      exact Go.keep [0, 1, 4, 6, 7, 8, 9, 10, 11] (hj _ _ ⟨row[e[i].col.toNat], true, by rw [hape], fun _ => by rw [hape], rfl, rfl⟩)
    by_cases h2 : e[i].kind = 2
    · have htk0 : tokTakes e[i] = 0 := by rw [tokTakes, if_pos (.inr h2)]
      have hape : ap = (e[i].v, true) := by rw [← hap, applyF, if_neg h1, if_pos h2]
      rw [htk0] at hj
      repeat' first|apply Go.seq|apply Go.skip|apply Go.region|apply Go.nil|apply Go.block|apply Go.draw|apply Go.segs|(apply Go.exit;exact rfl)|(apply Go.cond true;exact rfl)|(apply Go.cond false;exact rfl)|apply yB|apply yC|((first|apply yG|apply yH|apply yI);exact rfl;(first|exact yJ|exact yK rfl rfl|exact yL rfl|exact yM rfl|exact rfl|exact aL rfl rfl rfl rfl rfl|exact aS rfl rfl rfl rfl rfl rfl rfl|exact yX (enc := encTok) rfl rfl hk hlt rfl))|((first|apply yN|apply yO|apply yP);exact rfl)|(exfalso;omega)|(((first|apply yT|apply yU|apply yV|apply yW);exact rfl;(first|exact .d|exact .e|exact .n|((fail_if_success exact bqt);(fail_if_success exact bqf);exact .b)))<;>intro _)
      exact Go.keep [0, 1, 4, 6, 7, 8, 9, 10, 11] (hj _ _ ⟨e[i].v, true, by rw [hape], fun _ => by rw [hape], rfl, rfl⟩)
    have hn12 : ¬ (e[i].kind = 1 ∨ e[i].kind = 2) := by omega
    by_cases h8 : e[i].kind = 8
    · have htk0 : tokTakes e[i] = 1 := by rw [tokTakes, if_neg hn12, if_pos (.inr h8)]
      have hz1 : IntKind.i64.wrap ((st.length : Int) - 1) = ((st.length - 1 : Nat) : Int) := by rw [wrap64 (by omega) (by omega)]; omega
      have hl1 : st.length - 1 < st.length := by omega
      have hf : fromOf e[i] st = st.length - 1 := by rw [hft, htk0]; rfl
      have hyr := yes_range (st[st.length - 1].k == 0)
      have hape : ap = (asR (yes (st[st.length - 1].k == 0)), true) := by
        rw [← hap, hf, drop1 (by omega), ← asV_asR hyr.1]
        simp [applyF, h8, vAt]
      have hv : asR (yes (st[st.length - 1].k == 0)) = vInt (yes (st[st.length - 1].k == 0)) := by rw [asR, if_neg (by omega)]
      rw [htk0] at hj
      repeat' first|apply Go.seq|apply Go.skip|apply Go.region|apply Go.nil|apply Go.block|apply Go.draw|apply Go.segs|(apply Go.exit;exact rfl)|(apply Go.cond true;exact rfl)|(apply Go.cond false;exact rfl)|apply yB|apply yC|((first|apply yG|apply yH|apply yI);exact rfl;(first|exact yJ|exact yK rfl rfl|exact yL rfl|exact yM rfl|exact rfl|exact aL rfl rfl rfl rfl rfl|exact aS rfl rfl rfl rfl rfl rfl rfl|exact yX (enc := encTok) rfl rfl hk hlt rfl|exact yX (enc := encV) rfl rfl hz1 hl1 rfl))|((first|apply yN|apply yO|apply yP);exact rfl)|((first|apply yQ|apply yR|apply yS);(iterate 3 exact rfl);(first|exact l1Yes_ok _|exact l1Int_ok _))|(exfalso;omega)|(((first|apply yT|apply yU|apply yV|apply yW);exact rfl;(first|exact .d|exact .e|exact .n|((fail_if_success exact bqt);(fail_if_success exact bqf);exact .b)))<;>intro _)
      exact Go.keep [0, 1, 4, 6, 7, 8, 9, 10, 11] (hj _ _ ⟨vInt (yes (st[st.length - 1].k == 0)), true, by rw [hape], fun _ => by rw [hape, hv], rfl, rfl⟩)
    by_cases h7 : e[i].kind = 7
    · have htk0 : tokTakes e[i] = 1 := by rw [tokTakes, if_neg hn12, if_pos (.inl h7)]
      have hz1 : IntKind.i64.wrap ((st.length : Int) - 1) = ((st.length - 1 : Nat) : Int) := by rw [wrap64 (by omega) (by omega)]; omega
      have hl1 : st.length - 1 < st.length := by omega
      have hf : fromOf e[i] st = st.length - 1 := by rw [hft, htk0]; rfl
      have hape : ap = asV (not3 (truthV st[st.length - 1])) := by
        rw [← hap, hf, drop1 (by omega)]
        simp [applyF, h7, vAt]
      rw [htk0] at hj
      repeat' first|apply Go.seq|apply Go.skip|apply Go.region|apply Go.nil|apply Go.block|apply Go.draw|apply Go.segs|(apply Go.exit;exact rfl)|(apply Go.cond true;exact rfl)|(apply Go.cond false;exact rfl)|apply yB|apply yC|((first|apply yG|apply yH|apply yI);exact rfl;(first|exact yJ|exact yK rfl rfl|exact yL rfl|exact yM rfl|exact rfl|exact aL rfl rfl rfl rfl rfl|exact aS rfl rfl rfl rfl rfl rfl rfl|exact yX (enc := encTok) rfl rfl hk hlt rfl|exact yX (enc := encV) rfl rfl hz1 hl1 rfl))|((first|apply yN|apply yO|apply yP);exact rfl)|((first|apply yQ|apply yR|apply yS);(iterate 3 exact rfl);(first|exact l2Of_ok st[st.length - 1]|exact sNot3_ok _|exact l2As_ok _))|(exfalso;omega)|(((first|apply yT|apply yU|apply yV|apply yW);exact rfl;(first|exact .d|exact .e|exact .n|((fail_if_success exact bqt);(fail_if_success exact bqf);exact .b)))<;>intro _)
      refine Go.keep [0, 1, 4, 6, 7, 8, 9, 10, 11] (hj _ _ ⟨asR (not3 (ofT st[st.length - 1])), ofB st[st.length - 1], ?_, ?_, rfl, rfl⟩)
      · rw [hape]
        cases hb : ofB st[st.length - 1]
        · rw [ofB_not hb]; rfl
        · obtain ⟨q1, q2⟩ := ofB_truth hb
          rw [q1, asV_asR]
          rw [not3, tru_range.2 q2, if_pos rfl]
          split <;> omega
      · intro hb
        obtain ⟨q1, q2⟩ := ofB_truth hb
        rw [hape, q1, asV_asR]
        rw [not3, tru_range.2 q2, if_pos rfl]
        split <;> omega
    have htk0 : tokTakes e[i] = 2 := by rw [tokTakes, if_neg hn12, if_neg (by omega)]
    have hz1 : IntKind.i64.wrap ((st.length : Int) - 1) = ((st.length - 1 : Nat) : Int) := by rw [wrap64 (by omega) (by omega)]; omega
    have hz2 : IntKind.i64.wrap ((st.length : Int) - 2) = ((st.length - 2 : Nat) : Int) := by rw [wrap64 (by omega) (by omega)]; omega
    have hl1 : st.length - 1 < st.length := by omega
    have hl2 : st.length - 2 < st.length := by omega
    have hf : fromOf e[i] st = st.length - 2 := by rw [hft, htk0]; rfl
    obtain ⟨hw1, hw2⟩ := twoR_eq e[i] st[st.length - 2] st[st.length - 1] row (by omega)
    have hap2 : applyF e[i] [st[st.length - 2], st[st.length - 1]] row = ap := by rw [← hap, hf, drop2 (by omega)]
    rw [hap2] at hw1 hw2
    have ctwo := l2Two_ok e[i].kind st[st.length - 2] st[st.length - 1] (hst _ (List.getElem_mem _)) (hst _ (List.getElem_mem _))
    generalize twoR e[i].kind st[st.length - 2] st[st.length - 1] = tw at ctwo hw1 hw2
    rw [htk0] at hj
    repeat' first|apply Go.seq|apply Go.skip|apply Go.region|apply Go.nil|apply Go.block|apply Go.segs|(apply Go.exit;exact rfl)|(apply Go.cond true;exact rfl)|(apply Go.cond false;exact rfl)|apply yB|apply yC|((first|apply yG|apply yH|apply yI);exact rfl;(first|exact yJ|exact yK rfl rfl|exact yL rfl|exact yM rfl|exact rfl|exact aL rfl rfl rfl rfl rfl|exact aS rfl rfl rfl rfl rfl rfl rfl|exact yX (enc := encTok) rfl rfl hk hlt rfl))|((first|apply yN|apply yO|apply yP);exact rfl)|(exfalso;omega)|(((first|apply yT|apply yU|apply yV|apply yW);exact rfl;(first|exact .d|exact .e|exact .n|((fail_if_success exact bqt);(fail_if_success exact bqf);exact .b)))<;>intro _)
    apply Go.draw
    apply Go.qs
    repeat' first|(apply yA;exact rfl)|apply yC|((first|apply yD|apply yE);(first|exact yF|assumption);iterate 6 exact rfl)|((first|apply yG|apply yH|apply yI);exact rfl;(first|exact yJ|exact yK rfl rfl|exact yL rfl|exact yM rfl|exact rfl|exact aL rfl rfl rfl rfl rfl|exact aS rfl rfl rfl rfl rfl rfl rfl|exact yX (enc := encTok) rfl rfl hk hlt rfl|exact yX (enc := encV) rfl rfl hz2 hl2 rfl|exact yX (enc := encV) rfl rfl hz1 hl1 rfl|exact aop_load rfl rfl rfl (Nat.le_of_ble_eq_true rfl) rfl))|((first|apply yN|apply yO|apply yP);exact rfl)|((first|apply yQ|apply yR|apply yS);(iterate 3 exact rfl);exact ctwo)|(exfalso;omega)|(((first|apply yT|apply yU|apply yV|apply yW);exact rfl;(first|exact .d|exact .e|exact .n|((fail_if_success exact bqt);(fail_if_success exact bqf);exact .b)))<;>intro _)
    refine Go.qkm [(0, [[.int .i64 0, .int .i64 0, .str []]])] [(0, [encV vNull])] ?_
    repeat' first|(apply Qk.nil;show Go _ _ _ _ _ _ _ _)|(apply Qk.op;exact rfl;(first|(rintro _ ⟨_, rfl⟩;exact rfl)|(rintro _ ⟨_, rfl⟩;exact aop_load rfl rfl rfl (Nat.le_of_ble_eq_true rfl) rfl)))|(apply Qk.no;exact rfl)|(apply Qk.wop;exact rfl;exact rfl;(first|exact yJ|exact yL rfl|exact aop_store rfl rfl rfl rfl rfl rfl (Nat.le_of_ble_eq_true rfl));exact ⟨_, rfl⟩)
    repeat' first|apply Go.seq|apply Go.skip|apply Go.region|apply Go.nil|apply Go.block|apply Go.draw|apply Go.segs|(apply Go.exit;exact rfl)|(apply Go.cond true;exact rfl)|(apply Go.cond false;exact rfl)|apply yB|apply yC|((first|apply yG|apply yH|apply yI);exact rfl;(first|exact yJ|exact yK rfl rfl|exact yL rfl|exact yM rfl|exact rfl|exact aL rfl rfl rfl rfl rfl|exact aS rfl rfl rfl rfl rfl rfl rfl))|((first|apply yN|apply yO|apply yP);exact rfl)|(exfalso;omega)|(((first|apply yT|apply yU|apply yV|apply yW);exact rfl;(first|exact .d|exact .e|exact .n|((fail_if_success exact bqt);(fail_if_success exact bqf);exact .b)))<;>intro _)
    exact Go.keep [0, 1, 4, 6, 7, 8, 9, 10, 11] (hj _ _ ⟨tw.1, tw.2, hw1, fun h => by rw [hw2 (by rw [← hw1]; exact h)], rfl, rfl⟩)
  · have hd : e.drop i = [] := List.drop_eq_nil_of_le (by omega)
    rw [hd] at haux hev
    simp only [exprAux, beq_iff_eq] at haux
    obtain ⟨w, rfl⟩ : ∃ w, st = [w] := List.length_eq_one_iff.1 (by omega)
    have hR : evalR e row = (w, true) := by rw [evalR, hev]; rfl
    rw [hR]
    repeat' first|refine yaG ?_|(exfalso;omega)|(refine yaS ?_ ?_<;>intro _)
    exact .ret (retv_mt rfl rfl rfl (Nat.zero_le _) rfl rfl) (fin_vb w _)
theorem l2Truth_ok (e : List Tok) (row : List Val) (hv : areVals row 16 = true) (he : exprF e row.length = true) : Pure Tryz.prog 176 [.c (.fz (e.map encTok)), .c (.fz (row.map encV))] (.c (.int .i64 (truthR e row))) := by
  refine Pure.run mixed c_spec_l2Truth_ok (Nat.le_of_ble_eq_true rfl) fun σ hS hA => ?_
  clear hS hA
  obtain ⟨hok, hrl⟩ := areVals_oks hv
  obtain ⟨hel, hea⟩ := exprF_aux he
  have c1 := l2Eval_ok e row (by omega) (by omega) hok hea
  have c2 := l2Of_ok (evalR e row).1
  rw [truthR]
  generalize evalR e row = q at c1 c2 ⊢
  obtain ⟨v, b⟩ := q
  simp only at c1 c2 ⊢
  cases hb : ofB v
  · rw [hb] at c2
    have h1 := ofB_not hb
    cases b
    · repeat' first|refine yaG ?_|refine yaC (c1) ?_|refine yaC (c2) ?_|(exfalso;omega)|(refine yaS ?_ ?_<;>intro _)
      exact .ret rfl (.int rfl)
    · repeat' first|refine yaG ?_|refine yaC (c1) ?_|refine yaC (c2) ?_|(exfalso;omega)|(refine yaS ?_ ?_<;>intro _)
      exact .ret rfl (.int (by rw [if_pos rfl, h1]))
  · rw [hb] at c2
    have h1 := (ofB_truth hb).1
    cases b
    · repeat' first|refine yaG ?_|refine yaC (c1) ?_|refine yaC (c2) ?_|(exfalso;omega)|(refine yaS ?_ ?_<;>intro _)
      exact .ret rfl (.int rfl)
    · repeat' first|refine yaG ?_|refine yaC (c1) ?_|refine yaC (c2) ?_|(exfalso;omega)|(refine yaS ?_ ?_<;>intro _)
      exact .ret rfl (.int (by rw [if_pos rfl, h1]))
end Go.Proofs.YtinbdedlmkjokaaGreat.Am

/- Marks by fields, and how many marks a value takes. -/
set_option linter.unusedVariables false
set_option linter.unusedSimpArgs false
namespace Go.Proofs.YtinbdedlmkjokaaGreat.Am

theorem Has.shape {σ : Store} {S : Nat → Prop} {ys : List (List Ce)} {x : Ce} (h : Has σ S (.fz ys) x) {i : Nat} (hi : i < ys.length) : ∃ id v c, x = .sl id v 0 ys.length c := by
  obtain ⟨id, v, s, cs, junk, T, rfl, _⟩ := h.open (by omega)
  exact ⟨_, _, _, rfl⟩
/-- One cell of one element is written. -/
theorem Has.wr {σ : Store} {S : Nat → Prop} {zs : List (List Ce)} {e : List Ce} {id v n c i j : Nat} (h : Has σ S (.fz (zs.set i e)) (.sl id v 0 n c)) (hi : i < zs.length) (hj : j < e.length) :
    ∃ (es : List (List Ce)) (e' : List Ce), σ.get id = some (v, es) ∧ es[0 + i]? = some e' ∧ e'.length = e.length ∧ S id ∧
      ∀ z, Flat z → Has (σ.put id (v, es.set (0 + i) (splice e' (0 + j) [z]))) S (.fz (zs.set i (e.set j z))) (.sl id v 0 n c) ∧
        (∀ a, ¬ S a → (σ.put id (v, es.set (0 + i) (splice e' (0 + j) [z]))).get a = σ.get a) ∧ (σ.put id (v, es.set (0 + i) (splice e' (0 + j) [z]))).next = σ.next := by
  have hi' : i < (zs.set i e).length := by simpa using hi
  have hii : (zs.set i e)[i] = e := by simp
  obtain ⟨id1, v1, c1, es, e', hx, hg, he, hel, hS, hw⟩ := h.write (i := i) (j := j) hi' (by rw [hii]; exact hj)
  obtain ⟨rfl, rfl, -⟩ := sl_inj hx
  refine ⟨es, e', hg, he, by rw [hel, hii], hS, fun z hz => ⟨?_, fun a ha => put_off hS a ha, rfl⟩⟩
  have := hw z hz
  rw [List.set_set, hii] at this
  exact this
/-- A child of one element is given to a call. -/
theorem Has.ch {σ : Store} {S : Nat → Prop} {zs : List (List Ce)} {e : List Ce} {y : Ce} {id v n c i j : Nat} (h : Has σ S (.fz (zs.set i e)) (.sl id v 0 n c)) (hi : i < zs.length) (hj : j < e.length) (hy : e[j] = y) :
    ∃ (es : List (List Ce)) (e' : List Ce) (T : Nat → Prop), σ.get id = some (v, es) ∧ es[0 + i]? = some e' ∧ e'.length = e.length ∧ (∀ a, T a → S a) ∧
      ∃ hj' : j < e'.length, Has σ T y e'[j] ∧ ∀ σ' y', (∀ a, ¬ T a → σ'.get a = σ.get a) → Has σ' T y' e'[j] → Has σ' S (.fz (zs.set i (e.set j y'))) (.sl id v 0 n c) := by
  have hi' : i < (zs.set i e).length := by simpa using hi
  have hii : (zs.set i e)[i] = e := by simp
  obtain ⟨id1, v1, c1, es, e', T, hx, hg, he, hel, hTS, hj', hch, hback⟩ := h.child (i := i) (j := j) hi' (by rw [hii]; exact hj)
  obtain ⟨rfl, rfl, -⟩ := sl_inj hx
  subst hy
  refine ⟨es, e', T, hg, he, by rw [hel, hii], hTS, hj', ?_, fun σ' y' hf hh => ?_⟩
  · have e0 : (zs.set i e)[i][j]'(by rw [hii]; exact hj) = e[j] := by simp
    rw [← e0]
    exact hch
  · have := hback σ' y' hf hh
    rw [List.set_set, hii] at this
    exact this
/-- Counts along the sizes' chain. -/
inductive Cnts : List (Int → Int) → Int → Prop where
  | nil : Cnts [] 0
  | cons {f : Int → Int} {r : List (Int → Int)} {c d : Int} (h : ∀ q, 0 ≤ q → 0 ≤ f q → c ≤ 8 * (q - f q)) (k : Cnts r d) : Cnts (f :: r) (c + d)
theorem chain_cnt {fs : List (Int → Int)} {c : Int} (h : Cnts fs c) : ∀ l, 0 ≤ l → 0 ≤ chain fs l → c ≤ 8 * (l - chain fs l) := by
  induction h with
  | nil => intro l _ _; simp only [chain]; omega
  | @cons f r c d h _ ih =>
    intro l hl hc
    simp only [chain] at hc ⊢
    split at hc
    · omega
    · rename_i h0
      rw [if_neg h0]
      have := h l hl (by omega)
      have := ih (f l) (by omega) hc
      omega
theorem szList_cnt8 {α : Type} {g : α → Int → Int} {c : α → Int} (hg : ∀ a l, 0 ≤ l → g a l ≤ l) (hc : ∀ a l, 0 ≤ l → 0 ≤ g a l → c a ≤ 8 * (l - g a l) + 8) : ∀ (xs : List α) (left : Int), 0 ≤ left → 0 ≤ szList g xs left → cntL c xs ≤ 8 * (left - szList g xs left) + 8 * xs.length
  | [], left, h, hs => by simp [szList, cntL]
  | a :: r, left, h, hs => by
    simp only [szList] at hs ⊢
    split at hs
    · omega
    · rename_i h0
      rw [if_neg h0]
      have h1 := szList_cnt8 hg hc r (g a left) (by omega) hs
      have h2 := hc a left h (by omega)
      simp only [cntL, List.length_cons]
      omega
theorem szL_cnt8 {α : Type} {g : α → Int → Int} {c : α → Int} (hg : ∀ a l, 0 ≤ l → g a l ≤ l) (hc : ∀ a l, 0 ≤ l → 0 ≤ g a l → c a ≤ 8 * (l - g a l) + 8) (xs : List α) (left : Int) (h : 0 ≤ left) (hs : 0 ≤ szL g xs left) : cntL c xs ≤ 8 * (left - szL g xs left) := by
  simp only [szL] at hs ⊢
  split at hs
  · omega
  · rename_i h0
    rw [if_neg h0]
    have := szList_cnt8 hg hc xs (left - xs.length) (by omega) hs
    omega
theorem cnt_str (s : List UInt8) : ∀ q : Int, 0 ≤ q → 0 ≤ q - s.length → (0 : Int) ≤ 8 * (q - (q - s.length)) := fun q _ _ => by omega
theorem cnt_ints (xs : List Int) : ∀ q : Int, 0 ≤ q → 0 ≤ zI xs q → cntL (fun _ => 1) xs ≤ 8 * (q - zI xs q) := fun q _ h => by
  simp only [zI] at h ⊢
  rw [cnt1]
  split at h
  · omega
  · rename_i h0; rw [if_neg h0]; omega
theorem szV_cnt (v : Val) (l : Int) (h : 0 ≤ l) (hs : 0 ≤ szV v l) : (3 : Int) ≤ 8 * (l - szV v l) + 8 := by
  have := szV_le v l h
  omega
end Go.Proofs.YtinbdedlmkjokaaGreat.Am

/- The laws' helpers on types, printed by a program: Tok, Check, Unique, Fk, Col. -/
set_option linter.unusedVariables false
set_option linter.unusedSimpArgs false
namespace Go.Proofs.YtinbdedlmkjokaaGreat.Am
def markTok (a : Tok) (k : Int) : Tok := ⟨k, k + 1, ⟨k + 1 + 1, k + 1 + 1 + 1, mText (k + 1 + 1 + 1 + 1)⟩⟩
def cntTok (a : Tok) : Int := 5
theorem cntTok_nonneg (a : Tok) : 0 ≤ cntTok a := by
  simp only [cntTok]
  omega
theorem cntTok_sz (a : Tok) (l : Int) (h : 0 ≤ l) (hs : 0 ≤ zTok a l) : cntTok a ≤ 8 * (l - zTok a l) + 8 := by
  have := chain_cnt (fs := [(szV a.v)]) (.cons (c := 0) (fun q h hs => by have := szV_le a.v q h; omega) .nil) l h hs
  simp only [cntTok]
  simp only [zTok] at hs ⊢
  omega
theorem markTokS_ok (xs : List Tok) (k : Int) (hx : xs.length ≤ 34359738368) (hb : ∀ a ∈ xs, bTok 34359738368 a) (hk0 : 0 ≤ k) (hk : k + cntL cntTok xs ≤ 34359738368) : Marks Tryz.prog 115 (.fz (xs.map encTok)) (.fz ((markL markTok cntTok xs k).map encTok)) k (k + cntL cntTok xs) := by
  refine markS_ok mixed c_laws_markTokS_ok (Nat.le_of_ble_eq_true rfl) (Nat.le_of_ble_eq_true rfl) encTok markTok cntTok cntTok_nonneg xs k hx hk0 hk ?_
  intro n0 rets R K σ τ S x i ni ki ys hi fr hn0 hyl hni hki0 hki1 h0 h1 h5 hmem hh hnext
  have hi' : i < (ys.map encTok).length := by simpa using hi
  have hyi : (ys.map encTok)[i] = encTok ys[i] := by simp
  have hb := hb _ hmem
  obtain ⟨id, v, c, rfl⟩ := hh.shape hi'
  have hh : Has τ S (.fz ((ys.map encTok).set i (encTok ys[i]))) (.sl id v 0 (ys.map encTok).length c) := by rw [← hyi, List.set_getElem_self]; exact hh
  have hfr : ∀ a, ¬ S a → τ.get a = τ.get a := fun _ _ => rfl
  have hnx : τ.next = τ.next := rfl
  refine .same (look_three h0 h1 h5) ?_
  have hset : ∀ q, (ys.set i q).map encTok = (ys.map encTok).set i (encTok q) := fun q => List.map_set
  simp only [cntTok] at hki1
  obtain ⟨es0, e0, hg0, he0, hel0, hS0, hw0⟩ := hh.wr (j := 0) hi' (Nat.le_of_ble_eq_true rfl)
  have hel0 : e0.length = 5 := hel0
  obtain ⟨hh, hf0, hn0⟩ := hw0 (.int .i64 ki) (.int _ _)
  have hfr := fun a (ha : ¬ S a) => (hf0 a ha).trans (hfr a ha)
  have hnx := hn0.trans hnx
  repeat' first|(apply yA;exact rfl)|apply yB|apply yC|((first|apply yG|apply yH|apply yI);exact rfl;(first|exact rfl|exact aop_iaddrO rfl rfl hni hi' hg0 he0 hel0|exact aop_storeO rfl rfl hg0 he0 (by omega)))|(apply yN;exact rfl)
  obtain ⟨k0, hk0⟩ : ∃ z, ki + 1 = z := ⟨_, rfl⟩
  rw [show IntKind.i64.wrap (ki + 1) = k0 by rw [wrap64 (by omega) (by omega)]; exact hk0]
  obtain ⟨es1, e1, hg1, he1, hel1, hS1, hw1⟩ := hh.wr (j := 1) hi' (Nat.le_of_ble_eq_true rfl)
  have hel1 : e1.length = 5 := hel1
  obtain ⟨hh, hf1, hn1⟩ := hw1 (.int .i64 k0) (.int _ _)
  have hfr := fun a (ha : ¬ S a) => (hf1 a ha).trans (hfr a ha)
  have hnx := hn1.trans hnx
  repeat' first|(apply yA;exact rfl)|apply yB|apply yC|((first|apply yG|apply yH|apply yI);exact rfl;(first|exact rfl|exact aop_iaddrO rfl rfl hni hi' hg1 he1 hel1|exact aop_storeO rfl rfl hg1 he1 (by omega)))|(apply yN;exact rfl)
  obtain ⟨k1, hk1⟩ : ∃ z, k0 + 1 = z := ⟨_, rfl⟩
  rw [show IntKind.i64.wrap (k0 + 1) = k1 by rw [wrap64 (by omega) (by omega)]; exact hk1]
  obtain ⟨es2, e2, hg2, he2, hel2, hS2, hw2⟩ := hh.wr (j := 2) hi' (Nat.le_of_ble_eq_true rfl)
  have hel2 : e2.length = 5 := hel2
  obtain ⟨hh, hf2, hn2⟩ := hw2 (.int .i64 k1) (.int _ _)
  have hfr := fun a (ha : ¬ S a) => (hf2 a ha).trans (hfr a ha)
  have hnx := hn2.trans hnx
  repeat' first|(apply yA;exact rfl)|apply yB|apply yC|((first|apply yG|apply yH|apply yI);exact rfl;(first|exact rfl|exact aop_iaddrO rfl rfl hni hi' hg2 he2 hel2|exact aop_storeO rfl rfl hg2 he2 (by omega)))|(apply yN;exact rfl)
  obtain ⟨k2, hk2⟩ : ∃ z, k1 + 1 = z := ⟨_, rfl⟩
  rw [show IntKind.i64.wrap (k1 + 1) = k2 by rw [wrap64 (by omega) (by omega)]; exact hk2]
  obtain ⟨es3, e3, hg3, he3, hel3, hS3, hw3⟩ := hh.wr (j := 3) hi' (Nat.le_of_ble_eq_true rfl)
  have hel3 : e3.length = 5 := hel3
  obtain ⟨hh, hf3, hn3⟩ := hw3 (.int .i64 k2) (.int _ _)
  have hfr := fun a (ha : ¬ S a) => (hf3 a ha).trans (hfr a ha)
  have hnx := hn3.trans hnx
  repeat' first|(apply yA;exact rfl)|apply yB|apply yC|((first|apply yG|apply yH|apply yI);exact rfl;(first|exact rfl|exact aop_iaddrO rfl rfl hni hi' hg3 he3 hel3|exact aop_storeO rfl rfl hg3 he3 (by omega)))|(apply yN;exact rfl)
  obtain ⟨k3, hk3⟩ : ∃ z, k2 + 1 = z := ⟨_, rfl⟩
  rw [show IntKind.i64.wrap (k2 + 1) = k3 by rw [wrap64 (by omega) (by omega)]; exact hk3]
  obtain ⟨es4, e4, hg4, he4, hel4, hS4, hw4⟩ := hh.wr (j := 4) hi' (Nat.le_of_ble_eq_true rfl)
  have hel4 : e4.length = 5 := hel4
  obtain ⟨hh, hf4, hn4⟩ := hw4 (.str (mText k3)) (.str _)
  have hfr := fun a (ha : ¬ S a) => (hf4 a ha).trans (hfr a ha)
  have hnx := hn4.trans hnx
  repeat' first|(apply yA;exact rfl)|apply yB|apply yC|((first|apply yG|apply yH|apply yI);exact rfl;(first|exact rfl|exact aop_iaddrO rfl rfl hni hi' hg4 he4 hel4|exact aop_storeO rfl rfl hg4 he4 (by omega)))|(apply yN;exact rfl)|((first|apply yQ|apply yR|apply yS);(iterate 3 exact rfl);exact markText_ok _ (by omega))
  obtain ⟨k4, hk4⟩ : ∃ z, k3 + 1 = z := ⟨_, rfl⟩
  rw [show IntKind.i64.wrap (k3 + 1) = k4 by rw [wrap64 (by omega) (by omega)]; exact hk4]
  have hkend : k4 = ki + cntTok ys[i] := by simp only [cntTok]; omega
  refine hnext _ _ rfl (congrArg (fun z => some (AV.c (Ce.int .i64 z))) hkend) rfl hnx hfr ?_
  rw [hset]
  subst hk0 hk1 hk2 hk3 hk4
  exact hh
def markChk (a : Chk) (k : Int) : Chk := ⟨markL markTok cntTok a.expr (k)⟩
def cntChk (a : Chk) : Int := 0 + cntL cntTok a.expr
theorem cntChk_nonneg (a : Chk) : 0 ≤ cntChk a := by
  have := cntL_nonneg (c := cntTok) cntTok_nonneg a.expr
  simp only [cntChk]
  omega
theorem cntChk_sz (a : Chk) (l : Int) (h : 0 ≤ l) (hs : 0 ≤ zChk a l) : cntChk a ≤ 8 * (l - zChk a l) + 8 := by
  have := chain_cnt (fs := [(szL zTok a.expr)]) (.cons (c := cntL cntTok a.expr) (fun q h hs => szL_cnt8 zTok_le cntTok_sz a.expr q h hs) .nil) l h hs
  simp only [cntChk]
  simp only [zChk] at hs ⊢
  omega
theorem markChkS_ok (xs : List Chk) (k : Int) (hx : xs.length ≤ 34359738368) (hb : ∀ a ∈ xs, bChk 34359738368 a) (hk0 : 0 ≤ k) (hk : k + cntL cntChk xs ≤ 34359738368) : Marks Tryz.prog 62 (.fz (xs.map encChk)) (.fz ((markL markChk cntChk xs k).map encChk)) k (k + cntL cntChk xs) := by
  refine markS_ok mixed c_laws_markCheckS_ok (Nat.le_of_ble_eq_true rfl) (Nat.le_of_ble_eq_true rfl) encChk markChk cntChk cntChk_nonneg xs k hx hk0 hk ?_
  intro n0 rets R K σ τ S x i ni ki ys hi fr hn0 hyl hni hki0 hki1 h0 h1 h5 hmem hh hnext
  have hi' : i < (ys.map encChk).length := by simpa using hi
  have hyi : (ys.map encChk)[i] = encChk ys[i] := by simp
  have hb := hb _ hmem
  obtain ⟨id, v, c, rfl⟩ := hh.shape hi'
  have hh : Has τ S (.fz ((ys.map encChk).set i (encChk ys[i]))) (.sl id v 0 (ys.map encChk).length c) := by rw [← hyi, List.set_getElem_self]; exact hh
  have hfr : ∀ a, ¬ S a → τ.get a = τ.get a := fun _ _ => rfl
  have hnx : τ.next = τ.next := rfl
  refine .same (look_three h0 h1 h5) ?_
  have hset : ∀ q, (ys.set i q).map encChk = (ys.map encChk).set i (encChk q) := fun q => List.map_set
  have hc0 := cntL_nonneg (c := cntTok) cntTok_nonneg ys[i].expr
  simp only [cntChk] at hki1
  obtain ⟨es0, e0, T0, hg0, he0, hel0, hTS0, hj0, hch0, hback0⟩ := hh.ch (j := 0) (y := .fz (ys[i].expr.map encTok)) hi' (Nat.le_of_ble_eq_true rfl) rfl
  repeat' first|(apply yA;exact rfl)|apply yB|apply yC|((first|apply yG|apply yH|apply yI);exact rfl;(first|exact rfl|exact aop_iaddrO rfl rfl hni hi' hg0 he0 hel0|exact aop_loadO rfl hg0 he0 (show 0 + 0 < e0.length by omega)))|(apply yN;exact rfl)
  refine Go.call _ rfl rfl rfl ((markTokS_ok ys[i].expr ki hb.1 hb.2 (by omega) (by omega)).at_ _ T0 _ hch0) ?_
  rintro r τ0 ⟨rfl, hn0, hf0, hhc0⟩
  have hh := hback0 τ0 _ hf0 hhc0
  have hfr := fun a (ha : ¬ S a) => (hf0 a (fun h => ha (hTS0 a h))).trans (hfr a ha)
  have hnx := hn0.trans hnx
  obtain ⟨k0, hk0⟩ : ∃ z, ki + cntL cntTok ys[i].expr = z := ⟨_, rfl⟩
  rw [hk0]
  clear hg0 he0 hel0 hch0 hback0 hf0 hn0 hhc0
  repeat' first|(apply yA;exact rfl)|apply yB|apply yC|((first|apply yG|apply yH|apply yI);exact rfl;(first|exact rfl))|(apply yN;exact rfl)
  have hkend : k0 = ki + cntChk ys[i] := by simp only [cntChk]; omega
  refine hnext _ _ rfl (congrArg (fun z => some (AV.c (Ce.int .i64 z))) hkend) rfl hnx hfr ?_
  rw [hset]
  subst hk0
  exact hh
def markUniq (a : Uniq) (k : Int) : Uniq := ⟨markL markI (fun _ => 1) a.cols (k)⟩
def cntUniq (a : Uniq) : Int := 0 + cntL (fun _ => 1) a.cols
theorem cntUniq_nonneg (a : Uniq) : 0 ≤ cntUniq a := by
  have := cntL_nonneg (c := (fun _ => 1)) (fun _ => by decide) a.cols
  simp only [cntUniq]
  omega
theorem cntUniq_sz (a : Uniq) (l : Int) (h : 0 ≤ l) (hs : 0 ≤ zUniq a l) : cntUniq a ≤ 8 * (l - zUniq a l) + 8 := by
  have := chain_cnt (fs := [(zI a.cols)]) (.cons (c := cntL (fun _ => 1) a.cols) (cnt_ints a.cols) .nil) l h hs
  simp only [cntUniq]
  simp only [zUniq] at hs ⊢
  omega
theorem markUniqS_ok (xs : List Uniq) (k : Int) (hx : xs.length ≤ 34359738368) (hb : ∀ a ∈ xs, bUniq 34359738368 a) (hk0 : 0 ≤ k) (hk : k + cntL cntUniq xs ≤ 34359738368) : Marks Tryz.prog 61 (.fz (xs.map encUniq)) (.fz ((markL markUniq cntUniq xs k).map encUniq)) k (k + cntL cntUniq xs) := by
  refine markS_ok mixed c_laws_markUniqueS_ok (Nat.le_of_ble_eq_true rfl) (Nat.le_of_ble_eq_true rfl) encUniq markUniq cntUniq cntUniq_nonneg xs k hx hk0 hk ?_
  intro n0 rets R K σ τ S x i ni ki ys hi fr hn0 hyl hni hki0 hki1 h0 h1 h5 hmem hh hnext
  have hi' : i < (ys.map encUniq).length := by simpa using hi
  have hyi : (ys.map encUniq)[i] = encUniq ys[i] := by simp
  have hb := hb _ hmem
  obtain ⟨id, v, c, rfl⟩ := hh.shape hi'
  have hh : Has τ S (.fz ((ys.map encUniq).set i (encUniq ys[i]))) (.sl id v 0 (ys.map encUniq).length c) := by rw [← hyi, List.set_getElem_self]; exact hh
  have hfr : ∀ a, ¬ S a → τ.get a = τ.get a := fun _ _ => rfl
  have hnx : τ.next = τ.next := rfl
  refine .same (look_three h0 h1 h5) ?_
  have hset : ∀ q, (ys.set i q).map encUniq = (ys.map encUniq).set i (encUniq q) := fun q => List.map_set
  have hc0 := cntL_nonneg (c := (fun _ => 1)) (fun _ => by decide) ys[i].cols
  simp only [cntUniq] at hki1
  obtain ⟨es0, e0, T0, hg0, he0, hel0, hTS0, hj0, hch0, hback0⟩ := hh.ch (j := 0) (y := .fz (ys[i].cols.map encI)) hi' (Nat.le_of_ble_eq_true rfl) rfl
  repeat' first|(apply yA;exact rfl)|apply yB|apply yC|((first|apply yG|apply yH|apply yI);exact rfl;(first|exact rfl|exact aop_iaddrO rfl rfl hni hi' hg0 he0 hel0|exact aop_loadO rfl hg0 he0 (show 0 + 0 < e0.length by omega)))|(apply yN;exact rfl)
  refine Go.call _ rfl rfl rfl ((markInt64S_ok ys[i].cols ki hb  (by omega) (by omega)).at_ _ T0 _ hch0) ?_
  rintro r τ0 ⟨rfl, hn0, hf0, hhc0⟩
  have hh := hback0 τ0 _ hf0 hhc0
  have hfr := fun a (ha : ¬ S a) => (hf0 a (fun h => ha (hTS0 a h))).trans (hfr a ha)
  have hnx := hn0.trans hnx
  obtain ⟨k0, hk0⟩ : ∃ z, ki + cntL (fun _ => 1) ys[i].cols = z := ⟨_, rfl⟩
  rw [hk0]
  clear hg0 he0 hel0 hch0 hback0 hf0 hn0 hhc0
  repeat' first|(apply yA;exact rfl)|apply yB|apply yC|((first|apply yG|apply yH|apply yI);exact rfl;(first|exact rfl))|(apply yN;exact rfl)
  have hkend : k0 = ki + cntUniq ys[i] := by simp only [cntUniq]; omega
  refine hnext _ _ rfl (congrArg (fun z => some (AV.c (Ce.int .i64 z))) hkend) rfl hnx hfr ?_
  rw [hset]
  subst hk0
  exact hh
def markFk (a : Fk) (k : Int) : Fk := ⟨markL markI (fun _ => 1) a.cols (k), mText (k + cntL (fun _ => 1) a.cols), k + cntL (fun _ => 1) a.cols + 1, k + cntL (fun _ => 1) a.cols + 1 + 1, (k + cntL (fun _ => 1) a.cols + 1 + 1 + 1).tmod 3 == 0⟩
def cntFk (a : Fk) : Int := 4 + cntL (fun _ => 1) a.cols
theorem cntFk_nonneg (a : Fk) : 0 ≤ cntFk a := by
  have := cntL_nonneg (c := (fun _ => 1)) (fun _ => by decide) a.cols
  simp only [cntFk]
  omega
theorem cntFk_sz (a : Fk) (l : Int) (h : 0 ≤ l) (hs : 0 ≤ zFk a l) : cntFk a ≤ 8 * (l - zFk a l) + 8 := by
  have := chain_cnt (fs := [(zI a.cols), (fun l => l - a.table.length)]) (.cons (c := cntL (fun _ => 1) a.cols) (cnt_ints a.cols) (.cons (c := 0) (cnt_str a.table) .nil)) l h hs
  simp only [cntFk]
  simp only [zFk] at hs ⊢
  omega
theorem markFkS_ok (xs : List Fk) (k : Int) (hx : xs.length ≤ 34359738368) (hb : ∀ a ∈ xs, bFk 34359738368 a) (hk0 : 0 ≤ k) (hk : k + cntL cntFk xs ≤ 34359738368) : Marks Tryz.prog 63 (.fz (xs.map encFk)) (.fz ((markL markFk cntFk xs k).map encFk)) k (k + cntL cntFk xs) := by
  refine markS_ok mixed c_laws_markFkS_ok (Nat.le_of_ble_eq_true rfl) (Nat.le_of_ble_eq_true rfl) encFk markFk cntFk cntFk_nonneg xs k hx hk0 hk ?_
  intro n0 rets R K σ τ S x i ni ki ys hi fr hn0 hyl hni hki0 hki1 h0 h1 h5 hmem hh hnext
  have hi' : i < (ys.map encFk).length := by simpa using hi
  have hyi : (ys.map encFk)[i] = encFk ys[i] := by simp
  have hb := hb _ hmem
  obtain ⟨id, v, c, rfl⟩ := hh.shape hi'
  have hh : Has τ S (.fz ((ys.map encFk).set i (encFk ys[i]))) (.sl id v 0 (ys.map encFk).length c) := by rw [← hyi, List.set_getElem_self]; exact hh
  have hfr : ∀ a, ¬ S a → τ.get a = τ.get a := fun _ _ => rfl
  have hnx : τ.next = τ.next := rfl
  refine .same (look_three h0 h1 h5) ?_
  have hset : ∀ q, (ys.set i q).map encFk = (ys.map encFk).set i (encFk q) := fun q => List.map_set
  have hc0 := cntL_nonneg (c := (fun _ => 1)) (fun _ => by decide) ys[i].cols
  simp only [cntFk] at hki1
  obtain ⟨es0, e0, T0, hg0, he0, hel0, hTS0, hj0, hch0, hback0⟩ := hh.ch (j := 0) (y := .fz (ys[i].cols.map encI)) hi' (Nat.le_of_ble_eq_true rfl) rfl
  repeat' first|(apply yA;exact rfl)|apply yB|apply yC|((first|apply yG|apply yH|apply yI);exact rfl;(first|exact rfl|exact aop_iaddrO rfl rfl hni hi' hg0 he0 hel0|exact aop_loadO rfl hg0 he0 (show 0 + 0 < e0.length by omega)))|(apply yN;exact rfl)
  refine Go.call _ rfl rfl rfl ((markInt64S_ok ys[i].cols ki hb.1  (by omega) (by omega)).at_ _ T0 _ hch0) ?_
  rintro r τ0 ⟨rfl, hn0, hf0, hhc0⟩
  have hh := hback0 τ0 _ hf0 hhc0
  have hfr := fun a (ha : ¬ S a) => (hf0 a (fun h => ha (hTS0 a h))).trans (hfr a ha)
  have hnx := hn0.trans hnx
  obtain ⟨k0, hk0⟩ : ∃ z, ki + cntL (fun _ => 1) ys[i].cols = z := ⟨_, rfl⟩
  rw [hk0]
  clear hg0 he0 hel0 hch0 hback0 hf0 hn0 hhc0
  obtain ⟨es1, e1, hg1, he1, hel1, hS1, hw1⟩ := hh.wr (j := 1) hi' (Nat.le_of_ble_eq_true rfl)
  have hel1 : e1.length = 5 := hel1
  obtain ⟨hh, hf1, hn1⟩ := hw1 (.str (mText k0)) (.str _)
  have hfr := fun a (ha : ¬ S a) => (hf1 a ha).trans (hfr a ha)
  have hnx := hn1.trans hnx
  repeat' first|(apply yA;exact rfl)|apply yB|apply yC|((first|apply yG|apply yH|apply yI);exact rfl;(first|exact rfl|exact aop_iaddrO rfl rfl hni hi' hg1 he1 hel1|exact aop_storeO rfl rfl hg1 he1 (by omega)))|(apply yN;exact rfl)|((first|apply yQ|apply yR|apply yS);(iterate 3 exact rfl);exact markText_ok _ (by omega))
  obtain ⟨k1, hk1⟩ : ∃ z, k0 + 1 = z := ⟨_, rfl⟩
  rw [show IntKind.i64.wrap (k0 + 1) = k1 by rw [wrap64 (by omega) (by omega)]; exact hk1]
  obtain ⟨es2, e2, hg2, he2, hel2, hS2, hw2⟩ := hh.wr (j := 2) hi' (Nat.le_of_ble_eq_true rfl)
  have hel2 : e2.length = 5 := hel2
  obtain ⟨hh, hf2, hn2⟩ := hw2 (.int .i64 k1) (.int _ _)
  have hfr := fun a (ha : ¬ S a) => (hf2 a ha).trans (hfr a ha)
  have hnx := hn2.trans hnx
  repeat' first|(apply yA;exact rfl)|apply yB|apply yC|((first|apply yG|apply yH|apply yI);exact rfl;(first|exact rfl|exact aop_iaddrO rfl rfl hni hi' hg2 he2 hel2|exact aop_storeO rfl rfl hg2 he2 (by omega)))|(apply yN;exact rfl)
  obtain ⟨k2, hk2⟩ : ∃ z, k1 + 1 = z := ⟨_, rfl⟩
  rw [show IntKind.i64.wrap (k1 + 1) = k2 by rw [wrap64 (by omega) (by omega)]; exact hk2]
  obtain ⟨es3, e3, hg3, he3, hel3, hS3, hw3⟩ := hh.wr (j := 3) hi' (Nat.le_of_ble_eq_true rfl)
  have hel3 : e3.length = 5 := hel3
  obtain ⟨hh, hf3, hn3⟩ := hw3 (.int .i64 k2) (.int _ _)
  have hfr := fun a (ha : ¬ S a) => (hf3 a ha).trans (hfr a ha)
  have hnx := hn3.trans hnx
  repeat' first|(apply yA;exact rfl)|apply yB|apply yC|((first|apply yG|apply yH|apply yI);exact rfl;(first|exact rfl|exact aop_iaddrO rfl rfl hni hi' hg3 he3 hel3|exact aop_storeO rfl rfl hg3 he3 (by omega)))|(apply yN;exact rfl)
  obtain ⟨k3, hk3⟩ : ∃ z, k2 + 1 = z := ⟨_, rfl⟩
  rw [show IntKind.i64.wrap (k2 + 1) = k3 by rw [wrap64 (by omega) (by omega)]; exact hk3]
  obtain ⟨es4, e4, hg4, he4, hel4, hS4, hw4⟩ := hh.wr (j := 4) hi' (Nat.le_of_ble_eq_true rfl)
  have hel4 : e4.length = 5 := hel4
  obtain ⟨hh, hf4, hn4⟩ := hw4 (.bool ((k3).tmod 3 == 0)) (.bool _)
  have hfr := fun a (ha : ¬ S a) => (hf4 a ha).trans (hfr a ha)
  have hnx := hn4.trans hnx
  repeat' first|(apply yA;exact rfl)|apply yB|apply yC|((first|apply yG|apply yH|apply yI);exact rfl;(first|exact rfl|exact aop_iaddrO rfl rfl hni hi' hg4 he4 hel4|exact aop_storeO rfl rfl hg4 he4 (by omega)|exact aop_rem rfl rfl (by decide)))|(apply yN;exact rfl)
  obtain ⟨k4, hk4⟩ : ∃ z, k3 + 1 = z := ⟨_, rfl⟩
  rw [show IntKind.i64.wrap (k3 + 1) = k4 by rw [wrap64 (by omega) (by omega)]; exact hk4]
  have hkend : k4 = ki + cntFk ys[i] := by simp only [cntFk]; omega
  refine hnext _ _ rfl (congrArg (fun z => some (AV.c (Ce.int .i64 z))) hkend) rfl hnx hfr ?_
  rw [hset]
  subst hk0 hk1 hk2 hk3 hk4
  exact hh
def markCol (a : Col) (k : Int) : Col := ⟨mText (k), k + 1, (k + 1 + 1).tmod 3 == 0, ⟨k + 1 + 1 + 1, k + 1 + 1 + 1 + 1, mText (k + 1 + 1 + 1 + 1 + 1)⟩⟩
def cntCol (a : Col) : Int := 6
theorem cntCol_nonneg (a : Col) : 0 ≤ cntCol a := by
  simp only [cntCol]
  omega
theorem cntCol_sz (a : Col) (l : Int) (h : 0 ≤ l) (hs : 0 ≤ zCol a l) : cntCol a ≤ 8 * (l - zCol a l) + 8 := by
  have := chain_cnt (fs := [(fun l => l - a.name.length), (szV a.dflt)]) (.cons (c := 0) (cnt_str a.name) (.cons (c := 0) (fun q h hs => by have := szV_le a.dflt q h; omega) .nil)) l h hs
  simp only [cntCol]
  simp only [zCol] at hs ⊢
  omega
theorem markColS_ok (xs : List Col) (k : Int) (hx : xs.length ≤ 34359738368) (hb : ∀ a ∈ xs, bCol 34359738368 a) (hk0 : 0 ≤ k) (hk : k + cntL cntCol xs ≤ 34359738368) : Marks Tryz.prog 59 (.fz (xs.map encCol)) (.fz ((markL markCol cntCol xs k).map encCol)) k (k + cntL cntCol xs) := by
  refine markS_ok mixed c_laws_markColS_ok (Nat.le_of_ble_eq_true rfl) (Nat.le_of_ble_eq_true rfl) encCol markCol cntCol cntCol_nonneg xs k hx hk0 hk ?_
  intro n0 rets R K σ τ S x i ni ki ys hi fr hn0 hyl hni hki0 hki1 h0 h1 h5 hmem hh hnext
  have hi' : i < (ys.map encCol).length := by simpa using hi
  have hyi : (ys.map encCol)[i] = encCol ys[i] := by simp
  have hb := hb _ hmem
  obtain ⟨id, v, c, rfl⟩ := hh.shape hi'
  have hh : Has τ S (.fz ((ys.map encCol).set i (encCol ys[i]))) (.sl id v 0 (ys.map encCol).length c) := by rw [← hyi, List.set_getElem_self]; exact hh
  have hfr : ∀ a, ¬ S a → τ.get a = τ.get a := fun _ _ => rfl
  have hnx : τ.next = τ.next := rfl
  refine .same (look_three h0 h1 h5) ?_
  have hset : ∀ q, (ys.set i q).map encCol = (ys.map encCol).set i (encCol q) := fun q => List.map_set
  simp only [cntCol] at hki1
  obtain ⟨es0, e0, hg0, he0, hel0, hS0, hw0⟩ := hh.wr (j := 0) hi' (Nat.le_of_ble_eq_true rfl)
  have hel0 : e0.length = 6 := hel0
  obtain ⟨hh, hf0, hn0⟩ := hw0 (.str (mText ki)) (.str _)
  have hfr := fun a (ha : ¬ S a) => (hf0 a ha).trans (hfr a ha)
  have hnx := hn0.trans hnx
  repeat' first|(apply yA;exact rfl)|apply yB|apply yC|((first|apply yG|apply yH|apply yI);exact rfl;(first|exact rfl|exact aop_iaddrO rfl rfl hni hi' hg0 he0 hel0|exact aop_storeO rfl rfl hg0 he0 (by omega)))|(apply yN;exact rfl)|((first|apply yQ|apply yR|apply yS);(iterate 3 exact rfl);exact markText_ok _ (by omega))
  obtain ⟨k0, hk0⟩ : ∃ z, ki + 1 = z := ⟨_, rfl⟩
  rw [show IntKind.i64.wrap (ki + 1) = k0 by rw [wrap64 (by omega) (by omega)]; exact hk0]
  obtain ⟨es1, e1, hg1, he1, hel1, hS1, hw1⟩ := hh.wr (j := 1) hi' (Nat.le_of_ble_eq_true rfl)
  have hel1 : e1.length = 6 := hel1
  obtain ⟨hh, hf1, hn1⟩ := hw1 (.int .i64 k0) (.int _ _)
  have hfr := fun a (ha : ¬ S a) => (hf1 a ha).trans (hfr a ha)
  have hnx := hn1.trans hnx
  repeat' first|(apply yA;exact rfl)|apply yB|apply yC|((first|apply yG|apply yH|apply yI);exact rfl;(first|exact rfl|exact aop_iaddrO rfl rfl hni hi' hg1 he1 hel1|exact aop_storeO rfl rfl hg1 he1 (by omega)))|(apply yN;exact rfl)
  obtain ⟨k1, hk1⟩ : ∃ z, k0 + 1 = z := ⟨_, rfl⟩
  rw [show IntKind.i64.wrap (k0 + 1) = k1 by rw [wrap64 (by omega) (by omega)]; exact hk1]
  obtain ⟨es2, e2, hg2, he2, hel2, hS2, hw2⟩ := hh.wr (j := 2) hi' (Nat.le_of_ble_eq_true rfl)
  have hel2 : e2.length = 6 := hel2
  obtain ⟨hh, hf2, hn2⟩ := hw2 (.bool ((k1).tmod 3 == 0)) (.bool _)
  have hfr := fun a (ha : ¬ S a) => (hf2 a ha).trans (hfr a ha)
  have hnx := hn2.trans hnx
  repeat' first|(apply yA;exact rfl)|apply yB|apply yC|((first|apply yG|apply yH|apply yI);exact rfl;(first|exact rfl|exact aop_iaddrO rfl rfl hni hi' hg2 he2 hel2|exact aop_storeO rfl rfl hg2 he2 (by omega)|exact aop_rem rfl rfl (by decide)))|(apply yN;exact rfl)
  obtain ⟨k2, hk2⟩ : ∃ z, k1 + 1 = z := ⟨_, rfl⟩
  rw [show IntKind.i64.wrap (k1 + 1) = k2 by rw [wrap64 (by omega) (by omega)]; exact hk2]
  obtain ⟨es3, e3, hg3, he3, hel3, hS3, hw3⟩ := hh.wr (j := 3) hi' (Nat.le_of_ble_eq_true rfl)
  have hel3 : e3.length = 6 := hel3
  obtain ⟨hh, hf3, hn3⟩ := hw3 (.int .i64 k2) (.int _ _)
  have hfr := fun a (ha : ¬ S a) => (hf3 a ha).trans (hfr a ha)
  have hnx := hn3.trans hnx
  repeat' first|(apply yA;exact rfl)|apply yB|apply yC|((first|apply yG|apply yH|apply yI);exact rfl;(first|exact rfl|exact aop_iaddrO rfl rfl hni hi' hg3 he3 hel3|exact aop_storeO rfl rfl hg3 he3 (by omega)))|(apply yN;exact rfl)
  obtain ⟨k3, hk3⟩ : ∃ z, k2 + 1 = z := ⟨_, rfl⟩
  rw [show IntKind.i64.wrap (k2 + 1) = k3 by rw [wrap64 (by omega) (by omega)]; exact hk3]
  obtain ⟨es4, e4, hg4, he4, hel4, hS4, hw4⟩ := hh.wr (j := 4) hi' (Nat.le_of_ble_eq_true rfl)
  have hel4 : e4.length = 6 := hel4
  obtain ⟨hh, hf4, hn4⟩ := hw4 (.int .i64 k3) (.int _ _)
  have hfr := fun a (ha : ¬ S a) => (hf4 a ha).trans (hfr a ha)
  have hnx := hn4.trans hnx
  repeat' first|(apply yA;exact rfl)|apply yB|apply yC|((first|apply yG|apply yH|apply yI);exact rfl;(first|exact rfl|exact aop_iaddrO rfl rfl hni hi' hg4 he4 hel4|exact aop_storeO rfl rfl hg4 he4 (by omega)))|(apply yN;exact rfl)
  obtain ⟨k4, hk4⟩ : ∃ z, k3 + 1 = z := ⟨_, rfl⟩
  rw [show IntKind.i64.wrap (k3 + 1) = k4 by rw [wrap64 (by omega) (by omega)]; exact hk4]
  obtain ⟨es5, e5, hg5, he5, hel5, hS5, hw5⟩ := hh.wr (j := 5) hi' (Nat.le_of_ble_eq_true rfl)
  have hel5 : e5.length = 6 := hel5
  obtain ⟨hh, hf5, hn5⟩ := hw5 (.str (mText k4)) (.str _)
  have hfr := fun a (ha : ¬ S a) => (hf5 a ha).trans (hfr a ha)
  have hnx := hn5.trans hnx
  repeat' first|(apply yA;exact rfl)|apply yB|apply yC|((first|apply yG|apply yH|apply yI);exact rfl;(first|exact rfl|exact aop_iaddrO rfl rfl hni hi' hg5 he5 hel5|exact aop_storeO rfl rfl hg5 he5 (by omega)))|(apply yN;exact rfl)|((first|apply yQ|apply yR|apply yS);(iterate 3 exact rfl);exact markText_ok _ (by omega))
  obtain ⟨k5, hk5⟩ : ∃ z, k4 + 1 = z := ⟨_, rfl⟩
  rw [show IntKind.i64.wrap (k4 + 1) = k5 by rw [wrap64 (by omega) (by omega)]; exact hk5]
  have hkend : k5 = ki + cntCol ys[i] := by simp only [cntCol]; omega
  refine hnext _ _ rfl (congrArg (fun z => some (AV.c (Ce.int .i64 z))) hkend) rfl hnx hfr ?_
  rw [hset]
  subst hk0 hk1 hk2 hk3 hk4 hk5
  exact hh
end Go.Proofs.YtinbdedlmkjokaaGreat.Am
