/- Joined texts: S4, P1, F9, E1, E3, E2, Y1, E4, Y2, K3, Y3, Y4, S5, S6, S7, S9, K4, D1, M0, M1, M3, M2, N0, D2, G1, G2, G3, G4, G5, G6, J1, F10, J2, J3, H0, Y5, Y6, A1, A3. -/
import Derived.Test.YtmmgbgpglhbhcaaGreatV1
import Derived.Test.YtmmgbgpglhbhcaaGreatV2
import Derived.Test.YtmmgbgpglhbhcaaGreatV3
set_option linter.unusedVariables false
set_option linter.unusedSimpArgs false
namespace Go.Proofs.YtmmgbgpglhbhcaaGreat.Am
theorem jmm (x0 x2 x3 x4 x5 : Ce) (l : List Col) (s : List UInt8) (hx : l.length <= 34359738368) : Pure Tryz.prog 259 [.agg [x0, .fz (l.map zg), x2, x3, x4, x5], .c (.str s)] (.c (.int .i64 (idxA (fun c => c.name == s) l 0))) := by
 refine Pure.run mixed zgd (yaa rfl) fun σ hS hA => ?_
 clear hS hA
 repeat' first|refine yaG ?_|exact yaF|refine yaS ?_ ?_<;>intro _
 refine Go.keep [1, 2, 5] (Go.loops (I := fun m fr τ => ∃ i : Nat, ∃ k : Int, m = l.length - i /\ i <= l.length /\ k = i /\ idxA (fun c => c.name == s) l 0 = idxA (fun c => c.name == s) (l.drop i) k /\
  fr = [(1, .c (.str s)), (2, .c (.fp [x0, .fz (l.map zg), x2, x3, x4, x5])), (5, .c (.int .i64 k))] /\ τ = E σ []) ?_ _ _ _ ⟨0, _, rfl, yae _, rfl, rfl, rfl, rfl⟩)
 rintro m fr τ ⟨i, k, rfl, hi, hn, hsl, rfl, rfl⟩ hrec
 by_cases hlt : i < l.length
 ·repeat' first|refine yaG ?_|((first|apply yG|apply yH|apply yI);exact rfl;(first|exact yX (enc := zg) rfl rfl hn hlt rfl))|exact yaF|refine yaS ?_ ?_<;>intro _
  ·refine .ret rfl (.int ?_)
   rw [hsl, yac hlt, idxA, if_pos (by assumption)]
  ·rename_i h
   refine Go.keep [1, 2, 5] (hrec _ _ _ (by omega) ⟨i + 1, _, rfl, hlt, wb hn (by omega), ?_, rfl, rfl⟩)
   rw [hsl, List.drop_eq_getElem_cons hlt, idxA, if_neg (by rw [h]; simp), jf (by omega) (by omega)]
 ·repeat' first|refine yaG ?_|exact yaF|refine yaS ?_ ?_<;>intro _
  refine .ret rfl (.int ?_)
  rw [hsl, yad (by omega)]
  rfl
theorem wgn (l : List zd) (s : List UInt8) (hx : l.length <= 34359738368) : Pure Tryz.prog 94 [.c (.fz (l.map ja)), .c (.str s)] (.c (.int .i64 (idxA (fun t => t.name == s) l 0))) := by
 refine Pure.run mixed zg9 (yaa rfl) fun σ hS hA => ?_
 clear hS hA
 repeat' first|refine yaG ?_|exact yaF|refine yaS ?_ ?_<;>intro _
 refine Go.keep [0, 1, 5] (Go.loops (I := fun m fr τ => ∃ i : Nat, ∃ k : Int, m = l.length - i /\ i <= l.length /\ k = i /\ idxA (fun c => c.name == s) l 0 = idxA (fun c => c.name == s) (l.drop i) k /\
  fr = [(0, .c (.fz (l.map ja))), (1, .c (.str s)), (5, .c (.int .i64 k))] /\ τ = E σ []) ?_ _ _ _ ⟨0, _, rfl, yae _, rfl, rfl, rfl, rfl⟩)
 rintro m fr τ ⟨i, k, rfl, hi, hn, hsl, rfl, rfl⟩ hrec
 by_cases hlt : i < l.length
 ·repeat' first|refine yaG ?_|((first|apply yG|apply yH|apply yI);exact rfl;(first|exact yX (enc := ja) rfl rfl hn hlt rfl))|exact yaF|refine yaS ?_ ?_<;>intro _
  ·refine .ret rfl (.int ?_)
   rw [hsl, yac hlt, idxA, if_pos (by assumption)]
  ·rename_i h
   refine Go.keep [0, 1, 5] (hrec _ _ _ (by omega) ⟨i + 1, _, rfl, hlt, wb hn (by omega), ?_, rfl, rfl⟩)
   rw [hsl, List.drop_eq_getElem_cons hlt, idxA, if_neg (by rw [h]; simp), jf (by omega) (by omega)]
 ·repeat' first|refine yaG ?_|exact yaF|refine yaS ?_ ?_<;>intro _
  refine .ret rfl (.int ?_)
  rw [hsl, yad (by omega)]
  rfl
theorem wkk {α : Type} {p : α -> Bool} {l : List α} {i : Nat} (hi : i < l.length) (h : p l[i] = false) : (l.any fun a => !p a) = true := List.any_eq_true.2 ⟨l[i], yab hi, by rw [h]; rfl⟩
theorem jb2 {α : Type} {p : α -> Bool} {l : List α} (h : ∀ j (hj : j < l.length), p l[j] = true) : (l.any fun a => !p a) = false := by
 rw [ybl]
 intro a ha
 obtain ⟨j, hj, rfl⟩ := List.mem_iff_getElem.1 ha
 rw [h j hj]
 simp
theorem upto {α : Type} {p : α -> Bool} {l : List α} {i : Nat} (h : ∀ j (hj : j < l.length), j < i -> p l[j] = true) (hi : i < l.length) (hp : p l[i] = true) : ∀ j (hj : j < l.length), j < i + 1 -> p l[j] = true := fun j hj hji => by
 by_cases e : j = i
 ·subst e; exact hp
 ·exact h j hj (by omega)
theorem zm6 {k : Int} : isIn k 1 2 = (k == 1 || k == 2) := by
 rw [ybc]
 simp [isIn]
 omega
theorem zu {t : zd} : zag t = true ↔ zba t.name = true /\ isIn t.cols.length 1 8 = true /\ wbk t.key t.cols.length = true /\ (t.uniques.length : Int) <= 3 /\ (t.checks.length : Int) <= 3 /\ (t.fks.length : Int) <= 3 /\ wai [] t.cols = true /\
 (t.key.any fun c => !wt t c) = false /\ (t.uniques.any fun u => !wbk u.cols t.cols.length) = false /\ (t.checks.any fun c => !wbd c.expr t.cols.length) = false /\ (t.fks.any fun f => !jci f t.cols.length) = false := by
 simp only [zag, ja6, isIn, Bool.and_eq_true, decide_eq_true_eq, Bool.not_eq_true']
 constructor
 ·rintro ⟨h1, ⟨h2, h3, h4⟩, h5, h6, h7, h8, h9, h10, h11, h12⟩
  exact ⟨h1, ⟨by omega, h2⟩, h5, h6, h7, h8, h3, h9, h10, h11, h12⟩
 ·rintro ⟨h1, ⟨h2, h2'⟩, h3, h4, h5, h6, h7, h8, h9, h10, h11⟩
  exact ⟨h1, ⟨h2', h7, by omega⟩, h3, h4, h5, h6, h8, h9, h10, h11⟩
theorem jab {t : zd} (h : zag t = true -> False) : zag t = false := by
 cases c : zag t
 ·rfl
 ·exact (h c).elim
theorem zj6 (t : zd) (hb : zac 34359738368 t) : Pure Tryz.prog 215 [.agg (ja t)] (.c (.bool (zag t))) := by
 refine Pure.run mixed weg (yaa rfl) fun σ hS hA => ?_
 clear hS hA
 obtain ⟨b1, b2, b3, b4, b5, b6⟩ := hb
 repeat' first|refine yaG ?_|((first|apply Go.pcallB|apply Go.spcallB|apply Qg.pcallB);(iterate 3 exact rfl);(first|exact jgm t.name b1|exact wau _ _ _|exact zgn t.key t.cols.length b3 (by omega) (by omega));intro _ _)|exact yaF|refine yaS ?_ ?_<;>intro _
 ·exact .ret rfl (.bool (jab fun h => by rename_i c p q; have h2 := (zu.1 h).1; rw [nbT p q] at h2; cases h2).symm)
 ·exact .ret rfl (.bool (jab fun h => by rename_i c1 p1 q1 c p q; have h2 := (zu.1 h).2.1; rw [nbT p q] at h2; cases h2).symm)
 ·exact .ret rfl (.bool (jab fun h => by rename_i c p q; have h2 := (zu.1 h).2.2.1; rw [nbT p q] at h2; cases h2).symm)
 ·exact .ret rfl (.bool (jab fun h => by have h2 := zu.1 h; omega).symm)
 ·exact .ret rfl (.bool (jab fun h => by have h2 := zu.1 h; omega).symm)
 ·exact .ret rfl (.bool (jab fun h => by have h2 := zu.1 h; omega).symm)
 rename_i c1 p1 q1 c2 p2 q2 c3 p3 q3 g1 g2 g3
 have k1 := nbF p1 q1
 have k2 := nbF p2 q2
 have k3 := nbF p3 q3
 have hin := zb2 k3
 have hln : 1 <= (t.cols.length : Int) /\ (t.cols.length : Int) <= 8 := by simpa [isIn] using k2
 clear p1 q1 p2 q2 p3 q3
 -- the columns
 refine Go.keep [1, 3, 4] (Go.loops (I := fun m fr τ => ∃ i : Nat, ∃ k : Int, m = t.cols.length - i /\ i <= t.cols.length /\ k = i /\ wai [] t.cols = wai (t.cols.take i) (t.cols.drop i) /\
  fr = [(1, .c (.fp (ja t))), (3, .c (.int .i64 (t.cols.length : Int))), (4, .c (.int .i64 k))] /\ τ = E σ []) ?_ _ _ _ ⟨0, _, rfl, yae _, rfl, rfl, rfl, rfl⟩)
 rintro m fr τ ⟨i, k, rfl, hi, hk, hsl, rfl, rfl⟩ hrec
 by_cases hlt : i < t.cols.length
 ·have hd := yac hlt
  have hbc := b2.2 _ (yab hlt)
  have htk : (t.cols.map zg).take i = (t.cols.take i).map zg := List.map_take.symm
  have hstep : wai [] t.cols = (wej t.cols[i] && !((t.cols.take i).any fun d => d.name == t.cols[i].name) && wai (t.cols.take (i + 1)) (t.cols.drop (i + 1))) := by
   rw [hsl, hd, wai, yai hlt]
  have neg : (wej t.cols[i] = false \/ ((t.cols.take i).any fun d => d.name == t.cols[i].name) = true) -> zag t = false := fun h => jab fun hh => by
   have h2 := (zu.1 hh).2.2.2.2.2.2.1
   rw [hstep] at h2
   rcases h with h | h <;> simp [h] at h2
  have hany := wbz (p := fun d : Col => d.name == t.cols[i].name) (l := t.cols.take i)
  repeat' first|refine yaG ?_|((first|apply yG|apply yH|apply yI);exact rfl;(first|exact yX (enc := zg) rfl rfl hk hlt rfl|exact war (n := i) rfl rfl hk (by simp;omega) (fun e he => by obtain ⟨c, _, rfl⟩ := List.mem_map.1 he;rfl)))|((first|apply Go.pcallB|apply Go.spcallB|apply Qg.pcallB);(iterate 3 exact rfl);exact jgm t.cols[i].name hbc.1;intro _ _)|exact yaF|refine yaS ?_ ?_<;>intro _
  ·rename_i c p q
   exact .ret rfl (.bool (neg (.inl (by rw [wej, nbT p q]; rfl))).symm)
  rename_i c p q
  have hnm := nbF p q
  rw [htk]
  repeat' first|refine yaG ?_|((first|apply Go.pcallB|apply Go.spcallB|apply Qg.pcallB);(iterate 3 exact rfl);(first|exact wau _ _ _|exact zaf _);intro _ _)|((first|apply Go.pcallI|apply Go.spcallI|apply Qg.pcallI);(iterate 3 exact rfl);exact jmm (.str []) .nils .nils .nils .nils (t.cols.take i) t.cols[i].name (by simp;omega);intro _ _)|exact yaF|refine yaS ?_ ?_<;>intro _
  all_goals clear p q
  all_goals try (refine .ret rfl (.bool (neg ?_).symm); clear hrec hsl hstep neg hin; simp_all [wej, jgn, zm6]; done)
  all_goals have hok : (wej t.cols[i] && !((t.cols.take i).any fun d => d.name == t.cols[i].name)) = true := (by clear hrec hsl hstep neg hin; simp_all [wej, jgn, zm6])
  all_goals refine Go.keep [1, 3, 4] (hrec _ _ _ (by omega) ⟨i + 1, _, rfl, hlt, wb hk (by omega), ?_, rfl, rfl⟩)
  all_goals rw [hstep, hok, yay]
 have hfin : wai [] t.cols = true := by
  rw [hsl, yad (by omega)]
  rfl
 clear hrec hsl
 repeat' first|refine yaG ?_|exact yaF|refine yaS ?_ ?_<;>intro _
 clear hlt hk hi
 -- the key
 refine Go.keep [1, 3, 6] (Go.loops (I := fun m fr τ => ∃ i : Nat, ∃ k : Int, m = t.key.length - i /\ i <= t.key.length /\ k = i /\ (∀ j (hj : j < t.key.length), j < i -> wt t t.key[j] = true) /\
  fr = [(1, .c (.fp (ja t))), (3, .c (.int .i64 (t.cols.length : Int))), (6, .c (.int .i64 k))] /\ τ = E σ []) ?_ _ _ _ ⟨0, _, rfl, yae _, rfl, fun j _ h => absurd h (by omega), rfl, rfl⟩)
 rintro m fr τ ⟨i, k, rfl, hi, hk, hall, rfl, rfl⟩ hrec
 by_cases hlt : i < t.key.length
 ·have hc := hin _ (yab hlt)
  obtain ⟨n, hn⟩ : ∃ n : Nat, t.key[i] = n := ⟨t.key[i].toNat, by omega⟩
  have hn2 : n < t.cols.length := by omega
  have hnn : wt t t.key[i] = t.cols[n].notNull := by simp [wt, hn, hn2]
  repeat' first|refine yaG ?_|((first|apply yG|apply yH|apply yI);exact rfl;(first|exact yX (enc := encI) rfl rfl hk hlt rfl|exact yX (enc := zg) rfl rfl hn hn2 rfl))|exact yaF|refine yaS ?_ ?_<;>intro _
  ·rename_i h
   exact .ret rfl (.bool (jab fun hh => by
    have h2 := (zu.1 hh).2.2.2.2.2.2.2.1
    rw [wkk hlt (by rw [hnn]; simpa using h)] at h2
    cases h2).symm)
  ·rename_i h
   exact Go.keep [1, 3, 6] (hrec _ _ _ (by omega) ⟨i + 1, _, rfl, hlt, wb hk (by omega), upto hall hlt (by rw [hnn]; simpa using h), rfl, rfl⟩)
 have hkey := jb2 (p := wt t) (l := t.key) fun j hj => hall j hj (by omega)
 clear hrec hall
 repeat' first|refine yaG ?_|exact yaF|refine yaS ?_ ?_<;>intro _
 clear hlt hk hi
 -- the uniques
 refine Go.keep [1, 3, 7] (Go.loops (I := fun m fr τ => ∃ i : Nat, ∃ k : Int, m = t.uniques.length - i /\ i <= t.uniques.length /\ k = i /\ (∀ j (hj : j < t.uniques.length), j < i -> wbk t.uniques[j].cols t.cols.length = true) /\
  fr = [(1, .c (.fp (ja t))), (3, .c (.int .i64 (t.cols.length : Int))), (7, .c (.int .i64 k))] /\ τ = E σ []) ?_ _ _ _ ⟨0, _, rfl, yae _, rfl, fun j _ h => absurd h (by omega), rfl, rfl⟩)
 rintro m fr τ ⟨i, k, rfl, hi, hk, hall, rfl, rfl⟩ hrec
 by_cases hlt : i < t.uniques.length
 ·repeat' first|refine yaG ?_|((first|apply yG|apply yH|apply yI);exact rfl;(first|exact yX (enc := jl) rfl rfl hk hlt rfl))|((first|apply Go.pcallB|apply Go.spcallB|apply Qg.pcallB);(iterate 3 exact rfl);exact zgn t.uniques[i].cols t.cols.length (b4.2 _ (yab hlt)) (by omega) (by omega);intro _ _)|exact yaF|refine yaS ?_ ?_<;>intro _
  ·rename_i c p q
   exact .ret rfl (.bool (jab fun hh => by
    have h2 := (zu.1 hh).2.2.2.2.2.2.2.2.1
    rw [wkk (p := fun u : Uniq => wbk u.cols t.cols.length) hlt (nbT p q)] at h2
    cases h2).symm)
  ·rename_i c p q
   exact Go.keep [1, 3, 7] (hrec _ _ _ (by omega) ⟨i + 1, _, rfl, hlt, wb hk (by omega), upto (p := fun u : Uniq => wbk u.cols t.cols.length) hall hlt (nbF p q), rfl, rfl⟩)
 have huni := jb2 (p := fun u : Uniq => wbk u.cols t.cols.length) (l := t.uniques) fun j hj => hall j hj (by omega)
 clear hrec hall
 repeat' first|refine yaG ?_|exact yaF|refine yaS ?_ ?_<;>intro _
 clear hlt hk hi
 -- the checks
 refine Go.keep [1, 3, 8] (Go.loops (I := fun m fr τ => ∃ i : Nat, ∃ k : Int, m = t.checks.length - i /\ i <= t.checks.length /\ k = i /\ (∀ j (hj : j < t.checks.length), j < i -> wbd t.checks[j].expr t.cols.length = true) /\
  fr = [(1, .c (.fp (ja t))), (3, .c (.int .i64 (t.cols.length : Int))), (8, .c (.int .i64 k))] /\ τ = E σ []) ?_ _ _ _ ⟨0, _, rfl, yae _, rfl, fun j _ h => absurd h (by omega), rfl, rfl⟩)
 rintro m fr τ ⟨i, k, rfl, hi, hk, hall, rfl, rfl⟩ hrec
 by_cases hlt : i < t.checks.length
 ·have hx := wjf t.checks[i].expr t.cols.length (b5.2 _ (yab hlt)).1 (by omega) (by omega)
  rw [show (decide ((t.checks[i].expr.length : Int) <= 24) && jw t.cols.length 0 t.checks[i].expr) = wbd t.checks[i].expr t.cols.length from rfl] at hx
  repeat' first|refine yaG ?_|((first|apply yG|apply yH|apply yI);exact rfl;(first|exact yX (enc := jr) rfl rfl hk hlt rfl))|((first|apply Go.pcallB|apply Go.spcallB|apply Qg.pcallB);(iterate 3 exact rfl);exact hx;intro _ _)|exact yaF|refine yaS ?_ ?_<;>intro _
  ·rename_i c p q
   exact .ret rfl (.bool (jab fun hh => by
    have h2 := (zu.1 hh).2.2.2.2.2.2.2.2.2.1
    rw [wkk (p := fun u : Chk => wbd u.expr t.cols.length) hlt (nbT p q)] at h2
    cases h2).symm)
  ·rename_i c p q
   exact Go.keep [1, 3, 8] (hrec _ _ _ (by omega) ⟨i + 1, _, rfl, hlt, wb hk (by omega), upto (p := fun u : Chk => wbd u.expr t.cols.length) hall hlt (nbF p q), rfl, rfl⟩)
 have hchk := jb2 (p := fun u : Chk => wbd u.expr t.cols.length) (l := t.checks) fun j hj => hall j hj (by omega)
 clear hrec hall
 repeat' first|refine yaG ?_|exact yaF|refine yaS ?_ ?_<;>intro _
 clear hlt hk hi
 -- the references
 refine Go.keep [1, 3, 9] (Go.loops (I := fun m fr τ => ∃ i : Nat, ∃ k : Int, m = t.fks.length - i /\ i <= t.fks.length /\ k = i /\ (∀ j (hj : j < t.fks.length), j < i -> jci t.fks[j] t.cols.length = true) /\
  fr = [(1, .c (.fp (ja t))), (3, .c (.int .i64 (t.cols.length : Int))), (9, .c (.int .i64 k))] /\ τ = E σ []) ?_ _ _ _ ⟨0, _, rfl, yae _, rfl, fun j _ h => absurd h (by omega), rfl, rfl⟩)
 rintro m fr τ ⟨i, k, rfl, hi, hk, hall, rfl, rfl⟩ hrec
 by_cases hlt : i < t.fks.length
 ·have hbf := b6.2 _ (yab hlt)
  have neg : jci t.fks[i] t.cols.length = false -> zag t = false := fun h => jab fun hh => by
   have h2 := (zu.1 hh).2.2.2.2.2.2.2.2.2.2
   rw [wkk (p := fun u : Fk => jci u t.cols.length) hlt h] at h2
   cases h2
  repeat' first|refine yaG ?_|((first|apply yG|apply yH|apply yI);exact rfl;(first|exact yX (enc := jv) rfl rfl hk hlt rfl))|((first|apply Go.pcallB|apply Go.spcallB|apply Qg.pcallB);(iterate 3 exact rfl);(first|exact zgn t.fks[i].cols t.cols.length hbf.1 (by omega) (by omega)|exact jgm t.fks[i].table hbf.2|exact wau _ _ _);intro _ _)|exact yaF|refine yaS ?_ ?_<;>intro _
  all_goals try (refine .ret rfl (.bool (neg ?_).symm); clear hrec neg hin hall hkey huni hchk; simp_all [jci]; done)
  have hok : jci t.fks[i] t.cols.length = true := by
   clear hrec neg hin hall hkey huni hchk
   simp_all [jci]
  exact Go.keep [1, 3, 9] (hrec _ _ _ (by omega) ⟨i + 1, _, rfl, hlt, wb hk (by omega), upto (p := fun u : Fk => jci u t.cols.length) hall hlt hok, rfl, rfl⟩)
 have hfk := jb2 (p := fun u : Fk => jci u t.cols.length) (l := t.fks) fun j hj => hall j hj (by omega)
 clear hrec hall
 repeat' first|refine yaG ?_|exact yaF|refine yaS ?_ ?_<;>intro _
 refine .ret rfl (.bool ?_)
 rw [eq_comm, zu]
 exact ⟨k1, k2, k3, by omega, by omega, by omega, hfin, hkey, huni, hchk, hfk⟩
def jy : Val := ⟨0, 0, []⟩
def vInt (n : Int) : Val := ⟨1, n, []⟩
def yes (b : Bool) : Int := if b then 1 else 0
def jac (v : Val) : Int := if v.k = 0 then 2 else if v.k = 1 then (if v.n = 0 then 0 else 1) else -1
def jcy (a b : Val) : Bool := zr a && (zr b && (!(a.k == 0) && !(b.k == 0)))
def eq3 (a b : Val) : Int := if jcy a b then yes (a == b) else 2
def zgo (a b : Val) : Int := if jcy a b then yes (decide (wlg a b < 0)) else 2
def tru (a : Int) : Bool := isIn a 0 2
def and3 (a b : Int) : Int := if tru a && tru b then (if a = 0 \/ b = 0 then 0 else if a = 1 /\ b = 1 then 1 else 2) else -1
def or3 (a b : Int) : Int := if tru a && tru b then (if a = 1 \/ b = 1 then 1 else if a = 0 /\ b = 0 then 0 else 2) else -1
def not3 (a : Int) : Int := if tru a then (if a = 2 then 2 else 1 - a) else -1
def asV (t : Int) : Val × Bool := if t = 2 then (jy, true) else (vInt t, decide (0 <= t))
def sumV (a b : Val) (s : Int) : Val × Bool := if a.k = 2 \/ b.k = 2 then (jy, false) else if a.k = 0 \/ b.k = 0 then (jy, true) else (vInt (a.n + s * b.n), zr (vInt (a.n + s * b.n)))
def vAt (l : List Val) (i : Nat) : Val := l[i]?.getD jy
def ju (t : Tok) (l row : List Val) : Val × Bool :=
 if t.kind = 1 then (vAt row t.col.toNat, true) else if t.kind = 2 then (t.v, true) else if t.kind = 3 then asV (eq3 (vAt l 0) (vAt l 1)) else if t.kind = 4 then asV (zgo (vAt l 0) (vAt l 1))
 else if t.kind = 5 then asV (and3 (jac (vAt l 0)) (jac (vAt l 1))) else if t.kind = 6 then asV (or3 (jac (vAt l 0)) (jac (vAt l 1))) else if t.kind = 7 then asV (not3 (jac (vAt l 0)))
 else if t.kind = 8 then asV (yes ((vAt l 0).k == 0)) else if t.kind = 9 then sumV (vAt l 0) (vAt l 1) 1 else sumV (vAt l 0) (vAt l 1) (-1)
def jag (t : Tok) (st : List Val) : Nat := st.length - (we t).toNat
def zhl (row : List Val) : List Tok -> List Val -> Option (List Val)
 | [], st => some st
 | t :: r, st => if (ju t (st.drop (jag t st)) row).2 then zhl row r (st.take (jag t st) ++ [(ju t (st.drop (jag t st)) row).1]) else none
def jba (e : List Tok) (row : List Val) : Val × Bool := match zhl row e [] with
 | some (v :: _) => (v, true)
 | _ => (jy, false)
def wes (e : List Tok) (row : List Val) : Bool := jq row 16 && wbd e row.length
def jgo (e : List Tok) (row : List Val) : Val × Bool := if wes e row then jba e row else (jy, false)
def wcy (e : List Tok) (row : List Val) : Int := if (jba e row).2 then jac (jba e row).1 else -1
def zcz (e : List Tok) (row : List Val) : Int := if wes e row then wcy e row else -1
theorem wlm (e : List Tok) (row : List Val) : (if (jgo e row).2 then jac (jgo e row).1 else -1) = zcz e row := by
 simp only [jgo, zcz, wcy]
 split <;> simp
def Oks (l : List Val) : Prop := ∀ v ∈ l, zr v = true
theorem Oks.at_ {l : List Val} (h : Oks l) (i : Nat) : zr (vAt l i) = true := by
 simp only [vAt]
 cases hi : l[i]? with
 | none => rfl
 | some v => exact h v (List.mem_of_getElem? hi)
theorem zln {n : Int} (h0 : -1000000000 <= n) (h1 : n <= 1000000000) : zr (vInt n) = true := by
 simp [zr, vInt, isIn, h0, h1]
theorem wci (b : Bool) : 0 <= yes b /\ yes b <= 1 := by cases b <;> simp [yes]
theorem wbv {t : Int} (h : t <= 2) (hk : (asV t).2 = true) : zr (asV t).1 = true := by
 simp only [asV] at hk ⊢
 split
 ·rfl
 ·rename_i h2
  rw [if_neg h2] at hk
  have h0 : 0 <= t := of_decide_eq_true hk
  exact zln (by omega) (by omega)
theorem jhr {a b : Val} {s : Int} (hk : (sumV a b s).2 = true) : zr (sumV a b s).1 = true := by
 simp only [sumV] at hk ⊢
 split
 ·rfl
 ·rename_i h
  rw [if_neg h] at hk
  split
  ·rfl
  ·rename_i h2
   rw [if_neg h2] at hk
   exact hk
theorem zjg (a b : Val) : 0 <= eq3 a b /\ eq3 a b <= 2 := by
 simp only [eq3]
 have := wci (a == b)
 split <;> omega
theorem wgo (a b : Val) : 0 <= zgo a b /\ zgo a b <= 2 := by
 simp only [zgo]
 have := wci (decide (wlg a b < 0))
 split <;> omega
theorem zkz (a b : Int) : -1 <= and3 a b /\ and3 a b <= 2 := by
 simp only [and3]
 split
 ·split
  ·omega
  ·split <;> omega
 ·omega
theorem jln (a b : Int) : -1 <= or3 a b /\ or3 a b <= 2 := by
 simp only [or3]
 split
 ·split
  ·omega
  ·split <;> omega
 ·omega
theorem jav {a : Int} : tru a = true ↔ 0 <= a /\ a <= 2 := by simp [tru, isIn]
theorem jkz (a : Int) : -1 <= not3 a /\ not3 a <= 2 := by
 simp only [not3]
 split
 ·rename_i h
  have := jav.1 h
  split <;> omega
 ·omega
theorem zgp {t : Tok} {l row : List Val} (ht : t.kind = 2 -> zr t.v = true) (hl : Oks l) (hr : Oks row) (h : (ju t l row).2 = true) : zr (ju t l row).1 = true := by
 simp only [ju] at h ⊢
 split
 ·exact hr.at_ _
 ·rename_i n1
  rw [if_neg n1] at h
  split
  ·rename_i n2; exact ht n2
  ·rename_i n2
   rw [if_neg n2] at h
   split
   ·rename_i n3
    rw [if_pos n3] at h
    exact wbv (zjg _ _).2 h
   ·rename_i n3
    rw [if_neg n3] at h
    split
    ·rename_i n4
     rw [if_pos n4] at h
     exact wbv (wgo _ _).2 h
    ·rename_i n4
     rw [if_neg n4] at h
     split
     ·rename_i n5
      rw [if_pos n5] at h
      exact wbv (zkz _ _).2 h
     ·rename_i n5
      rw [if_neg n5] at h
      split
      ·rename_i n6
       rw [if_pos n6] at h
       exact wbv (jln _ _).2 h
      ·rename_i n6
       rw [if_neg n6] at h
       split
       ·rename_i n7
        rw [if_pos n7] at h
        exact wbv (jkz _).2 h
       ·rename_i n7
        rw [if_neg n7] at h
        split
        ·rename_i n8
         rw [if_pos n8] at h
         exact wbv (by have := wci ((vAt l 0).k == 0); omega) h
        ·rename_i n8
         rw [if_neg n8] at h
         split
         ·rename_i n9
          rw [if_pos n9] at h
          exact jhr h
         ·rename_i n9
          rw [if_neg n9] at h
          exact jhr h
theorem zdb {t : Tok} {n : Int} (h : ja0 t n = true) (h2 : t.kind = 2) : zr t.v = true := by
 simp only [ja0] at h
 rw [if_neg (by omega), if_pos h2] at h
 simp at h
 exact h.2
theorem wb2 {v : Val} (h : zr v = true) (h1 : v.k = 1) : -1000000000 <= v.n /\ v.n <= 1000000000 := by
 simp [zr, isIn, h1] at h
 exact h.1
theorem wcp {v : Val} (h : zr v = true) : v.k = 0 \/ v.k = 1 \/ v.k = 2 := by
 simp [zr] at h
 rcases h with (h | h) | h <;> simp [h]
theorem zdy {xs ys : List Val} {i : Nat} (h1 : i < xs.length) (h2 : i < ys.length) : (xs.drop i == ys.drop i) = ((xs[i].k == ys[i].k && (xs[i].n == ys[i].n && xs[i].s == ys[i].s)) && (xs.drop (i + 1) == ys.drop (i + 1))) := by
 rw [yac h1, yac h2, List.cons_beq_cons]
 congr 1
 generalize xs[i] = a
 generalize ys[i] = b
 obtain ⟨a1, a2, a3⟩ := a
 obtain ⟨b1, b2, b3⟩ := b
 rw [ybc]
 simp
theorem zbe (xs ys : List Val) (hx : xs.length <= 34359738368) : Pure Tryz.prog 138 [.c (.fz (xs.map encV)), .c (.fz (ys.map encV))] (.c (.bool (xs == ys))) := by
 refine Pure.run mixed zcu (yaa rfl) fun σ hS hA => ?_
 clear hS hA
 repeat' first|refine yaG ?_|exact yaF|refine yaS ?_ ?_<;>intro _
 ·refine .ret rfl (.bool ?_)
  rw [eq_comm, beq_eq_false_iff_ne]
  rintro rfl
  simp at *
 refine Go.keep [0, 1, 5] (Go.loops (I := fun m fr τ => ∃ i : Nat, ∃ n : Int, m = xs.length - i /\ i <= xs.length /\ n = i /\ (xs.length = ys.length /\ (xs == ys) = (xs.drop i == ys.drop i)) /\
  fr = [(0, .c (.fz (xs.map encV))), (1, .c (.fz (ys.map encV))), (5, .c (.int .i64 n))] /\ τ = E σ []) ?_ _ _ _ ⟨0, _, rfl, yae _, rfl, ⟨by omega, rfl⟩, rfl, rfl⟩)
 rintro m fr τ ⟨i, n, rfl, hi, hn, ⟨hl, hsl⟩, rfl, rfl⟩ hrec
 by_cases hlt : i < xs.length
 ·have hlt2 : i < ys.length := by omega
  have hst := zdy hlt hlt2
  repeat' first|refine yaG ?_|((first|apply yG|apply yH|apply yI);exact rfl;(first|exact yX (enc := encV) rfl rfl hn hlt rfl|exact yX (enc := encV) rfl rfl hn hlt2 rfl))|exact yaF|refine yaS ?_ ?_<;>intro _
  ·refine .ret rfl (.bool ?_)
   rw [hsl, hst]
   clear hrec
   simp_all
   intros
   simp_all
  ·refine Go.keep [0, 1, 5] (hrec _ _ _ (by omega) ⟨i + 1, _, rfl, hlt, wb hn (by omega), ⟨hl, ?_⟩, rfl, rfl⟩)
   rw [hsl, hst]
   clear hrec
   simp_all
 ·repeat' first|refine yaG ?_|exact yaF|refine yaS ?_ ?_<;>intro _
  refine .ret rfl (.bool ?_)
  rw [hsl, yad (by omega), yad (by omega)]
  rfl
theorem zet (xs ys : List Val) (hx : xs.length <= 34359738368) : Pure Tryz.prog 146 [.c (.fz (xs.map encV)), .c (.fz (ys.map encV))] (.c (.bool (xs == ys))) := by
 refine Pure.run mixed zce (yaa rfl) fun σ hS hA => ?_
 clear hS hA
 repeat' first|refine yaG ?_|exact yaF|refine yaS ?_ ?_<;>intro _
 ·refine .ret rfl (.bool ?_)
  rw [eq_comm, beq_eq_false_iff_ne]
  rintro rfl
  simp at *
 refine Go.keep [0, 1, 12, 13] (Go.loops (I := fun m fr τ => ∃ i : Nat, ∃ n : Int, m = xs.length - i /\ i <= xs.length /\ n = i /\ (xs.length = ys.length /\ (xs == ys) = (xs.drop i == ys.drop i)) /\
  fr = [(0, .c (.fz (xs.map encV))), (1, .c (.fz (ys.map encV))), (12, .c (.int .i64 (xs.length : Int))), (13, .c (.int .i64 n))] /\ τ = E σ []) ?_ _ _ _ ⟨0, _, rfl, yae _, rfl, ⟨by omega, rfl⟩, rfl, rfl⟩)
 rintro m fr τ ⟨i, n, rfl, hi, hn, ⟨hl, hsl⟩, rfl, rfl⟩ hrec
 by_cases hlt : i < xs.length
 ·have hlt2 : i < ys.length := by omega
  have hst := zdy hlt hlt2
  repeat' first|refine yaG ?_|((first|apply yG|apply yH|apply yI);exact rfl;(first|exact yX (enc := encV) rfl rfl hn hlt rfl|exact yX (enc := encV) rfl rfl hn hlt2 rfl))|exact yaF|refine yaS ?_ ?_<;>intro _
  ·refine .ret rfl (.bool ?_)
   rw [hsl, hst]
   clear hrec
   simp_all
   intros
   simp_all
  ·refine Go.keep [0, 1, 12, 13] (hrec _ _ _ (by omega) ⟨i + 1, _, rfl, hlt, wb hn (by omega), ⟨hl, ?_⟩, rfl, rfl⟩)
   rw [hsl, hst]
   clear hrec
   simp_all
 ·repeat' first|refine yaG ?_|exact yaF|refine yaS ?_ ?_<;>intro _
  refine .ret rfl (.bool ?_)
  rw [hsl, yad (by omega), yad (by omega)]
  rfl
theorem wac {xs : List Val} : ∀ e ∈ xs.map encV, e.length = 3 /\ ∀ x ∈ e, Flat x := by
 intro e he
 obtain ⟨a, _, rfl⟩ := List.mem_map.1 he
 exact ⟨rfl, zli a⟩
theorem jm6 (v w : Val) : ((v.k == w.k && (v.n == w.n && (v.s == w.s && true))) != false) = (v == w) := by
 obtain ⟨a, b, c⟩ := v
 obtain ⟨d, e, f⟩ := w
 rw [ybc]
 simp
theorem wln (v : Val) : ∀ x ∈ encV v, Flat x := zli v
theorem znh {σ : wa} {l : List (Nat × List (List Ce))} (v : Val) : Fin σ (.agg (encV v)) (.agg (encV v)) (E σ l) :=
 ⟨l, rfl, .refl fun y hy => (wln v y hy).old _⟩
theorem z7 {σ : wa} {l : List (Nat × List (List Ce))} (v : Val) (b : Bool) : Fin σ (.tup [.agg (encV v), .c (.bool b)]) (.tup [.agg (encV v), .c (.bool b)]) (E σ l) :=
 ⟨l, rfl, .refl fun y hy => by
  simp [AV.all, AV.all.allL, encV] at hy
  rcases hy with rfl | rfl | rfl | rfl
  ·exact .int _ _
  ·exact .int _ _
  ·exact .str _
  ·exact .bool _⟩
theorem js {fr : Fr} {σ : wa} {l : List (Nat × List (List Ce))} {k v i t u j s : Nat} {g : Bool} {es : List (List Ce)} {e : List Ce} {x y : AV} (hp : look fr t = some (.c (.ptr (σ.next + k) v i j))) (hl : l[k]? = some (v, es)) (he : es[i]? = some e) (hj : j <= e.length) (hx : zb8 g s (e.drop j) = some x) (hu : look fr u = some y) :
 retv fr (E σ l) [.m t g s, .t u] = some (.tup [x, y]) := by
 have h1 := jaz hp hl he hj hx
 simp only [retv, revs] at h1 ⊢
 cases hq : RV.ev fr (E σ l) (.m t g s) with
 | none => rw [hq] at h1; simp at h1
 | some q =>
  rw [hq] at h1
  simp only [Option.some.injEq] at h1
  subst h1
  have h2 : RV.ev fr (E σ l) (.t u) = some y := hu
  rw [h2]
theorem zcq (b : Bool) : Pure Tryz.prog 276 [.c (.bool b)] (.c (.int .i64 (yes b))) := by
 refine Pure.run mixed jei (yaa rfl) fun σ hS hA => ?_
 clear hS hA
 repeat' first|refine yaG ?_|exact yaF|refine yaS ?_ ?_<;>intro _
 all_goals refine .ret rfl (.int ?_)
 all_goals simp_all [yes]
theorem zfj (v : Val) : Pure Tryz.prog 269 [.agg (encV v)] (.c (.int .i64 (jac v))) := by
 refine Pure.run mixed wge (yaa rfl) fun σ hS hA => ?_
 clear hS hA
 repeat' first|refine yaG ?_|((first|apply yQ|apply yR|apply yS);(iterate 3 exact rfl);exact zcq _)|exact yaF|refine yaS ?_ ?_<;>intro _
 all_goals refine .ret rfl (.int ?_)
 all_goals simp_all [jac, yes]
 all_goals (cases h : decide (v.n = 0) <;> simp_all)
theorem wij (t : Int) : Pure Tryz.prog 270 [.c (.int .i64 t)] (.tup [.agg (encV (asV t).1), .c (.bool (asV t).2)]) := by
 refine Pure.run mixed zgf (yaa rfl) fun σ hS hA => ?_
 clear hS hA
 repeat' first|refine yaG ?_|exact yaF|refine yaS ?_ ?_<;>intro _
 ·rename_i h
  rw [asV, if_pos h]
  exact .ret (js rfl rfl rfl (yae _) rfl rfl) (z7 _ _)
 ·rename_i h
  rw [asV, if_neg h]
  exact .ret (js rfl rfl rfl (yae _) rfl rfl) (z7 (vInt t) _)
theorem jgp (v w : Val) : Pure Tryz.prog 293 [.agg (encV v), .agg (encV w)] (.c (.bool (jcy v w))) := by
 refine Pure.run mixed zdw (yaa rfl) fun σ hS hA => ?_
 clear hS hA
 repeat' first|refine yaG ?_|((first|apply Go.pcallB|apply Go.spcallB|apply Qg.pcallB);(iterate 3 exact rfl);(first|exact jcp v|exact jcp w);intro _ _)|exact yaF|refine yaS ?_ ?_<;>intro _
 all_goals refine .ret rfl (.bool ?_)
 all_goals simp_all [jcy]
 all_goals first
  | rfl
  |(rename_i h; rw [beq_eq_false_iff_ne.2 h]; rfl)
theorem zlo (v w : Val) : Pure Tryz.prog 271 [.agg (encV v), .agg (encV w)] (.c (.int .i64 (eq3 v w))) := by
 refine Pure.run mixed zff (yaa rfl) fun σ hS hA => ?_
 clear hS hA
 repeat' first|refine yaG ?_|((first|apply yQ|apply yR|apply yS);(iterate 3 exact rfl);exact zcq _)|((first|apply Go.pcallB|apply Go.spcallB|apply Qg.pcallB);(iterate 3 exact rfl);exact jgp v w;intro _ _)|exact yaF|refine yaS ?_ ?_<;>intro _
 all_goals refine .ret rfl (.int ?_)
 all_goals rename_i b p k
 ·rw [eq3, nbT p k]
  rfl
 ·rw [eq3, nbF p k, jm6]
  rfl
theorem wmm (v w : Val) : Pure Tryz.prog 272 [.agg (encV v), .agg (encV w)] (.c (.int .i64 (zgo v w))) := by
 refine Pure.run mixed jgf (yaa rfl) fun σ hS hA => ?_
 clear hS hA
 repeat' first|refine yaG ?_|refine yaC (zmg v w) ?_|((first|apply yQ|apply yR|apply yS);(iterate 3 exact rfl);exact zcq _)|((first|apply Go.pcallB|apply Go.spcallB|apply Qg.pcallB);(iterate 3 exact rfl);exact jgp v w;intro _ _)|exact yaF|refine yaS ?_ ?_<;>intro _
 all_goals refine .ret rfl (.int ?_)
 all_goals rename_i b p k
 ·rw [zgo, nbT p k]
  rfl
 ·rw [zgo, nbF p k]
  rfl
theorem zik (t : Int) : Pure Tryz.prog 303 [.c (.int .i64 t)] (.c (.bool (!tru t))) := by
 refine Pure.run mixed jch (yaa rfl) fun σ hS hA => ?_
 clear hS hA
 repeat' first|refine yaG ?_|((first|apply yQ|apply yR|apply yS);(iterate 3 exact rfl);exact jgi _ _ _)|exact yaF|refine yaS ?_ ?_<;>intro _
 exact .ret rfl (.bool rfl)
theorem zcj (l : List Int) (hx : l.length <= 34359738368) : Pure Tryz.prog 295 [.c (.fz (l.map encI))] (.c (.bool (!(l.any fun t => !tru t)))) := by
 refine Pure.run mixed jc8 (yaa rfl) fun σ hS hA => ?_
 clear hS hA
 repeat' first|refine yaG ?_|((first|apply yQ|apply yR|apply yS);(iterate 3 exact rfl);exact zj mixed z5 j8 encI (fun n => .c (.int .i64 n)) (fun _ => rfl) (fun _ => rfl) l (fun t => !tru t) _ [] [] hx (fun j hj _ => zik _))|exact yaF|refine yaS ?_ ?_<;>intro _
 exact .ret rfl (.bool rfl)
theorem whr (a b : Int) : (!([a, b].any fun t => !tru t)) = (tru a && tru b) := by
 simp only [List.any_cons, List.any_nil]
 cases tru a <;> cases tru b <;> rfl
theorem jnh (a b : Int) : Pure Tryz.prog 273 [.c (.int .i64 a), .c (.int .i64 b)] (.c (.int .i64 (and3 a b))) := by
 refine Pure.run mixed whi (yaa rfl) fun σ hS hA => ?_
 clear hS hA
 have c1 := zcj [a, b] (by simp)
 rw [whr] at c1
 repeat' first|refine yaG ?_|((first|apply Go.pcallB|apply Go.spcallB|apply Qg.pcallB);(iterate 3 exact rfl);exact c1;intro _ _)|exact yaF|refine yaS ?_ ?_<;>intro _
 all_goals refine .ret rfl (.int ?_)
 all_goals clear c1
 all_goals simp_all [and3]
theorem wnw (a b : Int) : Pure Tryz.prog 274 [.c (.int .i64 a), .c (.int .i64 b)] (.c (.int .i64 (or3 a b))) := by
 refine Pure.run mixed jih (yaa rfl) fun σ hS hA => ?_
 clear hS hA
 have c1 := zcj [a, b] (by simp)
 rw [whr] at c1
 repeat' first|refine yaG ?_|((first|apply Go.pcallB|apply Go.spcallB|apply Qg.pcallB);(iterate 3 exact rfl);exact c1;intro _ _)|exact yaF|refine yaS ?_ ?_<;>intro _
 all_goals refine .ret rfl (.int ?_)
 all_goals clear c1
 all_goals simp_all [or3]
theorem wnh (a : Int) : Pure Tryz.prog 275 [.c (.int .i64 a)] (.c (.int .i64 (not3 a))) := by
 refine Pure.run mixed zhj (yaa rfl) fun σ hS hA => ?_
 clear hS hA
 have c1 := zcj [a] (by simp)
 have h1 : (!([a].any fun t => !tru t)) = tru a := by simp only [List.any_cons, List.any_nil]; cases tru a <;> rfl
 rw [h1] at c1
 repeat' first|refine yaG ?_|((first|apply Go.pcallB|apply Go.spcallB|apply Qg.pcallB);(iterate 3 exact rfl);exact c1;intro _ _)|exact yaF|refine yaS ?_ ?_<;>intro _
 all_goals refine .ret rfl (.int ?_)
 all_goals clear c1
 ·rename_i b p k
  rw [not3, nbT p k]
  rfl
 ·rename_i b p k h
  rw [not3, nbF p k, if_pos rfl, if_pos h]
 ·rename_i b p k h
  have hr := jav.1 (nbF p k)
  rw [not3, nbF p k, if_pos rfl, if_neg h]
  exact jf (by omega) (by omega)
theorem zkl (a b : Val) (s : Int) (hs : s = 1 \/ s = -1) (ha : zr a = true) (hb : zr b = true) : Pure Tryz.prog 277 [.agg (encV a), .agg (encV b), .c (.int .i64 s)] (.tup [.agg (encV (sumV a b s).1), .c (.bool (sumV a b s).2)]) := by
 refine Pure.run mixed wgf (yaa rfl) fun σ hS hA => ?_
 clear hS hA
 by_cases h1 : a.k = 2 \/ b.k = 2
 ·have e : sumV a b s = (jy, false) := by simp only [sumV, if_pos h1]
  rw [e]
  rcases h1 with h1 | h1
  ·repeat' first|refine yaG ?_|exact yaF|refine yaS ?_ ?_<;>intro _
   all_goals first
    | exact .ret (js rfl rfl rfl (yae _) rfl rfl) (z7 jy _)
    |(exfalso; omega)
  ·repeat' first|refine yaG ?_|exact yaF|refine yaS ?_ ?_<;>intro _
   all_goals first
    | exact .ret (js rfl rfl rfl (yae _) rfl rfl) (z7 jy _)
    |(exfalso; omega)
 by_cases h2 : a.k = 0 \/ b.k = 0
 ·have e : sumV a b s = (jy, true) := by simp only [sumV, if_neg h1, if_pos h2]
  rw [e]
  rcases h2 with h2 | h2
  ·repeat' first|refine yaG ?_|exact yaF|refine yaS ?_ ?_<;>intro _
   all_goals first
    | exact .ret (js rfl rfl rfl (yae _) rfl rfl) (z7 jy _)
    |(exfalso; omega)
  ·repeat' first|refine yaG ?_|exact yaF|refine yaS ?_ ?_<;>intro _
   all_goals first
    | exact .ret (js rfl rfl rfl (yae _) rfl rfl) (z7 jy _)
    |(exfalso; omega)
 have e : sumV a b s = (vInt (a.n + s * b.n), zr (vInt (a.n + s * b.n))) := by simp only [sumV, if_neg h1, if_neg h2]
 have ka : a.k = 1 := by have := wcp ha; omega
 have kb : b.k = 1 := by have := wcp hb; omega
 have ra := wb2 ha ka
 have rb := wb2 hb kb
 have hw : IntKind.i64.wrap (a.n + IntKind.i64.wrap (s * b.n)) = a.n + s * b.n := by
  rcases hs with rfl | rfl
  ·rw [jf (n := 1 * b.n) (by omega) (by omega), jf (by omega) (by omega)]
  ·rw [jf (n := -1 * b.n) (by omega) (by omega), jf (by omega) (by omega)]
 rw [e]
 repeat' first|refine yaG ?_|((first|apply yG|apply yH|apply yI);exact rfl;(first|exact jm rfl rfl rfl rfl rfl rfl (yaa rfl)))|refine yaC (jcp (vInt (IntKind.i64.wrap (a.n + IntKind.i64.wrap (s * b.n))))) ?_|exact yaF|refine yaS ?_ ?_<;>intro _
 all_goals first
  |(exfalso; omega)
  | skip
 rw [hw]
 exact .ret (js rfl rfl rfl (yae _) rfl rfl) (z7 (vInt _) _)
theorem jlo (t : Tok) (row : List Val) (hk : t.kind = 1 \/ t.kind = 2) (hc : t.kind = 1 -> 0 <= t.col /\ t.col < row.length) : Pure Tryz.prog 238 [.agg (zh t), .c (.fz []), .c (.fz (row.map encV))] (.tup [.agg (encV (ju t [] row).1), .c (.bool (ju t [] row).2)]) := by
 refine Pure.run mixed jap (yaa rfl) fun σ hS hA => ?_
 clear hS hA
 rcases hk with h1 | h1
 ·have h2 := hc h1
  have hn : t.col.toNat < row.length := by omega
  have hz : t.col = (t.col.toNat : Int) := by omega
  have e : ju t [] row = (row[t.col.toNat], true) := by simp [ju, h1, vAt, hn]
  rw [e]
  repeat' first|refine yaG ?_|((first|apply yG|apply yH|apply yI);exact rfl;(first|exact yX (enc := encV) rfl rfl hz hn rfl))|exact yaF|refine yaS ?_ ?_<;>intro _
  exact .ret (js rfl rfl rfl (yae _) rfl rfl) (z7 row[t.col.toNat] _)
 ·have e : ju t [] row = (t.v, true) := by simp [ju, h1]
  rw [e]
  repeat' first|refine yaG ?_|exact yaF|refine yaS ?_ ?_<;>intro _
  exact .ret (js rfl rfl rfl (yae _) rfl rfl) (z7 t.v _)
theorem wlo (t : Tok) (x : Val) (row : List Val) (hk : t.kind = 7 \/ t.kind = 8) : Pure Tryz.prog 238 [.agg (zh t), .c (.fz [encV x]), .c (.fz (row.map encV))] (.tup [.agg (encV (ju t [x] row).1), .c (.bool (ju t [x] row).2)]) := by
 refine Pure.run mixed jap (yaa rfl) fun σ hS hA => ?_
 clear hS hA
 rcases hk with h1 | h1
 ·have e : ju t [x] row = asV (not3 (jac x)) := by simp [ju, h1, vAt]
  rw [e]
  repeat' first|refine yaG ?_|refine yaC (zfj x) ?_|((first|apply yQ|apply yR|apply yS);(iterate 3 exact rfl);exact wnh _)|((first|apply yQ|apply yR|apply yS);(iterate 3 exact rfl);exact wij _)|exact yaF|refine yaS ?_ ?_<;>intro _
  exact .ret (js rfl rfl rfl (yae _) rfl rfl) (z7 _ _)
 ·have e : ju t [x] row = asV (yes (x.k == 0)) := by simp [ju, h1, vAt]
  rw [e]
  repeat' first|refine yaG ?_|((first|apply yQ|apply yR|apply yS);(iterate 3 exact rfl);exact zcq _)|((first|apply yQ|apply yR|apply yS);(iterate 3 exact rfl);exact wij _)|exact yaF|refine yaS ?_ ?_<;>intro _
  exact .ret (js rfl rfl rfl (yae _) rfl rfl) (z7 _ _)
theorem zlp (t : Tok) (x y : Val) (row : List Val) (hk : t.kind = 3 \/ t.kind = 4 \/ t.kind = 5 \/ t.kind = 6 \/ t.kind = 9 \/ t.kind = 10) (hx : zr x = true) (hy : zr y = true) : Pure Tryz.prog 238 [.agg (zh t), .c (.fz [encV x, encV y]), .c (.fz (row.map encV))] (.tup [.agg (encV (ju t [x, y] row).1), .c (.bool (ju t [x, y] row).2)]) := by
 refine Pure.run mixed jap (yaa rfl) fun σ hS hA => ?_
 clear hS hA
 obtain ⟨r, hr⟩ : ∃ r, ju t [x, y] row = r := ⟨_, rfl⟩
 rcases hk with h1 | h1 | h1 | h1 | h1 | h1
 all_goals simp only [ju, h1, vAt, List.getElem?_cons_zero, List.getElem?_cons_succ, Option.getD_some, Int.reduceEq, if_true, if_false, reduceIte] at hr
 all_goals rw [show ju t [x, y] row = r by simp [ju, h1, vAt, hr]]
 all_goals repeat' first|refine yaG ?_|((first|apply yG|apply yH|apply yI);exact rfl;(first|exact jm rfl rfl rfl rfl rfl rfl (yaa rfl)))|refine yaC (zlo x y) ?_|refine yaC (wmm x y) ?_|refine yaC (zfj x) ?_|refine yaC (zfj y) ?_|((first|apply yQ|apply yR|apply yS);(iterate 3 exact rfl);exact jnh _ _)|((first|apply yQ|apply yR|apply yS);(iterate 3 exact rfl);exact wnw _ _)|refine yaC (zkl x y 1 (.inl rfl) hx hy) ?_|refine yaC (zkl x y (-1) (.inr rfl) hx hy) ?_|((first|apply yQ|apply yR|apply yS);(iterate 3 exact rfl);exact wij _)|exact yaF|refine yaS ?_ ?_<;>intro _
 all_goals subst hr
 all_goals exact .ret (js rfl rfl rfl (yae _) rfl rfl) (z7 _ _)
theorem jlp (v : Val) : wcr (.agg (encV v)) := .agg _ fun i hi => by
 have : i = 0 \/ i = 1 \/ i = 2 := by simp only [encV, List.length_cons, List.length_nil] at hi; omega
 rcases this with rfl | rfl | rfl
 ·exact .int _ _
 ·exact .int _ _
 ·exact .str _
theorem zmn (v : Val) (b : Bool) : wcr (.tup [.agg (encV v), .c (.bool b)]) := .tup _ fun i hi => by
 have : i = 0 \/ i = 1 := by simp only [List.length_cons, List.length_nil] at hi; omega
 rcases this with rfl | rfl
 ·exact jlp v
 ·exact .bool b
theorem wgp {t : Tok} {n : Int} (h : ja0 t n = true) : t.kind = 1 \/ t.kind = 2 \/ (t.kind = 3 \/ t.kind = 4 \/ t.kind = 5 \/ t.kind = 6 \/ t.kind = 7 \/ t.kind = 8 \/ t.kind = 9 \/ t.kind = 10) := by
 simp only [ja0] at h
 split at h
 ·exact .inl ‹_›
 ·split at h
  ·exact .inr (.inl ‹_›)
  ·simp only [Bool.and_eq_true] at h
   exact .inr (.inr (zkk.1 h.1.1))
theorem jjg {t : Tok} {n : Int} (h : ja0 t n = true) (h1 : t.kind = 1) : 0 <= t.col /\ t.col < n := by
 simp only [ja0, if_pos h1, Bool.and_eq_true, isIn, decide_eq_true_eq] at h
 omega
theorem jmn (t : Tok) (l row : List Val) (ht : ja0 t row.length = true) (hl : (l.length : Int) = we t) (ho : Oks l) : Pure Tryz.prog 238 [.agg (zh t), .c (.fz (l.map encV)), .c (.fz (row.map encV))] (.tup [.agg (encV (ju t l row).1), .c (.bool (ju t l row).2)]) := by
 have hk := wgp ht
 have hc := jjg ht
 by_cases h0 : t.kind = 1 \/ t.kind = 2
 ·have : we t = 0 := by rw [we, if_pos h0]
  have hl0 : l = [] := yal (by omega)
  subst hl0
  exact jlo t row h0 hc
 by_cases h1 : t.kind = 7 \/ t.kind = 8
 ·have : we t = 1 := by rw [we, if_neg h0, if_pos h1]
  match l, hl with
  | [x], _ => exact wlo t x row h1
  | [], hl => simp at hl; omega
  | _ :: _ :: _, hl => simp only [List.length_cons] at hl; omega
 ·have : we t = 2 := by rw [we, if_neg h0, if_neg h1]
  match l, hl with
  | [x, y], _ => exact zlp t x y row (by omega) (ho x (by simp)) (ho y (by simp))
  | [], hl => simp at hl; omega
  | [_], hl => simp at hl; omega
  | _ :: _ :: _ :: _, hl => simp only [List.length_cons] at hl; omega
theorem zgq {l : List Val} {n : Int} (h : jq l n = true) : Oks l /\ (l.length : Int) <= n := by
 simp only [jq, Bool.and_eq_true, decide_eq_true_eq, List.all_eq_true] at h
 exact ⟨h.2, h.1⟩
theorem zbw {e : List Tok} {n : Int} (h : wbd e n = true) : (e.length : Int) <= 24 /\ jw n 0 e = true := by
 simpa only [wbd, Bool.and_eq_true, decide_eq_true_eq] using h
theorem jcj {n a : Int} {t : Tok} {r : List Tok} (h : jw n a (t :: r) = true) : ja0 t n = true /\ we t <= a /\ jw n (a + 1 - we t) r = true := by
 simp only [jw, Bool.and_eq_true, decide_eq_true_eq] at h
 exact ⟨h.1.1, h.1.2, h.2⟩
theorem Oks.take {l : List Val} (h : Oks l) (n : Nat) : Oks (l.take n) := fun v hv => h v (List.mem_of_mem_take hv)
theorem Oks.drop {l : List Val} (h : Oks l) (n : Nat) : Oks (l.drop n) := fun v hv => h v (ybi hv)
theorem Oks.snoc {l : List Val} (h : Oks l) {v : Val} (hv : zr v = true) : Oks (l ++ [v]) := fun w hw => by
 rcases List.mem_append.1 hw with hw | hw
 ·exact h w hw
 ·rw [List.mem_singleton.1 hw]; exact hv
theorem wfg {l : List Val} : ∀ e ∈ l.map encV, ∀ x ∈ e, Flat x := fun e he x hx => (wac e he).2 x hx
theorem lens {l : List Val} : ∀ e ∈ l.map encV, e.length = 3 := fun e he => (wac e he).1
theorem zek {n id v i j : Nat} (h : id < n) : ∀ y ∈ (AV.c (.ptr id v i j)).all, Old n y := fun y hy => by
 simp only [AV.all, List.mem_singleton] at hy
 subst hy
 exact .ptr _ _ _ _ h
theorem jgq {n id v i j c : Nat} (h : id < n) : ∀ y ∈ (AV.c (.sl id v i j c)).all, Old n y := fun y hy => by
 simp only [AV.all, List.mem_singleton] at hy
 subst hy
 exact .sl _ _ _ _ _ h
theorem jik {n : Nat} {k : IntKind} {z : Int} : ∀ y ∈ (AV.c (.int k z)).all, Old n y := fun y hy => by
 simp only [AV.all, List.mem_singleton] at hy
 subst hy
 exact .int _ _
theorem jj6 {n : Nat} {es : List (List Ce)} (h : ∀ e ∈ es, ∀ x ∈ e, Flat x) : ∀ y ∈ (AV.c (.fz es)).all, Old n y := fun y hy => by
 simp only [AV.all, List.mem_singleton] at hy
 subst hy
 exact .fz _ fun i j hi hj => (h _ (yab hi) _ (yab hj)).old _
theorem wav {n : Nat} {l : List Val} : ∀ y ∈ (AV.c (.fz (l.map encV))).all, Old n y := jj6 wfg
theorem jek {n : Nat} {l : List Tok} : ∀ y ∈ (AV.c (.fz (l.map zh))).all, Old n y := jj6 fun e he x hx => by
 obtain ⟨a, _, rfl⟩ := List.mem_map.1 he
 exact jgj a x hx
theorem wlp (e : List Tok) (row : List Val) (hx : e.length <= 34359738368) (hr : row.length <= 34359738368) : Pure Tryz.prog 181 [.c (.fz (e.map zh)), .c (.fz (row.map encV))] (.tup [.agg (encV (jgo e row).1), .c (.bool (jgo e row).2)]) := by
 refine Pure.run mixed whc (yaa rfl) fun σ hS hA => ?_
 clear hA
 have c1 := jkv row 16 (by decide) hr
 cases hv : jq row 16
 ·rw [hv] at c1
  rw [jgo, wes, hv]
  repeat' first|refine yaG ?_|refine yaC (c1) ?_|exact yaF|refine yaS ?_ ?_<;>intro _
  exact .ret (js rfl rfl rfl (yae _) rfl rfl) (z7 jy _)
 obtain ⟨hok, hrl⟩ := zgq hv
 have c2 := wdx e row.length hx
 rw [wfi (by omega) hrl] at c2
 rw [hv] at c1
 cases he : wbd e row.length
 ·rw [he] at c2
  rw [jgo, wes, hv, he]
  repeat' first|refine yaG ?_|refine yaC (c1) ?_|refine yaC (c2) ?_|exact yaF|refine yaS ?_ ?_<;>intro _
  exact .ret (js rfl rfl rfl (yae _) rfl rfl) (z7 jy _)
 rw [he] at c2
 obtain ⟨hel, hea⟩ := zbw he
 have hI : jgo e row = jba e row := by rw [jgo, wes, hv, he]; rfl
 rw [hI]
 repeat' first|refine yaG ?_|refine yaC (c1) ?_|refine yaC (c2) ?_|exact yaF|refine yaS ?_ ?_<;>intro _
 refine Go.keep [1, 4, 6, 24, 25, 26] (Go.loops (I := fun m fr τ => ∃ (i : Nat) (k : Int) (st : List Val) (v : Nat) (junk : List (List Ce)), m = e.length - i /\ i <= e.length /\ k = i /\ Jk 3 junk /\ (st.length <= i /\ Oks st /\ jw row.length st.length (e.drop i) = true /\ zhl row e [] = zhl row (e.drop i) st) /\
  fr = [(1, .c (.fz (row.map encV))), (4, .c (.ptr (σ.next + 0) 0 0 0)), (6, .c (vec (σ.next + 1) v (st.map encV) junk)), (24, .c (.fz (e.map zh))), (25, .c (.int .i64 (e.length : Int))), (26, .c (.int .i64 k))] /\
   τ = E σ [(0, [[.int .i64 0, .int .i64 0, .str []]]), (v, st.map encV ++ junk)]) ?_ _ _ _ ⟨0, _, [], 0, [], rfl, Nat.zero_le _, rfl, Jk.nil, ⟨Nat.zero_le _, fun v hv => (by simp at hv), hea, rfl⟩, rfl, rfl⟩)
 rintro m fr τ ⟨i, k, st, v, junk, rfl, hi, hk, hj, ⟨hsl, hst, haux, hev⟩, rfl, rfl⟩ hrec
 clear hea he hv c1 c2 hI
 by_cases hlt : i < e.length
 ·rw [yac hlt] at haux hev
  obtain ⟨htk, hle, haux⟩ := jcj haux
  have htr := za6 e[i]
  have hz : IntKind.i64.wrap (((st.map encV).length : Int) - we e[i]) = (jag e[i] st : Int) := by
   rw [yag, jf (by omega) (by omega), jag]
   omega
  have hfn : jag e[i] st <= st.length := by rw [jag]; omega
  have hfn' : jag e[i] st <= (st.map encV).length := by rw [yag]; exact hfn
  have hdl : ((st.drop (jag e[i] st)).length : Int) = we e[i] := by rw [List.length_drop, jag]; omega
  have hap := jmn e[i] (st.drop (jag e[i] st)) row htk hdl (hst.drop _)
  have hres := zgp (zdb htk) (hst.drop (jag e[i] st)) hok
  rw [List.map_drop] at hap
  rw [zhl] at hev
  generalize ju e[i] (st.drop (jag e[i] st)) row = ap at hap hres hev
  obtain ⟨av, ab⟩ := ap
  simp only at hap hres hev
  repeat' first|apply Go.seq|apply Go.skip|apply Go.region|apply Go.nil|apply Go.block|apply Go.blk|apply Go.segs|(apply Go.exit;exact rfl)|(apply Go.cond true;exact rfl)|(apply Go.cond false;exact rfl)|apply yB|apply yC|((first|apply yD|apply yE);(first|exact yF|assumption);iterate 6 exact rfl)|((first|apply yG|apply yH|apply yI);exact rfl;(first|exact yJ|exact yK rfl rfl|exact yL rfl|exact yM rfl|exact rfl|exact aL rfl rfl rfl rfl rfl|exact aS rfl rfl rfl rfl rfl rfl rfl|exact yX (enc := zh) rfl rfl hk hlt rfl))|((first|apply yN|apply yO|apply yP);exact rfl)|((first|apply yQ|apply yR|apply yS);(iterate 3 exact rfl);exact wkj e[i])|exact yaF|(((first|apply yT|apply yU|apply yV|apply yW);exact rfl;(first|exact .d|exact .e|exact .n|((fail_if_success exact bqt);(fail_if_success exact bqf);exact .b)))<;>intro _)
  rw [hz]
  generalize jag e[i] st = n at hz hfn hfn' hap hev hdl
  apply Go.draw
  refine Go.qkd [(0, [[.int .i64 0, .int .i64 0, .str []]]), (v, st.map encV ++ junk)] ?_
  repeat' first|(apply Qk.nil;show Go _ _ _ _ _ _ _ _)|(apply Qk.op;exact rfl;(first|(rintro _ ⟨_, rfl⟩;exact rfl)|(rintro _ ⟨_, rfl⟩;exact ja5 rfl rfl rfl (yaa rfl) rfl)|(rintro _ ⟨_, rfl⟩;exact zmf (k := 1) (s := 3) rfl rfl rfl hfn' rfl (fun e he => (List.mem_append.1 he).elim (lens e) fun h => (hj e h).1))))|(apply Qk.no;exact rfl)|(apply Qk.wop;exact rfl;exact rfl;(first|exact yJ|exact yL rfl|exact jm rfl rfl rfl rfl rfl rfl (yaa rfl));exact ⟨_, rfl⟩)
  refine Qk.lcall rfl rfl rfl hap (zmn _ _) (fun m => .same (.own (zh3 (k := 1) rfl wfg hfn' (yae _)) (.same .nil))) ?_
  repeat' first|(apply Qk.nil;show Go _ _ _ _ _ _ _ _)|(apply Qk.op;exact rfl;(first|(rintro _ ⟨_, rfl⟩;exact rfl)|(rintro _ ⟨_, rfl⟩;exact ja5 rfl rfl rfl (yaa rfl) rfl)))|(apply Qk.no;exact rfl)|(apply Qk.wop;exact rfl;exact rfl;(first|exact yJ|exact yL rfl|exact jm rfl rfl rfl rfl rfl rfl (yaa rfl));exact ⟨_, rfl⟩)
  cases ab
  ·rw [if_neg yaj] at hev
   have hR : jba e row = (jy, false) := by rw [jba, hev]
   rw [hR]
   repeat' first|refine yaG ?_|exact yaF|refine yaS ?_ ?_<;>intro _
   exact .ret (js rfl rfl rfl (yae _) rfl rfl) (z7 jy _)
  ·rw [if_pos rfl] at hev
   repeat' first|refine yaG ?_|((first|apply yG|apply yH|apply yI);exact rfl;(first|exact ja5 rfl rfl rfl (yaa rfl) rfl|exact wme (k := 1) rfl rfl rfl hfn' rfl (fun e he => (List.mem_append.1 he).elim (lens e) fun h => (hj e h).1)))|exact yaF|refine yaS ?_ ?_<;>intro _
   have hsplit : st.map encV ++ junk = (st.map encV).take n ++ ((st.map encV).drop n ++ junk) := by rw [<- List.append_assoc, List.take_append_drop]
   have hbd : (((st.map encV).take n).length + 1) * 32 <= 140737488355328 := by rw [yas, yag]; omega
   refine Go.sapp1 (k := 1) (z := encV av) rfl rfl rfl rfl (congrArg (fun q => some (v, q)) hsplit) (fun e he => lens e (List.mem_of_mem_take he)) (Jk.drop wac hj n) rfl hbd fun v' junk' hj' => ?_
   repeat' first|refine yaG ?_|exact yaF|refine yaS ?_ ?_<;>intro _
   refine Go.freezeN (l := [(0, [[.int .i64 0, .int .i64 0, .str []]]), (v', (st.map encV).take n ++ [encV av] ++ junk')]) (m := [(0, [encV av])])
    (fr' := [(1, .c (.fz (row.map encV))), (4, .c (.ptr (σ.next + 0) 0 0 0)), (6, .c (vec (σ.next + 1) v' ((st.map encV).take n ++ [encV av]) junk')), (24, .c (.fz (e.map zh))), (25, .c (.int .i64 (e.length : Int))), (26, .c (.int .i64 (IntKind.i64.wrap (k + 1))))])
    hS ?_ (Nat.le_refl _) (.frz rfl (.refl wav) (.frz rfl (.refl (zek (by simp))) (.frz rfl (.refl (jgq (by simp))) (.frz rfl (.refl jek) (.frz rfl (.refl jik) (.frz rfl (.refl jik) .nil)))))) ?_
   ·intro b hb e he x hx
    refine Flat.old ?_ _
    rcases List.mem_cons.1 hb with rfl | hb
    ·exact wfg (l := [jy]) e he x hx
    ·rw [List.mem_singleton.1 hb] at he
     rcases List.mem_append.1 he with he | he
     ·rcases List.mem_append.1 he with he | he
      ·exact wfg e (List.mem_of_mem_take he) x hx
      ·exact wfg (l := [av]) e he x hx
     ·exact (hj' e he).2 x hx
   have e1 : (st.map encV).take n ++ [encV av] = (st.take n ++ [av]).map encV := by simp
   rw [e1]
   refine hrec _ _ _ (by omega) ⟨i + 1, _, st.take n ++ [av], v', junk', rfl, hlt, wb hk (by omega), hj', ⟨?_, (hst.take n).snoc (hres rfl), ?_, hev⟩, rfl, rfl⟩
   ·simp only [List.length_append, List.length_take, List.length_singleton]; omega
   ·have e2 : ((st.take n ++ [av]).length : Int) = st.length + 1 - we e[i] := by
     rw [List.length_drop] at hdl
     simp only [List.length_append, List.length_take, List.length_singleton]
     omega
    rw [e2]
    exact haux
 ·have hd : e.drop i = [] := yad (by omega)
  rw [hd] at haux hev
  simp only [jw, beq_iff_eq] at haux
  obtain ⟨w, rfl⟩ : ∃ w, st = [w] := List.length_eq_one_iff.1 (by omega)
  have hR : jba e row = (w, true) := by rw [jba, hev]; rfl
  rw [hR]
  repeat' first|refine yaG ?_|((first|apply yG|apply yH|apply yI);exact rfl;(first|exact z3 (k := 1) (n := 0) rfl rfl rfl (Nat.zero_lt_one) rfl rfl rfl))|exact yaF|refine yaS ?_ ?_<;>intro _
  exact .ret (js rfl rfl rfl (yae _) rfl rfl) (z7 w _)
theorem jkl (e : List Tok) (row : List Val) (hx : e.length <= 34359738368) (hr : row.length <= 34359738368) : Pure Tryz.prog 235 [.c (.fz (e.map zh)), .c (.fz (row.map encV))] (.c (.int .i64 (zcz e row))) := by
 refine Pure.run mixed zgc (yaa rfl) fun σ hS hA => ?_
 clear hS hA
 have c1 := wlp e row hx hr
 have h1 := wlm e row
 generalize jgo e row = q at c1 h1
 obtain ⟨v, b⟩ := q
 simp only at c1 h1
 cases b
 ·repeat' first|refine yaG ?_|refine yaC (c1) ?_|exact yaF|refine yaS ?_ ?_<;>intro _
  refine .ret rfl (.int ?_)
  rw [<- h1]
  rfl
 ·repeat' first|refine yaG ?_|refine yaC (c1) ?_|refine yaC (zfj v) ?_|exact yaF|refine yaS ?_ ?_<;>intro _
  refine .ret rfl (.int ?_)
  rw [<- h1]
  rfl
theorem zlq {σ : wa} {l : List (Nat × List (List Ce))} (n : Int) (b : Bool) : Fin σ (.tup [.c (.int .i64 n), .c (.bool b)]) (.tup [.c (.int .i64 n), .c (.bool b)]) (E σ l) :=
 ⟨l, rfl, .refl fun y hy => by
  simp [AV.all, AV.all.allL] at hy
  rcases hy with rfl | rfl
  ·exact .int _ _
  ·exact .bool _⟩
theorem jcq (b : Bool) : Pure Tryz.prog 263 [.c (.bool b)] (.c (.int .i64 (yes b))) := by
 refine Pure.run mixed zge (yaa rfl) fun σ hS hA => ?_
 clear hS hA
 repeat' first|refine yaG ?_|exact yaF|refine yaS ?_ ?_<;>intro _
 all_goals refine .ret rfl (.int ?_)
 all_goals simp_all [yes]
theorem wik (n : Int) : Pure Tryz.prog 262 [.c (.int .i64 n)] (.agg (encV (vInt n))) := by
 refine Pure.run mixed wgd (yaa rfl) fun σ hS hA => ?_
 clear hS hA
 repeat' first|refine yaG ?_|exact yaF|refine yaS ?_ ?_<;>intro _
 exact .ret (jaz rfl rfl rfl (yae _) rfl) (znh (vInt n))
def asR (t : Int) : Val := if t = 2 then jy else vInt t
theorem jlq (t : Int) : Pure Tryz.prog 264 [.c (.int .i64 t)] (.agg (encV (asR t))) := by
 refine Pure.run mixed zhi (yaa rfl) fun σ hS hA => ?_
 clear hS hA
 repeat' first|refine yaG ?_|refine yaC (wik t) ?_|exact yaF|refine yaS ?_ ?_<;>intro _
 ·rename_i h
  rw [asR, if_pos h]
  exact .ret (jaz rfl rfl rfl (yae _) rfl) (znh jy)
 ·rename_i h
  rw [asR, if_neg h]
  exact .ret (jaz rfl rfl rfl (yae _) rfl) (znh (vInt t))
def ofT (v : Val) : Int := if v.k = 0 then 2 else if v.k = 1 then yes (v.n != 0) else 0
def ofB (v : Val) : Bool := decide (v.k = 0) || decide (v.k = 1)
theorem zil (v : Val) : Pure Tryz.prog 229 [.agg (encV v)] (.tup [.c (.int .i64 (ofT v)), .c (.bool (ofB v))]) := by
 refine Pure.run mixed whg (yaa rfl) fun σ hS hA => ?_
 clear hS hA
 repeat' first|refine yaG ?_|((first|apply yQ|apply yR|apply yS);(iterate 3 exact rfl);exact jcq _)|exact yaF|refine yaS ?_ ?_<;>intro _
 ·rename_i h
  rw [ofT, if_pos h, ofB, decide_eq_true h]
  exact .ret rfl (zlq _ _)
 ·rename_i h h1
  rw [ofT, if_neg h, if_pos h1, ofB, decide_eq_true h1, Bool.or_true]
  exact .ret rfl (zlq _ _)
 ·rename_i h h1
  rw [ofT, if_neg h, if_neg h1, ofB, decide_eq_false h, decide_eq_false h1]
  exact .ret rfl (zlq _ _)
theorem wkz (v w : Val) : Pure Tryz.prog 287 [.agg (encV v), .agg (encV w)] (.c (.int .i64 (eq3 v w))) := by
 refine Pure.run mixed wff (yaa rfl) fun σ hS hA => ?_
 clear hS hA
 cases hk : jcy v w
 ·rw [eq3, hk]
  have hk2 := hk
  simp only [jcy] at hk2
  repeat' first|refine yaG ?_|((first|apply yQ|apply yR|apply yS);(iterate 3 exact rfl);exact jcq _)|((first|apply Go.pcallB|apply Go.spcallB|apply Qg.pcallB);(iterate 3 exact rfl);(first|exact zaf v|exact zaf w);intro _ _)|exact yaF|refine yaS ?_ ?_<;>intro _
  all_goals first
   | exact .ret rfl (.int rfl)
   |(exfalso; simp_all; done)
 ·rw [eq3, hk]
  have hk2 := hk
  simp only [jcy, Bool.and_eq_true, Bool.not_eq_true', beq_eq_false_iff_ne] at hk2
  obtain ⟨k1, k2, k3, k4⟩ := hk2
  have c1 := zaf v
  have c2 := zaf w
  rw [k1] at c1
  rw [k2] at c2
  repeat' first|refine yaG ?_|refine yaC (c1) ?_|refine yaC (c2) ?_|((first|apply yQ|apply yR|apply yS);(iterate 3 exact rfl);exact jcq _)|exact yaF|refine yaS ?_ ?_<;>intro _
  all_goals first
   |(refine .ret rfl (.int ?_); rw [jm6]; rfl)
   |(exfalso; simp_all; done)
theorem wlq (v w : Val) : Pure Tryz.prog 288 [.agg (encV v), .agg (encV w)] (.c (.int .i64 (zgo v w))) := by
 refine Pure.run mixed jgg (yaa rfl) fun σ hS hA => ?_
 clear hS hA
 cases hk : jcy v w
 ·rw [zgo, hk]
  have hk2 := hk
  simp only [jcy] at hk2
  repeat' first|refine yaG ?_|refine yaC (whp v w) ?_|((first|apply yQ|apply yR|apply yS);(iterate 3 exact rfl);exact jcq _)|((first|apply Go.pcallB|apply Go.spcallB|apply Qg.pcallB);(iterate 3 exact rfl);(first|exact zaf v|exact zaf w);intro _ _)|exact yaF|refine yaS ?_ ?_<;>intro _
  all_goals first
   | exact .ret rfl (.int rfl)
   |(exfalso; simp_all; done)
 ·rw [zgo, hk]
  have hk2 := hk
  simp only [jcy, Bool.and_eq_true, Bool.not_eq_true', beq_eq_false_iff_ne] at hk2
  obtain ⟨k1, k2, k3, k4⟩ := hk2
  have c1 := zaf v
  have c2 := zaf w
  have c3 := whp v w
  rw [wj1 k1 k2] at c3
  rw [k1] at c1
  rw [k2] at c2
  repeat' first|refine yaG ?_|refine yaC (c1) ?_|refine yaC (c2) ?_|refine yaC (c3) ?_|((first|apply yQ|apply yR|apply yS);(iterate 3 exact rfl);exact jcq _)|exact yaF|refine yaS ?_ ?_<;>intro _
  all_goals first
   | exact .ret rfl (.int rfl)
   |(exfalso; simp_all; done)
theorem jfj (t : Int) : Pure Tryz.prog 299 [.c (.int .i64 t)] (.c (.bool (tru t))) := by
 refine Pure.run mixed wgh (yaa rfl) fun σ hS hA => ?_
 clear hS hA
 repeat' first|refine yaG ?_|((first|apply yQ|apply yR|apply yS);(iterate 3 exact rfl);exact wau _ _ _)|exact yaF|refine yaS ?_ ?_<;>intro _
 exact .ret rfl (.bool rfl)
theorem wmn (a b : Int) : Pure Tryz.prog 290 [.c (.int .i64 a), .c (.int .i64 b)] (.c (.int .i64 (and3 a b))) := by
 refine Pure.run mixed zhk (yaa rfl) fun σ hS hA => ?_
 clear hS hA
 repeat' first|refine yaG ?_|((first|apply Go.pcallB|apply Go.spcallB|apply Qg.pcallB);(iterate 3 exact rfl);(first|exact jfj a|exact jfj b);intro _ _)|exact yaF|refine yaS ?_ ?_<;>intro _
 all_goals refine .ret rfl (.int ?_)
 all_goals simp_all [and3]
theorem zni (a b : Int) : Pure Tryz.prog 291 [.c (.int .i64 a), .c (.int .i64 b)] (.c (.int .i64 (or3 a b))) := by
 refine Pure.run mixed zii (yaa rfl) fun σ hS hA => ?_
 clear hS hA
 repeat' first|refine yaG ?_|((first|apply Go.pcallB|apply Go.spcallB|apply Qg.pcallB);(iterate 3 exact rfl);(first|exact jfj a|exact jfj b);intro _ _)|exact yaF|refine yaS ?_ ?_<;>intro _
 all_goals refine .ret rfl (.int ?_)
 all_goals simp_all [or3]
theorem zmo (a : Int) : Pure Tryz.prog 265 [.c (.int .i64 a)] (.c (.int .i64 (not3 a))) := by
 refine Pure.run mixed jhi (yaa rfl) fun σ hS hA => ?_
 clear hS hA
 repeat' first|refine yaG ?_|exact yaF|refine yaS ?_ ?_<;>intro _
 all_goals refine .ret rfl (.int ?_)
 ·rename_i h; subst h; rfl
 ·rename_i h1 h; subst h; rfl
 ·rename_i h1 h2 h; subst h; rfl
 ·rename_i h1 h2 h3
  have : tru a = false := by
   cases ht : tru a
   ·rfl
   ·have := jav.1 ht; omega
  rw [not3, this]
  rfl
theorem wkl (a b : Val) (s : Int) (hs : s = 1 \/ s = -1) (ha : zr a = true) (hb : zr b = true) : Pure Tryz.prog 289 [.agg (encV a), .agg (encV b), .c (.int .i64 s)] (.tup [.agg (encV (sumV a b s).1), .c (.bool (sumV a b s).2)]) := by
 refine Pure.run mixed wgg (yaa rfl) fun σ hS hA => ?_
 clear hS hA
 by_cases h1 : a.k = 2 \/ b.k = 2
 ·have e : sumV a b s = (jy, false) := by simp only [sumV, if_pos h1]
  rw [e]
  rcases h1 with h1 | h1
  ·repeat' first|refine yaG ?_|exact yaF|refine yaS ?_ ?_<;>intro _
   all_goals first
    | exact .ret (js rfl rfl rfl (yae _) rfl rfl) (z7 jy _)
    |(exfalso; omega)
  ·repeat' first|refine yaG ?_|exact yaF|refine yaS ?_ ?_<;>intro _
   all_goals first
    | exact .ret (js rfl rfl rfl (yae _) rfl rfl) (z7 jy _)
    |(exfalso; omega)
 by_cases h2 : a.k = 0 \/ b.k = 0
 ·have e : sumV a b s = (jy, true) := by simp only [sumV, if_neg h1, if_pos h2]
  rw [e]
  rcases h2 with h2 | h2
  ·repeat' first|refine yaG ?_|exact yaF|refine yaS ?_ ?_<;>intro _
   all_goals first
    | exact .ret (js rfl rfl rfl (yae _) rfl rfl) (z7 jy _)
    |(exfalso; omega)
  ·repeat' first|refine yaG ?_|exact yaF|refine yaS ?_ ?_<;>intro _
   all_goals first
    | exact .ret (js rfl rfl rfl (yae _) rfl rfl) (z7 jy _)
    |(exfalso; omega)
 have e : sumV a b s = (vInt (a.n + s * b.n), zr (vInt (a.n + s * b.n))) := by simp only [sumV, if_neg h1, if_neg h2]
 have ka : a.k = 1 := by have := wcp ha; omega
 have kb : b.k = 1 := by have := wcp hb; omega
 have ra := wb2 ha ka
 have rb := wb2 hb kb
 have hw : IntKind.i64.wrap (a.n + IntKind.i64.wrap (s * b.n)) = a.n + s * b.n := by
  rcases hs with rfl | rfl
  ·rw [jf (n := 1 * b.n) (by omega) (by omega), jf (by omega) (by omega)]
  ·rw [jf (n := -1 * b.n) (by omega) (by omega), jf (by omega) (by omega)]
 rw [e]
 repeat' first|refine yaG ?_|((first|apply yG|apply yH|apply yI);exact rfl;(first|exact jm rfl rfl rfl rfl rfl rfl (yaa rfl)))|((first|apply yQ|apply yR|apply yS);(iterate 3 exact rfl);exact wik _)|refine yaC (zaf (vInt (IntKind.i64.wrap (a.n + IntKind.i64.wrap (s * b.n))))) ?_|exact yaF|refine yaS ?_ ?_<;>intro _
 all_goals first
  |(exfalso; omega)
  | skip
 rw [hw]
 exact .ret (js rfl rfl rfl (yae _) rfl rfl) (z7 (vInt _) _)
def twoR (k : Int) (a b : Val) : Val × Bool := if k = 3 then (asR (eq3 a b), true) else if k = 4 then (asR (zgo a b), true) else if k = 9 then sumV a b 1 else if k = 10 then sumV a b (-1)
 else if ofB a && ofB b then (asR (if k = 5 then and3 (ofT a) (ofT b) else or3 (ofT a) (ofT b)), true) else (jy, false)
theorem jmo (k : Int) (a b : Val) (ha : zr a = true) (hb : zr b = true) : Pure Tryz.prog 266 [.c (.int .i64 k), .agg (encV a), .agg (encV b)] (.tup [.agg (encV (twoR k a b).1), .c (.bool (twoR k a b).2)]) := by
 refine Pure.run mixed jge (yaa rfl) fun σ hS hA => ?_
 clear hS hA
 repeat' first|refine yaG ?_|refine yaC (wkz a b) ?_|refine yaC (wlq a b) ?_|((first|apply yQ|apply yR|apply yS);(iterate 3 exact rfl);exact jlq _)|refine yaC (wkl a b 1 (.inl rfl) ha hb) ?_|refine yaC (wkl a b (-1) (.inr rfl) ha hb) ?_|refine yaC (zil a) ?_|refine yaC (zil b) ?_|((first|apply yQ|apply yR|apply yS);(iterate 3 exact rfl);exact wmn _ _)|((first|apply yQ|apply yR|apply yS);(iterate 3 exact rfl);exact zni _ _)|exact yaF|refine yaS ?_ ?_<;>intro _
 ·rename_i h
  rw [twoR, if_pos h]
  exact .ret (js rfl rfl rfl (yae _) rfl rfl) (z7 _ _)
 ·rename_i h0 h
  rw [twoR, if_neg h0, if_pos h]
  exact .ret (js rfl rfl rfl (yae _) rfl rfl) (z7 _ _)
 ·rename_i h0 h1 h
  rw [twoR, if_neg h0, if_neg h1, if_pos h]
  exact .ret (js rfl rfl rfl (yae _) rfl rfl) (z7 _ _)
 ·rename_i h0 h1 h2 h
  rw [twoR, if_neg h0, if_neg h1, if_neg h2, if_pos h]
  exact .ret (js rfl rfl rfl (yae _) rfl rfl) (z7 _ _)
 ·rename_i h0 h1 h2 h3 h
  have h : ofB a = false := by simpa using h
  rw [twoR, if_neg h0, if_neg h1, if_neg h2, if_neg h3, h]
  exact .ret (js rfl rfl rfl (yae _) rfl rfl) (z7 jy _)
 ·rename_i h0 h1 h2 h3 h4 h
  have h : ofB b = false := by simpa using h
  rw [twoR, if_neg h0, if_neg h1, if_neg h2, if_neg h3, h, ybh]
  exact .ret (js rfl rfl rfl (yae _) rfl rfl) (z7 jy _)
 ·rename_i h0 h1 h2 h3 h4 h h5
  have h4 : ofB a = true := by simpa using h4
  have h : ofB b = true := by simpa using h
  rw [twoR, if_neg h0, if_neg h1, if_neg h2, if_neg h3, h4, h, if_pos h5]
  exact .ret (js rfl rfl rfl (yae _) rfl rfl) (z7 _ _)
 ·rename_i h0 h1 h2 h3 h4 h h5
  have h4 : ofB a = true := by simpa using h4
  have h : ofB b = true := by simpa using h
  rw [twoR, if_neg h0, if_neg h1, if_neg h2, if_neg h3, h4, h, if_neg h5]
  exact .ret (js rfl rfl rfl (yae _) rfl rfl) (z7 _ _)
theorem wek {t : Int} (h0 : 0 <= t) : asV t = (asR t, true) := by
 simp only [asV, asR]
 split
 ·rfl
 ·rw [decide_eq_true h0]
theorem wcj {a : Val} (h : ofB a = true) : jac a = ofT a /\ 0 <= ofT a /\ ofT a <= 2 := by
 simp only [ofB, Bool.or_eq_true, decide_eq_true_eq] at h
 simp only [jac, ofT]
 have := wci (a.n != 0)
 rcases h with h | h
 ·simp [h]
 ·have hn : ¬ a.k = 0 := by omega
  simp only [if_neg hn, if_pos h]
  refine ⟨?_, this.1, by omega⟩
  by_cases h0 : a.n = 0 <;> simp [h0, yes]
theorem jil {a : Val} (h : ofB a = false) : jac a = -1 := by
 simp only [ofB, Bool.or_eq_false_iff, decide_eq_false_iff_not] at h
 rw [jac, if_neg h.1, if_neg h.2]
theorem wmo {a b : Int} (ha : 0 <= a /\ a <= 2) (hb : 0 <= b /\ b <= 2) : 0 <= and3 a b := by
 rw [and3, jav.2 ha, jav.2 hb]
 simp only [Bool.and_self, if_true]
 split
 ·omega
 ·split <;> omega
theorem jni {a b : Int} (ha : 0 <= a /\ a <= 2) (hb : 0 <= b /\ b <= 2) : 0 <= or3 a b := by
 rw [or3, jav.2 ha, jav.2 hb]
 simp only [Bool.and_self, if_true]
 split
 ·omega
 ·split <;> omega
theorem wni (t : Tok) (a b : Val) (row : List Val) (hk : t.kind = 3 \/ t.kind = 4 \/ t.kind = 5 \/ t.kind = 6 \/ t.kind = 9 \/ t.kind = 10) : (twoR t.kind a b).2 = (ju t [a, b] row).2 /\ ((ju t [a, b] row).2 = true -> twoR t.kind a b = ju t [a, b] row) := by
 have h5 : ∀ f : Int -> Int -> Int, (f = and3 \/ f = or3) -> (if ofB a && ofB b then (asR (f (ofT a) (ofT b)), true) else (jy, false)).2 = (asV (f (jac a) (jac b))).2 /\ ((asV (f (jac a) (jac b))).2 = true -> (if ofB a && ofB b then (asR (f (ofT a) (ofT b)), true) else (jy, false)) = asV (f (jac a) (jac b))) := by
  intro f hf
  cases h1 : ofB a
  ·have h3 : asV (f (jac a) (jac b)) = (vInt (-1), false) := by
    rw [jil h1]
    rcases hf with rfl | rfl
    ·rw [and3, show tru (-1) = false from rfl]; rfl
    ·rw [or3, show tru (-1) = false from rfl]; rfl
   rw [h3]
   simp
  cases h2 : ofB b
  ·have h3 : asV (f (jac a) (jac b)) = (vInt (-1), false) := by
    rw [jil h2]
    rcases hf with rfl | rfl
    ·rw [and3, show tru (-1) = false from rfl, ybh]; rfl
    ·rw [or3, show tru (-1) = false from rfl, ybh]; rfl
   rw [h3]
   simp
  obtain ⟨e1, r1⟩ := wcj h1
  obtain ⟨e2, r2⟩ := wcj h2
  rw [e1, e2, wek (by
   rcases hf with rfl | rfl
   ·exact wmo r1 r2
   ·exact jni r1 r2)]
  simp
 rcases hk with h | h | h | h | h | h
 ·simp only [twoR, ju, vAt, h, List.getElem?_cons_zero, List.getElem?_cons_succ, Option.getD_some, Int.reduceEq, if_true, if_false, reduceIte]
  rw [wek (zjg a b).1]
  simp
 ·simp only [twoR, ju, vAt, h, List.getElem?_cons_zero, List.getElem?_cons_succ, Option.getD_some, Int.reduceEq, if_true, if_false, reduceIte]
  rw [wek (wgo a b).1]
  simp
 ·simp only [twoR, ju, vAt, h, List.getElem?_cons_zero, List.getElem?_cons_succ, Option.getD_some, Int.reduceEq, if_true, if_false, reduceIte]
  exact h5 and3 (.inl rfl)
 ·simp only [twoR, ju, vAt, h, List.getElem?_cons_zero, List.getElem?_cons_succ, Option.getD_some, Int.reduceEq, if_true, if_false, reduceIte]
  exact h5 or3 (.inr rfl)
 ·simp only [twoR, ju, vAt, h, List.getElem?_cons_zero, List.getElem?_cons_succ, Option.getD_some, Int.reduceEq, if_true, if_false, reduceIte]
  simp
 ·simp only [twoR, ju, vAt, h, List.getElem?_cons_zero, List.getElem?_cons_succ, Option.getD_some, Int.reduceEq, if_true, if_false, reduceIte]
  simp
theorem zaq {n : Nat} {k : IntKind} {z : Int} : ∀ y ∈ (AV.c (.int k z)).all, Old n y := fun y hy => by
 simp only [AV.all, List.mem_singleton] at hy
 subst hy
 exact .int _ _
theorem zmp {n : Nat} {b : Bool} : ∀ y ∈ (AV.c (.bool b)).all, Old n y := fun y hy => by
 simp only [AV.all, List.mem_singleton] at hy
 subst hy
 exact .bool _
theorem znj {st : List Val} (h : 1 <= st.length) : st.drop (st.length - 1) = [st[st.length - 1]] := by
 rw [yac (by omega), yad (by omega)]
theorem wn1 {st : List Val} (h : 2 <= st.length) : st.drop (st.length - 2) = [st[st.length - 2], st[st.length - 1]] := by
 rw [yac (by omega), show st.length - 2 + 1 = st.length - 1 by omega, znj (by omega)]
theorem zb3 {σ : wa} {l : List (Nat × List (List Ce))} {k v N : Nat} {ys : List Val} {junk : List (List Ce)} (hl : l[k]? = some (v, ys.map encV ++ junk)) (hN : N <= σ.next + k) : FrzV (E σ l) N (.c (vec (σ.next + k) v (ys.map encV) junk)) (.c (.fz (ys.map encV))) :=
 zh3 (n := 0) hl wfg (yae _) hN
theorem wjg (e : List Tok) (row : List Val) (hx : e.length <= 24) (hrl : row.length <= 16) (hok : Oks row) (hea : jw row.length 0 e = true) : Pure Tryz.prog 228 [.c (.fz (e.map zh)), .c (.fz (row.map encV))] (.tup [.agg (encV (jba e row).1), .c (.bool (jba e row).2)]) := by
 refine Pure.run mixed jfb (yaa rfl) fun σ hS hA => ?_
 clear hA
 repeat' first|refine yaG ?_|exact yaF|refine yaS ?_ ?_<;>intro _
 refine Go.freezeN (l := [(0, [[.int .i64 0, .int .i64 0, .str []]])]) (m := [(0, [])]) (fr' := [(0, .c (.fz (e.map zh))), (1, .c (.fz (row.map encV))), (4, .c (.ptr (σ.next + 0) 0 0 0)), (6, .c (.fz (([] : List Val).map encV))), (7, .c (.int .i64 0))])
  hS (fun b hb e he x hx => ?_) (Nat.le_refl _) (.frz rfl (.refl jek) (.frz rfl (.refl wav) (.frz rfl (.refl (zek (by simp))) (.frz rfl (zb3 (σ := σ) (l := [(0, [[.int .i64 0, .int .i64 0, .str []]]), (0, [])]) (k := 1) (v := 0) (ys := []) (junk := []) rfl (Nat.le_refl _)) (.frz rfl (.refl jik) .nil))))) ?_
 ·rw [List.mem_singleton.1 hb] at he
  exact (wfg (l := [jy]) e he x hx).old _
 refine Go.loops (I := fun m fr τ => ∃ (i : Nat) (k : Int) (st : List Val), m = e.length - i /\ i <= e.length /\ k = i /\ (st.length <= i /\ Oks st /\ jw row.length st.length (e.drop i) = true /\ zhl row e [] = zhl row (e.drop i) st) /\
  fr = [(0, .c (.fz (e.map zh))), (1, .c (.fz (row.map encV))), (4, .c (.ptr (σ.next + 0) 0 0 0)), (6, .c (.fz (st.map encV))), (7, .c (.int .i64 k))] /\
   τ = E σ [(0, [[.int .i64 0, .int .i64 0, .str []]])]) ?_ _ _ _ ⟨0, _, [], rfl, Nat.zero_le _, rfl, ⟨Nat.zero_le _, fun v hv => (by simp at hv), hea, rfl⟩, rfl, rfl⟩
 rintro m fr τ ⟨i, k, st, rfl, hi, hk, ⟨hsl, hst, haux, hev⟩, rfl, rfl⟩ hrec
 clear hea
 by_cases hlt : i < e.length
 ·rw [yac hlt] at haux hev
  obtain ⟨htk, hle, haux⟩ := jcj haux
  have htr := za6 e[i]
  have hkd := wgp htk
  have hcol := jjg htk
  have hft : jag e[i] st = st.length - (we e[i]).toNat := rfl
  have hres := zgp (zdb htk) (hst.drop (jag e[i] st)) hok
  rw [zhl] at hev
  have hsl1 : st.length <= 24 := by omega
  obtain ⟨ap, hap⟩ : ∃ ap, ju e[i] (st.drop (jag e[i] st)) row = ap := ⟨_, rfl⟩
  rw [hap] at hres hev
  repeat' first|apply Go.seq|apply Go.skip|apply Go.region|apply Go.nil|apply Go.blk|apply Go.draw|apply Go.segs|(apply Go.exit;exact rfl)|(apply Go.cond true;exact rfl)|(apply Go.cond false;exact rfl)|apply yB|apply yC|((first|apply yG|apply yH|apply yI);exact rfl;(first|exact yJ|exact yK rfl rfl|exact yL rfl|exact yM rfl|exact rfl|exact aL rfl rfl rfl rfl rfl|exact aS rfl rfl rfl rfl rfl rfl rfl))|((first|apply yN|apply yO|apply yP);exact rfl)|exact yaF|(((first|apply yT|apply yU|apply yV|apply yW);exact rfl;(first|exact .d|exact .e|exact .n|((fail_if_success exact bqt);(fail_if_success exact bqf);exact .b)))<;>intro _)
  apply Go.block
  repeat' first|apply Go.seq|apply Go.skip|apply Go.region|apply Go.nil|apply Go.blk|apply Go.draw|apply Go.segs|(apply Go.exit;exact rfl)|(apply Go.cond true;exact rfl)|(apply Go.cond false;exact rfl)|apply yB|apply yC|((first|apply yG|apply yH|apply yI);exact rfl;(first|exact yJ|exact yK rfl rfl|exact yL rfl|exact yM rfl|exact rfl|exact aL rfl rfl rfl rfl rfl|exact aS rfl rfl rfl rfl rfl rfl rfl|exact yX (enc := zh) rfl rfl hk hlt rfl))|((first|apply yN|apply yO|apply yP);exact rfl)|exact yaF|(((first|apply yT|apply yU|apply yV|apply yW);exact rfl;(first|exact .d|exact .e|exact .n|((fail_if_success exact bqt);(fail_if_success exact bqf);exact .b)))<;>intro _)
  apply Go.block
  refine Go.join (K' := [_]) (fun fr τ => ∃ (av : Val) (ab : Bool), ab = ap.2 /\ (ab = true -> av = ap.1) /\
   fr = [(0, .c (.fz (e.map zh))), (1, .c (.fz (row.map encV))), (4, .c (.ptr (σ.next + 0) 0 0 0)), (6, .c (.fz (st.map encV))), (7, .c (.int .i64 k)), (8, .c (.int .i64 (st.length : Int))), (9, .c (.ptr (σ.next + 1) 0 0 0)), (10, .c (.bool ab)), (11, .c (.int .i64 (we e[i])))] /\
   τ = E σ [(0, [[.int .i64 0, .int .i64 0, .str []]]), (0, [encV av])]) ?_ ?_
  ·rintro fr τ ⟨av, ab, hab, hav, rfl, rfl⟩
   cases ab
   ·rw [<- hab, if_neg yaj] at hev
    have hR : jba e row = (jy, false) := by rw [jba, hev]
    rw [hR]
    repeat' first|refine yaG ?_|exact yaF|refine yaS ?_ ?_<;>intro _
    exact .ret (js rfl rfl rfl (yae _) rfl rfl) (z7 jy _)
   obtain rfl := hav rfl
   rw [<- hab, if_pos rfl] at hev
   have hn : jag e[i] st <= (st.map encV).length := by rw [yag, hft]; omega
   have hz : IntKind.i64.wrap ((st.length : Int) - we e[i]) = (jag e[i] st : Int) := by rw [jf (by omega) (by omega), hft]; omega
   have hres := hres hab.symm
   have hl1 : ((st.take (jag e[i] st)).length : Int) = st.length - we e[i] := by rw [yas, hft]; omega
   generalize jag e[i] st = n at hn hz hl1 hev
   repeat' first|apply Go.seq|apply Go.skip|apply Go.region|apply Go.nil|apply Go.block|apply Go.blk|apply Go.segs|(apply Go.exit;exact rfl)|(apply Go.cond true;exact rfl)|(apply Go.cond false;exact rfl)|apply yB|apply yC|((first|apply yD|apply yE);(first|exact yF|assumption);iterate 6 exact rfl)|((first|apply yG|apply yH|apply yI);exact rfl;(first|exact yJ|exact yK rfl rfl|exact yL rfl|exact yM rfl|exact rfl|exact aL rfl rfl rfl rfl rfl|exact aS rfl rfl rfl rfl rfl rfl rfl))|((first|apply yN|apply yO|apply yP);exact rfl)|exact yaF|(((first|apply yT|apply yU|apply yV|apply yW);exact rfl;(first|exact .d|exact .e|exact .n|((fail_if_success exact bqt);(fail_if_success exact bqf);exact .b)))<;>intro _)
   apply Go.draw
   refine Go.qkm [(0, [[.int .i64 0, .int .i64 0, .str []]]), (0, [encV ap.1])] [] ?_
   repeat' first|(apply Qk.nil;show Go _ _ _ _ _ _ _ _)|(apply Qk.op;exact rfl;(first|(rintro _ ⟨_, rfl⟩;exact rfl)|(rintro _ ⟨_, rfl⟩;exact ja5 rfl rfl rfl (yaa rfl) rfl)|(rintro _ ⟨_, rfl⟩;exact war (s := 3) rfl rfl hz hn lens)))|(apply Qk.no;exact rfl)|(apply Qk.wop;exact rfl;exact rfl;(first|exact yJ|exact yL rfl|exact jm rfl rfl rfl rfl rfl rfl (yaa rfl));exact ⟨_, rfl⟩)
   have hb1 : (([] : List (List Ce)).length + ((st.map encV).take n).length) * 32 <= 140737488355328 := by rw [yas, yag, List.length_nil]; omega
   refine Qk.app (k := 2) (v := 0) (ys := []) (junk := []) (zs := (st.map encV).take n) rfl rfl rfl rfl rfl (fun e he => (by simp at he)) Jk.nil (fun e he => lens e (List.mem_of_mem_take he)) hb1 (fun z => ⟨[z], rfl⟩) fun v1 j1 hj1 => ?_
   repeat' first|(apply Qk.nil;show Go _ _ _ _ _ _ _ _)|(apply Qk.op;exact rfl;(first|(rintro _ ⟨_, rfl⟩;exact rfl)|(rintro _ ⟨_, rfl⟩;exact ja5 rfl rfl rfl (yaa rfl) rfl)))|(apply Qk.no;exact rfl)|(apply Qk.wop;exact rfl;exact rfl;(first|exact yJ|exact yL rfl|exact jm rfl rfl rfl rfl rfl rfl (yaa rfl));exact ⟨_, rfl⟩)
   have hb2 : ((([] : List (List Ce)) ++ (st.map encV).take n).length + 1) * 32 <= 140737488355328 := by rw [List.nil_append, yas, yag]; omega
   refine Go.sapp1 (k := 2) (z := encV ap.1) rfl rfl rfl rfl rfl (fun e he => lens e (List.mem_of_mem_take he)) hj1 rfl hb2 fun v' junk' hj' => ?_
   repeat' first|refine yaG ?_|exact yaF|refine yaS ?_ ?_<;>intro _
   have e1 : [] ++ (st.map encV).take n ++ [encV ap.1] = (st.take n ++ [ap.1]).map encV := by simp
   rw [e1]
   refine Go.freezeN (l := [(0, [[.int .i64 0, .int .i64 0, .str []]])]) (m := [(0, [encV ap.1]), (v', (st.take n ++ [ap.1]).map encV ++ junk')])
    (fr' := [(0, .c (.fz (e.map zh))), (1, .c (.fz (row.map encV))), (4, .c (.ptr (σ.next + 0) 0 0 0)), (6, .c (.fz ((st.take n ++ [ap.1]).map encV))), (7, .c (.int .i64 (IntKind.i64.wrap (k + 1))))])
    hS (fun b hb e he x hx => ?_) (Nat.le_refl _) (.frz rfl (.refl jek) (.frz rfl (.refl wav) (.frz rfl (.refl (zek (by simp))) (.frz rfl (zb3 (σ := σ) (l := [(0, [[.int .i64 0, .int .i64 0, .str []]]), (0, [encV ap.1]), (v', (st.take n ++ [ap.1]).map encV ++ junk')]) (k := 2) (v := v') (ys := st.take n ++ [ap.1]) (junk := junk') rfl (Nat.le_succ _)) (.frz rfl (.refl jik) .nil))))) ?_
   ·rw [List.mem_singleton.1 hb] at he
    exact (wfg (l := [jy]) e he x hx).old _
   refine hrec _ _ _ (by omega) ⟨i + 1, _, st.take n ++ [ap.1], rfl, hlt, wb hk (by omega), ⟨?_, (hst.take n).snoc hres, ?_, hev⟩, rfl, rfl⟩
   ·simp only [List.length_append, List.length_take, List.length_singleton]; omega
   ·have e2 : ((st.take n ++ [ap.1]).length : Int) = st.length + 1 - we e[i] := by
     simp only [List.length_append, List.length_singleton]
     omega
    rw [e2]
    exact haux
  intro hj
  rw [List.singleton_append]
  by_cases h1 : e[i].kind = 1
  ·have htk0 : we e[i] = 0 := by rw [we, if_pos (.inl h1)]
   have hc2 := hcol h1
   have hcz : e[i].col = (e[i].col.toNat : Int) := by omega
   have hcl : e[i].col.toNat < row.length := by omega
   have hape : ap = (row[e[i].col.toNat], true) := by rw [<- hap, ju, if_pos h1, vAt, yaf hcl]; rfl
   rw [htk0] at hj
   repeat' first|apply Go.seq|apply Go.skip|apply Go.region|apply Go.nil|apply Go.block|apply Go.draw|apply Go.segs|(apply Go.exit;exact rfl)|(apply Go.cond true;exact rfl)|(apply Go.cond false;exact rfl)|apply yB|apply yC|((first|apply yG|apply yH|apply yI);exact rfl;(first|exact yJ|exact yK rfl rfl|exact yL rfl|exact yM rfl|exact rfl|exact aL rfl rfl rfl rfl rfl|exact aS rfl rfl rfl rfl rfl rfl rfl|exact yX (enc := zh) rfl rfl hk hlt rfl|exact yX (enc := encV) rfl rfl hcz hcl rfl))|((first|apply yN|apply yO|apply yP);exact rfl)|exact yaF|(((first|apply yT|apply yU|apply yV|apply yW);exact rfl;(first|exact .d|exact .e|exact .n|((fail_if_success exact bqt);(fail_if_success exact bqf);exact .b)))<;>intro _)
   exact Go.keep [0, 1, 4, 6, 7, 8, 9, 10, 11] (hj _ _ ⟨row[e[i].col.toNat], true, by rw [hape], fun _ => by rw [hape], rfl, rfl⟩)
  by_cases h2 : e[i].kind = 2
  ·have htk0 : we e[i] = 0 := by rw [we, if_pos (.inr h2)]
   have hape : ap = (e[i].v, true) := by rw [<- hap, ju, if_neg h1, if_pos h2]
   rw [htk0] at hj
   repeat' first|apply Go.seq|apply Go.skip|apply Go.region|apply Go.nil|apply Go.block|apply Go.draw|apply Go.segs|(apply Go.exit;exact rfl)|(apply Go.cond true;exact rfl)|(apply Go.cond false;exact rfl)|apply yB|apply yC|((first|apply yG|apply yH|apply yI);exact rfl;(first|exact yJ|exact yK rfl rfl|exact yL rfl|exact yM rfl|exact rfl|exact aL rfl rfl rfl rfl rfl|exact aS rfl rfl rfl rfl rfl rfl rfl|exact yX (enc := zh) rfl rfl hk hlt rfl))|((first|apply yN|apply yO|apply yP);exact rfl)|exact yaF|(((first|apply yT|apply yU|apply yV|apply yW);exact rfl;(first|exact .d|exact .e|exact .n|((fail_if_success exact bqt);(fail_if_success exact bqf);exact .b)))<;>intro _)
   exact Go.keep [0, 1, 4, 6, 7, 8, 9, 10, 11] (hj _ _ ⟨e[i].v, true, by rw [hape], fun _ => by rw [hape], rfl, rfl⟩)
  have hn12 : ¬ (e[i].kind = 1 \/ e[i].kind = 2) := by omega
  by_cases h8 : e[i].kind = 8
  ·have htk0 : we e[i] = 1 := by rw [we, if_neg hn12, if_pos (.inr h8)]
   have hz1 : IntKind.i64.wrap ((st.length : Int) - 1) = ((st.length - 1 : Nat) : Int) := by rw [jf (by omega) (by omega)]; omega
   have hl1 : st.length - 1 < st.length := by omega
   have hf : jag e[i] st = st.length - 1 := by rw [hft, htk0]; rfl
   have hyr := wci (st[st.length - 1].k == 0)
   have hape : ap = (asR (yes (st[st.length - 1].k == 0)), true) := by
    rw [<- hap, hf, znj (by omega), <- wek hyr.1]
    simp [ju, h8, vAt]
   have hv : asR (yes (st[st.length - 1].k == 0)) = vInt (yes (st[st.length - 1].k == 0)) := by rw [asR, if_neg (by omega)]
   rw [htk0] at hj
   repeat' first|apply Go.seq|apply Go.skip|apply Go.region|apply Go.nil|apply Go.block|apply Go.draw|apply Go.segs|(apply Go.exit;exact rfl)|(apply Go.cond true;exact rfl)|(apply Go.cond false;exact rfl)|apply yB|apply yC|((first|apply yG|apply yH|apply yI);exact rfl;(first|exact yJ|exact yK rfl rfl|exact yL rfl|exact yM rfl|exact rfl|exact aL rfl rfl rfl rfl rfl|exact aS rfl rfl rfl rfl rfl rfl rfl|exact yX (enc := zh) rfl rfl hk hlt rfl|exact yX (enc := encV) rfl rfl hz1 hl1 rfl))|((first|apply yN|apply yO|apply yP);exact rfl)|((first|apply yQ|apply yR|apply yS);(iterate 3 exact rfl);(first|exact jcq _|exact wik _))|exact yaF|(((first|apply yT|apply yU|apply yV|apply yW);exact rfl;(first|exact .d|exact .e|exact .n|((fail_if_success exact bqt);(fail_if_success exact bqf);exact .b)))<;>intro _)
   exact Go.keep [0, 1, 4, 6, 7, 8, 9, 10, 11] (hj _ _ ⟨vInt (yes (st[st.length - 1].k == 0)), true, by rw [hape], fun _ => by rw [hape, hv], rfl, rfl⟩)
  by_cases h7 : e[i].kind = 7
  ·have htk0 : we e[i] = 1 := by rw [we, if_neg hn12, if_pos (.inl h7)]
   have hz1 : IntKind.i64.wrap ((st.length : Int) - 1) = ((st.length - 1 : Nat) : Int) := by rw [jf (by omega) (by omega)]; omega
   have hl1 : st.length - 1 < st.length := by omega
   have hf : jag e[i] st = st.length - 1 := by rw [hft, htk0]; rfl
   have hape : ap = asV (not3 (jac st[st.length - 1])) := by
    rw [<- hap, hf, znj (by omega)]
    simp [ju, h7, vAt]
   rw [htk0] at hj
   repeat' first|apply Go.seq|apply Go.skip|apply Go.region|apply Go.nil|apply Go.block|apply Go.draw|apply Go.segs|(apply Go.exit;exact rfl)|(apply Go.cond true;exact rfl)|(apply Go.cond false;exact rfl)|apply yB|apply yC|((first|apply yG|apply yH|apply yI);exact rfl;(first|exact yJ|exact yK rfl rfl|exact yL rfl|exact yM rfl|exact rfl|exact aL rfl rfl rfl rfl rfl|exact aS rfl rfl rfl rfl rfl rfl rfl|exact yX (enc := zh) rfl rfl hk hlt rfl|exact yX (enc := encV) rfl rfl hz1 hl1 rfl))|((first|apply yN|apply yO|apply yP);exact rfl)|((first|apply yQ|apply yR|apply yS);(iterate 3 exact rfl);(first|exact zil st[st.length - 1]|exact zmo _|exact jlq _))|exact yaF|(((first|apply yT|apply yU|apply yV|apply yW);exact rfl;(first|exact .d|exact .e|exact .n|((fail_if_success exact bqt);(fail_if_success exact bqf);exact .b)))<;>intro _)
   refine Go.keep [0, 1, 4, 6, 7, 8, 9, 10, 11] (hj _ _ ⟨asR (not3 (ofT st[st.length - 1])), ofB st[st.length - 1], ?_, ?_, rfl, rfl⟩)
   ·rw [hape]
    cases hb : ofB st[st.length - 1]
    ·rw [jil hb]; rfl
    ·obtain ⟨q1, q2⟩ := wcj hb
     rw [q1, wek]
     rw [not3, jav.2 q2, if_pos rfl]
     split <;> omega
   ·intro hb
    obtain ⟨q1, q2⟩ := wcj hb
    rw [hape, q1, wek]
    rw [not3, jav.2 q2, if_pos rfl]
    split <;> omega
  have htk0 : we e[i] = 2 := by rw [we, if_neg hn12, if_neg (by omega)]
  have hz1 : IntKind.i64.wrap ((st.length : Int) - 1) = ((st.length - 1 : Nat) : Int) := by rw [jf (by omega) (by omega)]; omega
  have hz2 : IntKind.i64.wrap ((st.length : Int) - 2) = ((st.length - 2 : Nat) : Int) := by rw [jf (by omega) (by omega)]; omega
  have hl1 : st.length - 1 < st.length := by omega
  have hl2 : st.length - 2 < st.length := by omega
  have hf : jag e[i] st = st.length - 2 := by rw [hft, htk0]; rfl
  obtain ⟨hw1, hw2⟩ := wni e[i] st[st.length - 2] st[st.length - 1] row (by omega)
  have hap2 : ju e[i] [st[st.length - 2], st[st.length - 1]] row = ap := by rw [<- hap, hf, wn1 (by omega)]
  rw [hap2] at hw1 hw2
  have ctwo := jmo e[i].kind st[st.length - 2] st[st.length - 1] (hst _ (yab _)) (hst _ (yab _))
  generalize twoR e[i].kind st[st.length - 2] st[st.length - 1] = tw at ctwo hw1 hw2
  rw [htk0] at hj
  repeat' first|apply Go.seq|apply Go.skip|apply Go.region|apply Go.nil|apply Go.block|apply Go.segs|(apply Go.exit;exact rfl)|(apply Go.cond true;exact rfl)|(apply Go.cond false;exact rfl)|apply yB|apply yC|((first|apply yG|apply yH|apply yI);exact rfl;(first|exact yJ|exact yK rfl rfl|exact yL rfl|exact yM rfl|exact rfl|exact aL rfl rfl rfl rfl rfl|exact aS rfl rfl rfl rfl rfl rfl rfl|exact yX (enc := zh) rfl rfl hk hlt rfl))|((first|apply yN|apply yO|apply yP);exact rfl)|exact yaF|(((first|apply yT|apply yU|apply yV|apply yW);exact rfl;(first|exact .d|exact .e|exact .n|((fail_if_success exact bqt);(fail_if_success exact bqf);exact .b)))<;>intro _)
  apply Go.draw
  apply Go.qs
  repeat' first|(apply yA;exact rfl)|apply yC|((first|apply yD|apply yE);(first|exact yF|assumption);iterate 6 exact rfl)|((first|apply yG|apply yH|apply yI);exact rfl;(first|exact yJ|exact yK rfl rfl|exact yL rfl|exact yM rfl|exact rfl|exact aL rfl rfl rfl rfl rfl|exact aS rfl rfl rfl rfl rfl rfl rfl|exact yX (enc := zh) rfl rfl hk hlt rfl|exact yX (enc := encV) rfl rfl hz2 hl2 rfl|exact yX (enc := encV) rfl rfl hz1 hl1 rfl|exact ja5 rfl rfl rfl (yaa rfl) rfl))|((first|apply yN|apply yO|apply yP);exact rfl)|((first|apply yQ|apply yR|apply yS);(iterate 3 exact rfl);exact ctwo)|exact yaF|(((first|apply yT|apply yU|apply yV|apply yW);exact rfl;(first|exact .d|exact .e|exact .n|((fail_if_success exact bqt);(fail_if_success exact bqf);exact .b)))<;>intro _)
  refine Go.qkm [(0, [[.int .i64 0, .int .i64 0, .str []]])] [(0, [encV jy])] ?_
  repeat' first|(apply Qk.nil;show Go _ _ _ _ _ _ _ _)|(apply Qk.op;exact rfl;(first|(rintro _ ⟨_, rfl⟩;exact rfl)|(rintro _ ⟨_, rfl⟩;exact ja5 rfl rfl rfl (yaa rfl) rfl)))|(apply Qk.no;exact rfl)|(apply Qk.wop;exact rfl;exact rfl;(first|exact yJ|exact yL rfl|exact jm rfl rfl rfl rfl rfl rfl (yaa rfl));exact ⟨_, rfl⟩)
  repeat' first|apply Go.seq|apply Go.skip|apply Go.region|apply Go.nil|apply Go.block|apply Go.draw|apply Go.segs|(apply Go.exit;exact rfl)|(apply Go.cond true;exact rfl)|(apply Go.cond false;exact rfl)|apply yB|apply yC|((first|apply yG|apply yH|apply yI);exact rfl;(first|exact yJ|exact yK rfl rfl|exact yL rfl|exact yM rfl|exact rfl|exact aL rfl rfl rfl rfl rfl|exact aS rfl rfl rfl rfl rfl rfl rfl))|((first|apply yN|apply yO|apply yP);exact rfl)|exact yaF|(((first|apply yT|apply yU|apply yV|apply yW);exact rfl;(first|exact .d|exact .e|exact .n|((fail_if_success exact bqt);(fail_if_success exact bqf);exact .b)))<;>intro _)
  exact Go.keep [0, 1, 4, 6, 7, 8, 9, 10, 11] (hj _ _ ⟨tw.1, tw.2, hw1, fun h => by rw [hw2 (by rw [<- hw1]; exact h)], rfl, rfl⟩)
 ·have hd : e.drop i = [] := yad (by omega)
  rw [hd] at haux hev
  simp only [jw, beq_iff_eq] at haux
  obtain ⟨w, rfl⟩ : ∃ w, st = [w] := List.length_eq_one_iff.1 (by omega)
  have hR : jba e row = (w, true) := by rw [jba, hev]; rfl
  rw [hR]
  repeat' first|refine yaG ?_|exact yaF|refine yaS ?_ ?_<;>intro _
  exact .ret (js rfl rfl rfl (yae _) rfl rfl) (z7 w _)
theorem zhs (e : List Tok) (row : List Val) (hv : jq row 16 = true) (he : wbd e row.length = true) : Pure Tryz.prog 173 [.c (.fz (e.map zh)), .c (.fz (row.map encV))] (.c (.int .i64 (wcy e row))) := by
 refine Pure.run mixed zee (yaa rfl) fun σ hS hA => ?_
 clear hS hA
 obtain ⟨hok, hrl⟩ := zgq hv
 obtain ⟨hel, hea⟩ := zbw he
 have c1 := wjg e row (by omega) (by omega) hok hea
 have c2 := zil (jba e row).1
 rw [wcy]
 generalize jba e row = q at c1 c2 ⊢
 obtain ⟨v, b⟩ := q
 simp only at c1 c2 ⊢
 cases hb : ofB v
 ·rw [hb] at c2
  have h1 := jil hb
  cases b
  ·repeat' first|refine yaG ?_|refine yaC (c1) ?_|refine yaC (c2) ?_|exact yaF|refine yaS ?_ ?_<;>intro _
   exact .ret rfl (.int rfl)
  ·repeat' first|refine yaG ?_|refine yaC (c1) ?_|refine yaC (c2) ?_|exact yaF|refine yaS ?_ ?_<;>intro _
   exact .ret rfl (.int (by rw [if_pos rfl, h1]))
 ·rw [hb] at c2
  have h1 := (wcj hb).1
  cases b
  ·repeat' first|refine yaG ?_|refine yaC (c1) ?_|refine yaC (c2) ?_|exact yaF|refine yaS ?_ ?_<;>intro _
   exact .ret rfl (.int rfl)
  ·repeat' first|refine yaG ?_|refine yaC (c1) ?_|refine yaC (c2) ?_|exact yaF|refine yaS ?_ ?_<;>intro _
   exact .ret rfl (.int (by rw [if_pos rfl, h1]))
structure SetS where
 col : Int
 expr : List Tok
 deriving DecidableEq
def jg (a : SetS) : List Ce := [.int .i64 a.col, .fz (a.expr.map zh)]
def zfh (N : Nat) (a : SetS) : Prop := (a.expr.length <= N /\ ∀ x ∈ a.expr, bTok N x)
def jdb (a : SetS) : Int -> Int := j3 [(szL zTok a.expr)]
theorem wgq (a : SetS) : jc9 [(szL zTok a.expr)] := (.cons (fun l h => jaf za3 _ l h) .nil)
theorem jdy (a : SetS) (l : Int) (h : 0 <= l) : jdb a l <= l := wa5 (wgq a) l h
theorem jmp (a : SetS) (l : Int) (N : Nat) (h0 : 0 <= l) (h : 0 <= jdb a l) (hl : l <= N) : zfh N a := by
 have hh := jam (wgq a) l h0 h
 obtain ⟨q0, u0, v0, w0⟩ := hh (szL zTok a.expr) (by simp)
 exact (wa2 za3 jj3 u0 w0 (by omega))
theorem zlr (a : SetS) (left : Int) (hb : zfh 1125899906842624 a) (h0 : 0 <= left) (h1 : left <= 34359738368) : Pure Tryz.prog 152 [.agg (jg a), .c (.int .i64 left)] (.c (.int .i64 (jdb a left))) := by
 refine Pure.run mixed jf4 (yaa rfl) fun σ hS hA => ?_
 clear hS hA
 repeat' first|refine yaG ?_|fail
 refine .pcall rfl rfl rfl (wgj a.expr left hb.1 hb.2 (by omega) (by omega)) ?_
 have y1 := jaf za3 a.expr left (by omega)
 generalize e1 : szL zTok a.expr left = l1 at y1 ⊢
 repeat' first|refine yaG ?_|exact yaF|refine yaS ?_ ?_<;>intro _
 ·refine .ret rfl (.int ?_)
  rename_i h
  simp only [jdb, j3, e1, if_pos h]
 rename_i g1
 refine .ret rfl (.int ?_)
 simp only [jdb, j3, e1, if_neg g1]
theorem zk0 (xs : List SetS) (left : Int) (hx : xs.length <= 1125899906842624) (hv : ∀ e ∈ xs, zfh 1125899906842624 e) (h0 : 0 <= left) (h1 : left <= 34359738368) : Pure Tryz.prog 77 [.c (.fz (xs.map jg)), .c (.int .i64 left)] (.c (.int .i64 (szL jdb xs left))) :=
 wcx mixed je1 jg jdb xs left hx h0 h1 (fun _ => rfl) jdy fun a ha l h2 h3 => zlr a l (hv a ha) h2 (by omega)
theorem jlr (a : SetS) (hb : zfh 34359738368 a) (σ : wa) : Ok Tryz.prog 159 [.agg (jg a)] σ (NewL σ (jg a)) := by
 refine Ok.run mixed wf5 (yaa rfl) fun hS hA => ?_
 clear hS hA
 repeat' first|refine yaG ?_|exact yaF|refine yaS ?_ ?_<;>intro _
 refine Go.call _ rfl rfl rfl (zgk a.expr hb.1 hb.2 _) ?_
 rintro r σ0 ⟨x0, m0, rfl, rfl, t0, h0⟩
 rw [E_E] at h0 ⊢
 have t0 := zav t0
 have h0 := h0.new2
 repeat' first|refine yaG ?_|exact yaF|refine yaS ?_ ?_<;>intro _
 have hL : HasL (E σ ((0, [[.int .i64 a.col, x0]]) :: (0, [[.int .i64 a.col, x0]]) :: ([] ++ m0))) (fun a => σ.next + 2 <= a /\ a < σ.next + 2 + ([] ++ m0).length) (jg a) [.int .i64 a.col, x0] := by
  refine HasL.mono ?_ (HasL.skip (.int _ _) (HasL.two (h0 _ _) (HasL.nil (S := fun a => a < 0)) (fun a ha hb => by (try dsimp only at ha hb); (try simp only [List.append_eq, List.length_append, List.length_nil, List.nil_append] at ha hb); omega)))
  intro a ha
  (try dsimp only at ha)
  (try simp only [List.append_eq, List.length_append, List.length_nil, List.nil_append] at ha ⊢)
  omega
 have hT := hL.tidy (n := σ.next) fun a ha => by have := ha.1; omega
 have hM : wat σ.next ([] ++ m0) := (waf (fun b hb => by simp at hb) t0)
 have hN : NewL σ (jg a) (.agg [.int .i64 a.col, x0]) (E σ ((0, [[.int .i64 a.col, x0]]) :: (0, [[.int .i64 a.col, x0]]) :: ([] ++ m0))) := by
  refine ⟨_, _, rfl, rfl, .one hT (.one hT hM), hL.mono ?_⟩
  intro a ha
  have h9 := ha.1
  have h8 := ha.2
  (try simp only [wx, List.length_cons, List.append_eq, List.length_append, List.length_nil, List.nil_append] at h8 ⊢)
  constructor <;> omega
 exact .ret (jaz rfl rfl rfl (yaa rfl) rfl) hN
theorem jk0 (xs : List SetS) (hx : xs.length <= 34359738368) (hv : ∀ e ∈ xs, zfh 34359738368 e) (σ : wa) : Ok Tryz.prog 83 [.c (.fz (xs.map jg))] σ (New σ (.fz (xs.map jg))) :=
 jcx mixed we2 jg xs hx (by decide) rfl (fun _ => rfl) (by intro x hx; simp only [List.mem_cons, List.not_mem_nil, or_false] at hx; rcases hx with rfl | rfl <;> constructor) (fun a ha σ => jlr a (hv a ha) σ) σ
theorem wmp (a b : SetS) : (a == b) = (a.col == b.col && a.expr == b.expr) := by
 obtain ⟨a0, a1⟩ := a
 obtain ⟨b0, b1⟩ := b
 rw [ybc]
 simp [and_assoc]
theorem wlr (a b : SetS) (hb : zfh 34359738368 a) : Pure Tryz.prog 170 [.agg (jg a), .agg (jg b)] (.c (.bool (a == b))) := by
 refine Pure.run mixed zf7 (yaa rfl) fun σ hS hA => ?_
 clear hS hA
 have hq := wmp a b
 repeat' first|refine yaG ?_|((first|apply Go.pcallB|apply Go.spcallB|apply Qg.pcallB);(iterate 3 exact rfl);exact jgk a.expr b.expr hb.1 hb.2;intro _ _)|exact yaF|refine yaS ?_ ?_<;>intro _
 all_goals refine .ret rfl (.bool ?_)
 all_goals rw [hq]
 all_goals clear hq hb
 all_goals simp_all
theorem wk0 (xs ys : List SetS) (hx : xs.length <= 34359738368) (hv : ∀ e ∈ xs, zfh 34359738368 e) : Pure Tryz.prog 89 [.c (.fz (xs.map jg)), .c (.fz (ys.map jg))] (.c (.bool (xs == ys))) :=
 wdf mixed ze4 jg xs ys hx (fun _ => rfl) fun a ha b => wlr a b (hv a ha)
structure RowD where
 id : Int
 vals : List Val
 deriving DecidableEq
def jc (a : RowD) : List Ce := [.int .i64 a.id, .fz (a.vals.map encV)]
def zel (N : Nat) (a : RowD) : Prop := (a.vals.length <= N /\ ∀ x ∈ a.vals, bV N x)
def jbw (a : RowD) : Int -> Int := j3 [(szL szV a.vals)]
theorem zgr (a : RowD) : jc9 [(szL szV a.vals)] := (.cons (fun l h => jaf jb7 _ l h) .nil)
theorem jbe (a : RowD) (l : Int) (h : 0 <= l) : jbw a l <= l := wa5 (zgr a) l h
theorem zkm (a : RowD) (l : Int) (N : Nat) (h0 : 0 <= l) (h : 0 <= jbw a l) (hl : l <= N) : zel N a := by
 have hh := jam (zgr a) l h0 h
 obtain ⟨q0, u0, v0, w0⟩ := hh (szL szV a.vals) (by simp)
 exact (wa2 jb7 (fun _ _ _ _ h hl => wnd h hl) u0 w0 (by omega))
theorem zls (a : RowD) (left : Int) (hb : zel 1125899906842624 a) (h0 : 0 <= left) (h1 : left <= 34359738368) : Pure Tryz.prog 150 [.agg (jc a), .c (.int .i64 left)] (.c (.int .i64 (jbw a left))) := by
 refine Pure.run mixed wf3 (yaa rfl) fun σ hS hA => ?_
 clear hS hA
 repeat' first|refine yaG ?_|fail
 refine .pcall rfl rfl rfl (wlh a.vals left hb.1 hb.2 (by omega) (by omega)) ?_
 have y1 := jaf jb7 a.vals left (by omega)
 generalize e1 : szL szV a.vals left = l1 at y1 ⊢
 repeat' first|refine yaG ?_|exact yaF|refine yaS ?_ ?_<;>intro _
 ·refine .ret rfl (.int ?_)
  rename_i h
  simp only [jbw, j3, e1, if_pos h]
 rename_i g1
 refine .ret rfl (.int ?_)
 simp only [jbw, j3, e1, if_neg g1]
theorem jhs (xs : List RowD) (left : Int) (hx : xs.length <= 1125899906842624) (hv : ∀ e ∈ xs, zel 1125899906842624 e) (h0 : 0 <= left) (h1 : left <= 34359738368) : Pure Tryz.prog 75 [.c (.fz (xs.map jc)), .c (.int .i64 left)] (.c (.int .i64 (szL jbw xs left))) :=
 wcx mixed we0 jc jbw xs left hx h0 h1 (fun _ => rfl) jbe fun a ha l h2 h3 => zls a l (hv a ha) h2 (by omega)
theorem jls (a : RowD) (hb : zel 34359738368 a) (σ : wa) : Ok Tryz.prog 157 [.agg (jc a)] σ (NewL σ (jc a)) := by
 refine Ok.run mixed zf5 (yaa rfl) fun hS hA => ?_
 clear hS hA
 repeat' first|refine yaG ?_|exact yaF|refine yaS ?_ ?_<;>intro _
 refine Go.call _ rfl rfl rfl (jli a.vals hb.1  _) ?_
 rintro r σ0 ⟨x0, m0, rfl, rfl, t0, h0⟩
 rw [E_E] at h0 ⊢
 have t0 := zav t0
 have h0 := h0.new2
 repeat' first|refine yaG ?_|exact yaF|refine yaS ?_ ?_<;>intro _
 have hL : HasL (E σ ((0, [[.int .i64 a.id, x0]]) :: (0, [[.int .i64 a.id, x0]]) :: ([] ++ m0))) (fun a => σ.next + 2 <= a /\ a < σ.next + 2 + ([] ++ m0).length) (jc a) [.int .i64 a.id, x0] := by
  refine HasL.mono ?_ (HasL.skip (.int _ _) (HasL.two (h0 _ _) (HasL.nil (S := fun a => a < 0)) (fun a ha hb => by (try dsimp only at ha hb); (try simp only [List.append_eq, List.length_append, List.length_nil, List.nil_append] at ha hb); omega)))
  intro a ha
  (try dsimp only at ha)
  (try simp only [List.append_eq, List.length_append, List.length_nil, List.nil_append] at ha ⊢)
  omega
 have hT := hL.tidy (n := σ.next) fun a ha => by have := ha.1; omega
 have hM : wat σ.next ([] ++ m0) := (waf (fun b hb => by simp at hb) t0)
 have hN : NewL σ (jc a) (.agg [.int .i64 a.id, x0]) (E σ ((0, [[.int .i64 a.id, x0]]) :: (0, [[.int .i64 a.id, x0]]) :: ([] ++ m0))) := by
  refine ⟨_, _, rfl, rfl, .one hT (.one hT hM), hL.mono ?_⟩
  intro a ha
  have h9 := ha.1
  have h8 := ha.2
  (try simp only [wx, List.length_cons, List.append_eq, List.length_append, List.length_nil, List.nil_append] at h8 ⊢)
  constructor <;> omega
 exact .ret (jaz rfl rfl rfl (yaa rfl) rfl) hN
theorem whs (xs : List RowD) (hx : xs.length <= 34359738368) (hv : ∀ e ∈ xs, zel 34359738368 e) (σ : wa) : Ok Tryz.prog 81 [.c (.fz (xs.map jc))] σ (New σ (.fz (xs.map jc))) :=
 jcx mixed ze2 jc xs hx (by decide) rfl (fun _ => rfl) (by intro x hx; simp only [List.mem_cons, List.not_mem_nil, or_false] at hx; rcases hx with rfl | rfl <;> constructor) (fun a ha σ => jls a (hv a ha) σ) σ
theorem zmq (a b : RowD) : (a == b) = (a.id == b.id && a.vals == b.vals) := by
 obtain ⟨a0, a1⟩ := a
 obtain ⟨b0, b1⟩ := b
 rw [ybc]
 simp [and_assoc]
theorem wls (a b : RowD) (hb : zel 34359738368 a) : Pure Tryz.prog 168 [.agg (jc a), .agg (jc b)] (.c (.bool (a == b))) := by
 refine Pure.run mixed jf6 (yaa rfl) fun σ hS hA => ?_
 clear hS hA
 have hq := zmq a b
 repeat' first|refine yaG ?_|((first|apply Go.pcallB|apply Go.spcallB|apply Qg.pcallB);(iterate 3 exact rfl);exact jlh a.vals b.vals hb.1;intro _ _)|exact yaF|refine yaS ?_ ?_<;>intro _
 all_goals refine .ret rfl (.bool ?_)
 all_goals rw [hq]
 all_goals clear hq hb
 all_goals simp_all
theorem zht (xs ys : List RowD) (hx : xs.length <= 34359738368) (hv : ∀ e ∈ xs, zel 34359738368 e) : Pure Tryz.prog 87 [.c (.fz (xs.map jc)), .c (.fz (ys.map jc))] (.c (.bool (xs == ys))) :=
 wdf mixed je3 jc xs ys hx (fun _ => rfl) fun a ha b => wls a b (hv a ha)
structure Stmt where
 kind : Int
 table : List UInt8
 rows : List RowD
 wher : List Tok
 sets : List SetS
 policy : Int
 deriving DecidableEq
def ji (a : Stmt) : List Ce := [.int .i64 a.kind, .str a.table, .fz (a.rows.map jc), .fz (a.wher.map zh), .fz (a.sets.map jg), .int .i64 a.policy]
def jel (N : Nat) (a : Stmt) : Prop := a.table.length <= N /\ (a.rows.length <= N /\ ∀ x ∈ a.rows, zel N x) /\ (a.wher.length <= N /\ ∀ x ∈ a.wher, bTok N x) /\ (a.sets.length <= N /\ ∀ x ∈ a.sets, zfh N x)
def wdy (a : Stmt) : Int -> Int := j3 [(fun l => l - a.table.length), (szL jbw a.rows), (szL zTok a.wher), (szL jdb a.sets)]
theorem jgr (a : Stmt) : jc9 [(fun l => l - a.table.length), (szL jbw a.rows), (szL zTok a.wher), (szL jdb a.sets)] := (.cons (jfi _) (.cons (fun l h => jaf jbe _ l h) (.cons (fun l h => jaf za3 _ l h) (.cons (fun l h => jaf jdy _ l h) .nil))))
theorem jmq (a : Stmt) (l : Int) (h : 0 <= l) : wdy a l <= l := wa5 (jgr a) l h
theorem wmq (a : Stmt) (l : Int) (N : Nat) (h0 : 0 <= l) (h : 0 <= wdy a l) (hl : l <= N) : jel N a := by
 have hh := jam (jgr a) l h0 h
 obtain ⟨q0, u0, v0, w0⟩ := hh (fun l => l - a.table.length) (by simp)
 obtain ⟨q1, u1, v1, w1⟩ := hh (szL jbw a.rows) (by simp)
 obtain ⟨q2, u2, v2, w2⟩ := hh (szL zTok a.wher) (by simp)
 obtain ⟨q3, u3, v3, w3⟩ := hh (szL jdb a.sets) (by simp)
 exact ⟨(by (try simp only at w0); omega), (wa2 jbe zkm u1 w1 (by omega)), (wa2 za3 jj3 u2 w2 (by omega)), (wa2 jdy jmp u3 w3 (by omega))⟩
theorem zlt (a : Stmt) (left : Int) (hb : jel 1125899906842624 a) (h0 : 0 <= left) (h1 : left <= 34359738368) : Pure Tryz.prog 27 [.agg (ji a), .c (.int .i64 left)] (.c (.int .i64 (wdy a left))) := by
 refine Pure.run mixed jey (yaa rfl) fun σ hS hA => ?_
 clear hS hA
 have w1 : 0 <= left -> IntKind.i64.wrap (left - a.table.length) = left - a.table.length := fun h => jf (by have : a.table.length <= 1125899906842624 := hb.1; omega) (by omega)
 repeat' first|refine yaG ?_|exact yaF|refine yaS ?_ ?_<;>intro _
 ·refine .ret rfl (.int ?_)
  rename_i h
  have v1 := w1 (by omega)
  simp only [v1] at h
  simp only [wdy, j3, if_pos h]
 rename_i g1
 have v1 := w1 (by omega)
 simp only [v1] at g1 ⊢
 obtain ⟨l1, e1⟩ : ∃ q, left - (a.table.length : Int) = q := ⟨_, rfl⟩
 rw [e1] at g1 ⊢
 refine .pcall rfl rfl rfl (jhs a.rows l1 hb.2.1.1 hb.2.1.2 (by omega) (by omega)) ?_
 have y2 := jaf jbe a.rows l1 (by omega)
 generalize e2 : szL jbw a.rows l1 = l2 at y2 ⊢
 repeat' first|refine yaG ?_|exact yaF|refine yaS ?_ ?_<;>intro _
 ·refine .ret rfl (.int ?_)
  rename_i h
  simp only [wdy, j3, e1, if_neg g1, e2, if_pos h]
 rename_i g2
 refine .pcall rfl rfl rfl (wgj a.wher l2 hb.2.2.1.1 hb.2.2.1.2 (by omega) (by omega)) ?_
 have y3 := jaf za3 a.wher l2 (by omega)
 generalize e3 : szL zTok a.wher l2 = l3 at y3 ⊢
 repeat' first|refine yaG ?_|exact yaF|refine yaS ?_ ?_<;>intro _
 ·refine .ret rfl (.int ?_)
  rename_i h
  simp only [wdy, j3, e1, if_neg g1, e2, if_neg g2, e3, if_pos h]
 rename_i g3
 refine .pcall rfl rfl rfl (zk0 a.sets l3 hb.2.2.2.1 hb.2.2.2.2 (by omega) (by omega)) ?_
 have y4 := jaf jdy a.sets l3 (by omega)
 generalize e4 : szL jdb a.sets l3 = l4 at y4 ⊢
 repeat' first|refine yaG ?_|exact yaF|refine yaS ?_ ?_<;>intro _
 ·refine .ret rfl (.int ?_)
  rename_i h
  simp only [wdy, j3, e1, if_neg g1, e2, if_neg g2, e3, if_neg g3, e4, if_pos h]
 rename_i g4
 refine .ret rfl (.int ?_)
 simp only [wdy, j3, e1, if_neg g1, e2, if_neg g2, e3, if_neg g3, e4, if_neg g4]
theorem wgr (a : Stmt) (hb : jel 34359738368 a) (σ : wa) : Ok Tryz.prog 29 [.agg (ji a)] σ (NewL σ (ji a)) := by
 refine Ok.run mixed wey (yaa rfl) fun hS hA => ?_
 clear hS hA
 repeat' first|refine yaG ?_|exact yaF|refine yaS ?_ ?_<;>intro _
 refine Go.call _ rfl rfl rfl (whs a.rows hb.2.1.1 hb.2.1.2 _) ?_
 rintro r σ0 ⟨x0, m0, rfl, rfl, t0, h0⟩
 rw [E_E] at h0 ⊢
 have t0 := zav t0
 have h0 := h0.new2
 repeat' first|refine yaG ?_|exact yaF|refine yaS ?_ ?_<;>intro _
 refine Go.call _ rfl rfl rfl (zgk a.wher hb.2.2.1.1 hb.2.2.1.2 _) ?_
 rintro r σ1 ⟨x1, m1, rfl, rfl, t1, h1⟩
 rw [E_E] at h1 ⊢
 have t1 := zav t1
 have h1 := h1.new2
 have h0 := Has.more h0 (fun a ha => by have h9 := ha.1; have h8 := ha.2; simp only [List.append_eq, List.length_nil, List.length_append, List.nil_append] at h9 h8 ⊢; omega) m1
 repeat' first|refine yaG ?_|exact yaF|refine yaS ?_ ?_<;>intro _
 refine Go.call _ rfl rfl rfl (jk0 a.sets hb.2.2.2.1 hb.2.2.2.2 _) ?_
 rintro r σ2 ⟨x2, m2, rfl, rfl, t2, h2⟩
 rw [E_E] at h2 ⊢
 have t2 := zav t2
 have h2 := h2.new2
 have h0 := Has.more h0 (fun a ha => by have h9 := ha.1; have h8 := ha.2; simp only [List.append_eq, List.length_nil, List.length_append, List.nil_append] at h9 h8 ⊢; omega) m2
 have h1 := Has.more h1 (fun a ha => by have h9 := ha.1; have h8 := ha.2; simp only [List.append_eq, List.length_nil, List.length_append, List.nil_append] at h9 h8 ⊢; omega) m2
 repeat' first|refine yaG ?_|exact yaF|refine yaS ?_ ?_<;>intro _
 have hL : HasL (E σ ((0, [[.int .i64 a.kind, .str a.table, x0, x1, x2, .int .i64 a.policy]]) :: (0, [[.int .i64 a.kind, .str a.table, x0, x1, x2, .int .i64 a.policy]]) :: ([] ++ m0 ++ m1 ++ m2))) (fun a => σ.next + 2 <= a /\ a < σ.next + 2 + ([] ++ m0 ++ m1 ++ m2).length) (ji a) [.int .i64 a.kind, .str a.table, x0, x1, x2, .int .i64 a.policy] := by
  refine HasL.mono ?_ (HasL.skip (.int _ _) (HasL.skip (.str _) (HasL.two (h0 _ _) (HasL.two (h1 _ _) (HasL.two (h2 _ _) (HasL.skip (.int _ _) (HasL.nil (S := fun a => a < 0))) (fun a ha hb => by (try dsimp only at ha hb); (try simp only [List.append_eq, List.length_append, List.length_nil, List.nil_append] at ha hb); omega)) (fun a ha hb => by (try dsimp only at ha hb); (try simp only [List.append_eq, List.length_append, List.length_nil, List.nil_append] at ha hb); omega)) (fun a ha hb => by (try dsimp only at ha hb); (try simp only [List.append_eq, List.length_append, List.length_nil, List.nil_append] at ha hb); omega))))
  intro a ha
  (try dsimp only at ha)
  (try simp only [List.append_eq, List.length_append, List.length_nil, List.nil_append] at ha ⊢)
  omega
 have hT := hL.tidy (n := σ.next) fun a ha => by have := ha.1; omega
 have hM : wat σ.next ([] ++ m0 ++ m1 ++ m2) := (waf (waf (waf (fun b hb => by simp at hb) t0) t1) t2)
 have hN : NewL σ (ji a) (.agg [.int .i64 a.kind, .str a.table, x0, x1, x2, .int .i64 a.policy]) (E σ ((0, [[.int .i64 a.kind, .str a.table, x0, x1, x2, .int .i64 a.policy]]) :: (0, [[.int .i64 a.kind, .str a.table, x0, x1, x2, .int .i64 a.policy]]) :: ([] ++ m0 ++ m1 ++ m2))) := by
  refine ⟨_, _, rfl, rfl, .one hT (.one hT hM), hL.mono ?_⟩
  intro a ha
  have h9 := ha.1
  have h8 := ha.2
  (try simp only [wx, List.length_cons, List.append_eq, List.length_append, List.length_nil, List.nil_append] at h8 ⊢)
  constructor <;> omega
 exact .ret (jaz rfl rfl rfl (yaa rfl) rfl) hN
theorem zmr (a b : Stmt) : (a == b) = (a.kind == b.kind && a.table == b.table && a.rows == b.rows && a.wher == b.wher && a.sets == b.sets && a.policy == b.policy) := by
 obtain ⟨a0, a1, a2, a3, a4, a5⟩ := a
 obtain ⟨b0, b1, b2, b3, b4, b5⟩ := b
 rw [ybc]
 simp [and_assoc]
theorem zjh (a b : Stmt) (hb : jel 34359738368 a) : Pure Tryz.prog 31 [.agg (ji a), .agg (ji b)] (.c (.bool (a == b))) := by
 refine Pure.run mixed zez (yaa rfl) fun σ hS hA => ?_
 clear hS hA
 have hq := zmr a b
 repeat' first|refine yaG ?_|((first|apply Go.pcallB|apply Go.spcallB|apply Qg.pcallB);(iterate 3 exact rfl);(first|exact zht a.rows b.rows hb.2.1.1 hb.2.1.2|exact jgk a.wher b.wher hb.2.2.1.1 hb.2.2.1.2|exact wk0 a.sets b.sets hb.2.2.2.1 hb.2.2.2.2);intro _ _)|exact yaF|refine yaS ?_ ?_<;>intro _
 all_goals refine .ret rfl (.bool ?_)
 all_goals rw [hq]
 all_goals clear hq hb
 all_goals simp_all
theorem znx {l : List Tok} : ∀ e ∈ l.map zh, ∀ x ∈ e, Flat x := fun e he x hx => by
 obtain ⟨a, _, rfl⟩ := List.mem_map.1 he
 exact jgj a x hx
theorem Go.meet {P : Program} {n0 nt : Nat} {rets : List RV} {R : AV -> wa -> Prop} {K K' : List AK} {fr : Fr} {σ : wa} (I : Fr -> wa -> Prop) (h2 : ∀ K, (∀ fr σ, I fr σ -> Go P n0 nt rets R K fr σ) -> Go P n0 nt rets R (K' ++ K) fr σ) (h1 : ∀ fr σ, I fr σ -> Go P n0 nt rets R K fr σ) : Go P n0 nt rets R (K' ++ K) fr σ := h2 K h1
def OldL (n : Nat) (ys : List (List Ce)) : Prop := ∀ e ∈ ys, ∀ c ∈ e, Old n c
theorem zdz {n : Nat} {ys : List (List Ce)} (h : ∀ e ∈ ys, ∀ x ∈ e, Flat x) : OldL n ys := fun e he c hc => (h e he c hc).old _
theorem jal {n : Nat} {ys : List (List Ce)} (h : OldL n ys) : Old n (.fz ys) := .fz _ fun i j hi hj => h _ (yab hi) _ (yab hj)
theorem jnj {n : Nat} (l : List Col) : OldL n (l.map zg) := zdz fun e he x hx => by
 obtain ⟨a, _, rfl⟩ := List.mem_map.1 he
 exact jij a x hx
theorem wj6 {n : Nat} (l : List Int) : OldL n (l.map encI) := zdz fun e he x hx => (wmg l e he).2 x hx
theorem jmr {n : Nat} (l : List Uniq) : OldL n (l.map jl) := fun e he c hc => by
 obtain ⟨a, _, rfl⟩ := List.mem_map.1 he
 simp only [jl, List.mem_cons, List.not_mem_nil, or_false] at hc
 subst hc
 exact jal (wj6 _)
theorem wnj {n : Nat} (l : List Chk) : OldL n (l.map jr) := fun e he c hc => by
 obtain ⟨a, _, rfl⟩ := List.mem_map.1 he
 simp only [jr, List.mem_cons, List.not_mem_nil, or_false] at hc
 subst hc
 exact jal (zdz znx)
theorem jnx {n : Nat} (l : List Fk) : OldL n (l.map jv) := fun e he c hc => by
 obtain ⟨a, _, rfl⟩ := List.mem_map.1 he
 simp only [jv, List.mem_cons, List.not_mem_nil, or_false] at hc
 rcases hc with rfl | rfl | rfl | rfl | rfl
 ·exact jal (wj6 _)
 all_goals constructor
theorem zgs {α : Type} {p : α -> Bool} : ∀ {l : List α} {i : Int}, 0 <= i -> idxA p l i = -1 \/ ∃ n : Nat, ∃ h : n < l.length, idxA p l i = i + n /\ p l[n] = true
 | [], i, h => .inl rfl
 | a :: r, i, h => by
  simp only [idxA]
  split
  ·exact .inr ⟨0, by simp, by simp, by assumption⟩
  ·rcases zgs (p := p) (l := r) (i := i + 1) (by omega) with h1 | ⟨n, hn, h1, h2⟩
   ·exact .inl h1
   ·exact .inr ⟨n + 1, by simpa using hn, by omega, by simpa using h2⟩
theorem zj7 (t : zd) (s : List UInt8) : Pure Tryz.prog 219 [.agg (ja t), .c (.fp [.str s])] (.c (.bool (t.name == s))) := by
 refine Pure.run mixed wc5 (yaa rfl) fun σ hS hA => ?_
 clear hS hA
 repeat' first|refine yaG ?_|exact yaF|refine yaS ?_ ?_<;>intro _
 all_goals refine .ret rfl (.bool ?_)
 all_goals simp_all
theorem wbf (l : List zd) (s : List UInt8) (hx : l.length <= 34359738368) : Pure Tryz.prog 160 [.c (.fz (l.map ja)), .c (.str s)] (.c (.int .i64 (idxA (fun t => t.name == s) l 0))) := by
 refine Pure.run mixed zed (yaa rfl) fun σ hS hA => ?_
 clear hS hA
 repeat' first|refine yaG ?_|((first|apply yQ|apply yR|apply yS);(iterate 3 exact rfl);exact wbb mixed zai ja (fun t => .agg (ja t)) (fun _ => rfl) (fun _ => rfl) l (fun t => t.name == s) _ [] [.fp [.str s]] hx (fun j hj _ => zj7 _ _))|exact yaF|refine yaS ?_ ?_<;>intro _
 exact .ret rfl (.int rfl)
def jcz (t : zd) (c : Int) : Int := match t.cols[c.toNat]? with | some x => x.kind | none => 0
def wba (u t : zd) : List Int -> List Int -> Bool
 | a :: r, c :: q => jcz u a == jcz t c && wba u t r q
 | _, _ => true
def wil (u t : zd) (f : Fk) : Bool := decide (u.key.length = f.cols.length) && wba u t u.key f.cols
def metF (s : List zd) (t : zd) (f : Fk) : Bool := s.any (fun u => u.name == f.table) && (match s[(idxA (fun u => u.name == f.table) s 0).toNat]? with | some u => wil u t f | none => false)
theorem wa8 {t : zd} {c : Int} {n : Nat} (h : c = n) (hn : n < t.cols.length) : jcz t c = t.cols[n].kind := by
 simp [jcz, h, hn]
theorem jj7 {s : List zd} {t : zd} {f : Fk} (h : idxA (fun u => u.name == f.table) s 0 = -1) : metF s t f = false := by
 have := wbz (p := fun u : zd => u.name == f.table) (l := s)
 rw [h] at this
 rw [metF, <- this]
 rfl
theorem zim {s : List zd} {t : zd} {f : Fk} {n : Nat} (h : idxA (fun u => u.name == f.table) s 0 = n) (hn : n < s.length) : metF s t f = wil s[n] t f := by
 have := wbz (p := fun u : zd => u.name == f.table) (l := s)
 rw [h] at this
 rw [metF, <- this, h, decide_eq_true (by omega)]
 simp [hn]
theorem wmr (s : List zd) (t : zd) (f : Fk) (hx : s.length <= 34359738368) (hs : ∀ u ∈ s, u.key.length <= 34359738368 /\ ∀ c ∈ u.key, 0 <= c /\ c < u.cols.length) (hf0 : f.cols.length <= 34359738368) (hf : ∀ c ∈ f.cols, 0 <= c /\ c < t.cols.length) : Pure Tryz.prog 197 [.c (.fz (s.map ja)), .agg (ja t), .agg (jv f)] (.c (.bool (metF s t f))) := by
 refine Pure.run mixed wf8 (yaa rfl) fun σ hS hA => ?_
 clear hS hA
 repeat' first|refine yaG ?_|fail
 refine .pcall rfl rfl rfl (wbf s f.table hx) ?_
 rcases zgs (p := fun u : zd => u.name == f.table) (l := s) (i := 0) (ybf _) with hq | ⟨n, hn, hq, hp⟩
 ·have hm := jj7 (t := t) hq
  rw [hq]
  repeat' first|refine yaG ?_|exact yaF|refine yaS ?_ ?_<;>intro _
  exact .ret rfl (.bool hm.symm)
 rw [Int.zero_add] at hq
 have hm := zim (t := t) hq hn
 have hsn := hs _ (yab hn)
 rw [hq]
 have hnz : ¬ ((n : Int) < 0) := by omega
 repeat' first|refine yaG ?_|((first|apply yG|apply yH|apply yI);exact rfl;(first|exact yX (enc := ja) rfl rfl rfl hn rfl))|exact yaF|refine yaS ?_ ?_<;>intro _
 ·refine .ret rfl (.bool ?_)
  rename_i h
  rw [hm, wil, decide_eq_false (by omega)]
  rfl
 rename_i hlen
 refine Go.keep [0, 4, 7, 29, 30, 31] (Go.loops (I := fun m fr τ => ∃ i : Nat, ∃ k : Int, m = f.cols.length - i /\ i <= f.cols.length /\ k = i /\ wba s[n] t s[n].key f.cols = wba s[n] t (s[n].key.drop i) (f.cols.drop i) /\
  fr = [(0, .c (.fz (s.map ja))), (4, .c (.fp (ja t))), (7, .c (.int .i64 (n : Int))), (29, .c (.fz (f.cols.map encI))), (30, .c (.int .i64 (f.cols.length : Int))), (31, .c (.int .i64 k))] /\ τ = E σ []) ?_ _ _ _ ⟨0, _, rfl, yae _, rfl, rfl, rfl, rfl⟩)
 rintro m fr τ ⟨i, k, rfl, hi, hk, hsl, rfl, rfl⟩ hrec
 by_cases hlt : i < f.cols.length
 ·have hlt2 : i < s[n].key.length := by omega
  have h1 := hsn.2 _ (yab hlt2)
  have h2 := hf _ (yab hlt)
  obtain ⟨a, ha⟩ : ∃ a : Nat, s[n].key[i] = a := ⟨s[n].key[i].toNat, by omega⟩
  obtain ⟨c, hc⟩ : ∃ c : Nat, f.cols[i] = c := ⟨f.cols[i].toNat, by omega⟩
  have ha2 : a < s[n].cols.length := by omega
  have hc2 : c < t.cols.length := by omega
  have e1 := wa8 ha ha2
  have e2 := wa8 hc hc2
  have hstep : wba s[n] t s[n].key f.cols = (s[n].cols[a].kind == t.cols[c].kind && wba s[n] t (s[n].key.drop (i + 1)) (f.cols.drop (i + 1))) := by
   rw [hsl, yac hlt, yac hlt2, wba, e1, e2]
  repeat' first|refine yaG ?_|((first|apply yG|apply yH|apply yI);exact rfl;(first|exact yX (enc := encI) rfl rfl hk hlt rfl|exact yX (enc := ja) rfl rfl rfl hn rfl|exact yX (enc := encI) rfl rfl hk hlt2 rfl|exact yX (enc := zg) rfl rfl ha ha2 rfl|exact yX (enc := zg) rfl rfl hc hc2 rfl))|exact yaF|refine yaS ?_ ?_<;>intro _
  ·refine .ret rfl (.bool ?_)
   rename_i h
   rw [hm, wil, hstep, beq_eq_false_iff_ne.2 h]
   simp
  ·rename_i h
   refine Go.keep [0, 4, 7, 29, 30, 31] (hrec _ _ _ (by omega) ⟨i + 1, _, rfl, hlt, wb hk (by omega), ?_, rfl, rfl⟩)
   rw [hstep, h]
   simp
 ·repeat' first|refine yaG ?_|exact yaF|refine yaS ?_ ?_<;>intro _
  refine .ret rfl (.bool ?_)
  rw [hm, wil, hsl, yad (by omega), decide_eq_true (by omega)]
  cases s[n].key.drop i <;> rfl
def z4 : List zd -> List zd -> Bool
 | _, [] => true
 | pre, t :: r => zag t && !(pre.any fun u => u.name == t.name) && z4 (pre ++ [t]) r
def ww (s : List zd) : Bool := decide ((s.length : Int) <= 5) && (z4 [] s && !(s.any fun t => t.fks.any fun f => !metF s t f))
theorem ja3 : ∀ {l pre : List zd}, z4 pre l = true -> ∀ t ∈ l, zag t = true
 | [], _, _, t, h => by simp at h
 | a :: r, pre, h, t, ht => by
  simp only [z4, Bool.and_eq_true] at h
  rcases List.mem_cons.1 ht with rfl | ht
  ·exact h.1.1
  ·exact ja3 h.2 t ht
theorem jht {t : zd} (h : zag t = true) : ∀ c ∈ t.key, 0 <= c /\ c < t.cols.length := zb2 (zu.1 h).2.2.1
theorem jjh {t : zd} (h : zag t = true) {f : Fk} (hf : f ∈ t.fks) : ∀ c ∈ f.cols, 0 <= c /\ c < t.cols.length := by
 have h1 := (zu.1 h).2.2.2.2.2.2.2.2.2.2
 rw [ybl] at h1
 have := h1 f hf
 simp only [Bool.not_eq_true', Bool.not_eq_false, jci, Bool.and_eq_true] at this
 exact zb2 this.1
theorem jim (s : List zd) (t : zd) (f : Fk) (hx : s.length <= 34359738368) (hs : ∀ u ∈ s, u.key.length <= 34359738368 /\ ∀ c ∈ u.key, 0 <= c /\ c < u.cols.length) (hf0 : f.cols.length <= 34359738368) (hf : ∀ c ∈ f.cols, 0 <= c /\ c < t.cols.length) : Pure Tryz.prog 196 [.agg (jv f), .c (.fp [.fz (s.map ja)]), .c (.fp (ja t))] (.c (.bool (!metF s t f))) := by
 refine Pure.run mixed jb9 (yaa rfl) fun σ hS hA => ?_
 clear hS hA
 repeat' first|refine yaG ?_|refine yaC (wmr s t f hx hs hf0 hf) ?_|exact yaF|refine yaS ?_ ?_<;>intro _
 exact .ret rfl (.bool rfl)
theorem wjh (s : List zd) (t : zd) (hx : s.length <= 34359738368) (hs : ∀ u ∈ s, u.key.length <= 34359738368 /\ ∀ c ∈ u.key, 0 <= c /\ c < u.cols.length) (hb : zac 34359738368 t) (hf : ∀ f ∈ t.fks, ∀ c ∈ f.cols, 0 <= c /\ c < t.cols.length) : Pure Tryz.prog 194 [.agg (ja t), .c (.fp [.fz (s.map ja)])] (.c (.bool (t.fks.any fun f => !metF s t f))) := by
 refine Pure.run mixed wcu (yaa rfl) fun σ hS hA => ?_
 clear hS hA
 have b6 := hb.2.2.2.2.2
 repeat' first|refine yaG ?_|((first|apply yQ|apply yR|apply yS);(iterate 3 exact rfl);exact zj mixed w6 waa jv (fun u => .agg (jv u)) (fun _ => rfl) (fun _ => rfl) t.fks (fun f => !metF s t f) _ [] [.fp [.fz (s.map ja)], .fp (ja t)] b6.1 (fun j hj _ => jim s t _ hx hs (b6.2 _ (yab hj)).1 (hf _ (yab hj))))|exact yaF|refine yaS ?_ ?_<;>intro _
 exact .ret rfl (.bool rfl)
theorem jet {l : List zd} : ∀ e ∈ l.map ja, e.length = 6 := fun e he => by
 obtain ⟨t, _, rfl⟩ := List.mem_map.1 he
 rfl
theorem wdb (s : List zd) (hx : s.length <= 34359738368) (hb : ∀ t ∈ s, zac 34359738368 t) : Pure Tryz.prog 119 [.c (.fz (s.map ja))] (.c (.bool (ww s))) := by
 refine Pure.run mixed zdn (yaa rfl) fun σ hS hA => ?_
 clear hS hA
 repeat' first|refine yaG ?_|exact yaF|refine yaS ?_ ?_<;>intro _
 ·refine .ret rfl (.bool ?_)
  rw [ww, decide_eq_false (by omega)]
  rfl
 rename_i h5
 refine Go.keep [1, 8, 9, 10] (Go.loops (I := fun m fr τ => ∃ i : Nat, ∃ k : Int, m = s.length - i /\ i <= s.length /\ k = i /\ z4 [] s = z4 (s.take i) (s.drop i) /\
  fr = [(1, .c (.fp [.fz (s.map ja)])), (8, .c (.fz (s.map ja))), (9, .c (.int .i64 (s.length : Int))), (10, .c (.int .i64 k))] /\ τ = E σ []) ?_ _ _ _ ⟨0, _, rfl, yae _, rfl, rfl, rfl, rfl⟩)
 rintro m fr τ ⟨i, k, rfl, hi, hk, hsl, rfl, rfl⟩ hrec
 by_cases hlt : i < s.length
 ·have hd := yac hlt
  have htk : (s.map ja).take i = (s.take i).map ja := List.map_take.symm
  have hstep : z4 [] s = (zag s[i] && !((s.take i).any fun d => d.name == s[i].name) && z4 (s.take (i + 1)) (s.drop (i + 1))) := by
   rw [hsl, hd, z4, yai hlt]
  have neg : (zag s[i] = false \/ ((s.take i).any fun d => d.name == s[i].name) = true) -> ww s = false := by
   rintro (h | h)
   ·rw [ww, hstep, h]; simp
   ·rw [ww, hstep, h]; simp
  have hany := wbz (p := fun d : zd => d.name == s[i].name) (l := s.take i)
  repeat' first|refine yaG ?_|((first|apply yG|apply yH|apply yI);exact rfl;(first|exact yX (enc := ja) rfl rfl hk hlt rfl|exact war (n := i) rfl rfl hk (by simp;omega) jet))|((first|apply Go.pcallB|apply Go.spcallB|apply Qg.pcallB);(iterate 3 exact rfl);exact wky s[i] (hb _ (List.getElem_mem hlt));intro _ _)|exact yaF|refine yaS ?_ ?_<;>intro _
  ·rename_i c p q
   exact .ret rfl (.bool (neg (.inl (nbT p q))).symm)
  rename_i c p q
  rw [htk]
  repeat' first|refine yaG ?_|((first|apply Go.pcallI|apply Go.spcallI|apply Qg.pcallI);(iterate 3 exact rfl);exact wbf (s.take i) s[i].name (by simp;omega);intro _ _)|exact yaF|refine yaS ?_ ?_<;>intro _
  ·rename_i z hz hz2
   refine .ret rfl (.bool (neg (.inr ?_)).symm)
   rw [<- hany, hz]
   simpa using hz2
  ·rename_i z hz hz2
   refine Go.keep [1, 8, 9, 10] (hrec _ _ _ (by omega) ⟨i + 1, _, rfl, hlt, wb hk (by omega), ?_, rfl, rfl⟩)
   rw [hstep, nbF p q, <- hany, hz, decide_eq_false (by omega)]
   rfl
 have hfin : z4 [] s = true := by
  rw [hsl, yad (by omega)]
  rfl
 have hok := ja3 hfin
 clear hrec hsl
 repeat' first|refine yaG ?_|((first|apply yQ|apply yR|apply yS);(iterate 3 exact rfl);exact zj mixed za8 zai ja (fun u => .agg (ja u)) (fun _ => rfl) (fun _ => rfl) s (fun t => t.fks.any fun f => !metF s t f) _ [] [.fp [.fz (s.map ja)]] hx (fun j hj _ => wjh s _ hx (fun u hu => ⟨(hb u hu).2.2.1, jht (hok u hu)⟩) (hb _ (yab hj)) (fun f hf => jjh (hok _ (yab hj)) hf)))|exact yaF|refine yaS ?_ ?_<;>intro _
 refine .ret rfl (.bool ?_)
 rw [ww, hfin, decide_eq_true (by omega)]
 rfl
theorem wj7 {s : List zd} (h : ww s = true -> False) : ww s = false := by
 cases c : ww s
 ·rfl
 ·exact (h c).elim
theorem zdc {s : List zd} : ww s = true ↔ (s.length : Int) <= 5 /\ z4 [] s = true /\ (s.any fun t => t.fks.any fun f => !metF s t f) = false := by
 simp only [ww, Bool.and_eq_true, decide_eq_true_eq, Bool.not_eq_true']
theorem zji (s : List zd) (hx : s.length <= 34359738368) (hb : ∀ t ∈ s, zac 34359738368 t) : Pure Tryz.prog 153 [.c (.fz (s.map ja))] (.c (.bool (ww s))) := by
 refine Pure.run mixed wdp (yaa rfl) fun σ hS hA => ?_
 clear hS hA
 repeat' first|refine yaG ?_|exact yaF|refine yaS ?_ ?_<;>intro _
 refine Go.keep [0, 3] (Go.loops (I := fun m fr τ => ∃ i : Nat, ∃ k : Int, m = s.length - i /\ i <= s.length /\ k = i /\ z4 [] s = z4 (s.take i) (s.drop i) /\
  fr = [(0, .c (.fz (s.map ja))), (3, .c (.int .i64 k))] /\ τ = E σ []) ?_ _ _ _ ⟨0, _, rfl, yae _, rfl, rfl, rfl, rfl⟩)
 rintro m fr τ ⟨i, k, rfl, hi, hk, hsl, rfl, rfl⟩ hrec
 by_cases hlt : i < s.length
 ·have hd := yac hlt
  have htk : (s.map ja).take i = (s.take i).map ja := List.map_take.symm
  have hstep : z4 [] s = (zag s[i] && !((s.take i).any fun d => d.name == s[i].name) && z4 (s.take (i + 1)) (s.drop (i + 1))) := by
   rw [hsl, hd, z4, yai hlt]
  have neg : (zag s[i] = false \/ ((s.take i).any fun d => d.name == s[i].name) = true) -> ww s = false := by
   rintro (h | h)
   ·rw [ww, hstep, h]; simp
   ·rw [ww, hstep, h]; simp
  have hany := wbz (p := fun d : zd => d.name == s[i].name) (l := s.take i)
  repeat' first|refine yaG ?_|((first|apply yG|apply yH|apply yI);exact rfl;(first|exact yX (enc := ja) rfl rfl hk hlt rfl|exact war (n := i) rfl rfl hk (by simp;omega) jet))|((first|apply Go.pcallB|apply Go.spcallB|apply Qg.pcallB);(iterate 3 exact rfl);exact zj6 s[i] (hb _ (List.getElem_mem hlt));intro _ _)|exact yaF|refine yaS ?_ ?_<;>intro _
  ·rename_i c p q
   exact .ret rfl (.bool (neg (.inl (nbT p q))).symm)
  rename_i c p q
  rw [htk]
  repeat' first|refine yaG ?_|((first|apply Go.pcallI|apply Go.spcallI|apply Qg.pcallI);(iterate 3 exact rfl);exact wgn (s.take i) s[i].name (by simp;omega);intro _ _)|exact yaF|refine yaS ?_ ?_<;>intro _
  ·rename_i z hz hz2
   refine .ret rfl (.bool (neg (.inr ?_)).symm)
   rw [<- hany, hz]
   simpa using hz2
  ·rename_i z hz hz2
   refine Go.keep [0, 3] (hrec _ _ _ (by omega) ⟨i + 1, _, rfl, hlt, wb hk (by omega), ?_, rfl, rfl⟩)
   rw [hstep, nbF p q, <- hany, hz, decide_eq_false (by omega)]
   rfl
 have hfin : z4 [] s = true := by
  rw [hsl, yad (by omega)]
  rfl
 have hok := ja3 hfin
 clear hrec hsl
 repeat' first|refine yaG ?_|exact yaF|refine yaS ?_ ?_<;>intro _
 clear hlt hk hi
 -- the references
 refine Go.keep [0, 4] (Go.loops (I := fun m fr τ => ∃ i : Nat, ∃ k : Int, m = s.length - i /\ i <= s.length /\ k = i /\ (∀ j (hj : j < s.length), j < i -> (!(s[j].fks.any fun f => !metF s s[j] f)) = true) /\
  fr = [(0, .c (.fz (s.map ja))), (4, .c (.int .i64 k))] /\ τ = E σ []) ?_ _ _ _ ⟨0, _, rfl, yae _, rfl, fun j _ h => absurd h (by omega), rfl, rfl⟩)
 rintro m fr τ ⟨i, k, rfl, hi, hk, hall, rfl, rfl⟩ hrec
 by_cases hlt : i < s.length
 ·have hmem := yab hlt
  have hti := hok _ hmem
  have b6 := (hb _ hmem).2.2.2.2.2
  repeat' first|refine yaG ?_|exact yaF|refine yaS ?_ ?_<;>intro _
  refine Go.keep [0, 4, 5] (Go.loops (I := fun m fr τ => ∃ i2 : Nat, ∃ k2 : Int, m = s[i].fks.length - i2 /\ i2 <= s[i].fks.length /\ k2 = i2 /\ (∀ j (hj : j < s[i].fks.length), j < i2 -> metF s s[i] s[i].fks[j] = true) /\
   fr = [(0, .c (.fz (s.map ja))), (4, .c (.int .i64 k)), (5, .c (.int .i64 k2))] /\ τ = E σ []) ?_ _ _ _ ⟨0, _, rfl, yae _, rfl, fun j _ h => absurd h (by omega), rfl, rfl⟩)
  rintro m fr τ ⟨i2, k2, rfl, hi2, hk2, hall2, rfl, rfl⟩ hrec2
  by_cases hlt2 : i2 < s[i].fks.length
  ·have hfm := yab hlt2
   have hf := jjh hti hfm
   have hf0 := (b6.2 _ hfm).1
   have neg : metF s s[i] s[i].fks[i2] = false -> ww s = false := fun h => wj7 fun hh => by
    have h2 := (zdc.1 hh).2.2
    rw [ybl] at h2
    exact h2 _ hmem (List.any_eq_true.2 ⟨_, hfm, by rw [h]; rfl⟩)
   repeat' first|refine yaG ?_|((first|apply yG|apply yH|apply yI);exact rfl;(first|exact yX (enc := ja) rfl rfl hk hlt rfl|exact yX (enc := jv) rfl rfl hk2 hlt2 rfl))|exact yaF|refine yaS ?_ ?_<;>intro _
   refine .pcall rfl rfl rfl (wgn s s[i].fks[i2].table hx) ?_
   rcases zgs (p := fun u : zd => u.name == s[i].fks[i2].table) (l := s) (i := 0) (ybf _) with hq | ⟨n, hn, hq, hp⟩
   ·have hm := jj7 (t := s[i]) hq
    rw [hq]
    repeat' first|refine yaG ?_|exact yaF|refine yaS ?_ ?_<;>intro _
    exact .ret rfl (.bool (neg hm).symm)
   rw [Int.zero_add] at hq
   have hm := zim (t := s[i]) hq hn
   have hsk := jht (hok _ (yab hn))
   rw [hq]
   have hnz : ¬ ((n : Int) < 0) := by omega
   repeat' first|refine yaG ?_|((first|apply yG|apply yH|apply yI);exact rfl;(first|exact yX (enc := ja) rfl rfl rfl hn rfl))|exact yaF|refine yaS ?_ ?_<;>intro _
   ·rename_i h
    refine .ret rfl (.bool (neg ?_).symm)
    rw [hm, wil, decide_eq_false (by omega)]
    rfl
   rename_i hlen
   refine Go.keep [0, 4, 5, 6, 7, 8] (Go.loops (I := fun m fr τ => ∃ i3 : Nat, ∃ k3 : Int, m = s[i].fks[i2].cols.length - i3 /\ i3 <= s[i].fks[i2].cols.length /\ k3 = i3 /\ wba s[n] s[i] s[n].key s[i].fks[i2].cols = wba s[n] s[i] (s[n].key.drop i3) (s[i].fks[i2].cols.drop i3) /\
    fr = [(0, .c (.fz (s.map ja))), (4, .c (.int .i64 k)), (5, .c (.int .i64 k2)), (6, .c (.fp (jv s[i].fks[i2]))), (7, .c (.int .i64 (n : Int))), (8, .c (.int .i64 k3))] /\ τ = E σ []) ?_ _ _ _ ⟨0, _, rfl, yae _, rfl, rfl, rfl, rfl⟩)
   rintro m fr τ ⟨i3, k3, rfl, hi3, hk3, hsl, rfl, rfl⟩ hrec3
   by_cases hlt3 : i3 < s[i].fks[i2].cols.length
   ·have hlt4 : i3 < s[n].key.length := by omega
    have h1 := hsk _ (yab hlt4)
    have h2 := hf _ (yab hlt3)
    obtain ⟨a, ha⟩ : ∃ a : Nat, s[n].key[i3] = a := ⟨s[n].key[i3].toNat, by omega⟩
    obtain ⟨c, hc⟩ : ∃ c : Nat, s[i].fks[i2].cols[i3] = c := ⟨s[i].fks[i2].cols[i3].toNat, by omega⟩
    have ha2 : a < s[n].cols.length := by omega
    have hc2 : c < s[i].cols.length := by omega
    have e1 := wa8 ha ha2
    have e2 := wa8 hc hc2
    have hstep : wba s[n] s[i] s[n].key s[i].fks[i2].cols = (s[n].cols[a].kind == s[i].cols[c].kind && wba s[n] s[i] (s[n].key.drop (i3 + 1)) (s[i].fks[i2].cols.drop (i3 + 1))) := by
     rw [hsl, yac hlt3, yac hlt4, wba, e1, e2]
    repeat' first|refine yaG ?_|((first|apply yG|apply yH|apply yI);exact rfl;(first|exact yX (enc := ja) rfl rfl hk hlt rfl|exact yX (enc := encI) rfl rfl hk3 hlt3 rfl|exact yX (enc := ja) rfl rfl rfl hn rfl|exact yX (enc := encI) rfl rfl hk3 hlt4 rfl|exact yX (enc := zg) rfl rfl ha ha2 rfl|exact yX (enc := zg) rfl rfl hc hc2 rfl))|exact yaF|refine yaS ?_ ?_<;>intro _
    ·rename_i h
     refine .ret rfl (.bool (neg ?_).symm)
     rw [hm, wil, hstep, beq_eq_false_iff_ne.2 fun e => h e.symm]
     simp
    ·rename_i h
     refine Go.keep [0, 4, 5, 6, 7, 8] (hrec3 _ _ _ (by omega) ⟨i3 + 1, _, rfl, hlt3, wb hk3 (by omega), ?_, rfl, rfl⟩)
     rw [hstep, h]
     simp
   ·have hmt : metF s s[i] s[i].fks[i2] = true := by
     rw [hm, wil, hsl, yad (by omega), decide_eq_true (by omega)]
     cases s[n].key.drop i3 <;> rfl
    clear hrec3
    repeat' first|refine yaG ?_|exact yaF|refine yaS ?_ ?_<;>intro _
    exact Go.keep [0, 4, 5] (hrec2 _ _ _ (by omega) ⟨i2 + 1, _, rfl, hlt2, wb hk2 (by omega), upto (p := fun f => metF s s[i] f) hall2 hlt2 hmt, rfl, rfl⟩)
  ·have hany := jb2 (p := fun f => metF s s[i] f) (l := s[i].fks) fun j hj => hall2 j hj (by omega)
   clear hrec2
   repeat' first|refine yaG ?_|((first|apply yG|apply yH|apply yI);exact rfl;(first|exact yX (enc := ja) rfl rfl hk hlt rfl))|exact yaF|refine yaS ?_ ?_<;>intro _
   exact Go.keep [0, 4] (hrec _ _ _ (by omega) ⟨i + 1, _, rfl, hlt, wb hk (by omega), upto (p := fun t : zd => !(t.fks.any fun f => !metF s t f)) hall hlt (by rw [hany]; rfl), rfl, rfl⟩)
 ·have hany := jb2 (p := fun t : zd => !(t.fks.any fun f => !metF s t f)) (l := s) fun j hj => hall j hj (by omega)
  clear hrec
  repeat' first|refine yaG ?_|exact yaF|refine yaS ?_ ?_<;>intro _
  refine .ret rfl (.bool ?_)
  simp only [Bool.not_not] at hany
  rw [ww, hfin, hany]
  simp
def jlt (s : List zd) (nm : List UInt8) : Option zd := if s.any (fun u => u.name == nm) then s[(idxA (fun u => u.name == nm) s 0).toNat]? else none
theorem wim {s : List zd} {nm : List UInt8} (h : idxA (fun u => u.name == nm) s 0 = -1) : jlt s nm = none := by
 have := wbz (p := fun u : zd => u.name == nm) (l := s)
 rw [h] at this
 rw [jlt, <- this]
 rfl
theorem jgs {s : List zd} {nm : List UInt8} {n : Nat} (h : idxA (fun u => u.name == nm) s 0 = n) (hn : n < s.length) : jlt s nm = some s[n] := by
 have := wbz (p := fun u : zd => u.name == nm) (l := s)
 rw [h] at this
 rw [jlt, <- this, h, decide_eq_true (by omega)]
 simp [hn]
theorem wet {s : List zd} (h : ww s = true) : ∀ t ∈ s, 1 <= t.cols.length /\ t.cols.length <= 8 := fun t ht => by
 have := (zu.1 (ja3 (zdc.1 h).2.1 t ht)).2.1
 simp only [isIn, Bool.and_eq_true, decide_eq_true_eq] at this
 omega
def wgs (e : List Tok) (n : Int) : Bool := (e.length : Int) == 0 || wbd e n
theorem zk1 (e : List Tok) (n : Int) (hx : e.length <= 34359738368) (h0 : 0 <= n) (h1 : n <= 16) : Pure Tryz.prog 164 [.c (.fz (e.map zh)), .c (.int .i64 n)] (.c (.bool (wgs e n))) := by
 refine Pure.run mixed jed (yaa rfl) fun σ hS hA => ?_
 clear hS hA
 have hc := wdx e n hx
 rw [wfi h0 h1] at hc
 repeat' first|refine yaG ?_|((first|apply Go.pcallB|apply Go.spcallB|apply Qg.pcallB);(iterate 3 exact rfl);exact hc;intro _ _)|exact yaF|refine yaS ?_ ?_<;>intro _
 all_goals refine .ret rfl (.bool ?_)
 ·rename_i h
  rw [wgs, h]
  rfl
 ·rename_i h b hb
  rw [wgs, hb, beq_eq_false_iff_ne.2 h]
  rfl
def wcz (t : zd) : Nat -> List Val -> Bool
 | _, [] => true
 | i, v :: r => jgn v (jcz t i) && wcz t (i + 1) r
def fitF (t : zd) (vals : List Val) : Bool := decide ((vals.length : Int) = t.cols.length) && wcz t 0 vals
theorem wlt (t : zd) (vals : List Val) (hx : vals.length <= 34359738368) : Pure Tryz.prog 67 [.agg (ja t), .c (.fz (vals.map encV))] (.c (.bool (fitF t vals))) := by
 refine Pure.run mixed wh6 (yaa rfl) fun σ hS hA => ?_
 clear hS hA
 repeat' first|refine yaG ?_|exact yaF|refine yaS ?_ ?_<;>intro _
 ·rename_i h
  refine .ret rfl (.bool ?_)
  rw [fitF, decide_eq_false h]
  rfl
 rename_i hlen
 have hlen : (vals.length : Int) = t.cols.length := by omega
 refine Go.keep [2, 13, 14, 15] (Go.loops (I := fun m fr τ => ∃ i : Nat, ∃ k : Int, m = vals.length - i /\ i <= vals.length /\ k = i /\ wcz t 0 vals = wcz t i (vals.drop i) /\
  fr = [(2, .c (.fp (ja t))), (13, .c (.fz (vals.map encV))), (14, .c (.int .i64 (vals.length : Int))), (15, .c (.int .i64 k))] /\ τ = E σ []) ?_ _ _ _ ⟨0, _, rfl, yae _, rfl, rfl, rfl, rfl⟩)
 rintro m fr τ ⟨i, k, rfl, hi, hk, hsl, rfl, rfl⟩ hrec
 by_cases hlt : i < vals.length
 ·have hd := yac hlt
  have hlc : i < t.cols.length := by omega
  have hka : jcz t i = t.cols[i].kind := wa8 rfl hlc
  rw [hd, wcz, hka] at hsl
  repeat' first|refine yaG ?_|((first|apply yG|apply yH|apply yI);exact rfl;(first|exact yX (enc := encV) rfl rfl hk hlt rfl|exact yX (enc := zg) rfl rfl hk hlc rfl))|((first|apply Go.pcallB|apply Go.spcallB|apply Qg.pcallB);(iterate 3 exact rfl);exact zj4 vals[i] t.cols[i].kind;intro _ _)|exact yaF|refine yaS ?_ ?_<;>intro _
  ·rename_i b p k4
   refine .ret rfl (.bool ?_)
   rw [fitF, hsl, nbT p k4]
   simp
  ·rename_i b p k4
   refine Go.keep [2, 13, 14, 15] (hrec _ _ _ (by omega) ⟨i + 1, _, rfl, hlt, wb hk (by omega), ?_, rfl, rfl⟩)
   rw [hsl, nbF p k4]
   rfl
 ·repeat' first|refine yaG ?_|exact yaF|refine yaS ?_ ?_<;>intro _
  refine .ret rfl (.bool ?_)
  rw [fitF, hsl, yad (by omega), decide_eq_true hlen]
  rfl
theorem wel (t : zd) (vals : List Val) (hx : vals.length <= 34359738368) : Pure Tryz.prog 63 [.agg (ja t), .c (.fz (vals.map encV))] (.c (.bool (fitF t vals))) := by
 refine Pure.run mixed zea (yaa rfl) fun σ hS hA => ?_
 clear hS hA
 repeat' first|refine yaG ?_|exact yaF|refine yaS ?_ ?_<;>intro _
 ·rename_i h
  refine .ret rfl (.bool ?_)
  rw [fitF, decide_eq_false h]
  rfl
 rename_i hlen
 have hlen : (vals.length : Int) = t.cols.length := by omega
 refine Go.keep [1, 2, 5] (Go.loops (I := fun m fr τ => ∃ i : Nat, ∃ k : Int, m = vals.length - i /\ i <= vals.length /\ k = i /\ wcz t 0 vals = wcz t i (vals.drop i) /\
  fr = [(1, .c (.fz (vals.map encV))), (2, .c (.fp (ja t))), (5, .c (.int .i64 k))] /\ τ = E σ []) ?_ _ _ _ ⟨0, _, rfl, yae _, rfl, rfl, rfl, rfl⟩)
 rintro m fr τ ⟨i, k, rfl, hi, hk, hsl, rfl, rfl⟩ hrec
 by_cases hlt : i < vals.length
 ·have hd := yac hlt
  have hlc : i < t.cols.length := by omega
  have hka : jcz t i = t.cols[i].kind := wa8 rfl hlc
  rw [hd, wcz, hka] at hsl
  repeat' first|refine yaG ?_|((first|apply yG|apply yH|apply yI);exact rfl;(first|exact yX (enc := encV) rfl rfl hk hlt rfl|exact yX (enc := zg) rfl rfl hk hlc rfl))|((first|apply Go.pcallB|apply Go.spcallB|apply Qg.pcallB);(iterate 3 exact rfl);exact zaf vals[i];intro _ _)|exact yaF|refine yaS ?_ ?_<;>intro _
  all_goals first
   |(refine .ret rfl (.bool ?_); rw [fitF, hsl, jgn]; clear hrec hsl; simp_all; done)
   |(refine Go.keep [1, 2, 5] (hrec _ _ _ (by omega) ⟨i + 1, _, rfl, hlt, wb hk (by omega), ?_, rfl, rfl⟩); rw [hsl, jgn]; clear hrec hsl; simp_all; done)
 ·repeat' first|refine yaG ?_|exact yaF|refine yaS ?_ ?_<;>intro _
  refine .ret rfl (.bool ?_)
  rw [fitF, hsl, yad (by omega), decide_eq_true hlen]
  rfl
def zck (n : Int) (x : SetS) : Bool := isIn x.col 0 (n - 1) && wbd x.expr n
def zaw (n : Int) : List SetS -> List SetS -> Bool
 | _, [] => true
 | pre, x :: r => zck n x && !(pre.any fun y => y.col == x.col) && zaw n (pre ++ [x]) r
def jhl (l : List SetS) (n : Int) : Bool := zaw n [] l
theorem zj8 (y x : SetS) : Pure Tryz.prog 222 [.agg (jg y), .c (.fp (jg x))] (.c (.bool (y.col == x.col))) := by
 refine Pure.run mixed zc6 (yaa rfl) fun σ hS hA => ?_
 clear hS hA
 repeat' first|refine yaG ?_|exact yaF|refine yaS ?_ ?_<;>intro _
 all_goals refine .ret rfl (.bool ?_)
 all_goals simp_all
theorem wm6 {n : Int} (h0 : 0 <= n) (h1 : n <= 16) : IntKind.i64.wrap (n - 1) = n - 1 := jf (by omega) (by omega)
theorem jk1 (l : List SetS) (n : Int) (hx : l.length <= 34359738368) (hb : ∀ x ∈ l, zfh 34359738368 x) (h0 : 0 <= n) (h1 : n <= 16) : Pure Tryz.prog 165 [.c (.fz (l.map jg)), .c (.int .i64 n)] (.c (.bool (jhl l n))) := by
 refine Pure.run mixed wed (yaa rfl) fun σ hS hA => ?_
 clear hS hA
 have hw := wm6 h0 h1
 repeat' first|refine yaG ?_|exact yaF|refine yaS ?_ ?_<;>intro _
 refine Go.keep [0, 1, 7, 8, 9] (Go.loops (I := fun m fr τ => ∃ i : Nat, ∃ k : Int, m = l.length - i /\ i <= l.length /\ k = i /\ zaw n [] l = zaw n (l.take i) (l.drop i) /\
  fr = [(0, .c (.fz (l.map jg))), (1, .c (.int .i64 n)), (7, .c (.fz (l.map jg))), (8, .c (.int .i64 (l.length : Int))), (9, .c (.int .i64 k))] /\ τ = E σ []) ?_ _ _ _ ⟨0, _, rfl, yae _, rfl, rfl, rfl, rfl⟩)
 rintro m fr τ ⟨i, k, rfl, hi, hk, hsl, rfl, rfl⟩ hrec
 by_cases hlt : i < l.length
 ·have hd := yac hlt
  have hbc := hb _ (yab hlt)
  have htk : (l.map jg).take i = (l.take i).map jg := List.map_take.symm
  have hstep : zaw n [] l = (zck n l[i] && !((l.take i).any fun y => y.col == l[i].col) && zaw n (l.take (i + 1)) (l.drop (i + 1))) := by
   rw [hsl, hd, zaw, yai hlt]
  have hex := wdx l[i].expr n hbc.1
  rw [wfi h0 h1] at hex
  repeat' first|refine yaG ?_|((first|apply yG|apply yH|apply yI);exact rfl;(first|exact yX (enc := jg) rfl rfl hk hlt rfl))|((first|apply Go.pcallB|apply Go.spcallB|apply Qg.pcallB);(iterate 3 exact rfl);(first|exact jgi _ _ _|exact hex);intro _ _)|exact yaF|refine yaS ?_ ?_<;>intro _
  all_goals try (refine .ret rfl (.bool ?_); rw [jhl, hstep, zck, <- hw]; clear hrec hsl hstep hex; simp_all; done)
  all_goals have hcol : zck n l[i] = true := (by rw [zck, <- hw]; clear hrec hsl hstep hex; simp_all)
  all_goals refine .op rfl (war (n := i) rfl rfl hk (by simp; omega) (fun e he => by obtain ⟨c, _, rfl⟩ := List.mem_map.1 he; rfl)) ?_
  all_goals rw [htk]
  all_goals (repeat' first|(apply yA;exact rfl)|apply yB|apply yC|((first|apply yD|apply yE);(first|exact yF|assumption);iterate 6 exact rfl)|((first|apply yG|apply yH|apply yI);exact rfl;(first|exact yJ|exact yK rfl rfl|exact yL rfl|exact yM rfl|exact rfl|exact aL rfl rfl rfl rfl rfl|exact aS rfl rfl rfl rfl rfl rfl rfl))|((first|apply yN|apply yO|apply yP);exact rfl)|((first|apply Go.pcallB|apply Go.spcallB|apply Qg.pcallB);(iterate 3 exact rfl);exact zj mixed jbc jbp jg (fun c => .agg (jg c)) (fun _ => rfl) (fun _ => rfl) (l.take i) (fun d => d.col == l[i].col) _ [] [.fp (jg l[i])] (by simp;omega) (fun j hj _ => zj8 _ _);intro _ _)|exact yaF|(((first|apply yT|apply yU|apply yV|apply yW);exact rfl;(first|exact .d|exact .e|exact .n|((fail_if_success exact bqt);(fail_if_success exact bqf);exact .b)))<;>intro _))
  all_goals rename_i b9 hb9 hb8
  all_goals first
   |(refine .ret rfl (.bool ?_); rw [jhl, hstep, bT hb9 hb8]; simp)
   |(refine Go.keep [0, 1, 7, 8, 9] (hrec _ _ _ (by omega) ⟨i + 1, _, rfl, hlt, wb hk (by omega), ?_, rfl, rfl⟩); rw [hstep, hcol, bF hb9 hb8]; rfl)
 ·repeat' first|refine yaG ?_|exact yaF|refine yaS ?_ ?_<;>intro _
  refine .ret rfl (.bool ?_)
  rw [jhl, hsl, yad (by omega)]
  rfl
structure Data where
 rows : List RowD
 deriving DecidableEq
def jb (a : Data) : List Ce := [.fz (a.rows.map jc)]
def zbl (N : Nat) (a : Data) : Prop := (a.rows.length <= N /\ ∀ x ∈ a.rows, zel N x)
def zem (a : Data) : Int -> Int := j3 [(szL jbw a.rows)]
theorem zgt (a : Data) : jc9 [(szL jbw a.rows)] := (.cons (fun l h => jaf jbe _ l h) .nil)
theorem wfj (a : Data) (l : Int) (h : 0 <= l) : zem a l <= l := wa5 (zgt a) l h
theorem zms (a : Data) (l : Int) (N : Nat) (h0 : 0 <= l) (h : 0 <= zem a l) (hl : l <= N) : zbl N a := by
 have hh := jam (zgt a) l h0 h
 obtain ⟨q0, u0, v0, w0⟩ := hh (szL jbw a.rows) (by simp)
 exact (wa2 jbe zkm u0 w0 (by omega))
theorem zlu (a : Data) (left : Int) (hb : zbl 1125899906842624 a) (h0 : 0 <= left) (h1 : left <= 34359738368) : Pure Tryz.prog 40 [.agg (jb a), .c (.int .i64 left)] (.c (.int .i64 (zem a left))) := by
 refine Pure.run mixed jez (yaa rfl) fun σ hS hA => ?_
 clear hS hA
 repeat' first|refine yaG ?_|fail
 refine .pcall rfl rfl rfl (jhs a.rows left hb.1 hb.2 (by omega) (by omega)) ?_
 have y1 := jaf jbe a.rows left (by omega)
 generalize e1 : szL jbw a.rows left = l1 at y1 ⊢
 repeat' first|refine yaG ?_|exact yaF|refine yaS ?_ ?_<;>intro _
 ·refine .ret rfl (.int ?_)
  rename_i h
  simp only [zem, j3, e1, if_pos h]
 rename_i g1
 refine .ret rfl (.int ?_)
 simp only [zem, j3, e1, if_neg g1]
theorem wk1 (xs : List Data) (left : Int) (hx : xs.length <= 1125899906842624) (hv : ∀ e ∈ xs, zbl 1125899906842624 e) (h0 : 0 <= left) (h1 : left <= 34359738368) : Pure Tryz.prog 9 [.c (.fz (xs.map jb)), .c (.int .i64 left)] (.c (.int .i64 (szL zem xs left))) :=
 wcx mixed jd6 jb zem xs left hx h0 h1 (fun _ => rfl) wfj fun a ha l h2 h3 => zlu a l (hv a ha) h2 (by omega)
theorem jlu (a : Data) (hb : zbl 34359738368 a) (σ : wa) : Ok Tryz.prog 46 [.agg (jb a)] σ (NewL σ (jb a)) := by
 refine Ok.run mixed ze0 (yaa rfl) fun hS hA => ?_
 clear hS hA
 repeat' first|refine yaG ?_|exact yaF|refine yaS ?_ ?_<;>intro _
 refine Go.call _ rfl rfl rfl (whs a.rows hb.1 hb.2 _) ?_
 rintro r σ0 ⟨x0, m0, rfl, rfl, t0, h0⟩
 rw [E_E] at h0 ⊢
 have t0 := zav t0
 have h0 := h0.new2
 repeat' first|refine yaG ?_|exact yaF|refine yaS ?_ ?_<;>intro _
 have hL : HasL (E σ ((0, [[x0]]) :: (0, [[x0]]) :: ([] ++ m0))) (fun a => σ.next + 2 <= a /\ a < σ.next + 2 + ([] ++ m0).length) (jb a) [x0] := by
  refine HasL.mono ?_ (HasL.two (h0 _ _) (HasL.nil (S := fun a => a < 0)) (fun a ha hb => by (try dsimp only at ha hb); (try simp only [List.append_eq, List.length_append, List.length_nil, List.nil_append] at ha hb); omega))
  intro a ha
  (try dsimp only at ha)
  (try simp only [List.append_eq, List.length_append, List.length_nil, List.nil_append] at ha ⊢)
  omega
 have hT := hL.tidy (n := σ.next) fun a ha => by have := ha.1; omega
 have hM : wat σ.next ([] ++ m0) := (waf (fun b hb => by simp at hb) t0)
 have hN : NewL σ (jb a) (.agg [x0]) (E σ ((0, [[x0]]) :: (0, [[x0]]) :: ([] ++ m0))) := by
  refine ⟨_, _, rfl, rfl, .one hT (.one hT hM), hL.mono ?_⟩
  intro a ha
  have h9 := ha.1
  have h8 := ha.2
  (try simp only [wx, List.length_cons, List.append_eq, List.length_append, List.length_nil, List.nil_append] at h8 ⊢)
  constructor <;> omega
 exact .ret (jaz rfl rfl rfl (yaa rfl) rfl) hN
theorem jem (xs : List Data) (hx : xs.length <= 34359738368) (hv : ∀ e ∈ xs, zbl 34359738368 e) (σ : wa) : Ok Tryz.prog 12 [.c (.fz (xs.map jb))] σ (New σ (.fz (xs.map jb))) :=
 jcx mixed wd6 jb xs hx (by decide) rfl (fun _ => rfl) (by intro x hx; simp only [List.mem_cons, List.not_mem_nil, or_false] at hx; rcases hx with rfl <;> constructor) (fun a ha σ => jlu a (hv a ha) σ) σ
theorem jms (a b : Data) : (a == b) = (a.rows == b.rows) := by
 obtain ⟨a0⟩ := a
 obtain ⟨b0⟩ := b
 rw [ybc]
 simp [and_assoc]
theorem wlu (a b : Data) (hb : zbl 34359738368 a) : Pure Tryz.prog 52 [.agg (jb a), .agg (jb b)] (.c (.bool (a == b))) := by
 refine Pure.run mixed je0 (yaa rfl) fun σ hS hA => ?_
 clear hS hA
 have hq := jms a b
 repeat' first|refine yaG ?_|((first|apply Go.pcallB|apply Go.spcallB|apply Qg.pcallB);(iterate 3 exact rfl);exact zht a.rows b.rows hb.1 hb.2;intro _ _)|exact yaF|refine yaS ?_ ?_<;>intro _
 all_goals refine .ret rfl (.bool ?_)
 all_goals rw [hq]
 all_goals clear hq hb
 all_goals simp_all
theorem wa3 (xs ys : List Data) (hx : xs.length <= 34359738368) (hv : ∀ e ∈ xs, zbl 34359738368 e) : Pure Tryz.prog 14 [.c (.fz (xs.map jb)), .c (.fz (ys.map jb))] (.c (.bool (xs == ys))) :=
 wdf mixed zd7 jb xs ys hx (fun _ => rfl) fun a ha b => wlu a b (hv a ha)
def wbq (p : Option Int) (n : Int) : Bool := match p with | none => true | some q => decide (q < n)
def jck (t : zd) (p : Option Int) (r : RowD) : Bool := isIn r.id 1 1000000000 && (wbq p r.id && fitF t r.vals)
def jaw (t : zd) : Option Int -> List RowD -> Bool
 | _, [] => true
 | p, r :: l => jck t p r && jaw t (some r.id) l
def jgt (t : zd) (l : List RowD) : Bool := jaw t none l && decide ((l.length : Int) <= 60)
def wgt : List zd -> List Data -> Bool
 | t :: s, d :: db => jgt t d.rows && wgt s db
 | _, _ => true
def dbF (s : List zd) (db : List Data) : Bool := ww s && (decide ((db.length : Int) = s.length) && wgt s db)
theorem zk2 (t : zd) (l : List RowD) (hx : l.length <= 34359738368) (hb : ∀ r ∈ l, r.vals.length <= 34359738368) : Pure Tryz.prog 120 [.agg (ja t), .c (.fz (l.map jc))] (.c (.bool (jgt t l))) := by
 refine Pure.run mixed web (yaa rfl) fun σ hS hA => ?_
 clear hS hA
 repeat' first|refine yaG ?_|exact yaF|refine yaS ?_ ?_<;>intro _
 refine Go.keep [1, 2, 7, 8, 9] (Go.loops (I := fun m fr τ => ∃ (i : Nat) (k : Int) (p : Option Int), m = l.length - i /\ i <= l.length /\ k = i /\ (jaw t none l = jaw t p (l.drop i) /\ ((i = 0 /\ p = none) \/ ∃ j, ∃ hj : j < l.length, i = j + 1 /\ p = some l[j].id)) /\
  fr = [(1, .c (.fz (l.map jc))), (2, .c (.fp (ja t))), (7, .c (.fz (l.map jc))), (8, .c (.int .i64 (l.length : Int))), (9, .c (.int .i64 k))] /\ τ = E σ []) ?_ _ _ _ ⟨0, _, none, rfl, yae _, rfl, ⟨rfl, .inl ⟨rfl, rfl⟩⟩, rfl, rfl⟩)
 rintro m fr τ ⟨i, k, p, rfl, hi, hk, ⟨hs, hp⟩, rfl, rfl⟩ hrec
 by_cases hlt : i < l.length
 ·have hv := hb _ (yab hlt)
  rw [yac hlt, jaw] at hs
  rcases hp with ⟨rfl, rfl⟩ | ⟨j, hj, rfl, rfl⟩
  ·repeat' first|refine yaG ?_|((first|apply yG|apply yH|apply yI);exact rfl;(first|exact yX (enc := jc) rfl rfl hk hlt rfl))|((first|apply Go.pcallB|apply Go.spcallB|apply Qg.pcallB);(iterate 3 exact rfl);(first|exact jgi _ _ _|exact wlt t l[0].vals hv);intro _ _)|exact yaF|refine yaS ?_ ?_<;>intro _
   all_goals first
    |(refine .ret rfl (.bool ?_); clear hrec; rw [jgt, hs, jck, wbq]; clear hs; simp_all; done)
    |(refine Go.keep [1, 2, 7, 8, 9] (hrec _ _ _ (by omega) ⟨0 + 1, _, some l[0].id, rfl, hlt, wb hk (by omega), ⟨?_, .inr ⟨0, hlt, rfl, rfl⟩⟩, rfl, rfl⟩); clear hrec; rw [hs, jck, wbq]; clear hs; simp_all; done)
  ·repeat' first|refine yaG ?_|((first|apply yG|apply yH|apply yI);exact rfl;(first|exact yX (enc := jc) rfl rfl hk hlt rfl|exact yX (enc := jc) rfl rfl (jiy hk (by omega)) hj rfl))|((first|apply Go.pcallB|apply Go.spcallB|apply Qg.pcallB);(iterate 3 exact rfl);(first|exact jgi _ _ _|exact wlt t l[j + 1].vals hv);intro _ _)|exact yaF|refine yaS ?_ ?_<;>intro _
   all_goals first
    |(refine .ret rfl (.bool ?_); clear hrec; rw [jgt, hs, jck, wbq]; clear hs; (simp_all <;> intros <;> omega); done)
    |(refine Go.keep [1, 2, 7, 8, 9] (hrec _ _ _ (by omega) ⟨j + 1 + 1, _, some l[j + 1].id, rfl, hlt, wb hk (by omega), ⟨?_, .inr ⟨j + 1, hlt, rfl, rfl⟩⟩, rfl, rfl⟩); clear hrec; rw [hs, jck, wbq]; clear hs; (simp_all <;> intros <;> omega); done)
 ·repeat' first|refine yaG ?_|exact yaF|refine yaS ?_ ?_<;>intro _
  refine .ret rfl (.bool ?_)
  rw [jgt, hs, yad (by omega)]
  simp [jaw]
theorem znk (s : List zd) (db : List Data) (hx : s.length <= 34359738368) (hb : ∀ t ∈ s, zac 34359738368 t) (hd : db.length <= 34359738368) (hdb : ∀ d ∈ db, zbl 34359738368 d) : Pure Tryz.prog 47 [.c (.fz (s.map ja)), .c (.fz (db.map jb))] (.c (.bool (dbF s db))) := by
 refine Pure.run mixed jg6 (yaa rfl) fun σ hS hA => ?_
 clear hS hA
 have c1 := wdb s hx hb
 cases hs : ww s
 ·rw [hs] at c1
  repeat' first|refine yaG ?_|refine yaC (c1) ?_|exact yaF|refine yaS ?_ ?_<;>intro _
  refine .ret rfl (.bool ?_)
  rw [dbF, hs]
  rfl
 rw [hs] at c1
 repeat' first|refine yaG ?_|refine yaC (c1) ?_|exact yaF|refine yaS ?_ ?_<;>intro _
 ·rename_i h
  refine .ret rfl (.bool ?_)
  rw [dbF, hs, decide_eq_false h]
  rfl
 rename_i hl
 have hl : (db.length : Int) = s.length := by omega
 refine Go.keep [0, 17, 18, 19] (Go.loops (I := fun m fr τ => ∃ (i : Nat) (k : Int), m = db.length - i /\ i <= db.length /\ k = i /\ wgt s db = wgt (s.drop i) (db.drop i) /\
  fr = [(0, .c (.fz (s.map ja))), (17, .c (.fz (db.map jb))), (18, .c (.int .i64 (db.length : Int))), (19, .c (.int .i64 k))] /\ τ = E σ []) ?_ _ _ _ ⟨0, _, rfl, yae _, rfl, rfl, rfl, rfl⟩)
 rintro m fr τ ⟨i, k, rfl, hi, hk, hsl, rfl, rfl⟩ hrec
 clear c1
 by_cases hlt : i < db.length
 ·have hlt2 : i < s.length := by omega
  have hbd := hdb _ (yab hlt)
  rw [yac hlt, yac hlt2, wgt] at hsl
  repeat' first|refine yaG ?_|((first|apply yG|apply yH|apply yI);exact rfl;(first|exact yX (enc := jb) rfl rfl hk hlt rfl|exact yX (enc := ja) rfl rfl hk hlt2 rfl))|((first|apply Go.pcallB|apply Go.spcallB|apply Qg.pcallB);(iterate 3 exact rfl);exact zk2 s[i] db[i].rows hbd.1 (fun r hr => (hbd.2 r hr).1);intro _ _)|exact yaF|refine yaS ?_ ?_<;>intro _
  ·rename_i b p h
   refine .ret rfl (.bool ?_)
   rw [dbF, hsl, nbT p h]
   simp
  ·rename_i b p h
   refine Go.keep [0, 17, 18, 19] (hrec _ _ _ (by omega) ⟨i + 1, _, rfl, hlt, wb hk (by omega), ?_, rfl, rfl⟩)
   rw [hsl, nbF p h, yay]
 ·repeat' first|refine yaG ?_|exact yaF|refine yaS ?_ ?_<;>intro _
  refine .ret rfl (.bool ?_)
  rw [dbF, hs, hsl, decide_eq_true hl, show db.drop i = [] from yad (by omega)]
  cases List.drop i s <;> rfl
theorem jnk (s : List zd) (db : List Data) (hx : s.length <= 34359738368) (hd : db.length <= 34359738368) (hdb : ∀ d ∈ db, zbl 34359738368 d) : Pure Tryz.prog 154 [.c (.fz (s.map ja)), .c (.fz (db.map jb))] (.c (.bool (decide ((db.length : Int) = s.length) && wgt s db))) := by
 refine Pure.run mixed zhb (yaa rfl) fun σ hS hA => ?_
 clear hS hA
 repeat' first|refine yaG ?_|exact yaF|refine yaS ?_ ?_<;>intro _
 ·rename_i h
  refine .ret rfl (.bool ?_)
  rw [decide_eq_false h]
  rfl
 rename_i hl
 have hl : (db.length : Int) = s.length := by omega
 refine Go.keep [0, 1, 5] (Go.loops (I := fun m fr τ => ∃ (i : Nat) (k : Int), m = db.length - i /\ i <= db.length /\ k = i /\ wgt s db = wgt (s.drop i) (db.drop i) /\
  fr = [(0, .c (.fz (s.map ja))), (1, .c (.fz (db.map jb))), (5, .c (.int .i64 k))] /\ τ = E σ []) ?_ _ _ _ ⟨0, _, rfl, yae _, rfl, rfl, rfl, rfl⟩)
 rintro m fr τ ⟨i, k, rfl, hi, hk, hsl, rfl, rfl⟩ hrec
 by_cases hlt : i < db.length
 ·have hlt2 : i < s.length := by omega
  have hbd := hdb _ (yab hlt)
  rw [yac hlt, yac hlt2, wgt, jgt] at hsl
  obtain ⟨l, hle⟩ : ∃ l, db[i].rows = l := ⟨_, rfl⟩
  have hrl : l.length <= 34359738368 := by rw [<- hle]; exact hbd.1
  have hrv : ∀ r ∈ l, r.vals.length <= 34359738368 := by rw [<- hle]; exact fun r hr => (hbd.2 r hr).1
  repeat' first|refine yaG ?_|((first|apply yG|apply yH|apply yI);exact rfl;(first|exact yX (enc := jb) rfl rfl hk hlt rfl))|exact yaF|refine yaS ?_ ?_<;>intro _
  rw [hle] at hsl ⊢
  refine Go.keep [0, 1, 5, 6, 7] (Go.loops (I := fun m fr τ => ∃ (j : Nat) (q : Int) (p : Option Int), m = l.length - j /\ j <= l.length /\ q = j /\ (jaw s[i] none l = jaw s[i] p (l.drop j) /\ ((j = 0 /\ p = none) \/ ∃ a, ∃ ha : a < l.length, j = a + 1 /\ p = some l[a].id)) /\
   fr = [(0, .c (.fz (s.map ja))), (1, .c (.fz (db.map jb))), (5, .c (.int .i64 k)), (6, .c (.fz (l.map jc))), (7, .c (.int .i64 q))] /\ τ = E σ []) ?_ _ _ _ ⟨0, _, none, rfl, yae _, rfl, ⟨rfl, .inl ⟨rfl, rfl⟩⟩, rfl, rfl⟩)
  rintro m fr τ ⟨j, q, p, rfl, hj, hq, ⟨hs2, hp⟩, rfl, rfl⟩ hrec2
  by_cases hlj : j < l.length
  ·have hv := hrv _ (yab hlj)
   rw [yac hlj, jaw] at hs2
   clear hrec
   rcases hp with ⟨rfl, rfl⟩ | ⟨a, ha, rfl, rfl⟩
   ·repeat' first|refine yaG ?_|((first|apply yG|apply yH|apply yI);exact rfl;(first|exact yX (enc := jc) rfl rfl hq hlj rfl|exact yX (enc := ja) rfl rfl hk hlt2 rfl))|((first|apply Go.pcallB|apply Go.spcallB|apply Qg.pcallB);(iterate 3 exact rfl);(first|exact wau _ _ _|exact wel s[i] l[0].vals hv);intro _ _)|exact yaF|refine yaS ?_ ?_<;>intro _
    all_goals first
     |(refine .ret rfl (.bool ?_); clear hrec2; rw [hsl, hs2, jck, wbq]; clear hs2 hsl; simp_all; done)
     |(refine Go.keep [0, 1, 5, 6, 7] (hrec2 _ _ _ (by omega) ⟨0 + 1, _, some l[0].id, rfl, hlj, wb hq (by omega), ⟨?_, .inr ⟨0, hlj, rfl, rfl⟩⟩, rfl, rfl⟩); clear hrec2; rw [hs2, jck, wbq]; clear hs2 hsl; simp_all; done)
   ·repeat' first|refine yaG ?_|((first|apply yG|apply yH|apply yI);exact rfl;(first|exact yX (enc := jc) rfl rfl hq hlj rfl|exact yX (enc := jc) rfl rfl (jiy hq (by omega)) ha rfl|exact yX (enc := ja) rfl rfl hk hlt2 rfl))|((first|apply Go.pcallB|apply Go.spcallB|apply Qg.pcallB);(iterate 3 exact rfl);(first|exact wau _ _ _|exact wel s[i] l[a + 1].vals hv);intro _ _)|exact yaF|refine yaS ?_ ?_<;>intro _
    all_goals first
     |(refine .ret rfl (.bool ?_); clear hrec2; rw [hsl, hs2, jck, wbq]; clear hs2 hsl; (simp_all <;> intros <;> omega); done)
     |(refine Go.keep [0, 1, 5, 6, 7] (hrec2 _ _ _ (by omega) ⟨a + 1 + 1, _, some l[a + 1].id, rfl, hlj, wb hq (by omega), ⟨?_, .inr ⟨a + 1, hlj, rfl, rfl⟩⟩, rfl, rfl⟩); clear hrec2; rw [hs2, jck, wbq]; clear hs2 hsl; (simp_all <;> intros <;> omega); done)
  ·clear hrec2
   rw [yad (by omega), jaw] at hs2
   repeat' first|refine yaG ?_|exact yaF|refine yaS ?_ ?_<;>intro _
   ·rename_i h
    refine .ret rfl (.bool ?_)
    rw [hsl, hs2, decide_eq_false (p := (l.length : Int) <= 60) (by omega)]
    simp
   ·rename_i h
    refine Go.keep [0, 1, 5] (hrec _ _ _ (by omega) ⟨i + 1, _, rfl, hlt, wb hk (by omega), ?_, rfl, rfl⟩)
    rw [hsl, hs2, decide_eq_true (p := (l.length : Int) <= 60) (by omega)]
    rfl
 ·repeat' first|refine yaG ?_|exact yaF|refine yaS ?_ ?_<;>intro _
  refine .ret rfl (.bool ?_)
  rw [hsl, decide_eq_true hl, show db.drop i = [] from yad (by omega)]
  cases List.drop i s <;> rfl
theorem wms (s : List zd) (db : List Data) (hx : s.length <= 34359738368) (hb : ∀ t ∈ s, zac 34359738368 t) (hd : db.length <= 34359738368) (hdb : ∀ d ∈ db, zbl 34359738368 d) : Pure Tryz.prog 78 [.c (.fz (s.map ja)), .c (.fz (db.map jb))] (.c (.bool (dbF s db))) := by
 refine Pure.run mixed zg8 (yaa rfl) fun σ hS hA => ?_
 clear hS hA
 have c1 := zji s hx hb
 have c2 := jnk s db hx hd hdb
 rw [dbF]
 generalize (decide ((db.length : Int) = s.length) && wgt s db) = B at c2 ⊢
 cases hs : ww s
 ·rw [hs] at c1
  repeat' first|refine yaG ?_|refine yaC (c1) ?_|exact yaF|refine yaS ?_ ?_<;>intro _
  exact .ret rfl (.bool rfl)
 ·rw [hs] at c1
  repeat' first|refine yaG ?_|refine yaC (c1) ?_|refine yaC (c2) ?_|exact yaF|refine yaS ?_ ?_<;>intro _
  exact .ret rfl (.bool rfl)
theorem jji {s : List zd} {db : List Data} (h : dbF s db = true) : ww s = true /\ db.length = s.length /\ ∀ i (hi : i < s.length) (hi2 : i < db.length), jgt s[i] db[i].rows = true := by
 simp only [dbF, Bool.and_eq_true, decide_eq_true_eq] at h
 obtain ⟨h1, h2, h3⟩ := h
 refine ⟨h1, by omega, ?_⟩
 clear h1 h2
 induction s generalizing db with
 | nil => intro i hi; simp at hi
 | cons t s ih =>
  cases db with
  | nil => intro i _ hi; simp at hi
  | cons d db =>
   rw [wgt, yat] at h3
   intro i hi hi2
   cases i with
   | zero => exact h3.1
   | succ i => exact ih h3.2 i (by simpa using hi) (by simpa using hi2)
theorem zgu {t : zd} : ∀ {l : List RowD} {p : Option Int}, jaw t p l = true -> ∀ r ∈ l, fitF t r.vals = true /\ isIn r.id 1 1000000000 = true
 | [], _, _, r, hr => by simp at hr
 | a :: l, p, h, r, hr => by
  simp only [jaw, jck, Bool.and_eq_true] at h
  rcases List.mem_cons.1 hr with rfl | hr
  ·exact ⟨h.1.2.2, h.1.1⟩
  ·exact zgu h.2 r hr
theorem wji {t : zd} {l : List RowD} (h : jgt t l = true) : l.length <= 60 /\ ∀ r ∈ l, fitF t r.vals = true /\ isIn r.id 1 1000000000 = true := by
 simp only [jgt, Bool.and_eq_true, decide_eq_true_eq] at h
 exact ⟨by omega, zgu h.1⟩
theorem zjj {t : zd} : ∀ {l : List Val} {i : Nat}, wcz t i l = true -> ∀ v ∈ l, zr v = true
 | [], _, _, v, hv => by simp at hv
 | a :: l, i, h, v, hv => by
  simp only [wcz, jgn, Bool.and_eq_true] at h
  rcases List.mem_cons.1 hv with rfl | hv
  ·exact h.1.1
  ·exact zjj h.2 v hv
theorem wck {t : zd} {l : List Val} (h : fitF t l = true) : l.length = t.cols.length /\ ∀ v ∈ l, zr v = true := by
 simp only [fitF, Bool.and_eq_true, decide_eq_true_eq] at h
 exact ⟨by omega, zjj h.2⟩
theorem zfk {t : zd} {l : List Val} (h : fitF t l = true) (hc : t.cols.length <= 8) : jq l 16 = true := by
 obtain ⟨h1, h2⟩ := wck h
 simp only [jq, Bool.and_eq_true, decide_eq_true_eq, List.all_eq_true]
 exact ⟨by omega, h2⟩
theorem Has.shape {σ : wa} {S : Nat -> Prop} {ys : List (List Ce)} {x : Ce} (h : Has σ S (.fz ys) x) {i : Nat} (hi : i < ys.length) : ∃ id v c, x = .sl id v 0 ys.length c := by
 obtain ⟨id, v, s, cs, junk, T, rfl, _⟩ := h.open (by omega)
 exact ⟨_, _, _, rfl⟩
theorem Has.wr {σ : wa} {S : Nat -> Prop} {zs : List (List Ce)} {e : List Ce} {id v n c i j : Nat} (h : Has σ S (.fz (zs.set i e)) (.sl id v 0 n c)) (hi : i < zs.length) (hj : j < e.length) :
 ∃ (es : List (List Ce)) (e' : List Ce), σ.get id = some (v, es) /\ es[0 + i]? = some e' /\ e'.length = e.length /\ S id /\
  ∀ z, Flat z -> Has (σ.put id (v, es.set (0 + i) (jh e' (0 + j) [z]))) S (.fz (zs.set i (e.set j z))) (.sl id v 0 n c) /\
   (∀ a, ¬ S a -> (σ.put id (v, es.set (0 + i) (jh e' (0 + j) [z]))).get a = σ.get a) /\ (σ.put id (v, es.set (0 + i) (jh e' (0 + j) [z]))).next = σ.next := by
 have hi' : i < (zs.set i e).length := by simpa using hi
 have hii : (zs.set i e)[i] = e := by simp
 obtain ⟨id1, v1, c1, es, e', hx, hg, he, hel, hS, hw⟩ := h.write (i := i) (j := j) hi' (by rw [hii]; exact hj)
 obtain ⟨rfl, rfl, -⟩ := zkj hx
 refine ⟨es, e', hg, he, by rw [hel, hii], hS, fun z hz => ⟨?_, fun a ha => zgj hS a ha, rfl⟩⟩
 have := hw z hz
 rw [List.set_set, hii] at this
 exact this
theorem Has.ch {σ : wa} {S : Nat -> Prop} {zs : List (List Ce)} {e : List Ce} {y : Ce} {id v n c i j : Nat} (h : Has σ S (.fz (zs.set i e)) (.sl id v 0 n c)) (hi : i < zs.length) (hj : j < e.length) (hy : e[j] = y) :
 ∃ (es : List (List Ce)) (e' : List Ce) (T : Nat -> Prop), σ.get id = some (v, es) /\ es[0 + i]? = some e' /\ e'.length = e.length /\ (∀ a, T a -> S a) /\
  ∃ hj' : j < e'.length, Has σ T y e'[j] /\ ∀ σ' y', (∀ a, ¬ T a -> σ'.get a = σ.get a) -> Has σ' T y' e'[j] -> Has σ' S (.fz (zs.set i (e.set j y'))) (.sl id v 0 n c) := by
 have hi' : i < (zs.set i e).length := by simpa using hi
 have hii : (zs.set i e)[i] = e := by simp
 obtain ⟨id1, v1, c1, es, e', T, hx, hg, he, hel, hTS, hj', hch, hback⟩ := h.child (i := i) (j := j) hi' (by rw [hii]; exact hj)
 obtain ⟨rfl, rfl, -⟩ := zkj hx
 subst hy
 refine ⟨es, e', T, hg, he, by rw [hel, hii], hTS, hj', ?_, fun σ' y' hf hh => ?_⟩
 ·have e0 : (zs.set i e)[i][j]'(by rw [hii]; exact hj) = e[j] := by simp
  rw [<- e0]
  exact hch
 ·have := hback σ' y' hf hh
  rw [List.set_set, hii] at this
  exact this
inductive Cnts : List (Int -> Int) -> Int -> Prop where
 | nil : Cnts [] 0
 | cons {f : Int -> Int} {r : List (Int -> Int)} {c d : Int} (h : ∀ q, 0 <= q -> 0 <= f q -> c <= 8 * (q - f q)) (k : Cnts r d) : Cnts (f :: r) (c + d)
theorem wam {fs : List (Int -> Int)} {c : Int} (h : Cnts fs c) : ∀ l, 0 <= l -> 0 <= j3 fs l -> c <= 8 * (l - j3 fs l) := by
 induction h with
 | nil => intro l _ _; simp only [j3]; omega
 | @cons f r c d h _ ih =>
  intro l hl hc
  simp only [j3] at hc ⊢
  split at hc
  ·omega
  ·rename_i h0
   rw [if_neg h0]
   have := h l hl (by omega)
   have := ih (f l) (by omega) hc
   omega
theorem jgu {α : Type} {g : α -> Int -> Int} {c : α -> Int} (hg : ∀ a l, 0 <= l -> g a l <= l) (hc : ∀ a l, 0 <= l -> 0 <= g a l -> c a <= 8 * (l - g a l) + 8) : ∀ (xs : List α) (left : Int), 0 <= left -> 0 <= wbh g xs left -> cntL c xs <= 8 * (left - wbh g xs left) + 8 * xs.length
 | [], left, h, hs => by simp [wbh, cntL]
 | a :: r, left, h, hs => by
  simp only [wbh] at hs ⊢
  split at hs
  ·omega
  ·rename_i h0
   rw [if_neg h0]
   have h1 := jgu hg hc r (g a left) (by omega) hs
   have h2 := hc a left h (by omega)
   simp only [cntL, List.length_cons]
   omega
theorem jaj {α : Type} {g : α -> Int -> Int} {c : α -> Int} (hg : ∀ a l, 0 <= l -> g a l <= l) (hc : ∀ a l, 0 <= l -> 0 <= g a l -> c a <= 8 * (l - g a l) + 8) (xs : List α) (left : Int) (h : 0 <= left) (hs : 0 <= szL g xs left) : cntL c xs <= 8 * (left - szL g xs left) := by
 simp only [szL] at hs ⊢
 split at hs
 ·omega
 ·rename_i h0
  rw [if_neg h0]
  have := jgu hg hc xs (left - xs.length) (by omega) hs
  omega
theorem zin (s : List UInt8) : ∀ q : Int, 0 <= q -> 0 <= q - s.length -> (0 : Int) <= 8 * (q - (q - s.length)) := fun q _ _ => by omega
theorem jin (xs : List Int) : ∀ q : Int, 0 <= q -> 0 <= zI xs q -> cntL (fun _ => 1) xs <= 8 * (q - zI xs q) := fun q _ h => by
 simp only [zI] at h ⊢
 rw [cnt1]
 split at h
 ·omega
 ·rename_i h0; rw [if_neg h0]; omega
theorem wnk (v : Val) (l : Int) (h : 0 <= l) (hs : 0 <= szV v l) : (3 : Int) <= 8 * (l - szV v l) + 8 := by
 have := jb7 v l h
 omega
def win (a : Tok) (k : Int) : Tok := ⟨k, k + 1, ⟨k + 1 + 1, k + 1 + 1 + 1, wca (k + 1 + 1 + 1 + 1)⟩⟩
def zaa (a : Tok) : Int := 5
theorem jad (a : Tok) : 0 <= zaa a := by
 simp only [zaa]
 omega
theorem wgu (a : Tok) (l : Int) (h : 0 <= l) (hs : 0 <= zTok a l) : zaa a <= 8 * (l - zTok a l) + 8 := by
 have := wam (fs := [(szV a.v)]) (.cons (c := 0) (fun q h hs => by have := jb7 a.v q h; omega) .nil) l h hs
 simp only [zaa]
 simp only [zTok] at hs ⊢
 omega
theorem jdc (xs : List Tok) (k : Int) (hx : xs.length <= 34359738368) (hb : ∀ a ∈ xs, bTok 34359738368 a) (hk0 : 0 <= k) (hk : k + cntL zaa xs <= 34359738368) : zdg Tryz.prog 90 (.fz (xs.map zh)) (.fz ((jx win zaa xs k).map zh)) k (k + cntL zaa xs) := by
 refine zau mixed wdk (yaa rfl) (yaa rfl) zh win zaa jad xs k hx hk0 hk ?_
 intro n0 rets R K σ τ S x i ni ki ys hi fr hn0 hyl hni hki0 hki1 h0 h1 h5 hmem hh hnext
 have hi' : i < (ys.map zh).length := by simpa using hi
 have hyi : (ys.map zh)[i] = zh ys[i] := by simp
 have hb := hb _ hmem
 obtain ⟨id, v, c, rfl⟩ := hh.shape hi'
 have hh : Has τ S (.fz ((ys.map zh).set i (zh ys[i]))) (.sl id v 0 (ys.map zh).length c) := by rw [<- hyi, yaz]; exact hh
 have hfr : ∀ a, ¬ S a -> τ.get a = τ.get a := fun _ _ => rfl
 have hnx : τ.next = τ.next := rfl
 refine .same (zab h0 h1 h5) ?_
 have hset : ∀ q, (ys.set i q).map zh = (ys.map zh).set i (zh q) := fun q => ybk
 simp only [zaa] at hki1
 obtain ⟨es0, e0, hg0, he0, hel0, hS0, hw0⟩ := hh.wr (j := 0) hi' (yaa rfl)
 have hel0 : e0.length = 5 := hel0
 obtain ⟨hh, hf0, hn0⟩ := hw0 (.int .i64 ki) (.int _ _)
 have hfr := fun a (ha : ¬ S a) => (hf0 a ha).trans (hfr a ha)
 have hnx := hn0.trans hnx
 repeat' first|(apply yA;exact rfl)|apply yB|apply yC|((first|apply yG|apply yH|apply yI);exact rfl;(first|exact rfl|exact wd rfl rfl hni hi' hg0 he0 hel0|exact wi rfl rfl hg0 he0 (by omega)))|(apply yN;exact rfl)
 obtain ⟨k0, hk0⟩ : ∃ z, ki + 1 = z := ⟨_, rfl⟩
 rw [show IntKind.i64.wrap (ki + 1) = k0 by rw [jf (by omega) (by omega)]; exact hk0]
 obtain ⟨es1, e1, hg1, he1, hel1, hS1, hw1⟩ := hh.wr (j := 1) hi' (yaa rfl)
 have hel1 : e1.length = 5 := hel1
 obtain ⟨hh, hf1, hn1⟩ := hw1 (.int .i64 k0) (.int _ _)
 have hfr := fun a (ha : ¬ S a) => (hf1 a ha).trans (hfr a ha)
 have hnx := hn1.trans hnx
 repeat' first|(apply yA;exact rfl)|apply yB|apply yC|((first|apply yG|apply yH|apply yI);exact rfl;(first|exact rfl|exact wd rfl rfl hni hi' hg1 he1 hel1|exact wi rfl rfl hg1 he1 (by omega)))|(apply yN;exact rfl)
 obtain ⟨k1, hk1⟩ : ∃ z, k0 + 1 = z := ⟨_, rfl⟩
 rw [show IntKind.i64.wrap (k0 + 1) = k1 by rw [jf (by omega) (by omega)]; exact hk1]
 obtain ⟨es2, e2, hg2, he2, hel2, hS2, hw2⟩ := hh.wr (j := 2) hi' (yaa rfl)
 have hel2 : e2.length = 5 := hel2
 obtain ⟨hh, hf2, hn2⟩ := hw2 (.int .i64 k1) (.int _ _)
 have hfr := fun a (ha : ¬ S a) => (hf2 a ha).trans (hfr a ha)
 have hnx := hn2.trans hnx
 repeat' first|(apply yA;exact rfl)|apply yB|apply yC|((first|apply yG|apply yH|apply yI);exact rfl;(first|exact rfl|exact wd rfl rfl hni hi' hg2 he2 hel2|exact wi rfl rfl hg2 he2 (by omega)))|(apply yN;exact rfl)
 obtain ⟨k2, hk2⟩ : ∃ z, k1 + 1 = z := ⟨_, rfl⟩
 rw [show IntKind.i64.wrap (k1 + 1) = k2 by rw [jf (by omega) (by omega)]; exact hk2]
 obtain ⟨es3, e3, hg3, he3, hel3, hS3, hw3⟩ := hh.wr (j := 3) hi' (yaa rfl)
 have hel3 : e3.length = 5 := hel3
 obtain ⟨hh, hf3, hn3⟩ := hw3 (.int .i64 k2) (.int _ _)
 have hfr := fun a (ha : ¬ S a) => (hf3 a ha).trans (hfr a ha)
 have hnx := hn3.trans hnx
 repeat' first|(apply yA;exact rfl)|apply yB|apply yC|((first|apply yG|apply yH|apply yI);exact rfl;(first|exact rfl|exact wd rfl rfl hni hi' hg3 he3 hel3|exact wi rfl rfl hg3 he3 (by omega)))|(apply yN;exact rfl)
 obtain ⟨k3, hk3⟩ : ∃ z, k2 + 1 = z := ⟨_, rfl⟩
 rw [show IntKind.i64.wrap (k2 + 1) = k3 by rw [jf (by omega) (by omega)]; exact hk3]
 obtain ⟨es4, e4, hg4, he4, hel4, hS4, hw4⟩ := hh.wr (j := 4) hi' (yaa rfl)
 have hel4 : e4.length = 5 := hel4
 obtain ⟨hh, hf4, hn4⟩ := hw4 (.str (wca k3)) (.str _)
 have hfr := fun a (ha : ¬ S a) => (hf4 a ha).trans (hfr a ha)
 have hnx := hn4.trans hnx
 repeat' first|(apply yA;exact rfl)|apply yB|apply yC|((first|apply yG|apply yH|apply yI);exact rfl;(first|exact rfl|exact wd rfl rfl hni hi' hg4 he4 hel4|exact wi rfl rfl hg4 he4 (by omega)))|(apply yN;exact rfl)|((first|apply yQ|apply yR|apply yS);(iterate 3 exact rfl);exact wap _ (by omega))
 obtain ⟨k4, hk4⟩ : ∃ z, k3 + 1 = z := ⟨_, rfl⟩
 rw [show IntKind.i64.wrap (k3 + 1) = k4 by rw [jf (by omega) (by omega)]; exact hk4]
 have hkend : k4 = ki + zaa ys[i] := by simp only [zaa]; omega
 refine hnext _ _ rfl (congrArg (fun z => some (AV.c (Ce.int .i64 z))) hkend) rfl hnx hfr ?_
 rw [hset]
 subst hk0 hk1 hk2 hk3 hk4
 exact hh
def jj8 (a : Chk) (k : Int) : Chk := ⟨jx win zaa a.expr (k)⟩
def wa0 (a : Chk) : Int := 0 + cntL zaa a.expr
theorem jb3 (a : Chk) : 0 <= wa0 a := by
 have := ze (c := zaa) jad a.expr
 simp only [wa0]
 omega
theorem zlv (a : Chk) (l : Int) (h : 0 <= l) (hs : 0 <= zChk a l) : wa0 a <= 8 * (l - zChk a l) + 8 := by
 have := wam (fs := [(szL zTok a.expr)]) (.cons (c := cntL zaa a.expr) (fun q h hs => jaj za3 wgu a.expr q h hs) .nil) l h hs
 simp only [wa0]
 simp only [zChk] at hs ⊢
 omega
theorem wj8 (xs : List Chk) (k : Int) (hx : xs.length <= 34359738368) (hb : ∀ a ∈ xs, bChk 34359738368 a) (hk0 : 0 <= k) (hk : k + cntL wa0 xs <= 34359738368) : zdg Tryz.prog 58 (.fz (xs.map jr)) (.fz ((jx jj8 wa0 xs k).map jr)) k (k + cntL wa0 xs) := by
 refine zau mixed wcs (yaa rfl) (yaa rfl) jr jj8 wa0 jb3 xs k hx hk0 hk ?_
 intro n0 rets R K σ τ S x i ni ki ys hi fr hn0 hyl hni hki0 hki1 h0 h1 h5 hmem hh hnext
 have hi' : i < (ys.map jr).length := by simpa using hi
 have hyi : (ys.map jr)[i] = jr ys[i] := by simp
 have hb := hb _ hmem
 obtain ⟨id, v, c, rfl⟩ := hh.shape hi'
 have hh : Has τ S (.fz ((ys.map jr).set i (jr ys[i]))) (.sl id v 0 (ys.map jr).length c) := by rw [<- hyi, yaz]; exact hh
 have hfr : ∀ a, ¬ S a -> τ.get a = τ.get a := fun _ _ => rfl
 have hnx : τ.next = τ.next := rfl
 refine .same (zab h0 h1 h5) ?_
 have hset : ∀ q, (ys.set i q).map jr = (ys.map jr).set i (jr q) := fun q => ybk
 have hc0 := ze (c := zaa) jad ys[i].expr
 simp only [wa0] at hki1
 obtain ⟨es0, e0, T0, hg0, he0, hel0, hTS0, hj0, hch0, hback0⟩ := hh.ch (j := 0) (y := .fz (ys[i].expr.map zh)) hi' (yaa rfl) rfl
 repeat' first|(apply yA;exact rfl)|apply yB|apply yC|((first|apply yG|apply yH|apply yI);exact rfl;(first|exact rfl|exact wd rfl rfl hni hi' hg0 he0 hel0|exact zo rfl hg0 he0 (show 0 + 0 < e0.length by omega)))|(apply yN;exact rfl)
 refine Go.call _ rfl rfl rfl ((jdc ys[i].expr ki hb.1 hb.2 (by omega) (by omega)).at_ _ T0 _ hch0) ?_
 rintro r τ0 ⟨rfl, hn0, hf0, hhc0⟩
 have hh := hback0 τ0 _ hf0 hhc0
 have hfr := fun a (ha : ¬ S a) => (hf0 a (fun h => ha (hTS0 a h))).trans (hfr a ha)
 have hnx := hn0.trans hnx
 obtain ⟨k0, hk0⟩ : ∃ z, ki + cntL zaa ys[i].expr = z := ⟨_, rfl⟩
 rw [hk0]
 clear hg0 he0 hel0 hch0 hback0 hf0 hn0 hhc0
 repeat' first|(apply yA;exact rfl)|apply yB|apply yC|((first|apply yG|apply yH|apply yI);exact rfl;(first|exact rfl))|(apply yN;exact rfl)
 have hkend : k0 = ki + wa0 ys[i] := by simp only [wa0]; omega
 refine hnext _ _ rfl (congrArg (fun z => some (AV.c (Ce.int .i64 z))) hkend) rfl hnx hfr ?_
 rw [hset]
 subst hk0
 exact hh
def zio (a : Uniq) (k : Int) : Uniq := ⟨jx wli (fun _ => 1) a.cols (k)⟩
def wad (a : Uniq) : Int := 0 + cntL (fun _ => 1) a.cols
theorem zbr (a : Uniq) : 0 <= wad a := by
 have := ze (c := (fun _ => 1)) (fun _ => by decide) a.cols
 simp only [wad]
 omega
theorem jk2 (a : Uniq) (l : Int) (h : 0 <= l) (hs : 0 <= jda a l) : wad a <= 8 * (l - jda a l) + 8 := by
 have := wam (fs := [(zI a.cols)]) (.cons (c := cntL (fun _ => 1) a.cols) (jin a.cols) .nil) l h hs
 simp only [wad]
 simp only [jda] at hs ⊢
 omega
theorem jjj (xs : List Uniq) (k : Int) (hx : xs.length <= 34359738368) (hb : ∀ a ∈ xs, jfg 34359738368 a) (hk0 : 0 <= k) (hk : k + cntL wad xs <= 34359738368) : zdg Tryz.prog 57 (.fz (xs.map jl)) (.fz ((jx zio wad xs k).map jl)) k (k + cntL wad xs) := by
 refine zau mixed zcc (yaa rfl) (yaa rfl) jl zio wad zbr xs k hx hk0 hk ?_
 intro n0 rets R K σ τ S x i ni ki ys hi fr hn0 hyl hni hki0 hki1 h0 h1 h5 hmem hh hnext
 have hi' : i < (ys.map jl).length := by simpa using hi
 have hyi : (ys.map jl)[i] = jl ys[i] := by simp
 have hb := hb _ hmem
 obtain ⟨id, v, c, rfl⟩ := hh.shape hi'
 have hh : Has τ S (.fz ((ys.map jl).set i (jl ys[i]))) (.sl id v 0 (ys.map jl).length c) := by rw [<- hyi, yaz]; exact hh
 have hfr : ∀ a, ¬ S a -> τ.get a = τ.get a := fun _ _ => rfl
 have hnx : τ.next = τ.next := rfl
 refine .same (zab h0 h1 h5) ?_
 have hset : ∀ q, (ys.set i q).map jl = (ys.map jl).set i (jl q) := fun q => ybk
 have hc0 := ze (c := (fun _ => 1)) (fun _ => by decide) ys[i].cols
 simp only [wad] at hki1
 obtain ⟨es0, e0, T0, hg0, he0, hel0, hTS0, hj0, hch0, hback0⟩ := hh.ch (j := 0) (y := .fz (ys[i].cols.map encI)) hi' (yaa rfl) rfl
 repeat' first|(apply yA;exact rfl)|apply yB|apply yC|((first|apply yG|apply yH|apply yI);exact rfl;(first|exact rfl|exact wd rfl rfl hni hi' hg0 he0 hel0|exact zo rfl hg0 he0 (show 0 + 0 < e0.length by omega)))|(apply yN;exact rfl)
 refine Go.call _ rfl rfl rfl ((jb1 ys[i].cols ki hb  (by omega) (by omega)).at_ _ T0 _ hch0) ?_
 rintro r τ0 ⟨rfl, hn0, hf0, hhc0⟩
 have hh := hback0 τ0 _ hf0 hhc0
 have hfr := fun a (ha : ¬ S a) => (hf0 a (fun h => ha (hTS0 a h))).trans (hfr a ha)
 have hnx := hn0.trans hnx
 obtain ⟨k0, hk0⟩ : ∃ z, ki + cntL (fun _ => 1) ys[i].cols = z := ⟨_, rfl⟩
 rw [hk0]
 clear hg0 he0 hel0 hch0 hback0 hf0 hn0 hhc0
 repeat' first|(apply yA;exact rfl)|apply yB|apply yC|((first|apply yG|apply yH|apply yI);exact rfl;(first|exact rfl))|(apply yN;exact rfl)
 have hkend : k0 = ki + wad ys[i] := by simp only [wad]; omega
 refine hnext _ _ rfl (congrArg (fun z => some (AV.c (Ce.int .i64 z))) hkend) rfl hnx hfr ?_
 rw [hset]
 subst hk0
 exact hh
def jlv (a : Fk) (k : Int) : Fk := ⟨jx wli (fun _ => 1) a.cols (k), wca (k + cntL (fun _ => 1) a.cols), k + cntL (fun _ => 1) a.cols + 1, k + cntL (fun _ => 1) a.cols + 1 + 1, (k + cntL (fun _ => 1) a.cols + 1 + 1 + 1).tmod 3 == 0⟩
def zcl (a : Fk) : Int := 4 + cntL (fun _ => 1) a.cols
theorem jcl (a : Fk) : 0 <= zcl a := by
 have := ze (c := (fun _ => 1)) (fun _ => by decide) a.cols
 simp only [zcl]
 omega
theorem zmt (a : Fk) (l : Int) (h : 0 <= l) (hs : 0 <= zFk a l) : zcl a <= 8 * (l - zFk a l) + 8 := by
 have := wam (fs := [(zI a.cols), (fun l => l - a.table.length)]) (.cons (c := cntL (fun _ => 1) a.cols) (jin a.cols) (.cons (c := 0) (zin a.table) .nil)) l h hs
 simp only [zcl]
 simp only [zFk] at hs ⊢
 omega
theorem wk2 (xs : List Fk) (k : Int) (hx : xs.length <= 34359738368) (hb : ∀ a ∈ xs, bFk 34359738368 a) (hk0 : 0 <= k) (hk : k + cntL zcl xs <= 34359738368) : zdg Tryz.prog 59 (.fz (xs.map jv)) (.fz ((jx jlv zcl xs k).map jv)) k (k + cntL zcl xs) := by
 refine zau mixed wd9 (yaa rfl) (yaa rfl) jv jlv zcl jcl xs k hx hk0 hk ?_
 intro n0 rets R K σ τ S x i ni ki ys hi fr hn0 hyl hni hki0 hki1 h0 h1 h5 hmem hh hnext
 have hi' : i < (ys.map jv).length := by simpa using hi
 have hyi : (ys.map jv)[i] = jv ys[i] := by simp
 have hb := hb _ hmem
 obtain ⟨id, v, c, rfl⟩ := hh.shape hi'
 have hh : Has τ S (.fz ((ys.map jv).set i (jv ys[i]))) (.sl id v 0 (ys.map jv).length c) := by rw [<- hyi, yaz]; exact hh
 have hfr : ∀ a, ¬ S a -> τ.get a = τ.get a := fun _ _ => rfl
 have hnx : τ.next = τ.next := rfl
 refine .same (zab h0 h1 h5) ?_
 have hset : ∀ q, (ys.set i q).map jv = (ys.map jv).set i (jv q) := fun q => ybk
 have hc0 := ze (c := (fun _ => 1)) (fun _ => by decide) ys[i].cols
 simp only [zcl] at hki1
 obtain ⟨es0, e0, T0, hg0, he0, hel0, hTS0, hj0, hch0, hback0⟩ := hh.ch (j := 0) (y := .fz (ys[i].cols.map encI)) hi' (yaa rfl) rfl
 repeat' first|(apply yA;exact rfl)|apply yB|apply yC|((first|apply yG|apply yH|apply yI);exact rfl;(first|exact rfl|exact wd rfl rfl hni hi' hg0 he0 hel0|exact zo rfl hg0 he0 (show 0 + 0 < e0.length by omega)))|(apply yN;exact rfl)
 refine Go.call _ rfl rfl rfl ((jb1 ys[i].cols ki hb.1  (by omega) (by omega)).at_ _ T0 _ hch0) ?_
 rintro r τ0 ⟨rfl, hn0, hf0, hhc0⟩
 have hh := hback0 τ0 _ hf0 hhc0
 have hfr := fun a (ha : ¬ S a) => (hf0 a (fun h => ha (hTS0 a h))).trans (hfr a ha)
 have hnx := hn0.trans hnx
 obtain ⟨k0, hk0⟩ : ∃ z, ki + cntL (fun _ => 1) ys[i].cols = z := ⟨_, rfl⟩
 rw [hk0]
 clear hg0 he0 hel0 hch0 hback0 hf0 hn0 hhc0
 obtain ⟨es1, e1, hg1, he1, hel1, hS1, hw1⟩ := hh.wr (j := 1) hi' (yaa rfl)
 have hel1 : e1.length = 5 := hel1
 obtain ⟨hh, hf1, hn1⟩ := hw1 (.str (wca k0)) (.str _)
 have hfr := fun a (ha : ¬ S a) => (hf1 a ha).trans (hfr a ha)
 have hnx := hn1.trans hnx
 repeat' first|(apply yA;exact rfl)|apply yB|apply yC|((first|apply yG|apply yH|apply yI);exact rfl;(first|exact rfl|exact wd rfl rfl hni hi' hg1 he1 hel1|exact wi rfl rfl hg1 he1 (by omega)))|(apply yN;exact rfl)|((first|apply yQ|apply yR|apply yS);(iterate 3 exact rfl);exact wap _ (by omega))
 obtain ⟨k1, hk1⟩ : ∃ z, k0 + 1 = z := ⟨_, rfl⟩
 rw [show IntKind.i64.wrap (k0 + 1) = k1 by rw [jf (by omega) (by omega)]; exact hk1]
 obtain ⟨es2, e2, hg2, he2, hel2, hS2, hw2⟩ := hh.wr (j := 2) hi' (yaa rfl)
 have hel2 : e2.length = 5 := hel2
 obtain ⟨hh, hf2, hn2⟩ := hw2 (.int .i64 k1) (.int _ _)
 have hfr := fun a (ha : ¬ S a) => (hf2 a ha).trans (hfr a ha)
 have hnx := hn2.trans hnx
 repeat' first|(apply yA;exact rfl)|apply yB|apply yC|((first|apply yG|apply yH|apply yI);exact rfl;(first|exact rfl|exact wd rfl rfl hni hi' hg2 he2 hel2|exact wi rfl rfl hg2 he2 (by omega)))|(apply yN;exact rfl)
 obtain ⟨k2, hk2⟩ : ∃ z, k1 + 1 = z := ⟨_, rfl⟩
 rw [show IntKind.i64.wrap (k1 + 1) = k2 by rw [jf (by omega) (by omega)]; exact hk2]
 obtain ⟨es3, e3, hg3, he3, hel3, hS3, hw3⟩ := hh.wr (j := 3) hi' (yaa rfl)
 have hel3 : e3.length = 5 := hel3
 obtain ⟨hh, hf3, hn3⟩ := hw3 (.int .i64 k2) (.int _ _)
 have hfr := fun a (ha : ¬ S a) => (hf3 a ha).trans (hfr a ha)
 have hnx := hn3.trans hnx
 repeat' first|(apply yA;exact rfl)|apply yB|apply yC|((first|apply yG|apply yH|apply yI);exact rfl;(first|exact rfl|exact wd rfl rfl hni hi' hg3 he3 hel3|exact wi rfl rfl hg3 he3 (by omega)))|(apply yN;exact rfl)
 obtain ⟨k3, hk3⟩ : ∃ z, k2 + 1 = z := ⟨_, rfl⟩
 rw [show IntKind.i64.wrap (k2 + 1) = k3 by rw [jf (by omega) (by omega)]; exact hk3]
 obtain ⟨es4, e4, hg4, he4, hel4, hS4, hw4⟩ := hh.wr (j := 4) hi' (yaa rfl)
 have hel4 : e4.length = 5 := hel4
 obtain ⟨hh, hf4, hn4⟩ := hw4 (.bool ((k3).tmod 3 == 0)) (.bool _)
 have hfr := fun a (ha : ¬ S a) => (hf4 a ha).trans (hfr a ha)
 have hnx := hn4.trans hnx
 repeat' first|(apply yA;exact rfl)|apply yB|apply yC|((first|apply yG|apply yH|apply yI);exact rfl;(first|exact rfl|exact wd rfl rfl hni hi' hg4 he4 hel4|exact wi rfl rfl hg4 he4 (by omega)|exact wgi rfl rfl (by decide)))|(apply yN;exact rfl)
 obtain ⟨k4, hk4⟩ : ∃ z, k3 + 1 = z := ⟨_, rfl⟩
 rw [show IntKind.i64.wrap (k3 + 1) = k4 by rw [jf (by omega) (by omega)]; exact hk4]
 have hkend : k4 = ki + zcl ys[i] := by simp only [zcl]; omega
 refine hnext _ _ rfl (congrArg (fun z => some (AV.c (Ce.int .i64 z))) hkend) rfl hnx hfr ?_
 rw [hset]
 subst hk0 hk1 hk2 hk3 hk4
 exact hh
def zj9 (a : Col) (k : Int) : Col := ⟨wca (k), k + 1, (k + 1 + 1).tmod 3 == 0, ⟨k + 1 + 1 + 1, k + 1 + 1 + 1 + 1, wca (k + 1 + 1 + 1 + 1 + 1)⟩⟩
def zan (a : Col) : Int := 6
theorem wb3 (a : Col) : 0 <= zan a := by
 simp only [zan]
 omega
theorem wlv (a : Col) (l : Int) (h : 0 <= l) (hs : 0 <= zCol a l) : zan a <= 8 * (l - zCol a l) + 8 := by
 have := wam (fs := [(fun l => l - a.name.length), (szV a.dflt)]) (.cons (c := 0) (zin a.name) (.cons (c := 0) (fun q h hs => by have := jb7 a.dflt q h; omega) .nil)) l h hs
 simp only [zan]
 simp only [zCol] at hs ⊢
 omega
theorem jj9 (xs : List Col) (k : Int) (hx : xs.length <= 34359738368) (hb : ∀ a ∈ xs, bCol 34359738368 a) (hk0 : 0 <= k) (hk : k + cntL zan xs <= 34359738368) : zdg Tryz.prog 55 (.fz (xs.map zg)) (.fz ((jx zj9 zan xs k).map zg)) k (k + cntL zan xs) := by
 refine zau mixed zdj (yaa rfl) (yaa rfl) zg zj9 zan wb3 xs k hx hk0 hk ?_
 intro n0 rets R K σ τ S x i ni ki ys hi fr hn0 hyl hni hki0 hki1 h0 h1 h5 hmem hh hnext
 have hi' : i < (ys.map zg).length := by simpa using hi
 have hyi : (ys.map zg)[i] = zg ys[i] := by simp
 have hb := hb _ hmem
 obtain ⟨id, v, c, rfl⟩ := hh.shape hi'
 have hh : Has τ S (.fz ((ys.map zg).set i (zg ys[i]))) (.sl id v 0 (ys.map zg).length c) := by rw [<- hyi, yaz]; exact hh
 have hfr : ∀ a, ¬ S a -> τ.get a = τ.get a := fun _ _ => rfl
 have hnx : τ.next = τ.next := rfl
 refine .same (zab h0 h1 h5) ?_
 have hset : ∀ q, (ys.set i q).map zg = (ys.map zg).set i (zg q) := fun q => ybk
 simp only [zan] at hki1
 obtain ⟨es0, e0, hg0, he0, hel0, hS0, hw0⟩ := hh.wr (j := 0) hi' (yaa rfl)
 have hel0 : e0.length = 6 := hel0
 obtain ⟨hh, hf0, hn0⟩ := hw0 (.str (wca ki)) (.str _)
 have hfr := fun a (ha : ¬ S a) => (hf0 a ha).trans (hfr a ha)
 have hnx := hn0.trans hnx
 repeat' first|(apply yA;exact rfl)|apply yB|apply yC|((first|apply yG|apply yH|apply yI);exact rfl;(first|exact rfl|exact wd rfl rfl hni hi' hg0 he0 hel0|exact wi rfl rfl hg0 he0 (by omega)))|(apply yN;exact rfl)|((first|apply yQ|apply yR|apply yS);(iterate 3 exact rfl);exact wap _ (by omega))
 obtain ⟨k0, hk0⟩ : ∃ z, ki + 1 = z := ⟨_, rfl⟩
 rw [show IntKind.i64.wrap (ki + 1) = k0 by rw [jf (by omega) (by omega)]; exact hk0]
 obtain ⟨es1, e1, hg1, he1, hel1, hS1, hw1⟩ := hh.wr (j := 1) hi' (yaa rfl)
 have hel1 : e1.length = 6 := hel1
 obtain ⟨hh, hf1, hn1⟩ := hw1 (.int .i64 k0) (.int _ _)
 have hfr := fun a (ha : ¬ S a) => (hf1 a ha).trans (hfr a ha)
 have hnx := hn1.trans hnx
 repeat' first|(apply yA;exact rfl)|apply yB|apply yC|((first|apply yG|apply yH|apply yI);exact rfl;(first|exact rfl|exact wd rfl rfl hni hi' hg1 he1 hel1|exact wi rfl rfl hg1 he1 (by omega)))|(apply yN;exact rfl)
 obtain ⟨k1, hk1⟩ : ∃ z, k0 + 1 = z := ⟨_, rfl⟩
 rw [show IntKind.i64.wrap (k0 + 1) = k1 by rw [jf (by omega) (by omega)]; exact hk1]
 obtain ⟨es2, e2, hg2, he2, hel2, hS2, hw2⟩ := hh.wr (j := 2) hi' (yaa rfl)
 have hel2 : e2.length = 6 := hel2
 obtain ⟨hh, hf2, hn2⟩ := hw2 (.bool ((k1).tmod 3 == 0)) (.bool _)
 have hfr := fun a (ha : ¬ S a) => (hf2 a ha).trans (hfr a ha)
 have hnx := hn2.trans hnx
 repeat' first|(apply yA;exact rfl)|apply yB|apply yC|((first|apply yG|apply yH|apply yI);exact rfl;(first|exact rfl|exact wd rfl rfl hni hi' hg2 he2 hel2|exact wi rfl rfl hg2 he2 (by omega)|exact wgi rfl rfl (by decide)))|(apply yN;exact rfl)
 obtain ⟨k2, hk2⟩ : ∃ z, k1 + 1 = z := ⟨_, rfl⟩
 rw [show IntKind.i64.wrap (k1 + 1) = k2 by rw [jf (by omega) (by omega)]; exact hk2]
 obtain ⟨es3, e3, hg3, he3, hel3, hS3, hw3⟩ := hh.wr (j := 3) hi' (yaa rfl)
 have hel3 : e3.length = 6 := hel3
 obtain ⟨hh, hf3, hn3⟩ := hw3 (.int .i64 k2) (.int _ _)
 have hfr := fun a (ha : ¬ S a) => (hf3 a ha).trans (hfr a ha)
 have hnx := hn3.trans hnx
 repeat' first|(apply yA;exact rfl)|apply yB|apply yC|((first|apply yG|apply yH|apply yI);exact rfl;(first|exact rfl|exact wd rfl rfl hni hi' hg3 he3 hel3|exact wi rfl rfl hg3 he3 (by omega)))|(apply yN;exact rfl)
 obtain ⟨k3, hk3⟩ : ∃ z, k2 + 1 = z := ⟨_, rfl⟩
 rw [show IntKind.i64.wrap (k2 + 1) = k3 by rw [jf (by omega) (by omega)]; exact hk3]
 obtain ⟨es4, e4, hg4, he4, hel4, hS4, hw4⟩ := hh.wr (j := 4) hi' (yaa rfl)
 have hel4 : e4.length = 6 := hel4
 obtain ⟨hh, hf4, hn4⟩ := hw4 (.int .i64 k3) (.int _ _)
 have hfr := fun a (ha : ¬ S a) => (hf4 a ha).trans (hfr a ha)
 have hnx := hn4.trans hnx
 repeat' first|(apply yA;exact rfl)|apply yB|apply yC|((first|apply yG|apply yH|apply yI);exact rfl;(first|exact rfl|exact wd rfl rfl hni hi' hg4 he4 hel4|exact wi rfl rfl hg4 he4 (by omega)))|(apply yN;exact rfl)
 obtain ⟨k4, hk4⟩ : ∃ z, k3 + 1 = z := ⟨_, rfl⟩
 rw [show IntKind.i64.wrap (k3 + 1) = k4 by rw [jf (by omega) (by omega)]; exact hk4]
 obtain ⟨es5, e5, hg5, he5, hel5, hS5, hw5⟩ := hh.wr (j := 5) hi' (yaa rfl)
 have hel5 : e5.length = 6 := hel5
 obtain ⟨hh, hf5, hn5⟩ := hw5 (.str (wca k4)) (.str _)
 have hfr := fun a (ha : ¬ S a) => (hf5 a ha).trans (hfr a ha)
 have hnx := hn5.trans hnx
 repeat' first|(apply yA;exact rfl)|apply yB|apply yC|((first|apply yG|apply yH|apply yI);exact rfl;(first|exact rfl|exact wd rfl rfl hni hi' hg5 he5 hel5|exact wi rfl rfl hg5 he5 (by omega)))|(apply yN;exact rfl)|((first|apply yQ|apply yR|apply yS);(iterate 3 exact rfl);exact wap _ (by omega))
 obtain ⟨k5, hk5⟩ : ∃ z, k4 + 1 = z := ⟨_, rfl⟩
 rw [show IntKind.i64.wrap (k4 + 1) = k5 by rw [jf (by omega) (by omega)]; exact hk5]
 have hkend : k5 = ki + zan ys[i] := by simp only [zan]; omega
 refine hnext _ _ rfl (congrArg (fun z => some (AV.c (Ce.int .i64 z))) hkend) rfl hnx hfr ?_
 rw [hset]
 subst hk0 hk1 hk2 hk3 hk4 hk5
 exact hh
def zb4 (a : RowD) (k : Int) : RowD := ⟨k, jx wkv (fun _ => 3) a.vals (k + 1)⟩
def wj (a : RowD) : Int := 1 + cntL (fun _ => 3) a.vals
theorem j5 (a : RowD) : 0 <= wj a := by
 have := ze (c := (fun _ => 3)) (fun _ => by decide) a.vals
 simp only [wj]
 omega
theorem wht (a : RowD) (l : Int) (h : 0 <= l) (hs : 0 <= jbw a l) : wj a <= 8 * (l - jbw a l) + 8 := by
 have := wam (fs := [(szL szV a.vals)]) (.cons (c := cntL (fun _ => 3) a.vals) (fun q h hs => jaj jb7 wnk a.vals q h hs) .nil) l h hs
 simp only [wj]
 simp only [jbw] at hs ⊢
 omega
theorem zeu (xs : List RowD) (k : Int) (hx : xs.length <= 34359738368) (hb : ∀ a ∈ xs, zel 34359738368 a) (hk0 : 0 <= k) (hk : k + cntL wj xs <= 34359738368) : zdg Tryz.prog 60 (.fz (xs.map jc)) (.fz ((jx zb4 wj xs k).map jc)) k (k + cntL wj xs) := by
 refine zau mixed wdj (yaa rfl) (yaa rfl) jc zb4 wj j5 xs k hx hk0 hk ?_
 intro n0 rets R K σ τ S x i ni ki ys hi fr hn0 hyl hni hki0 hki1 h0 h1 h5 hmem hh hnext
 have hi' : i < (ys.map jc).length := by simpa using hi
 have hyi : (ys.map jc)[i] = jc ys[i] := by simp
 have hb := hb _ hmem
 obtain ⟨id, v, c, rfl⟩ := hh.shape hi'
 have hh : Has τ S (.fz ((ys.map jc).set i (jc ys[i]))) (.sl id v 0 (ys.map jc).length c) := by rw [<- hyi, yaz]; exact hh
 have hfr : ∀ a, ¬ S a -> τ.get a = τ.get a := fun _ _ => rfl
 have hnx : τ.next = τ.next := rfl
 refine .same (zab h0 h1 h5) ?_
 have hset : ∀ q, (ys.set i q).map jc = (ys.map jc).set i (jc q) := fun q => ybk
 have hc0 := ze (c := (fun _ => 3)) (fun _ => by decide) ys[i].vals
 simp only [wj] at hki1
 obtain ⟨es0, e0, hg0, he0, hel0, hS0, hw0⟩ := hh.wr (j := 0) hi' (yaa rfl)
 have hel0 : e0.length = 2 := hel0
 obtain ⟨hh, hf0, hn0⟩ := hw0 (.int .i64 ki) (.int _ _)
 have hfr := fun a (ha : ¬ S a) => (hf0 a ha).trans (hfr a ha)
 have hnx := hn0.trans hnx
 repeat' first|(apply yA;exact rfl)|apply yB|apply yC|((first|apply yG|apply yH|apply yI);exact rfl;(first|exact rfl|exact wd rfl rfl hni hi' hg0 he0 hel0|exact wi rfl rfl hg0 he0 (by omega)))|(apply yN;exact rfl)
 obtain ⟨k0, hk0⟩ : ∃ z, ki + 1 = z := ⟨_, rfl⟩
 rw [show IntKind.i64.wrap (ki + 1) = k0 by rw [jf (by omega) (by omega)]; exact hk0]
 obtain ⟨es1, e1, T1, hg1, he1, hel1, hTS1, hj1, hch1, hback1⟩ := hh.ch (j := 1) (y := .fz (ys[i].vals.map encV)) hi' (yaa rfl) rfl
 repeat' first|(apply yA;exact rfl)|apply yB|apply yC|((first|apply yG|apply yH|apply yI);exact rfl;(first|exact rfl|exact wd rfl rfl hni hi' hg1 he1 hel1|exact zo rfl hg1 he1 (show 0 + 1 < e1.length by omega)))|(apply yN;exact rfl)
 refine Go.call _ rfl rfl rfl ((wj2 ys[i].vals k0 hb.1 (by omega) (by omega)).at_ _ T1 _ hch1) ?_
 rintro r τ1 ⟨rfl, hn1, hf1, hhc1⟩
 have hh := hback1 τ1 _ hf1 hhc1
 have hfr := fun a (ha : ¬ S a) => (hf1 a (fun h => ha (hTS1 a h))).trans (hfr a ha)
 have hnx := hn1.trans hnx
 obtain ⟨k1, hk1⟩ : ∃ z, k0 + cntL (fun _ => 3) ys[i].vals = z := ⟨_, rfl⟩
 rw [hk1]
 clear hg1 he1 hel1 hch1 hback1 hf1 hn1 hhc1
 repeat' first|(apply yA;exact rfl)|apply yB|apply yC|((first|apply yG|apply yH|apply yI);exact rfl;(first|exact rfl))|(apply yN;exact rfl)
 have hkend : k1 = ki + wj ys[i] := by simp only [wj]; omega
 refine hnext _ _ rfl (congrArg (fun z => some (AV.c (Ce.int .i64 z))) hkend) rfl hnx hfr ?_
 rw [hset]
 subst hk0 hk1
 exact hh
def wa6 (a : Data) (k : Int) : Data := ⟨jx zb4 wj a.rows (k)⟩
def wl (a : Data) : Int := 0 + cntL wj a.rows
theorem jan (a : Data) : 0 <= wl a := by
 have := ze (c := wj) j5 a.rows
 simp only [wl]
 omega
theorem zk3 (a : Data) (l : Int) (h : 0 <= l) (hs : 0 <= zem a l) : wl a <= 8 * (l - zem a l) + 8 := by
 have := wam (fs := [(szL jbw a.rows)]) (.cons (c := cntL wj a.rows) (fun q h hs => jaj jbe wht a.rows q h hs) .nil) l h hs
 simp only [wl]
 simp only [zem] at hs ⊢
 omega
theorem jeu (xs : List Data) (k : Int) (hx : xs.length <= 34359738368) (hb : ∀ a ∈ xs, zbl 34359738368 a) (hk0 : 0 <= k) (hk : k + cntL wl xs <= 34359738368) : zdg Tryz.prog 17 (.fz (xs.map jb)) (.fz ((jx wa6 wl xs k).map jb)) k (k + cntL wl xs) := by
 refine zau mixed jc2 (yaa rfl) (yaa rfl) jb wa6 wl jan xs k hx hk0 hk ?_
 intro n0 rets R K σ τ S x i ni ki ys hi fr hn0 hyl hni hki0 hki1 h0 h1 h5 hmem hh hnext
 have hi' : i < (ys.map jb).length := by simpa using hi
 have hyi : (ys.map jb)[i] = jb ys[i] := by simp
 have hb := hb _ hmem
 obtain ⟨id, v, c, rfl⟩ := hh.shape hi'
 have hh : Has τ S (.fz ((ys.map jb).set i (jb ys[i]))) (.sl id v 0 (ys.map jb).length c) := by rw [<- hyi, yaz]; exact hh
 have hfr : ∀ a, ¬ S a -> τ.get a = τ.get a := fun _ _ => rfl
 have hnx : τ.next = τ.next := rfl
 refine .same (zab h0 h1 h5) ?_
 have hset : ∀ q, (ys.set i q).map jb = (ys.map jb).set i (jb q) := fun q => ybk
 have hc0 := ze (c := wj) j5 ys[i].rows
 simp only [wl] at hki1
 obtain ⟨es0, e0, T0, hg0, he0, hel0, hTS0, hj0, hch0, hback0⟩ := hh.ch (j := 0) (y := .fz (ys[i].rows.map jc)) hi' (yaa rfl) rfl
 repeat' first|(apply yA;exact rfl)|apply yB|apply yC|((first|apply yG|apply yH|apply yI);exact rfl;(first|exact rfl|exact wd rfl rfl hni hi' hg0 he0 hel0|exact zo rfl hg0 he0 (show 0 + 0 < e0.length by omega)))|(apply yN;exact rfl)
 refine Go.call _ rfl rfl rfl ((zeu ys[i].rows ki hb.1 hb.2 (by omega) (by omega)).at_ _ T0 _ hch0) ?_
 rintro r τ0 ⟨rfl, hn0, hf0, hhc0⟩
 have hh := hback0 τ0 _ hf0 hhc0
 have hfr := fun a (ha : ¬ S a) => (hf0 a (fun h => ha (hTS0 a h))).trans (hfr a ha)
 have hnx := hn0.trans hnx
 obtain ⟨k0, hk0⟩ : ∃ z, ki + cntL wj ys[i].rows = z := ⟨_, rfl⟩
 rw [hk0]
 clear hg0 he0 hel0 hch0 hback0 hf0 hn0 hhc0
 repeat' first|(apply yA;exact rfl)|apply yB|apply yC|((first|apply yG|apply yH|apply yI);exact rfl;(first|exact rfl))|(apply yN;exact rfl)
 have hkend : k0 = ki + wl ys[i] := by simp only [wl]; omega
 refine hnext _ _ rfl (congrArg (fun z => some (AV.c (Ce.int .i64 z))) hkend) rfl hnx hfr ?_
 rw [hset]
 subst hk0
 exact hh
def wjj (a : zd) (k : Int) : zd := ⟨wca (k), jx zj9 zan a.cols (k + 1), jx wli (fun _ => 1) a.key (k + 1 + cntL zan a.cols), jx zio wad a.uniques (k + 1 + cntL zan a.cols + cntL (fun _ => 1) a.key), jx jj8 wa0 a.checks (k + 1 + cntL zan a.cols + cntL (fun _ => 1) a.key + cntL wad a.uniques), jx jlv zcl a.fks (k + 1 + cntL zan a.cols + cntL (fun _ => 1) a.key + cntL wad a.uniques + cntL wa0 a.checks)⟩
def waj (a : zd) : Int := 1 + cntL zan a.cols + cntL (fun _ => 1) a.key + cntL wad a.uniques + cntL wa0 a.checks + cntL zcl a.fks
theorem wcl (a : zd) : 0 <= waj a := by
 have := ze (c := zan) wb3 a.cols
 have := ze (c := (fun _ => 1)) (fun _ => by decide) a.key
 have := ze (c := wad) zbr a.uniques
 have := ze (c := wa0) jb3 a.checks
 have := ze (c := zcl) jcl a.fks
 simp only [waj]
 omega
theorem wj9 (a : zd) (l : Int) (h : 0 <= l) (hs : 0 <= za0 a l) : waj a <= 8 * (l - za0 a l) + 8 := by
 have := wam (fs := [(fun l => l - a.name.length), (szL zCol a.cols), (zI a.key), (szL jda a.uniques), (szL zChk a.checks), (szL zFk a.fks)]) (.cons (c := 0) (zin a.name) (.cons (c := cntL zan a.cols) (fun q h hs => jaj jgl wlv a.cols q h hs) (.cons (c := cntL (fun _ => 1) a.key) (jin a.key) (.cons (c := cntL wad a.uniques) (fun q h hs => jaj zdx jk2 a.uniques q h hs) (.cons (c := cntL wa0 a.checks) (fun q h hs => jaj wgk zlv a.checks q h hs) (.cons (c := cntL zcl a.fks) (fun q h hs => jaj jjf zmt a.fks q h hs) .nil)))))) l h hs
 simp only [waj]
 simp only [za0] at hs ⊢
 omega
theorem jio (xs : List zd) (k : Int) (hx : xs.length <= 34359738368) (hb : ∀ a ∈ xs, zac 34359738368 a) (hk0 : 0 <= k) (hk : k + cntL waj xs <= 34359738368) : zdg Tryz.prog 16 (.fz (xs.map ja)) (.fz ((jx wjj waj xs k).map ja)) k (k + cntL waj xs) := by
 refine zau mixed zcs (yaa rfl) (yaa rfl) ja wjj waj wcl xs k hx hk0 hk ?_
 intro n0 rets R K σ τ S x i ni ki ys hi fr hn0 hyl hni hki0 hki1 h0 h1 h5 hmem hh hnext
 have hi' : i < (ys.map ja).length := by simpa using hi
 have hyi : (ys.map ja)[i] = ja ys[i] := by simp
 have hb := hb _ hmem
 obtain ⟨id, v, c, rfl⟩ := hh.shape hi'
 have hh : Has τ S (.fz ((ys.map ja).set i (ja ys[i]))) (.sl id v 0 (ys.map ja).length c) := by rw [<- hyi, yaz]; exact hh
 have hfr : ∀ a, ¬ S a -> τ.get a = τ.get a := fun _ _ => rfl
 have hnx : τ.next = τ.next := rfl
 refine .same (zab h0 h1 h5) ?_
 have hset : ∀ q, (ys.set i q).map ja = (ys.map ja).set i (ja q) := fun q => ybk
 have hc0 := ze (c := zan) wb3 ys[i].cols
 have hc1 := ze (c := (fun _ => 1)) (fun _ => by decide) ys[i].key
 have hc2 := ze (c := wad) zbr ys[i].uniques
 have hc3 := ze (c := wa0) jb3 ys[i].checks
 have hc4 := ze (c := zcl) jcl ys[i].fks
 simp only [waj] at hki1
 obtain ⟨es0, e0, hg0, he0, hel0, hS0, hw0⟩ := hh.wr (j := 0) hi' (yaa rfl)
 have hel0 : e0.length = 6 := hel0
 obtain ⟨hh, hf0, hn0⟩ := hw0 (.str (wca ki)) (.str _)
 have hfr := fun a (ha : ¬ S a) => (hf0 a ha).trans (hfr a ha)
 have hnx := hn0.trans hnx
 repeat' first|(apply yA;exact rfl)|apply yB|apply yC|((first|apply yG|apply yH|apply yI);exact rfl;(first|exact rfl|exact wd rfl rfl hni hi' hg0 he0 hel0|exact wi rfl rfl hg0 he0 (by omega)))|(apply yN;exact rfl)|((first|apply yQ|apply yR|apply yS);(iterate 3 exact rfl);exact wap _ (by omega))
 obtain ⟨k0, hk0⟩ : ∃ z, ki + 1 = z := ⟨_, rfl⟩
 rw [show IntKind.i64.wrap (ki + 1) = k0 by rw [jf (by omega) (by omega)]; exact hk0]
 obtain ⟨es1, e1, T1, hg1, he1, hel1, hTS1, hj1, hch1, hback1⟩ := hh.ch (j := 1) (y := .fz (ys[i].cols.map zg)) hi' (yaa rfl) rfl
 repeat' first|(apply yA;exact rfl)|apply yB|apply yC|((first|apply yG|apply yH|apply yI);exact rfl;(first|exact rfl|exact wd rfl rfl hni hi' hg1 he1 hel1|exact zo rfl hg1 he1 (show 0 + 1 < e1.length by omega)))|(apply yN;exact rfl)
 refine Go.call _ rfl rfl rfl ((jj9 ys[i].cols k0 hb.2.1.1 hb.2.1.2 (by omega) (by omega)).at_ _ T1 _ hch1) ?_
 rintro r τ1 ⟨rfl, hn1, hf1, hhc1⟩
 have hh := hback1 τ1 _ hf1 hhc1
 have hfr := fun a (ha : ¬ S a) => (hf1 a (fun h => ha (hTS1 a h))).trans (hfr a ha)
 have hnx := hn1.trans hnx
 obtain ⟨k1, hk1⟩ : ∃ z, k0 + cntL zan ys[i].cols = z := ⟨_, rfl⟩
 rw [hk1]
 clear hg1 he1 hel1 hch1 hback1 hf1 hn1 hhc1
 obtain ⟨es2, e2, T2, hg2, he2, hel2, hTS2, hj2, hch2, hback2⟩ := hh.ch (j := 2) (y := .fz (ys[i].key.map encI)) hi' (yaa rfl) rfl
 repeat' first|(apply yA;exact rfl)|apply yB|apply yC|((first|apply yG|apply yH|apply yI);exact rfl;(first|exact rfl|exact wd rfl rfl hni hi' hg2 he2 hel2|exact zo rfl hg2 he2 (show 0 + 2 < e2.length by omega)))|(apply yN;exact rfl)
 refine Go.call _ rfl rfl rfl ((jb1 ys[i].key k1 hb.2.2.1  (by omega) (by omega)).at_ _ T2 _ hch2) ?_
 rintro r τ2 ⟨rfl, hn2, hf2, hhc2⟩
 have hh := hback2 τ2 _ hf2 hhc2
 have hfr := fun a (ha : ¬ S a) => (hf2 a (fun h => ha (hTS2 a h))).trans (hfr a ha)
 have hnx := hn2.trans hnx
 obtain ⟨k2, hk2⟩ : ∃ z, k1 + cntL (fun _ => 1) ys[i].key = z := ⟨_, rfl⟩
 rw [hk2]
 clear hg2 he2 hel2 hch2 hback2 hf2 hn2 hhc2
 obtain ⟨es3, e3, T3, hg3, he3, hel3, hTS3, hj3, hch3, hback3⟩ := hh.ch (j := 3) (y := .fz (ys[i].uniques.map jl)) hi' (yaa rfl) rfl
 repeat' first|(apply yA;exact rfl)|apply yB|apply yC|((first|apply yG|apply yH|apply yI);exact rfl;(first|exact rfl|exact wd rfl rfl hni hi' hg3 he3 hel3|exact zo rfl hg3 he3 (show 0 + 3 < e3.length by omega)))|(apply yN;exact rfl)
 refine Go.call _ rfl rfl rfl ((jjj ys[i].uniques k2 hb.2.2.2.1.1 hb.2.2.2.1.2 (by omega) (by omega)).at_ _ T3 _ hch3) ?_
 rintro r τ3 ⟨rfl, hn3, hf3, hhc3⟩
 have hh := hback3 τ3 _ hf3 hhc3
 have hfr := fun a (ha : ¬ S a) => (hf3 a (fun h => ha (hTS3 a h))).trans (hfr a ha)
 have hnx := hn3.trans hnx
 obtain ⟨k3, hk3⟩ : ∃ z, k2 + cntL wad ys[i].uniques = z := ⟨_, rfl⟩
 rw [hk3]
 clear hg3 he3 hel3 hch3 hback3 hf3 hn3 hhc3
 obtain ⟨es4, e4, T4, hg4, he4, hel4, hTS4, hj4, hch4, hback4⟩ := hh.ch (j := 4) (y := .fz (ys[i].checks.map jr)) hi' (yaa rfl) rfl
 repeat' first|(apply yA;exact rfl)|apply yB|apply yC|((first|apply yG|apply yH|apply yI);exact rfl;(first|exact rfl|exact wd rfl rfl hni hi' hg4 he4 hel4|exact zo rfl hg4 he4 (show 0 + 4 < e4.length by omega)))|(apply yN;exact rfl)
 refine Go.call _ rfl rfl rfl ((wj8 ys[i].checks k3 hb.2.2.2.2.1.1 hb.2.2.2.2.1.2 (by omega) (by omega)).at_ _ T4 _ hch4) ?_
 rintro r τ4 ⟨rfl, hn4, hf4, hhc4⟩
 have hh := hback4 τ4 _ hf4 hhc4
 have hfr := fun a (ha : ¬ S a) => (hf4 a (fun h => ha (hTS4 a h))).trans (hfr a ha)
 have hnx := hn4.trans hnx
 obtain ⟨k4, hk4⟩ : ∃ z, k3 + cntL wa0 ys[i].checks = z := ⟨_, rfl⟩
 rw [hk4]
 clear hg4 he4 hel4 hch4 hback4 hf4 hn4 hhc4
 obtain ⟨es5, e5, T5, hg5, he5, hel5, hTS5, hj5, hch5, hback5⟩ := hh.ch (j := 5) (y := .fz (ys[i].fks.map jv)) hi' (yaa rfl) rfl
 repeat' first|(apply yA;exact rfl)|apply yB|apply yC|((first|apply yG|apply yH|apply yI);exact rfl;(first|exact rfl|exact wd rfl rfl hni hi' hg5 he5 hel5|exact zo rfl hg5 he5 (show 0 + 5 < e5.length by omega)))|(apply yN;exact rfl)
 refine Go.call _ rfl rfl rfl ((wk2 ys[i].fks k4 hb.2.2.2.2.2.1 hb.2.2.2.2.2.2 (by omega) (by omega)).at_ _ T5 _ hch5) ?_
 rintro r τ5 ⟨rfl, hn5, hf5, hhc5⟩
 have hh := hback5 τ5 _ hf5 hhc5
 have hfr := fun a (ha : ¬ S a) => (hf5 a (fun h => ha (hTS5 a h))).trans (hfr a ha)
 have hnx := hn5.trans hnx
 obtain ⟨k5, hk5⟩ : ∃ z, k4 + cntL zcl ys[i].fks = z := ⟨_, rfl⟩
 rw [hk5]
 clear hg5 he5 hel5 hch5 hback5 hf5 hn5 hhc5
 repeat' first|(apply yA;exact rfl)|apply yB|apply yC|((first|apply yG|apply yH|apply yI);exact rfl;(first|exact rfl))|(apply yN;exact rfl)
 have hkend : k5 = ki + waj ys[i] := by simp only [waj]; omega
 refine hnext _ _ rfl (congrArg (fun z => some (AV.c (Ce.int .i64 z))) hkend) rfl hnx hfr ?_
 rw [hset]
 subst hk0 hk1 hk2 hk3 hk4 hk5
 exact hh
theorem zgv {fr : Fr} {σ : wa} {x y : Opd} {b : Bool} (hx : x.ev fr = some (.c (.bool b))) (hy : y.ev fr = some (.c (.bool b))) : aop (.eq true false [.b] x y) fr σ = some (.c (.bool false), σ) := by
 cases b <;> simp [aop, hx, hy, eqKs, eqK]
theorem zjk {σ : wa} {τ : wa} {b : Bool} : FrzV τ σ.next (.c (.bool b)) (.c (.bool b)) := .refl (by intro y hy; simp [AV.all] at hy; subst hy; exact .bool _)
theorem New.openC {σ τ : wa} {y : Ce} {r : AV} (h : New σ y r τ) : ∃ x, r = .c x /\ Gr σ τ /\ Has τ (fun a => σ.next <= a /\ a < τ.next) y x := by
 obtain ⟨x, l, rfl, rfl, ht, hh⟩ := h
 exact ⟨x, rfl, ⟨l, rfl, ht⟩, hh⟩
theorem NewL.openC {σ τ : wa} {ys : List Ce} {r : AV} (h : NewL σ ys r τ) : ∃ xs, r = .agg xs /\ Gr σ τ /\ HasL τ (fun a => σ.next <= a /\ a < τ.next) ys xs := by
 obtain ⟨x, l, rfl, rfl, ht, hh⟩ := h
 exact ⟨x, rfl, ⟨l, rfl, ht⟩, hh⟩
theorem jmt {σ : wa} {S : Nat -> Prop} {y x : Ce} (hf : Flat y) (h : Has σ S y x) : x = y := by
 cases hf <;> (cases h; rfl)
theorem jgv {σ : wa} {S : Nat -> Prop} {y : Ce} {x : AV} (hf : Flat y) (h : HasV σ S (.c y) x) : x = .c y := by
 cases h with
 | c h => rw [jmt hf h]
theorem wgv {σ τ : wa} {ys : List AV} {r : AV} (h : NewV σ (.tup ys) r τ) : ∃ xs, ∃ U : Nat -> Nat -> Prop, ∃ hl : xs.length = ys.length, r = .tup xs /\ Gr σ τ /\ (∀ i a, U i a -> σ.next <= a /\ a < τ.next) /\ ∀ i (hy : i < ys.length) (hx : i < xs.length), HasV τ (U i) ys[i] xs[i] := by
 obtain ⟨hg, hh⟩ := h
 generalize hy0 : AV.tup ys = y0 at hh
 cases hh with
 | c h => cases hy0
 | agg h => cases hy0
 | @tup S ys' xs U hl hU hd h =>
  injection hy0 with hy0
  subst hy0
  exact ⟨xs, U, hl, rfl, hg, fun i a ha => hU i a ha, h⟩
theorem zlw {σ τ : wa} {y f : Ce} {r : AV} (hf : Flat f) (h : NewV σ (.tup [.c y, .c f]) r τ) : ∃ x, r = .tup [.c x, .c f] /\ Gr σ τ /\ Has τ (fun a => σ.next <= a /\ a < τ.next) y x := by
 obtain ⟨xs, U, hl, rfl, hg, hU, h⟩ := wgv h
 match xs, hl with
 | [x1, x2], _ =>
  have h1 := h 0 (by simp) (by simp)
  have h2 := h 1 (by simp) (by simp)
  simp only [List.getElem_cons_zero, List.getElem_cons_succ] at h1 h2
  obtain rfl := jgv hf h2
  cases h1 with
  | c h1 => exact ⟨_, rfl, hg, h1.mono fun a ha => hU 0 a ha⟩
theorem jjk {σ τ : wa} {y f g : Ce} {r : AV} (hf : Flat f) (hg' : Flat g) (h : NewV σ (.tup [.c y, .c f, .c g]) r τ) : ∃ x, r = .tup [.c x, .c f, .c g] /\ Gr σ τ /\ Has τ (fun a => σ.next <= a /\ a < τ.next) y x := by
 obtain ⟨xs, U, hl, rfl, hg, hU, h⟩ := wgv h
 match xs, hl with
 | [x1, x2, x3], _ =>
  have h1 := h 0 (by simp) (by simp)
  have h2 := h 1 (by simp) (by simp)
  have h3 := h 2 (by simp) (by simp)
  simp only [List.getElem_cons_zero, List.getElem_cons_succ] at h1 h2 h3
  obtain rfl := jgv hf h2
  obtain rfl := jgv hg' h3
  cases h1 with
  | c h1 => exact ⟨_, rfl, hg, h1.mono fun a ha => hU 0 a ha⟩
theorem znl {τ : wa} {S : Nat -> Prop} {f : Ce} (h : Flat f) : HasV τ S (.c f) (.c f) := .c (.c h)
theorem wem {σ τ : wa} {y x f : Ce} (hf : Flat f) (h : NewV σ (.c y) (.c x) τ) : NewV σ (.tup [.c y, .c f]) (.tup [.c x, .c f]) τ :=
 ⟨h.1, .pair h.2 (znl (S := fun _ => False) hf) (fun _ h => h) (fun _ h => h.elim) (fun _ _ h => h)⟩
theorem zm7 {σ τ : wa} (g : Gr σ τ) : NewV σ (.c (.fz [])) (.c .nils) τ := ⟨g, .c .nil⟩
theorem zc0 {σ : wa} {v : Nat} {s : Nat} {ys junk : List (List Ce)} (hy : ∀ e ∈ ys, e.length = s /\ ∀ x ∈ e, Flat x) (hj : Jk s junk) : NewV σ (.c (.fz ys)) (.c (vec (σ.next + 0) v ys junk)) (E σ [(v, ys ++ junk)]) :=
 (Made.new hy (r := .c (vec (σ.next + 0) v ys junk)) ⟨v, junk, hj, rfl, rfl⟩).v
theorem jlw {σ : wa} {v : Nat} {es : List (List Ce)} (h : ∀ e ∈ es, ∀ x ∈ e, Flat x) : Gr σ (E σ [(v, es)]) :=
 ⟨_, rfl, fun b hb e he x hx => by rw [List.mem_singleton.1 hb] at he; exact .flat (h e he x hx)⟩
theorem jkm {s : Nat} {ys junk : List (List Ce)} (hy : ∀ e ∈ ys, e.length = s /\ ∀ x ∈ e, Flat x) (hj : Jk s junk) : ∀ e ∈ ys ++ junk, ∀ x ∈ e, Flat x := fun e he => (List.mem_append.1 he).elim (fun h => (hy e h).2) fun h => (hj e h).2
def isM (w : List Tok) (r : RowD) : Int := if 0 < w.length then zcz w r.vals else 1
def zae (w : List Tok) : List RowD -> List Int -> Option (List Int)
 | [], acc => some acc
 | r :: l, acc => if isM w r = -1 then none else zae w l (if isM w r = 1 then acc ++ [r.id] else acc)
def zad (l : List RowD) (w : List Tok) : List Int × Bool := match zae w l [] with | some ids => (ids, true) | none => ([], false)
theorem waw {xs : List Int} : ∀ e ∈ xs.map encI, e.length = 1 /\ ∀ x ∈ e, Flat x := wmg xs
theorem zka (l : List RowD) (w : List Tok) (hx : l.length <= 1048576) (hb : ∀ r ∈ l, r.vals.length <= 34359738368) (hw : w.length <= 34359738368) (σ : wa) : Ok Tryz.prog 224 [.c (.fz (l.map jc)), .c (.fz (w.map zh))] σ (NewV σ (.tup [.c (.fz ((zad l w).1.map encI)), .c (.bool (zad l w).2)])) := by
 refine Ok.run mixed zdu (yaa rfl) fun hS hA => ?_
 clear hS hA
 repeat' first|refine yaG ?_|exact yaF|refine yaS ?_ ?_<;>intro _
 refine Go.keep [1, 6, 11, 12, 13] (Go.loops (I := fun m fr τ => ∃ (i : Nat) (k : Int) (ids : List Int) (v : Nat) (junk : List (List Ce)), m = l.length - i /\ i <= l.length /\ k = i /\ Jk 1 junk /\ (ids.length <= i /\ zae w l [] = zae w (l.drop i) ids) /\
  fr = [(1, .c (.fz (w.map zh))), (6, .c (vec (σ.next + 0) v (ids.map encI) junk)), (11, .c (.fz (l.map jc))), (12, .c (.int .i64 (l.length : Int))), (13, .c (.int .i64 k))] /\ τ = E σ [(v, ids.map encI ++ junk)]) ?_ _ _ _ ⟨0, _, [], 0, [], rfl, yae _, rfl, Jk.nil, ⟨yae _, rfl⟩, rfl, rfl⟩)
 rintro m fr τ ⟨i, k, ids, v, junk, rfl, hi, hk, hj, ⟨hil, hs⟩, rfl, rfl⟩ hrec
 by_cases hlt : i < l.length
 ·have hv := hb _ (yab hlt)
  rw [yac hlt, zae, isM] at hs
  have hbd : ((ids.map encI).length + 1) * 8 <= 140737488355328 := by rw [yag]; omega
  have c1 := jkl w l[i].vals hw hv
  generalize hT : zcz w l[i].vals = T at c1 hs
  have hz1 : ∀ e ∈ ids.map encI, e.length = 1 := fun e he => (waw e he).1
  have e1 : ids.map encI ++ [encI l[i].id] = (ids ++ [l[i].id]).map encI := by simp
  by_cases h0 : 0 < w.length
  ·rw [if_pos h0] at hs
   repeat' first|refine yaG ?_|((first|apply yG|apply yH|apply yI);exact rfl;(first|exact yX (enc := jc) rfl rfl hk hlt rfl))|(apply Go.app1;exact rfl;exact rfl;exact rfl;exact rfl;exact rfl;exact hz1;exact hj;exact rfl;exact hbd;intro v' junk' hj')|refine yaC (c1) ?_|exact yaF|refine yaS ?_ ?_<;>intro _
   ·rename_i h1 h2
    rw [if_pos h2] at hs
    refine .ret rfl ?_
    rw [zad, hs]
    exact wem (.bool _) (zm7 (jlw (jkm waw hj)))
   ·rename_i h1 h2 h3
    rw [if_neg h2, if_pos h3] at hs
    refine Go.keep [1, 6, 11, 12, 13] (hrec _ _ _ (by omega) ⟨i + 1, _, ids ++ [l[i].id], v', junk', rfl, hlt, wb hk (by omega), hj', ⟨by simp; omega, hs⟩, ?_, ?_⟩)
    ·rw [<- e1]; rfl
    ·rw [<- e1]; rfl
   ·rename_i h1 h2 h3
    rw [if_neg h2, if_neg h3] at hs
    exact Go.keep [1, 6, 11, 12, 13] (hrec _ _ _ (by omega) ⟨i + 1, _, ids, v, junk, rfl, hlt, wb hk (by omega), hj, ⟨by omega, hs⟩, rfl, rfl⟩)
  ·rw [if_neg h0] at hs
   repeat' first|refine yaG ?_|((first|apply yG|apply yH|apply yI);exact rfl;(first|exact yX (enc := jc) rfl rfl hk hlt rfl))|(apply Go.app1;exact rfl;exact rfl;exact rfl;exact rfl;exact rfl;exact hz1;exact hj;exact rfl;exact hbd;intro v' junk' hj')|exact yaF|refine yaS ?_ ?_<;>intro _
   rw [if_neg (by decide), if_pos rfl] at hs
   refine Go.keep [1, 6, 11, 12, 13] (hrec _ _ _ (by omega) ⟨i + 1, _, ids ++ [l[i].id], v', junk', rfl, hlt, wb hk (by omega), hj', ⟨by simp; omega, hs⟩, ?_, ?_⟩)
   ·rw [<- e1]; rfl
   ·rw [<- e1]; rfl
 ·repeat' first|refine yaG ?_|exact yaF|refine yaS ?_ ?_<;>intro _
  refine .ret rfl ?_
  rw [yad (by omega), zae] at hs
  rw [zad, hs]
  exact wem (.bool _) (zc0 waw hj)
theorem wio (d : Data) (w : List Tok) (hx : d.rows.length <= 1048576) (hw : w.length <= 34359738368) (hT : 0 < w.length -> ∀ r ∈ d.rows, jq r.vals 16 = true /\ wbd w r.vals.length = true) (σ : wa) : Ok Tryz.prog 95 [.agg (jb d), .c (.fz (w.map zh))] σ (NewV σ (.tup [.c (.fz ((zad d.rows w).1.map encI)), .c (.bool (zad d.rows w).2)])) := by
 refine Ok.run mixed jct (yaa rfl) fun hS hA => ?_
 clear hS hA
 repeat' first|refine yaG ?_|exact yaF|refine yaS ?_ ?_<;>intro _
 refine Go.keep [1, 2, 6, 7] (Go.loops (I := fun m fr τ => ∃ (i : Nat) (k : Int) (ids : List Int) (v : Nat) (junk : List (List Ce)), m = d.rows.length - i /\ i <= d.rows.length /\ k = i /\ Jk 1 junk /\ (ids.length <= i /\ zae w d.rows [] = zae w (d.rows.drop i) ids) /\
  fr = [(1, .c (.fz (w.map zh))), (2, .c (.fp (jb d))), (6, .c (vec (σ.next + 0) v (ids.map encI) junk)), (7, .c (.int .i64 k))] /\ τ = E σ [(v, ids.map encI ++ junk)]) ?_ _ _ _ ⟨0, _, [], 0, [], rfl, yae _, rfl, Jk.nil, ⟨yae _, rfl⟩, rfl, rfl⟩)
 rintro m fr τ ⟨i, k, ids, v, junk, rfl, hi, hk, hj, ⟨hil, hs⟩, rfl, rfl⟩ hrec
 by_cases hlt : i < d.rows.length
 ·rw [yac hlt, zae, isM] at hs
  have hbd : ((ids.map encI).length + 1) * 8 <= 140737488355328 := by rw [yag]; omega
  have hz1 : ∀ e ∈ ids.map encI, e.length = 1 := fun e he => (waw e he).1
  have e1 : ids.map encI ++ [encI d.rows[i].id] = (ids ++ [d.rows[i].id]).map encI := by simp
  by_cases h0 : 0 < w.length
  ·obtain ⟨q1, q2⟩ := hT h0 _ (yab hlt)
   have c1 := zhs w d.rows[i].vals q1 q2
   have hTT : zcz w d.rows[i].vals = wcy w d.rows[i].vals := by rw [zcz, wes, q1, q2]; rfl
   have hr : -1 <= wcy w d.rows[i].vals := by
    rw [wcy]
    split
    ·rw [jac]
     split
     ·decide
     ·split
      ·split <;> decide
      ·decide
    ·decide
   rw [if_pos h0, hTT] at hs
   generalize wcy w d.rows[i].vals = T at c1 hs hr
   repeat' first|refine yaG ?_|((first|apply yG|apply yH|apply yI);exact rfl;(first|exact yX (enc := jc) rfl rfl hk hlt rfl))|(apply Go.app1;exact rfl;exact rfl;exact rfl;exact rfl;exact rfl;exact hz1;exact hj;exact rfl;exact hbd;intro v' junk' hj')|refine yaC (c1) ?_|exact yaF|refine yaS ?_ ?_<;>intro _
   ·rename_i h1 h2
    rw [if_pos (by omega)] at hs
    refine .ret rfl ?_
    rw [zad, hs]
    exact wem (.bool _) (zm7 (jlw (jkm waw hj)))
   ·rename_i h1 h2 h3
    rw [if_neg (by omega), if_pos h3] at hs
    refine Go.keep [1, 2, 6, 7] (hrec _ _ _ (by omega) ⟨i + 1, _, ids ++ [d.rows[i].id], v', junk', rfl, hlt, wb hk (by omega), hj', ⟨by simp; omega, hs⟩, ?_, ?_⟩)
    ·rw [<- e1]; rfl
    ·rw [<- e1]; rfl
   ·rename_i h1 h2 h3
    rw [if_neg (by omega), if_neg h3] at hs
    exact Go.keep [1, 2, 6, 7] (hrec _ _ _ (by omega) ⟨i + 1, _, ids, v, junk, rfl, hlt, wb hk (by omega), hj, ⟨by omega, hs⟩, rfl, rfl⟩)
  ·rw [if_neg h0] at hs
   repeat' first|refine yaG ?_|((first|apply yG|apply yH|apply yI);exact rfl;(first|exact yX (enc := jc) rfl rfl hk hlt rfl))|(apply Go.app1;exact rfl;exact rfl;exact rfl;exact rfl;exact rfl;exact hz1;exact hj;exact rfl;exact hbd;intro v' junk' hj')|exact yaF|refine yaS ?_ ?_<;>intro _
   rw [if_neg (by decide), if_pos rfl] at hs
   refine Go.keep [1, 2, 6, 7] (hrec _ _ _ (by omega) ⟨i + 1, _, ids ++ [d.rows[i].id], v', junk', rfl, hlt, wb hk (by omega), hj', ⟨by simp; omega, hs⟩, ?_, ?_⟩)
   ·rw [<- e1]; rfl
   ·rw [<- e1]; rfl
 ·repeat' first|refine yaG ?_|exact yaF|refine yaS ?_ ?_<;>intro _
  refine .ret rfl ?_
  rw [yad (by omega), zae] at hs
  rw [zad, hs]
  exact wem (.bool _) (zc0 waw hj)
def jm7 (db : List Data) (n : Int) : List RowD := match db[n.toNat]? with | some d => d.rows | none => []
theorem wlw {n m : Int} (h : isIn n 0 (m - 1) = true) : 0 <= n /\ n < m := by
 simp only [isIn, Bool.and_eq_true, decide_eq_true_eq] at h
 omega
def jka (vals : List Val) (c : Int) : Val := vals[c.toNat]?.getD jy
def keyF (cols : List Int) (vals : List Val) : List Val := cols.map (jka vals)
def w8 (cols : List Int) (vals : List Val) : Bool := cols.all fun c => !((jka vals c).k == 0)
def InR (cols : List Int) (n : Nat) : Prop := ∀ c ∈ cols, 0 <= c /\ c < n
theorem wkm {vals : List Val} {c : Int} (h : c.toNat < vals.length) : jka vals c = vals[c.toNat] := by rw [jka, yaf h]; rfl
theorem zax (cols : List Int) (vals : List Val) : (keyF cols vals).length = cols.length := yag _
theorem wjk {cols : List Int} {vals : List Val} {i : Nat} (h : i < cols.length) : keyF (cols.take (i + 1)) vals = keyF (cols.take i) vals ++ [jka vals cols[i]] := by
 rw [yai h, keyF, yaq]; rfl
theorem zgw {cols : List Int} {vals : List Val} {i : Nat} (h : i < cols.length) : w8 (cols.take (i + 1)) vals = (w8 (cols.take i) vals && !((jka vals cols[i]).k == 0)) := by
 rw [yai h, w8, List.all_append, w8, ybq, List.all_nil, Bool.and_true]
theorem jgw (cols : List Int) (vals : List Val) (hx : cols.length <= 34359738368) (hi : InR cols vals.length) (σ : wa) : Ok Tryz.prog 123 [.c (.fz (cols.map encI)), .c (.fz (vals.map encV))] σ (NewV σ (.tup [.c (.fz ((keyF cols vals).map encV)), .c (.bool (w8 cols vals))])) := by
 refine Ok.run mixed wf0 (yaa rfl) fun hS hA => ?_
 clear hS hA
 repeat' first|refine yaG ?_|exact yaF|refine yaS ?_ ?_<;>intro _
 refine Go.keep [1, 6, 7, 11, 12, 13] (Go.loops (I := fun m fr τ => ∃ (i : Nat) (k : Int) (v : Nat) (junk : List (List Ce)) (ks : List Val) (b : Bool), m = cols.length - i /\ i <= cols.length /\ k = i /\ Jk 3 junk /\ (ks = keyF (cols.take i) vals /\ b = w8 (cols.take i) vals) /\
  fr = [(1, .c (.fz (vals.map encV))), (6, .c (vec (σ.next + 0) v (ks.map encV) junk)), (7, .c (.bool b)), (11, .c (.fz (cols.map encI))), (12, .c (.int .i64 (cols.length : Int))), (13, .c (.int .i64 k))] /\ τ = E σ [(v, ks.map encV ++ junk)]) ?_ _ _ _ ⟨0, _, 0, [], [], true, rfl, yae _, rfl, Jk.nil, ⟨rfl, rfl⟩, rfl, rfl⟩)
 rintro m fr τ ⟨i, k, v, junk, ks, b, rfl, hile, hk, hj, ⟨hks, hb⟩, rfl, rfl⟩ hrec
 by_cases hlt : i < cols.length
 ·obtain ⟨q1, q2⟩ := hi _ (yab hlt)
  have hc : cols[i] = (cols[i].toNat : Int) := by omega
  have hcl : cols[i].toNat < vals.length := by omega
  have hv := wkm hcl
  have hkl : (ks.map encV).length = i := by rw [yag, hks, zax, yas]; omega
  have hbd : ((ks.map encV).length + 1) * 32 <= 140737488355328 := by omega
  have e1 : ks.map encV ++ [encV vals[cols[i].toNat]] = (ks ++ [vals[cols[i].toNat]]).map encV := by simp
  have hk2 : ks ++ [vals[cols[i].toNat]] = keyF (cols.take (i + 1)) vals := by rw [wjk hlt, <- hks, hv]
  have hw2 := zgw (vals := vals) hlt
  rw [<- hb, hv] at hw2
  cases b
  ·repeat' first|refine yaG ?_|((first|apply yG|apply yH|apply yI);exact rfl;(first|exact yX (enc := encI) rfl rfl hk hlt rfl|exact yX (enc := encV) rfl rfl hc hcl rfl))|(apply Go.app1;exact rfl;exact rfl;exact rfl;exact rfl;exact rfl;exact lens;exact hj;exact rfl;exact hbd;intro v' junk' hj')|exact yaF|refine yaS ?_ ?_<;>intro _
   refine Go.keep [1, 6, 7, 11, 12, 13] (hrec _ _ _ (by omega) ⟨i + 1, _, v', junk', ks ++ [vals[cols[i].toNat]], _, rfl, hlt, wb hk (by omega), hj', ⟨hk2, hw2.symm⟩, ?_, ?_⟩)
   ·rw [<- e1]; rfl
   ·rw [<- e1]; rfl
  ·repeat' first|refine yaG ?_|((first|apply yG|apply yH|apply yI);exact rfl;(first|exact yX (enc := encI) rfl rfl hk hlt rfl|exact yX (enc := encV) rfl rfl hc hcl rfl))|(apply Go.app1;exact rfl;exact rfl;exact rfl;exact rfl;exact rfl;exact lens;exact hj;exact rfl;exact hbd;intro v' junk' hj')|exact yaF|refine yaS ?_ ?_<;>intro _
   refine Go.keep [1, 6, 7, 11, 12, 13] (hrec _ _ _ (by omega) ⟨i + 1, _, v', junk', ks ++ [vals[cols[i].toNat]], vals[cols[i].toNat].k != 0, rfl, hlt, wb hk (by omega), hj', ⟨hk2, hw2.symm⟩, ?_, ?_⟩)
   ·rw [<- e1]; rfl
   ·rw [<- e1]; rfl
 ·repeat' first|refine yaG ?_|exact yaF|refine yaS ?_ ?_<;>intro _
  refine .ret rfl ?_
  rw [yan (by omega)] at hks hb
  rw [<- hks, <- hb]
  exact wem (.bool _) (zc0 wac hj)
theorem jfk (cols : List Int) (vals : List Val) (hx : cols.length <= 34359738368) (hi : InR cols vals.length) : Pure Tryz.prog 123 [.c (.fz (cols.map encI)), .c (.fz (vals.map encV))] (.tup [.c (.fz ((keyF cols vals).map encV)), .c (.bool (w8 cols vals))]) := NewV.pure (jgw cols vals hx hi)
theorem zlx (cols : List Int) (vals : List Val) (hx : cols.length <= 34359738368) (hi : InR cols vals.length) (σ : wa) : Ok Tryz.prog 110 [.c (.fz (cols.map encI)), .c (.fz (vals.map encV))] σ (NewV σ (.tup [.c (.fz ((keyF cols vals).map encV)), .c (.bool (w8 cols vals))])) := by
 refine Ok.run mixed wfy (yaa rfl) fun hS hA => ?_
 clear hS hA
 repeat' first|refine yaG ?_|exact yaF|refine yaS ?_ ?_<;>intro _
 refine Go.keep [0, 1, 6, 7, 8] (Go.loops (I := fun m fr τ => ∃ (i : Nat) (k : Int) (v : Nat) (junk : List (List Ce)) (ks : List Val) (b : Bool), m = cols.length - i /\ i <= cols.length /\ k = i /\ Jk 3 junk /\ (ks = keyF (cols.take i) vals /\ b = w8 (cols.take i) vals) /\
  fr = [(0, .c (.fz (cols.map encI))), (1, .c (.fz (vals.map encV))), (6, .c (vec (σ.next + 0) v (ks.map encV) junk)), (7, .c (.bool b)), (8, .c (.int .i64 k))] /\ τ = E σ [(v, ks.map encV ++ junk)]) ?_ _ _ _ ⟨0, _, 0, [], [], true, rfl, yae _, rfl, Jk.nil, ⟨rfl, rfl⟩, rfl, rfl⟩)
 rintro m fr τ ⟨i, k, v, junk, ks, b, rfl, hile, hk, hj, ⟨hks, hb⟩, rfl, rfl⟩ hrec
 by_cases hlt : i < cols.length
 ·obtain ⟨q1, q2⟩ := hi _ (yab hlt)
  have hc : cols[i] = (cols[i].toNat : Int) := by omega
  have hcl : cols[i].toNat < vals.length := by omega
  have hv := wkm hcl
  have hkl : (ks.map encV).length = i := by rw [yag, hks, zax, yas]; omega
  have hbd : ((ks.map encV).length + 1) * 32 <= 140737488355328 := by omega
  have e1 : ks.map encV ++ [encV vals[cols[i].toNat]] = (ks ++ [vals[cols[i].toNat]]).map encV := by simp
  have hk2 : ks ++ [vals[cols[i].toNat]] = keyF (cols.take (i + 1)) vals := by rw [wjk hlt, <- hks, hv]
  have hw2 := zgw (vals := vals) hlt
  rw [<- hb, hv] at hw2
  cases b
  ·repeat' first|refine yaG ?_|((first|apply yG|apply yH|apply yI);exact rfl;(first|exact yX (enc := encI) rfl rfl hk hlt rfl|exact yX (enc := encV) rfl rfl hc hcl rfl))|(apply Go.app1;exact rfl;exact rfl;exact rfl;exact rfl;exact rfl;exact lens;exact hj;exact rfl;exact hbd;intro v' junk' hj')|exact yaF|refine yaS ?_ ?_<;>intro _
   refine Go.keep [0, 1, 6, 7, 8] (hrec _ _ _ (by omega) ⟨i + 1, _, v', junk', ks ++ [vals[cols[i].toNat]], _, rfl, hlt, wb hk (by omega), hj', ⟨hk2, hw2.symm⟩, ?_, ?_⟩)
   ·rw [<- e1]; rfl
   ·rw [<- e1]; rfl
  ·repeat' first|refine yaG ?_|((first|apply yG|apply yH|apply yI);exact rfl;(first|exact yX (enc := encI) rfl rfl hk hlt rfl|exact yX (enc := encV) rfl rfl hc hcl rfl))|(apply Go.app1;exact rfl;exact rfl;exact rfl;exact rfl;exact rfl;exact lens;exact hj;exact rfl;exact hbd;intro v' junk' hj')|exact yaF|refine yaS ?_ ?_<;>intro _
   refine Go.keep [0, 1, 6, 7, 8] (hrec _ _ _ (by omega) ⟨i + 1, _, v', junk', ks ++ [vals[cols[i].toNat]], vals[cols[i].toNat].k != 0, rfl, hlt, wb hk (by omega), hj', ⟨hk2, hw2.symm⟩, ?_, ?_⟩)
   ·rw [<- e1]; rfl
   ·rw [<- e1]; rfl
 ·repeat' first|refine yaG ?_|exact yaF|refine yaS ?_ ?_<;>intro _
  refine .ret rfl ?_
  rw [yan (by omega)] at hks hb
  rw [<- hks, <- hb]
  exact wem (.bool _) (zc0 wac hj)
theorem wbe (cols : List Int) (vals : List Val) (hx : cols.length <= 34359738368) (hi : InR cols vals.length) : Pure Tryz.prog 110 [.c (.fz (cols.map encI)), .c (.fz (vals.map encV))] (.tup [.c (.fz ((keyF cols vals).map encV)), .c (.bool (w8 cols vals))]) := NewV.pure (zlx cols vals hx hi)
def hasB (cols : List Int) (key vals : List Val) : Bool := w8 cols vals && (keyF cols vals == key)
def j7 (rows : List RowD) (cols : List Int) (key : List Val) : List Int := (rows.filter fun r => hasB cols key r.vals).map (·.id)
theorem wdc {rows : List RowD} {cols : List Int} {key : List Val} {i : Nat} (h : i < rows.length) : j7 (rows.take (i + 1)) cols key = j7 (rows.take i) cols key ++ if hasB cols key rows[i].vals then [rows[i].id] else [] := by
 rw [j7, yai h, List.filter_append, yaq, j7]
 congr 1
 rw [List.filter_cons, List.filter_nil]
 split <;> rfl
theorem wcq {rows : List RowD} {cols : List Int} {key : List Val} : (j7 rows cols key).length <= rows.length := by rw [j7, yag]; exact ybn _ _
theorem zkn (cols : List Int) (vals key : List Val) (hx : cols.length <= 34359738368) (hi : InR cols vals.length) : Pure Tryz.prog 199 [.c (.fz (cols.map encI)), .c (.fz (vals.map encV)), .c (.fz (key.map encV))] (.c (.bool (hasB cols key vals))) := by
 refine Pure.run mixed zie (yaa rfl) fun σ hS hA => ?_
 clear hS hA
 have c1 := jfk cols vals hx hi
 have c2 := zet (keyF cols vals) key (by rw [zax]; exact hx)
 rw [hasB]
 generalize keyF cols vals = ks at c1 c2 ⊢
 generalize (ks == key) = e at c2 ⊢
 cases hw : w8 cols vals
 ·rw [hw] at c1
  repeat' first|refine yaG ?_|refine yaC (c1) ?_|exact yaF|refine yaS ?_ ?_<;>intro _
  exact .ret rfl (.bool rfl)
 ·rw [hw] at c1
  repeat' first|refine yaG ?_|refine yaC (c1) ?_|refine yaC (c2) ?_|exact yaF|refine yaS ?_ ?_<;>intro _
  exact .ret rfl (.bool rfl)
theorem wmt (rows : List RowD) (cols : List Int) (key : List Val) (hr : rows.length <= 1048576) (hx : cols.length <= 34359738368) (hi : ∀ r ∈ rows, InR cols r.vals.length) : Pure Tryz.prog 198 [.c (.fz (rows.map jc)), .c (.fz (cols.map encI)), .c (.fz (key.map encV))] (.c (.fz ((j7 rows cols key).map encI))) := by
 refine NewV.pure fun σ => Ok.run mixed jcf (yaa rfl) fun hS hA => ?_
 clear hS hA
 repeat' first|refine yaG ?_|exact yaF|refine yaS ?_ ?_<;>intro _
 refine Go.keep [1, 2, 7, 11, 12, 13] (Go.loops (I := fun m fr τ => ∃ (i : Nat) (k : Int) (v : Nat) (junk : List (List Ce)) (ids : List Int), m = rows.length - i /\ i <= rows.length /\ k = i /\ Jk 1 junk /\ ids = j7 (rows.take i) cols key /\
  fr = [(1, .c (.fz (cols.map encI))), (2, .c (.fz (key.map encV))), (7, .c (vec (σ.next + 0) v (ids.map encI) junk)), (11, .c (.fz (rows.map jc))), (12, .c (.int .i64 (rows.length : Int))), (13, .c (.int .i64 k))] /\ τ = E σ [(v, ids.map encI ++ junk)]) ?_ _ _ _ ⟨0, _, 0, [], [], rfl, yae _, rfl, Jk.nil, rfl, rfl, rfl⟩)
 rintro m fr τ ⟨i, k, v, junk, ids, rfl, hile, hk, hj, hids, rfl, rfl⟩ hrec
 by_cases hlt : i < rows.length
 ·have c1 := zkn cols rows[i].vals key hx (hi _ (yab hlt))
  have hn := wdc (cols := cols) (key := key) hlt
  rw [<- hids] at hn
  have hl : (ids.map encI).length <= 1048576 := by rw [yag, hids]; have := wcq (rows := rows.take i) (cols := cols) (key := key); rw [yas] at this; omega
  have hbd : ((ids.map encI).length + 1) * 8 <= 140737488355328 := by omega
  have hz1 : ∀ e ∈ ids.map encI, e.length = 1 := fun e he => (waw e he).1
  have e1 : ids.map encI ++ [encI rows[i].id] = (ids ++ [rows[i].id]).map encI := by simp
  clear hi
  cases hb : hasB cols key rows[i].vals
  ·rw [hb] at c1 hn
   rw [if_neg yaj, ybg] at hn
   repeat' first|refine yaG ?_|((first|apply yG|apply yH|apply yI);exact rfl;(first|exact yX (enc := jc) rfl rfl hk hlt rfl))|refine yaC (c1) ?_|exact yaF|refine yaS ?_ ?_<;>intro _
   exact Go.keep [1, 2, 7, 11, 12, 13] (hrec _ _ _ (by omega) ⟨i + 1, _, v, junk, ids, rfl, hlt, wb hk (by omega), hj, hn.symm, rfl, rfl⟩)
  ·rw [hb] at c1 hn
   rw [if_pos rfl] at hn
   repeat' first|refine yaG ?_|((first|apply yG|apply yH|apply yI);exact rfl;(first|exact yX (enc := jc) rfl rfl hk hlt rfl))|(apply Go.app1;exact rfl;exact rfl;exact rfl;exact rfl;exact rfl;exact hz1;exact hj;exact rfl;exact hbd;intro v' junk' hj')|refine yaC (c1) ?_|exact yaF|refine yaS ?_ ?_<;>intro _
   refine Go.keep [1, 2, 7, 11, 12, 13] (hrec _ _ _ (by omega) ⟨i + 1, _, v', junk', ids ++ [rows[i].id], rfl, hlt, wb hk (by omega), hj', hn.symm, ?_, ?_⟩)
   ·rw [<- e1]; rfl
   ·rw [<- e1]; rfl
 ·repeat' first|refine yaG ?_|exact yaF|refine yaS ?_ ?_<;>intro _
  refine .ret rfl ?_
  rw [yan (by omega)] at hids
  rw [<- hids]
  exact zc0 waw hj
theorem wgw (d : Data) (cols : List Int) (key : List Val) (hr : d.rows.length <= 1048576) (hx : cols.length <= 34359738368) (hi : ∀ r ∈ d.rows, InR cols r.vals.length) : Pure Tryz.prog 240 [.agg (jb d), .c (.fz (cols.map encI)), .c (.fz (key.map encV))] (.c (.fz ((j7 d.rows cols key).map encI))) := by
 refine NewV.pure fun σ => Ok.run mixed jfc (yaa rfl) fun hS hA => ?_
 clear hS hA
 repeat' first|refine yaG ?_|exact yaF|refine yaS ?_ ?_<;>intro _
 refine Go.keep [1, 2, 3, 7, 8] (Go.loops (I := fun m fr τ => ∃ (i : Nat) (k : Int) (v : Nat) (junk : List (List Ce)) (ids : List Int), m = d.rows.length - i /\ i <= d.rows.length /\ k = i /\ Jk 1 junk /\ ids = j7 (d.rows.take i) cols key /\
  fr = [(1, .c (.fz (cols.map encI))), (2, .c (.fz (key.map encV))), (3, .c (.fp (jb d))), (7, .c (vec (σ.next + 0) v (ids.map encI) junk)), (8, .c (.int .i64 k))] /\ τ = E σ [(v, ids.map encI ++ junk)]) ?_ _ _ _ ⟨0, _, 0, [], [], rfl, yae _, rfl, Jk.nil, rfl, rfl, rfl⟩)
 rintro m fr τ ⟨i, k, v, junk, ids, rfl, hile, hk, hj, hids, rfl, rfl⟩ hrec
 by_cases hlt : i < d.rows.length
 ·have c1 := wbe cols d.rows[i].vals hx (hi _ (yab hlt))
  have c2 := zbe (keyF cols d.rows[i].vals) key (by rw [zax]; exact hx)
  have hn := wdc (cols := cols) (key := key) hlt
  rw [<- hids, hasB] at hn
  have hl : (ids.map encI).length <= 1048576 := by rw [yag, hids]; have := wcq (rows := d.rows.take i) (cols := cols) (key := key); rw [yas] at this; omega
  have hbd : ((ids.map encI).length + 1) * 8 <= 140737488355328 := by omega
  have hz1 : ∀ e ∈ ids.map encI, e.length = 1 := fun e he => (waw e he).1
  have e1 : ids.map encI ++ [encI d.rows[i].id] = (ids ++ [d.rows[i].id]).map encI := by simp
  clear hi
  generalize keyF cols d.rows[i].vals = ks at c1 c2 hn
  generalize (ks == key) = q at c2 hn
  cases hb : w8 cols d.rows[i].vals
  ·rw [hb] at c1 hn
   rw [ybe, if_neg yaj, ybg] at hn
   repeat' first|refine yaG ?_|((first|apply yG|apply yH|apply yI);exact rfl;(first|exact yX (enc := jc) rfl rfl hk hlt rfl))|refine yaC (c1) ?_|exact yaF|refine yaS ?_ ?_<;>intro _
   exact Go.keep [1, 2, 3, 7, 8] (hrec _ _ _ (by omega) ⟨i + 1, _, v, junk, ids, rfl, hlt, wb hk (by omega), hj, hn.symm, rfl, rfl⟩)
  ·cases q
   ·rw [hb] at c1 hn
    rw [ybh, if_neg yaj, ybg] at hn
    repeat' first|refine yaG ?_|((first|apply yG|apply yH|apply yI);exact rfl;(first|exact yX (enc := jc) rfl rfl hk hlt rfl))|refine yaC (c1) ?_|refine yaC (c2) ?_|exact yaF|refine yaS ?_ ?_<;>intro _
    exact Go.keep [1, 2, 3, 7, 8] (hrec _ _ _ (by omega) ⟨i + 1, _, v, junk, ids, rfl, hlt, wb hk (by omega), hj, hn.symm, rfl, rfl⟩)
   ·rw [hb] at c1 hn
    rw [Bool.and_true, if_pos rfl] at hn
    repeat' first|refine yaG ?_|((first|apply yG|apply yH|apply yI);exact rfl;(first|exact yX (enc := jc) rfl rfl hk hlt rfl))|(apply Go.app1;exact rfl;exact rfl;exact rfl;exact rfl;exact rfl;exact hz1;exact hj;exact rfl;exact hbd;intro v' junk' hj')|refine yaC (c1) ?_|refine yaC (c2) ?_|exact yaF|refine yaS ?_ ?_<;>intro _
    refine Go.keep [1, 2, 3, 7, 8] (hrec _ _ _ (by omega) ⟨i + 1, _, v', junk', ids ++ [d.rows[i].id], rfl, hlt, wb hk (by omega), hj', hn.symm, ?_, ?_⟩)
    ·rw [<- e1]; rfl
    ·rw [<- e1]; rfl
 ·repeat' first|refine yaG ?_|exact yaF|refine yaS ?_ ?_<;>intro _
  refine .ret rfl ?_
  rw [yan (by omega)] at hids
  rw [<- hids]
  exact zc0 waw hj
structure jk3 (t : zd) : Prop where
 cols0 : 1 <= t.cols.length
 cols8 : t.cols.length <= 8
 key : InR t.key t.cols.length
 uniq : ∀ u ∈ t.uniques, InR u.cols t.cols.length
 chk : ∀ c ∈ t.checks, wbd c.expr t.cols.length = true
 fk : ∀ f ∈ t.fks, InR f.cols t.cols.length
 uniq3 : t.uniques.length <= 3
 chk3 : t.checks.length <= 3
 fk3 : t.fks.length <= 3
theorem zjl {t : zd} (h : zag t = true) : jk3 t := by
 simp only [zag, Bool.and_eq_true, decide_eq_true_eq, Bool.not_eq_true', List.any_eq_false, Bool.not_eq_false', Bool.not_eq_true] at h
 obtain ⟨h1, h2, h3, h4, h5, h6, h7, h8, h9, h10⟩ := h
 have hc := jes h2
 exact ⟨hc.1, hc.2, zb2 h3, fun u hu => zb2 (by simpa using h8 u hu), fun c hc => by simpa using h9 c hc, fun f hf => by
  have : jci f t.cols.length = true := by simpa using h10 f hf
  simp only [jci, Bool.and_eq_true] at this
  exact zb2 this.1, by omega, by omega, by omega⟩
theorem zgx {s : List zd} (h : ww s = true) : ∀ t ∈ s, jk3 t := fun t ht => by
 simp only [ww, Bool.and_eq_true] at h
 exact zjl (ja3 h.2.1 t ht)
def jax (t : zd) : Nat -> List Val -> Bool
 | _, [] => false
 | i, v :: l => (wt t i && v.k == 0) || jax t (i + 1) l
theorem wk3 (t : zd) (vals : List Val) (hl : vals.length = t.cols.length) (hc : t.cols.length <= 8) : Pure Tryz.prog 210 [.agg (ja t), .c (.fz (vals.map encV))] (.c (.bool (jax t 0 vals))) := by
 refine Pure.run mixed jeg (yaa rfl) fun σ hS hA => ?_
 clear hS hA
 repeat' first|refine yaG ?_|exact yaF|refine yaS ?_ ?_<;>intro _
 refine Go.keep [2, 7, 8, 9] (Go.loops (I := fun m fr τ => ∃ (i : Nat) (k : Int), m = vals.length - i /\ i <= vals.length /\ k = i /\ jax t 0 vals = jax t i (vals.drop i) /\
  fr = [(2, .c (.fp (ja t))), (7, .c (.fz (vals.map encV))), (8, .c (.int .i64 (vals.length : Int))), (9, .c (.int .i64 k))] /\ τ = E σ []) ?_ _ _ _ ⟨0, _, rfl, yae _, rfl, rfl, rfl, rfl⟩)
 rintro m fr τ ⟨i, k, rfl, hi, hk, hs, rfl, rfl⟩ hrec
 by_cases hlt : i < vals.length
 ·have hlc : i < t.cols.length := by omega
  have hnn : wt t i = t.cols[i].notNull := by rw [wt, ybm, yaf hlc]
  rw [yac hlt, jax, hnn] at hs
  cases hb : t.cols[i].notNull
  ·rw [hb, ybe, ybp] at hs
   repeat' first|refine yaG ?_|((first|apply yG|apply yH|apply yI);exact rfl;(first|exact yX (enc := encV) rfl rfl hk hlt rfl|exact yX (enc := zg) rfl rfl hk hlc rfl))|exact yaF|refine yaS ?_ ?_<;>intro _
   all_goals first
    | exact Go.keep [2, 7, 8, 9] (hrec _ _ _ (by omega) ⟨i + 1, _, rfl, hlt, wb hk (by omega), hs, rfl, rfl⟩)
    |(exfalso; simp_all; done)
  ·by_cases h0 : vals[i].k = 0
   ·rw [hb, h0] at hs
    repeat' first|refine yaG ?_|((first|apply yG|apply yH|apply yI);exact rfl;(first|exact yX (enc := encV) rfl rfl hk hlt rfl|exact yX (enc := zg) rfl rfl hk hlc rfl))|exact yaF|refine yaS ?_ ?_<;>intro _
    all_goals first
     | exact .ret rfl (.bool hs.symm)
     |(exfalso; simp_all; done)
   ·rw [hb, beq_eq_false_iff_ne.2 h0, ybh, ybp] at hs
    repeat' first|refine yaG ?_|((first|apply yG|apply yH|apply yI);exact rfl;(first|exact yX (enc := encV) rfl rfl hk hlt rfl|exact yX (enc := zg) rfl rfl hk hlc rfl))|exact yaF|refine yaS ?_ ?_<;>intro _
    all_goals first
     | exact Go.keep [2, 7, 8, 9] (hrec _ _ _ (by omega) ⟨i + 1, _, rfl, hlt, wb hk (by omega), hs, rfl, rfl⟩)
     |(exfalso; simp_all; done)
 ·repeat' first|refine yaG ?_|exact yaF|refine yaS ?_ ?_<;>intro _
  rw [yad (by omega), jax] at hs
  exact .ret rfl (.bool hs.symm)
theorem zk4 (t : zd) (vals : List Val) (hl : vals.length = t.cols.length) (hc : t.cols.length <= 8) : Pure Tryz.prog 205 [.agg (ja t), .c (.fz (vals.map encV))] (.c (.bool (!jax t 0 vals))) := by
 refine Pure.run mixed zeg (yaa rfl) fun σ hS hA => ?_
 clear hS hA
 repeat' first|refine yaG ?_|exact yaF|refine yaS ?_ ?_<;>intro _
 refine Go.keep [1, 2, 5] (Go.loops (I := fun m fr τ => ∃ (i : Nat) (k : Int), m = vals.length - i /\ i <= vals.length /\ k = i /\ jax t 0 vals = jax t i (vals.drop i) /\
  fr = [(1, .c (.fz (vals.map encV))), (2, .c (.fp (ja t))), (5, .c (.int .i64 k))] /\ τ = E σ []) ?_ _ _ _ ⟨0, _, rfl, yae _, rfl, rfl, rfl, rfl⟩)
 rintro m fr τ ⟨i, k, rfl, hi, hk, hs, rfl, rfl⟩ hrec
 by_cases hlt : i < vals.length
 ·have hlc : i < t.cols.length := by omega
  have hnn : wt t i = t.cols[i].notNull := by rw [wt, ybm, yaf hlc]
  rw [yac hlt, jax, hnn] at hs
  cases hb : t.cols[i].notNull
  ·rw [hb, ybe, ybp] at hs
   repeat' first|refine yaG ?_|((first|apply yG|apply yH|apply yI);exact rfl;(first|exact yX (enc := encV) rfl rfl hk hlt rfl|exact yX (enc := zg) rfl rfl hk hlc rfl))|exact yaF|refine yaS ?_ ?_<;>intro _
   all_goals first
    | exact Go.keep [1, 2, 5] (hrec _ _ _ (by omega) ⟨i + 1, _, rfl, hlt, wb hk (by omega), hs, rfl, rfl⟩)
    |(exfalso; simp_all; done)
  ·by_cases h0 : vals[i].k = 0
   ·rw [hb, h0] at hs
    repeat' first|refine yaG ?_|((first|apply yG|apply yH|apply yI);exact rfl;(first|exact yX (enc := encV) rfl rfl hk hlt rfl|exact yX (enc := zg) rfl rfl hk hlc rfl))|exact yaF|refine yaS ?_ ?_<;>intro _
    all_goals first
     | exact .ret rfl (.bool (by rw [hs]; rfl))
     |(exfalso; simp_all; done)
   ·rw [hb, beq_eq_false_iff_ne.2 h0, ybh, ybp] at hs
    repeat' first|refine yaG ?_|((first|apply yG|apply yH|apply yI);exact rfl;(first|exact yX (enc := encV) rfl rfl hk hlt rfl|exact yX (enc := zg) rfl rfl hk hlc rfl))|exact yaF|refine yaS ?_ ?_<;>intro _
    all_goals first
     | exact Go.keep [1, 2, 5] (hrec _ _ _ (by omega) ⟨i + 1, _, rfl, hlt, wb hk (by omega), hs, rfl, rfl⟩)
     |(exfalso; simp_all; done)
 ·repeat' first|refine yaG ?_|exact yaF|refine yaS ?_ ?_<;>intro _
  rw [yad (by omega), jax] at hs
  exact .ret rfl (.bool (by rw [hs]; rfl))
def za7 (vals : List Val) (x : Chk) : Bool := decide (zcz x.expr vals < 1)
theorem zip (x : Chk) (vals : List Val) (hx : x.expr.length <= 34359738368) (hv : vals.length <= 34359738368) : Pure Tryz.prog 254 [.agg (jr x), .c (.fp [.fz (vals.map encV)])] (.c (.bool (za7 vals x))) := by
 refine Pure.run mixed zch (yaa rfl) fun σ hS hA => ?_
 clear hS hA
 repeat' first|refine yaG ?_|refine yaC (jkl x.expr vals hx hv) ?_|exact yaF|refine yaS ?_ ?_<;>intro _
 exact .ret rfl (.bool rfl)
theorem jjl (t : zd) (vals : List Val) (hn : t.checks.length <= 34359738368) (hx : ∀ c ∈ t.checks, c.expr.length <= 34359738368) (hv : vals.length <= 34359738368) : Pure Tryz.prog 211 [.agg (ja t), .c (.fz (vals.map encV))] (.c (.bool (!(t.checks.any (za7 vals))))) := by
 refine Pure.run mixed jc5 (yaa rfl) fun σ hS hA => ?_
 clear hS hA
 repeat' first|refine yaG ?_|((first|apply Go.pcallB|apply Go.spcallB|apply Qg.pcallB);(iterate 3 exact rfl);exact zj mixed wab jai jr (fun u => .agg (jr u)) (fun _ => rfl) (fun _ => rfl) t.checks (za7 vals) _ [] [.fp [.fz (vals.map encV)]] hn (fun j hj _ => zip _ vals (hx _ (yab hj)) hv);intro _ _)|exact yaF|refine yaS ?_ ?_<;>intro _
 rename_i b hb
 exact .ret rfl (.bool (by rw [hb]))
theorem wka (t : zd) (vals : List Val) (hn : t.checks.length <= 3) (hx : ∀ c ∈ t.checks, wbd c.expr vals.length = true) (hv : jq vals 16 = true) : Pure Tryz.prog 206 [.agg (ja t), .c (.fz (vals.map encV))] (.c (.bool (!(t.checks.any (za7 vals))))) := by
 refine Pure.run mixed zds (yaa rfl) fun σ hS hA => ?_
 clear hS hA
 repeat' first|refine yaG ?_|exact yaF|refine yaS ?_ ?_<;>intro _
 refine Go.keep [1, 2, 5] (Go.loops (I := fun m fr τ => ∃ (i : Nat) (k : Int), m = t.checks.length - i /\ i <= t.checks.length /\ k = i /\ t.checks.any (za7 vals) = (t.checks.drop i).any (za7 vals) /\
  fr = [(1, .c (.fz (vals.map encV))), (2, .c (.fp (ja t))), (5, .c (.int .i64 k))] /\ τ = E σ []) ?_ _ _ _ ⟨0, _, rfl, yae _, rfl, rfl, rfl, rfl⟩)
 rintro m fr τ ⟨i, k, rfl, hi, hk, hs, rfl, rfl⟩ hrec
 by_cases hlt : i < t.checks.length
 ·have hex := hx _ (yab hlt)
  have c1 := zhs t.checks[i].expr vals hv hex
  have hTT : zcz t.checks[i].expr vals = wcy t.checks[i].expr vals := by rw [zcz, wes, hv, hex]; rfl
  rw [yac hlt, List.any_cons, za7, hTT] at hs
  generalize wcy t.checks[i].expr vals = T at c1 hs
  by_cases h1 : T < 1
  ·rw [decide_eq_true h1, Bool.true_or] at hs
   repeat' first|refine yaG ?_|((first|apply yG|apply yH|apply yI);exact rfl;(first|exact yX (enc := jr) rfl rfl hk hlt rfl))|refine yaC (c1) ?_|exact yaF|refine yaS ?_ ?_<;>intro _
   all_goals first
    | exact .ret rfl (.bool (by rw [hs]; rfl))
    |(exfalso; omega)
  ·rw [decide_eq_false h1, ybp] at hs
   repeat' first|refine yaG ?_|((first|apply yG|apply yH|apply yI);exact rfl;(first|exact yX (enc := jr) rfl rfl hk hlt rfl))|refine yaC (c1) ?_|exact yaF|refine yaS ?_ ?_<;>intro _
   all_goals first
    | exact Go.keep [1, 2, 5] (hrec _ _ _ (by omega) ⟨i + 1, _, rfl, hlt, wb hk (by omega), hs, rfl, rfl⟩)
    |(exfalso; omega)
 ·repeat' first|refine yaG ?_|exact yaF|refine yaS ?_ ?_<;>intro _
  rw [yad (by omega), List.any_nil] at hs
  exact .ret rfl (.bool (by rw [hs]; rfl))
def jcw (cols : List Int) : List Ce := [.fz (cols.map encI)]
theorem jlx (n : Nat) (cols : List Int) : ∀ x ∈ jcw cols, Old n x := fun x hx => by
 rw [jcw, List.mem_singleton] at hx
 subst hx
 refine .fz _ fun i j hi hj => ?_
 exact ((waw _ (yab hi)).2 _ (yab hj)).old n
theorem jbr {σ : wa} {l : List (Nat × List (List Ce))} {k v N : Nat} {ys junk : List (List Ce)} (hl : l[k]? = some (v, ys ++ junk)) (ho : ∀ e ∈ ys, ∀ x ∈ e, Old N x) (hN : N <= σ.next + k) : FrzV (E σ l) N (.c (vec (σ.next + k) v ys junk)) (.c (.fz ys)) := by
 refine .c (.sl _ _ _ _ _ (ys ++ junk) ys hN (by rw [E_at]; exact hl) (by simp) rfl (fun i hi => ?_) (fun i j hi hj => ?_))
 ·simp only [Nat.zero_add]
  rw [yap hi]
 ·have e : (ys ++ junk)[0 + i]'(by simp; omega) = ys[i] := by
   simp only [Nat.zero_add]
   rw [yap hi]
  simp only [e]
  exact .same _ (ho _ (yab _) _ (yab hj))
def jgx (vals : List Val) (r : RowD) (cols : List Int) : Bool := w8 cols vals && hasB cols (keyF cols vals) r.vals
def zp (t : zd) : List (List Int) := t.key :: t.uniques.map (·.cols)
def jz (rows : List RowD) (keys : List (List Int)) (id : Int) (vals : List Val) : List Int := (rows.filter fun r => !(r.id == id) && keys.any (jgx vals r)).map (·.id)
theorem weu {rows : List RowD} {keys : List (List Int)} {id : Int} {vals : List Val} {i : Nat} (h : i < rows.length) : jz (rows.take (i + 1)) keys id vals = jz (rows.take i) keys id vals ++ if !(rows[i].id == id) && keys.any (jgx vals rows[i]) then [rows[i].id] else [] := by
 rw [jz, yai h, List.filter_append, yaq, jz]
 congr 1
 rw [List.filter_cons, List.filter_nil]
 split <;> rfl
theorem jb4 {rows : List RowD} {keys : List (List Int)} {id : Int} {vals : List Val} : (jz rows keys id vals).length <= rows.length := by rw [jz, yag]; exact ybn _ _
theorem jk4 (cols : List Int) (vals : List Val) (r : RowD) (hx : cols.length <= 34359738368) (h1 : InR cols vals.length) (h2 : InR cols r.vals.length) : Pure Tryz.prog 256 [.c (.fz (cols.map encI)), .c (.fp [.fz (vals.map encV)]), .c (.fp (jc r))] (.c (.bool (jgx vals r cols))) := by
 refine Pure.run mixed wdv (yaa rfl) fun σ hS hA => ?_
 clear hS hA
 have c1 := jfk cols vals hx h1
 have c2 := zkn cols r.vals (keyF cols vals) hx h2
 rw [jgx]
 generalize keyF cols vals = ks at c1 c2 ⊢
 generalize hasB cols ks r.vals = b at c2 ⊢
 cases hw : w8 cols vals
 ·rw [hw] at c1
  repeat' first|refine yaG ?_|refine yaC (c1) ?_|exact yaF|refine yaS ?_ ?_<;>intro _
  exact .ret rfl (.bool rfl)
 ·rw [hw] at c1
  repeat' first|refine yaG ?_|refine yaC (c1) ?_|refine yaC (c2) ?_|exact yaF|refine yaS ?_ ?_<;>intro _
  exact .ret rfl (.bool rfl)
def jc0 (rows : List RowD) (r : RowD) (cols : List Int) : Bool := w8 cols r.vals && (j7 rows cols (keyF cols r.vals)).any fun id => !(id == r.id)
theorem zhu (d : Data) (cols : List Int) (r : RowD) (hr : d.rows.length <= 1048576) (hx : cols.length <= 34359738368) (hv : InR cols r.vals.length) (hi : ∀ q ∈ d.rows, InR cols q.vals.length) : Pure Tryz.prog 284 [.agg (jb d), .c (.fz (cols.map encI)), .agg (jc r)] (.c (.bool (jc0 d.rows r cols))) := by
 refine Pure.run mixed wei (yaa rfl) fun σ hS hA => ?_
 clear hS hA
 have c1 := wbe cols r.vals hx hv
 have c2 := wgw d cols (keyF cols r.vals) hr hx hi
 have hl := wcq (rows := d.rows) (cols := cols) (key := keyF cols r.vals)
 rw [jc0]
 generalize j7 d.rows cols (keyF cols r.vals) = ids at c2 hl ⊢
 generalize keyF cols r.vals = ks at c1 c2
 cases hw : w8 cols r.vals
 ·rw [hw] at c1
  repeat' first|refine yaG ?_|refine yaC (c1) ?_|exact yaF|refine yaS ?_ ?_<;>intro _
  exact .ret rfl (.bool rfl)
 rw [hw] at c1
 rw [yay]
 repeat' first|refine yaG ?_|refine yaC (c1) ?_|refine yaC (c2) ?_|exact yaF|refine yaS ?_ ?_<;>intro _
 refine Go.keep [5, 9, 10] (Go.loops (I := fun m fr τ => ∃ (i : Nat) (k : Int), m = ids.length - i /\ i <= ids.length /\ k = i /\ (ids.any fun id => !(id == r.id)) = ((ids.drop i).any fun id => !(id == r.id)) /\
  fr = [(5, .c (.fp (jc r))), (9, .c (.fz (ids.map encI))), (10, .c (.int .i64 k))] /\ τ = E σ []) ?_ _ _ _ ⟨0, _, rfl, yae _, rfl, rfl, rfl, rfl⟩)
 rintro m fr τ ⟨i, k, rfl, hile, hk, hs, rfl, rfl⟩ hrec
 by_cases hlt : i < ids.length
 ·rw [yac hlt, List.any_cons] at hs
  by_cases h0 : ids[i] = r.id
  ·rw [beq_iff_eq.2 h0, Bool.not_true, ybp] at hs
   repeat' first|refine yaG ?_|((first|apply yG|apply yH|apply yI);exact rfl;(first|exact yX (enc := encI) rfl rfl hk hlt rfl))|exact yaF|refine yaS ?_ ?_<;>intro _
   all_goals first
    | exact Go.keep [5, 9, 10] (hrec _ _ _ (by omega) ⟨i + 1, _, rfl, hlt, wb hk (by omega), hs, rfl, rfl⟩)
    |(exfalso; simp_all; done)
  ·rw [beq_eq_false_iff_ne.2 h0, Bool.not_false, Bool.true_or] at hs
   repeat' first|refine yaG ?_|((first|apply yG|apply yH|apply yI);exact rfl;(first|exact yX (enc := encI) rfl rfl hk hlt rfl))|exact yaF|refine yaS ?_ ?_<;>intro _
   all_goals first
    | exact .ret rfl (.bool hs.symm)
    |(exfalso; simp_all; done)
 ·repeat' first|refine yaG ?_|exact yaF|refine yaS ?_ ?_<;>intro _
  rw [yad (by omega), List.any_nil] at hs
  exact .ret rfl (.bool hs.symm)
theorem zkb (t : zd) (d : Data) (r : RowD) (hr : d.rows.length <= 1048576) (hu : t.uniques.length <= 3) (hx : ∀ k ∈ zp t, k.length <= 34359738368) (hv : ∀ k ∈ zp t, InR k r.vals.length) (hi : ∀ k ∈ zp t, ∀ r ∈ d.rows, InR k r.vals.length) :
 Pure Tryz.prog 253 [.agg (ja t), .agg (jb d), .agg (jc r)] (.c (.bool (!((zp t).any (jc0 d.rows r))))) := by
 refine Pure.run mixed zdv (yaa rfl) fun σ hS hA => ?_
 clear hS hA
 have hk0 : t.key ∈ zp t := by simp [zp]
 have c1 := zhu d t.key r hr (hx _ hk0) (hv _ hk0) (hi _ hk0)
 rw [zp, List.any_cons, List.any_map]
 cases hb : jc0 d.rows r t.key
 ·rw [hb] at c1
  rw [ybp]
  repeat' first|refine yaG ?_|refine yaC (c1) ?_|exact yaF|refine yaS ?_ ?_<;>intro _
  refine Go.keep [3, 4, 5, 7] (Go.loops (I := fun m fr τ => ∃ (i : Nat) (k : Int), m = t.uniques.length - i /\ i <= t.uniques.length /\ k = i /\ (t.uniques.any (jc0 d.rows r ∘ (·.cols))) = ((t.uniques.drop i).any (jc0 d.rows r ∘ (·.cols))) /\
   fr = [(3, .c (.fp (ja t))), (4, .c (.fp (jb d))), (5, .c (.fp (jc r))), (7, .c (.int .i64 k))] /\ τ = E σ []) ?_ _ _ _ ⟨0, _, rfl, yae _, rfl, rfl, rfl, rfl⟩)
  rintro m fr τ ⟨i, k, rfl, hile, hk, hs, rfl, rfl⟩ hrec
  by_cases hlt : i < t.uniques.length
  ·have hki : t.uniques[i].cols ∈ zp t := by rw [zp]; exact List.mem_cons_of_mem _ (List.mem_map.2 ⟨_, yab hlt, rfl⟩)
   have c2 := zhu d t.uniques[i].cols r hr (hx _ hki) (hv _ hki) (hi _ hki)
   rw [yac hlt, List.any_cons, Function.comp_apply] at hs
   cases hq : jc0 d.rows r t.uniques[i].cols
   ·rw [hq] at c2 hs
    rw [ybp] at hs
    repeat' first|refine yaG ?_|((first|apply yG|apply yH|apply yI);exact rfl;(first|exact yX (enc := jl) rfl rfl hk hlt rfl))|refine yaC (c2) ?_|exact yaF|refine yaS ?_ ?_<;>intro _
    exact Go.keep [3, 4, 5, 7] (hrec _ _ _ (by omega) ⟨i + 1, _, rfl, hlt, wb hk (by omega), hs, rfl, rfl⟩)
   ·rw [hq] at c2 hs
    rw [Bool.true_or] at hs
    repeat' first|refine yaG ?_|((first|apply yG|apply yH|apply yI);exact rfl;(first|exact yX (enc := jl) rfl rfl hk hlt rfl))|refine yaC (c2) ?_|exact yaF|refine yaS ?_ ?_<;>intro _
    exact .ret rfl (.bool (by rw [hs]; rfl))
  ·repeat' first|refine yaG ?_|exact yaF|refine yaS ?_ ?_<;>intro _
   rw [yad (by omega), List.any_nil] at hs
   exact .ret rfl (.bool (by rw [hs]; rfl))
 ·rw [hb] at c1
  repeat' first|refine yaG ?_|refine yaC (c1) ?_|exact yaF|refine yaS ?_ ?_<;>intro _
  exact .ret rfl (.bool rfl)
def wlx (s : List zd) (f : Fk) : Int := idxA (fun u : zd => u.name == f.table) s 0
def wnx (s : List zd) (n : Int) : List Int := match s[n.toNat]? with | some u => u.key | none => []
def jkb (s : List zd) (db : List Data) (f : Fk) (vals : List Val) : Bool := w8 f.cols vals && (((j7 (jm7 db (wlx s f)) (wnx s (wlx s f)) (keyF f.cols vals)).length : Int) == 0)
structure FkR (s : List zd) (db : List Data) (vals : List Val) (f : Fk) (n : Nat) : Prop where
 lt : n < s.length
 lt2 : n < db.length
 idx : wlx s f = (n : Int)
 rows : db[n].rows.length <= 1048576
 key : s[n].key.length <= 34359738368
 cols : f.cols.length <= 34359738368
 own : InR f.cols vals.length
 far : ∀ r ∈ db[n].rows, InR s[n].key r.vals.length
theorem FkR.val {s : List zd} {db : List Data} {vals : List Val} {f : Fk} {n : Nat} (h : FkR s db vals f n) : jkb s db f vals = (w8 f.cols vals && (((j7 (db[n]'h.lt2).rows (s[n]'h.lt).key (keyF f.cols vals)).length : Int) == 0)) := by
 rw [jkb, h.idx, jm7, wnx, ybm, yaf h.lt, yaf h.lt2]
theorem zly (s : List zd) (db : List Data) (f : Fk) (vals : List Val) (n : Nat) (hs : s.length <= 34359738368) (h : FkR s db vals f n) : Pure Tryz.prog 214 [.c (.fz (s.map ja)), .c (.fz (db.map jb)), .agg (jv f), .c (.fz (vals.map encV))] (.c (.bool (jkb s db f vals))) := by
 refine Pure.run mixed zfa (yaa rfl) fun σ hS hA => ?_
 clear hS hA
 have c1 := wbf s f.table hs
 have hidx : idxA (fun u : zd => u.name == f.table) s 0 = (n : Int) := h.idx
 rw [hidx] at c1
 have c2 := jfk f.cols vals h.cols h.own
 have hlt := h.lt
 have hlt2 := h.lt2
 have c3 := wmt db[n].rows s[n].key (keyF f.cols vals) h.rows h.key h.far
 rw [h.val]
 generalize j7 db[n].rows s[n].key (keyF f.cols vals) = ids at c3 ⊢
 generalize keyF f.cols vals = ks at c2 c3
 cases hw : w8 f.cols vals
 ·rw [hw] at c2
  repeat' first|refine yaG ?_|refine yaC (c1) ?_|refine yaC (c2) ?_|exact yaF|refine yaS ?_ ?_<;>intro _
  exact .ret rfl (.bool rfl)
 ·rw [hw] at c2
  repeat' first|refine yaG ?_|((first|apply yG|apply yH|apply yI);exact rfl;(first|exact yX (enc := ja) rfl rfl rfl hlt rfl|exact yX (enc := jb) rfl rfl rfl hlt2 rfl))|refine yaC (c1) ?_|refine yaC (c2) ?_|refine yaC (c3) ?_|exact yaF|refine yaS ?_ ?_<;>intro _
  exact .ret rfl (.bool rfl)
theorem wkb (s : List zd) (db : List Data) (f : Fk) (vals : List Val) (n : Nat) (hs : s.length <= 34359738368) (h : FkR s db vals f n) : Pure Tryz.prog 208 [.c (.fz (s.map ja)), .c (.fz (db.map jb)), .agg (jv f), .c (.fz (vals.map encV))] (.c (.bool (!jkb s db f vals))) := by
 refine Pure.run mixed wds (yaa rfl) fun σ hS hA => ?_
 clear hS hA
 have c1 := wgn s f.table hs
 have hidx : idxA (fun u : zd => u.name == f.table) s 0 = (n : Int) := h.idx
 rw [hidx] at c1
 have c2 := wbe f.cols vals h.cols h.own
 have hlt := h.lt
 have hlt2 := h.lt2
 have c3 := wgw db[n] s[n].key (keyF f.cols vals) h.rows h.key h.far
 rw [h.val]
 generalize j7 db[n].rows s[n].key (keyF f.cols vals) = ids at c3 ⊢
 generalize keyF f.cols vals = ks at c2 c3
 cases hw : w8 f.cols vals
 ·rw [hw] at c2
  repeat' first|refine yaG ?_|refine yaC (c1) ?_|refine yaC (c2) ?_|exact yaF|refine yaS ?_ ?_<;>intro _
  exact .ret rfl (.bool rfl)
 ·rw [hw] at c2
  repeat' first|refine yaG ?_|((first|apply yG|apply yH|apply yI);exact rfl;(first|exact yX (enc := ja) rfl rfl rfl hlt rfl|exact yX (enc := jb) rfl rfl rfl hlt2 rfl))|refine yaC (c1) ?_|refine yaC (c2) ?_|refine yaC (c3) ?_|exact yaF|refine yaS ?_ ?_<;>intro _
  refine .ret rfl (.bool ?_)
  rw [yay]
  by_cases h0 : (ids.length : Int) = 0
  ·rw [beq_iff_eq.2 h0]
   exact decide_eq_false (by omega)
  ·rw [beq_eq_false_iff_ne.2 h0]
   exact decide_eq_true (by omega)
def jn (s : List zd) (db : List Data) (df : Bool) (vals : List Val) (f : Fk) : Bool := (df || !f.deferred) && jkb s db f vals
theorem jip (s : List zd) (db : List Data) (f : Fk) (vals : List Val) (df : Bool) (n : Nat) (hs : s.length <= 34359738368) (h : FkR s db vals f n) : Pure Tryz.prog 213 [.agg (jv f), .c (.fp [.bool df]), .c (.fp [.fz (s.map ja)]), .c (.fp [.fz (db.map jb)]), .c (.fp [.fz (vals.map encV)])] (.c (.bool (jn s db df vals f))) := by
 refine Pure.run mixed wcf (yaa rfl) fun σ hS hA => ?_
 clear hS hA
 have c1 := zly s db f vals n hs h
 rw [jn]
 generalize jkb s db f vals = b at c1 ⊢
 cases df
 ·cases hd : f.deferred
  ·repeat' first|refine yaG ?_|refine yaC (c1) ?_|exact yaF|refine yaS ?_ ?_<;>intro _
   all_goals first
    | exact .ret rfl (.bool rfl)
    |(exfalso; simp_all; done)
    |(refine .ret rfl (.bool ?_); simp_all; done)
  ·repeat' first|refine yaG ?_|refine yaC (c1) ?_|exact yaF|refine yaS ?_ ?_<;>intro _
   all_goals first
    | exact .ret rfl (.bool rfl)
    |(exfalso; simp_all; done)
    |(refine .ret rfl (.bool ?_); simp_all; done)
 ·repeat' first|refine yaG ?_|refine yaC (c1) ?_|exact yaF|refine yaS ?_ ?_<;>intro _
  all_goals first
   | exact .ret rfl (.bool rfl)
   |(exfalso; simp_all; done)
   |(refine .ret rfl (.bool ?_); simp_all; done)
theorem zev (s : List zd) (db : List Data) (t : zd) (vals : List Val) (df : Bool) (hs : s.length <= 34359738368) (hn : t.fks.length <= 34359738368) (h : ∀ f ∈ t.fks, ∃ n, FkR s db vals f n) : Pure Tryz.prog 147 [.c (.fz (s.map ja)), .c (.fz (db.map jb)), .agg (ja t), .c (.fz (vals.map encV)), .c (.bool df)] (.c (.bool (t.fks.any (jn s db df vals)))) := by
 refine Pure.run mixed jc4 (yaa rfl) fun σ hS hA => ?_
 clear hS hA
 have cc := zj mixed w6 waa jv (fun u => .agg (jv u)) (fun _ => rfl) (fun _ => rfl) t.fks (jn s db df vals) 213 [] [.fp [.bool df], .fp [.fz (s.map ja)], .fp [.fz (db.map jb)], .fp [.fz (vals.map encV)]] hn (fun j hj _ => by
  obtain ⟨n, hq⟩ := h _ (yab hj)
  exact jip s db _ vals df n hs hq)
 generalize t.fks.any (jn s db df vals) = b at cc ⊢
 repeat' first|refine yaG ?_|refine yaC (cc) ?_|exact yaF|refine yaS ?_ ?_<;>intro _
 exact .ret rfl (.bool rfl)
theorem jbj (s : List zd) (db : List Data) (q : Int) (m : Nat) (vals : List Val) (now : Bool) (hs : s.length <= 34359738368) (hq : q = (m : Int)) (hm : m < s.length) (hn : s[m].fks.length <= 3) (h : ∀ f ∈ s[m].fks, ∃ n, FkR s db vals f n) : Pure Tryz.prog 139 [.c (.fz (s.map ja)), .c (.fz (db.map jb)), .c (.int .i64 q), .c (.fz (vals.map encV)), .c (.bool now)] (.c (.bool (!(s[m].fks.any (jn s db (!now) vals))))) := by
 refine Pure.run mixed zdp (yaa rfl) fun σ hS hA => ?_
 clear hS hA
 repeat' first|refine yaG ?_|exact yaF|refine yaS ?_ ?_<;>intro _
 refine Go.keep [0, 1, 2, 3, 4, 11] (Go.loops (I := fun mm fr τ => ∃ (i : Nat) (k : Int), mm = s[m].fks.length - i /\ i <= s[m].fks.length /\ k = i /\ s[m].fks.any (jn s db (!now) vals) = (s[m].fks.drop i).any (jn s db (!now) vals) /\
  fr = [(0, .c (.fz (s.map ja))), (1, .c (.fz (db.map jb))), (2, .c (.int .i64 q)), (3, .c (.fz (vals.map encV))), (4, .c (.bool now)), (11, .c (.int .i64 k))] /\ τ = E σ []) ?_ _ _ _ ⟨0, _, rfl, yae _, rfl, rfl, rfl, rfl⟩)
 rintro mm fr τ ⟨i, k, rfl, hi, hk, hsq, rfl, rfl⟩ hrec
 by_cases hlt : i < s[m].fks.length
 ·obtain ⟨n, hr⟩ := h _ (yab hlt)
  have c1 := wkb s db s[m].fks[i] vals n hs hr
  rw [yac hlt, List.any_cons, jn] at hsq
  generalize jkb s db s[m].fks[i] vals = b at c1 hsq
  have skip : (s[m].fks.any (jn s db (!now) vals) = (s[m].fks.drop (i + 1)).any (jn s db (!now) vals)) -> ∀ fr τ, fr = [(0, AV.c (.fz (s.map ja))), (1, .c (.fz (db.map jb))), (2, .c (.int .i64 q)), (3, .c (.fz (vals.map encV))), (4, .c (.bool now)), (11, .c (.int .i64 (IntKind.i64.wrap (k + 1))))] -> τ = E σ [] -> _ := fun e fr τ h1 h2 => hrec (s[m].fks.length - (i + 1)) fr τ (by omega) ⟨i + 1, _, rfl, hlt, wb hk (by omega), e, h1, h2⟩
  clear hrec
  cases now <;> cases hd : s[m].fks[i].deferred <;> cases b
  all_goals
   repeat' first|refine yaG ?_|((first|apply yG|apply yH|apply yI);exact rfl;(first|exact yX (enc := ja) rfl rfl hq hm rfl|exact yX (enc := jv) rfl rfl hk hlt rfl))|refine yaC (c1) ?_|exact yaF|refine yaS ?_ ?_<;>intro _
   all_goals first
    |(refine Go.keep [0, 1, 2, 3, 4, 11] (skip ?_ _ _ rfl rfl); simp_all; done)
    |(refine .ret rfl (.bool ?_); simp_all; done)
    |(exfalso; simp_all; done)
 ·repeat' first|refine yaG ?_|((first|apply yG|apply yH|apply yI);exact rfl;(first|exact yX (enc := ja) rfl rfl hq hm rfl))|exact yaF|refine yaS ?_ ?_<;>intro _
  rw [yad (by omega), List.any_nil] at hsq
  exact .ret rfl (.bool (by rw [hsq]; rfl))
def jdz (v : Val) (k : Int) : Int := if v.k = k /\ v.n = k + 1 /\ v.s = wca (k + 2) then k + 3 else -1
def za4 {α : Type} (h : α -> Int -> Int) : List α -> Int -> Int
 | [], k => k
 | a :: r, k => if h a k < 0 then -1 else za4 h r (h a k)
theorem zcr {α : Type} {h : α -> Int -> Int} {m : α -> Int -> α} {c : α -> Int} (hm : ∀ a k, 0 <= k -> h (m a k) k = k + c a) (hc : ∀ a, 0 <= c a) : ∀ (xs : List α) (k : Int), 0 <= k -> za4 h (jx m c xs k) k = k + cntL c xs
 | [], k, _ => by simp [jx, za4, cntL]
 | a :: r, k, hk => by
  have := hc a
  have := hm a k hk
  simp only [jx, za4, cntL]
  rw [if_neg (by omega), this, zcr hm hc r _ (by omega)]
  omega
theorem wk4 (v : Val) (k : Int) (hk : 0 <= k) : jdz (wkv v k) k = k + 3 := by simp [jdz, wkv]
theorem zkc (xs : List Val) (k : Int) (hx : xs.length <= 34359738368) (hk0 : 0 <= k) (hk : k + cntL (fun _ => 3) xs <= 34359738368) : Pure Tryz.prog 132 [.c (.fz (xs.map encV)), .c (.int .i64 k)] (.c (.int .i64 (za4 jdz xs k))) := by
 refine Pure.run mixed jdo (yaa rfl) fun σ hS hA => ?_
 clear hS hA
 rw [cnt3] at hk
 repeat' first|refine yaG ?_|exact yaF|refine yaS ?_ ?_<;>intro _
 refine Go.keep [0, 1, 5] (Go.loops (I := fun m fr τ => ∃ i : Nat, ∃ n l : Int, m = xs.length - i /\ i <= xs.length /\ n = i /\ (l = k + 3 * i /\ za4 jdz xs k = za4 jdz (xs.drop i) l) /\
  fr = [(0, .c (.fz (xs.map encV))), (1, .c (.int .i64 l)), (5, .c (.int .i64 n))] /\ τ = E σ []) ?_ _ _ _ ⟨0, _, _, rfl, Nat.zero_le _, rfl, ⟨by simp, rfl⟩, rfl, rfl⟩)
 rintro m fr τ ⟨i, n, l, rfl, hi, hn, ⟨hl, hsl⟩, rfl, rfl⟩ hrec
 by_cases hlt : i < xs.length
 ·have hw1 : IntKind.i64.wrap (l + 1) = l + 1 := jf (by omega) (by omega)
  have hw2 : IntKind.i64.wrap (l + 1 + 1) = l + 2 := by rw [jf (by omega) (by omega)]; omega
  have hw3 : IntKind.i64.wrap (l + 2 + 1) = l + 3 := by rw [jf (by omega) (by omega)]; omega
  have hdr := yac hlt
  have neg : ¬ (xs[i].k = l /\ xs[i].n = l + 1 /\ xs[i].s = wca (l + 2)) -> za4 jdz xs k = -1 := fun h => by
   have hv : jdz xs[i] l = -1 := if_neg h
   rw [hsl, hdr, za4, hv]
   rfl
  repeat' first|refine yaG ?_|((first|apply yG|apply yH|apply yI);exact rfl;(first|exact yX (enc := encV) rfl rfl hn hlt rfl))|exact yaF|refine yaS ?_ ?_<;>intro _
  ·refine .ret rfl (.int ?_)
   rename_i h9
   exact (neg fun e => h9 e.1).symm
  ·refine .ret rfl (.int ?_)
   rename_i h9
   rw [hw1] at h9
   exact (neg fun e => h9 e.2.1).symm
  rename_i h1 h2
  rw [hw1] at h2 ⊢
  rw [hw2]
  repeat' first|refine yaG ?_|((first|apply yG|apply yH|apply yI);exact rfl;(first|exact yX (enc := encV) rfl rfl hn hlt rfl))|((first|apply yQ|apply yR|apply yS);(iterate 3 exact rfl);exact wap (l + 2) (by omega))|exact yaF|refine yaS ?_ ?_<;>intro _
  ·refine .ret rfl (.int ?_)
   rename_i h9
   exact (neg fun e => by simp [e.2.2] at h9).symm
  ·refine Go.keep [0, 1, 5] (hrec _ _ _ (by omega) ⟨i + 1, _, _, rfl, hlt, wb hn (by omega), ⟨hw3.trans (by omega), ?_⟩, rfl, rfl⟩)
   rename_i h3
   have hv : jdz xs[i] l = l + 3 := if_pos ⟨by simpa using h1, by simpa using h2, by simpa using h3⟩
   rw [hsl, hdr, za4, hv, if_neg (by omega), hw3]
 ·repeat' first|refine yaG ?_|exact yaF|refine yaS ?_ ?_<;>intro _
  refine .ret rfl (.int ?_)
  rw [hsl, yad (by omega)]
  rfl
theorem wb4 (xs : List Val) (hx : xs.length <= 34359738368) : zg3 Tryz.prog 65 [.c (.fz (xs.map encV))] 3 (xs.map encV) := by
 refine zg3.run mixed zct (yaa rfl) fun σ hS hA => ?_
 clear hS hA
 repeat' first|refine yaG ?_|exact yaF|refine yaS ?_ ?_<;>intro _
 refine Go.app (ys := []) (junk := []) (zs := xs.map encV) rfl rfl rfl rfl rfl (by simp) Jk.nil (fun e he => (wac e he).1) (by simp; omega) fun v junk hj => ?_
 repeat' first|refine yaG ?_|exact yaF|refine yaS ?_ ?_<;>intro _
 exact .ret rfl ⟨v, junk, hj, rfl, rfl⟩
def Rise (l : List RowD) : Prop := l.Pairwise fun a b => a.id < b.id
theorem jev {t : zd} : ∀ {l : List RowD} {p : Option Int}, jaw t p l = true -> Rise l /\ ∀ q, p = some q -> ∀ r ∈ l, q < r.id
 | [], p, _ => ⟨.nil, fun q _ r hr => by simp at hr⟩
 | a :: l, p, h => by
  rw [jaw, yat] at h
  obtain ⟨h1, h2⟩ := jev h.2
  have h3 := h2 a.id rfl
  refine ⟨List.pairwise_cons.2 ⟨h3, h1⟩, fun q hq r hr => ?_⟩
  subst hq
  have h4 : q < a.id := by
   have := h.1
   simp only [jck, wbq, Bool.and_eq_true, decide_eq_true_eq] at this
   exact this.2.1
  rcases List.mem_cons.1 hr with rfl | hr
  ·exact h4
  ·exact Int.lt_trans h4 (h3 r hr)
theorem zk5 {t : zd} {l : List RowD} (h : jgt t l = true) : Rise l := by
 rw [jgt, yat] at h
 exact (jev h.1).1
theorem wgx {n : Nat} (l : List RowD) : OldL n (l.map jc) := fun e he c hc => by
 obtain ⟨a, _, rfl⟩ := List.mem_map.1 he
 simp only [jc, List.mem_cons, List.not_mem_nil, or_false] at hc
 rcases hc with rfl | rfl
 ·exact .int _ _
 ·exact jal (zdz wfg)
theorem wbn {n : Nat} (l : List Data) : OldL n (l.map jb) := fun e he c hc => by
 obtain ⟨a, _, rfl⟩ := List.mem_map.1 he
 simp only [jb, List.mem_cons, List.not_mem_nil, or_false] at hc
 subst hc
 exact jal (wgx _)
theorem zbf {l : List RowD} : ∀ e ∈ l.map jc, e.length = 2 := fun e he => by
 obtain ⟨a, _, rfl⟩ := List.mem_map.1 he
 rfl
theorem zmu {l : List Data} : ∀ e ∈ l.map jb, e.length = 1 := fun e he => by
 obtain ⟨a, _, rfl⟩ := List.mem_map.1 he
 rfl
theorem zcm (xs : List Val) (hx : xs.length <= 34359738368) : Pure Tryz.prog 65 [.c (.fz (xs.map encV))] (.c (.fz (xs.map encV))) :=
 NewV.pure fun σ => ((wb4 xs hx).at_ σ).mono fun r τ ⟨v, junk, hj, h1, h2⟩ => by
  subst h1 h2
  exact zc0 wac hj
structure jnl (t : zd) (d : Data) (x : RowD) : Prop where
 uniq : t.uniques.length <= 3
 len : ∀ k ∈ zp t, k.length <= 34359738368
 own : ∀ k ∈ zp t, InR k x.vals.length
 far : ∀ k ∈ zp t, ∀ r ∈ d.rows, InR k r.vals.length
theorem wnl {xs : List Int} : ∀ e ∈ xs.map encI, ∀ x ∈ e, Flat x := fun e he => (waw e he).2
theorem znm (e : List Ce) (x : Ce) (h : e.length = 1) : jh e 0 [x] = [x] := by
 rw [jh, List.take_zero, List.nil_append, List.drop_eq_nil_of_le (by simp; omega), List.append_nil]
theorem jmu {α : Type} {l m : List α} {i : Nat} {x : α} (h : i < l.length) : (l ++ m).set i x = l.set i x ++ m := List.set_append_left _ _ h
theorem wdz (db : List Data) (q : Int) (n : Nat) (d : Data) (hq : q = (n : Int)) (hn : n < db.length) (hd : db.length <= 60) : Pure Tryz.prog 112 [.c (.fz (db.map jb)), .c (.int .i64 q), .agg (jb d)] (.c (.fz ((db.set n d).map jb))) := by
 refine Pure.run mixed ze5 (yaa rfl) fun σ hS hA => ?_
 clear hS hA
 repeat' first|refine yaG ?_|exact yaF|refine yaS ?_ ?_<;>intro _
 refine Go.app (k := 0) (ys := []) (junk := []) (zs := db.map jb) rfl rfl rfl rfl rfl (fun e he => by cases he) Jk.nil zmu (by simp; omega) fun v junk hj => ?_
 have hn2 : n < (db.map jb).length := by simpa using hn
 have hg : (E σ [(v, [] ++ db.map jb ++ junk)]).get (σ.next + 0) = some (v, [] ++ db.map jb ++ junk) := jnv (k := 0) rfl
 have he : ([] ++ db.map jb ++ junk)[0 + n]? = some (jb db[n]) := by
  rw [List.nil_append, ybo, yba hn2]
  simp [hn]
 have he2 : ([] ++ db.map jb ++ junk)[0 + n]? = some (jb db[n]) := he
 repeat' first|refine yaG ?_|((first|apply yG|apply yH|apply yI);exact rfl;(first|exact wd rfl rfl hq (by simpa using hn2) hg he rfl|exact jm (k := 0) rfl rfl rfl rfl he2 rfl (Nat.le_of_ble_eq_true rfl)))|exact yaF|refine yaS ?_ ?_<;>intro _
 refine .ret rfl ⟨_, rfl, ?_⟩
 have e1 : ([] ++ db.map jb ++ junk).set (0 + n) (jh (jb db[n]) 0 (jb d)) = (db.set n d).map jb ++ junk := by
  rw [List.nil_append, ybo, show jh (jb db[n]) 0 (jb d) = jb d from znm _ _ rfl, jmu hn2, ybk]
 have hz := jbr (σ := σ) (l := [(v, (db.set n d).map jb ++ junk)]) (k := 0) (N := σ.next) (v := v) (ys := (db.set n d).map jb) (junk := junk) rfl (wbn _) (yak _)
 rw [<- e1] at hz
 have e2 : vec (σ.next + 0) v ((db.set n d).map jb) junk = vec (σ.next + 0) v ([] ++ db.map jb) junk := by simp [vec]
 rw [e2] at hz
 exact hz
def outC (db : List Data) (i : Nat) : List (List Ce) := (db.take i).map jb ++ List.replicate (db.length - i) [.nils]
theorem jnm {db : List Data} {i : Nat} (h : i < db.length) : (outC db i)[0 + i]? = some [.nils] := by
 rw [outC, ybo, List.getElem?_append_right (by rw [yag, yas]; omega), List.getElem?_replicate, if_pos (by rw [yag, yas]; omega)]
theorem wmu {db : List Data} {i : Nat} (h : i < db.length) : (outC db i).set (0 + i) (jb db[i]) = outC db (i + 1) := by
 have e1 : db.length - i = (db.length - (i + 1)) + 1 := by omega
 have e2 : i - (db.take i).length = 0 := by rw [yas]; omega
 rw [outC, outC, Nat.zero_add, List.set_append_right _ _ (by simp; omega), List.length_map, e2, e1, List.replicate_succ, List.set_cons_zero, List.take_succ_eq_append_getElem h, List.map_append, List.append_assoc]
 rfl
theorem jly (db : List Data) (hd : db.length <= 60) (hr : ∀ d ∈ db, d.rows.length <= 60 /\ ∀ r ∈ d.rows, r.vals.length <= 34359738368) : Pure Tryz.prog 43 [.c (.fz (db.map jb))] (.c (.fz (db.map jb))) := by
 refine Pure.run mixed wez (yaa rfl) fun σ hS hA => ?_
 clear hA
 have hmk : 24 * db.length <= 140737488355328 := by omega
 repeat' first|refine yaG ?_|((first|apply yG|apply yH|apply yI);exact rfl;(first|exact wc1 rfl rfl hmk))|exact yaF|refine yaS ?_ ?_<;>intro _
 refine Go.keep [0, 3, 4] (Go.loops (I := fun m fr τ => ∃ (i : Nat) (k : Int), m = db.length - i /\ i <= db.length /\ k = i /\
  fr = [(0, .c (.fz (db.map jb))), (3, .c (.sl (σ.next + 0) 0 0 db.length db.length)), (4, .c (.int .i64 k))] /\ τ = E σ [(0, outC db i)]) ?_ _ _ _ ⟨0, _, rfl, Nat.zero_le _, rfl, rfl, by rw [outC]; simp⟩)
 rintro m fr τ ⟨i, k, rfl, hi, hk, rfl, rfl⟩ hrec
 by_cases hlt : i < db.length
 ·obtain ⟨hr1, hr2⟩ := hr _ (yab hlt)
  repeat' first|refine yaG ?_|exact yaF|refine yaS ?_ ?_<;>intro _
  refine Go.keep [0, 3, 4, 5, 6] (Go.loops (I := fun m fr τ => ∃ (j : Nat) (kj : Int) (v : Nat) (junk : List (List Ce)), m = db[i].rows.length - j /\ j <= db[i].rows.length /\ kj = j /\ Jk 2 junk /\
   fr = [(0, .c (.fz (db.map jb))), (3, .c (.sl (σ.next + 0) 0 0 db.length db.length)), (4, .c (.int .i64 k)), (5, .c (vec (σ.next + 1) v ((db[i].rows.take j).map jc) junk)), (6, .c (.int .i64 kj))] /\ τ = E σ [(0, outC db i), (v, (db[i].rows.take j).map jc ++ junk)]) ?_ _ _ _ ⟨0, _, 0, [], rfl, yae _, rfl, Jk.nil, rfl, rfl⟩)
  rintro m fr τ ⟨j, kj, v, junk, rfl, hj, hkj, hjk, rfl, rfl⟩ hrecj
  by_cases hltj : j < db[i].rows.length
  ·have hbd : (((db[i].rows.take j).map jc).length + 1) * 32 <= 140737488355328 := by rw [yag, yas]; omega
   have e1 : (db[i].rows.take j).map jc ++ [jc db[i].rows[j]] = (db[i].rows.take (j + 1)).map jc := by rw [yai hltj, yaq]; rfl
   have cc := zcm db[i].rows[j].vals (hr2 _ (yab hltj))
   repeat' first|refine yaG ?_|((first|apply yG|apply yH|apply yI);exact rfl;(first|exact yX (enc := jb) rfl rfl hk hlt rfl|exact yX (enc := jc) rfl rfl hkj hltj rfl))|(apply Go.sapp1;exact rfl;exact rfl;exact rfl;exact rfl;exact rfl;exact zbf;exact hjk;exact rfl;exact hbd;intro v' junk' hj')|refine yaC (cc) ?_|exact yaF|refine yaS ?_ ?_<;>intro _
   refine Go.keep [0, 3, 4, 5, 6] (hrecj _ _ _ (by omega) ⟨j + 1, _, v', junk', rfl, hltj, wb hkj (by omega), hj', ?_, ?_⟩)
   ·rw [<- e1]; rfl
   ·rw [<- e1]; rfl
  ·clear hrecj
   repeat' first|refine yaG ?_|((first|apply yG|apply yH|apply yI);exact rfl;(first|exact yX (enc := jb) rfl rfl hk hlt rfl))|exact yaF|refine yaS ?_ ?_<;>intro _
   have e1 : db[i].rows.take j = db[i].rows := yan (by omega)
   rw [e1]
   refine Go.freezeN (l := [(0, outC db i)]) (m := [(v, db[i].rows.map jc ++ junk)]) (fr' := [(0, .c (.fz (db.map jb))), (3, .c (.sl (σ.next + 0) 0 0 db.length db.length)), (4, .c (.int .i64 k)), (50, .c (.sl (σ.next + 0) 0 0 db.length db.length)), (51, .c (.int .i64 k)), (53, .agg [.fz (db[i].rows.map jc)])]) hS (fun b hb e he x hx => ?_) (yak _) (.frz rfl (.refl fun y hy => ?_) (.frz rfl (.refl (jgq (yao _))) (.frz rfl (.refl zaq) (.frz rfl (.refl (jgq (yao _))) (.frz rfl (.refl zaq) (.frz rfl (.agg rfl fun j hj0 => ?_) .nil)))))) ?_
   ·rw [List.mem_singleton.1 hb] at he
    rcases List.mem_append.1 he with he | he
    ·exact wbn _ e he x hx
    ·rw [List.eq_of_mem_replicate he] at hx
     rw [List.mem_singleton.1 hx]
     exact .nils
   ·rw [List.mem_singleton.1 hy]
    exact jal (wbn _)
   ·have hz : FrzV (E σ ([(0, outC db i)] ++ [(v, db[i].rows.map jc ++ junk)])) (σ.next + [(0, outC db i)].length) (.c (vec (σ.next + 1) v (db[i].rows.map jc) junk)) (.c (.fz (db[i].rows.map jc))) := jbr (k := 1) rfl (wgx _) (yak _)
    have hj1 : j = 0 := by have hj9 : j < 1 := hj0; omega
    subst hj1
    cases hz with
    | c h => exact h
   have he := jnm hlt
   have hg : (E σ [(0, outC db i)]).get (σ.next + 0) = some (0, outC db i) := jnv (k := 0) rfl
   repeat' first|refine yaG ?_|((first|apply yG|apply yH|apply yI);exact rfl;(first|exact wd rfl rfl hk hlt hg he rfl|exact jm (k := 0) rfl rfl rfl rfl he rfl (yaa rfl)))|exact yaF|refine yaS ?_ ?_<;>intro _
   refine Go.keep [0, 3, 4] (hrec _ _ _ (by omega) ⟨i + 1, _, rfl, hlt, wb hk (by omega), rfl, ?_⟩)
   rw [<- wmu hlt]
   rfl
 ·repeat' first|refine yaG ?_|exact yaF|refine yaS ?_ ?_<;>intro _
  refine .ret rfl ⟨_, rfl, ?_⟩
  have e1 : outC db i = db.map jb ++ [] := by rw [outC, yan (by omega), show db.length - i = 0 by omega]; rfl
  have hz := jbr (σ := σ) (l := [(0, db.map jb ++ [])]) (k := 0) (N := σ.next) (v := 0) (ys := db.map jb) (junk := []) rfl (wbn _) (yak _)
  rw [<- e1] at hz
  have e2 : vec (σ.next + 0) 0 (db.map jb) [] = .sl (σ.next + 0) 0 0 db.length db.length := by simp [vec]
  rw [e2] at hz
  exact hz
def zt (db : List Data) (n : Nat) : List RowD := match db[n]? with | some d => d.rows | none => []
def zat (l : List RowD) (id : Int) : Option RowD := l.find? fun r => r.id == id
def wbw (t : zd) (vals : List Val) : Int := if jax t 0 vals then 2 else if t.checks.any (za7 vals) then 3 else 0
def zgy (t : zd) (i : Nat) : Val := match t.cols[i]? with | some c => c.dflt | none => jy
def zk (t : zd) : Nat -> List Val -> List Val
 | _, [] => []
 | i, v :: l => (if v.k == 0 && wt t i then zgy t i else v) :: zk t (i + 1) l
def wz (l : List RowD) (id : Int) : List RowD := l.filter fun r => !(r.id == id)
def setRow (l : List RowD) (x : RowD) : List RowD := l.map fun r => if r.id == x.id then x else r
def zm (casc : Bool) : List Int -> List Val -> List Val -> List Val
 | [], _, vals => vals
 | c :: cs, w, vals => zm casc cs w.tail (vals.set c.toNat (if casc then w.headD jy else jy))
inductive Chg where
 | del (n : Nat) (id : Int)
 | upd (n : Nat) (id : Int) (vals : List Val) (rep : Bool)
abbrev Res := List Data × Int
def j4 (run : Chg -> List Data -> Res) (n : Nat) : List Int -> List Data -> Res
 | [], db => (db, 0)
 | id :: l, db => if (zat (zt db n) id).isNone then j4 run n l db else if (run (.del n id) db).2 = 0 then j4 run n l (run (.del n id) db).1 else ([], (run (.del n id) db).2)
def w7 (run : Chg -> List Data -> Res) (t : zd) (n : Nat) (x : RowD) (rep : Bool) (db : List Data) : Res :=
 if (decide (0 < (jz (zt db n) (zp t) x.id x.vals).length) && !rep) = true then ([], 4) else j4 run n (jz (zt db n) (zp t) x.id x.vals) db
structure Way where
 act : Int
 wait : Bool
 cols : List Int
def oneF (run : Chg -> List Data -> Res) (n : Nat) (y : Way) (wth : List Val) (gone : Bool) (x : RowD) (db : List Data) : Res :=
 if y.act = 0 then (if y.wait then (db, 0) else ([], 5))
 else if y.act = 1 /\ gone = true then run (.del n x.id) db
 else run (.upd n x.id (zm (y.act == 1) y.cols wth x.vals) false) db
def w9 (run : Chg -> List Data -> Res) (n : Nat) (y : Way) (key wth : List Val) (gone : Bool) : List Int -> List Data -> Res
 | [], db => (db, 0)
 | id :: l, db => match zat (zt db n) id with
  | none => w9 run n y key wth gone l db
  | some x => if hasB y.cols key x.vals = true then (if (oneF run n y wth gone x db).2 = 0 then w9 run n y key wth gone l (oneF run n y wth gone x db).1 else ([], (oneF run n y wth gone x db).2)) else w9 run n y key wth gone l db
def jcm (f : Fk) (gone : Bool) : Way := ⟨if gone then f.onDelete else f.onUpdate, f.deferred, f.cols⟩
def za1 (run : Chg -> List Data -> Res) (name : List UInt8) (i : Nat) (key wth : List Val) (gone : Bool) : List Fk -> List Data -> Res
 | [], db => (db, 0)
 | f :: l, db => if f.table = name then
  (if (w9 run i (jcm f gone) key wth gone (j7 (zt db i) f.cols key) db).2 = 0 then za1 run name i key wth gone l (w9 run i (jcm f gone) key wth gone (j7 (zt db i) f.cols key) db).1
   else ([], (w9 run i (jcm f gone) key wth gone (j7 (zt db i) f.cols key) db).2))
  else za1 run name i key wth gone l db
def jae (run : Chg -> List Data -> Res) (name : List UInt8) (key wth : List Val) (gone : Bool) : Nat -> List zd -> List Data -> Res
 | _, [], db => (db, 0)
 | i, t :: l, db => if (za1 run name i key wth gone t.fks db).2 = 0 then jae run name key wth gone (i + 1) l (za1 run name i key wth gone t.fks db).1 else ([], (za1 run name i key wth gone t.fks db).2)
def tabN (s : List zd) (n : Nat) : zd := match s[n]? with | some t => t | none => ⟨[], [], [], [], [], []⟩
def wu (run : Chg -> List Data -> Res) (s : List zd) (n : Nat) (key wth : List Val) (gone : Bool) (db : List Data) : Res := jae run (tabN s n).name key wth gone 0 s db
def ja4 (s : List zd) (n : Nat) (id : Int) (db : List Data) : Res := match zat (zt db n) id with
 | none => (db, 0)
 | some y => if ((tabN s n).fks.any fun f => jn s db false y.vals f) = true then ([], 5) else (db, 0)
def upd3 (s : List zd) (n : Nat) (id : Int) (d : Res) : Res := if d.2 = 0 then ja4 s n id d.1 else ([], d.2)
def upd2 (run : Chg -> List Data -> Res) (s : List zd) (n : Nat) (id : Int) (vals : List Val) (old : RowD) (db : List Data) : Res :=
 if keyF (tabN s n).key old.vals = keyF (tabN s n).key vals then (db.set n ⟨setRow (zt db n) ⟨id, vals⟩⟩, 0) else wu run s n (keyF (tabN s n).key old.vals) (keyF (tabN s n).key vals) false (db.set n ⟨setRow (zt db n) ⟨id, vals⟩⟩)
def upd1 (run : Chg -> List Data -> Res) (s : List zd) (n : Nat) (id : Int) (vals : List Val) (c : Res) : Res :=
 if c.2 = 0 then (match zat (zt c.1 n) id with
  | none => ([], 9)
  | some old => upd3 s n id (upd2 run s n id vals old c.1)) else ([], c.2)
def updF (run : Chg -> List Data -> Res) (s : List zd) (n : Nat) (id : Int) (vals : List Val) (rep : Bool) (db : List Data) : Res :=
 if wbw (tabN s n) vals = 0 then upd1 run s n id vals (w7 run (tabN s n) n ⟨id, vals⟩ rep db) else ([], wbw (tabN s n) vals)
def chgF (s : List zd) : Nat -> Chg -> List Data -> Res
 | 0, _, _ => ([], 6)
 | k + 1, .del n id, db => match zat (zt db n) id with
  | none => ([], 9)
  | some x => wu (chgF s k) s n (keyF (tabN s n).key x.vals) [] true (db.set n ⟨wz (zt db n) id⟩)
 | k + 1, .upd n id vals0 rep, db => updF (chgF s k) s n id (if rep then zk (tabN s n) 0 vals0 else vals0) rep db
end Go.Proofs.YtmmgbgpglhbhcaaGreat.Am
namespace Go.Proofs.YtmmgbgpglhbhcaaGreat.Am
variable {I : Nat -> Int -> Prop} {Q : Int -> Prop}

structure zdd (Q : Int -> Prop) (t : zd) (l : List RowD) : Prop where
 len : l.length <= 60
 ids : ∀ r ∈ l, Q r.id
 rise : Rise l
 fit : ∀ r ∈ l, r.vals.length = t.cols.length /\ jq r.vals 16 = true
structure DbG (I : Nat -> Int -> Prop) (s : List zd) (db : List Data) : Prop where
 len : db.length = s.length
 rows : ∀ i (h : i < s.length) (h2 : i < db.length), zdd (I i) s[i] db[i].rows
structure SchG (s : List zd) : Prop where
 few : s.length <= 5
 key0 : ∀ t ∈ s, 0 < t.key.length
 big : ∀ t ∈ s, zac 34359738368 t
 ref : ∀ t ∈ s, ∀ f ∈ t.fks, ∃ n, n < s.length /\ wlx s f = (n : Int)
 met : ∀ t ∈ s, ∀ f ∈ t.fks, ∀ n (h : n < s.length), f.table = s[n].name -> f.cols.length = s[n].key.length
 tab : ∀ t ∈ s, jk3 t
 dflt : ∀ t ∈ s, ∀ c ∈ t.cols, zr c.dflt = true
theorem wg {db : List Data} {n : Nat} (h : n < db.length) : zt db n = db[n].rows := by rw [zt, yaf h]
theorem zw {s : List zd} {n : Nat} (h : n < s.length) : tabN s n = s[n] := by rw [tabN, yaf h]
theorem DbG.at {s : List zd} {db : List Data} (h : DbG I s db) {n : Nat} (hn : n < s.length) : zdd (I n) s[n] (zt db n) := by
 rw [wg (by rw [h.len]; exact hn)]
 exact h.rows n hn _
theorem DbG.set {s : List zd} {db : List Data} (h : DbG I s db) {n : Nat} (hn : n < s.length) {l : List RowD} (hl : zdd (I n) s[n] l) : DbG I s (db.set n ⟨l⟩) := by
 refine ⟨by rw [yar]; exact h.len, fun i h1 h2 => ?_⟩
 rw [List.getElem_set]
 split
 ·rename_i e
  subst e
  exact hl
 ·exact h.rows i h1 _
theorem zak {l : List RowD} {id : Int} {x : RowD} (h : zat l id = some x) : x ∈ l /\ x.id = id := ⟨List.mem_of_find?_eq_some h, by simpa using List.find?_some h⟩
theorem zdd.drop {t : zd} {l : List RowD} (h : zdd Q t l) (id : Int) : zdd Q t (wz l id) :=
 ⟨yah (ybn _ _) h.len, fun r hr => h.ids r (List.mem_filter.1 hr).1, List.Pairwise.filter _ h.rise, fun r hr => h.fit r (List.mem_filter.1 hr).1⟩
theorem zdd.set {t : zd} {l : List RowD} (h : zdd Q t l) {x : RowD} (hx : x.vals.length = t.cols.length /\ jq x.vals 16 = true) : zdd Q t (setRow l x) := by
 refine ⟨by rw [setRow, yag]; exact h.len, fun r hr => ?_, ?_, fun r hr => ?_⟩
 ·obtain ⟨q, hq, rfl⟩ := List.mem_map.1 hr
  split
  ·rename_i e
   rw [<- beq_iff_eq.1 e]
   exact h.ids q hq
  ·exact h.ids q hq
 ·refine List.pairwise_map.2 (h.rise.imp fun {a b} hab => ?_)
  have hab : a.id < b.id := hab
  have key : ∀ r : RowD, (if r.id == x.id then x else r).id = r.id := fun r => by
   split
   ·rename_i e
    exact (beq_iff_eq.1 e).symm
   ·rfl
  rw [key, key]
  exact hab
 ·obtain ⟨q, hq, rfl⟩ := List.mem_map.1 hr
  split
  ·exact hx
  ·exact h.fit q hq
theorem je {l : List Val} : jq l 16 = true ↔ l.length <= 16 /\ ∀ v ∈ l, zr v = true := by
 rw [jq, yat, decide_eq_true_eq, List.all_eq_true]
 constructor
 ·rintro ⟨h1, h2⟩
  exact ⟨by omega, h2⟩
 ·rintro ⟨h1, h2⟩
  exact ⟨by omega, h2⟩
theorem jhu {t : zd} (ht : ∀ c ∈ t.cols, zr c.dflt = true) : ∀ {l : List Val} {i : Nat}, (∀ v ∈ l, zr v = true) -> (zk t i l).length = l.length /\ ∀ v ∈ zk t i l, zr v = true
 | [], _, _ => ⟨rfl, fun v hv => by cases hv⟩
 | v :: l, i, h => by
  obtain ⟨h1, h2⟩ := jhu ht (l := l) (i := i + 1) fun w hw => h w (by simp [hw])
  refine ⟨by rw [zk, List.length_cons, List.length_cons, h1], fun w hw => ?_⟩
  rw [zk] at hw
  rcases List.mem_cons.1 hw with rfl | hw
  ·split
   ·rw [zgy]
    split
    ·rename_i c hc
     exact ht c (List.mem_of_getElem? hc)
    ·rfl
   ·exact h v (by simp)
  ·exact h2 w hw
theorem zbg {casc : Bool} : ∀ {cs : List Int} {w vals : List Val}, (∀ v ∈ w, zr v = true) -> (∀ v ∈ vals, zr v = true) -> (zm casc cs w vals).length = vals.length /\ ∀ v ∈ zm casc cs w vals, zr v = true
 | [], _, _, _, h => ⟨rfl, h⟩
 | c :: cs, w, vals, hw, h => by
  rw [zm]
  have hh : zr (if casc = true then w.headD jy else jy) = true := by
   split
   ·cases w with
    | nil => rfl
    | cons a r => exact hw a (by simp)
   ·rfl
  obtain ⟨h1, h2⟩ := zbg (casc := casc) (cs := cs) (w := w.tail) (vals := vals.set c.toNat (if casc = true then w.headD jy else jy)) (fun v hv => hw v (List.mem_of_mem_tail hv)) fun v hv => by
   rcases ybb hv with hv | rfl
   ·exact h v hv
   ·exact hh
  exact ⟨by rw [h1, yar], h2⟩
def jkc (s : List zd) : Chg -> Prop
 | .del n _ => n < s.length
 | .upd n _ vals _ => ∃ h : n < s.length, vals.length = s[n].cols.length /\ jq vals 16 = true
def jgy (I : Nat -> Int -> Prop) (s : List zd) (run : Chg -> List Data -> Res) : Prop := ∀ op db, DbG I s db -> jkc s op -> (run op db).2 = 0 -> DbG I s (run op db).1
section
variable {s : List zd} {run : Chg -> List Data -> Res}
theorem jdd (hr : jgy I s run) {n : Nat} (hn : n < s.length) : ∀ {l : List Int} {db : List Data}, DbG I s db -> (j4 run n l db).2 = 0 -> DbG I s (j4 run n l db).1
 | [], _, h, _ => h
 | id :: l, db, h, h0 => by
  rw [j4] at h0 ⊢
  split
  ·rename_i h1
   rw [if_pos h1] at h0
   exact jdd hr hn h h0
  ·rename_i h1
   rw [if_neg h1] at h0
   split
   ·rename_i h2
    rw [if_pos h2] at h0
    exact jdd hr hn (hr _ _ h hn h2) h0
   ·rename_i h2
    rw [if_neg h2] at h0
    exact absurd h0 h2
theorem wbj (hr : jgy I s run) {n : Nat} (hn : n < s.length) {t : zd} {x : RowD} {rep : Bool} {db : List Data} (h : DbG I s db) (h0 : (w7 run t n x rep db).2 = 0) : DbG I s (w7 run t n x rep db).1 := by
 rw [w7] at h0 ⊢
 split
 ·rename_i h1
  rw [if_pos h1] at h0
  cases h0
 ·rename_i h1
  rw [if_neg h1] at h0
  exact jdd hr hn h h0
theorem wly (hr : jgy I s run) {n : Nat} (hn : n < s.length) {y : Way} {wth : List Val} {gone : Bool} {x : RowD} {db : List Data} (h : DbG I s db) (hw : ∀ v ∈ wth, zr v = true) (hx : x ∈ zt db n) (h0 : (oneF run n y wth gone x db).2 = 0) : DbG I s (oneF run n y wth gone x db).1 := by
 rw [oneF] at h0 ⊢
 split
 ·rename_i h1
  rw [if_pos h1] at h0
  split
  ·exact h
  ·rename_i h2
   rw [if_neg h2] at h0
   cases h0
 ·rename_i h1
  rw [if_neg h1] at h0
  split
  ·rename_i h2
   rw [if_pos h2] at h0
   exact hr _ _ h hn h0
  ·rename_i h2
   rw [if_neg h2] at h0
   obtain ⟨f1, f2⟩ := (h.at hn).fit x hx
   obtain ⟨f3, f4⟩ := je.1 f2
   obtain ⟨g1, g2⟩ := zbg (casc := y.act == 1) (cs := y.cols) hw f4
   exact hr _ _ h ⟨hn, by rw [g1]; exact f1, je.2 ⟨by omega, g2⟩⟩ h0
theorem zbx (hr : jgy I s run) {n : Nat} (hn : n < s.length) {y : Way} {key wth : List Val} {gone : Bool} (hw : ∀ v ∈ wth, zr v = true) : ∀ {l : List Int} {db : List Data}, DbG I s db -> (w9 run n y key wth gone l db).2 = 0 -> DbG I s (w9 run n y key wth gone l db).1
 | [], _, h, _ => h
 | id :: l, db, h, h0 => by
  rw [w9] at h0 ⊢
  cases hb : zat (zt db n) id with
  | none =>
   rw [hb] at h0
   exact zbx hr hn hw h h0
  | some x =>
   rw [hb] at h0
   simp only at h0 ⊢
   split
   ·rename_i h1
    rw [if_pos h1] at h0
    split
    ·rename_i h2
     rw [if_pos h2] at h0
     exact zbx hr hn hw (wly hr hn h hw (zak hb).1 h2) h0
    ·rename_i h2
     rw [if_neg h2] at h0
     exact absurd h0 h2
   ·rename_i h1
    rw [if_neg h1] at h0
    exact zbx hr hn hw h h0
theorem wgy (hr : jgy I s run) {i : Nat} (hi : i < s.length) {name : List UInt8} {key wth : List Val} {gone : Bool} (hw : ∀ v ∈ wth, zr v = true) : ∀ {l : List Fk} {db : List Data}, DbG I s db -> (za1 run name i key wth gone l db).2 = 0 -> DbG I s (za1 run name i key wth gone l db).1
 | [], _, h, _ => h
 | f :: l, db, h, h0 => by
  rw [za1] at h0 ⊢
  split
  ·rename_i h1
   rw [if_pos h1] at h0
   split
   ·rename_i h2
    rw [if_pos h2] at h0
    exact wgy hr hi hw (zbx hr hi hw h h2) h0
   ·rename_i h2
    rw [if_neg h2] at h0
    exact absurd h0 h2
  ·rename_i h1
   rw [if_neg h1] at h0
   exact wgy hr hi hw h h0
theorem zgz (hr : jgy I s run) {name : List UInt8} {key wth : List Val} {gone : Bool} (hw : ∀ v ∈ wth, zr v = true) : ∀ {l : List zd} {i : Nat} {db : List Data}, i + l.length <= s.length -> DbG I s db -> (jae run name key wth gone i l db).2 = 0 -> DbG I s (jae run name key wth gone i l db).1
 | [], _, _, _, h, _ => h
 | t :: l, i, db, hi, h, h0 => by
  rw [List.length_cons] at hi
  rw [jae] at h0 ⊢
  split
  ·rename_i h2
   rw [if_pos h2] at h0
   exact zgz hr hw (by omega) (wgy hr (by omega) hw h h2) h0
  ·rename_i h2
   rw [if_neg h2] at h0
   exact absurd h0 h2
theorem za9 (hr : jgy I s run) {n : Nat} {key wth : List Val} {gone : Bool} (hw : ∀ v ∈ wth, zr v = true) {db : List Data} (h : DbG I s db) (h0 : (wu run s n key wth gone db).2 = 0) : DbG I s (wu run s n key wth gone db).1 :=
 zgz hr hw (by omega) h h0
theorem zmv {n : Nat} {id : Int} {db : List Data} (h : DbG I s db) (h0 : (ja4 s n id db).2 = 0) : DbG I s (ja4 s n id db).1 := by
 rw [ja4] at h0 ⊢
 split
 ·exact h
 ·rename_i y hy
  rw [hy] at h0
  simp only at h0
  split
  ·rename_i h1
   rw [if_pos h1] at h0
   cases h0
  ·exact h
end
theorem zd0 {t : zd} (ht : jk3 t) {vals : List Val} (hl : vals.length = t.cols.length) (hv : jq vals 16 = true) : ∀ v ∈ keyF t.key vals, zr v = true := fun v hv2 => by
 obtain ⟨c, hc, rfl⟩ := List.mem_map.1 hv2
 obtain ⟨h1, h2⟩ := ht.key c hc
 have : c.toNat < vals.length := by omega
 rw [jka, yaf this]
 exact (je.1 hv).2 _ (yab _)
theorem wnm {s : List zd} {run : Chg -> List Data -> Res} (hs : SchG s) (hr : jgy I s run) {n : Nat} (hn : n < s.length) {id : Int} {vals : List Val} (hvv : vals.length = s[n].cols.length /\ jq vals 16 = true) {rep : Bool} {db : List Data} (h : DbG I s db) (h0 : (updF run s n id vals rep db).2 = 0) : DbG I s (updF run s n id vals rep db).1 := by
 rw [updF, zw hn] at h0 ⊢
 split
 ·rename_i h1
  rw [if_pos h1] at h0
  have hc := fun (h2 : (w7 run s[n] n ⟨id, vals⟩ rep db).2 = 0) => wbj hr hn (t := s[n]) (x := ⟨id, vals⟩) (rep := rep) h h2
  generalize w7 run s[n] n ⟨id, vals⟩ rep db = c at h0 hc ⊢
  rw [upd1] at h0 ⊢
  split
  ·rename_i h2
   rw [if_pos h2] at h0
   have hc := hc h2
   generalize c.1 = db1 at h0 hc ⊢
   split
   ·rename_i hx
    rw [hx] at h0
    cases h0
   ·rename_i old hx
    rw [hx] at h0
    simp only at h0
    have hset := hc.set hn ((hc.at hn).set (x := ⟨id, vals⟩) hvv)
    have hd : (upd2 run s n id vals old db1).2 = 0 -> DbG I s (upd2 run s n id vals old db1).1 := fun h3 => by
     rw [upd2, zw hn] at h3 ⊢
     split
     ·exact hset
     ·rename_i h5
      rw [if_neg h5] at h3
      exact za9 hr (zd0 (hs.tab _ (yab hn)) hvv.1 hvv.2) hset h3
    generalize upd2 run s n id vals old db1 = d at h0 hd ⊢
    rw [upd3] at h0 ⊢
    split
    ·rename_i h4
     rw [if_pos h4] at h0
     exact zmv (hd h4) h0
    ·rename_i h4
     rw [if_neg h4] at h0
     exact absurd h0 h4
  ·rename_i h2
   rw [if_neg h2] at h0
   exact absurd h0 h2
 ·rename_i h1
  rw [if_neg h1] at h0
  exact absurd h0 h1
theorem whu {s : List zd} (hs : SchG s) {n : Nat} (hn : n < s.length) {vals : List Val} (hl : vals.length = s[n].cols.length) (hv : jq vals 16 = true) (rep : Bool) : (if rep = true then zk s[n] 0 vals else vals).length = s[n].cols.length /\ jq (if rep = true then zk s[n] 0 vals else vals) 16 = true := by
 split
 ·obtain ⟨g1, g2⟩ := jhu (hs.dflt _ (yab hn)) (i := 0) (je.1 hv).2
  exact ⟨by rw [g1]; exact hl, je.2 ⟨by rw [g1]; exact (je.1 hv).1, g2⟩⟩
 ·exact ⟨hl, hv⟩
theorem wa4 {s : List zd} (hs : SchG s) : ∀ k, jgy I s (chgF s k)
 | 0 => fun op db h ho h0 => by
  rw [chgF] at h0
  cases h0
 | k + 1 => fun op db h ho h0 => by
  have hr := wa4 hs k
  cases op with
  | del n id =>
   have hn : n < s.length := ho
   rw [chgF] at h0 ⊢
   split
   ·rename_i hx
    rw [hx] at h0
    cases h0
   ·rename_i x hx
    rw [hx] at h0
    simp only at h0
    exact za9 hr (fun v hv => by cases hv) (h.set hn ((h.at hn).drop id)) h0
  | upd n id vals0 rep =>
   obtain ⟨hn, hl, hv⟩ := ho
   rw [chgF, zw hn] at h0 ⊢
   exact wnm hs hr hn (whu hs hn hl hv rep) h h0
end Go.Proofs.YtmmgbgpglhbhcaaGreat.Am
