/- Joined texts: A9, A2, A4, A10, A11, A5, A12, A6, A13, A7, A14, A15, A16, A8, A18, A17, A19, A20, A21, A23, A24, A25, A26. -/
import Derived.Test.YtmmgbgpglhbhcaaGreatV1
import Derived.Test.YtmmgbgpglhbhcaaGreatV2
import Derived.Test.YtmmgbgpglhbhcaaGreatV3
import Derived.Test.YtmmgbgpglhbhcaaGreatV4
set_option linter.unusedVariables false
set_option linter.unusedSimpArgs false
namespace Go.Proofs.YtmmgbgpglhbhcaaGreat.Am
def idOf : Ce -> Option Nat | .sl id _ _ _ _ => some id | _ => none
theorem jgz {vals : List Val} : ∀ e ∈ vals.map encV, e.length = 3 /\ ∀ x ∈ e, Flat x := fun e he => by
 obtain ⟨v, _, rfl⟩ := List.mem_map.1 he
 refine ⟨rfl, fun x hx => ?_⟩
 simp only [encV, List.mem_cons, List.not_mem_nil, or_false] at hx
 rcases hx with rfl | rfl | rfl
 ·exact .int _ _
 ·exact .int _ _
 ·exact .str _
theorem znn {τ : wa} {id v : Nat} {ys junk : List (List Ce)} (hg : τ.get id = some (v, ys ++ junk)) (hy : ∀ e ∈ ys, ∀ x ∈ e, Old 0 x) : FrzV τ 0 (.c (vec id v ys junk)) (.c (.fz ys)) := by
 refine .c (.sl _ _ _ _ _ (ys ++ junk) _ (Nat.zero_le _) hg (by simp) rfl (fun i hi => ?_) (fun i j hi hj => ?_))
 ·simp only [Nat.zero_add]
  rw [yap hi]
 ·have e : (ys ++ junk)[0 + i]'(by simp; omega) = ys[i] := by
   simp only [Nat.zero_add]
   rw [yap hi]
  simp only [e]
  exact .same _ (hy _ (yab hi) _ (yab hj))
inductive Vl (τ : wa) : List Val -> Ce -> Prop where
 | nil : Vl τ [] .nils
 | sl (vals : List Val) (id v : Nat) (junk : List (List Ce)) (hg : τ.get id = some (v, vals.map encV ++ junk)) (hj : Jk 3 junk) : Vl τ vals (vec id v (vals.map encV) junk)
theorem Vl.frame {τ τ' : wa} {vals : List Val} {x : Ce} (h : Vl τ vals x) (hf : ∀ a, idOf x = some a -> τ'.get a = τ.get a) : Vl τ' vals x := by
 cases h with
 | nil => exact .nil
 | sl vals id v junk hg hj => exact .sl _ id v junk (by rw [hf id rfl]; exact hg) hj
theorem Vl.frz {τ : wa} {vals : List Val} {x : Ce} (h : Vl τ vals x) : FrzV τ 0 (.c x) (.c (.fz (vals.map encV))) := by
 cases h with
 | nil => exact .c .nil
 | sl vals id v junk hg hj => exact znn hg fun e he x hx => ((jgz e he).2 x hx).old _
abbrev PRow := RowD × Ce
def encP (p : PRow) : List Ce := [.int .i64 p.1.id, p.2]
inductive Tb (τ : wa) (ok : Option Int -> Nat -> Prop) : List RowD -> Ce -> Prop where
 | sl (rows : List RowD) (ps : List PRow) (id v : Nat) (junk : List (List Ce)) (hr : ps.map (·.1) = rows) (hg : τ.get id = some (v, ps.map encP ++ junk)) (hj : Jk 2 junk) (h0 : ok none id)
  (hp : ∀ p ∈ ps, Vl τ p.1.vals p.2 /\ ∀ a, idOf p.2 = some a -> ok (some p.1.id) a) : Tb τ ok rows (vec id v (ps.map encP) junk)
structure ChL where
 c : Nat
 vc : Nat
 d : Nat
 vd : Nat
 junk : List (List Ce)
def cells (xs : List Ce) : List (List Ce) := xs.map fun x => [x]
def Own (L : ChL) (n next : Nat) (lab : Nat -> Nat × Option Int) (i : Nat) (w : Option Int) (a : Nat) : Prop := lab a = (i, w) /\ n <= a /\ a < next /\ a ≠ L.c /\ a ≠ L.d
structure zz (L : ChL) (n : Nat) (s : List zd) (xs : List Ce) (db : List Data) (τ : wa) : Prop where
 c : τ.get L.c = some (L.vc, [[.fz (s.map ja), .sl L.d L.vd 0 db.length (db.length + L.junk.length)]])
 d : τ.get L.d = some (L.vd, cells xs ++ L.junk)
 jk : Jk 1 L.junk
 len : xs.length = db.length
 tb : ∃ lab, ∀ i (h : i < xs.length) (h2 : i < db.length), Tb τ (Own L n τ.next lab i) db[i].rows xs[i]
 nc : n <= L.c
 nd : n <= L.d
 cd : L.c ≠ L.d
 lc : L.c < τ.next
 ld : L.d < τ.next
structure Kept (n : Nat) (τ τ' : wa) : Prop where
 next : τ.next <= τ'.next
 get : ∀ a, a < n -> τ'.get a = τ.get a
 full : ∀ a, a < τ'.next -> (a < τ.next -> (τ.get a).isSome = true) -> (τ'.get a).isSome = true
theorem Kept.refl {n : Nat} {τ : wa} : Kept n τ τ := ⟨yak _, fun _ _ => rfl, fun a ha h => h ha⟩
theorem Kept.trans {n : Nat} {τ τ' τ'' : wa} (h : Kept n τ τ') (k : Kept n τ' τ'') : Kept n τ τ'' := ⟨yah h.next k.next, fun a ha => (k.get a ha).trans (h.get a ha), fun a ha hs => k.full a ha fun h1 => h.full a h1 hs⟩
theorem Kept.put {n : Nat} {τ : wa} {id : Nat} {y : Nat × List (List Ce)} (h : n <= id) : Kept n τ (τ.put id y) := ⟨yak _, fun a ha => if_neg (by omega), fun a ha hs => by
 show (if a = id then _ else _ : Option _).isSome = true
 split
 ·rfl
 ·exact hs ha⟩
theorem Kept.ofE {n : Nat} {τ : wa} (h : n <= τ.next) (l : List (Nat × List (List Ce))) : Kept n τ (E τ l) := ⟨by rw [wx]; exact ybj _ _, fun a ha => E_lt (yav ha h), fun a ha hs => by
 by_cases h1 : a < τ.next
 ·rw [E_lt h1]
  exact hs h1
 ·rw [E_ge h1, yaf (by rw [wx] at ha; omega)]
  rfl⟩
theorem Tb.frame {τ τ' : wa} {ok ok' : Option Int -> Nat -> Prop} {rows : List RowD} {x : Ce} (h : Tb τ ok rows x) (hok : ∀ w a, ok w a -> ok' w a) (hf : ∀ w a, ok w a -> τ'.get a = τ.get a) : Tb τ' ok' rows x := by
 cases h with
 | sl ps id v junk hr hg hj h0 hp => exact .sl _ ps id v junk hr (by rw [hf _ id h0]; exact hg) hj (hok _ _ h0) fun p hm => ⟨(hp p hm).1.frame fun a ha => hf _ a ((hp p hm).2 a ha), fun a ha => hok _ _ ((hp p hm).2 a ha)⟩
theorem Tb.frz {τ : wa} {ok : Option Int -> Nat -> Prop} {rows : List RowD} {x : Ce} (h : Tb τ ok rows x) : FrzV τ 0 (.c x) (.c (.fz (rows.map jc))) := by
 cases h with
 | sl ps id v junk hr hg hj h0 hp =>
  subst hr
  refine .c (.sl _ _ _ _ _ (ps.map encP ++ junk) _ (Nat.zero_le _) hg (by simp) (by simp) (fun i hi => ?_) (fun i j hi hj => ?_))
  ·simp only [Nat.zero_add]
   rw [yap hi]
   simp [jc, encP]
  ·have hi2 : i < ps.length := by simpa using hi
   have e : (ps.map encP ++ junk)[0 + i]'(by simp; omega) = encP ps[i] := by
    simp only [Nat.zero_add]
    rw [yap hi]
    simp
   have e2 : ((ps.map (·.1)).map jc)[i]'(by simp; exact hi2) = jc ps[i].1 := by simp
   have hj2 : j < 2 := by
    rw [e2] at hj
    exact hj
   simp only [e, e2]
   have hj3 : j = 0 \/ j = 1 := by omega
   rcases hj3 with rfl | rfl
   ·exact .same _ (.int _ _)
   ·have h1 := (hp _ (yab hi2)).1.frz
    cases h1 with
    | c h1 => exact h1
theorem Tb.len {τ : wa} {ok : Option Int -> Nat -> Prop} {rows : List RowD} {x : Ce} (h : Tb τ ok rows x) {fr : Fr} {o : Opd} (hx : o.ev fr = some (.c x)) : aop (.len false o) fr τ = some (.c (.int .i64 (rows.length : Int)), τ) := by
 cases h with
 | sl ps id v junk hr hg hj h0 hp => subst hr; simp [aop, hx, vec]
section
variable {L : ChL} {n : Nat} {s : List zd} {xs : List Ce} {db : List Data} {τ : wa}
theorem Own.grow {L : ChL} {n m m' : Nat} {lab : Nat -> Nat × Option Int} {i : Nat} {w : Option Int} {a : Nat} (h : Own L n m lab i w a) (hm : m <= m') : Own L n m' lab i w a := ⟨h.1, h.2.1, yav h.2.2.1 hm, h.2.2.2⟩
theorem zz.mono (h : zz L n s xs db τ) {τ' : wa} (h1 : τ.next <= τ'.next) (hf : ∀ a, a < τ.next -> τ'.get a = τ.get a) : zz L n s xs db τ' where
 c := by rw [hf _ h.lc]; exact h.c
 d := by rw [hf _ h.ld]; exact h.d
 jk := h.jk
 len := h.len
 tb := let ⟨lab, hl⟩ := h.tb; ⟨lab, fun i h3 h2 => (hl i h3 h2).frame (fun w a ha => ha.grow h1) fun w a ha => hf a ha.2.2.1⟩
 nc := h.nc
 nd := h.nd
 cd := h.cd
 lc := yav h.lc h1
 ld := yav h.ld h1
theorem zz.le (h : zz L n s xs db τ) : n <= τ.next := yah h.nc (Nat.le_of_lt h.lc)
theorem zz.grow (h : zz L n s xs db τ) (l : List (Nat × List (List Ce))) : zz L n s xs db (E τ l) := h.mono (by rw [wx]; exact ybj _ _) fun a ha => E_lt ha
theorem Kept.grow (h : zz L n s xs db τ) (l : List (Nat × List (List Ce))) : Kept n τ (E τ l) := .ofE h.le l
theorem jao {junk : List (List Ce)} {i : Nat} (h : i < xs.length) : (cells xs ++ junk)[0 + i]? = some [xs[i]] := by
 rw [Nat.zero_add, List.getElem?_append_left (by simpa [cells] using h)]
 simp [cells, h]
theorem wjl {junk : List (List Ce)} {i : Nat} {x : Ce} (h : i < xs.length) : (cells xs ++ junk).set (0 + i) [x] = cells (xs.set i x) ++ junk := by
 rw [Nat.zero_add, List.set_append_left _ _ (by simpa [cells] using h), cells, cells, List.map_set]
theorem zz.frzR (h : zz L n s xs db τ) {k : Nat} (hk : k < db.length) (hk2 : k < xs.length) : FrzV τ 0 (.c xs[k]) (.c (.fz (db[k].rows.map jc))) := let ⟨_, hl⟩ := h.tb; (hl k hk2 hk).frz
theorem zz.frz (h : zz L n s xs db τ) : FrzV τ 0 (.c (.sl L.d L.vd 0 db.length (db.length + L.junk.length))) (.c (.fz (db.map jb))) := by
 refine .c ?_
 refine .sl _ _ _ _ _ (cells xs ++ L.junk) _ (Nat.zero_le _) h.d (by simp [cells, h.len]) (by simp) (fun i hi => ?_) (fun i j hi hj => ?_)
 ·have hi3 : i < xs.length := by rw [h.len]; exact hi
  have e : (cells xs ++ L.junk)[0 + i]'(by simp [cells]; omega) = [xs[i]] := by
   have := jao (junk := L.junk) hi3
   exact (List.getElem?_eq_some_iff.1 this).2
  rw [e]
  simp [jb]
 ·have hi3 : i < xs.length := by rw [h.len]; exact hi
  have e : (cells xs ++ L.junk)[0 + i]'(by simp [cells]; omega) = [xs[i]] := by
   have := jao (junk := L.junk) hi3
   exact (List.getElem?_eq_some_iff.1 this).2
  have hj0 : j = 0 := by
   simp [jb] at hj
   exact hj
  subst hj0
  have hz := h.frzR hi hi3
  cases hz with
  | c hz =>
   have e1 : ((db.map jb)[i]'(by simpa using hi))[0]'hj = .fz (db[i].rows.map jc) := by simp [jb]
   simp only [e1, e]
   exact hz
theorem zz.upd (h : zz L n s xs db τ) {lab : Nat -> Nat × Option Int} (hl : ∀ i (h : i < xs.length) (h2 : i < db.length), Tb τ (Own L n τ.next lab i) db[i].rows xs[i]) {i : Nat} (hi : i < xs.length) {τ2 : wa} {x : Ce} {rows : List RowD} {new : Nat -> Option Int} (h1 : τ.next <= τ2.next)
 (hf : ∀ a, a < τ.next -> a ≠ L.d -> (¬ ∃ w, Own L n τ.next lab i w a) -> τ2.get a = τ.get a) (hd : τ2.get L.d = some (L.vd, cells (xs.set i x) ++ L.junk)) (ht : Tb τ2 (fun w a => Own L n τ.next lab i w a \/ (τ.next <= a /\ a < τ2.next /\ new a = w)) rows x) :
 zz L n s (xs.set i x) (db.set i ⟨rows⟩) τ2 := by
 refine ⟨?_, hd, h.jk, ?_, ⟨fun a => if a < τ.next then lab a else (i, new a), fun k hk hk2 => ?_⟩, h.nc, h.nd, h.cd, yav h.lc h1, yav h.ld h1⟩
 ·rw [hf _ h.lc h.cd fun ⟨w, hw⟩ => hw.2.2.2.1 rfl, yar]
  exact h.c
 ·rw [yar, yar]; exact h.len
 ·rw [yar] at hk hk2
  simp only [List.getElem_set]
  by_cases e : i = k
  ·subst e
   simp only [if_true]
   refine ht.frame (fun w a ha => ?_) fun _ _ _ => rfl
   rcases ha with ha | ⟨h2, h3, h4⟩
   ·refine ⟨?_, ha.2.1, yav ha.2.2.1 h1, ha.2.2.2⟩
    show (if a < τ.next then lab a else (i, new a)) = (i, w)
    rw [if_pos ha.2.2.1]
    exact ha.1
   ·have := h.lc
    have := h.ld
    have := h.nc
    refine ⟨?_, by omega, h3, by omega, by omega⟩
    show (if a < τ.next then lab a else (i, new a)) = (i, w)
    rw [if_neg (by omega), h4]
  ·simp only [if_neg e]
   refine (hl k hk hk2).frame (fun w a ha => ?_) fun w a ha => ?_
   ·refine ⟨?_, ha.2.1, yav ha.2.2.1 h1, ha.2.2.2⟩
    show (if a < τ.next then lab a else (i, new a)) = (k, w)
    rw [if_pos ha.2.2.1]
    exact ha.1
   ·refine hf a ha.2.2.1 ha.2.2.2.2 fun ⟨w2, h2⟩ => e ?_
    have := h2.1.symm.trans ha.1
    exact congrArg Prod.fst this
end
structure At (L : ChL) (n k : Nat) (lab : Nat -> Nat × Option Int) (τ : wa) (rows : List RowD) (x : Ce) (ps : List PRow) (id v : Nat) (junk : List (List Ce)) : Prop where
 x : x = vec id v (ps.map encP) junk
 get : τ.get id = some (v, ps.map encP ++ junk)
 jk : Jk 2 junk
 rows : ps.map (·.1) = rows
 own : Own L n τ.next lab k none id
 vl : ∀ p ∈ ps, Vl τ p.1.vals p.2 /\ ∀ a, idOf p.2 = some a -> Own L n τ.next lab k (some p.1.id) a
theorem zz.any {L : ChL} {n : Nat} {s : List zd} {xs : List Ce} {db : List Data} {τ : wa} (h : zz L n s xs db τ) {k : Nat} (hk : k < db.length) (hk2 : k < xs.length) :
 ∃ lab ps id v junk, At L n k lab τ db[k].rows xs[k] ps id v junk /\ ∀ i (h : i < xs.length) (h2 : i < db.length), Tb τ (Own L n τ.next lab i) db[i].rows xs[i] := by
 obtain ⟨lab, hl⟩ := h.tb
 have ht := hl k hk2 hk
 generalize hx : xs[k] = x at ht ⊢
 generalize db[k].rows = rows at ht ⊢
 cases ht with
 | sl ps id v junk hr hg hj h00 hp => exact ⟨lab, ps, id, v, junk, ⟨rfl, hg, hj, hr, h00, hp⟩, hl⟩
theorem zz.some {L : ChL} {n : Nat} {s : List zd} {xs : List Ce} {db : List Data} {τ : wa} (h : zz L n s xs db τ) {k : Nat} (hk : k < db.length) (hk2 : k < xs.length) (_ : 0 < db[k].rows.length) :
 ∃ lab ps id v junk, At L n k lab τ db[k].rows xs[k] ps id v junk /\ ∀ i (h : i < xs.length) (h2 : i < db.length), Tb τ (Own L n τ.next lab i) db[i].rows xs[i] := h.any hk hk2
theorem jd0 {L : ChL} {n : Nat} {s : List zd} {xs : List Ce} {db : List Data} {τ : wa} (h : zz L n s xs db τ) {k : Nat} (hk : k < db.length) (hk2 : k < xs.length) {fr : Fr} {o : Opd} (hx : o.ev fr = Option.some (.c xs[k])) : aop (.len false o) fr τ = Option.some (.c (.int .i64 (db[k].rows.length : Int)), τ) :=
 let ⟨_, hl⟩ := h.tb
 (hl k hk2 hk).len hx
section
variable {L : ChL} {n k : Nat} {lab : Nat -> Nat × Option Int} {τ : wa} {rows : List RowD} {x : Ce} {ps : List PRow} {id v : Nat} {junk : List (List Ce)}
theorem At.len (h : At L n k lab τ rows x ps id v junk) : ps.length = rows.length := by
 rw [<- h.rows, yag]
theorem At.row (h : At L n k lab τ rows x ps id v junk) {j : Nat} (hj : j < rows.length) : (ps[j]'(by rw [h.len]; exact hj)).1 = rows[j] := by
 have := h.rows
 subst this
 simp
theorem At.frz (h : At L n k lab τ rows x ps id v junk) {j : Nat} (hj : j < rows.length) : FrzV τ 0 (.c (ps[j]'(by rw [h.len]; exact hj)).2) (.c (.fz (rows[j].vals.map encV))) := by
 have h1 := (h.vl _ (yab (by rw [h.len]; exact hj))).1.frz
 rw [h.row hj] at h1
 exact h1
theorem At.at (h : At L n k lab τ rows x ps id v junk) {j : Nat} (hj : j < rows.length) : (ps.map encP ++ junk)[0 + j]? = Option.some (encP (ps[j]'(by rw [h.len]; exact hj))) := by
 have hj2 : j < ps.length := by rw [h.len]; exact hj
 rw [Nat.zero_add, List.getElem?_append_left (by simpa using hj2)]
 simp [hj2]
end
theorem wax (d : Data) (n : Int) (hx : d.rows.length <= 34359738368) : Pure Tryz.prog 42 [.agg (jb d), .c (.int .i64 n)] (.c (.int .i64 (idxA (fun r : RowD => r.id == n) d.rows 0))) := by
 refine Pure.run mixed wg5 (yaa rfl) fun σ hS hA => ?_
 clear hS hA
 repeat' first|refine yaG ?_|exact yaF|refine yaS ?_ ?_<;>intro _
 refine Go.keep [1, 2, 5] (Go.loops (I := fun m fr τ => ∃ i : Nat, ∃ k : Int, m = d.rows.length - i /\ i <= d.rows.length /\ k = i /\ idxA (fun r : RowD => r.id == n) d.rows 0 = idxA (fun r : RowD => r.id == n) (d.rows.drop i) k /\
  fr = [(1, .c (.int .i64 n)), (2, .c (.fp (jb d))), (5, .c (.int .i64 k))] /\ τ = E σ []) ?_ _ _ _ ⟨0, _, rfl, yae _, rfl, rfl, rfl, rfl⟩)
 rintro m fr τ ⟨i, k, rfl, hi, hn, hsl, rfl, rfl⟩ hrec
 by_cases hlt : i < d.rows.length
 ·repeat' first|refine yaG ?_|((first|apply yG|apply yH|apply yI);exact rfl;(first|exact yX (enc := jc) rfl rfl hn hlt rfl))|exact yaF|refine yaS ?_ ?_<;>intro _
  ·rename_i h
   refine .ret rfl (.int ?_)
   rw [hsl, List.drop_eq_getElem_cons hlt, idxA, if_pos (by rw [h]; simp)]
  ·rename_i h
   refine Go.keep [1, 2, 5] (hrec _ _ _ (by omega) ⟨i + 1, _, rfl, hlt, wb hn (by omega), ?_, rfl, rfl⟩)
   rw [hsl, List.drop_eq_getElem_cons hlt, idxA, if_neg (by simpa using h), jf (by omega) (by omega)]
 ·repeat' first|refine yaG ?_|exact yaF|refine yaS ?_ ?_<;>intro _
  refine .ret rfl (.int ?_)
  rw [hsl, yad (by omega)]
  rfl
theorem zen (t : zd) (vals : List Val) (hl : vals.length = t.cols.length) (hT : jk3 t) (hv : jq vals 16 = true) : Pure Tryz.prog 135 [.agg (ja t), .c (.fz (vals.map encV))] (.c (.int .i64 (wbw t vals))) := by
 refine Pure.run mixed ze7 (yaa rfl) fun σ hS hA => ?_
 clear hS hA
 have c1 := zk4 t vals hl hT.cols8
 have c2 := wka t vals hT.chk3 (fun c hc => by rw [hl]; exact hT.chk c hc) hv
 rw [wbw]
 cases h1 : jax t 0 vals
 ·rw [h1] at c1
  cases h2 : t.checks.any (za7 vals)
  ·rw [h2] at c2
   repeat' first|refine yaG ?_|refine yaC (c1) ?_|refine yaC (c2) ?_|exact yaF|refine yaS ?_ ?_<;>intro _
   exact .ret rfl (.int rfl)
  ·rw [h2] at c2
   repeat' first|refine yaG ?_|refine yaC (c1) ?_|refine yaC (c2) ?_|exact yaF|refine yaS ?_ ?_<;>intro _
   exact .ret rfl (.int rfl)
 ·rw [h1] at c1
  repeat' first|refine yaG ?_|refine yaC (c1) ?_|exact yaF|refine yaS ?_ ?_<;>intro _
  exact .ret rfl (.int rfl)
theorem zlz {r x : RowD} {k : List Int} (h : r.id ≠ x.id) : jc0 [r] x k = jgx x.vals r k := by
 rw [jc0, jgx, j7, List.filter_cons]
 cases hb : hasB k (keyF k x.vals) r.vals
 ·simp
 ·simp [h]
theorem zjm (t : zd) (d : Data) (x : RowD) (hd : d.rows.length <= 60) (hK : jnl t d x) : Pure Tryz.prog 207 [.agg (ja t), .agg (jb d), .agg (jc x)] (.c (.fz ((jz d.rows (zp t) x.id x.vals).map encI))) := by
 refine Pure.run mixed jds (yaa rfl) fun σ hS hA => ?_
 clear hS hA
 repeat' first|refine yaG ?_|exact yaF|refine yaS ?_ ?_<;>intro _
 refine Go.keep [3, 4, 5, 7, 8] (Go.loops (I := fun m fr τ => ∃ (i : Nat) (k : Int) (v : Nat) (junk : List (List Ce)), m = d.rows.length - i /\ i <= d.rows.length /\ k = i /\ Jk 1 junk /\
  fr = [(3, .c (.fp (ja t))), (4, .c (.fp (jb d))), (5, .c (.fp (jc x))), (7, .c (vec (σ.next + 0) v ((jz (d.rows.take i) (zp t) x.id x.vals).map encI) junk)), (8, .c (.int .i64 k))] /\ τ = E σ [(v, (jz (d.rows.take i) (zp t) x.id x.vals).map encI ++ junk)]) ?_ _ _ _ ⟨0, _, 0, [], rfl, yae _, rfl, Jk.nil, rfl, rfl⟩)
 rintro m fr τ ⟨i, k, v, junk, rfl, hi, hk, hj, rfl, rfl⟩ hrec
 by_cases hlt : i < d.rows.length
 ·have hst := weu (keys := zp t) (id := x.id) (vals := x.vals) hlt
  have hlen : (jz (d.rows.take i) (zp t) x.id x.vals).length <= 60 := yah jb4 (by rw [yas]; omega)
  generalize jz (d.rows.take i) (zp t) x.id x.vals = ids at hst hlen ⊢
  have hbd : ((ids.map encI).length + 1) * 8 <= 140737488355328 := by rw [yag]; omega
  have hz1 : ∀ e ∈ ids.map encI, e.length = 1 := fun e he => (waw e he).1
  have e1 : ids.map encI ++ [encI d.rows[i].id] = (ids ++ [d.rows[i].id]).map encI := by simp
  have c1 := zkb t ⟨[d.rows[i]]⟩ x (by simp) hK.uniq hK.len hK.own (fun k hk r hr => by
   have hr2 : r = d.rows[i] := by simpa using hr
   rw [hr2]
   exact hK.far k hk _ (yab hlt))
  by_cases h0 : d.rows[i].id = x.id
  ·rw [show (!(d.rows[i].id == x.id) && (zp t).any (jgx x.vals d.rows[i])) = false by simp [h0], if_neg Bool.false_ne_true, List.append_nil] at hst
   repeat' first|refine yaG ?_|((first|apply yG|apply yH|apply yI);exact rfl;(first|exact yX (enc := jc) rfl rfl hk hlt rfl))|exact yaF|refine yaS ?_ ?_<;>intro _
   exact Go.keep [3, 4, 5, 7, 8] (hrec _ _ _ (by omega) ⟨i + 1, _, v, junk, rfl, hlt, wb hk (by omega), hj, by rw [hst] <;> rfl, by rw [hst] <;> rfl⟩)
  ·have hany : (zp t).any (jc0 (Data.rows ⟨[d.rows[i]]⟩) x) = (zp t).any (jgx x.vals d.rows[i]) := by
    congr 1
    funext k
    exact zlz h0
   rw [hany] at c1
   rw [show (d.rows[i].id == x.id) = false from beq_eq_false_iff_ne.2 h0, Bool.not_false, yay] at hst
   generalize (zp t).any (jgx x.vals d.rows[i]) = B at c1 hst
   cases B
   ·rw [if_neg yaj, ybg] at hst
    repeat' first|refine yaG ?_|((first|apply yG|apply yH|apply yI);exact rfl;(first|exact yX (enc := jc) rfl rfl hk hlt rfl))|refine yaC (c1) ?_|exact yaF|refine yaS ?_ ?_<;>intro _
    exact Go.keep [3, 4, 5, 7, 8] (hrec _ _ _ (by omega) ⟨i + 1, _, v, junk, rfl, hlt, wb hk (by omega), hj, by rw [hst] <;> rfl, by rw [hst] <;> rfl⟩)
   ·rw [if_pos rfl] at hst
    repeat' first|refine yaG ?_|((first|apply yG|apply yH|apply yI);exact rfl;(first|exact yX (enc := jc) rfl rfl hk hlt rfl))|(apply Go.app1;exact rfl;exact rfl;exact rfl;exact rfl;exact rfl;exact hz1;exact hj;exact rfl;exact hbd;intro v' junk' hj')|refine yaC (c1) ?_|exact yaF|refine yaS ?_ ?_<;>intro _
    refine Go.keep [3, 4, 5, 7, 8] (hrec _ _ _ (by omega) ⟨i + 1, _, v', junk', rfl, hlt, wb hk (by omega), hj', ?_, ?_⟩)
    ·rw [hst, <- e1]; rfl
    ·rw [hst, <- e1]; rfl
 ·rw [yan (by omega)]
  repeat' first|refine yaG ?_|exact yaF|refine yaS ?_ ?_<;>intro _
  exact .ret rfl ⟨_, rfl, zh3 (n := 0) (k := 0) rfl wnl (yae _) (yak _)⟩
theorem jlz (d : Data) (n : Int) (hd : d.rows.length <= 60) : Pure Tryz.prog 113 [.agg (jb d), .c (.int .i64 n)] (.agg (jb ⟨wz d.rows n⟩)) := by
 refine Pure.run mixed je5 (yaa rfl) fun σ hS hA => ?_
 clear hS hA
 repeat' first|refine yaG ?_|exact yaF|refine yaS ?_ ?_<;>intro _
 refine Go.keep [1, 2, 4, 5, 6] (Go.loops (I := fun m fr τ => ∃ (i : Nat) (k : Int) (v : Nat) (junk : List (List Ce)), m = d.rows.length - i /\ i <= d.rows.length /\ k = i /\ Jk 2 junk /\
  fr = [(1, .c (.int .i64 n)), (2, .c (.fp (jb d))), (4, .c (.ptr (σ.next + 0) 0 0 0)), (5, .c (vec (σ.next + 1) v ((wz (d.rows.take i) n).map jc) junk)), (6, .c (.int .i64 k))] /\ τ = E σ [(0, [[.nils]]), (v, (wz (d.rows.take i) n).map jc ++ junk)]) ?_ _ _ _ ⟨0, _, 0, [], rfl, yae _, rfl, Jk.nil, rfl, rfl⟩)
 rintro m fr τ ⟨i, k, v, junk, rfl, hi, hk, hj, rfl, rfl⟩ hrec
 have hlen : (wz (d.rows.take i) n).length <= 60 := yah (ybn _ _) (by rw [yas]; omega)
 by_cases hlt : i < d.rows.length
 ·have hst : wz (d.rows.take (i + 1)) n = wz (d.rows.take i) n ++ if (!(d.rows[i].id == n)) = true then [d.rows[i]] else [] := by
   rw [wz, yai hlt, List.filter_append, List.filter_cons, wz]
   split <;> rfl
  generalize wz (d.rows.take i) n = ys at hst hlen ⊢
  have hbd : ((ys.map jc).length + 1) * 32 <= 140737488355328 := by rw [yag]; omega
  have e1 : ys.map jc ++ [jc d.rows[i]] = (ys ++ [d.rows[i]]).map jc := by simp
  by_cases h0 : d.rows[i].id = n
  ·rw [show (d.rows[i].id == n) = true from beq_iff_eq.2 h0, Bool.not_true, if_neg yaj, ybg] at hst
   repeat' first|refine yaG ?_|((first|apply yG|apply yH|apply yI);exact rfl;(first|exact yX (enc := jc) rfl rfl hk hlt rfl))|exact yaF|refine yaS ?_ ?_<;>intro _
   all_goals first
    | contradiction
    | skip
   exact Go.keep [1, 2, 4, 5, 6] (hrec _ _ _ (by omega) ⟨i + 1, _, v, junk, rfl, hlt, wb hk (by omega), hj, by rw [hst] <;> rfl, by rw [hst] <;> rfl⟩)
  ·rw [show (d.rows[i].id == n) = false from beq_eq_false_iff_ne.2 h0, Bool.not_false, if_pos rfl] at hst
   repeat' first|refine yaG ?_|((first|apply yG|apply yH|apply yI);exact rfl;(first|exact yX (enc := jc) rfl rfl hk hlt rfl))|(apply Go.app1;exact rfl;exact rfl;exact rfl;exact rfl;exact rfl;exact zbf;exact hj;exact rfl;exact hbd;intro v' junk' hj')|exact yaF|refine yaS ?_ ?_<;>intro _
   all_goals first
    | contradiction
    | skip
   refine Go.keep [1, 2, 4, 5, 6] (hrec _ _ _ (by omega) ⟨i + 1, _, v', junk', rfl, hlt, wb hk (by omega), hj', ?_, ?_⟩)
   ·rw [hst, <- e1]; rfl
   ·rw [hst, <- e1]; rfl
 ·rw [yan (by omega)] at hlen ⊢
  generalize wz d.rows n = ys at hlen ⊢
  repeat' first|refine yaG ?_|exact yaF|refine yaS ?_ ?_<;>intro _
  refine .ret (jaz rfl rfl rfl (yae _) rfl) ⟨_, rfl, .agg rfl fun j hj0 => ?_⟩
  have hj1 : j = 0 := by simp at hj0; omega
  subst hj1
  have hz : FrzV (E σ [(0, [[vec (σ.next + 1) v (ys.map jc) junk]]), (v, ys.map jc ++ junk)]) σ.next (.c (vec (σ.next + 1) v (ys.map jc) junk)) (.c (.fz (ys.map jc))) :=
   jbr (k := 1) rfl (wgx _) (ybj _ _)
  cases hz with
  | c h => exact h
theorem zhv {n : Nat} (l : List zd) : OldL n (l.map ja) := fun e he c hc => by
 obtain ⟨a, _, rfl⟩ := List.mem_map.1 he
 simp only [ja, List.mem_cons, List.not_mem_nil, or_false] at hc
 rcases hc with rfl | rfl | rfl | rfl | rfl | rfl
 ·exact .str _
 ·exact jal (jnj _)
 ·exact jal (wj6 _)
 ·exact jal (jmr _)
 ·exact jal (wnj _)
 ·exact jal (jnx _)
theorem wd0 {α : Type} (p : α -> Bool) : ∀ (l : List α) (i : Int), (idxA p l i = -1 /\ l.find? p = none) \/ ∃ k, ∃ h : k < l.length, idxA p l i = i + (k : Int) /\ l.find? p = some l[k]
 | [], i => .inl ⟨rfl, rfl⟩
 | a :: l, i => by
  rw [idxA, List.find?_cons]
  cases h : p a
  ·rcases wd0 p l (i + 1) with ⟨h1, h2⟩ | ⟨k, hk, h1, h2⟩
   ·exact .inl ⟨h1, h2⟩
   ·exact .inr ⟨k + 1, by simpa using hk, by simp only [Bool.false_eq_true, if_false]; rw [h1]; omega, h2⟩
  ·exact .inr ⟨0, by simp, by simp, rfl⟩
theorem wo (l : List RowD) (id : Int) : (idxA (fun r : RowD => r.id == id) l 0 = -1 /\ zat l id = none) \/ ∃ k, ∃ h : k < l.length, idxA (fun r : RowD => r.id == id) l 0 = (k : Int) /\ zat l id = some l[k] := by
 rcases wd0 (fun r : RowD => r.id == id) l 0 with h | ⟨k, hk, h1, h2⟩
 ·exact .inl h
 ·exact .inr ⟨k, hk, by rw [h1]; omega, h2⟩
theorem wev {t : zd} : ∀ {l : List Val} {i k : Nat}, (h : i < l.length) -> zk t k (l.take (i + 1)) = zk t k (l.take i) ++ [if l[i].k == 0 && wt t (k + i) then zgy t (k + i) else l[i]]
 | [], i, k, h => by simp at h
 | v :: l, 0, k, h => by simp [zk]
 | v :: l, i + 1, k, h => by
  rw [List.take_succ_cons, zk, wev (by simpa using h), List.take_succ_cons, zk]
  simp only [List.cons_append, List.getElem_cons_succ]
  rw [show ((k + 1 : Nat) : Int) + (i : Int) = (k : Int) + ((i + 1 : Nat) : Int) by omega, show k + 1 + i = k + (i + 1) by omega]
theorem wip {n : Nat} {t : zd} : ∀ y ∈ (AV.c (.fp (ja t))).all, Old n y := fun y hy => by
 simp only [AV.all, List.mem_singleton] at hy
 subst hy
 exact .fp _ fun j hj => zhv [t] _ (List.mem_singleton.2 rfl) _ (yab hj)
theorem wgz {t : zd} : ∀ {l : List Val} {i : Nat}, (zk t i l).length = l.length
 | [], _ => rfl
 | v :: l, i => by rw [zk, List.length_cons, List.length_cons, wgz]
theorem zg0 (t : zd) (vals : List Val) (hl : vals.length = t.cols.length) (hc : t.cols.length <= 8) : Pure Tryz.prog 134 [.agg (ja t), .c (.fz (vals.map encV))] (.c (.fz ((zk t 0 vals).map encV))) := by
 refine Pure.run mixed wdo (yaa rfl) fun σ hS hA => ?_
 clear hA
 repeat' first|refine yaG ?_|exact yaF|refine yaS ?_ ?_<;>intro _
 refine Go.keep [1, 2, 5, 6] (Go.loops (I := fun m fr τ => ∃ (i : Nat) (k : Int) (v : Nat) (junk : List (List Ce)), m = vals.length - i /\ i <= vals.length /\ k = i /\ Jk 3 junk /\
  fr = [(1, .c (.fz (vals.map encV))), (2, .c (.fp (ja t))), (5, .c (vec (σ.next + 0) v ((zk t 0 (vals.take i)).map encV) junk)), (6, .c (.int .i64 k))] /\ τ = E σ [(v, (zk t 0 (vals.take i)).map encV ++ junk)]) ?_ _ _ _ ⟨0, _, 0, [], rfl, yae _, rfl, Jk.nil, rfl, rfl⟩)
 rintro m fr τ ⟨i, k, v, junk, rfl, hi, hk, hj, rfl, rfl⟩ hrec
 have hlen : (zk t 0 (vals.take i)).length <= 8 := by rw [wgz, yas]; omega
 by_cases hlt : i < vals.length
 ·have hlc : i < t.cols.length := by omega
  have hnn : wt t ((0 : Nat) + i) = t.cols[i].notNull := by rw [wt, show ((0 : Nat) : Int) + (i : Int) = (i : Int) by omega, ybm, yaf hlc]
  have hdf : zgy t (0 + i) = t.cols[i].dflt := by rw [zgy, ybo, yaf hlc]
  have hst := wev (t := t) (k := 0) hlt
  rw [hnn, hdf] at hst
  generalize zk t 0 (vals.take i) = ys at hst hlen ⊢
  have hbd : ((ys.map encV).length + 1) * 32 <= 140737488355328 := by rw [yag]; omega
  by_cases h0 : vals[i].k = 0
  ·cases hb : t.cols[i].notNull
   ·rw [hb, ybh, if_neg yaj] at hst
    repeat' first|refine yaN ?_|((first|apply yG|apply yH|apply yI);exact rfl;(first|exact yX (enc := encV) rfl rfl hk hlt rfl|exact yX (enc := zg) rfl rfl hk hlc rfl))|(apply Go.app1;exact rfl;exact rfl;exact rfl;exact rfl;exact rfl;exact lens;exact hj;exact rfl;exact hbd;intro v' junk' hj')|exact yaF|refine yaS ?_ ?_<;>intro _
    all_goals first
     |(refine Go.freezeN (l := [(v', ys.map encV ++ [encV vals[i]] ++ junk')]) (m := [(0, [encV vals[i]])]) (fr' := [(1, .c (.fz (vals.map encV))), (2, .c (.fp (ja t))), (5, .c (vec (σ.next + 0) v' (ys.map encV ++ [encV vals[i]]) junk')), (6, .c (.int .i64 (IntKind.i64.wrap (k + 1))))]) hS (fun b hb e he x hx => ?_) (yak _) (.frz rfl (.refl wav) (.frz rfl (.refl wip) (.frz rfl (.refl (jgq (yao _))) (.frz rfl (.refl zaq) .nil)))) ?_
       ·rw [List.mem_singleton.1 hb] at he
        rcases List.mem_append.1 he with he | he
        ·rw [show ys.map encV ++ [encV vals[i]] = (ys ++ [vals[i]]).map encV by simp] at he
         exact (wfg e he x hx).old _
        ·exact ((hj' e he).2 x hx).old _
       ·exact hrec _ _ _ (by omega) ⟨i + 1, _, v', junk', rfl, hlt, wb hk (by omega), hj', by rw [hst, yaq] <;> rfl, by rw [hst, yaq] <;> rfl⟩)
     |(exfalso; simp_all; done)
   ·rw [hb, h0, if_pos (by decide)] at hst
    repeat' first|refine yaN ?_|((first|apply yG|apply yH|apply yI);exact rfl;(first|exact yX (enc := encV) rfl rfl hk hlt rfl|exact yX (enc := zg) rfl rfl hk hlc rfl))|(apply Go.app1;exact rfl;exact rfl;exact rfl;exact rfl;exact rfl;exact lens;exact hj;exact rfl;exact hbd;intro v' junk' hj')|exact yaF|refine yaS ?_ ?_<;>intro _
    all_goals first
     |(refine Go.freezeN (l := [(v', ys.map encV ++ [encV t.cols[i].dflt] ++ junk')]) (m := [(0, [encV t.cols[i].dflt])]) (fr' := [(1, .c (.fz (vals.map encV))), (2, .c (.fp (ja t))), (5, .c (vec (σ.next + 0) v' (ys.map encV ++ [encV t.cols[i].dflt]) junk')), (6, .c (.int .i64 (IntKind.i64.wrap (k + 1))))]) hS (fun b hb e he x hx => ?_) (yak _) (.frz rfl (.refl wav) (.frz rfl (.refl wip) (.frz rfl (.refl (jgq (yao _))) (.frz rfl (.refl zaq) .nil)))) ?_
       ·rw [List.mem_singleton.1 hb] at he
        rcases List.mem_append.1 he with he | he
        ·rw [show ys.map encV ++ [encV t.cols[i].dflt] = (ys ++ [t.cols[i].dflt]).map encV by simp] at he
         exact (wfg e he x hx).old _
        ·exact ((hj' e he).2 x hx).old _
       ·exact hrec _ _ _ (by omega) ⟨i + 1, _, v', junk', rfl, hlt, wb hk (by omega), hj', by rw [hst, yaq] <;> rfl, by rw [hst, yaq] <;> rfl⟩)
     |(exfalso; simp_all; done)
  ·rw [beq_eq_false_iff_ne.2 h0, ybe, if_neg yaj] at hst
   repeat' first|refine yaN ?_|((first|apply yG|apply yH|apply yI);exact rfl;(first|exact yX (enc := encV) rfl rfl hk hlt rfl|exact yX (enc := zg) rfl rfl hk hlc rfl))|(apply Go.app1;exact rfl;exact rfl;exact rfl;exact rfl;exact rfl;exact lens;exact hj;exact rfl;exact hbd;intro v' junk' hj')|exact yaF|refine yaS ?_ ?_<;>intro _
   all_goals first
    |(refine Go.freezeN (l := [(v', ys.map encV ++ [encV vals[i]] ++ junk')]) (m := [(0, [encV vals[i]])]) (fr' := [(1, .c (.fz (vals.map encV))), (2, .c (.fp (ja t))), (5, .c (vec (σ.next + 0) v' (ys.map encV ++ [encV vals[i]]) junk')), (6, .c (.int .i64 (IntKind.i64.wrap (k + 1))))]) hS (fun b hb e he x hx => ?_) (yak _) (.frz rfl (.refl wav) (.frz rfl (.refl wip) (.frz rfl (.refl (jgq (yao _))) (.frz rfl (.refl zaq) .nil)))) ?_
      ·rw [List.mem_singleton.1 hb] at he
       rcases List.mem_append.1 he with he | he
       ·rw [show ys.map encV ++ [encV vals[i]] = (ys ++ [vals[i]]).map encV by simp] at he
        exact (wfg e he x hx).old _
       ·exact ((hj' e he).2 x hx).old _
      ·exact hrec _ _ _ (by omega) ⟨i + 1, _, v', junk', rfl, hlt, wb hk (by omega), hj', by rw [hst, yaq] <;> rfl, by rw [hst, yaq] <;> rfl⟩)
    |(exfalso; simp_all; done)
 ·rw [yan (by omega)] at hlen ⊢
  generalize zk t 0 vals = ys at hlen ⊢
  repeat' first|refine yaG ?_|exact yaF|refine yaS ?_ ?_<;>intro _
  exact .ret rfl ⟨_, rfl, zb3 (k := 0) rfl (ybj _ _)⟩
def wcm (l : List RowD) : Int := match l.getLast? with | some r => r.id + 1 | none => 1
theorem wfk {l : List RowD} {k : Nat} (h : k < l.length) (hk : k + 1 = l.length) : wcm l = l[k].id + 1 := by
 rw [wcm, List.getLast?_eq_getElem?, show l.length - 1 = k by omega, yaf h]
theorem jk5 (d : Data) (hn : d.rows.length <= 60) (hid : ∀ r ∈ d.rows, 1 <= r.id /\ r.id <= 1000000000) : Pure Tryz.prog 148 [.agg (jb d)] (.c (.int .i64 (wcm d.rows))) := by
 refine Pure.run mixed ze8 (yaa rfl) fun σ hS hA => ?_
 clear hS hA
 by_cases h0 : 0 < d.rows.length
 ·have hlt : d.rows.length - 1 < d.rows.length := by omega
  have h1 : IntKind.i64.wrap ((d.rows.length : Int) - 1) = ((d.rows.length - 1 : Nat) : Int) := by rw [jf (by omega) (by omega)]; omega
  have hne : ¬ (d.rows.length : Int) = 0 := by omega
  have hi := hid _ (yab hlt)
  rw [wfk hlt (by omega)]
  repeat' first|refine yaG ?_|((first|apply yG|apply yH|apply yI);exact rfl;(first|exact yX (enc := jc) rfl rfl h1 hlt rfl))|exact yaF|refine yaS ?_ ?_<;>intro _
  exact .ret rfl (.int (jf (by omega) (by omega)))
 ·have he : (d.rows.length : Int) = 0 := by omega
  have hz : d.rows = [] := yal (by omega)
  have h1 : wcm d.rows = 1 := by rw [hz]; rfl
  rw [h1]
  repeat' first|refine yaG ?_|exact yaF|refine yaS ?_ ?_<;>intro _
  exact .ret rfl (.int rfl)
def jfh (x : RowD) : Bool -> List RowD -> List RowD
 | b, [] => if b then [] else [x]
 | b, r :: l => (if (!b && decide (x.id <= r.id)) = true then [x] else []) ++ (if r.id = x.id then [] else [r]) ++ jfh x (b || decide (x.id <= r.id)) l
theorem jhv {x : RowD} : ∀ {l : List RowD}, (∀ r ∈ l, x.id < r.id) -> jfh x true l = l
 | [], _ => rfl
 | r :: l, h => by
  have h1 := h r (by simp)
  have h2 := jhv (x := x) (l := l) fun q hq => h q (by simp [hq])
  rw [jfh, Bool.true_or, h2]
  simp [show ¬ r.id = x.id by omega]
theorem whv {x : RowD} : ∀ {l : List RowD}, (∀ r ∈ l, x.id < r.id) -> setRow l x = l
 | [], _ => rfl
 | r :: l, h => by
  have h1 := h r (by simp)
  have h2 := whv (x := x) (l := l) fun q hq => h q (by simp [hq])
  rw [setRow] at h2 ⊢
  rw [List.map_cons, h2]
  simp [show ¬ r.id = x.id by omega]
theorem jg0 {x : RowD} : ∀ {l : List RowD}, Rise l -> (∃ r ∈ l, r.id = x.id) -> jfh x false l = setRow l x
 | [], _, h => by obtain ⟨r, hr, _⟩ := h; cases hr
 | r :: l, hl, h => by
  obtain ⟨h1, h2⟩ := List.pairwise_cons.1 hl
  rw [jfh, setRow, List.map_cons]
  by_cases he : r.id = x.id
  ·have h3 : ∀ q ∈ l, x.id < q.id := fun q hq => by have := h1 q hq; omega
   have h4 := whv h3
   rw [setRow] at h4
   rw [h4, show (false || decide (x.id <= r.id)) = true by simp [he], jhv h3]
   simp [he]
  ·obtain ⟨q, hq, hqi⟩ := h
   rcases List.mem_cons.1 hq with rfl | hq
   ·exact absurd hqi he
   ·have h3 : ¬ x.id <= r.id := by have := h1 q hq; omega
    have h4 := jg0 h2 ⟨q, hq, hqi⟩
    rw [setRow] at h4
    rw [show (false || decide (x.id <= r.id)) = false by simp [h3], h4]
    simp [he, h3]
set_option maxHeartbeats 1000000 in
theorem wg0 (d : Data) (x : RowD) (hd : d.rows.length <= 60) : Pure Tryz.prog 137 [.agg (jb d), .agg (jc x)] (.agg (jb ⟨jfh x false d.rows⟩)) := by
 refine Pure.run mixed zf3 (yaa rfl) fun σ hS hA => ?_
 clear hS hA
 repeat' first|refine yaG ?_|exact yaF|refine yaS ?_ ?_<;>intro _
 refine Go.keep [2, 3, 4, 5, 6, 7] (Go.loops (I := fun m fr τ => ∃ (i : Nat) (k : Int) (v : Nat) (junk : List (List Ce)) (acc : List RowD) (b : Bool), m = d.rows.length - i /\ i <= d.rows.length /\ k = i /\ Jk 2 junk /\ (acc ++ jfh x b (d.rows.drop i) = jfh x false d.rows /\ acc.length <= 2 * i) /\
  fr = [(2, .c (.fp (jb d))), (3, .c (.fp (jc x))), (4, .c (.ptr (σ.next + 0) 0 0 0)), (5, .c (vec (σ.next + 1) v (acc.map jc) junk)), (6, .c (.bool b)), (7, .c (.int .i64 k))] /\ τ = E σ [(0, [[.nils]]), (v, acc.map jc ++ junk)]) ?_ _ _ _ ⟨0, _, 0, [], [], false, rfl, yae _, rfl, Jk.nil, ⟨rfl, yak _⟩, rfl, rfl⟩)
 rintro m fr τ ⟨i, k, v, junk, acc, b, rfl, hi, hk, hj, ⟨hst, hal⟩, rfl, rfl⟩ hrec
 have hlen : acc.length <= 120 := by omega
 have hbd : ((acc.map jc).length + 1) * 32 <= 140737488355328 := by rw [yag]; exact yah (yam 32 (Nat.succ_le_succ hlen)) (by decide)
 have hbd2 : ((acc.map jc ++ [jc x]).length + 1) * 32 <= 140737488355328 := by rw [List.length_append, yag, List.length_singleton]; exact yah (yam 32 (Nat.succ_le_succ (Nat.succ_le_succ hlen))) (by decide)
 by_cases hlt : i < d.rows.length
 ·rw [yac hlt, jfh] at hst
  cases b
  ·by_cases hge : x.id <= d.rows[i].id
   ·by_cases he : d.rows[i].id = x.id
    ·have h1 : ¬ d.rows[i].id ≠ x.id := fun h => h he
     repeat' first|refine yaG ?_|((first|apply yG|apply yH|apply yI);exact rfl;(first|exact yX (enc := jc) rfl rfl hk hlt rfl))|(apply Go.app1;exact rfl;exact rfl;exact rfl;exact rfl;exact rfl;exact zbf;exact hj;exact rfl;exact hbd;intro v' junk' hj')|exact yaF|refine yaS ?_ ?_<;>intro _
     all_goals first
      |(exfalso; omega)
      | contradiction
      | skip
     refine Go.keep [2, 3, 4, 5, 6, 7] (hrec _ _ _ (by omega) ⟨i + 1, _, v', junk', acc ++ [x], true, rfl, hlt, wb hk (by omega), hj', ⟨?_, by simp only [List.length_append, List.length_singleton]; omega⟩, ?_, ?_⟩)
     ·rw [<- hst]
      simp [he]
     ·simp only [List.map_append, List.map_cons, List.map_nil, List.append_assoc] <;> rfl
     ·simp only [List.map_append, List.map_cons, List.map_nil, List.append_assoc] <;> rfl
    ·have lens2 : ∀ e ∈ acc.map jc ++ [jc x], e.length = 2 := fun e h => by
      rw [show acc.map jc ++ [jc x] = (acc ++ [x]).map jc by simp] at h
      exact zbf e h
     repeat' first|refine yaG ?_|((first|apply yG|apply yH|apply yI);exact rfl;(first|exact yX (enc := jc) rfl rfl hk hlt rfl))|(apply Go.app1 (v := v) (hj := hj);exact rfl;exact rfl;exact rfl;exact rfl;exact rfl;exact zbf;exact rfl;exact hbd;intro v' junk' hj')|(apply Go.app1 (v := v') (hj := hj');exact rfl;exact rfl;exact rfl;exact rfl;exact rfl;exact lens2;exact rfl;exact hbd2;intro v2 junk2 hj2)|exact yaF|refine yaS ?_ ?_<;>intro _
     all_goals first
      |(exfalso; omega)
      | contradiction
      | skip
     refine Go.keep [2, 3, 4, 5, 6, 7] (hrec _ _ _ (by omega) ⟨i + 1, _, v2, junk2, acc ++ [x] ++ [d.rows[i]], true, rfl, hlt, wb hk (by omega), hj2, ⟨?_, by simp only [List.length_append, List.length_singleton]; omega⟩, ?_, ?_⟩)
     ·rw [<- hst]
      simp [he, hge]
     ·simp only [List.map_append, List.map_cons, List.map_nil, List.append_assoc] <;> rfl
     ·simp only [List.map_append, List.map_cons, List.map_nil, List.append_assoc] <;> rfl
   ·have he : ¬ d.rows[i].id = x.id := by omega
    repeat' first|refine yaG ?_|((first|apply yG|apply yH|apply yI);exact rfl;(first|exact yX (enc := jc) rfl rfl hk hlt rfl))|(apply Go.app1;exact rfl;exact rfl;exact rfl;exact rfl;exact rfl;exact zbf;exact hj;exact rfl;exact hbd;intro v' junk' hj')|exact yaF|refine yaS ?_ ?_<;>intro _
    all_goals first
     |(exfalso; omega)
     | contradiction
     | skip
    refine Go.keep [2, 3, 4, 5, 6, 7] (hrec _ _ _ (by omega) ⟨i + 1, _, v', junk', acc ++ [d.rows[i]], false, rfl, hlt, wb hk (by omega), hj', ⟨?_, by simp only [List.length_append, List.length_singleton]; omega⟩, ?_, ?_⟩)
    ·rw [<- hst]
     simp [he, hge]
    ·simp only [List.map_append, List.map_cons, List.map_nil, List.append_assoc] <;> rfl
    ·simp only [List.map_append, List.map_cons, List.map_nil, List.append_assoc] <;> rfl
  ·by_cases he : d.rows[i].id = x.id
   ·have h1 : ¬ d.rows[i].id ≠ x.id := fun h => h he
    repeat' first|refine yaG ?_|((first|apply yG|apply yH|apply yI);exact rfl;(first|exact yX (enc := jc) rfl rfl hk hlt rfl))|(apply Go.app1;exact rfl;exact rfl;exact rfl;exact rfl;exact rfl;exact zbf;exact hj;exact rfl;exact hbd;intro v' junk' hj')|exact yaF|refine yaS ?_ ?_<;>intro _
    all_goals first
     |(exfalso; omega)
     | contradiction
     | skip
    refine Go.keep [2, 3, 4, 5, 6, 7] (hrec _ _ _ (by omega) ⟨i + 1, _, v, junk, acc, true, rfl, hlt, wb hk (by omega), hj, ⟨?_, by omega⟩, ?_, ?_⟩)
    ·rw [<- hst]
     simp [he]
    ·rfl
    ·rfl
   ·repeat' first|refine yaG ?_|((first|apply yG|apply yH|apply yI);exact rfl;(first|exact yX (enc := jc) rfl rfl hk hlt rfl))|(apply Go.app1;exact rfl;exact rfl;exact rfl;exact rfl;exact rfl;exact zbf;exact hj;exact rfl;exact hbd;intro v' junk' hj')|exact yaF|refine yaS ?_ ?_<;>intro _
    all_goals first
     |(exfalso; omega)
     | contradiction
     | skip
    refine Go.keep [2, 3, 4, 5, 6, 7] (hrec _ _ _ (by omega) ⟨i + 1, _, v', junk', acc ++ [d.rows[i]], true, rfl, hlt, wb hk (by omega), hj', ⟨?_, by simp only [List.length_append, List.length_singleton]; omega⟩, ?_, ?_⟩)
    ·rw [<- hst]
     simp [he]
    ·simp only [List.map_append, List.map_cons, List.map_nil, List.append_assoc] <;> rfl
    ·simp only [List.map_append, List.map_cons, List.map_nil, List.append_assoc] <;> rfl
 ·rw [yad (by omega), jfh] at hst
  cases b
  ·rw [if_neg yaj] at hst
   rw [<- hst]
   repeat' first|refine yaG ?_|(apply Go.app1;exact rfl;exact rfl;exact rfl;exact rfl;exact rfl;exact zbf;exact hj;exact rfl;exact hbd;intro v' junk' hj')|exact yaF|refine yaS ?_ ?_<;>intro _
   refine .ret (jaz rfl rfl rfl (yae _) rfl) ⟨_, rfl, .agg rfl fun j hj0 => ?_⟩
   have hj1 : j = 0 := by simp at hj0; omega
   subst hj1
   have e1 : acc.map jc ++ [jc x] = (acc ++ [x]).map jc := by simp
   have hz : FrzV (E σ [(0, [[vec (σ.next + 1) v' (acc.map jc ++ [jc x]) junk']]), (v', acc.map jc ++ [jc x] ++ junk')]) σ.next (.c (vec (σ.next + 1) v' (acc.map jc ++ [jc x]) junk')) (.c (.fz (acc.map jc ++ [jc x]))) :=
    jbr (k := 1) rfl (by rw [e1]; exact wgx _) (ybj _ _)
   cases hz with
   | c h =>
    have h2 : Frz (E σ [(0, [[vec (σ.next + 1) v' (acc.map jc ++ [jc x]) junk']]), (v', acc.map jc ++ [jc x] ++ junk')]) σ.next (vec (σ.next + 1) v' (acc.map jc ++ [jc x]) junk') (.fz ((acc ++ [x]).map jc)) := by
     rw [<- e1]
     exact h
    exact h2
  ·rw [if_pos rfl, ybg] at hst
   rw [<- hst]
   repeat' first|refine yaG ?_|exact yaF|refine yaS ?_ ?_<;>intro _
   refine .ret (jaz rfl rfl rfl (yae _) rfl) ⟨_, rfl, .agg rfl fun j hj0 => ?_⟩
   have hj1 : j = 0 := by simp at hj0; omega
   subst hj1
   have hz : FrzV (E σ [(0, [[vec (σ.next + 1) v (acc.map jc) junk]]), (v, acc.map jc ++ junk)]) σ.next (.c (vec (σ.next + 1) v (acc.map jc) junk)) (.c (.fz (acc.map jc))) :=
    jbr (k := 1) rfl (wgx _) (ybj _ _)
   cases hz with
   | c h => exact h
theorem wlz (rows : List RowD) (cols : List Int) (key : List Val) (hr : rows.length <= 1048576) (hx : cols.length <= 34359738368) (hi : ∀ r ∈ rows, InR cols r.vals.length) (σ : wa) : Ok Tryz.prog 198 [.c (.fz (rows.map jc)), .c (.fz (cols.map encI)), .c (.fz (key.map encV))] σ (NewV σ (.c (.fz ((j7 rows cols key).map encI)))) := by
 refine Ok.run mixed jcf (yaa rfl) fun hS hA => ?_
 clear hS hA
 repeat' first|refine yaG ?_|exact yaF|refine yaS ?_ ?_<;>intro _
 refine Go.keep [1, 2, 7, 11, 12, 13] (Go.loops (I := fun m fr τ => ∃ (i : Nat) (k : Int) (v : Nat) (junk : List (List Ce)) (ids : List Int), m = rows.length - i /\ i <= rows.length /\ k = i /\ Jk 1 junk /\ ids = j7 (rows.take i) cols key /\
  fr = [(1, .c (.fz (cols.map encI))), (2, .c (.fz (key.map encV))), (7, .c (vec (σ.next + 0) v (ids.map encI) junk)), (11, .c (.fz (rows.map jc))), (12, .c (.int .i64 (rows.length : Int))), (13, .c (.int .i64 k))] /\ τ = E σ [(v, ids.map encI ++ junk)]) ?_ _ _ _ ⟨0, _, 0, [], [], rfl, yae _, rfl, Jk.nil, rfl, rfl, rfl⟩)
 rintro m fr τ ⟨i, k, v, junk, ids, rfl, hile, hk, hj, hids, rfl, rfl⟩ hrec
 by_cases hlt : i < rows.length
 ·have c1 := zkn cols rows[i].vals key hx (hi _ (yab hlt))
  have hn := wdc (cols := cols) (key := key) hlt
  rw [<- hids] at hn
  have hl : (ids.map encI).length <= 1048576 := by rw [yag, hids]; have := wcq (rows := rows.take i) (cols := cols) (key := key); rw [yas] at this; omega
  have hbd : ((ids.map encI).length + 1) * 8 <= 140737488355328 := by omega
  have hz1 : ∀ e ∈ ids.map encI, e.length = 1 := fun e he => (waw e he).1
  have e1 : ids.map encI ++ [encI rows[i].id] = (ids ++ [rows[i].id]).map encI := by simp
  clear hi
  cases hb : hasB cols key rows[i].vals
  ·rw [hb] at c1 hn
   rw [if_neg yaj, ybg] at hn
   repeat' first|refine yaG ?_|((first|apply yG|apply yH|apply yI);exact rfl;(first|exact yX (enc := jc) rfl rfl hk hlt rfl))|refine yaC (c1) ?_|exact yaF|refine yaS ?_ ?_<;>intro _
   exact Go.keep [1, 2, 7, 11, 12, 13] (hrec _ _ _ (by omega) ⟨i + 1, _, v, junk, ids, rfl, hlt, wb hk (by omega), hj, hn.symm, rfl, rfl⟩)
  ·rw [hb] at c1 hn
   rw [if_pos rfl] at hn
   repeat' first|refine yaG ?_|((first|apply yG|apply yH|apply yI);exact rfl;(first|exact yX (enc := jc) rfl rfl hk hlt rfl))|(apply Go.app1;exact rfl;exact rfl;exact rfl;exact rfl;exact rfl;exact hz1;exact hj;exact rfl;exact hbd;intro v' junk' hj')|refine yaC (c1) ?_|exact yaF|refine yaS ?_ ?_<;>intro _
   refine Go.keep [1, 2, 7, 11, 12, 13] (hrec _ _ _ (by omega) ⟨i + 1, _, v', junk', ids ++ [rows[i].id], rfl, hlt, wb hk (by omega), hj', hn.symm, ?_, ?_⟩)
   ·rw [<- e1]; rfl
   ·rw [<- e1]; rfl
 ·repeat' first|refine yaG ?_|exact yaF|refine yaS ?_ ?_<;>intro _
  refine .ret rfl ?_
  rw [yan (by omega)] at hids
  rw [<- hids]
  exact zc0 waw hj
theorem wk5 (t : zd) (rows : List RowD) (id : Int) (vals : List Val) (hr : rows.length <= 1048576) (hu : t.uniques.length <= 3) (hx : ∀ k ∈ zp t, k.length <= 34359738368) (hv : ∀ k ∈ zp t, InR k vals.length) (hi : ∀ k ∈ zp t, ∀ r ∈ rows, InR k r.vals.length) :
 ∀ σ, Ok Tryz.prog 212 [.agg (ja t), .c (.fz (rows.map jc)), .c (.int .i64 id), .c (.fz (vals.map encV))] σ (NewV σ (.c (.fz ((jz rows (zp t) id vals).map encI)))) := by
 refine fun σ => Ok.run mixed we9 (yaa rfl) fun hS hA => ?_
 clear hA
 repeat' first|refine yaG ?_|exact yaF|refine yaS ?_ ?_<;>intro _
 refine Go.keep [1, 2, 7, 9, 10, 20, 21, 22] (Go.loops (I := fun m fr τ => ∃ (i : Nat) (k : Int) (v : Nat) (junk : List (List Ce)), m = t.uniques.length - i /\ i <= t.uniques.length /\ k = i /\ Jk 1 junk /\
  fr = [(1, .c (.fz (rows.map jc))), (2, .c (.int .i64 id)), (7, .c (.fp [.fz (vals.map encV)])), (9, .c (vec (σ.next + 0) 0 [] [])), (10, .c (vec (σ.next + 1) v ((t.key :: (t.uniques.take i).map (·.cols)).map jcw) junk)), (20, .c (.fz (t.uniques.map jl))), (21, .c (.int .i64 (t.uniques.length : Int))), (22, .c (.int .i64 k))] /\
  τ = E σ [(0, []), (v, (t.key :: (t.uniques.take i).map (·.cols)).map jcw ++ junk)]) ?_ _ _ _ ⟨0, _, 0, [], rfl, yae _, rfl, Jk.nil, rfl, rfl⟩)
 rintro m fr τ ⟨i, k, v, junk, rfl, hile, hk, hj, rfl, rfl⟩ hrec
 by_cases hlt : i < t.uniques.length
 ·have hn1 : ∀ e ∈ (t.key :: (t.uniques.take i).map (·.cols)).map jcw, e.length = 1 := fun e he => by
   obtain ⟨a, _, rfl⟩ := List.mem_map.1 he
   rfl
  have hbd : (((t.key :: (t.uniques.take i).map (·.cols)).map jcw).length + 1) * 24 <= 140737488355328 := by simp; omega
  have e1 : (t.key :: (t.uniques.take (i + 1)).map (·.cols)).map jcw = (t.key :: (t.uniques.take i).map (·.cols)).map jcw ++ [jcw t.uniques[i].cols] := by
   rw [yai hlt, yaq, <- List.cons_append, yaq]; rfl
  repeat' first|refine yaG ?_|((first|apply yG|apply yH|apply yI);exact rfl;(first|exact yX (enc := jl) rfl rfl hk hlt rfl))|(apply Go.app1 (k := 1);exact rfl;exact rfl;exact rfl;exact rfl;exact rfl;exact hn1;exact hj;exact rfl;exact hbd;intro v' junk' hj')|exact yaF|refine yaS ?_ ?_<;>intro _
  refine Go.keep [1, 2, 7, 9, 10, 20, 21, 22] (hrec _ _ _ (by omega) ⟨i + 1, _, v', junk', rfl, hlt, wb hk (by omega), hj', ?_, ?_⟩)
  ·rw [e1]; rfl
  ·rw [e1]; rfl
 ·rw [yan (by omega)]
  rw [<- zp]
  clear hrec
  repeat' first|refine yaG ?_|exact yaF|refine yaS ?_ ?_<;>intro _
  refine Go.keep [2, 7, 9, 10, 32, 33, 34] (Go.loops (I := fun m fr τ => ∃ (i : Nat) (k : Int) (w : Nat) (junkw : List (List Ce)) (ids : List Int), m = rows.length - i /\ i <= rows.length /\ k = i /\ Jk 1 junkw /\ ids = jz (rows.take i) (zp t) id vals /\
   fr = [(2, .c (.int .i64 id)), (7, .c (.fp [.fz (vals.map encV)])), (9, .c (vec (σ.next + 0) w (ids.map encI) junkw)), (10, .c (vec (σ.next + 1) v ((zp t).map jcw) junk)), (32, .c (.fz (rows.map jc))), (33, .c (.int .i64 (rows.length : Int))), (34, .c (.int .i64 k))] /\
   τ = E σ [(w, ids.map encI ++ junkw), (v, (zp t).map jcw ++ junk)]) ?_ _ _ _ ⟨0, _, 0, [], [], rfl, yae _, rfl, Jk.nil, rfl, rfl, rfl⟩)
  rintro m fr τ ⟨i, k, w, junkw, ids, rfl, hile, hk, hjw, hids, rfl, rfl⟩ hrec
  by_cases hlt : i < rows.length
  ·have cc := zj mixed wak jas jcw (fun u => .c (.fz (u.map encI))) (fun _ => rfl) (fun _ => rfl) (zp t) (jgx vals rows[i]) 256 [] [.fp [.fz (vals.map encV)], .fp (jc rows[i])] (by simp [zp]; omega) (fun j hj _ => jk4 _ vals rows[i] (hx _ (List.getElem_mem hj)) (hv _ (List.getElem_mem hj)) (hi _ (List.getElem_mem hj) _ (List.getElem_mem hlt)))
   have hn := weu (keys := zp t) (id := id) (vals := vals) hlt
   rw [<- hids] at hn
   have hl : (ids.map encI).length <= 1048576 := by rw [yag, hids]; have := jb4 (rows := rows.take i) (keys := zp t) (id := id) (vals := vals); rw [yas] at this; omega
   have hbd : ((ids.map encI).length + 1) * 8 <= 140737488355328 := by omega
   have hz1 : ∀ e ∈ ids.map encI, e.length = 1 := fun e he => (waw e he).1
   have e1 : ids.map encI ++ [encI rows[i].id] = (ids ++ [rows[i].id]).map encI := by simp
   have hfz : FrzV (E σ [(w, ids.map encI ++ junkw), (v, (zp t).map jcw ++ junk)]) 0 (.c (vec (σ.next + 1) v ((zp t).map jcw) junk)) (.c (.fz ((zp t).map jcw))) := jbr (k := 1) rfl (fun e he x hx => by obtain ⟨a, _, rfl⟩ := List.mem_map.1 he; exact jlx 0 a x hx) (yae _)
   generalize (zp t).any (jgx vals rows[i]) = b at cc hn
   clear hi hv hx
   by_cases h0 : rows[i].id = id
   ·rw [beq_iff_eq.2 h0, Bool.not_true, ybe, if_neg yaj, ybg] at hn
    repeat' first|refine yaG ?_|((first|apply yG|apply yH|apply yI);exact rfl;(first|exact yX (enc := jc) rfl rfl hk hlt rfl))|exact yaF|refine yaS ?_ ?_<;>intro _
    all_goals first
     | exact Go.keep [2, 7, 9, 10, 32, 33, 34] (hrec _ _ _ (by omega) ⟨i + 1, _, w, junkw, ids, rfl, hlt, wb hk (by omega), hjw, hn.symm, rfl, rfl⟩)
     |(exfalso; simp_all; done)
   ·rw [beq_eq_false_iff_ne.2 h0, Bool.not_false, yay] at hn
    cases b
    ·rw [if_neg yaj, ybg] at hn
     repeat' first|refine yaG ?_|((first|apply yG|apply yH|apply yI);exact rfl;(first|exact yX (enc := jc) rfl rfl hk hlt rfl))|exact yaF|refine yaS ?_ ?_<;>intro _
     refine Go.lcall rfl rfl rfl cc (.bool _) (.own hfz (.same .nil)) ?_
     repeat' first|refine yaG ?_|exact yaF|refine yaS ?_ ?_<;>intro _
     exact Go.keep [2, 7, 9, 10, 32, 33, 34] (hrec _ _ _ (by omega) ⟨i + 1, _, w, junkw, ids, rfl, hlt, wb hk (by omega), hjw, hn.symm, rfl, rfl⟩)
    ·rw [if_pos rfl] at hn
     repeat' first|refine yaG ?_|((first|apply yG|apply yH|apply yI);exact rfl;(first|exact yX (enc := jc) rfl rfl hk hlt rfl))|exact yaF|refine yaS ?_ ?_<;>intro _
     refine Go.lcall rfl rfl rfl cc (.bool _) (.own hfz (.same .nil)) ?_
     repeat' first|refine yaG ?_|(apply Go.app1 (k := 0);exact rfl;exact rfl;exact rfl;exact rfl;exact rfl;exact hz1;exact hjw;exact rfl;exact hbd;intro v' junk' hj')|exact yaF|refine yaS ?_ ?_<;>intro _
     refine Go.keep [2, 7, 9, 10, 32, 33, 34] (hrec _ _ _ (by omega) ⟨i + 1, _, v', junk', ids ++ [rows[i].id], rfl, hlt, wb hk (by omega), hj', hn.symm, ?_, ?_⟩)
     ·rw [<- e1]; rfl
     ·rw [<- e1]; rfl
  ·repeat' first|refine yaG ?_|exact yaF|refine yaS ?_ ?_<;>intro _
   rw [yan (by omega)] at hids
   rw [<- hids]
   refine Go.freezeN (l := [(w, ids.map encI ++ junkw)]) (m := [(v, (zp t).map jcw ++ junk)]) (fr' := [(8, .c (vec (σ.next + 0) w (ids.map encI) junkw))]) hS (fun b hb e he x hx => ?_) (yak _) (.frz rfl (.refl (jgq (yao _))) .nil) ?_
   ·rw [List.mem_singleton.1 hb] at he
    rcases List.mem_append.1 he with he | he
    ·exact ((waw e he).2 x hx).old _
    ·exact ((hjw e he).2 x hx).old _
   ·exact .ret rfl (zc0 waw hjw)
theorem Lend.fresh {P : Program} {σ : wa} {n : Nat} {args args' : List AV} {y : AV} (h : Lend σ args args') (hp : ∀ σ, Ok P n args' σ (NewV σ y)) : Ok P n args σ (fun r σ' => r = y /\ σ' = σ) := by
 have h1 := h.new hp
 refine .old' h1 fun hS ha => Ok.pure h1 y (fun id y hy => (hS id y hy).1) ?_
 rintro r σ1 ⟨hg, hh⟩
 exact ⟨fun id y hy => by rw [hg.lt (hS id y hy).1]; exact hy, hh.frz fun a ha => ha.1⟩
theorem Ok.run0 {P : Program} (hm : P.follows .mixedOrders = true) {fz : List Nat} {f : Nat} {af : AFn} (h : wc P fz f = some af) {args : List AV} {σ : wa} {R : AV -> wa -> Prop} (hn : args.length <= af.nt)
 (hg : OldS σ -> (∀ x ∈ args, ∀ y ∈ x.all, Old σ.next y) -> Go P σ.next af.nt af.rets R [.code af.body] (frOf 0 args) σ) : Ok P f args σ R :=
 .old h fun hS ha => .of_go hm h hn (hg hS ha)
theorem Lend.made {P : Program} {σ : wa} {n s : Nat} {args args' : List AV} {ys : List (List Ce)} (h : Lend σ args args') (hp : ∀ σ, Ok P n args' σ (Made σ s ys)) (hy : ∀ e ∈ ys, ∀ x ∈ e, Flat x) : Ok P n args σ (Made σ s ys) := by
 obtain ⟨hl, hz⟩ := h.spec
 refine (Ok.lent (hp (wa.none σ.next)) hl hz ?_).mono ?_
 ·rintro r τ ⟨v, junk, hj, rfl, rfl⟩
  refine ⟨[(v, ys ++ junk)], rfl, fun b hb e he x hx => ?_, fun y hy => ?_⟩
  ·rw [List.mem_singleton.1 hb] at he
   rcases List.mem_append.1 he with he | he
   ·exact .flat (hy e he x hx)
   ·exact .flat ((hj e he).2 x hx)
  ·rw [List.mem_singleton.1 hy]
   exact .sl _ _ _ _ _ (ybj _ _)
 ·rintro r σ' ⟨l, rfl, v, junk, hj, hr, e⟩
  obtain rfl := znv e
  exact ⟨v, junk, hj, hr, rfl⟩
section
variable {L : ChL} {n : Nat} {s : List zd} {xs : List Ce} {db : List Data} {τ : wa} {fr : Fr}
theorem zd1 (h : zz L n s xs db τ) {a : Opd} (ha : a.ev fr = some (.c (.ptr L.c L.vc 0 0))) : aop (.load false 1 a) fr τ = some (.c (.fz (s.map ja)), τ) :=
 zo ha h.c rfl (Nat.zero_lt_succ _)
theorem wb7 (h : zz L n s xs db τ) {a : Opd} (ha : a.ev fr = some (.c (.ptr L.c L.vc 0 1))) : aop (.load false 1 a) fr τ = some (.c (.sl L.d L.vd 0 db.length (db.length + L.junk.length)), τ) :=
 zo ha h.c rfl (yao _)
theorem jd1 (h : zz L n s xs db τ) {x y : Opd} {kd : IntKind} {z : Int} {k : Nat} (hx : x.ev fr = some (.c (.sl L.d L.vd 0 db.length (db.length + L.junk.length)))) (hy : y.ev fr = some (.c (.int kd z))) (hz : z = (k : Int)) (hk : k < db.length) : aop (.iaddr 1 x y) fr τ = some (.c (.ptr L.d L.vd (0 + k) 0), τ) :=
 wd hx hy hz hk h.d (jao (by rw [h.len]; exact hk)) rfl
theorem wd1 (h : zz L n s xs db τ) {a : Opd} {k : Nat} (ha : a.ev fr = some (.c (.ptr L.d L.vd (0 + k) 0))) (hk : k < xs.length) : aop (.load false 1 a) fr τ = some (.c xs[k], τ) :=
 zo ha h.d (jao hk) (yao _)
end
theorem jmv (r : RowD) (id : Int) : Pure Tryz.prog 142 [.agg (jc r), .c (.fp [.int .i64 id])] (.c (.bool (r.id == id))) := by
 refine Pure.run mixed zbu (yaa rfl) fun σ hS hA => ?_
 clear hS hA
 repeat' first|refine yaG ?_|exact yaF|refine yaS ?_ ?_<;>intro _
 exact .ret rfl (.bool rfl)
theorem zg1 (i : Int) (x : Ce) (id : Int) : Pure Tryz.prog 125 [.agg [.int .i64 i, x], .c (.fp [.int .i64 id])] (.c (.bool (i == id))) := by
 refine Pure.run mixed zbi (yaa rfl) fun σ hS hA => ?_
 clear hS hA
 repeat' first|refine yaG ?_|exact yaF|refine yaS ?_ ?_<;>intro _
 exact .ret rfl (.bool rfl)
theorem jen {L : ChL} {n : Nat} {s : List zd} {xs : List Ce} {db : List Data} {τ : wa} (h : zz L n s xs db τ) {k : Nat} (hk : k < db.length) (hk2 : k < xs.length) (id : Int) (hl : db[k].rows.length <= 60) :
 (zat db[k].rows id = none -> Ok Tryz.prog 69 [.c (.ptr L.c L.vc 0 0), .c (.int .i64 (k : Int)), .c (.int .i64 id)] τ (fun r τ' => r = .c .nilp /\ τ' = τ)) /\
 (∀ j, ∀ hj : j < db[k].rows.length, idxA (fun r : RowD => r.id == id) db[k].rows 0 = (j : Int) -> ∀ lab ps i v junk, At L n k lab τ db[k].rows xs[k] ps i v junk -> Ok Tryz.prog 69 [.c (.ptr L.c L.vc 0 0), .c (.int .i64 (k : Int)), .c (.int .i64 id)] τ (fun r τ' => r = .c (.ptr i v (0 + j) 0) /\ τ' = τ)) := by
 have hz := h.frzR hk hk2
 have ci := wbb mixed j9 jc (fun r => .agg (jc r)) (fun _ => rfl) (fun _ => rfl) db[k].rows (fun r : RowD => r.id == id) 142 [] [.fp [.int .i64 id]] (yah hl (by decide)) (fun j hj _ => jmv _ id)
 refine ⟨fun hno => ?_, fun j hj hix lab ps i v junk hat => ?_⟩
 ·refine Ok.run0 mixed waz (yaa rfl) fun hS hA => ?_
  clear hS hA
  have hix : idxA (fun r : RowD => r.id == id) db[k].rows 0 = -1 := by
   rcases wo db[k].rows id with ⟨h1, _⟩ | ⟨j, hj, _, h2⟩
   ·exact h1
   ·rw [hno] at h2
    cases h2
  rw [hix] at ci
  repeat' first|refine yaG ?_|((first|apply yG|apply yH|apply yI);exact rfl;(first|exact wb7 h rfl|exact jd1 h rfl rfl rfl hk|exact wd1 h rfl hk2))|exact yaF|refine yaS ?_ ?_<;>intro _
  refine Go.lcall rfl rfl rfl ci (.int _ _) (.own hz (.same .nil)) ?_
  repeat' first|refine yaG ?_|exact yaF|refine yaS ?_ ?_<;>intro _
  exact .ret rfl ⟨rfl, rfl⟩
 ·refine Ok.run0 mixed waz (yaa rfl) fun hS hA => ?_
  clear hS hA
  rw [hix] at ci
  repeat' first|refine yaG ?_|((first|apply yG|apply yH|apply yI);exact rfl;(first|exact wb7 h rfl|exact jd1 h rfl rfl rfl hk|exact wd1 h rfl hk2))|exact yaF|refine yaS ?_ ?_<;>intro _
  refine Go.lcall rfl rfl rfl ci (.int _ _) (.own hz (.same .nil)) ?_
  rw [hat.x]
  repeat' first|refine yaG ?_|((first|apply yG|apply yH|apply yI);exact rfl;(first|exact wd rfl rfl rfl (by rw [yag, hat.len];exact hj) hat.get (hat.at hj) rfl))|exact yaF|refine yaS ?_ ?_<;>intro _
  exact .ret rfl ⟨rfl, rfl⟩
theorem jbg {fr : Fr} {σ : wa} {s id v i : Nat} {a : Opd} {es : List (List Ce)} {e : List Ce} (ha : a.ev fr = some (.c (.ptr id v i 0))) (hl : σ.get id = some (v, es)) (he : es[i]? = some e) (hs : e.length = s) : aop (.load true s a) fr σ = some (.agg e, σ) := by
 simp [aop, ha, wa.at_, hl, he, wiy hs]
theorem wkc {fr : Fr} {σ : wa} {s id v i : Nat} {a y : Opd} {es : List (List Ce)} {e cs : List Ce} (ha : a.ev fr = some (.c (.ptr id v i 0))) (hy : y.ev fr = some (.agg cs)) (hl : σ.get id = some (v, es)) (he : es[i]? = some e) (hs : e.length = s) (hc : cs.length = s) : aop (.store s a y) fr σ = some (.un, σ.put id (v, es.set i cs)) := by
 simp [aop, ha, hy, AV.cells, hl, he, hc, hs, zd6 hs hc]
theorem zl0 {σ : wa} {id : Nat} {x y : Nat × List (List Ce)} : (σ.put id x).put id y = σ.put id y := by
 refine wa.ext rfl fun j => ?_
 simp only [wa.put]
 split <;> rfl
theorem ziq {σ : wa} {id : Nat} {x : Nat × List (List Ce)} (h : σ.get id = some x) : σ.put id x = σ := by
 refine wa.ext rfl fun j => ?_
 simp only [wa.put]
 split
 ·rename_i e
  rw [e, h]
 ·rfl
theorem zay {σ : wa} {id : Nat} {x : Nat × List (List Ce)} : (σ.put id x).get id = some x := if_pos rfl
theorem zfl {ps : List PRow} : ∀ e ∈ ps.map encP, e.length = 2 := fun e he => by
 obtain ⟨p, _, rfl⟩ := List.mem_map.1 he
 rfl
set_option maxHeartbeats 1000000 in
theorem zk6 (ps : List PRow) (junk : List (List Ce)) (id : Int) (hx : ps.length <= 60) (a v : Nat) (τ : wa) (hg : τ.get a = some (v, ps.map encP ++ junk)) (hj : Jk 2 junk) (hz : FrzV τ 0 (.c (vec a v (ps.map encP) junk)) (.c (.fz ((ps.map (·.1)).map jc))))
 (j0 : Nat) (hj0 : j0 < ps.length) (hix : idxA (fun r : RowD => r.id == id) (ps.map (·.1)) 0 = (j0 : Int)) (hp0 : (ps[j0].1.id == id) = true) (hpre : ∀ r ∈ ps.take j0, (r.1.id == id) = false) :
 Ok Tryz.prog 124 [.c (vec a v (ps.map encP) junk), .c (.fn 125 [] [.fp [.int .i64 id]])] τ (fun r τ' => ∃ junk', Jk 2 junk' /\ r = .c (vec a v ((ps.filter fun r => !(r.1.id == id)).map encP) junk') /\ τ' = τ.put a (v, (ps.filter fun r => !(r.1.id == id)).map encP ++ junk')) := by
 refine Ok.run0 mixed zbk (yaa rfl) fun hS hA => ?_
 clear hA
 have ci := wbb mixed j9 jc (fun r => .agg (jc r)) (fun _ => rfl) (fun _ => rfl) (ps.map (·.1)) (fun r : RowD => r.id == id) 125 [] [.fp [.int .i64 id]] (by rw [yag]; exact yah hx (by decide)) (fun j hj _ => zg1 _ _ id)
 rw [hix] at ci
 have hne : ¬ (j0 : Int) = -1 := by omega
 repeat' first|refine yaG ?_|exact yaF|refine yaS ?_ ?_<;>intro _
 refine Go.lcall rfl rfl rfl ci (.int _ _) (.own hz (.same .nil)) ?_
 repeat' first|refine yaG ?_|exact yaF|refine yaS ?_ ?_<;>intro _
 have hsz : ∀ e ∈ ps.map encP ++ junk, e.length = 2 := fun e he => by
  rcases List.mem_append.1 he with he | he
  ·exact zfl e he
  ·exact (hj e he).1
 have hf0 : (ps.take (j0 + 1)).filter (fun r => !(r.1.id == id)) = ps.take j0 := by
  rw [yai hj0, List.filter_append, List.filter_cons, hp0, List.filter_eq_self.2 fun r hr => by rw [hpre r hr]; rfl]
  simp
 refine Go.keep [0, 1, 5, 6] (Go.loops (I := fun m fr τ' => ∃ (j i : Nat) (kj ki : Int) (es : List (List Ce)), m = ps.length - j /\ j <= ps.length /\ kj = j /\ ki = i /\ (i < j /\ i = ((ps.take j).filter fun r => !(r.1.id == id)).length /\ es.length = ps.length + junk.length /\ (∀ e ∈ es, e.length = 2) /\ es.take i = ((ps.take j).filter fun r => !(r.1.id == id)).map encP /\ es.drop j = (ps.drop j).map encP ++ junk) /\
  fr = [(0, .c (vec a v (ps.map encP) junk)), (1, .c (.fn 125 [] [.fp [.int .i64 id]])), (5, .c (.int .i64 ki)), (6, .c (.int .i64 kj))] /\ τ' = τ.put a (v, es)) ?_ _ _ _ ⟨j0 + 1, j0, _, _, ps.map encP ++ junk, rfl, hj0, wb rfl (by omega), rfl, ⟨Nat.lt_succ_self _, by rw [hf0, List.length_take]; omega, by simp, hsz, by rw [hf0, List.take_append_of_le_length (by simp; omega), List.map_take], by rw [List.drop_append_of_le_length (by simp; omega), List.map_drop]⟩, rfl, (ziq hg).symm⟩)
 rintro m fr τ' ⟨j, i, kj, ki, es, rfl, hjl, hkj, hki, ⟨hij, hil, hel, hes, htk, hdr⟩, rfl, rfl⟩ hrec
 have hn0 : τ.next <= (τ.put a (v, es)).next := yak _
 by_cases hlt : j < ps.length
 ·have hltm : j < (ps.map encP).length := by rw [yag]; exact hlt
  have hej : es[0 + j]? = some (encP ps[j]) := by
   have h1 : es[0 + j]? = (es.drop j)[0]? := by rw [List.getElem?_drop]; simp
   rw [h1, hdr, yac hlt]
   rfl
  have hdr2 : es.drop (j + 1) = (ps.drop (j + 1)).map encP ++ junk := by
   rw [<- List.tail_drop, hdr, yac hlt]
   rfl
  have hft : (ps.take (j + 1)).filter (fun r => !(r.1.id == id)) = (ps.take j).filter (fun r => !(r.1.id == id)) ++ if (ps[j].1.id == id) = true then [] else [ps[j]] := by
   rw [yai hlt, List.filter_append, List.filter_cons]
   cases ps[j].1.id == id <;> rfl
  have c1 := zg1 ps[j].1.id ps[j].2 id
  cases hb : ps[j].1.id == id
  ·rw [hb] at c1
   rw [hb, if_neg yaj] at hft
   have hlti : i < (ps.map encP).length := by rw [yag]; omega
   have hil2 : i < es.length := by omega
   have hei : es[0 + i]? = some es[i] := by rw [ybo, yaf hil2]
   repeat' first|refine yaG ?_|((first|apply yG|apply yH|apply yI);exact rfl;(first|exact wd rfl rfl hkj hltm zay hej rfl|exact wd rfl rfl hki hlti zay hei (hes _ (yab hil2))|exact jbg rfl zay hej rfl|exact wkc rfl rfl zay hei (hes _ (yab hil2)) rfl))|refine yaC (c1) ?_|exact yaF|refine yaS ?_ ?_<;>intro _
   rw [zl0]
   refine Go.keep [0, 1, 5, 6] (hrec _ _ _ (by omega) ⟨j + 1, i + 1, _, _, es.set (0 + i) (encP ps[j]), rfl, hlt, wb hkj (by omega), wb hki (by omega), ⟨by omega, by rw [hft, List.length_append, <- hil]; rfl, by rw [yar]; exact hel, fun e he => ?_, ?_, ?_⟩, rfl, rfl⟩)
   ·rcases ybb he with he | rfl
    ·exact hes e he
    ·rfl
   ·rw [hft, yaq, <- htk, ybo, yai (by rw [yar]; exact hil2), List.take_set_of_le (yak _), List.getElem_set_self]
    rfl
   ·rw [ybo, List.drop_set_of_lt (by omega), hdr2]
  ·rw [hb] at c1
   rw [hb, if_pos rfl, ybg] at hft
   repeat' first|refine yaG ?_|((first|apply yG|apply yH|apply yI);exact rfl;(first|exact wd rfl rfl hkj hltm zay hej rfl|exact jbg rfl zay hej rfl))|refine yaC (c1) ?_|exact yaF|refine yaS ?_ ?_<;>intro _
   exact Go.keep [0, 1, 5, 6] (hrec _ _ _ (by omega) ⟨j + 1, i, _, _, es, rfl, hlt, wb hkj (by omega), hki, ⟨by omega, by rw [hft]; exact hil, hel, hes, by rw [hft]; exact htk, hdr2⟩, rfl, rfl⟩)
 ·have hje : j = ps.length := by omega
  subst hje
  rw [yan (yak _)] at htk hil
  rw [List.drop_length, List.map_nil, List.nil_append] at hdr
  clear hrec
  have hilm : i <= (ps.map encP).length := by rw [yag]; omega
  have e0 : (ps.map encP).length = ps.length := yag _
  have hsp : ∀ N, N = (ps.map encP).length - i -> jh es (0 + i) (List.replicate N [.int .i64 0, .nils]) = (ps.filter fun r => !(r.1.id == id)).map encP ++ (List.replicate N [.int .i64 0, .nils] ++ junk) := by
   rintro N rfl
   rw [jh, ybo, htk, List.length_replicate, show i + ((ps.map encP).length - i) = ps.length by omega, hdr, List.append_assoc]
  repeat' first|refine yaG ?_|((first|apply yG|apply yH|apply yI);exact rfl;(first|exact jdg (l := i) (h := (ps.map encP).length) (m := (ps.map encP).length + junk.length) rfl rfl rfl rfl (wiz hki) rfl rfl zay hes hilm (ybj _ _) (yak _)|exact jlf rfl zay rfl hes (by omega)))|exact yaF|refine yaS ?_ ?_<;>intro _
  rw [zl0, hsp _ rfl]
  have hfl : (ps.filter fun r => !(r.1.id == id)).length = i := hil.symm
  generalize hpf : (ps.filter fun r => !(r.1.id == id)) = pf at hfl
  have hj2 : Jk 2 (List.replicate ((ps.map encP).length - i) [Ce.int .i64 0, .nils] ++ junk) := fun e he => by
   rcases List.mem_append.1 he with he | he
   ·rw [List.eq_of_mem_replicate he]
    refine ⟨rfl, fun x hx => ?_⟩
    simp only [List.mem_cons, List.not_mem_nil, or_false] at hx
    rcases hx with rfl | rfl
    ·exact .int _ _
    ·exact .nils
   ·exact hj e he
  have hes2 : ∀ e ∈ pf.map encP ++ (List.replicate ((ps.map encP).length - i) [Ce.int .i64 0, .nils] ++ junk), e.length = 2 := fun e he => by
   rcases List.mem_append.1 he with he | he
   ·exact zfl e he
   ·exact (hj2 e he).1
  repeat' first|refine yaG ?_|((first|apply yG|apply yH|apply yI);exact rfl;(first|exact jdg (l := 0) (h := i) (m := (ps.map encP).length + junk.length) rfl rfl rfl rfl rfl (wiz hki) rfl zay hes2 (yae _) (by omega) (yak _)))|exact yaF|refine yaS ?_ ?_<;>intro _
  refine .ret rfl ⟨_, hj2, ?_, rfl⟩
  have e1 : (pf.map encP).length = i := by rw [yag]; exact hfl
  rw [vec, e1, List.length_append, List.length_replicate]
  simp only [Nat.sub_zero, Nat.zero_add]
  rw [show (ps.map encP).length + junk.length = i + ((ps.map encP).length - i + junk.length) by omega]
end Go.Proofs.YtmmgbgpglhbhcaaGreat.Am
namespace Go.Proofs.YtmmgbgpglhbhcaaGreat.Am
variable {I : Nat -> Int -> Prop}

def resV (r : Res) : AV := .tup [.c (if r.2 = 0 then .fz (r.1.map jb) else .nils), .c (.int .i64 r.2)]
theorem z9 {r : Res} (h : r.2 = 0) : resV r = .tup [.c (.fz (r.1.map jb)), .c (.int .i64 0)] := by rw [resV, if_pos h, h]
theorem wae {r : Res} {e : Int} (h : r.2 = e) (h0 : e ≠ 0) : resV r = .tup [.c .nils, .c (.int .i64 e)] := by rw [resV, h, if_neg h0]
theorem zbb {e : Int} (h0 : e ≠ 0) : resV ([], e) = .tup [.c .nils, .c (.int .i64 e)] := wae rfl h0
theorem zi (r : Res) (n : Nat) : ∀ y ∈ (resV r).all, Old n y := fun y hy => by
 simp only [resV, AV.all, AV.all.allL, List.append_nil, List.mem_append, List.mem_singleton] at hy
 rcases hy with rfl | rfl
 ·split
  ·exact jal (wbn _)
  ·exact .nils
 ·exact .int _ _
theorem jbx {n : Nat} {l : List zd} : ∀ y ∈ (AV.c (.fz (l.map ja))).all, Old n y := fun y hy => by
 rw [List.mem_singleton.1 hy]
 exact jal (zhv _)
theorem zcn {n : Nat} {l : List Data} : ∀ y ∈ (AV.c (.fz (l.map jb))).all, Old n y := fun y hy => by
 rw [List.mem_singleton.1 hy]
 exact jal (wbn _)
theorem zny {s : List zd} (hs : SchG s) {db : List Data} (h : DbG I s db) {n : Nat} (hn : n < s.length) (hn2 : n < db.length) {x : RowD} (hx : x.vals.length = s[n].cols.length) : jnl s[n] db[n] x := by
 have ht := hs.tab _ (yab hn)
 have hb := hs.big _ (yab hn)
 have hkey : ∀ k ∈ zp s[n], k.length <= 34359738368 /\ InR k s[n].cols.length := fun k hk => by
  rw [zp] at hk
  rcases List.mem_cons.1 hk with rfl | hk
  ·exact ⟨hb.2.2.1, ht.key⟩
  ·obtain ⟨u, hu, rfl⟩ := List.mem_map.1 hk
   exact ⟨hb.2.2.2.1.2 u hu, ht.uniq u hu⟩
 exact ⟨ht.uniq3, fun k hk => (hkey k hk).1, fun k hk => by rw [hx]; exact (hkey k hk).2, fun k hk r hr => by rw [((h.rows n hn hn2).fit r hr).1]; exact (hkey k hk).2⟩
theorem fkR {s : List zd} (hs : SchG s) {db : List Data} (h : DbG I s db) {n : Nat} (hn : n < s.length) {vals : List Val} (hl : vals.length = s[n].cols.length) : ∀ f ∈ s[n].fks, ∃ m, FkR s db vals f m := fun f hf => by
 obtain ⟨m, hm, hr⟩ := hs.ref _ (yab hn) f hf
 have hm2 : m < db.length := by rw [h.len]; exact hm
 have hR := h.rows m hm hm2
 exact ⟨m, hm, hm2, hr, yah hR.len (by decide), (hs.big _ (yab hm)).2.2.1, ((hs.big _ (yab hn)).2.2.2.2.2.2 f hf).1, by rw [hl]; exact (hs.tab _ (yab hn)).fk f hf, fun q hq => by rw [(hR.fit q hq).1]; exact (hs.tab _ (yab hm)).key⟩
structure wen (I : Nat -> Int -> Prop) (s : List zd) (run : Chg -> List Data -> Res) (dp : Int) : Prop where
 keeps : jgy I s run
 del : ∀ (n : Nat) (id : Int) (db : List Data) (x : RowD), DbG I s db -> n < s.length -> zat (zt db n) id = some x -> Pure Tryz.prog 44 [.c (.fz (s.map ja)), .c (.fz (db.map jb)), .c (.int .i64 (n : Int)), .c (.int .i64 id), .c (.int .i64 dp)] (resV (run (.del n id) db))
 upd : ∀ (n : Nat) (id : Int) (vals : List Val) (rep : Bool) (db : List Data), DbG I s db -> jkc s (.upd n id vals rep) -> Pure Tryz.prog 64 [.c (.fz (s.map ja)), .c (.fz (db.map jb)), .c (.int .i64 (n : Int)), .c (.int .i64 id), .c (.fz (vals.map encV)), .c (.bool rep), .c (.int .i64 dp)] (resV (run (.upd n id vals rep) db))
set_option maxHeartbeats 1000000 in
theorem wdd {s : List zd} {run : Chg -> List Data -> Res} {deep : Int} (hs : SchG s) (hr : wen I s run (IntKind.i64.wrap (deep + 1))) {n : Nat} (hn : n < s.length) (x : RowD) (hx : x.vals.length = s[n].cols.length) (rep : Bool) (db : List Data) (h : DbG I s db) :
 Pure Tryz.prog 136 [.c (.fz (s.map ja)), .c (.fz (db.map jb)), .c (.int .i64 (n : Int)), .agg (jc x), .c (.bool rep), .c (.int .i64 deep)] (resV (w7 run s[n] n x rep db)) := by
 refine Pure.run mixed zec (yaa rfl) fun σ hS hA => ?_
 clear hA
 have hn2 : n < db.length := by rw [h.len]; exact hn
 have hR := h.rows n hn hn2
 have c1 := zjm s[n] db[n] x hR.len (zny hs h hn hn2 hx)
 rw [w7, wg hn2]
 have hrl : (jz db[n].rows (zp s[n]) x.id x.vals).length <= 60 := yah jb4 hR.len
 generalize jz db[n].rows (zp s[n]) x.id x.vals = ids at c1 hrl ⊢
 by_cases h0 : 0 < ids.length
 ·have h1 : (ids.length : Int) > 0 := by omega
  cases rep
  ·rw [if_pos (by simp [h0])]
   repeat' first|refine yaG ?_|((first|apply yG|apply yH|apply yI);exact rfl;(first|exact yX (enc := ja) rfl rfl rfl hn rfl|exact yX (enc := jb) rfl rfl rfl hn2 rfl))|refine yaC (c1) ?_|exact yaF|refine yaS ?_ ?_<;>intro _
   exact .ret rfl (Fin.same rfl (zi ([], 4) _))
  ·rw [Bool.not_true, ybh, if_neg yaj]
   repeat' first|refine yaG ?_|((first|apply yG|apply yH|apply yI);exact rfl;(first|exact yX (enc := ja) rfl rfl rfl hn rfl|exact yX (enc := jb) rfl rfl rfl hn2 rfl))|refine yaC (c1) ?_|exact yaF|refine yaS ?_ ?_<;>intro _
   clear c1
   refine Go.keep [0, 1, 2, 5, 14, 15] (Go.loops (I := fun m fr τ => ∃ (i : Nat) (k : Int) (db' : List Data), m = ids.length - i /\ i <= ids.length /\ k = i /\ (DbG I s db' /\ j4 run n ids db = j4 run n (ids.drop i) db') /\
    fr = [(0, .c (.fz (s.map ja))), (1, .c (.fz (db'.map jb))), (2, .c (.int .i64 (n : Int))), (5, .c (.int .i64 deep)), (14, .c (.fz (ids.map encI))), (15, .c (.int .i64 k))] /\ τ = E σ []) ?_ _ _ _ ⟨0, _, db, rfl, yae _, rfl, ⟨h, rfl⟩, rfl, rfl⟩)
   rintro m fr τ ⟨i, k, db', rfl, hi, hk, ⟨hdb, hst⟩, rfl, rfl⟩ hrec
   by_cases hlt : i < ids.length
   ·have hn3 : n < db'.length := by rw [hdb.len]; exact hn
    have hR3 := hdb.rows n hn hn3
    rw [yac hlt, j4, wg hn3] at hst
    have c2 := wax db'[n] ids[i] (yah hR3.len (by decide))
    rcases wo db'[n].rows ids[i] with ⟨hx1, hx2⟩ | ⟨j, hj, hx1, hx2⟩
    ·rw [hx1] at c2
     rw [hx2, if_pos (show (none : Option RowD).isNone = true from rfl)] at hst
     repeat' first|refine yaG ?_|((first|apply yG|apply yH|apply yI);exact rfl;(first|exact yX (enc := encI) rfl rfl hk hlt rfl|exact yX (enc := jb) rfl rfl rfl hn3 rfl))|refine yaC (c2) ?_|exact yaF|refine yaS ?_ ?_<;>intro _
     exact Go.keep [0, 1, 2, 5, 14, 15] (hrec _ _ _ (by omega) ⟨i + 1, _, db', rfl, hlt, wb hk (by omega), ⟨hdb, hst⟩, rfl, rfl⟩)
    ·rw [hx1] at c2
     rw [hx2, if_neg (show ¬ (some db'[n].rows[j]).isNone = true from yaj)] at hst
     have c3 := hr.del n ids[i] db' db'[n].rows[j] hdb hn (by rw [wg hn3]; exact hx2)
     have hkp := hr.keeps (.del n ids[i]) db' hdb hn
     generalize run (.del n ids[i]) db' = q at c3 hst hkp
     by_cases hq : q.2 = 0
     ·rw [if_pos hq] at hst
      rw [z9 hq] at c3
      have hkq := hkp hq
      repeat' first|refine yaG ?_|((first|apply yG|apply yH|apply yI);exact rfl;(first|exact yX (enc := encI) rfl rfl hk hlt rfl|exact yX (enc := jb) rfl rfl rfl hn3 rfl))|refine yaC (c2) ?_|refine yaC (c3) ?_|exact yaF|refine yaS ?_ ?_<;>intro _
      exact Go.keep [0, 1, 2, 5, 14, 15] (hrec _ _ _ (by omega) ⟨i + 1, _, q.1, rfl, hlt, wb hk (by omega), ⟨hkq, hst⟩, rfl, rfl⟩)
     ·rw [if_neg hq] at hst
      obtain ⟨e, he⟩ : ∃ e, q.2 = e := ⟨_, rfl⟩
      rw [he] at hst hq
      rw [wae he hq] at c3
      rw [hst]
      repeat' first|refine yaG ?_|((first|apply yG|apply yH|apply yI);exact rfl;(first|exact yX (enc := encI) rfl rfl hk hlt rfl|exact yX (enc := jb) rfl rfl rfl hn3 rfl))|refine yaC (c2) ?_|refine yaC (c3) ?_|exact yaF|refine yaS ?_ ?_<;>intro _
      exact .ret rfl (Fin.same (zbb hq).symm (zi ([], e) _))
   ·rw [yad (by omega), j4] at hst
    rw [hst]
    repeat' first|refine yaG ?_|exact yaF|refine yaS ?_ ?_<;>intro _
    exact .ret rfl (Fin.same rfl (zi (db', 0) _))
 ·have hz : ids = [] := yal (by omega)
  subst hz
  rw [if_neg (by simp), j4]
  repeat' first|refine yaG ?_|((first|apply yG|apply yH|apply yI);exact rfl;(first|exact yX (enc := ja) rfl rfl rfl hn rfl|exact yX (enc := jb) rfl rfl rfl hn2 rfl))|refine yaC (c1) ?_|exact yaF|refine yaS ?_ ?_<;>intro _
  apply Go.loop
  repeat' first|refine yaG ?_|exact yaF|refine yaS ?_ ?_<;>intro _
  exact .ret rfl (Fin.same rfl (zi (db, 0) _))
def zd2 (y : Way) : List Ce := [.int .i64 y.act, .bool y.wait, .fz (y.cols.map encI)]
inductive With : Bool -> Ce -> List Val -> Nat -> Prop where
 | gone {m : Nat} : With true .nils [] m
 | now {wth : List Val} {m : Nat} (h : m <= wth.length) : With false (.fz (wth.map encV)) wth m
theorem With.old {g : Bool} {wv : Ce} {wth : List Val} {m : Nat} (h : With g wv wth m) {n : Nat} : ∀ y ∈ (AV.c wv).all, Old n y := by
 cases h with
 | gone => intro y hy; rw [List.mem_singleton.1 hy]; exact .nils
 | now h => exact wav
theorem jiq {n : Nat} {l : List Int} : ∀ y ∈ (AV.c (.fz (l.map encI))).all, Old n y := jj6 fun e he x hx => (waw e he).2 x hx
theorem jl0 {n : Nat} {y : Way} : ∀ x ∈ (AV.c (.fp (zd2 y))).all, Old n x := fun x hx => by
 rw [List.mem_singleton.1 hx]
 refine .fp _ fun j hj => ?_
 have hj3 : j < 3 := hj
 match j, hj3 with
 | 0, _ => exact .int _ _
 | 1, _ => exact .bool _
 | 2, _ => exact jiq (l := y.cols) _ (by simp [AV.all, zd2])
theorem zb5 {vs : List Val} {junk : List (List Ce)} {c : Nat} (hc : c < vs.length) (u w : Val) : (vs.map encV ++ junk).set (0 + c) (jh (encV u) 0 (encV w)) = (vs.set c w).map encV ++ junk := by
 have h1 : jh (encV u) 0 (encV w) = encV w := rfl
 rw [h1, Nat.zero_add, List.set_append_left _ _ (by simpa using hc), List.map_set]
theorem wan {vs : List Val} {junk : List (List Ce)} {c : Nat} (hc : c < vs.length) : (vs.map encV ++ junk)[0 + c]? = some (encV vs[c]) := by
 rw [Nat.zero_add, List.getElem?_append_left (by simpa using hc)]
 simp [hc]
theorem zg3.at0 {P : Program} {f : Nat} {args : List AV} {s : Nat} {ys : List (List Ce)} (h : zg3 P f args s ys) (σ : wa) : Ok P f args (E σ []) (Made σ s ys) := (h.at_ (E σ [])).mono fun r τ hq => by
 obtain ⟨v, junk, hj, rfl, rfl⟩ := hq
 refine ⟨v, junk, hj, ?_, ?_⟩
 ·rw [wx]
  rfl
 ·rw [E_E]
  rfl
theorem Go.ext {P : Program} {n0 nt : Nat} {rets : List RV} {R : AV -> wa -> Prop} {K : List AK} {fr : Fr} {σ τ : wa} (h : Go P n0 nt rets R K fr τ) (e : τ = σ) : Go P n0 nt rets R K fr σ := e ▸ h
end Go.Proofs.YtmmgbgpglhbhcaaGreat.Am
namespace Go.Proofs.YtmmgbgpglhbhcaaGreat.Am
variable {I : Nat -> Int -> Prop}

def Done (L : ChL) (n : Nat) (s : List zd) (q : Res) (τ : wa) (r : AV) (τ' : wa) : Prop := r = .c (.int .i64 q.2) /\ Kept n τ τ' /\ (q.2 = 0 -> ∃ xs, zz L n s xs q.1 τ')
structure zhw (I : Nat -> Int -> Prop) (L : ChL) (n : Nat) (s : List zd) (run : Chg -> List Data -> Res) (dp : Int) : Prop where
 keeps : jgy I s run
 del : ∀ (k : Nat) (id : Int) (db : List Data) (xs : List Ce) (τ : wa), zz L n s xs db τ -> DbG I s db -> k < s.length -> Ok Tryz.prog 51 [.c (.ptr L.c L.vc 0 0), .c (.int .i64 (k : Int)), .c (.int .i64 id), .c (.int .i64 dp)] τ (Done L n s (run (.del k id) db) τ)
 upd : ∀ (k : Nat) (id : Int) (vals : List Val) (rep : Bool) (db : List Data) (xs : List Ce) (τ : wa), zz L n s xs db τ -> DbG I s db -> jkc s (.upd k id vals rep) -> Ok Tryz.prog 70 [.c (.ptr L.c L.vc 0 0), .c (.int .i64 (k : Int)), .c (.int .i64 id), .c (.fz (vals.map encV)), .c (.bool rep), .c (.int .i64 dp)] τ (Done L n s (run (.upd k id vals rep) db) τ)
set_option maxHeartbeats 1000000 in
theorem jkn {L : ChL} {n : Nat} {s : List zd} {run : Chg -> List Data -> Res} {deep : Int} (hs : SchG s) (hr : zhw I L n s run (IntKind.i64.wrap (deep + 1))) {k : Nat} (hk : k < s.length) (id : Int) (vals : List Val) (hl : vals.length = s[k].cols.length) (rep : Bool) (db : List Data) (xs : List Ce) (τ : wa)
 (h : zz L n s xs db τ) (hdb : DbG I s db) : Ok Tryz.prog 145 [.c (.ptr L.c L.vc 0 0), .c (.int .i64 (k : Int)), .c (.int .i64 id), .c (.fz (vals.map encV)), .c (.bool rep), .c (.int .i64 deep)] τ (Done L n s (w7 run s[k] k ⟨id, vals⟩ rep db) τ) := by
 refine Ok.run0 mixed jb0 (yaa rfl) fun hS hA => ?_
 clear hS hA
 have hk2 : k < db.length := by rw [hdb.len]; exact hk
 have hk3 : k < xs.length := by rw [h.len]; exact hk2
 have hR := hdb.rows k hk hk2
 have hK : jnl s[k] db[k] ⟨id, vals⟩ := zny hs hdb hk hk2 hl
 have c1 := wk5 s[k] db[k].rows id vals (yah hR.len (by decide)) hK.uniq hK.len hK.own hK.far
 rw [w7, wg hk2]
 have hrl : (jz db[k].rows (zp s[k]) id vals).length <= 60 := yah jb4 hR.len
 have hz := h.frzR hk2 hk3
 show Go _ _ _ _ (Done L n s (if (decide (0 < (jz db[k].rows (zp s[k]) id vals).length) && !rep) = true then ([], 4) else j4 run k (jz db[k].rows (zp s[k]) id vals) db) τ) _ _ _
 generalize jz db[k].rows (zp s[k]) id vals = ids at c1 hrl ⊢
 repeat' first|refine yaG ?_|((first|apply yG|apply yH|apply yI);exact rfl;(first|exact zd1 h rfl|exact wb7 h rfl|exact jd1 h rfl rfl rfl hk2|exact wd1 h rfl hk3|exact yX (enc := ja) rfl rfl rfl hk rfl))|exact yaF|refine yaS ?_ ?_<;>intro _
 refine Go.scall _ rfl rfl rfl (Lend.fresh (.same (.own hz (.same (.same .nil)))) c1) ?_
 rintro r9 τ9 ⟨hr9, ht9⟩
 rw [hr9, ht9]
 clear hr9 ht9
 by_cases h0 : 0 < ids.length
 ·have h1 : (ids.length : Int) > 0 := by omega
  cases rep
  ·rw [if_pos (by simp [h0])]
   repeat' first|refine yaG ?_|exact yaF|refine yaS ?_ ?_<;>intro _
   exact .ret rfl ⟨rfl, .refl, fun h => by cases h⟩
  ·rw [Bool.not_true, ybh, if_neg yaj]
   repeat' first|refine yaG ?_|exact yaF|refine yaS ?_ ?_<;>intro _
   clear c1 hz
   refine Go.keep [0, 1, 5, 42, 43, 44] (Go.loops (I := fun m fr τ' => ∃ (i : Nat) (ki : Int) (db' : List Data) (xs' : List Ce), m = ids.length - i /\ i <= ids.length /\ ki = i /\ (DbG I s db' /\ zz L n s xs' db' τ' /\ Kept n τ τ' /\ j4 run k ids db = j4 run k (ids.drop i) db') /\
    fr = [(0, .c (.ptr L.c L.vc 0 0)), (1, .c (.int .i64 (k : Int))), (5, .c (.int .i64 deep)), (42, .c (.fz (ids.map encI))), (43, .c (.int .i64 (ids.length : Int))), (44, .c (.int .i64 ki))]) ?_ _ _ _ ⟨0, _, db, xs, rfl, yae _, rfl, ⟨hdb, h, .refl, rfl⟩, rfl⟩)
   rintro m fr τ1 ⟨i, ki, db', xs', rfl, hi, hki, ⟨hdb', hH, hkp, hst⟩, rfl⟩ hrec
   by_cases hlt : i < ids.length
   ·have hn3 : k < db'.length := by rw [hdb'.len]; exact hk
    have hn4 : k < xs'.length := by rw [hH.len]; exact hn3
    have hR3 := hdb'.rows k hk hn3
    rw [yac hlt, j4, wg hn3] at hst
    have cf := jen hH hn3 hn4 ids[i] hR3.len
    rcases wo db'[k].rows ids[i] with ⟨hx1, hx2⟩ | ⟨j, hj, hx1, hx2⟩
    ·rw [hx2, if_pos (show (none : Option RowD).isNone = true from rfl)] at hst
     repeat' first|refine yaG ?_|((first|apply yG|apply yH|apply yI);exact rfl;(first|exact yX (enc := encI) rfl rfl hki hlt rfl))|exact yaF|refine yaS ?_ ?_<;>intro _
     refine .call _ rfl rfl rfl (cf.1 hx2) ?_
     rintro r9 τ9 ⟨hr9, ht9⟩
     rw [hr9, ht9]
     clear hr9 ht9
     repeat' first|refine yaG ?_|exact yaF|refine yaS ?_ ?_<;>intro _
     exact Go.keep [0, 1, 5, 42, 43, 44] (hrec _ _ _ (by omega) ⟨i + 1, _, db', xs', rfl, hlt, wb hki (by omega), ⟨hdb', hH, hkp, hst⟩, rfl⟩)
    ·rw [hx2, if_neg (show ¬ (some db'[k].rows[j]).isNone = true from yaj)] at hst
     obtain ⟨lab2, ps2, id2, v2, junk2, hat, hl2⟩ := hH.some hn3 hn4 (Nat.lt_of_le_of_lt (yae _) hj)
     have c2 := hr.del k ids[i] db' xs' τ1 hH hdb' hk
     have hkp2 := hr.keeps (.del k ids[i]) db' hdb' hk
     generalize run (.del k ids[i]) db' = q at c2 hst hkp2
     repeat' first|refine yaG ?_|((first|apply yG|apply yH|apply yI);exact rfl;(first|exact yX (enc := encI) rfl rfl hki hlt rfl))|exact yaF|refine yaS ?_ ?_<;>intro _
     refine .call _ rfl rfl rfl (cf.2 j hj hx1 _ _ _ _ _ hat) ?_
     rintro r9 τ9 ⟨hr9, ht9⟩
     rw [hr9, ht9]
     clear hr9 ht9
     repeat' first|refine yaG ?_|exact yaF|refine yaS ?_ ?_<;>intro _
     refine .call _ rfl rfl rfl c2 ?_
     rintro r9 τ2 ⟨hr9, hk9, hq9⟩
     rw [hr9]
     clear hr9
     by_cases hq : q.2 = 0
     ·rw [if_pos hq] at hst
      obtain ⟨xs2, hH2⟩ := hq9 hq
      rw [hq]
      repeat' first|refine yaG ?_|exact yaF|refine yaS ?_ ?_<;>intro _
      exact Go.keep [0, 1, 5, 42, 43, 44] (hrec _ _ _ (by omega) ⟨i + 1, _, q.1, xs2, rfl, hlt, wb hki (by omega), ⟨hkp2 hq, hH2, hkp.trans hk9, hst⟩, rfl⟩)
     ·rw [if_neg hq] at hst
      rw [hst]
      generalize q.2 = e at hq ⊢
      repeat' first|refine yaG ?_|exact yaF|refine yaS ?_ ?_<;>intro _
      exact .ret rfl ⟨rfl, hkp.trans hk9, fun h => absurd h hq⟩
   ·rw [yad (by omega), j4] at hst
    rw [hst]
    repeat' first|refine yaG ?_|exact yaF|refine yaS ?_ ?_<;>intro _
    exact .ret rfl ⟨rfl, hkp, fun _ => ⟨xs', hH⟩⟩
 ·have hz : ids = [] := yal (by omega)
  subst hz
  rw [if_neg (by simp), j4]
  repeat' first|refine yaG ?_|exact yaF|refine yaS ?_ ?_<;>intro _
  apply Go.loop
  repeat' first|refine yaG ?_|exact yaF|refine yaS ?_ ?_<;>intro _
  exact .ret rfl ⟨rfl, .refl, fun _ => ⟨xs, h⟩⟩
end Go.Proofs.YtmmgbgpglhbhcaaGreat.Am
namespace Go.Proofs.YtmmgbgpglhbhcaaGreat.Am
variable {I : Nat -> Int -> Prop}

set_option maxHeartbeats 4000000 in
theorem wl0 {s : List zd} {run : Chg -> List Data -> Res} {deep : Int} (hs : SchG s) (hr : wen I s run (IntKind.i64.wrap (deep + 1))) {n : Nat} (hn : n < s.length) (y : Way) (key wth : List Val) (gone : Bool) (wv : Ce) (hw : With gone wv wth y.cols.length) (hwv : ∀ v ∈ wth, zr v = true)
 (hc : InR y.cols s[n].cols.length) (hcl : y.cols.length <= 34359738368) (db : List Data) (h : DbG I s db) :
 Pure Tryz.prog 187 [.c (.fz (s.map ja)), .c (.fz (db.map jb)), .c (.int .i64 (n : Int)), .agg (zd2 y), .c (.fz (key.map encV)), .c wv, .c (.bool gone), .c (.int .i64 deep)] (resV (w9 run n y key wth gone (j7 (zt db n) y.cols key) db)) := by
 refine Pure.run mixed ze9 (yaa rfl) fun σ hS hA => ?_
 clear hA
 have hn2 : n < db.length := by rw [h.len]; exact hn
 have hR := h.rows n hn hn2
 have c1 := wgw db[n] y.cols key (yah hR.len (by decide)) hcl (fun r hr2 => by rw [(hR.fit r hr2).1]; exact hc)
 rw [wg hn2]
 have hil : (j7 db[n].rows y.cols key).length <= 60 := by
  rw [j7, yag]
  exact yah (ybn _ _) hR.len
 generalize j7 db[n].rows y.cols key = ids at c1 hil ⊢
 have hwo : ∀ (n : Nat), ∀ x ∈ (AV.c wv).all, Old n x := fun n => hw.old
 repeat' first|refine yaG ?_|((first|apply yG|apply yH|apply yI);exact rfl;(first|exact yX (enc := jb) rfl rfl rfl hn2 rfl))|refine yaC (c1) ?_|exact yaF|refine yaS ?_ ?_<;>intro _
 clear c1
 refine Go.keep [0, 1, 2, 4, 5, 6, 7, 11, 18, 19] (Go.loops (I := fun m fr τ => ∃ (i : Nat) (k : Int) (db' : List Data), m = ids.length - i /\ i <= ids.length /\ k = i /\ (DbG I s db' /\ w9 run n y key wth gone ids db = w9 run n y key wth gone (ids.drop i) db') /\
  fr = [(0, .c (.fz (s.map ja))), (1, .c (.fz (db'.map jb))), (2, .c (.int .i64 (n : Int))), (4, .c (.fz (key.map encV))), (5, .c wv), (6, .c (.bool gone)), (7, .c (.int .i64 deep)), (11, .c (.fp (zd2 y))), (18, .c (.fz (ids.map encI))), (19, .c (.int .i64 k))] /\ τ = E σ []) ?_ _ _ _ ⟨0, _, db, rfl, yae _, rfl, ⟨h, rfl⟩, rfl, rfl⟩)
 rintro m fr τ ⟨i, k, db', rfl, hi, hk, ⟨hdb, hst⟩, rfl, rfl⟩ hrec
 by_cases hlt : i < ids.length
 ·have hn3 : n < db'.length := by rw [hdb.len]; exact hn
  have hR3 := hdb.rows n hn hn3
  rw [yac hlt, w9, wg hn3] at hst
  have c2 := wax db'[n] ids[i] (yah hR3.len (by decide))
  rcases wo db'[n].rows ids[i] with ⟨hx1, hx2⟩ | ⟨j, hj, hx1, hx2⟩
  ·rw [hx1] at c2
   rw [hx2] at hst
   repeat' first|refine yaG ?_|((first|apply yG|apply yH|apply yI);exact rfl;(first|exact yX (enc := encI) rfl rfl hk hlt rfl|exact yX (enc := jb) rfl rfl rfl hn3 rfl))|refine yaC (c2) ?_|exact yaF|refine yaS ?_ ?_<;>intro _
   exact Go.keep [0, 1, 2, 4, 5, 6, 7, 11, 18, 19] (hrec _ _ _ (by omega) ⟨i + 1, _, db', rfl, hlt, wb hk (by omega), ⟨hdb, hst⟩, rfl, rfl⟩)
  ·rw [hx1] at c2
   rw [hx2] at hst
   simp only at hst
   have hfit := hR3.fit _ (yab hj)
   have hrow : zat (zt db' n) ids[i] = some db'[n].rows[j] := by rw [wg hn3]; exact hx2
   have hidx : db'[n].rows[j].id = ids[i] := (zak hrow).2
   have c3 := wbe y.cols db'[n].rows[j].vals hcl (by rw [hfit.1]; exact hc)
   have c4 := zbe (keyF y.cols db'[n].rows[j].vals) key (by rw [zax]; exact hcl)
   rw [hasB] at hst
   cases hwh : w8 y.cols db'[n].rows[j].vals
   ·rw [hwh, ybe, if_neg yaj] at hst
    rw [hwh] at c3
    repeat' first|refine yaG ?_|((first|apply yG|apply yH|apply yI);exact rfl;(first|exact yX (enc := encI) rfl rfl hk hlt rfl|exact yX (enc := jb) rfl rfl rfl hn3 rfl|exact yX (enc := jc) rfl rfl rfl hj rfl))|refine yaC (c2) ?_|refine yaC (c3) ?_|exact yaF|refine yaS ?_ ?_<;>intro _
    exact Go.keep [0, 1, 2, 4, 5, 6, 7, 11, 18, 19] (hrec _ _ _ (by omega) ⟨i + 1, _, db', rfl, hlt, wb hk (by omega), ⟨hdb, hst⟩, rfl, rfl⟩)
   ·rw [hwh, yay] at hst
    rw [hwh] at c3
    cases hke : (keyF y.cols db'[n].rows[j].vals == key)
    ·rw [hke, if_neg yaj] at hst
     rw [hke] at c4
     generalize keyF y.cols db'[n].rows[j].vals = kf at c3 c4
     repeat' first|refine yaG ?_|((first|apply yG|apply yH|apply yI);exact rfl;(first|exact yX (enc := encI) rfl rfl hk hlt rfl|exact yX (enc := jb) rfl rfl rfl hn3 rfl|exact yX (enc := jc) rfl rfl rfl hj rfl))|refine yaC (c2) ?_|refine yaC (c3) ?_|refine yaC (c4) ?_|exact yaF|refine yaS ?_ ?_<;>intro _
     exact Go.keep [0, 1, 2, 4, 5, 6, 7, 11, 18, 19] (hrec _ _ _ (by omega) ⟨i + 1, _, db', rfl, hlt, wb hk (by omega), ⟨hdb, hst⟩, rfl, rfl⟩)
    ·rw [hke, if_pos rfl] at hst
     rw [hke] at c4
     generalize keyF y.cols db'[n].rows[j].vals = kf at c3 c4
     rw [oneF] at hst
     by_cases ha0 : y.act = 0
     ·rw [if_pos ha0] at hst
      cases hwt : y.wait
      ·rw [hwt, if_neg yaj, if_neg (by decide)] at hst
       repeat' first|refine yaG ?_|((first|apply yG|apply yH|apply yI);exact rfl;(first|exact yX (enc := encI) rfl rfl hk hlt rfl|exact yX (enc := jb) rfl rfl rfl hn3 rfl|exact yX (enc := jc) rfl rfl rfl hj rfl))|refine yaC (c2) ?_|refine yaC (c3) ?_|refine yaC (c4) ?_|exact yaF|refine yaS ?_ ?_<;>intro _
       all_goals first
        |(exfalso; simp_all; done)
        |(rw [hst]; exact .ret rfl (Fin.same rfl (zi ([], 5) _)))
      ·rw [hwt, if_pos rfl, if_pos rfl] at hst
       repeat' first|refine yaG ?_|((first|apply yG|apply yH|apply yI);exact rfl;(first|exact yX (enc := encI) rfl rfl hk hlt rfl|exact yX (enc := jb) rfl rfl rfl hn3 rfl|exact yX (enc := jc) rfl rfl rfl hj rfl))|refine yaC (c2) ?_|refine yaC (c3) ?_|refine yaC (c4) ?_|exact yaF|refine yaS ?_ ?_<;>intro _
       all_goals first
        |(exfalso; simp_all; done)
        | exact Go.keep [0, 1, 2, 4, 5, 6, 7, 11, 18, 19] (hrec _ _ _ (by omega) ⟨i + 1, _, db', rfl, hlt, wb hk (by omega), ⟨hdb, hst⟩, rfl, rfl⟩)
     ·rw [if_neg ha0] at hst
      by_cases hgo : y.act = 1 /\ gone = true
      ·obtain ⟨ha1, rfl⟩ := hgo
       rw [if_pos (show y.act = 1 /\ true = true from ⟨ha1, rfl⟩)] at hst
       have c5 := hr.del n db'[n].rows[j].id db' db'[n].rows[j] hdb hn (by rw [hidx]; exact hrow)
       have hkp := hr.keeps (.del n db'[n].rows[j].id) db' hdb hn
       generalize run (.del n db'[n].rows[j].id) db' = q at c5 hst hkp
       by_cases hq : q.2 = 0
       ·rw [if_pos hq] at hst
        rw [z9 hq] at c5
        have hkq := hkp hq
        repeat' first|refine yaG ?_|((first|apply yG|apply yH|apply yI);exact rfl;(first|exact yX (enc := encI) rfl rfl hk hlt rfl|exact yX (enc := jb) rfl rfl rfl hn3 rfl|exact yX (enc := jc) rfl rfl rfl hj rfl))|refine yaC (c2) ?_|refine yaC (c3) ?_|refine yaC (c4) ?_|refine yaC (c5) ?_|exact yaF|refine yaS ?_ ?_<;>intro _
        exact Go.keep [0, 1, 2, 4, 5, 6, 7, 11, 18, 19] (hrec _ _ _ (by omega) ⟨i + 1, _, q.1, rfl, hlt, wb hk (by omega), ⟨hkq, hst⟩, rfl, rfl⟩)
       ·rw [if_neg hq] at hst
        obtain ⟨e, he⟩ : ∃ e, q.2 = e := ⟨_, rfl⟩
        rw [he] at hst hq
        rw [wae he hq] at c5
        rw [hst]
        repeat' first|refine yaG ?_|((first|apply yG|apply yH|apply yI);exact rfl;(first|exact yX (enc := encI) rfl rfl hk hlt rfl|exact yX (enc := jb) rfl rfl rfl hn3 rfl|exact yX (enc := jc) rfl rfl rfl hj rfl))|refine yaC (c2) ?_|refine yaC (c3) ?_|refine yaC (c4) ?_|refine yaC (c5) ?_|exact yaF|refine yaS ?_ ?_<;>intro _
        exact .ret rfl (Fin.same (zbb hq).symm (zi ([], e) _))
      ·rw [if_neg hgo] at hst
       have hgo2 : y.act = 1 -> gone = false := fun h1 => by
        cases gone
        ·rfl
        ·exact absurd ⟨h1, rfl⟩ hgo
       obtain ⟨f3, f4⟩ := je.1 hfit.2
       have hco := zbg (casc := y.act == 1) (cs := y.cols) (w := wth) hwv f4
       have hok : jkc s (.upd n db'[n].rows[j].id (zm (y.act == 1) y.cols wth db'[n].rows[j].vals) false) := ⟨hn, by rw [hco.1]; exact hfit.1, je.2 ⟨by rw [hco.1]; exact f3, hco.2⟩⟩
       have c5 := hr.upd n db'[n].rows[j].id (zm (y.act == 1) y.cols wth db'[n].rows[j].vals) false db' hdb hok
       have hkp := hr.keeps (.upd n db'[n].rows[j].id (zm (y.act == 1) y.cols wth db'[n].rows[j].vals) false) db' hdb hok
       have cm := wb4 db'[n].rows[j].vals (yah f3 (by decide))
       have hcj : InR y.cols db'[n].rows[j].vals.length := by rw [hfit.1]; exact hc
       generalize run (.upd n db'[n].rows[j].id (zm (y.act == 1) y.cols wth db'[n].rows[j].vals) false) db' = q at c5 hst hkp
       by_cases ha1 : y.act = 1
       ·have hg := hgo2 ha1
        subst hg
        cases hw with
        | now hwl =>
        repeat' first|refine yaG ?_|((first|apply yG|apply yH|apply yI);exact rfl;(first|exact yX (enc := encI) rfl rfl hk hlt rfl|exact yX (enc := jb) rfl rfl rfl hn3 rfl|exact yX (enc := jc) rfl rfl rfl hj rfl))|refine yaC (c2) ?_|refine yaC (c3) ?_|refine yaC (c4) ?_|exact yaF|refine yaS ?_ ?_<;>intro _
        all_goals first
         |(exfalso; simp_all; done)
         | skip
        refine .call _ rfl rfl rfl (cm.at0 σ) ?_
        rintro r _ ⟨v, junk, hjk, rfl, rfl⟩
        repeat' first|refine yaG ?_|exact yaF|refine yaS ?_ ?_<;>intro _
        refine Go.keep [0, 1, 2, 4, 5, 6, 7, 11, 18, 19, 21, 26, 27] (Go.loops (I := fun m fr τ => ∃ (a : Nat) (ka : Int) (vs : List Val), m = y.cols.length - a /\ a <= y.cols.length /\ ka = a /\ (vs.length = db'[n].rows[j].vals.length /\ zm (y.act == 1) y.cols wth db'[n].rows[j].vals = zm (y.act == 1) (y.cols.drop a) (wth.drop a) vs) /\
         fr = [(0, .c (.fz (s.map ja))), (1, .c (.fz (db'.map jb))), (2, .c (.int .i64 (n : Int))), (4, .c (.fz (key.map encV))), (5, .c (.fz (wth.map encV))), (6, .c (.bool false)), (7, .c (.int .i64 deep)), (11, .c (.fp (zd2 y))), (18, .c (.fz (ids.map encI))), (19, .c (.int .i64 k)), (21, .c (.fp (jc db'[n].rows[j]))), (26, .c (vec (σ.next + 0) v (db'[n].rows[j].vals.map encV) junk)), (27, .c (.int .i64 ka))] /\ τ = E σ [(v, vs.map encV ++ junk)]) ?_ _ _ _ ⟨0, _, db'[n].rows[j].vals, rfl, yae _, rfl, ⟨rfl, rfl⟩, rfl, rfl⟩)
        rintro m fr τ ⟨a, ka, vs, rfl, hai, hka, ⟨hvl, hsc⟩, rfl, rfl⟩ hreca
        by_cases hlta : a < y.cols.length
        ·clear hrec
         have hltw : a < wth.length := by omega
         obtain ⟨q1, q2⟩ := hcj _ (yab hlta)
         have hcc : y.cols[a] = (y.cols[a].toNat : Int) := by omega
         have hcv : y.cols[a].toNat < vs.length := by omega
         have hcm : y.cols[a].toNat < (db'[n].rows[j].vals.map encV).length := by rw [yag]; omega
         have hcv2 : y.cols[a].toNat < (vs.set y.cols[a].toNat jy).length := by rw [yar]; exact hcv
         rw [yac hlta, yac hltw, zm, if_pos (by rw [ha1]; rfl), List.tail_cons, List.headD_cons] at hsc
         repeat' first|refine yaG ?_|((first|apply yG|apply yH|apply yI);exact rfl;(first|exact yX (enc := encI) rfl rfl hka hlta rfl|exact z3 (k := 0) rfl rfl hcc hcm rfl (wan hcv) rfl|exact jm (k := 0) rfl rfl rfl rfl (wan hcv) rfl (yaa rfl)))|exact yaF|refine yaS ?_ ?_<;>intro _
         have hset1 : List.set [(v, vs.map encV ++ junk)] 0 (v, (vs.map encV ++ junk).set (0 + y.cols[a].toNat) (jh (encV vs[y.cols[a].toNat]) 0 [.int .i64 0, .int .i64 0, .str []])) = [(v, (vs.set y.cols[a].toNat jy).map encV ++ junk)] := congrArg (fun z => [(v, z)]) (zb5 hcv _ jy)
         rw [hset1]
         repeat' first|refine yaG ?_|((first|apply yG|apply yH|apply yI);exact rfl;(first|exact yX (enc := encI) rfl rfl hka hlta rfl|exact yX (enc := encV) rfl rfl hka hltw rfl|exact z3 (k := 0) rfl rfl hcc hcm rfl (wan hcv2) rfl|exact jm (k := 0) rfl rfl rfl rfl (wan hcv2) rfl (yaa rfl)))|exact yaF|refine yaS ?_ ?_<;>intro _
         refine Go.keep [0, 1, 2, 4, 5, 6, 7, 11, 18, 19, 21, 26, 27] (hreca _ _ _ (by omega) ⟨a + 1, _, (vs.set y.cols[a].toNat jy).set y.cols[a].toNat wth[a], rfl, hlta, wb hka (by omega), ⟨by rw [yar, yar]; exact hvl, by rw [hsc, List.set_set]⟩, rfl, ?_⟩)
         exact congrArg (E σ) (congrArg (fun z => [(v, z)]) (zb5 hcv2 _ wth[a]))
        ·clear hreca
         rw [yad (show y.cols.length <= a by omega), zm] at hsc
         rw [hsc] at c5
         repeat' first|refine yaG ?_|exact yaF|refine yaS ?_ ?_<;>intro _
         have hvv : vec (σ.next + 0) v (db'[n].rows[j].vals.map encV) junk = vec (σ.next + 0) v (vs.map encV) junk := by rw [vec, vec, yag, yag, hvl]
         refine Go.freezeN (l := []) (m := [(v, vs.map encV ++ junk)]) (fr' := [(0, .c (.fz (s.map ja))), (1, .c (.fz (db'.map jb))), (2, .c (.int .i64 (n : Int))), (4, .c (.fz (key.map encV))), (5, .c (.fz (wth.map encV))), (6, .c (.bool false)), (7, .c (.int .i64 deep)), (11, .c (.fp (zd2 y))), (18, .c (.fz (ids.map encI))), (19, .c (.int .i64 k)), (111, .c (.fz (s.map ja))), (112, .c (.fz (db'.map jb))), (113, .c (.int .i64 (n : Int))), (115, .c (.int .i64 db'[n].rows[j].id)), (116, .c (.fz (vs.map encV))), (118, .c (.int .i64 (IntKind.i64.wrap (deep + 1))))]) hS (fun b hb => by cases hb) (yak _)
          (.frz rfl (.refl jbx) (.frz rfl (.refl zcn) (.frz rfl (.refl zaq) (.frz rfl (.refl wav) (.frz rfl (.refl (hwo _)) (.frz rfl (.refl zmp) (.frz rfl (.refl zaq) (.frz rfl (.refl jl0) (.frz rfl (.refl jiq) (.frz rfl (.refl zaq) (.frz rfl (.refl jbx) (.frz rfl (.refl zcn) (.frz rfl (.refl zaq) (.frz rfl (.refl zaq) (.frz rfl (by rw [hvv]; exact zb3 (k := 0) rfl (yak _)) (.frz rfl (.refl zaq) .nil)))))))))))))))) ?_
         by_cases hq : q.2 = 0
         ·rw [if_pos hq] at hst
          rw [z9 hq] at c5
          have hkq := hkp hq
          repeat' first|refine yaG ?_|refine yaC (c5) ?_|exact yaF|refine yaS ?_ ?_<;>intro _
          exact Go.keep [0, 1, 2, 4, 5, 6, 7, 11, 18, 19] (hrec _ _ _ (by omega) ⟨i + 1, _, q.1, rfl, hlt, wb hk (by omega), ⟨hkq, hst⟩, rfl, rfl⟩)
         ·rw [if_neg hq] at hst
          obtain ⟨e, he⟩ : ∃ e, q.2 = e := ⟨_, rfl⟩
          rw [he] at hst hq
          rw [wae he hq] at c5
          rw [hst]
          repeat' first|refine yaG ?_|refine yaC (c5) ?_|exact yaF|refine yaS ?_ ?_<;>intro _
          exact .ret rfl (Fin.same (zbb hq).symm (zi ([], e) _))
       ·repeat' first|refine yaG ?_|((first|apply yG|apply yH|apply yI);exact rfl;(first|exact yX (enc := encI) rfl rfl hk hlt rfl|exact yX (enc := jb) rfl rfl rfl hn3 rfl|exact yX (enc := jc) rfl rfl rfl hj rfl))|refine yaC (c2) ?_|refine yaC (c3) ?_|refine yaC (c4) ?_|exact yaF|refine yaS ?_ ?_<;>intro _
        all_goals first
         |(exfalso; simp_all; done)
         | skip
        refine .call _ rfl rfl rfl (cm.at0 σ) ?_
        rintro r _ ⟨v, junk, hjk, rfl, rfl⟩
        repeat' first|refine yaG ?_|exact yaF|refine yaS ?_ ?_<;>intro _
        refine Go.keep [0, 1, 2, 4, 5, 6, 7, 11, 18, 19, 21, 26, 27] (Go.loops (I := fun m fr τ => ∃ (a : Nat) (ka : Int) (vs : List Val), m = y.cols.length - a /\ a <= y.cols.length /\ ka = a /\ (vs.length = db'[n].rows[j].vals.length /\ zm (y.act == 1) y.cols wth db'[n].rows[j].vals = zm (y.act == 1) (y.cols.drop a) (wth.drop a) vs) /\
         fr = [(0, .c (.fz (s.map ja))), (1, .c (.fz (db'.map jb))), (2, .c (.int .i64 (n : Int))), (4, .c (.fz (key.map encV))), (5, .c (wv)), (6, .c (.bool gone)), (7, .c (.int .i64 deep)), (11, .c (.fp (zd2 y))), (18, .c (.fz (ids.map encI))), (19, .c (.int .i64 k)), (21, .c (.fp (jc db'[n].rows[j]))), (26, .c (vec (σ.next + 0) v (db'[n].rows[j].vals.map encV) junk)), (27, .c (.int .i64 ka))] /\ τ = E σ [(v, vs.map encV ++ junk)]) ?_ _ _ _ ⟨0, _, db'[n].rows[j].vals, rfl, yae _, rfl, ⟨rfl, rfl⟩, rfl, rfl⟩)
        rintro m fr τ ⟨a, ka, vs, rfl, hai, hka, ⟨hvl, hsc⟩, rfl, rfl⟩ hreca
        by_cases hlta : a < y.cols.length
        ·clear hrec
         obtain ⟨q1, q2⟩ := hcj _ (yab hlta)
         have hcc : y.cols[a] = (y.cols[a].toNat : Int) := by omega
         have hcv : y.cols[a].toNat < vs.length := by omega
         have hcm : y.cols[a].toNat < (db'[n].rows[j].vals.map encV).length := by rw [yag]; omega
         have hcv2 : y.cols[a].toNat < (vs.set y.cols[a].toNat jy).length := by rw [yar]; exact hcv
         rw [yac hlta, zm, if_neg (by rw [beq_iff_eq]; exact ha1), List.tail_drop] at hsc
         repeat' first|refine yaG ?_|((first|apply yG|apply yH|apply yI);exact rfl;(first|exact yX (enc := encI) rfl rfl hka hlta rfl|exact z3 (k := 0) rfl rfl hcc hcm rfl (wan hcv) rfl|exact jm (k := 0) rfl rfl rfl rfl (wan hcv) rfl (yaa rfl)))|exact yaF|refine yaS ?_ ?_<;>intro _
         refine Go.keep [0, 1, 2, 4, 5, 6, 7, 11, 18, 19, 21, 26, 27] (hreca _ _ _ (by omega) ⟨a + 1, _, vs.set y.cols[a].toNat jy, rfl, hlta, wb hka (by omega), ⟨by rw [yar]; exact hvl, hsc⟩, rfl, ?_⟩)
         exact congrArg (E σ) (congrArg (fun z => [(v, z)]) (zb5 hcv _ jy))
        ·clear hreca
         rw [yad (show y.cols.length <= a by omega), zm] at hsc
         rw [hsc] at c5
         repeat' first|refine yaG ?_|exact yaF|refine yaS ?_ ?_<;>intro _
         have hvv : vec (σ.next + 0) v (db'[n].rows[j].vals.map encV) junk = vec (σ.next + 0) v (vs.map encV) junk := by rw [vec, vec, yag, yag, hvl]
         refine Go.freezeN (l := []) (m := [(v, vs.map encV ++ junk)]) (fr' := [(0, .c (.fz (s.map ja))), (1, .c (.fz (db'.map jb))), (2, .c (.int .i64 (n : Int))), (4, .c (.fz (key.map encV))), (5, .c (wv)), (6, .c (.bool gone)), (7, .c (.int .i64 deep)), (11, .c (.fp (zd2 y))), (18, .c (.fz (ids.map encI))), (19, .c (.int .i64 k)), (111, .c (.fz (s.map ja))), (112, .c (.fz (db'.map jb))), (113, .c (.int .i64 (n : Int))), (115, .c (.int .i64 db'[n].rows[j].id)), (116, .c (.fz (vs.map encV))), (118, .c (.int .i64 (IntKind.i64.wrap (deep + 1))))]) hS (fun b hb => by cases hb) (yak _)
          (.frz rfl (.refl jbx) (.frz rfl (.refl zcn) (.frz rfl (.refl zaq) (.frz rfl (.refl wav) (.frz rfl (.refl (hwo _)) (.frz rfl (.refl zmp) (.frz rfl (.refl zaq) (.frz rfl (.refl jl0) (.frz rfl (.refl jiq) (.frz rfl (.refl zaq) (.frz rfl (.refl jbx) (.frz rfl (.refl zcn) (.frz rfl (.refl zaq) (.frz rfl (.refl zaq) (.frz rfl (by rw [hvv]; exact zb3 (k := 0) rfl (yak _)) (.frz rfl (.refl zaq) .nil)))))))))))))))) ?_
         by_cases hq : q.2 = 0
         ·rw [if_pos hq] at hst
          rw [z9 hq] at c5
          have hkq := hkp hq
          repeat' first|refine yaG ?_|refine yaC (c5) ?_|exact yaF|refine yaS ?_ ?_<;>intro _
          exact Go.keep [0, 1, 2, 4, 5, 6, 7, 11, 18, 19] (hrec _ _ _ (by omega) ⟨i + 1, _, q.1, rfl, hlt, wb hk (by omega), ⟨hkq, hst⟩, rfl, rfl⟩)
         ·rw [if_neg hq] at hst
          obtain ⟨e, he⟩ : ∃ e, q.2 = e := ⟨_, rfl⟩
          rw [he] at hst hq
          rw [wae he hq] at c5
          rw [hst]
          repeat' first|refine yaG ?_|refine yaC (c5) ?_|exact yaF|refine yaS ?_ ?_<;>intro _
          exact .ret rfl (Fin.same (zbb hq).symm (zi ([], e) _))
 ·rw [yad (by omega), w9] at hst
  rw [hst]
  repeat' first|refine yaG ?_|exact yaF|refine yaS ?_ ?_<;>intro _
  exact .ret rfl (Fin.same rfl (zi (db', 0) _))
end Go.Proofs.YtmmgbgpglhbhcaaGreat.Am
namespace Go.Proofs.YtmmgbgpglhbhcaaGreat.Am
variable {I : Nat -> Int -> Prop}

theorem jaq (vals : List Val) (h0 : vals ≠ []) (hx : vals.length <= 34359738368) (σ : wa) : Ok Tryz.prog 101 [.c (.fz (vals.map encV))] σ (Made σ 3 (vals.map encV)) :=
 (jme mixed zcd (vals.map encV) lens (by rw [yag]; omega) σ).mono fun r τ h => by
   rcases h with ⟨h, _⟩ | h
   ·exact absurd (List.map_eq_nil_iff.1 h) h0
   ·exact h
set_option maxHeartbeats 4000000 in
theorem wmv {L : ChL} {n : Nat} {s : List zd} {run : Chg -> List Data -> Res} {deep : Int} (hs : SchG s) (hr : zhw I L n s run (IntKind.i64.wrap (deep + 1))) {k : Nat} (hk : k < s.length) (r : RowD) (rv : Ce) (f : Fk) (wth : List Val) (gone : Bool) (wv : Ce) (hw : With gone wv wth f.cols.length) (hwv : ∀ v ∈ wth, zr v = true) (hw0 : 0 < f.cols.length) (hcl : f.cols.length <= 34359738368)
 (hc : InR f.cols s[k].cols.length) (db : List Data) (xs : List Ce) (τ : wa) (h : zz L n s xs db τ) (hdb : DbG I s db) (hrk : r ∈ zt db k) (hvl : Vl τ r.vals rv) :
 Ok Tryz.prog 200 [.c (.ptr L.c L.vc 0 0), .c (.int .i64 (k : Int)), .agg [.int .i64 r.id, rv], .agg (jv f), .c wv, .c (.int .i64 deep)] τ (Done L n s (oneF run k (jcm f gone) wth gone r db) τ) := by
 refine Ok.run0 mixed wb0 (yaa rfl) fun hS hA => ?_
 clear hA
 have hk2 : k < db.length := by rw [hdb.len]; exact hk
 have hR := hdb.at hk
 have hfit := hR.fit _ hrk
 have ht := hs.tab _ (yab hk)
 have hv0 : r.vals ≠ [] := fun h0 => by
  have h1 := hfit.1
  rw [h0] at h1
  have := ht.cols0
  simp at h1
  omega
 obtain ⟨f3, f4⟩ := je.1 hfit.2
 have cm := Lend.made (.own hvl.frz .nil) (jaq r.vals hv0 (yah f3 (by decide))) fun e he => (jgz e he).2
 have hcj : InR f.cols r.vals.length := by rw [hfit.1]; exact hc
 rw [oneF]
 cases hw with
 | gone =>
  show Go _ _ _ _ (Done L n s (if f.onDelete = 0 then (if f.deferred = true then (db, 0) else ([], 5)) else if f.onDelete = 1 /\ true = true then run (.del k r.id) db else run (.upd k r.id (zm (f.onDelete == 1) f.cols [] r.vals) false) db) τ) _ _ _
  repeat' first|refine yaG ?_|exact yaF|refine yaS ?_ ?_<;>intro _
  refine .call _ rfl rfl rfl cm ?_
  rintro q _ ⟨v, junk, hjk, rfl, rfl⟩
  by_cases h0 : f.onDelete = 0
  ·rw [if_pos h0]
   cases hd : f.deferred
   ·rw [if_neg yaj]
    repeat' first|refine yaG ?_|exact yaF|refine yaS ?_ ?_<;>intro _
    all_goals first
     |(exfalso; simp_all; done)
     | exact .ret rfl ⟨rfl, .grow h _, fun h => by cases h⟩
   ·rw [if_pos rfl]
    repeat' first|refine yaG ?_|exact yaF|refine yaS ?_ ?_<;>intro _
    all_goals first
     |(exfalso; simp_all; done)
     | exact .ret rfl ⟨rfl, .grow h _, fun _ => ⟨xs, h.grow _⟩⟩
  ·rw [if_neg h0]
   by_cases h1 : f.onDelete = 1
   ·rw [if_pos ⟨h1, rfl⟩]
    have c5 := hr.del k r.id db xs _ (h.grow [(v, r.vals.map encV ++ junk)]) hdb hk
    repeat' first|refine yaG ?_|exact yaF|refine yaS ?_ ?_<;>intro _
    refine .call _ rfl rfl rfl c5 ?_
    rintro r9 τ9 ⟨rfl, hk9, hq9⟩
    repeat' first|refine yaG ?_|exact yaF|refine yaS ?_ ?_<;>intro _
    exact .ret rfl ⟨rfl, (Kept.grow h _).trans hk9, hq9⟩
   ·rw [if_neg (fun hh => h1 hh.1), beq_eq_false_iff_ne.2 h1]
    obtain ⟨wth, hwe⟩ : ∃ wth : List Val, wth = [] := ⟨_, rfl⟩
    rw [<- hwe] at hwv ⊢
    have hco := zbg (casc := false) (cs := f.cols) (w := wth) hwv f4
    have hok : jkc s (.upd k r.id (zm false f.cols wth r.vals) false) := ⟨hk, by rw [hco.1]; exact hfit.1, je.2 ⟨by rw [hco.1]; exact f3, hco.2⟩⟩
    have c5 := hr.upd k r.id (zm false f.cols wth r.vals) false db xs τ h hdb hok
    generalize run (.upd k r.id (zm false f.cols wth r.vals) false) db = q at c5 ⊢
    repeat' first|refine yaG ?_|exact yaF|refine yaS ?_ ?_<;>intro _
    refine Go.keep [0, 1, 5, 8, 14, 29, 30, 31] (Go.loops (I := fun m fr τ' => ∃ (a : Nat) (ka : Int) (vs : List Val), m = f.cols.length - a /\ a <= f.cols.length /\ ka = a /\ (vs.length = r.vals.length /\ zm (false) f.cols wth r.vals = zm (false) (f.cols.drop a) (wth.drop a) vs) /\
     fr = [(0, .c (.ptr L.c L.vc 0 0)), (1, .c (.int .i64 (k : Int))), (5, .c (.int .i64 deep)), (8, .c (.fp [.int .i64 r.id, rv])), (14, .c (vec (τ.next + 0) v (r.vals.map encV) junk)), (29, .c (.fz (f.cols.map encI))), (30, .c (.int .i64 (f.cols.length : Int))), (31, .c (.int .i64 ka))] /\ τ' = E τ [(v, vs.map encV ++ junk)]) ?_ _ _ _ ⟨0, _, r.vals, rfl, yae _, rfl, ⟨rfl, rfl⟩, rfl, rfl⟩)
    rintro m fr τ' ⟨a, ka, vs, rfl, hai, hka, ⟨hvl, hsc⟩, rfl, rfl⟩ hreca
    by_cases hlta : a < f.cols.length
    ·obtain ⟨q1, q2⟩ := hcj _ (yab hlta)
     have hcc : f.cols[a] = (f.cols[a].toNat : Int) := by omega
     have hcv : f.cols[a].toNat < vs.length := by omega
     have hcm : f.cols[a].toNat < (r.vals.map encV).length := by rw [yag]; omega
     rw [yac hlta, zm, if_neg yaj, List.tail_drop] at hsc
     repeat' first|refine yaG ?_|((first|apply yG|apply yH|apply yI);exact rfl;(first|exact yX (enc := encI) rfl rfl hka hlta rfl|exact z3 (k := 0) rfl rfl hcc hcm rfl (wan hcv) rfl|exact jm (k := 0) rfl rfl rfl rfl (wan hcv) rfl (yaa rfl)))|exact yaF|refine yaS ?_ ?_<;>intro _
     refine Go.keep [0, 1, 5, 8, 14, 29, 30, 31] (hreca _ _ _ (by omega) ⟨a + 1, _, vs.set f.cols[a].toNat jy, rfl, hlta, wb hka (by omega), ⟨by rw [yar]; exact hvl, hsc⟩, rfl, ?_⟩)
     exact congrArg (E τ) (congrArg (fun z => [(v, z)]) (zb5 hcv _ jy))
    ·clear hreca
     rw [yad (show f.cols.length <= a by omega), zm] at hsc
     rw [hsc] at c5
     repeat' first|refine yaG ?_|exact yaF|refine yaS ?_ ?_<;>intro _
     have hvv : vec (τ.next + 0) v (r.vals.map encV) junk = vec (τ.next + 0) v (vs.map encV) junk := by rw [vec, vec, yag, yag, hvl]
     refine Go.freezeN (l := []) (m := [(v, vs.map encV ++ junk)]) (fr' := [(83, .c (.ptr L.c L.vc 0 0)), (84, .c (.int .i64 (k : Int))), (86, .c (.int .i64 r.id)), (87, .c (.fz (vs.map encV))), (89, .c (.int .i64 (IntKind.i64.wrap (deep + 1))))]) hS (fun b hb => by cases hb) (yak _)
      (.frz rfl (.refl (zek h.lc)) (.frz rfl (.refl zaq) (.frz rfl (.refl zaq) (.frz rfl (by rw [hvv]; exact zb3 (k := 0) rfl (yak _)) (.frz rfl (.refl zaq) .nil))))) ?_
     rw [wkr hS]
     refine .call _ rfl rfl rfl c5 ?_
     rintro r9 τ9 ⟨rfl, hk9, hq9⟩
     repeat' first|refine yaG ?_|exact yaF|refine yaS ?_ ?_<;>intro _
     exact .ret rfl ⟨rfl, hk9, hq9⟩
 | now hwl =>
  show Go _ _ _ _ (Done L n s (if f.onUpdate = 0 then (if f.deferred = true then (db, 0) else ([], 5)) else if f.onUpdate = 1 /\ false = true then run (.del k r.id) db else run (.upd k r.id (zm (f.onUpdate == 1) f.cols wth r.vals) false) db) τ) _ _ _
  obtain ⟨w0, w, rfl⟩ : ∃ w0 w, wth = w0 :: w := by
   cases wth with
   | nil =>
    have h2 : f.cols.length <= 0 := hwl
    omega
   | cons a b => exact ⟨a, b, rfl⟩
  repeat' first|refine yaG ?_|exact yaF|refine yaS ?_ ?_<;>intro _
  refine .call _ rfl rfl rfl cm ?_
  rintro q _ ⟨v, junk, hjk, rfl, rfl⟩
  by_cases h0 : f.onUpdate = 0
  ·rw [if_pos h0]
   cases hd : f.deferred
   ·rw [if_neg yaj]
    repeat' first|refine yaG ?_|exact yaF|refine yaS ?_ ?_<;>intro _
    all_goals first
     |(exfalso; simp_all; done)
     | exact .ret rfl ⟨rfl, .grow h _, fun h => by cases h⟩
   ·rw [if_pos rfl]
    repeat' first|refine yaG ?_|exact yaF|refine yaS ?_ ?_<;>intro _
    all_goals first
     |(exfalso; simp_all; done)
     | exact .ret rfl ⟨rfl, .grow h _, fun _ => ⟨xs, h.grow _⟩⟩
  ·rw [if_neg h0, if_neg (fun hh => yaj hh.2)]
   by_cases h1 : f.onUpdate = 1
   ·rw [beq_iff_eq.2 h1]
    have hco := zbg (casc := true) (cs := f.cols) (w := w0 :: w) hwv f4
    have hok : jkc s (.upd k r.id (zm true f.cols (w0 :: w) r.vals) false) := ⟨hk, by rw [hco.1]; exact hfit.1, je.2 ⟨by rw [hco.1]; exact f3, hco.2⟩⟩
    have c5 := hr.upd k r.id (zm true f.cols (w0 :: w) r.vals) false db xs τ h hdb hok
    generalize run (.upd k r.id (zm true f.cols (w0 :: w) r.vals) false) db = q at c5 ⊢
    repeat' first|refine yaG ?_|exact yaF|refine yaS ?_ ?_<;>intro _
    refine Go.keep [0, 1, 4, 5, 8, 14, 68, 69, 70] (Go.loops (I := fun m fr τ' => ∃ (a : Nat) (ka : Int) (vs : List Val), m = f.cols.length - a /\ a <= f.cols.length /\ ka = a /\ (vs.length = r.vals.length /\ zm (true) f.cols (w0 :: w) r.vals = zm (true) (f.cols.drop a) ((w0 :: w).drop a) vs) /\
     fr = [(0, .c (.ptr L.c L.vc 0 0)), (1, .c (.int .i64 (k : Int))), (4, .c (.fz ((w0 :: w).map encV))), (5, .c (.int .i64 deep)), (8, .c (.fp [.int .i64 r.id, rv])), (14, .c (vec (τ.next + 0) v (r.vals.map encV) junk)), (68, .c (.fz (f.cols.map encI))), (69, .c (.int .i64 (f.cols.length : Int))), (70, .c (.int .i64 ka))] /\ τ' = E τ [(v, vs.map encV ++ junk)]) ?_ _ _ _ ⟨0, _, r.vals, rfl, yae _, rfl, ⟨rfl, rfl⟩, rfl, rfl⟩)
    rintro m fr τ' ⟨a, ka, vs, rfl, hai, hka, ⟨hvl, hsc⟩, rfl, rfl⟩ hreca
    by_cases hlta : a < f.cols.length
    ·have hltw : a < (w0 :: w).length := by omega
     obtain ⟨q1, q2⟩ := hcj _ (yab hlta)
     have hcc : f.cols[a] = (f.cols[a].toNat : Int) := by omega
     have hcv : f.cols[a].toNat < vs.length := by omega
     have hcm : f.cols[a].toNat < (r.vals.map encV).length := by rw [yag]; omega
     rw [yac hlta, yac hltw, zm, if_pos rfl, List.tail_cons, List.headD_cons] at hsc
     repeat' first|refine yaG ?_|((first|apply yG|apply yH|apply yI);exact rfl;(first|exact yX (enc := encI) rfl rfl hka hlta rfl|exact yX (enc := encV) rfl rfl hka hltw rfl|exact z3 (k := 0) rfl rfl hcc hcm rfl (wan hcv) rfl|exact jm (k := 0) rfl rfl rfl rfl (wan hcv) rfl (yaa rfl)))|exact yaF|refine yaS ?_ ?_<;>intro _
     refine Go.keep [0, 1, 4, 5, 8, 14, 68, 69, 70] (hreca _ _ _ (by omega) ⟨a + 1, _, vs.set f.cols[a].toNat (w0 :: w)[a], rfl, hlta, wb hka (by omega), ⟨by rw [yar]; exact hvl, hsc⟩, rfl, ?_⟩)
     exact congrArg (E τ) (congrArg (fun z => [(v, z)]) (zb5 hcv _ (w0 :: w)[a]))
    ·clear hreca
     rw [yad (show f.cols.length <= a by omega), zm] at hsc
     rw [hsc] at c5
     repeat' first|refine yaG ?_|exact yaF|refine yaS ?_ ?_<;>intro _
     have hvv : vec (τ.next + 0) v (r.vals.map encV) junk = vec (τ.next + 0) v (vs.map encV) junk := by rw [vec, vec, yag, yag, hvl]
     refine Go.freezeN (l := []) (m := [(v, vs.map encV ++ junk)]) (fr' := [(83, .c (.ptr L.c L.vc 0 0)), (84, .c (.int .i64 (k : Int))), (86, .c (.int .i64 r.id)), (87, .c (.fz (vs.map encV))), (89, .c (.int .i64 (IntKind.i64.wrap (deep + 1))))]) hS (fun b hb => by cases hb) (yak _)
      (.frz rfl (.refl (zek h.lc)) (.frz rfl (.refl zaq) (.frz rfl (.refl zaq) (.frz rfl (by rw [hvv]; exact zb3 (k := 0) rfl (yak _)) (.frz rfl (.refl zaq) .nil))))) ?_
     rw [wkr hS]
     refine .call _ rfl rfl rfl c5 ?_
     rintro r9 τ9 ⟨rfl, hk9, hq9⟩
     repeat' first|refine yaG ?_|exact yaF|refine yaS ?_ ?_<;>intro _
     exact .ret rfl ⟨rfl, hk9, hq9⟩
   ·rw [beq_eq_false_iff_ne.2 h1]
    obtain ⟨wth, hwe⟩ : ∃ wth : List Val, wth = w0 :: w := ⟨_, rfl⟩
    have hco := zbg (casc := false) (cs := f.cols) (w := w0 :: w) hwv f4
    have hok : jkc s (.upd k r.id (zm false f.cols (w0 :: w) r.vals) false) := ⟨hk, by rw [hco.1]; exact hfit.1, je.2 ⟨by rw [hco.1]; exact f3, hco.2⟩⟩
    have c5 := hr.upd k r.id (zm false f.cols (w0 :: w) r.vals) false db xs τ h hdb hok
    generalize run (.upd k r.id (zm false f.cols (w0 :: w) r.vals) false) db = q at c5 ⊢
    rw [<- hwe] at c5
    repeat' first|refine yaG ?_|exact yaF|refine yaS ?_ ?_<;>intro _
    refine Go.keep [0, 1, 5, 8, 14, 29, 30, 31] (Go.loops (I := fun m fr τ' => ∃ (a : Nat) (ka : Int) (vs : List Val), m = f.cols.length - a /\ a <= f.cols.length /\ ka = a /\ (vs.length = r.vals.length /\ zm (false) f.cols wth r.vals = zm (false) (f.cols.drop a) (wth.drop a) vs) /\
     fr = [(0, .c (.ptr L.c L.vc 0 0)), (1, .c (.int .i64 (k : Int))), (5, .c (.int .i64 deep)), (8, .c (.fp [.int .i64 r.id, rv])), (14, .c (vec (τ.next + 0) v (r.vals.map encV) junk)), (29, .c (.fz (f.cols.map encI))), (30, .c (.int .i64 (f.cols.length : Int))), (31, .c (.int .i64 ka))] /\ τ' = E τ [(v, vs.map encV ++ junk)]) ?_ _ _ _ ⟨0, _, r.vals, rfl, yae _, rfl, ⟨rfl, rfl⟩, rfl, rfl⟩)
    rintro m fr τ' ⟨a, ka, vs, rfl, hai, hka, ⟨hvl, hsc⟩, rfl, rfl⟩ hreca
    by_cases hlta : a < f.cols.length
    ·obtain ⟨q1, q2⟩ := hcj _ (yab hlta)
     have hcc : f.cols[a] = (f.cols[a].toNat : Int) := by omega
     have hcv : f.cols[a].toNat < vs.length := by omega
     have hcm : f.cols[a].toNat < (r.vals.map encV).length := by rw [yag]; omega
     rw [yac hlta, zm, if_neg yaj, List.tail_drop] at hsc
     repeat' first|refine yaG ?_|((first|apply yG|apply yH|apply yI);exact rfl;(first|exact yX (enc := encI) rfl rfl hka hlta rfl|exact z3 (k := 0) rfl rfl hcc hcm rfl (wan hcv) rfl|exact jm (k := 0) rfl rfl rfl rfl (wan hcv) rfl (yaa rfl)))|exact yaF|refine yaS ?_ ?_<;>intro _
     refine Go.keep [0, 1, 5, 8, 14, 29, 30, 31] (hreca _ _ _ (by omega) ⟨a + 1, _, vs.set f.cols[a].toNat jy, rfl, hlta, wb hka (by omega), ⟨by rw [yar]; exact hvl, hsc⟩, rfl, ?_⟩)
     exact congrArg (E τ) (congrArg (fun z => [(v, z)]) (zb5 hcv _ jy))
    ·clear hreca
     rw [yad (show f.cols.length <= a by omega), zm] at hsc
     rw [hsc] at c5
     repeat' first|refine yaG ?_|exact yaF|refine yaS ?_ ?_<;>intro _
     have hvv : vec (τ.next + 0) v (r.vals.map encV) junk = vec (τ.next + 0) v (vs.map encV) junk := by rw [vec, vec, yag, yag, hvl]
     refine Go.freezeN (l := []) (m := [(v, vs.map encV ++ junk)]) (fr' := [(83, .c (.ptr L.c L.vc 0 0)), (84, .c (.int .i64 (k : Int))), (86, .c (.int .i64 r.id)), (87, .c (.fz (vs.map encV))), (89, .c (.int .i64 (IntKind.i64.wrap (deep + 1))))]) hS (fun b hb => by cases hb) (yak _)
      (.frz rfl (.refl (zek h.lc)) (.frz rfl (.refl zaq) (.frz rfl (.refl zaq) (.frz rfl (by rw [hvv]; exact zb3 (k := 0) rfl (yak _)) (.frz rfl (.refl zaq) .nil))))) ?_
     rw [wkr hS]
     refine .call _ rfl rfl rfl c5 ?_
     rintro r9 τ9 ⟨rfl, hk9, hq9⟩
     repeat' first|refine yaG ?_|exact yaF|refine yaS ?_ ?_<;>intro _
     exact .ret rfl ⟨rfl, hk9, hq9⟩
end Go.Proofs.YtmmgbgpglhbhcaaGreat.Am
namespace Go.Proofs.YtmmgbgpglhbhcaaGreat.Am
variable {I : Nat -> Int -> Prop}

theorem jb5 {fr : Fr} {σ : wa} {x y : Opd} {a b : List UInt8} {v : Bool} (hx : x.ev fr = some (.c (.str a))) (hy : y.ev fr = some (.c (.str b))) (h : (a != b) = v) : aop (.bin .neq x y) fr σ = some (.c (.bool v), σ) := by
 simp [aop, hx, hy, binA, h]
theorem jnn (f : Fk) (gone : Bool) : zd2 (jcm f gone) = [.int .i64 (if gone then f.onDelete else f.onUpdate), .bool f.deferred, .fz (f.cols.map encI)] := rfl
set_option maxHeartbeats 4000000 in
theorem wb5 {s : List zd} {run : Chg -> List Data -> Res} {deep : Int} (hs : SchG s) (hr : wen I s run (IntKind.i64.wrap (deep + 1))) {n : Nat} (hn : n < s.length) (key wth : List Val) (gone : Bool) (wv : Ce) (hw : With gone wv wth s[n].key.length) (hwv : ∀ v ∈ wth, zr v = true)
 (db : List Data) (h : DbG I s db) :
 Pure Tryz.prog 111 [.c (.fz (s.map ja)), .c (.fz (db.map jb)), .c (.int .i64 (n : Int)), .c (.fz (key.map encV)), .c wv, .c (.bool gone), .c (.int .i64 deep)] (resV (wu run s n key wth gone db)) := by
 refine Pure.run mixed wct (yaa rfl) fun σ hS hA => ?_
 clear hA
 have hwo : ∀ (n : Nat), ∀ x ∈ (AV.c wv).all, Old n x := fun n => hw.old
 have hs5 := hs.few
 rw [wu, zw hn]
 repeat' first|refine yaG ?_|exact yaF|refine yaS ?_ ?_<;>intro _
 refine Go.keep [0, 1, 2, 3, 4, 5, 6, 16] (Go.loops (I := fun m fr τ => ∃ (i : Nat) (k : Int) (db' : List Data), m = s.length - i /\ i <= s.length /\ k = i /\ (DbG I s db' /\ jae run s[n].name key wth gone 0 s db = jae run s[n].name key wth gone i (s.drop i) db') /\
  fr = [(0, .c (.fz (s.map ja))), (1, .c (.fz (db'.map jb))), (2, .c (.int .i64 (n : Int))), (3, .c (.fz (key.map encV))), (4, .c wv), (5, .c (.bool gone)), (6, .c (.int .i64 deep)), (16, .c (.int .i64 k))] /\ τ = E σ []) ?_ _ _ _ ⟨0, _, db, rfl, yae _, rfl, ⟨h, rfl⟩, rfl, rfl⟩)
 rintro m fr τ ⟨i, k, db1, rfl, hi, hk, ⟨hdb1, hst⟩, rfl, rfl⟩ hrec
 by_cases hlt : i < s.length
 ·rw [yac hlt, jae] at hst
  have hti := hs.tab _ (yab hlt)
  have hbi := hs.big _ (yab hlt)
  have hf3 := hti.fk3
  repeat' first|refine yaG ?_|exact yaF|refine yaS ?_ ?_<;>intro _
  refine Go.keep [0, 1, 2, 3, 4, 5, 6, 16, 17] (Go.loops (I := fun m fr τ => ∃ (j : Nat) (kj : Int) (db' : List Data), m = s[i].fks.length - j /\ j <= s[i].fks.length /\ kj = j /\ (DbG I s db' /\ za1 run s[n].name i key wth gone s[i].fks db1 = za1 run s[n].name i key wth gone (s[i].fks.drop j) db') /\
   fr = [(0, .c (.fz (s.map ja))), (1, .c (.fz (db'.map jb))), (2, .c (.int .i64 (n : Int))), (3, .c (.fz (key.map encV))), (4, .c wv), (5, .c (.bool gone)), (6, .c (.int .i64 deep)), (16, .c (.int .i64 k)), (17, .c (.int .i64 kj))] /\ τ = E σ []) ?_ _ _ _ ⟨0, _, db1, rfl, yae _, rfl, ⟨hdb1, rfl⟩, rfl, rfl⟩)
  rintro m fr τ ⟨j, kj, db', rfl, hj, hkj, ⟨hdb, hsj⟩, rfl, rfl⟩ hrecj
  by_cases hltj : j < s[i].fks.length
  ·clear hrec
   rw [yac hltj, za1] at hsj
   have hfm := yab hltj
   by_cases hna : s[i].fks[j].table = s[n].name
   ·have hnb : (s[i].fks[j].table != s[n].name) = false := by rw [hna]; exact bne_self_eq_false _
    rw [if_pos hna] at hsj
    have hmt := hs.met _ (yab hlt) _ hfm n hn hna
    have hw2 : With gone wv wth (jcm s[i].fks[j] gone).cols.length := by
     rw [<- hmt] at hw
     exact hw
    have c1 := wl0 hs hr hlt (jcm s[i].fks[j] gone) key wth gone wv hw2 hwv (hti.fk _ hfm) (hbi.2.2.2.2.2.2 _ hfm).1 db' hdb
    rw [jnn, <- hk] at c1
    have hkp := zbx (s := s) hr.keeps hlt (y := jcm s[i].fks[j] gone) (key := key) (wth := wth) (gone := gone) hwv (l := j7 (zt db' i) (jcm s[i].fks[j] gone).cols key) hdb
    rw [show s[i].fks[j].cols = (jcm s[i].fks[j] gone).cols from rfl] at hsj
    generalize w9 run i (jcm s[i].fks[j] gone) key wth gone (j7 (zt db' i) (jcm s[i].fks[j] gone).cols key) db' = q at c1 hsj hkp
    by_cases hq : q.2 = 0
    ·rw [if_pos hq] at hsj
     rw [z9 hq] at c1
     have hkq := hkp hq
     cases gone
     ·repeat' first|(apply yA;exact rfl)|apply yB|apply yC|((first|apply yD|apply yE);(first|exact yF|assumption);iterate 6 exact rfl)|((first|apply yG|apply yH|apply yI);exact rfl;(first|exact yJ|exact yK rfl rfl|exact yL rfl|exact yM rfl|exact jb5 rfl rfl hnb|exact rfl|exact aL rfl rfl rfl rfl rfl|exact aS rfl rfl rfl rfl rfl rfl rfl|exact yX (enc := ja) rfl rfl hk hlt rfl|exact yX (enc := ja) rfl rfl rfl hn rfl|exact yX (enc := jv) rfl rfl hkj hltj rfl))|((first|apply yN|apply yO|apply yP);exact rfl)|((first|apply yQ|apply yR|apply yS);(iterate 3 exact rfl);exact c1)|exact yaF|(((first|apply yT|apply yU|apply yV|apply yW);exact rfl;(first|exact .d|exact .e|exact .n|((fail_if_success exact bqt);(fail_if_success exact bqf);exact .b)))<;>intro _)
      all_goals first
       | contradiction
       | skip
      exact Go.keep [0, 1, 2, 3, 4, 5, 6, 16, 17] (hrecj _ _ _ (by omega) ⟨j + 1, _, q.1, rfl, hltj, wb hkj (by omega), ⟨hkq, hsj⟩, rfl, rfl⟩)
     ·repeat' first|(apply yA;exact rfl)|apply yB|apply yC|(apply yE (s := 5);(first|exact yF|assumption);iterate 6 exact rfl)|((first|apply yG|apply yH|apply yI);exact rfl;(first|exact yJ|exact yK rfl rfl|exact yL rfl|exact yM rfl|exact jb5 rfl rfl hnb|exact rfl|exact aL rfl rfl rfl rfl rfl|exact aS rfl rfl rfl rfl rfl rfl rfl|exact yX (enc := ja) rfl rfl hk hlt rfl|exact yX (enc := ja) rfl rfl rfl hn rfl|exact yX (enc := jv) rfl rfl hkj hltj rfl))|((first|apply yN|apply yO|apply yP);exact rfl)|((first|apply yQ|apply yR|apply yS);(iterate 3 exact rfl);exact c1)|exact yaF|(((first|apply yT|apply yU|apply yV|apply yW);exact rfl;(first|exact .d|exact .e|exact .n|((fail_if_success exact bqt);(fail_if_success exact bqf);exact .b)))<;>intro _)
      all_goals first
       | contradiction
       | skip
      refine Go.freezeN (l := []) (m := [(0, [[.int .i64 s[i].fks[j].onDelete, .bool s[i].fks[j].deferred, .fz (s[i].fks[j].cols.map encI)]])]) (fr' := [(0, .c (.fz (s.map ja))), (1, .c (.fz (q.1.map jb))), (2, .c (.int .i64 (n : Int))), (3, .c (.fz (key.map encV))), (4, .c wv), (5, .c (.bool true)), (6, .c (.int .i64 deep)), (16, .c (.int .i64 k)), (17, .c (.int .i64 (IntKind.i64.wrap (kj + 1))))]) hS (fun b hb => by cases hb) (yak _)
       (.frz rfl (.refl jbx) (.frz rfl (.refl zcn) (.frz rfl (.refl zaq) (.frz rfl (.refl wav) (.frz rfl (.refl (hwo _)) (.frz rfl (.refl zmp) (.frz rfl (.refl zaq) (.frz rfl (.refl zaq) (.frz rfl (.refl zaq) .nil))))))))) ?_
      exact hrecj _ _ _ (by omega) ⟨j + 1, _, q.1, rfl, hltj, wb hkj (by omega), ⟨hkq, hsj⟩, rfl, rfl⟩
    ·rw [if_neg hq] at hsj
     obtain ⟨e, he⟩ : ∃ e, q.2 = e := ⟨_, rfl⟩
     rw [he] at hsj hq
     rw [wae he hq] at c1
     rw [hsj, if_neg hq] at hst
     rw [hst]
     cases gone
     ·repeat' first|(apply yA;exact rfl)|apply yB|apply yC|((first|apply yD|apply yE);(first|exact yF|assumption);iterate 6 exact rfl)|((first|apply yG|apply yH|apply yI);exact rfl;(first|exact yJ|exact yK rfl rfl|exact yL rfl|exact yM rfl|exact jb5 rfl rfl hnb|exact rfl|exact aL rfl rfl rfl rfl rfl|exact aS rfl rfl rfl rfl rfl rfl rfl|exact yX (enc := ja) rfl rfl hk hlt rfl|exact yX (enc := ja) rfl rfl rfl hn rfl|exact yX (enc := jv) rfl rfl hkj hltj rfl))|((first|apply yN|apply yO|apply yP);exact rfl)|((first|apply yQ|apply yR|apply yS);(iterate 3 exact rfl);exact c1)|exact yaF|(((first|apply yT|apply yU|apply yV|apply yW);exact rfl;(first|exact .d|exact .e|exact .n|((fail_if_success exact bqt);(fail_if_success exact bqf);exact .b)))<;>intro _)
      all_goals first
       | contradiction
       | exact .ret rfl (Fin.same (zbb hq).symm (zi ([], e) _))
     ·repeat' first|(apply yA;exact rfl)|apply yB|apply yC|(apply yE (s := 5);(first|exact yF|assumption);iterate 6 exact rfl)|((first|apply yG|apply yH|apply yI);exact rfl;(first|exact yJ|exact yK rfl rfl|exact yL rfl|exact yM rfl|exact jb5 rfl rfl hnb|exact rfl|exact aL rfl rfl rfl rfl rfl|exact aS rfl rfl rfl rfl rfl rfl rfl|exact yX (enc := ja) rfl rfl hk hlt rfl|exact yX (enc := ja) rfl rfl rfl hn rfl|exact yX (enc := jv) rfl rfl hkj hltj rfl))|((first|apply yN|apply yO|apply yP);exact rfl)|((first|apply yQ|apply yR|apply yS);(iterate 3 exact rfl);exact c1)|exact yaF|(((first|apply yT|apply yU|apply yV|apply yW);exact rfl;(first|exact .d|exact .e|exact .n|((fail_if_success exact bqt);(fail_if_success exact bqf);exact .b)))<;>intro _)
      all_goals first
       | contradiction
       | exact .ret rfl (Fin.same (zbb hq).symm (zi ([], e) _))
   ·have hnb : (s[i].fks[j].table != s[n].name) = true := by rw [bne_iff_ne]; exact hna
    rw [if_neg hna] at hsj
    repeat' first|(apply yA;exact rfl)|apply yB|apply yC|((first|apply yD|apply yE);(first|exact yF|assumption);iterate 6 exact rfl)|((first|apply yG|apply yH|apply yI);exact rfl;(first|exact yJ|exact yK rfl rfl|exact yL rfl|exact yM rfl|exact jb5 rfl rfl hnb|exact rfl|exact aL rfl rfl rfl rfl rfl|exact aS rfl rfl rfl rfl rfl rfl rfl|exact yX (enc := ja) rfl rfl hk hlt rfl|exact yX (enc := ja) rfl rfl rfl hn rfl|exact yX (enc := jv) rfl rfl hkj hltj rfl))|((first|apply yN|apply yO|apply yP);exact rfl)|exact yaF|(((first|apply yT|apply yU|apply yV|apply yW);exact rfl;(first|exact .d|exact .e|exact .n|((fail_if_success exact bqt);(fail_if_success exact bqf);exact .b)))<;>intro _)
    all_goals first
     | contradiction
     | skip
    exact Go.keep [0, 1, 2, 3, 4, 5, 6, 16, 17] (hrecj _ _ _ (by omega) ⟨j + 1, _, db', rfl, hltj, wb hkj (by omega), ⟨hdb, hsj⟩, rfl, rfl⟩)
  ·rw [yad (by omega), za1] at hsj
   rw [hsj, if_pos rfl] at hst
   repeat' first|refine yaG ?_|((first|apply yG|apply yH|apply yI);exact rfl;(first|exact yX (enc := ja) rfl rfl hk hlt rfl))|exact yaF|refine yaS ?_ ?_<;>intro _
   exact Go.keep [0, 1, 2, 3, 4, 5, 6, 16] (hrec _ _ _ (by omega) ⟨i + 1, _, db', rfl, hlt, wb hk (by omega), ⟨hdb, hst⟩, rfl, rfl⟩)
 ·rw [yad (by omega), jae] at hst
  rw [hst]
  repeat' first|refine yaG ?_|exact yaF|refine yaS ?_ ?_<;>intro _
  exact .ret rfl (Fin.same rfl (zi (db1, 0) _))
end Go.Proofs.YtmmgbgpglhbhcaaGreat.Am
namespace Go.Proofs.YtmmgbgpglhbhcaaGreat.Am
variable {I : Nat -> Int -> Prop}

theorem Qg.fcall {P : Program} {σ : wa} {fr : Fr} {d : Option Nat} {f : Opd} {args : List Opd} {g : Option (Nat × Bool)} {rest : List jd} {n : Nat} {pre cap : List Ce} {vs : List AV} {r : AV} {Post : Fr -> Prop} (hw : wants fr g = some true) (hf : f.ev fr = some (.c (.fn n pre cap))) (ha : evs fr args = some vs)
 (hp : Ok P n (pre.map .c ++ vs ++ cap.map .c) σ (fun r' σ' => r' = r /\ σ' = σ)) (h : Qg P σ rest (putA fr d r) Post) : Qg P σ (⟨d, .call f args, g⟩ :: rest) fr Post :=
 let ⟨F, h1, h2⟩ := h
 ⟨F, .call hw hf ha hp h1, h2⟩
set_option maxHeartbeats 4000000 in
theorem jjm {L : ChL} {n : Nat} {s : List zd} {run : Chg -> List Data -> Res} {deep : Int} (hs : SchG s) (hr : zhw I L n s run (IntKind.i64.wrap (deep + 1))) {k : Nat} (hk : k < s.length) (key wth : List Val) (gone : Bool) (wv : Ce) (hw : With gone wv wth s[k].key.length) (hwv : ∀ v ∈ wth, zr v = true) (hw0 : 0 < s[k].key.length)
 (db : List Data) (xs : List Ce) (τ : wa) (h : zz L n s xs db τ) (hdb : DbG I s db) :
 Ok Tryz.prog 126 [.c (.ptr L.c L.vc 0 0), .c (.int .i64 (k : Int)), .c (.fz (key.map encV)), .c wv, .c (.int .i64 deep)] τ (Done L n s (wu run s k key wth gone db) τ) := by
 refine Ok.run0 mixed wbt (yaa rfl) fun hS hA => ?_
 clear hS hA
 have hs5 := hs.few
 rw [wu, zw hk]
 repeat' first|refine yaG ?_|((first|apply yG|apply yH|apply yI);exact rfl;(first|exact zd1 h rfl))|exact yaF|refine yaS ?_ ?_<;>intro _
 refine Go.keep [0, 1, 2, 3, 4, 22, 23, 24] (Go.loops (I := fun m fr τ' => ∃ (i : Nat) (ki : Int) (db' : List Data) (xs' : List Ce), m = s.length - i /\ i <= s.length /\ ki = i /\ (DbG I s db' /\ zz L n s xs' db' τ' /\ Kept n τ τ' /\ jae run s[k].name key wth gone 0 s db = jae run s[k].name key wth gone i (s.drop i) db') /\
  fr = [(0, .c (.ptr L.c L.vc 0 0)), (1, .c (.int .i64 (k : Int))), (2, .c (.fz (key.map encV))), (3, .c wv), (4, .c (.int .i64 deep)), (22, .c (.fz (s.map ja))), (23, .c (.int .i64 (s.length : Int))), (24, .c (.int .i64 ki))]) ?_ _ _ _ ⟨0, _, db, xs, rfl, yae _, rfl, ⟨hdb, h, .refl, rfl⟩, rfl⟩)
 rintro m fr τ1 ⟨i, ki, db1, xs1, rfl, hi, hki, ⟨hdb1, hH1, hk1, hst⟩, rfl⟩ hrec
 by_cases hlt : i < s.length
 ·rw [yac hlt, jae] at hst
  have hti := hs.tab _ (yab hlt)
  have hbi := hs.big _ (yab hlt)
  have hf3 := hti.fk3
  have hn0 : τ.next <= τ1.next := hk1.next
  subst hki
  repeat' first|refine yaG ?_|((first|apply yG|apply yH|apply yI);exact rfl;(first|exact yX (enc := ja) rfl rfl rfl hlt rfl))|exact yaF|refine yaS ?_ ?_<;>intro _
  refine Go.keep [0, 1, 2, 3, 4, 11, 22, 23, 24, 30, 31, 32] (Go.loops (I := fun m fr τ' => ∃ (j : Nat) (kj : Int) (db' : List Data) (xs' : List Ce), m = s[i].fks.length - j /\ j <= s[i].fks.length /\ kj = j /\ (DbG I s db' /\ zz L n s xs' db' τ' /\ Kept n τ τ' /\ za1 run s[k].name i key wth gone s[i].fks db1 = za1 run s[k].name i key wth gone (s[i].fks.drop j) db') /\
   fr = [(0, .c (.ptr L.c L.vc 0 0)), (1, .c (.int .i64 (k : Int))), (2, .c (.fz (key.map encV))), (3, .c wv), (4, .c (.int .i64 deep)), (11, .c (.int .i64 (i : Int))), (22, .c (.fz (s.map ja))), (23, .c (.int .i64 (s.length : Int))), (24, .c (.int .i64 (i : Int))), (30, .c (.fz (s[i].fks.map jv))), (31, .c (.int .i64 (s[i].fks.length : Int))), (32, .c (.int .i64 kj))]) ?_ _ _ _ ⟨0, _, db1, xs1, rfl, yae _, rfl, ⟨hdb1, hH1, hk1, rfl⟩, rfl⟩)
  clear hn0
  rintro m fr τ2 ⟨j, kj, db2, xs2, rfl, hj, hkj, ⟨hdb2, hH2, hk2, hsj⟩, rfl⟩ hrecj
  by_cases hltj : j < s[i].fks.length
  ·clear hrec
   rw [yac hltj, za1] at hsj
   have hfm := yab hltj
   have hn0 : τ.next <= τ2.next := hk2.next
   by_cases hna : s[i].fks[j].table = s[k].name
   ·have hnb : (s[i].fks[j].table != s[k].name) = false := by rw [hna]; exact bne_self_eq_false _
    rw [if_pos hna] at hsj
    have hmt := hs.met _ (yab hlt) _ hfm k hk hna
    have hw2 : With gone wv wth s[i].fks[j].cols.length := by rw [hmt]; exact hw
    have hfc := hti.fk _ hfm
    have hfl := (hbi.2.2.2.2.2.2 _ hfm).1
    have hn3 : i < db2.length := by rw [hdb2.len]; exact hlt
    have hn4 : i < xs2.length := by rw [hH2.len]; exact hn3
    have hR2 := hdb2.rows i hlt hn3
    have hz := hH2.frzR hn3 hn4
    have c1 := wlz db2[i].rows s[i].fks[j].cols key (yah hR2.len (by decide)) hfl (fun r hr => by rw [(hR2.fit r hr).1]; exact hfc)
    rw [wg hn3] at hsj
    have hil : (j7 db2[i].rows s[i].fks[j].cols key).length <= 60 := by
     rw [j7, yag]
     exact yah (ybn _ _) hR2.len
    generalize j7 db2[i].rows s[i].fks[j].cols key = ids at c1 hil hsj
    repeat' first|(apply yA;exact rfl)|apply yB|apply yC|((first|apply yD|apply yE);(first|exact yF|assumption);iterate 6 exact rfl)|((first|apply yG|apply yH|apply yI);exact rfl;(first|exact yJ|exact yK rfl rfl|exact yL rfl|exact yM rfl|exact jb5 rfl rfl hnb|exact rfl|exact aL rfl rfl rfl rfl rfl|exact aS rfl rfl rfl rfl rfl rfl rfl|exact yX (enc := jv) rfl rfl hkj hltj rfl|exact yX (enc := ja) rfl rfl rfl hk rfl|exact zd1 hH2 rfl|exact wb7 hH2 rfl|exact jd1 hH2 rfl rfl rfl hn3|exact wd1 hH2 rfl hn4))|((first|apply yN|apply yO|apply yP);exact rfl)|exact yaF|(((first|apply yT|apply yU|apply yV|apply yW);exact rfl;(first|exact .d|exact .e|exact .n|((fail_if_success exact bqt);(fail_if_success exact bqf);exact .b)))<;>intro _)
    refine Qg.fcall rfl rfl rfl (Lend.fresh (.own hz (.same (.same .nil))) c1) ?_
    repeat' first|refine yaG ?_|exact yaF|refine yaS ?_ ?_<;>intro _
    clear c1 hz hn0
    refine Go.keep [0, 1, 2, 3, 4, 11, 14, 22, 23, 24, 30, 31, 32, 58, 59, 60] (Go.loops (I := fun m fr τ' => ∃ (a : Nat) (ka : Int) (db' : List Data) (xs' : List Ce), m = ids.length - a /\ a <= ids.length /\ ka = a /\ (DbG I s db' /\ zz L n s xs' db' τ' /\ Kept n τ τ' /\ w9 run i (jcm s[i].fks[j] gone) key wth gone ids db2 = w9 run i (jcm s[i].fks[j] gone) key wth gone (ids.drop a) db') /\
     fr = [(0, .c (.ptr L.c L.vc 0 0)), (1, .c (.int .i64 (k : Int))), (2, .c (.fz (key.map encV))), (3, .c wv), (4, .c (.int .i64 deep)), (11, .c (.int .i64 (i : Int))), (14, .c (.fp (jv s[i].fks[j]))), (22, .c (.fz (s.map ja))), (23, .c (.int .i64 (s.length : Int))), (24, .c (.int .i64 (i : Int))), (30, .c (.fz (s[i].fks.map jv))), (31, .c (.int .i64 (s[i].fks.length : Int))), (32, .c (.int .i64 kj)), (58, .c (.fz (ids.map encI))), (59, .c (.int .i64 (ids.length : Int))), (60, .c (.int .i64 ka))]) ?_ _ _ _ ⟨0, _, db2, xs2, rfl, yae _, rfl, ⟨hdb2, hH2, hk2, rfl⟩, rfl⟩)
    rintro m fr τ3 ⟨a, ka, db3, xs3, rfl, ha, hka, ⟨hdb3, hH3, hk3, hsa⟩, rfl⟩ hreca
    by_cases hlta : a < ids.length
    ·clear hrecj
     have hn5 : i < db3.length := by rw [hdb3.len]; exact hlt
     have hn6 : i < xs3.length := by rw [hH3.len]; exact hn5
     have hR3 := hdb3.rows i hlt hn5
     rw [yac hlta, w9, wg hn5] at hsa
     have cf := jen hH3 hn5 hn6 ids[a] hR3.len
     rcases wo db3[i].rows ids[a] with ⟨hx1, hx2⟩ | ⟨b, hb, hx1, hx2⟩
     ·rw [hx2] at hsa
      repeat' first|refine yaG ?_|((first|apply yG|apply yH|apply yI);exact rfl;(first|exact yX (enc := encI) rfl rfl hka hlta rfl))|exact yaF|refine yaS ?_ ?_<;>intro _
      refine .call _ rfl rfl rfl (cf.1 hx2) ?_
      rintro r9 τ9 ⟨hr9, ht9⟩
      rw [hr9, ht9]
      clear hr9 ht9
      repeat' first|refine yaG ?_|exact yaF|refine yaS ?_ ?_<;>intro _
      exact Go.keep [0, 1, 2, 3, 4, 11, 14, 22, 23, 24, 30, 31, 32, 58, 59, 60] (hreca _ _ _ (by omega) ⟨a + 1, _, db3, xs3, rfl, hlta, wb hka (by omega), ⟨hdb3, hH3, hk3, hsa⟩, rfl⟩)
     ·rw [hx2] at hsa
      simp only at hsa
      have hfit := hR3.fit _ (yab hb)
      obtain ⟨lab2, ps2, id2, v2, junk2, hat, hl2⟩ := hH3.some hn5 hn6 (Nat.lt_of_le_of_lt (yae _) hb)
      have hfz := hat.frz hb
      have c2 := zkn s[i].fks[j].cols db3[i].rows[b].vals key hfl (by rw [hfit.1]; exact hfc)
      repeat' first|refine yaG ?_|((first|apply yG|apply yH|apply yI);exact rfl;(first|exact yX (enc := encI) rfl rfl hka hlta rfl))|exact yaF|refine yaS ?_ ?_<;>intro _
      refine .call _ rfl rfl rfl (cf.2 b hb hx1 _ _ _ _ _ hat) ?_
      rintro r9 τ9 ⟨hr9, ht9⟩
      rw [hr9, ht9]
      clear hr9 ht9
      rw [show (jcm s[i].fks[j] gone).cols = s[i].fks[j].cols from rfl] at hsa
      cases hhb : hasB s[i].fks[j].cols key db3[i].rows[b].vals
      ·rw [hhb] at c2
       rw [hhb, if_neg yaj] at hsa
       repeat' first|refine yaG ?_|((first|apply yG|apply yH|apply yI);exact rfl;(first|exact zo rfl hat.get (hat.at hb) (yao _)))|exact yaF|refine yaS ?_ ?_<;>intro _
       refine Go.slcall rfl rfl rfl c2 (.bool _) (.same (.own hfz (.same .nil))) ?_
       repeat' first|refine yaG ?_|exact yaF|refine yaS ?_ ?_<;>intro _
       exact Go.keep [0, 1, 2, 3, 4, 11, 14, 22, 23, 24, 30, 31, 32, 58, 59, 60] (hreca _ _ _ (by omega) ⟨a + 1, _, db3, xs3, rfl, hlta, wb hka (by omega), ⟨hdb3, hH3, hk3, hsa⟩, rfl⟩)
      ·rw [hhb] at c2
       rw [hhb, if_pos rfl] at hsa
       have hvl := (hat.vl _ (yab (by rw [hat.len]; exact hb))).1
       rw [hat.row hb] at hvl
       have c5 := wmv hs hr hlt db3[i].rows[b] _ s[i].fks[j] wth gone wv hw2 hwv (by rw [hmt]; exact hw0) hfl hfc db3 xs3 τ3 hH3 hdb3 (by rw [wg hn5]; exact yab hb) hvl
       rw [<- congrArg RowD.id (hat.row hb)] at c5
       have hkp := wly (I := I) hr.keeps hlt (y := jcm s[i].fks[j] gone) (wth := wth) (gone := gone) (x := db3[i].rows[b]) hdb3 hwv (by rw [wg hn5]; exact yab hb)
       generalize oneF run i (jcm s[i].fks[j] gone) wth gone db3[i].rows[b] db3 = q at c5 hsa hkp
       repeat' first|refine yaG ?_|((first|apply yG|apply yH|apply yI);exact rfl;(first|exact zo rfl hat.get (hat.at hb) (yao _)))|exact yaF|refine yaS ?_ ?_<;>intro _
       refine Go.slcall rfl rfl rfl c2 (.bool _) (.same (.own hfz (.same .nil))) ?_
       repeat' first|refine yaG ?_|((first|apply yG|apply yH|apply yI);exact rfl;(first|exact jbg rfl hat.get (hat.at hb) rfl))|exact yaF|refine yaS ?_ ?_<;>intro _
       refine Go.scall _ rfl rfl rfl c5 ?_
       rintro r9 τ9 ⟨hr9, hk9, hq9⟩
       rw [hr9]
       clear hr9
       by_cases hq : q.2 = 0
       ·rw [if_pos hq] at hsa
        obtain ⟨xs9, hH9⟩ := hq9 hq
        rw [hq]
        repeat' first|refine yaG ?_|exact yaF|refine yaS ?_ ?_<;>intro _
        exact Go.keep [0, 1, 2, 3, 4, 11, 14, 22, 23, 24, 30, 31, 32, 58, 59, 60] (hreca _ _ _ (by omega) ⟨a + 1, _, q.1, xs9, rfl, hlta, wb hka (by omega), ⟨hkp hq, hH9, hk3.trans hk9, hsa⟩, rfl⟩)
       ·rw [if_neg hq] at hsa
        obtain ⟨e, he⟩ : ∃ e, q.2 = e := ⟨_, rfl⟩
        rw [he] at hq hsa ⊢
        rw [hsa, if_neg hq] at hsj
        rw [hsj, if_neg hq] at hst
        rw [hst]
        repeat' first|refine yaG ?_|exact yaF|refine yaS ?_ ?_<;>intro _
        exact .ret rfl ⟨rfl, hk3.trans hk9, fun h => absurd h hq⟩
    ·rw [yad (by omega), w9] at hsa
     rw [hsa, if_pos rfl] at hsj
     repeat' first|refine yaG ?_|exact yaF|refine yaS ?_ ?_<;>intro _
     exact Go.keep [0, 1, 2, 3, 4, 11, 22, 23, 24, 30, 31, 32] (hrecj _ _ _ (by omega) ⟨j + 1, _, db3, xs3, rfl, hltj, wb hkj (by omega), ⟨hdb3, hH3, hk3, hsj⟩, rfl⟩)
   ·have hnb : (s[i].fks[j].table != s[k].name) = true := by rw [bne_iff_ne]; exact hna
    rw [if_neg hna] at hsj
    repeat' first|(apply yA;exact rfl)|apply yB|apply yC|((first|apply yD|apply yE);(first|exact yF|assumption);iterate 6 exact rfl)|((first|apply yG|apply yH|apply yI);exact rfl;(first|exact yJ|exact yK rfl rfl|exact yL rfl|exact yM rfl|exact jb5 rfl rfl hnb|exact rfl|exact aL rfl rfl rfl rfl rfl|exact aS rfl rfl rfl rfl rfl rfl rfl|exact yX (enc := jv) rfl rfl hkj hltj rfl|exact yX (enc := ja) rfl rfl rfl hk rfl|exact zd1 hH2 rfl))|((first|apply yN|apply yO|apply yP);exact rfl)|exact yaF|(((first|apply yT|apply yU|apply yV|apply yW);exact rfl;(first|exact .d|exact .e|exact .n|((fail_if_success exact bqt);(fail_if_success exact bqf);exact .b)))<;>intro _)
    exact Go.keep [0, 1, 2, 3, 4, 11, 22, 23, 24, 30, 31, 32] (hrecj _ _ _ (by omega) ⟨j + 1, _, db2, xs2, rfl, hltj, wb hkj (by omega), ⟨hdb2, hH2, hk2, hsj⟩, rfl⟩)
  ·rw [yad (by omega), za1] at hsj
   rw [hsj, if_pos rfl] at hst
   repeat' first|refine yaG ?_|exact yaF|refine yaS ?_ ?_<;>intro _
   exact Go.keep [0, 1, 2, 3, 4, 22, 23, 24] (hrec _ _ _ (by omega) ⟨i + 1, _, db2, xs2, rfl, hlt, wb rfl (by omega), ⟨hdb2, hH2, hk2, hst⟩, rfl⟩)
 ·rw [yad (by omega), jae] at hst
  rw [hst]
  repeat' first|refine yaG ?_|exact yaF|refine yaS ?_ ?_<;>intro _
  exact .ret rfl ⟨rfl, hk1, fun _ => ⟨xs1, hH1⟩⟩
end Go.Proofs.YtmmgbgpglhbhcaaGreat.Am
namespace Go.Proofs.YtmmgbgpglhbhcaaGreat.Am
variable {I : Nat -> Int -> Prop}

theorem Go.qxd {P : Program} {n0 nt : Nat} {rets : List RV} {R : AV -> wa -> Prop} {K : List AK} {fr : Fr} {α β : Type} {seg : List jd} {rest : List (List jd)} (S : α -> β -> wa) (I : β -> Prop) (a : α) (b : β) (hi : ∀ a b b', S a b = S a b' -> b = b') (hI : I b) (h : Qx P S I (fun F a b => Go P n0 nt rets R (.segs rest :: K) F (S a b)) seg fr a b) : Go P n0 nt rets R (.segs (seg :: rest) :: K) fr (S a b) :=
 .qx S I _ a b hi hI h fun _ _ _ h => h
theorem Ok.ext {P : Program} {f : Nat} {args : List AV} {σ τ : wa} {Q : AV -> wa -> Prop} (h : Ok P f args τ Q) (e : σ = τ) : Ok P f args σ Q := e ▸ h
def delF (run : Chg -> List Data -> Res) (s : List zd) (k : Nat) (id : Int) (db : List Data) : Res := match zat (zt db k) id with
 | none => ([], 9)
 | some x => wu run s k (keyF (tabN s k).key x.vals) [] true (db.set k ⟨wz (zt db k) id⟩)
theorem zl1 {α : Type} {p : α -> Bool} : ∀ {l : List α} {i : Int} {j : Nat}, 0 <= i -> idxA p l i = i + (j : Int) -> j < l.length -> (∀ x ∈ l.take j, p x = false) /\ ∀ h : j < l.length, p l[j] = true
 | [], _, _, _, _, h => by simp at h
 | a :: l, i, j, hi, h, hj => by
  rw [idxA] at h
  cases ha : p a
  ·rw [ha, if_neg yaj] at h
   cases j with
   | zero =>
    exfalso
    rcases wd0 p l (i + 1) with ⟨h1, _⟩ | ⟨k, hk, h1, _⟩
    ·rw [h1] at h
     omega
    ·omega
   | succ j =>
    obtain ⟨h1, h2⟩ := zl1 (l := l) (i := i + 1) (j := j) (by omega) (by rw [h]; omega) (by simpa using hj)
    refine ⟨fun x hx => ?_, fun h => by simpa using h2 (by simpa using h)⟩
    rw [List.take_succ_cons] at hx
    rcases List.mem_cons.1 hx with rfl | hx
    ·exact ha
    ·exact h1 x hx
  ·rw [ha, if_pos rfl] at h
   have : j = 0 := by omega
   subst this
   exact ⟨fun x hx => by simp at hx, fun h => by simpa using ha⟩
theorem At.ne {L : ChL} {n k : Nat} {lab : Nat -> Nat × Option Int} {τ : wa} {rows : List RowD} {x : Ce} {ps : List PRow} {id v : Nat} {junk : List (List Ce)} (h : At L n k lab τ rows x ps id v junk) {p : PRow} (hp : p ∈ ps) {a : Nat} (ha : idOf p.2 = some a) : a ≠ id := fun e => by
 have h1 := ((h.vl p hp).2 a ha).1
 rw [e, h.own.1] at h1
 cases h1
set_option maxHeartbeats 4000000 in
theorem jk6 {L : ChL} {n : Nat} {s : List zd} {run : Chg -> List Data -> Res} {deep : Int} (hs : SchG s) (hr : zhw I L n s run (IntKind.i64.wrap (deep + 1))) (hd : deep <= 12) {k : Nat} (hk : k < s.length) (id : Int) (db : List Data) (xs : List Ce) (τ : wa) (h : zz L n s xs db τ) (hdb : DbG I s db) :
 Ok Tryz.prog 51 [.c (.ptr L.c L.vc 0 0), .c (.int .i64 (k : Int)), .c (.int .i64 id), .c (.int .i64 deep)] τ (Done L n s (delF run s k id db) τ) := by
 refine Ok.run0 mixed zam (yaa rfl) fun hS hA => ?_
 clear hS hA
 have hk2 : k < db.length := by rw [hdb.len]; exact hk
 have hk3 : k < xs.length := by rw [h.len]; exact hk2
 have hR := hdb.rows k hk hk2
 have ht := hs.tab _ (yab hk)
 have cf := jen h hk2 hk3 id hR.len
 rw [delF, wg hk2, zw hk]
 repeat' first|refine yaG ?_|exact yaF|refine yaS ?_ ?_<;>intro _
 rcases wo db[k].rows id with ⟨hx1, hx2⟩ | ⟨j, hj, hx1, hx2⟩
 ·rw [hx2]
  refine .call _ rfl rfl rfl (cf.1 hx2) ?_
  rintro r9 τ9 ⟨hr9, ht9⟩
  rw [hr9, ht9]
  repeat' first|refine yaG ?_|exact yaF|refine yaS ?_ ?_<;>intro _
  exact .ret rfl ⟨rfl, .refl, fun h => by cases h⟩
 ·rw [hx2]
  show Go _ _ _ _ (Done L n s (wu run s k (keyF s[k].key db[k].rows[j].vals) [] true (db.set k ⟨wz db[k].rows id⟩)) τ) _ _ _
  have hfit := hR.fit _ (yab hj)
  obtain ⟨lab2, ps2, id2, v2, junk2, hat, hl2⟩ := h.some hk2 hk3 (Nat.lt_of_le_of_lt (yae _) hj)
  obtain ⟨_, q1, q2, q3, q4⟩ := hat.own
  have hj2 : j < ps2.length := by rw [hat.len]; exact hj
  have ck := Lend.fresh (.same (.own (hat.frz hj) .nil)) (jgw s[k].key db[k].rows[j].vals (hs.big _ (yab hk)).2.2.1 (by rw [hfit.1]; exact ht.key))
  have hpre := zl1 (p := fun r : RowD => r.id == id) (l := db[k].rows) (i := 0) (j := j) (by decide) (by rw [hx1]; omega) hj
  have hzf := h.frzR hk2 hk3
  rw [hat.x, <- hat.rows] at hzf
  have hdrop : (ps2.filter fun r => !(r.1.id == id)).map (·.1) = wz db[k].rows id := by
   rw [wz, <- hat.rows, List.filter_map]
   rfl
  have cd := zk6 ps2 junk2 id (by rw [hat.len]; exact hR.len) id2 v2 τ hat.get hat.jk hzf j hj2 (by rw [hat.rows]; exact hx1) (by rw [hat.row hj]; exact hpre.2 hj) (fun r hr => hpre.1 r.1 (by rw [<- hat.rows, <- List.map_take]; exact List.mem_map_of_mem hr))
  rw [<- hat.x] at cd
  have hset : DbG I s (db.set k ⟨wz db[k].rows id⟩) := hdb.set hk (hR.drop id)
  refine .call _ rfl rfl rfl (cf.2 j hj hx1 _ _ _ _ _ hat) ?_
  rintro r9 τ9 ⟨hr9, ht9⟩
  rw [hr9, ht9]
  clear hr9 ht9
  repeat' first|apply Go.seq|apply Go.skip|apply Go.region|apply Go.nil|apply Go.block|apply Go.blk|apply Go.segs|(apply Go.exit;exact rfl)|(apply Go.cond true;exact rfl)|(apply Go.cond false;exact rfl)|apply yB|apply yC|((first|apply yD|apply yE);(first|exact yF|assumption);iterate 6 exact rfl)|((first|apply yG|apply yH|apply yI);exact rfl;(first|exact yJ|exact yK rfl rfl|exact yL rfl|exact yM rfl|exact rfl|exact aL rfl rfl rfl rfl rfl|exact aS rfl rfl rfl rfl rfl rfl rfl))|((first|apply yN|apply yO|apply yP);exact rfl)|exact yaF|(((first|apply yT|apply yU|apply yV|apply yW);exact rfl;(first|exact .d|exact .e|exact .n|((fail_if_success exact bqt);(fail_if_success exact bqf);exact .b)))<;>intro _)
  apply Go.draw
  repeat' first|apply Go.seq|apply Go.skip|apply Go.region|apply Go.nil|apply Go.block|apply Go.blk|apply Go.segs|(apply Go.exit;exact rfl)|(apply Go.cond true;exact rfl)|(apply Go.cond false;exact rfl)|apply yB|apply yC|((first|apply yD|apply yE);(first|exact yF|assumption);iterate 6 exact rfl)|((first|apply yG|apply yH|apply yI);exact rfl;(first|exact yJ|exact yK rfl rfl|exact yL rfl|exact yM rfl|exact rfl|exact aL rfl rfl rfl rfl rfl|exact aS rfl rfl rfl rfl rfl rfl rfl|exact zd1 h rfl|exact yX (enc := ja) rfl rfl rfl hk rfl|exact zo rfl hat.get (hat.at hj) (yao _)))|((first|apply yN|apply yO|apply yP);exact rfl)|exact yaF|(((first|apply yT|apply yU|apply yV|apply yW);exact rfl;(first|exact .d|exact .e|exact .n|((fail_if_success exact bqt);(fail_if_success exact bqf);exact .b)))<;>intro _)
  refine Go.scall _ rfl rfl rfl ck ?_
  rintro r9 τ8 ⟨hr9, ht9⟩
  rw [hr9, ht9]
  clear hr9 ht9
  repeat' first|apply Go.seq|apply Go.skip|apply Go.region|apply Go.nil|apply Go.block|apply Go.blk|apply Go.segs|(apply Go.exit;exact rfl)|(apply Go.cond true;exact rfl)|(apply Go.cond false;exact rfl)|apply yB|apply yC|((first|apply yD|apply yE);(first|exact yF|assumption);iterate 6 exact rfl)|((first|apply yG|apply yH|apply yI);exact rfl;(first|exact yJ|exact yK rfl rfl|exact yL rfl|exact yM rfl|exact rfl|exact aL rfl rfl rfl rfl rfl|exact aS rfl rfl rfl rfl rfl rfl rfl))|((first|apply yN|apply yO|apply yP);exact rfl)|exact yaF|(((first|apply yT|apply yU|apply yV|apply yW);exact rfl;(first|exact .d|exact .e|exact .n|((fail_if_success exact bqt);(fail_if_success exact bqf);exact .b)))<;>intro _)
  apply Go.draw
  have hcA : ∀ a, (τ.put id2 a).get L.c = some (L.vc, [[.fz (s.map ja), .sl L.d L.vd 0 db.length (db.length + L.junk.length)]]) := fun a => (if_neg (Ne.symm q3)).trans h.c
  have hdA : ∀ a, (τ.put id2 a).get L.d = some (L.vd, cells xs ++ L.junk) := fun a => (if_neg (Ne.symm q4)).trans h.d
  refine Go.ext ?_ (ziq hat.get)
  refine Go.qxd (fun a (_ : Unit) => τ.put id2 a) (fun _ => True) (v2, ps2.map encP ++ junk2) () (fun _ _ _ _ => rfl) trivial ?_
  have o1 : ∀ (a : Nat × List (List Ce)) (fr : Fr) (x : Opd), x.ev fr = some (.c (.ptr L.c L.vc 0 1)) -> aop (.load false 1 x) fr (τ.put id2 a) = some (.c (.sl L.d L.vd 0 db.length (db.length + L.junk.length)), τ.put id2 a) := fun a fr x hx => zo hx (hcA a) rfl (yao _)
  have o2 : ∀ (a : Nat × List (List Ce)) (fr : Fr) (x y : Opd), x.ev fr = some (.c (.sl L.d L.vd 0 db.length (db.length + L.junk.length))) -> y.ev fr = some (.c (.int .i64 (k : Int))) -> aop (.iaddr 1 x y) fr (τ.put id2 a) = some (.c (.ptr L.d L.vd (0 + k) 0), τ.put id2 a) := fun a fr x y hx hy => wd hx hy rfl hk2 (hdA a) (jao hk3) rfl
  have o3 : ∀ (a : Nat × List (List Ce)) (fr : Fr) (x : Opd), x.ev fr = some (.c (.ptr L.d L.vd (0 + k) 0)) -> aop (.load false 1 x) fr (τ.put id2 a) = some (.c xs[k], τ.put id2 a) := fun a fr x hx => zo hx (hdA a) (jao hk3) (yao _)
  repeat' first|(apply Qx.op;exact rfl;(first|exact fun a _ _ => o1 a _ _ rfl|exact fun a _ _ => o2 a _ _ _ rfl rfl|exact fun a _ _ => o3 a _ _ rfl|exact fun _ _ _ => rfl))
  have cd2 := cd.ext (ziq hat.get)
  refine Qx.call (fun r a' => ∃ junk', Jk 2 junk' /\ r = .c (vec id2 v2 ((ps2.filter fun r => !(r.1.id == id)).map encP) junk') /\ a' = (v2, (ps2.filter fun r => !(r.1.id == id)).map encP ++ junk')) rfl rfl rfl (fun _ _ => cd2.mono ?_) ?_
  ·rintro r τ9 ⟨junk', hj', rfl, rfl⟩
   exact ⟨_, ⟨junk', hj', rfl, rfl⟩, rfl⟩
  rintro r a' ⟨junk', hj', rfl, rfl⟩
  refine .nil ?_
  show Go _ _ _ _ _ _ _ (τ.put id2 (v2, (ps2.filter fun r => !(r.1.id == id)).map encP ++ junk'))
  generalize hfe : (ps2.filter fun r => !(r.1.id == id)) = pf at hdrop
  have hne2 : id2 ≠ L.d := q4
  have hH2 : zz L n s (xs.set k (vec id2 v2 (pf.map encP) junk')) (db.set k ⟨wz db[k].rows id⟩) ((τ.put id2 (v2, pf.map encP ++ junk')).put L.d (L.vd, (cells xs ++ L.junk).set (0 + k) [vec id2 v2 (pf.map encP) junk'])) := by
   refine h.upd hl2 hk3 (new := fun _ => none) (yak _) (fun a ha hne hno => ?_) ?_ ?_
   ·exact (if_neg hne).trans (if_neg fun e => hno ⟨none, by rw [e]; exact hat.own⟩)
   ·rw [wjl hk3]
    exact zay
   ·refine .sl _ pf id2 v2 junk' hdrop ((if_neg hne2).trans zay) hj' (.inl hat.own) fun p hp => ?_
    have hm : p ∈ ps2 := by rw [<- hfe] at hp; exact (List.mem_filter.1 hp).1
    refine ⟨(hat.vl p hm).1.frame fun a ha => (if_neg ?_).trans (if_neg ?_), fun a ha => .inl ((hat.vl p hm).2 a ha)⟩
    ·exact ((hat.vl p hm).2 a ha).2.2.2.2
    ·exact hat.ne hm ha
  have hK2 : Kept n τ ((τ.put id2 (v2, pf.map encP ++ junk')).put L.d (L.vd, (cells xs ++ L.junk).set (0 + k) [vec id2 v2 (pf.map encP) junk'])) := (Kept.put q1).trans (.put h.nd)
  repeat' first|refine yaG ?_|((first|apply yG|apply yH|apply yI);exact rfl;(first|exact wd rfl rfl rfl hk2 (hdA _) (jao hk3) rfl|exact wi rfl rfl (hdA _) (jao hk3) (yao _)))|exact yaF|refine yaS ?_ ?_<;>intro _
  have cw := jjm hs hr hk (keyF s[k].key db[k].rows[j].vals) [] true .nils .gone (fun v hv => by cases hv) (hs.key0 _ (yab hk)) _ _ _ hH2 hset
  refine .call _ rfl rfl rfl cw ?_
  rintro r9 τ9 ⟨hr9, hk9, hq9⟩
  rw [hr9]
  repeat' first|refine yaG ?_|exact yaF|refine yaS ?_ ?_<;>intro _
  exact .ret rfl ⟨rfl, hK2.trans hk9, hq9⟩
end Go.Proofs.YtmmgbgpglhbhcaaGreat.Am
namespace Go.Proofs.YtmmgbgpglhbhcaaGreat.Am
variable {I : Nat -> Int -> Prop}

theorem wjm (t : zd) (vals : List Val) (hl : vals.length = t.cols.length) (h0 : vals ≠ []) (hc : t.cols.length <= 8) : Pure Tryz.prog 143 [.agg (ja t), .c (.fz (vals.map encV))] (.c (.fz ((zk t 0 vals).map encV))) := by
 refine NewV.pure fun σ => Ok.run mixed je7 (yaa rfl) fun hS hA => ?_
 clear hA hS
 have cm := jaq vals h0 (by omega) (E σ [])
 repeat' first|refine yaG ?_|exact yaF|refine yaS ?_ ?_<;>intro _
 refine .call _ rfl rfl rfl cm ?_
 rintro q τ9 ⟨v, junk, hj, hq, ht⟩
 rw [hq, ht, E_E]
 repeat' first|refine yaG ?_|exact yaF|refine yaS ?_ ?_<;>intro _
 refine Go.keep [2, 5, 10, 11, 12] (Go.loops (I := fun m fr τ => ∃ (i : Nat) (k : Int) (cur : List Val), m = vals.length - i /\ i <= vals.length /\ k = i /\ (cur.length = vals.length /\ zk t 0 vals = cur.take i ++ zk t i (cur.drop i)) /\
  fr = [(2, .c (.fp (ja t))), (5, .c (vec (σ.next + 0) v (vals.map encV) junk)), (10, .c (vec (σ.next + 0) v (vals.map encV) junk)), (11, .c (.int .i64 ((vals.map encV).length : Int))), (12, .c (.int .i64 k))] /\ τ = E σ [(v, cur.map encV ++ junk)]) ?_ _ _ _ ⟨0, _, vals, rfl, Nat.zero_le _, rfl, ⟨rfl, by simp⟩, rfl, rfl⟩)
 rintro m fr τ ⟨i, k, cur, rfl, hi, hk, ⟨hcl, hst⟩, rfl, rfl⟩ hrec
 rw [yag] at hrec ⊢
 by_cases hlt : i < vals.length
 ·have hlc : i < t.cols.length := by omega
  have hi2 : i < cur.length := by omega
  have him : i < (vals.map encV).length := by rw [yag]; exact hlt
  have hnn : wt t (i : Int) = t.cols[i].notNull := by rw [wt, ybm, yaf hlc]
  have hdf : zgy t i = t.cols[i].dflt := by rw [zgy, yaf hlc]
  rw [yac hi2, zk, hnn, hdf] at hst
  have hsame : zk t 0 vals = cur.take i ++ cur[i] :: zk t (i + 1) (cur.drop (i + 1)) -> zk t 0 vals = cur.take (i + 1) ++ zk t (i + 1) (cur.drop (i + 1)) := fun h => by rw [h, yai hi2, List.append_assoc]; rfl
  have hat : ((cur.map encV) ++ junk)[0 + i]? = some (encV cur[i]) := wan hi2
  have hgE : (E σ [(v, cur.map encV ++ junk)]).get (σ.next + 0) = some (v, cur.map encV ++ junk) := by rw [E_at]; rfl
  by_cases hz : cur[i].k = 0
  ·cases hb : t.cols[i].notNull
   ·rw [hb, ybh, if_neg yaj] at hst
    repeat' first|refine yaG ?_|((first|apply yG|apply yH|apply yI);exact rfl;(first|exact z3 (k := 0) rfl rfl hk him rfl hat rfl|exact jbg rfl hgE hat rfl|exact yX (enc := zg) rfl rfl hk hlc rfl))|exact yaF|refine yaS ?_ ?_<;>intro _
    all_goals first
     | exact Go.keep [2, 5, 10, 11, 12] (hrec _ _ _ (by omega) ⟨i + 1, _, cur, rfl, hlt, wb hk (by omega), ⟨hcl, hsame hst⟩, rfl, rfl⟩)
     |(exfalso; simp_all; done)
   ·rw [hb, hz, if_pos (by decide)] at hst
    repeat' first|refine yaG ?_|((first|apply yG|apply yH|apply yI);exact rfl;(first|exact z3 (k := 0) rfl rfl hk him rfl hat rfl|exact jbg rfl hgE hat rfl|exact yX (enc := zg) rfl rfl hk hlc rfl|exact jm (k := 0) rfl rfl rfl rfl hat rfl (yaa rfl)))|exact yaF|refine yaS ?_ ?_<;>intro _
    all_goals first
     |(refine Go.keep [2, 5, 10, 11, 12] (hrec _ _ _ (by omega) ⟨i + 1, _, cur.set i t.cols[i].dflt, rfl, hlt, wb hk (by omega), ⟨by rw [yar]; exact hcl, ?_⟩, rfl, ?_⟩)
       ·rw [hst, yai (by rw [yar]; exact hi2), List.take_set_of_le (yak _), List.getElem_set_self, List.drop_set_of_lt (yao _), List.append_assoc]
        rfl
       ·exact congrArg (E σ) (congrArg (fun z => [(v, z)]) (zb5 hi2 _ t.cols[i].dflt)))
     |(exfalso; simp_all; done)
  ·rw [beq_eq_false_iff_ne.2 hz, ybe, if_neg yaj] at hst
   repeat' first|refine yaG ?_|((first|apply yG|apply yH|apply yI);exact rfl;(first|exact z3 (k := 0) rfl rfl hk him rfl hat rfl|exact jbg rfl hgE hat rfl|exact yX (enc := zg) rfl rfl hk hlc rfl))|exact yaF|refine yaS ?_ ?_<;>intro _
   all_goals first
    | exact Go.keep [2, 5, 10, 11, 12] (hrec _ _ _ (by omega) ⟨i + 1, _, cur, rfl, hlt, wb hk (by omega), ⟨hcl, hsame hst⟩, rfl, rfl⟩)
    |(exfalso; simp_all; done)
 ·clear hrec
  rw [yad (by omega), zk, ybg, yan (by omega)] at hst
  repeat' first|refine yaG ?_|exact yaF|refine yaS ?_ ?_<;>intro _
  refine .ret rfl ?_
  rw [hst]
  have hvv : vec (σ.next + 0) v (vals.map encV) junk = vec (σ.next + 0) v (cur.map encV) junk := by rw [vec, vec, yag, yag, hcl]
  rw [hvv]
  exact zc0 wac hj
theorem jhw (t : zd) (vals : List Val) (hl : vals.length = t.cols.length) (ht : jk3 t) (hb : zac 34359738368 t) : Pure Tryz.prog 144 [.agg (ja t), .c (.fz (vals.map encV))] (.c (.int .i64 (wbw t vals))) := by
 refine Pure.run mixed wec (yaa rfl) fun σ hS hA => ?_
 clear hS hA
 have c1 := wk3 t vals hl ht.cols8
 have c2 := jjl t vals (yah ht.chk3 (by decide)) (fun c hc => (hb.2.2.2.2.1.2 c hc).1) (by rw [hl]; exact yah ht.cols8 (by decide))
 rw [wbw]
 generalize jax t 0 vals = a at c1 ⊢
 generalize t.checks.any (za7 vals) = b at c2 ⊢
 cases a
 ·cases b
  ·repeat' first|refine yaG ?_|refine yaC (c1) ?_|refine yaC (c2) ?_|exact yaF|refine yaS ?_ ?_<;>intro _
   exact .ret rfl (.int rfl)
  ·repeat' first|refine yaG ?_|refine yaC (c1) ?_|refine yaC (c2) ?_|exact yaF|refine yaS ?_ ?_<;>intro _
   exact .ret rfl (.int rfl)
 ·repeat' first|refine yaG ?_|refine yaC (c1) ?_|refine yaC (c2) ?_|exact yaF|refine yaS ?_ ?_<;>intro _
  exact .ret rfl (.int rfl)
theorem wk6 {l : List RowD} (hr : Rise l) {j : Nat} (hj : j < l.length) {x : RowD} (hx : l[j].id = x.id) : setRow l x = l.set j x := by
 refine List.ext_getElem (by rw [setRow, yag, yar]) fun i h1 h2 => ?_
 have hi : i < l.length := by rw [yar] at h2; exact h2
 rw [List.getElem_set]
 simp only [setRow, List.getElem_map]
 have h3 := List.pairwise_iff_getElem.1 hr
 by_cases e : j = i
 ·subst e
  rw [if_pos (beq_iff_eq.2 hx), if_pos rfl]
 ·rw [if_neg e, if_neg]
  intro he
  have he := beq_iff_eq.1 he
  rcases Nat.lt_trichotomy i j with h | h | h
  ·have := h3 i j hi hj h
   omega
  ·omega
  ·have := h3 j i hj hi h
   omega
theorem At.set {L : ChL} {n : Nat} {s : List zd} {xs : List Ce} {db : List Data} {τ : wa} (h : zz L n s xs db τ) {k : Nat} (hk : k < db.length) (hk2 : k < xs.length) {lab : Nat -> Nat × Option Int} {ps : List PRow} {id2 v2 : Nat} {junk2 : List (List Ce)} (hat : At L n k lab τ db[k].rows xs[k] ps id2 v2 junk2)
 (hl : ∀ i (h : i < xs.length) (h2 : i < db.length), Tb τ (Own L n τ.next lab i) db[i].rows xs[i]) (hr : Rise db[k].rows) {j : Nat} (hj : j < db[k].rows.length) {id : Int} (hid : db[k].rows[j].id = id) (vals : List Val) {v : Nat} {junk : List (List Ce)} (hjk : Jk 3 junk) :
 zz L n s xs (db.set k ⟨setRow db[k].rows ⟨id, vals⟩⟩) ((E τ [(v, vals.map encV ++ junk)]).put id2 (v2, (ps.map encP ++ junk2).set (0 + j) (jh (encP (ps[j]'(by rw [hat.len]; exact hj))) 1 [vec (τ.next + 0) v (vals.map encV) junk]))) := by
 have hj2 : j < ps.length := by rw [hat.len]; exact hj
 obtain ⟨_, q1, q2, q3, q4⟩ := hat.own
 have hps : (ps.map encP ++ junk2).set (0 + j) (jh (encP ps[j]) 1 [vec (τ.next + 0) v (vals.map encV) junk]) = (ps.set j (⟨id, vals⟩, vec (τ.next + 0) v (vals.map encV) junk)).map encP ++ junk2 := by
  have h1 : jh (encP ps[j]) 1 [vec (τ.next + 0) v (vals.map encV) junk] = encP (⟨id, vals⟩, vec (τ.next + 0) v (vals.map encV) junk) := by
   have h2 : ps[j].1.id = id := by rw [hat.row hj]; exact hid
   simp only [encP, jh, h2]
   rfl
  rw [h1, Nat.zero_add, List.set_append_left _ _ (by simpa using hj2), List.map_set]
 rw [hps]
 have h9 : xs = xs.set k xs[k] := (yaz hk2).symm
 have hng : ∀ {a : Nat}, a < τ.next -> a ≠ id2 -> ((E τ [(v, vals.map encV ++ junk)]).put id2 (v2, (ps.set j (⟨id, vals⟩, vec (τ.next + 0) v (vals.map encV) junk)).map encP ++ junk2)).get a = τ.get a := fun ha hne => (if_neg hne).trans (E_lt ha)
 have hE : (E τ [(v, vals.map encV ++ junk)]).next = τ.next + 1 := rfl
 have main := h.upd hl hk2 (τ2 := (E τ [(v, vals.map encV ++ junk)]).put id2 (v2, (ps.set j (⟨id, vals⟩, vec (τ.next + 0) v (vals.map encV) junk)).map encP ++ junk2)) (x := xs[k]) (rows := setRow db[k].rows ⟨id, vals⟩) (new := fun _ => some id) (by show τ.next <= τ.next + 1; omega) (fun a ha hne hno => ?_) ?_ ?_
 ·rw [<- h9] at main
  exact main
 ·exact hng ha fun e => hno ⟨none, by rw [e]; exact hat.own⟩
 ·rw [<- h9, hng h.ld (Ne.symm q4)]
  exact h.d
 ·have hx := hat.x
  generalize hxx : xs[k] = x at hx ⊢
  subst hx
  have e0 : vec id2 v2 (ps.map encP) junk2 = vec id2 v2 ((ps.set j (⟨id, vals⟩, vec (τ.next + 0) v (vals.map encV) junk)).map encP) junk2 := by simp [vec]
  rw [e0]
  refine .sl _ (ps.set j (⟨id, vals⟩, vec (τ.next + 0) v (vals.map encV) junk)) id2 v2 junk2 ?_ zay hat.jk (.inl hat.own) fun p hp => ?_
  ·rw [wk6 hr hj hid, ybk, hat.rows]
  ·rcases ybb hp with hm | rfl
   ·exact ⟨(hat.vl p hm).1.frame fun a ha => hng ((hat.vl p hm).2 a ha).2.2.1 (hat.ne hm ha), fun a ha => .inl ((hat.vl p hm).2 a ha)⟩
   ·refine ⟨.sl vals _ v junk ((if_neg (by omega)).trans ?_) hjk, fun a ha => .inr ?_⟩
    ·rw [E_at]
     rfl
    ·cases ha
     exact ⟨yak _, by show τ.next + 0 < τ.next + 1; omega, rfl⟩
end Go.Proofs.YtmmgbgpglhbhcaaGreat.Am
namespace Go.Proofs.YtmmgbgpglhbhcaaGreat.Am
variable {I : Nat -> Int -> Prop}

theorem zkd {s : List zd} {run : Chg -> List Data -> Res} {deep : Int} (hs : SchG s) (hr : wen I s run (IntKind.i64.wrap (deep + 1))) (hd : deep <= 12) {n : Nat} (hn : n < s.length) (id : Int) (db : List Data) (x : RowD) (h : DbG I s db) (hx : zat (zt db n) id = some x) :
 Pure Tryz.prog 44 [.c (.fz (s.map ja)), .c (.fz (db.map jb)), .c (.int .i64 (n : Int)), .c (.int .i64 id), .c (.int .i64 deep)] (resV (wu run s n (keyF s[n].key x.vals) [] true (db.set n ⟨wz (zt db n) id⟩))) := by
 refine Pure.run mixed zbn (yaa rfl) fun σ hS hA => ?_
 clear hS hA
 have hn2 : n < db.length := by rw [h.len]; exact hn
 have hR := h.rows n hn hn2
 have ht := hs.tab _ (yab hn)
 rw [wg hn2] at hx ⊢
 have c1 := wax db[n] id (yah hR.len (by decide))
 rcases wo db[n].rows id with ⟨_, hx2⟩ | ⟨j, hj, hx1, hx2⟩
 ·rw [hx2] at hx
  cases hx
 ·rw [hx2] at hx
  injection hx with hx
  subst hx
  rw [hx1] at c1
  have hfit := hR.fit _ (yab hj)
  have c2 := wbe s[n].key db[n].rows[j].vals (hs.big _ (yab hn)).2.2.1 (by rw [hfit.1]; exact ht.key)
  have c3 := jlz db[n] id hR.len
  have c4 := wdz db (n : Int) n ⟨wz db[n].rows id⟩ rfl hn2 (by rw [h.len]; exact yah hs.few (by decide))
  have hset : DbG I s (db.set n ⟨wz db[n].rows id⟩) := h.set hn (hR.drop id)
  have c5 := wb5 hs hr hn (keyF s[n].key db[n].rows[j].vals) [] true .nils .gone (fun v hv => by cases hv) (db.set n ⟨wz db[n].rows id⟩) hset
  generalize wu run s n (keyF s[n].key db[n].rows[j].vals) [] true (db.set n ⟨wz db[n].rows id⟩) = q at c5 ⊢
  generalize db.set n ⟨wz db[n].rows id⟩ = db2 at c4 c5
  generalize keyF s[n].key db[n].rows[j].vals = key at c2 c5
  generalize w8 s[n].key db[n].rows[j].vals = wh at c2
  by_cases hq : q.2 = 0
  ·rw [z9 hq] at c5
   repeat' first|apply Go.seq|apply Go.skip|apply Go.region|apply Go.nil|apply Go.block|apply Go.blk|apply Go.segs|(apply Go.exit;exact rfl)|(apply Go.cond true;exact rfl)|(apply Go.cond false;exact rfl)|apply yB|apply yC|((first|apply yD|apply yE);(first|exact yF|assumption);iterate 6 exact rfl)|((first|apply yG|apply yH|apply yI);exact rfl;(first|exact yJ|exact yK rfl rfl|exact yL rfl|exact yM rfl|exact rfl|exact aL rfl rfl rfl rfl rfl|exact aS rfl rfl rfl rfl rfl rfl rfl))|((first|apply yN|apply yO|apply yP);exact rfl)|exact yaF|(((first|apply yT|apply yU|apply yV|apply yW);exact rfl;(first|exact .d|exact .e|exact .n|((fail_if_success exact bqt);(fail_if_success exact bqf);exact .b)))<;>intro _)
   apply Go.draw
   refine Go.qkd [] ?_
   repeat' first|(apply Qk.nil;show Go _ _ _ _ _ _ _ _)|(apply Qk.op;exact rfl;(first|(rintro _ ⟨_, rfl⟩;exact rfl)|(rintro _ ⟨_, rfl⟩;exact ja5 rfl rfl rfl (yaa rfl) rfl)|(rintro _ ⟨_, rfl⟩;exact yX (enc := jb) rfl rfl rfl hn2 rfl)|(rintro _ ⟨_, rfl⟩;exact yX (enc := jc) rfl rfl rfl hj rfl)))|(apply Qk.no;exact rfl)|(apply Qk.pcall;(iterate 3 exact rfl);(first|exact c1))|(apply Qk.wop;exact rfl;exact rfl;(first|exact yJ|exact yL rfl|exact jm rfl rfl rfl rfl rfl rfl (yaa rfl));exact ⟨_, rfl⟩)
   repeat' first|apply Go.seq|apply Go.skip|apply Go.region|apply Go.nil|apply Go.blk|apply Go.draw|apply Go.segs|(apply Go.exit;exact rfl)|(apply Go.cond true;exact rfl)|(apply Go.cond false;exact rfl)|apply yB|apply yC|((first|apply yD|apply yE);(first|exact yF|assumption);iterate 6 exact rfl)|((first|apply yG|apply yH|apply yI);exact rfl;(first|exact yJ|exact yK rfl rfl|exact yL rfl|exact yM rfl|exact rfl|exact aL rfl rfl rfl rfl rfl|exact aS rfl rfl rfl rfl rfl rfl rfl|exact yX (enc := jb) rfl rfl rfl hn2 rfl|exact yX (enc := ja) rfl rfl rfl hn rfl))|((first|apply yN|apply yO|apply yP);exact rfl)|((first|apply yQ|apply yR|apply yS);(iterate 3 exact rfl);(first|exact c2|exact c3|exact c4|exact c5))|exact yaF|(((first|apply yT|apply yU|apply yV|apply yW);exact rfl;(first|exact .d|exact .e|exact .n|((fail_if_success exact bqt);(fail_if_success exact bqf);exact .b)))<;>intro _)
   exact .ret rfl (Fin.same (z9 hq).symm (zi q _))
  ·obtain ⟨e, he⟩ : ∃ e, q.2 = e := ⟨_, rfl⟩
   rw [he] at hq
   rw [wae he hq] at c5
   repeat' first|apply Go.seq|apply Go.skip|apply Go.region|apply Go.nil|apply Go.block|apply Go.blk|apply Go.segs|(apply Go.exit;exact rfl)|(apply Go.cond true;exact rfl)|(apply Go.cond false;exact rfl)|apply yB|apply yC|((first|apply yD|apply yE);(first|exact yF|assumption);iterate 6 exact rfl)|((first|apply yG|apply yH|apply yI);exact rfl;(first|exact yJ|exact yK rfl rfl|exact yL rfl|exact yM rfl|exact rfl|exact aL rfl rfl rfl rfl rfl|exact aS rfl rfl rfl rfl rfl rfl rfl))|((first|apply yN|apply yO|apply yP);exact rfl)|exact yaF|(((first|apply yT|apply yU|apply yV|apply yW);exact rfl;(first|exact .d|exact .e|exact .n|((fail_if_success exact bqt);(fail_if_success exact bqf);exact .b)))<;>intro _)
   apply Go.draw
   refine Go.qkd [] ?_
   repeat' first|(apply Qk.nil;show Go _ _ _ _ _ _ _ _)|(apply Qk.op;exact rfl;(first|(rintro _ ⟨_, rfl⟩;exact rfl)|(rintro _ ⟨_, rfl⟩;exact ja5 rfl rfl rfl (yaa rfl) rfl)|(rintro _ ⟨_, rfl⟩;exact yX (enc := jb) rfl rfl rfl hn2 rfl)|(rintro _ ⟨_, rfl⟩;exact yX (enc := jc) rfl rfl rfl hj rfl)))|(apply Qk.no;exact rfl)|(apply Qk.pcall;(iterate 3 exact rfl);(first|exact c1))|(apply Qk.wop;exact rfl;exact rfl;(first|exact yJ|exact yL rfl|exact jm rfl rfl rfl rfl rfl rfl (yaa rfl));exact ⟨_, rfl⟩)
   repeat' first|apply Go.seq|apply Go.skip|apply Go.region|apply Go.nil|apply Go.blk|apply Go.draw|apply Go.segs|(apply Go.exit;exact rfl)|(apply Go.cond true;exact rfl)|(apply Go.cond false;exact rfl)|apply yB|apply yC|((first|apply yD|apply yE);(first|exact yF|assumption);iterate 6 exact rfl)|((first|apply yG|apply yH|apply yI);exact rfl;(first|exact yJ|exact yK rfl rfl|exact yL rfl|exact yM rfl|exact rfl|exact aL rfl rfl rfl rfl rfl|exact aS rfl rfl rfl rfl rfl rfl rfl|exact yX (enc := jb) rfl rfl rfl hn2 rfl|exact yX (enc := ja) rfl rfl rfl hn rfl))|((first|apply yN|apply yO|apply yP);exact rfl)|((first|apply yQ|apply yR|apply yS);(iterate 3 exact rfl);(first|exact c2|exact c3|exact c4|exact c5))|exact yaF|(((first|apply yT|apply yU|apply yV|apply yW);exact rfl;(first|exact .d|exact .e|exact .n|((fail_if_success exact bqt);(fail_if_success exact bqf);exact .b)))<;>intro _)
   exact .ret rfl (Fin.same (wae he hq).symm (zi q _))
set_option maxHeartbeats 4000000 in
theorem jkd {s : List zd} {run : Chg -> List Data -> Res} {deep : Int} (hs : SchG s) (hr : wen I s run (IntKind.i64.wrap (deep + 1))) (hd : deep <= 12) {n : Nat} (hn : n < s.length) (id : Int) (vals0 : List Val) (rep : Bool) (db : List Data) (h : DbG I s db) (hl : vals0.length = s[n].cols.length) (hv : jq vals0 16 = true) :
 Pure Tryz.prog 64 [.c (.fz (s.map ja)), .c (.fz (db.map jb)), .c (.int .i64 (n : Int)), .c (.int .i64 id), .c (.fz (vals0.map encV)), .c (.bool rep), .c (.int .i64 deep)] (resV (updF run s n id (if rep then zk s[n] 0 vals0 else vals0) rep db)) := by
 refine Pure.run mixed jbn (yaa rfl) fun σ hS hA => ?_
 clear hS hA
 have hn2 : n < db.length := by rw [h.len]; exact hn
 have ht := hs.tab _ (yab hn)
 have hb := hs.big _ (yab hn)
 have cF := zg0 s[n] vals0 hl ht.cols8
 have hvv := whu hs hn hl hv rep
 rw [updF, zw hn]
 cases hrp : rep
 ·rw [hrp] at hvv
  simp only [Bool.false_eq_true, if_false] at hvv
  rw [if_neg yaj]
  clear cF hl hv
  obtain ⟨vals, hve⟩ : ∃ vals, vals = vals0 := ⟨_, rfl⟩
  subst hve
  repeat' first|refine yaG ?_|((first|apply yG|apply yH|apply yI);exact rfl;(first|exact yX (enc := ja) rfl rfl rfl hn rfl))|exact yaF|refine yaS ?_ ?_<;>intro _
  have ca := zen s[n] vals hvv.1 ht hvv.2
  by_cases hab : wbw s[n] vals = 0
  ·rw [hab] at ca
   rw [if_pos hab]
   repeat' first|refine yaG ?_|refine yaC (ca) ?_|exact yaF|refine yaS ?_ ?_<;>intro _
   clear ca
   have cc := wdd hs hr hn ⟨id, vals⟩ hvv.1 rep db h
   have hkc := fun (h2 : (w7 run s[n] n ⟨id, vals⟩ rep db).2 = 0) => wbj hr.keeps hn (t := s[n]) (x := ⟨id, vals⟩) (rep := rep) h h2
   rw [hrp] at cc hkc
   generalize w7 run s[n] n ⟨id, vals⟩ _ db = c at cc hkc ⊢
   by_cases hc0 : c.2 = 0
   ·rw [z9 hc0] at cc
    have hdb := hkc hc0
    have hup : ∀ old, zat (zt c.1 n) id = some old -> upd1 run s n id vals c = upd3 s n id (upd2 run s n id vals old c.1) := fun old ho => by rw [upd1, if_pos hc0, ho]
    have hup0 : zat (zt c.1 n) id = none -> upd1 run s n id vals c = ([], 9) := fun ho => by rw [upd1, if_pos hc0, ho]
    generalize upd1 run s n id vals c = U at hup hup0 ⊢
    generalize c.1 = db1 at cc hdb hup hup0
    clear hkc
    have hn1 : n < db1.length := by rw [hdb.len]; exact hn
    have hR1 := hdb.rows n hn hn1
    rw [wg hn1] at hup hup0
    have c1 := wax db1[n] id (yah hR1.len (by decide))
    rcases wo db1[n].rows id with ⟨hx1, hx2⟩ | ⟨j, hj, hx1, hx2⟩
    ·rw [hx1] at c1
     rw [hup0 hx2]
     repeat' first|refine yaG ?_|((first|apply yG|apply yH|apply yI);exact rfl;(first|exact yX (enc := jb) rfl rfl rfl hn1 rfl))|refine yaC (cc) ?_|refine yaC (c1) ?_|exact yaF|refine yaS ?_ ?_<;>intro _
     exact .ret rfl (Fin.same rfl (zi ([], 9) _))
    ·rw [hx1] at c1
     rw [hup _ hx2]
     clear hup hup0
     have hfit := hR1.fit _ (yab hj)
     have hidx : db1[n].rows[j].id = id := (zak hx2).2
     have c2 := wbe s[n].key db1[n].rows[j].vals hb.2.2.1 (by rw [hfit.1]; exact ht.key)
     have c3 := wbe s[n].key vals hb.2.2.1 (by rw [hvv.1]; exact ht.key)
     have c4 := wg0 db1[n] ⟨id, vals⟩ hR1.len
     rw [jg0 hR1.rise ⟨_, yab hj, hidx⟩] at c4
     have c5 := wdz db1 (n : Int) n ⟨setRow db1[n].rows ⟨id, vals⟩⟩ rfl hn1 (by rw [hdb.len]; exact yah hs.few (by decide))
     have c6 := zbe (keyF s[n].key db1[n].rows[j].vals) (keyF s[n].key vals) (by rw [zax]; exact hb.2.2.1)
     have hset : DbG I s (db1.set n ⟨setRow db1[n].rows ⟨id, vals⟩⟩) := hdb.set hn (hR1.set (x := ⟨id, vals⟩) hvv)
     rw [upd2, zw hn, wg hn1]
     have hkv := zd0 ht hvv.1 hvv.2
     have hw : With false (.fz ((keyF s[n].key vals).map encV)) (keyF s[n].key vals) s[n].key.length := .now (by rw [zax]; exact yak _)
     generalize db1.set n ⟨setRow db1[n].rows ⟨id, vals⟩⟩ = db2 at c5 hset ⊢
     generalize w8 s[n].key db1[n].rows[j].vals = wh1 at c2
     generalize w8 s[n].key vals = wh2 at c3
     generalize keyF s[n].key db1[n].rows[j].vals = kold at c2 c6 ⊢
     generalize keyF s[n].key vals = knew at c3 c6 hkv hw ⊢
     by_cases hkk : kold = knew
     ·have hdb2 := hset
      rw [show (kold == knew) = true from beq_iff_eq.2 hkk] at c6
      rw [if_pos hkk, upd3, if_pos rfl]
      repeat' first|refine yaG ?_|((first|apply yG|apply yH|apply yI);exact rfl;(first|exact yX (enc := jb) rfl rfl rfl hn1 rfl|exact yX (enc := jc) rfl rfl rfl hj rfl))|refine yaC (cc) ?_|refine yaC (c1) ?_|refine yaC (c2) ?_|refine yaC (c3) ?_|refine yaC (c4) ?_|refine yaC (c5) ?_|refine yaC (c6) ?_|exact yaF|refine yaS ?_ ?_<;>intro _
      clear cc c1 c2 c3 c4 c5 c6
      have hn4 : n < db2.length := by rw [hdb2.len]; exact hn
      have hR4 := hdb2.rows n hn hn4
      have c8 := wax db2[n] id (yah hR4.len (by decide))
      rcases wo db2[n].rows id with ⟨g1, g2⟩ | ⟨j2, hj2, g1, g2⟩
      ·have hlast : ja4 s n id db2 = (db2, 0) := by rw [ja4, wg hn4, g2]
       rw [hlast]
       rw [g1] at c8
       repeat' first|refine yaG ?_|((first|apply yG|apply yH|apply yI);exact rfl;(first|exact yX (enc := jb) rfl rfl rfl hn4 rfl))|refine yaC (c8) ?_|exact yaF|refine yaS ?_ ?_<;>intro _
       exact .ret rfl (Fin.same rfl (zi (db2, 0) _))
      ·have hlast : ja4 s n id db2 = if (s[n].fks.any fun f => jn s db2 false db2[n].rows[j2].vals f) = true then ([], 5) else (db2, 0) := by rw [ja4, wg hn4, g2, zw hn]
       rw [hlast]
       rw [g1] at c8
       have c9 := jbj s db2 (n : Int) n db2[n].rows[j2].vals true (yah hs.few (by decide)) rfl hn ht.fk3 (fkR hs hdb2 hn (hR4.fit _ (yab hj2)).1)
       have e9 : s[n].fks.any (jn s db2 (!true) db2[n].rows[j2].vals) = s[n].fks.any fun f => jn s db2 false db2[n].rows[j2].vals f := rfl
       rw [e9] at c9
       generalize (s[n].fks.any fun f => jn s db2 false db2[n].rows[j2].vals f) = B at c9 ⊢
       cases B
       ·rw [if_neg yaj]
        repeat' first|refine yaG ?_|((first|apply yG|apply yH|apply yI);exact rfl;(first|exact yX (enc := jb) rfl rfl rfl hn4 rfl|exact yX (enc := jc) rfl rfl rfl hj2 rfl))|refine yaC (c8) ?_|refine yaC (c9) ?_|exact yaF|refine yaS ?_ ?_<;>intro _
        exact .ret rfl (Fin.same rfl (zi (db2, 0) _))
       ·rw [if_pos rfl]
        repeat' first|refine yaG ?_|((first|apply yG|apply yH|apply yI);exact rfl;(first|exact yX (enc := jb) rfl rfl rfl hn4 rfl|exact yX (enc := jc) rfl rfl rfl hj2 rfl))|refine yaC (c8) ?_|refine yaC (c9) ?_|exact yaF|refine yaS ?_ ?_<;>intro _
        exact .ret rfl (Fin.same rfl (zi ([], 5) _))
     ·rw [show (kold == knew) = false from beq_eq_false_iff_ne.2 hkk] at c6
      rw [if_neg hkk]
      have c7 := wb5 hs hr hn kold knew false _ hw hkv db2 hset
      have hkq := fun (h4 : (wu run s n kold knew false db2).2 = 0) => za9 (n := n) (key := kold) (gone := false) hr.keeps hkv hset h4
      generalize wu run s n kold knew false db2 = q at c7 hkq ⊢
      rw [upd3]
      by_cases hq : q.2 = 0
      ·rw [z9 hq] at c7
       rw [if_pos hq]
       have hdb3 := hkq hq
       generalize q.1 = db3 at c7 hdb3 ⊢
       repeat' first|refine yaG ?_|((first|apply yG|apply yH|apply yI);exact rfl;(first|exact yX (enc := jb) rfl rfl rfl hn1 rfl|exact yX (enc := jc) rfl rfl rfl hj rfl))|refine yaC (cc) ?_|refine yaC (c1) ?_|refine yaC (c2) ?_|refine yaC (c3) ?_|refine yaC (c4) ?_|refine yaC (c5) ?_|refine yaC (c6) ?_|refine yaC (c7) ?_|exact yaF|refine yaS ?_ ?_<;>intro _
       clear cc c1 c2 c3 c4 c5 c6 c7
       have hn4 : n < db3.length := by rw [hdb3.len]; exact hn
       have hR4 := hdb3.rows n hn hn4
       have c8 := wax db3[n] id (yah hR4.len (by decide))
       rcases wo db3[n].rows id with ⟨g1, g2⟩ | ⟨j2, hj2, g1, g2⟩
       ·have hlast : ja4 s n id db3 = (db3, 0) := by rw [ja4, wg hn4, g2]
        rw [hlast]
        rw [g1] at c8
        repeat' first|refine yaG ?_|((first|apply yG|apply yH|apply yI);exact rfl;(first|exact yX (enc := jb) rfl rfl rfl hn4 rfl))|refine yaC (c8) ?_|exact yaF|refine yaS ?_ ?_<;>intro _
        exact .ret rfl (Fin.same rfl (zi (db3, 0) _))
       ·have hlast : ja4 s n id db3 = if (s[n].fks.any fun f => jn s db3 false db3[n].rows[j2].vals f) = true then ([], 5) else (db3, 0) := by rw [ja4, wg hn4, g2, zw hn]
        rw [hlast]
        rw [g1] at c8
        have c9 := jbj s db3 (n : Int) n db3[n].rows[j2].vals true (yah hs.few (by decide)) rfl hn ht.fk3 (fkR hs hdb3 hn (hR4.fit _ (yab hj2)).1)
        have e9 : s[n].fks.any (jn s db3 (!true) db3[n].rows[j2].vals) = s[n].fks.any fun f => jn s db3 false db3[n].rows[j2].vals f := rfl
        rw [e9] at c9
        generalize (s[n].fks.any fun f => jn s db3 false db3[n].rows[j2].vals f) = B at c9 ⊢
        cases B
        ·rw [if_neg yaj]
         repeat' first|refine yaG ?_|((first|apply yG|apply yH|apply yI);exact rfl;(first|exact yX (enc := jb) rfl rfl rfl hn4 rfl|exact yX (enc := jc) rfl rfl rfl hj2 rfl))|refine yaC (c8) ?_|refine yaC (c9) ?_|exact yaF|refine yaS ?_ ?_<;>intro _
         exact .ret rfl (Fin.same rfl (zi (db3, 0) _))
        ·rw [if_pos rfl]
         repeat' first|refine yaG ?_|((first|apply yG|apply yH|apply yI);exact rfl;(first|exact yX (enc := jb) rfl rfl rfl hn4 rfl|exact yX (enc := jc) rfl rfl rfl hj2 rfl))|refine yaC (c8) ?_|refine yaC (c9) ?_|exact yaF|refine yaS ?_ ?_<;>intro _
         exact .ret rfl (Fin.same rfl (zi ([], 5) _))
      ·obtain ⟨e, he⟩ : ∃ e, q.2 = e := ⟨_, rfl⟩
       rw [he] at hq
       rw [wae he hq] at c7
       rw [he, if_neg hq]
       repeat' first|refine yaG ?_|((first|apply yG|apply yH|apply yI);exact rfl;(first|exact yX (enc := jb) rfl rfl rfl hn1 rfl|exact yX (enc := jc) rfl rfl rfl hj rfl))|refine yaC (cc) ?_|refine yaC (c1) ?_|refine yaC (c2) ?_|refine yaC (c3) ?_|refine yaC (c4) ?_|refine yaC (c5) ?_|refine yaC (c6) ?_|refine yaC (c7) ?_|exact yaF|refine yaS ?_ ?_<;>intro _
       exact .ret rfl (Fin.same (zbb hq).symm (zi ([], e) _))
   ·obtain ⟨e, he⟩ : ∃ e, c.2 = e := ⟨_, rfl⟩
    rw [he] at hc0
    rw [wae he hc0] at cc
    rw [upd1, he, if_neg hc0]
    repeat' first|refine yaG ?_|refine yaC (cc) ?_|exact yaF|refine yaS ?_ ?_<;>intro _
    exact .ret rfl (Fin.same (zbb hc0).symm (zi ([], e) _))
  ·rw [if_neg hab]
   generalize wbw s[n] vals = e at ca hab ⊢
   repeat' first|refine yaG ?_|refine yaC (ca) ?_|exact yaF|refine yaS ?_ ?_<;>intro _
   exact .ret rfl (Fin.same (zbb hab).symm (zi ([], e) _))
 ·rw [hrp] at hvv
  simp only [if_true] at hvv
  rw [if_pos rfl]
  generalize zk s[n] 0 vals0 = vals at cF hvv ⊢
  repeat' first|refine yaG ?_|((first|apply yG|apply yH|apply yI);exact rfl;(first|exact yX (enc := ja) rfl rfl rfl hn rfl))|refine yaC (cF) ?_|exact yaF|refine yaS ?_ ?_<;>intro _
  have ca := zen s[n] vals hvv.1 ht hvv.2
  by_cases hab : wbw s[n] vals = 0
  ·rw [hab] at ca
   rw [if_pos hab]
   repeat' first|refine yaG ?_|refine yaC (ca) ?_|exact yaF|refine yaS ?_ ?_<;>intro _
   clear ca
   have cc := wdd hs hr hn ⟨id, vals⟩ hvv.1 rep db h
   have hkc := fun (h2 : (w7 run s[n] n ⟨id, vals⟩ rep db).2 = 0) => wbj hr.keeps hn (t := s[n]) (x := ⟨id, vals⟩) (rep := rep) h h2
   rw [hrp] at cc hkc
   generalize w7 run s[n] n ⟨id, vals⟩ _ db = c at cc hkc ⊢
   by_cases hc0 : c.2 = 0
   ·rw [z9 hc0] at cc
    have hdb := hkc hc0
    have hup : ∀ old, zat (zt c.1 n) id = some old -> upd1 run s n id vals c = upd3 s n id (upd2 run s n id vals old c.1) := fun old ho => by rw [upd1, if_pos hc0, ho]
    have hup0 : zat (zt c.1 n) id = none -> upd1 run s n id vals c = ([], 9) := fun ho => by rw [upd1, if_pos hc0, ho]
    generalize upd1 run s n id vals c = U at hup hup0 ⊢
    generalize c.1 = db1 at cc hdb hup hup0
    clear hkc
    have hn1 : n < db1.length := by rw [hdb.len]; exact hn
    have hR1 := hdb.rows n hn hn1
    rw [wg hn1] at hup hup0
    have c1 := wax db1[n] id (yah hR1.len (by decide))
    rcases wo db1[n].rows id with ⟨hx1, hx2⟩ | ⟨j, hj, hx1, hx2⟩
    ·rw [hx1] at c1
     rw [hup0 hx2]
     repeat' first|refine yaG ?_|((first|apply yG|apply yH|apply yI);exact rfl;(first|exact yX (enc := jb) rfl rfl rfl hn1 rfl))|refine yaC (cc) ?_|refine yaC (c1) ?_|exact yaF|refine yaS ?_ ?_<;>intro _
     exact .ret rfl (Fin.same rfl (zi ([], 9) _))
    ·rw [hx1] at c1
     rw [hup _ hx2]
     clear hup hup0
     have hfit := hR1.fit _ (yab hj)
     have hidx : db1[n].rows[j].id = id := (zak hx2).2
     have c2 := wbe s[n].key db1[n].rows[j].vals hb.2.2.1 (by rw [hfit.1]; exact ht.key)
     have c3 := wbe s[n].key vals hb.2.2.1 (by rw [hvv.1]; exact ht.key)
     have c4 := wg0 db1[n] ⟨id, vals⟩ hR1.len
     rw [jg0 hR1.rise ⟨_, yab hj, hidx⟩] at c4
     have c5 := wdz db1 (n : Int) n ⟨setRow db1[n].rows ⟨id, vals⟩⟩ rfl hn1 (by rw [hdb.len]; exact yah hs.few (by decide))
     have c6 := zbe (keyF s[n].key db1[n].rows[j].vals) (keyF s[n].key vals) (by rw [zax]; exact hb.2.2.1)
     have hset : DbG I s (db1.set n ⟨setRow db1[n].rows ⟨id, vals⟩⟩) := hdb.set hn (hR1.set (x := ⟨id, vals⟩) hvv)
     rw [upd2, zw hn, wg hn1]
     have hkv := zd0 ht hvv.1 hvv.2
     have hw : With false (.fz ((keyF s[n].key vals).map encV)) (keyF s[n].key vals) s[n].key.length := .now (by rw [zax]; exact yak _)
     generalize db1.set n ⟨setRow db1[n].rows ⟨id, vals⟩⟩ = db2 at c5 hset ⊢
     generalize w8 s[n].key db1[n].rows[j].vals = wh1 at c2
     generalize w8 s[n].key vals = wh2 at c3
     generalize keyF s[n].key db1[n].rows[j].vals = kold at c2 c6 ⊢
     generalize keyF s[n].key vals = knew at c3 c6 hkv hw ⊢
     by_cases hkk : kold = knew
     ·have hdb2 := hset
      rw [show (kold == knew) = true from beq_iff_eq.2 hkk] at c6
      rw [if_pos hkk, upd3, if_pos rfl]
      repeat' first|refine yaG ?_|((first|apply yG|apply yH|apply yI);exact rfl;(first|exact yX (enc := jb) rfl rfl rfl hn1 rfl|exact yX (enc := jc) rfl rfl rfl hj rfl))|refine yaC (cc) ?_|refine yaC (c1) ?_|refine yaC (c2) ?_|refine yaC (c3) ?_|refine yaC (c4) ?_|refine yaC (c5) ?_|refine yaC (c6) ?_|exact yaF|refine yaS ?_ ?_<;>intro _
      clear cc c1 c2 c3 c4 c5 c6
      have hn4 : n < db2.length := by rw [hdb2.len]; exact hn
      have hR4 := hdb2.rows n hn hn4
      have c8 := wax db2[n] id (yah hR4.len (by decide))
      rcases wo db2[n].rows id with ⟨g1, g2⟩ | ⟨j2, hj2, g1, g2⟩
      ·have hlast : ja4 s n id db2 = (db2, 0) := by rw [ja4, wg hn4, g2]
       rw [hlast]
       rw [g1] at c8
       repeat' first|refine yaG ?_|((first|apply yG|apply yH|apply yI);exact rfl;(first|exact yX (enc := jb) rfl rfl rfl hn4 rfl))|refine yaC (c8) ?_|exact yaF|refine yaS ?_ ?_<;>intro _
       exact .ret rfl (Fin.same rfl (zi (db2, 0) _))
      ·have hlast : ja4 s n id db2 = if (s[n].fks.any fun f => jn s db2 false db2[n].rows[j2].vals f) = true then ([], 5) else (db2, 0) := by rw [ja4, wg hn4, g2, zw hn]
       rw [hlast]
       rw [g1] at c8
       have c9 := jbj s db2 (n : Int) n db2[n].rows[j2].vals true (yah hs.few (by decide)) rfl hn ht.fk3 (fkR hs hdb2 hn (hR4.fit _ (yab hj2)).1)
       have e9 : s[n].fks.any (jn s db2 (!true) db2[n].rows[j2].vals) = s[n].fks.any fun f => jn s db2 false db2[n].rows[j2].vals f := rfl
       rw [e9] at c9
       generalize (s[n].fks.any fun f => jn s db2 false db2[n].rows[j2].vals f) = B at c9 ⊢
       cases B
       ·rw [if_neg yaj]
        repeat' first|refine yaG ?_|((first|apply yG|apply yH|apply yI);exact rfl;(first|exact yX (enc := jb) rfl rfl rfl hn4 rfl|exact yX (enc := jc) rfl rfl rfl hj2 rfl))|refine yaC (c8) ?_|refine yaC (c9) ?_|exact yaF|refine yaS ?_ ?_<;>intro _
        exact .ret rfl (Fin.same rfl (zi (db2, 0) _))
       ·rw [if_pos rfl]
        repeat' first|refine yaG ?_|((first|apply yG|apply yH|apply yI);exact rfl;(first|exact yX (enc := jb) rfl rfl rfl hn4 rfl|exact yX (enc := jc) rfl rfl rfl hj2 rfl))|refine yaC (c8) ?_|refine yaC (c9) ?_|exact yaF|refine yaS ?_ ?_<;>intro _
        exact .ret rfl (Fin.same rfl (zi ([], 5) _))
     ·rw [show (kold == knew) = false from beq_eq_false_iff_ne.2 hkk] at c6
      rw [if_neg hkk]
      have c7 := wb5 hs hr hn kold knew false _ hw hkv db2 hset
      have hkq := fun (h4 : (wu run s n kold knew false db2).2 = 0) => za9 (n := n) (key := kold) (gone := false) hr.keeps hkv hset h4
      generalize wu run s n kold knew false db2 = q at c7 hkq ⊢
      rw [upd3]
      by_cases hq : q.2 = 0
      ·rw [z9 hq] at c7
       rw [if_pos hq]
       have hdb3 := hkq hq
       generalize q.1 = db3 at c7 hdb3 ⊢
       repeat' first|refine yaG ?_|((first|apply yG|apply yH|apply yI);exact rfl;(first|exact yX (enc := jb) rfl rfl rfl hn1 rfl|exact yX (enc := jc) rfl rfl rfl hj rfl))|refine yaC (cc) ?_|refine yaC (c1) ?_|refine yaC (c2) ?_|refine yaC (c3) ?_|refine yaC (c4) ?_|refine yaC (c5) ?_|refine yaC (c6) ?_|refine yaC (c7) ?_|exact yaF|refine yaS ?_ ?_<;>intro _
       clear cc c1 c2 c3 c4 c5 c6 c7
       have hn4 : n < db3.length := by rw [hdb3.len]; exact hn
       have hR4 := hdb3.rows n hn hn4
       have c8 := wax db3[n] id (yah hR4.len (by decide))
       rcases wo db3[n].rows id with ⟨g1, g2⟩ | ⟨j2, hj2, g1, g2⟩
       ·have hlast : ja4 s n id db3 = (db3, 0) := by rw [ja4, wg hn4, g2]
        rw [hlast]
        rw [g1] at c8
        repeat' first|refine yaG ?_|((first|apply yG|apply yH|apply yI);exact rfl;(first|exact yX (enc := jb) rfl rfl rfl hn4 rfl))|refine yaC (c8) ?_|exact yaF|refine yaS ?_ ?_<;>intro _
        exact .ret rfl (Fin.same rfl (zi (db3, 0) _))
       ·have hlast : ja4 s n id db3 = if (s[n].fks.any fun f => jn s db3 false db3[n].rows[j2].vals f) = true then ([], 5) else (db3, 0) := by rw [ja4, wg hn4, g2, zw hn]
        rw [hlast]
        rw [g1] at c8
        have c9 := jbj s db3 (n : Int) n db3[n].rows[j2].vals true (yah hs.few (by decide)) rfl hn ht.fk3 (fkR hs hdb3 hn (hR4.fit _ (yab hj2)).1)
        have e9 : s[n].fks.any (jn s db3 (!true) db3[n].rows[j2].vals) = s[n].fks.any fun f => jn s db3 false db3[n].rows[j2].vals f := rfl
        rw [e9] at c9
        generalize (s[n].fks.any fun f => jn s db3 false db3[n].rows[j2].vals f) = B at c9 ⊢
        cases B
        ·rw [if_neg yaj]
         repeat' first|refine yaG ?_|((first|apply yG|apply yH|apply yI);exact rfl;(first|exact yX (enc := jb) rfl rfl rfl hn4 rfl|exact yX (enc := jc) rfl rfl rfl hj2 rfl))|refine yaC (c8) ?_|refine yaC (c9) ?_|exact yaF|refine yaS ?_ ?_<;>intro _
         exact .ret rfl (Fin.same rfl (zi (db3, 0) _))
        ·rw [if_pos rfl]
         repeat' first|refine yaG ?_|((first|apply yG|apply yH|apply yI);exact rfl;(first|exact yX (enc := jb) rfl rfl rfl hn4 rfl|exact yX (enc := jc) rfl rfl rfl hj2 rfl))|refine yaC (c8) ?_|refine yaC (c9) ?_|exact yaF|refine yaS ?_ ?_<;>intro _
         exact .ret rfl (Fin.same rfl (zi ([], 5) _))
      ·obtain ⟨e, he⟩ : ∃ e, q.2 = e := ⟨_, rfl⟩
       rw [he] at hq
       rw [wae he hq] at c7
       rw [he, if_neg hq]
       repeat' first|refine yaG ?_|((first|apply yG|apply yH|apply yI);exact rfl;(first|exact yX (enc := jb) rfl rfl rfl hn1 rfl|exact yX (enc := jc) rfl rfl rfl hj rfl))|refine yaC (cc) ?_|refine yaC (c1) ?_|refine yaC (c2) ?_|refine yaC (c3) ?_|refine yaC (c4) ?_|refine yaC (c5) ?_|refine yaC (c6) ?_|refine yaC (c7) ?_|exact yaF|refine yaS ?_ ?_<;>intro _
       exact .ret rfl (Fin.same (zbb hq).symm (zi ([], e) _))
   ·obtain ⟨e, he⟩ : ∃ e, c.2 = e := ⟨_, rfl⟩
    rw [he] at hc0
    rw [wae he hc0] at cc
    rw [upd1, he, if_neg hc0]
    repeat' first|refine yaG ?_|refine yaC (cc) ?_|exact yaF|refine yaS ?_ ?_<;>intro _
    exact .ret rfl (Fin.same (zbb hc0).symm (zi ([], e) _))
  ·rw [if_neg hab]
   generalize wbw s[n] vals = e at ca hab ⊢
   repeat' first|refine yaG ?_|refine yaC (ca) ?_|exact yaF|refine yaS ?_ ?_<;>intro _
   exact .ret rfl (Fin.same (zbb hab).symm (zi ([], e) _))
theorem wkd {s : List zd} (hs : SchG s) : ∀ (k : Nat) (deep : Int), -1 <= deep -> deep + k = 13 -> wen I s (chgF s k) deep
 | 0, deep, hk, hd => by
  have hd2 : deep > 12 := by omega
  refine ⟨wa4 hs 0, fun n id db x h hn hx => ?_, fun n id vals rep db h ho => ?_⟩
  ·refine Pure.run mixed zbn (yaa rfl) fun σ hS hA => ?_
   clear hS hA
   repeat' first|refine yaG ?_|exact yaF|refine yaS ?_ ?_<;>intro _
   exact .ret rfl (Fin.same rfl (zi ([], 6) _))
  ·refine Pure.run mixed jbn (yaa rfl) fun σ hS hA => ?_
   clear hS hA
   repeat' first|refine yaG ?_|exact yaF|refine yaS ?_ ?_<;>intro _
   exact .ret rfl (Fin.same rfl (zi ([], 6) _))
 | k + 1, deep, hk, hd => by
  ·have hr := wkd hs k (IntKind.i64.wrap (deep + 1)) (by rw [jf (by omega) (by omega)]; omega) (by rw [jf (by omega) (by omega)]; omega)
   refine ⟨wa4 hs (k + 1), fun n id db x h hn hx => ?_, fun n id vals rep db h ho => ?_⟩
   ·have h1 := zkd hs hr (by omega) hn id db x h hx
    have h2 : chgF s (k + 1) (.del n id) db = wu (chgF s k) s n (keyF s[n].key x.vals) [] true (db.set n ⟨wz (zt db n) id⟩) := by rw [chgF, hx, zw hn]
    rw [h2]
    exact h1
   ·obtain ⟨hn, hl, hv⟩ := ho
    have h1 := jkd hs hr (by omega) hn id vals rep db h hl hv
    have h2 : chgF s (k + 1) (.upd n id vals rep) db = updF (chgF s k) s n id (if rep then zk s[n] 0 vals else vals) rep db := by rw [chgF, zw hn]
    rw [h2]
    exact h1
end Go.Proofs.YtmmgbgpglhbhcaaGreat.Am
namespace Go.Proofs.YtmmgbgpglhbhcaaGreat.Am
variable {I : Nat -> Int -> Prop}

set_option maxHeartbeats 4000000 in
theorem jl1 {L : ChL} {n : Nat} {s : List zd} {run : Chg -> List Data -> Res} {deep : Int} (hs : SchG s) (hr : zhw I L n s run (IntKind.i64.wrap (deep + 1))) (hd : deep <= 12) {k : Nat} (hk : k < s.length) (id : Int) (vals0 : List Val) (rep : Bool) (db : List Data) (xs : List Ce) (τ : wa) (h : zz L n s xs db τ) (hdb : DbG I s db)
 (hl : vals0.length = s[k].cols.length) (hv : jq vals0 16 = true) :
 Ok Tryz.prog 70 [.c (.ptr L.c L.vc 0 0), .c (.int .i64 (k : Int)), .c (.int .i64 id), .c (.fz (vals0.map encV)), .c (.bool rep), .c (.int .i64 deep)] τ (Done L n s (updF run s k id (if rep then zk s[k] 0 vals0 else vals0) rep db) τ) := by
 refine Ok.run0 mixed jar (yaa rfl) fun hS hA => ?_
 clear hS hA
 have hk2 : k < db.length := by rw [hdb.len]; exact hk
 have hk3 : k < xs.length := by rw [h.len]; exact hk2
 have ht := hs.tab _ (yab hk)
 have hb := hs.big _ (yab hk)
 have hne : ∀ {l : List Val}, l.length = s[k].cols.length -> l ≠ [] := fun h1 h0 => by
  rw [h0] at h1
  have := ht.cols0
  simp at h1
  omega
 have cF := wjm s[k] vals0 hl (hne hl) ht.cols8
 have hvv := whu hs hk hl hv rep
 rw [updF, zw hk]
 have hn0 : τ.next <= τ.next := yak _
 repeat' first|refine yaG ?_|fail
 refine Go.iteD rfl (fun h => absurd h (by omega)) fun _ => ?_
 repeat' first|refine yaG ?_|((first|apply yG|apply yH|apply yI);exact rfl;(first|exact zd1 h rfl|exact yX (enc := ja) rfl rfl rfl hk rfl))
 refine Go.meet (K' := [_]) (fun fr τ' => τ' = τ /\ ∃ vals, vals = (if rep then zk s[k] 0 vals0 else vals0) /\ fr = [(0, AV.c (.ptr L.c L.vc 0 0)), (1, .c (.int .i64 (k : Int))), (2, .c (.int .i64 id)), (3, .c (.fz (vals.map encV))), (4, .c (.bool rep)), (5, .c (.int .i64 deep)), (13, .c (.fp (ja s[k])))]) ?_ ?_
 ·intro K hrec
  cases rep
  ·repeat' first|refine yaG ?_|exact yaF|refine yaS ?_ ?_<;>intro _
   exact Go.keep [0, 1, 2, 3, 4, 5, 13] (hrec _ _ ⟨rfl, _, rfl, rfl⟩)
  ·repeat' first|refine yaG ?_|refine yaC (cF) ?_|exact yaF|refine yaS ?_ ?_<;>intro _
   exact Go.keep [0, 1, 2, 3, 4, 5, 13] (hrec _ _ ⟨rfl, _, rfl, rfl⟩)
 rintro fr τ' ⟨hτ, vals, hve, rfl⟩
 rw [hτ]
 rw [<- hve] at hvv ⊢
 clear cF hl hv hve hτ
 have ca := jhw s[k] vals hvv.1 ht hb
 by_cases hab : wbw s[k] vals = 0
 ·rw [hab] at ca
  rw [if_pos hab]
  repeat' first|refine yaG ?_|refine yaC (ca) ?_|exact yaF|refine yaS ?_ ?_<;>intro _
  clear ca
  have cc := jkn hs hr hk id vals hvv.1 rep db xs τ h hdb
  have hkc := fun (h2 : (w7 run s[k] k ⟨id, vals⟩ rep db).2 = 0) => wbj hr.keeps hk (t := s[k]) (x := ⟨id, vals⟩) (rep := rep) hdb h2
  generalize w7 run s[k] k ⟨id, vals⟩ rep db = c at cc hkc ⊢
  refine .call _ rfl rfl rfl cc ?_
  rintro r9 τ1 ⟨hr9, hk1, hq1⟩
  rw [hr9]
  clear cc hr9
  by_cases hc0 : c.2 = 0
  ·obtain ⟨xs1, hH1⟩ := hq1 hc0
   have hdb1 := hkc hc0
   have hup : ∀ old, zat (zt c.1 k) id = some old -> upd1 run s k id vals c = upd3 s k id (upd2 run s k id vals old c.1) := fun old ho => by rw [upd1, if_pos hc0, ho]
   have hup0 : zat (zt c.1 k) id = none -> upd1 run s k id vals c = ([], 9) := fun ho => by rw [upd1, if_pos hc0, ho]
   generalize upd1 run s k id vals c = U at hup hup0 ⊢
   generalize c.1 = db1 at hdb1 hup hup0 hH1
   rw [hc0]
   clear hkc hq1
   have hn1 : k < db1.length := by rw [hdb1.len]; exact hk
   have hn2 : k < xs1.length := by rw [hH1.len]; exact hn1
   have hR1 := hdb1.rows k hk hn1
   rw [wg hn1] at hup hup0
   have cf := jen hH1 hn1 hn2 id hR1.len
   repeat' first|refine yaG ?_|exact yaF|refine yaS ?_ ?_<;>intro _
   rcases wo db1[k].rows id with ⟨hx1, hx2⟩ | ⟨j, hj, hx1, hx2⟩
   ·rw [hup0 hx2]
    refine .call _ rfl rfl rfl (cf.1 hx2) ?_
    rintro r9 τ9 ⟨hr9, ht9⟩
    rw [hr9, ht9]
    repeat' first|refine yaG ?_|exact yaF|refine yaS ?_ ?_<;>intro _
    exact .ret rfl ⟨rfl, hk1, fun h => by cases h⟩
   ·rw [hup _ hx2]
    clear hup hup0
    have hfit := hR1.fit _ (yab hj)
    have hidx : db1[k].rows[j].id = id := (zak hx2).2
    obtain ⟨lab2, ps2, id2, v2, junk2, hat, hl2⟩ := hH1.some hn1 hn2 (Nat.lt_of_le_of_lt (yae _) hj)
    obtain ⟨_, q1, q2, q3, q4⟩ := hat.own
    have ck1 := Lend.fresh (.same (.own (hat.frz hj) .nil)) (jgw s[k].key db1[k].rows[j].vals hb.2.2.1 (by rw [hfit.1]; exact ht.key))
    have ck2 := jfk s[k].key vals hb.2.2.1 (by rw [hvv.1]; exact ht.key)
    have c6 := zet (keyF s[k].key db1[k].rows[j].vals) (keyF s[k].key vals) (by rw [zax]; exact hb.2.2.1)
    have hkv := zd0 ht hvv.1 hvv.2
    have hw : With false (.fz ((keyF s[k].key vals).map encV)) (keyF s[k].key vals) s[k].key.length := .now (by rw [zax]; exact yak _)
    have hw0 := hs.key0 _ (yab hk)
    refine .call _ rfl rfl rfl (cf.2 j hj hx1 _ _ _ _ _ hat) ?_
    rintro r9 τ9 ⟨hr9, ht9⟩
    rw [hr9, ht9]
    clear hr9 ht9
    repeat' first|apply Go.seq|apply Go.skip|apply Go.region|apply Go.nil|apply Go.block|apply Go.blk|apply Go.segs|(apply Go.exit;exact rfl)|(apply Go.cond true;exact rfl)|(apply Go.cond false;exact rfl)|apply yB|apply yC|((first|apply yD|apply yE);(first|exact yF|assumption);iterate 6 exact rfl)|((first|apply yG|apply yH|apply yI);exact rfl;(first|exact yJ|exact yK rfl rfl|exact yL rfl|exact yM rfl|exact rfl|exact aL rfl rfl rfl rfl rfl|exact aS rfl rfl rfl rfl rfl rfl rfl))|((first|apply yN|apply yO|apply yP);exact rfl)|exact yaF|(((first|apply yT|apply yU|apply yV|apply yW);exact rfl;(first|exact .d|exact .e|exact .n|((fail_if_success exact bqt);(fail_if_success exact bqf);exact .b)))<;>intro _)
    apply Go.draw
    repeat' first|apply Go.seq|apply Go.skip|apply Go.region|apply Go.nil|apply Go.block|apply Go.blk|apply Go.segs|(apply Go.exit;exact rfl)|(apply Go.cond true;exact rfl)|(apply Go.cond false;exact rfl)|apply yB|apply yC|((first|apply yD|apply yE);(first|exact yF|assumption);iterate 6 exact rfl)|((first|apply yG|apply yH|apply yI);exact rfl;(first|exact yJ|exact yK rfl rfl|exact yL rfl|exact yM rfl|exact rfl|exact aL rfl rfl rfl rfl rfl|exact aS rfl rfl rfl rfl rfl rfl rfl|exact zo rfl hat.get (hat.at hj) (yao _)))|((first|apply yN|apply yO|apply yP);exact rfl)|exact yaF|(((first|apply yT|apply yU|apply yV|apply yW);exact rfl;(first|exact .d|exact .e|exact .n|((fail_if_success exact bqt);(fail_if_success exact bqf);exact .b)))<;>intro _)
    refine Go.scall _ rfl rfl rfl ck1 ?_
    rintro r9 τ9 ⟨hr9, ht9⟩
    rw [hr9, ht9]
    clear hr9 ht9 ck1
    rw [upd2, zw hk, wg hn1]
    have hset : DbG I s (db1.set k ⟨setRow db1[k].rows ⟨id, vals⟩⟩) := hdb1.set hk (hR1.set (x := ⟨id, vals⟩) hvv)
    generalize w8 s[k].key db1[k].rows[j].vals = wh1
    generalize w8 s[k].key vals = wh2 at ck2
    generalize keyF s[k].key db1[k].rows[j].vals = kold at c6 ⊢
    generalize keyF s[k].key vals = knew at c6 ck2 hkv hw ⊢
    repeat' first|refine yaG ?_|refine yaC (ck2) ?_|exact yaF|refine yaS ?_ ?_<;>intro _
    clear ck2
    refine .call _ rfl rfl rfl (jaq vals (hne hvv.1) (yah (je.1 hvv.2).1 (by decide)) τ1) ?_
    rintro r9 τ9 ⟨v9, junk9, hj9, hr9, ht9⟩
    rw [hr9, ht9]
    clear hr9 ht9
    have hge : (E τ1 [(v9, vals.map encV ++ junk9)]).get id2 = some (v2, ps2.map encP ++ junk2) := (E_lt q2).trans hat.get
    have hH2 := hat.set hH1 hn1 hn2 hl2 hR1.rise hj hidx vals (v := v9) hj9
    have hK2 : Kept n τ1 ((E τ1 [(v9, vals.map encV ++ junk9)]).put id2 (v2, (ps2.map encP ++ junk2).set (0 + j) (jh (encP (ps2[j]'(by rw [hat.len]; exact hj))) 1 [vec (τ1.next + 0) v9 (vals.map encV) junk9]))) := (Kept.ofE hH1.le _).trans (.put q1)
    repeat' first|refine yaG ?_|((first|apply yG|apply yH|apply yI);exact rfl;(first|exact wi rfl rfl hge (hat.at hj) (yao _)))|exact yaF|refine yaS ?_ ?_<;>intro _
    obtain ⟨τ2, hτ2⟩ : ∃ τ2, τ2 = (E τ1 [(v9, vals.map encV ++ junk9)]).put id2 (v2, (ps2.map encP ++ junk2).set (0 + j) (jh (encP (ps2[j]'(by rw [hat.len]; exact hj))) 1 [vec (τ1.next + 0) v9 (vals.map encV) junk9])) := ⟨_, rfl⟩
    refine Go.ext ?_ hτ2
    rw [<- hτ2] at hH2 hK2
    clear hτ2 hl2 cf
    generalize db1.set k ⟨setRow db1[k].rows ⟨id, vals⟩⟩ = db2 at hset hH2 ⊢
    obtain ⟨U2, hU2⟩ : ∃ U2, U2 = upd3 s k id (if kold = knew then (db2, 0) else wu run s k kold knew false db2) := ⟨_, rfl⟩
    rw [<- hU2]
    have hK3 := hk1.trans hK2
    repeat' first|refine yaG ?_|refine yaC (c6) ?_|fail
    refine Go.meet (K' := [_]) (fun fr τ' => ∃ db3 xs3, U2 = ja4 s k id db3 /\ DbG I s db3 /\ zz L n s xs3 db3 τ' /\ Kept n τ τ' /\ fr = [(0, AV.c (.ptr L.c L.vc 0 0)), (1, .c (.int .i64 (k : Int))), (2, .c (.int .i64 id)), (13, .c (.fp (ja s[k])))]) ?_ ?_
    ·intro K hrec
     by_cases hkk : kold = knew
     ·rw [show (kold == knew) = true from beq_iff_eq.2 hkk]
      repeat' first|refine yaG ?_|exact yaF|refine yaS ?_ ?_<;>intro _
      exact Go.keep [0, 1, 2, 13] (hrec _ _ ⟨db2, xs1, by rw [hU2, upd3, if_pos hkk, if_pos rfl], hset, hH2, hK3, rfl⟩)
     ·rw [show (kold == knew) = false from beq_eq_false_iff_ne.2 hkk]
      rw [if_neg hkk] at hU2
      have cw := jjm hs hr hk kold knew false _ hw hkv hw0 db2 xs1 τ2 hH2 hset
      have hkq := fun (h4 : (wu run s k kold knew false db2).2 = 0) => za9 (n := k) (key := kold) (gone := false) hr.keeps hkv hset h4
      generalize wu run s k kold knew false db2 = q at cw hkq hU2
      rw [upd3] at hU2
      repeat' first|refine yaG ?_|exact yaF|refine yaS ?_ ?_<;>intro _
      refine .call _ rfl rfl rfl cw ?_
      rintro r9 τ9 ⟨hr9, hk9, hq9⟩
      rw [hr9]
      clear hr9 cw
      by_cases hq : q.2 = 0
      ·rw [if_pos hq] at hU2
       obtain ⟨xs9, hH9⟩ := hq9 hq
       rw [hq]
       repeat' first|refine yaG ?_|exact yaF|refine yaS ?_ ?_<;>intro _
       exact Go.keep [0, 1, 2, 13] (hrec _ _ ⟨q.1, xs9, hU2, hkq hq, hH9, hK3.trans hk9, rfl⟩)
      ·rw [if_neg hq] at hU2
       rw [hU2]
       generalize q.2 = e at hq ⊢
       repeat' first|refine yaG ?_|exact yaF|refine yaS ?_ ?_<;>intro _
       exact .ret rfl ⟨rfl, hK3.trans hk9, fun h => absurd h hq⟩
    rintro fr τ3 ⟨db3, xs3, hUl, hdb3, hH3, hK4, rfl⟩
    rw [hUl]
    clear hUl hU2 hK3 hH2 hset c6 hw hkv hK2 hH1 hdb1 hR1
    have hn4 : k < db3.length := by rw [hdb3.len]; exact hk
    have hn5 : k < xs3.length := by rw [hH3.len]; exact hn4
    have hR4 := hdb3.rows k hk hn4
    have cf3 := jen hH3 hn4 hn5 id hR4.len
    repeat' first|refine yaG ?_|exact yaF|refine yaS ?_ ?_<;>intro _
    rcases wo db3[k].rows id with ⟨g1, g2⟩ | ⟨j2, hj2, g1, g2⟩
    ·have hlast : ja4 s k id db3 = (db3, 0) := by rw [ja4, wg hn4, g2]
     rw [hlast]
     refine .call _ rfl rfl rfl (cf3.1 g2) ?_
     rintro r9 τ9 ⟨hr9, ht9⟩
     rw [hr9, ht9]
     repeat' first|refine yaG ?_|exact yaF|refine yaS ?_ ?_<;>intro _
     exact .ret rfl ⟨rfl, hK4, fun _ => ⟨xs3, hH3⟩⟩
    ·have hlast : ja4 s k id db3 = if (s[k].fks.any fun f => jn s db3 false db3[k].rows[j2].vals f) = true then ([], 5) else (db3, 0) := by rw [ja4, wg hn4, g2, zw hk]
     rw [hlast]
     obtain ⟨lab3, ps3, id3, v3, junk3, hat3, hl3⟩ := hH3.some hn4 hn5 (Nat.lt_of_le_of_lt (yae _) hj2)
     have c9 := zev s db3 s[k] db3[k].rows[j2].vals false (yah hs.few (by decide)) (yah ht.fk3 (by decide)) (fkR hs hdb3 hk (hR4.fit _ (yab hj2)).1)
     have e9 : s[k].fks.any (jn s db3 false db3[k].rows[j2].vals) = s[k].fks.any fun f => jn s db3 false db3[k].rows[j2].vals f := rfl
     rw [e9] at c9
     generalize (s[k].fks.any fun f => jn s db3 false db3[k].rows[j2].vals f) = B at c9 ⊢
     refine .call _ rfl rfl rfl (cf3.2 j2 hj2 g1 _ _ _ _ _ hat3) ?_
     rintro r9 τ9 ⟨hr9, ht9⟩
     rw [hr9, ht9]
     clear hr9 ht9
     repeat' first|refine yaG ?_|((first|apply yG|apply yH|apply yI);exact rfl;(first|exact zd1 hH3 rfl|exact wb7 hH3 rfl|exact zo rfl hat3.get (hat3.at hj2) (yao _)))|exact yaF|refine yaS ?_ ?_<;>intro _
     refine Go.slcall rfl rfl rfl c9 (.bool _) (.same (.own hH3.frz (.same (.own (hat3.frz hj2) (.same .nil))))) ?_
     cases B
     ·rw [if_neg yaj]
      repeat' first|refine yaG ?_|exact yaF|refine yaS ?_ ?_<;>intro _
      exact .ret rfl ⟨rfl, hK4, fun _ => ⟨xs3, hH3⟩⟩
     ·rw [if_pos rfl]
      repeat' first|refine yaG ?_|exact yaF|refine yaS ?_ ?_<;>intro _
      exact .ret rfl ⟨rfl, hK4, fun h => by cases h⟩
  ·obtain ⟨e, he⟩ : ∃ e, c.2 = e := ⟨_, rfl⟩
   rw [he] at hc0 ⊢
   rw [upd1, he, if_neg hc0]
   repeat' first|refine yaG ?_|exact yaF|refine yaS ?_ ?_<;>intro _
   exact .ret rfl ⟨rfl, hk1, fun h => absurd h hc0⟩
 ·rw [if_neg hab]
  generalize wbw s[k] vals = e at ca hab ⊢
  repeat' first|refine yaG ?_|refine yaC (ca) ?_|exact yaF|refine yaS ?_ ?_<;>intro _
  exact .ret rfl ⟨rfl, .refl, fun h => absurd h hab⟩
theorem wl1 {L : ChL} {n : Nat} {s : List zd} (hs : SchG s) : ∀ (k : Nat) (deep : Int), -1 <= deep -> deep + k = 13 -> zhw I L n s (chgF s k) deep
 | 0, deep, hk, hd => by
  have hd2 : deep > 12 := by omega
  refine ⟨wa4 hs 0, fun k id db xs τ h hdb hk => ?_, fun k id vals rep db xs τ h hdb ho => ?_⟩
  ·refine Ok.run0 mixed zam (yaa rfl) fun hS hA => ?_
   clear hS hA
   repeat' first|refine yaG ?_|exact yaF|refine yaS ?_ ?_<;>intro _
   exact .ret rfl ⟨rfl, .refl, fun h => by cases h⟩
  ·refine Ok.run0 mixed jar (yaa rfl) fun hS hA => ?_
   clear hS hA
   repeat' first|refine yaG ?_|exact yaF|refine yaS ?_ ?_<;>intro _
   exact .ret rfl ⟨rfl, .refl, fun h => by cases h⟩
 | k + 1, deep, hk, hd => by
  ·have hr := wl1 (L := L) (n := n) hs k (IntKind.i64.wrap (deep + 1)) (by rw [jf (by omega) (by omega)]; omega) (by rw [jf (by omega) (by omega)]; omega)
   refine ⟨wa4 hs (k + 1), fun m id db xs τ h hdb hm => ?_, fun m id vals rep db xs τ h hdb ho => ?_⟩
   ·have h1 := jk6 hs hr (by omega) hm id db xs τ h hdb
    have h2 : chgF s (k + 1) (.del m id) db = delF (chgF s k) s m id db := by
     rw [chgF, delF]
     cases zat (zt db m) id <;> rfl
    rw [h2]
    exact h1
   ·obtain ⟨hm, hl, hv⟩ := ho
    have h1 := jl1 hs hr (by omega) hm id vals rep db xs τ h hdb hl hv
    have h2 : chgF s (k + 1) (.upd m id vals rep) db = updF (chgF s k) s m id (if rep then zk s[m] 0 vals else vals) rep db := by rw [chgF, zw hm]
    rw [h2]
    exact h1
end Go.Proofs.YtmmgbgpglhbhcaaGreat.Am
namespace Go.Proofs.YtmmgbgpglhbhcaaGreat.Am
def zjn (n : Nat) : Ce -> Ce
 | .sl id v i m c => if n <= id then .sl id v i m c else .any
 | .ptr id v i j => if n <= id then .ptr id v i j else .any
 | .fz _ => .any
 | .fp _ => .any
 | .fn _ _ _ => .any
 | x => x
theorem zk7 {n : Nat} {x : Ce} : Tidy n (zjn n x) := by
 cases x <;> simp only [zjn] <;> (try split) <;> first | exact .sl _ _ _ _ _ (by assumption) | exact .ptr _ _ _ _ (by assumption) | exact .flat (by constructor)
theorem zmw {n : Nat} {x : Ce} (h : Tidy n x) : zjn n x = x := by
 cases h with
 | flat h => cases h <;> rfl
 | sl id v i m c h => exact if_pos h
 | ptr id v i j h => exact if_pos h
theorem Rp.blur {C : Cx} {n : Nat} {x : Ce} {v : Value} (h : Rp C x v) : Rp C (zjn n x) v := by
 have h1 := h.one
 cases x <;> simp only [zjn] <;> (try split) <;> first | exact h | exact .any _ h1.1 h1.2
def jd2 (n : Nat) (es : List (List Ce)) : List (List Ce) := es.map fun e => e.map (zjn n)
def jcn (n : Nat) (τ : wa) : wa := ⟨τ.next, fun a => if a < n then τ.get a else (τ.get a).map fun y => (y.1, jd2 n y.2)⟩
theorem zl2 {n : Nat} {es : List (List Ce)} : jd2 n es = [] ↔ es = [] := by simp [jd2]
theorem jmw {n : Nat} {es : List (List Ce)} (h : ∀ e ∈ es, ∀ x ∈ e, Tidy n x) : jd2 n es = es := by
 have h1 : ∀ e ∈ es, e.map (zjn n) = e := fun e he => by
  have : e.map (zjn n) = e.map id := List.map_congr_left fun x hx => zmw (h e he x hx)
  rw [this, List.map_id]
 have : jd2 n es = es.map id := List.map_congr_left h1
 rw [this, List.map_id]
theorem wcn {n : Nat} {τ : wa} {a v : Nat} {es : List (List Ce)} (h : (jcn n τ).get a = some (v, es)) : ∃ es1, τ.get a = some (v, es1) /\ (es = es1 \/ es = jd2 n es1) := by
 simp only [jcn] at h
 split at h
 ·exact ⟨es, h, .inl rfl⟩
 ·cases hg : τ.get a with
  | none => rw [hg] at h; cases h
  | some y =>
   rw [hg] at h
   cases h
   exact ⟨y.2, rfl, .inr rfl⟩
theorem jk7 {n : Nat} {τ : wa} {a v : Nat} {es : List (List Ce)} (h : τ.get a = some (v, es)) : ∃ es2, (jcn n τ).get a = some (v, es2) /\ (es2 = es \/ es2 = jd2 n es) := by
 simp only [jcn]
 split
 ·exact ⟨es, h, .inl rfl⟩
 ·rw [h]
  exact ⟨_, rfl, .inr rfl⟩
theorem zeo {n : Nat} {es es1 : List (List Ce)} (h : es = es1 \/ es = jd2 n es1) : es = [] ↔ es1 = [] := by
 rcases h with rfl | rfl
 ·exact Iff.rfl
 ·exact zl2
theorem Rl.blur {C : Cx} {τ : wa} (h : Rl C τ) (n : Nat) : Rl C (jcn n τ) := by
 refine ⟨h.F, fun id v es hg => ?_, fun b => ?_, fun id v es id' v' es' h1 n1 h2 n2 hb => ?_, fun id v es hg hne => ?_⟩
 ·obtain ⟨es1, g1, g2⟩ := wcn hg
  obtain ⟨a1, a2, a3⟩ := h.live id v es1 g1
  exact ⟨a1, a2, a3.trans (zeo g2).symm⟩
 ·rw [h.M]
  constructor
  ·rintro ⟨id, v, es, hg, hne, hb⟩
   obtain ⟨es2, g1, g2⟩ := jk7 (n := n) hg
   exact ⟨id, v, es2, g1, fun e => hne ((zeo g2).1 e), hb⟩
  ·rintro ⟨id, v, es, hg, hne, hb⟩
   obtain ⟨es1, g1, g2⟩ := wcn hg
   exact ⟨id, v, es1, g1, fun e => hne ((zeo g2).2 e), hb⟩
 ·obtain ⟨e1, g1, g2⟩ := wcn h1
  obtain ⟨e2, k1, k2⟩ := wcn h2
  exact h.inj id v e1 id' v' e2 g1 (fun e => n1 ((zeo g2).2 e)) k1 (fun e => n2 ((zeo k2).2 e)) hb
 ·obtain ⟨es1, g1, g2⟩ := wcn hg
  obtain ⟨cs, t, hb, hz, hl, hc⟩ := h.blk id v es1 g1 fun e => hne ((zeo g2).2 e)
  rcases g2 with rfl | rfl
  ·exact ⟨cs, t, hb, hz, hl, hc⟩
  ·refine ⟨cs, t, hb, by simpa [jd2] using hz, fun i hi => ?_, fun i j hi hj => ?_⟩
   ·have hi2 : i < es1.length := by simpa [jd2] using hi
    have := hl i hi2
    simpa [jd2] using this
   ·have hi2 : i < es1.length := by simpa [jd2] using hi
    have hj2 : j < es1[i].length := by simpa [jd2] using hj
    obtain ⟨u, h1, h2⟩ := hc i j hi2 hj2
    refine ⟨u, h1, ?_⟩
    have := h2.blur (n := n)
    simpa [jd2] using this
theorem Ok.blur {P : Program} {f : Nat} {args : List AV} {σ : wa} {Q : AV -> wa -> Prop} (h : Ok P f args σ Q) (n : Nat) : Ok P f args σ (fun r τ2 => ∃ τ, Q r τ /\ OldS τ /\ τ2 = jcn n τ) := by
 refine ⟨h.1, fun C cargs hR ha => (h.2 C cargs hR ha).mono ?_⟩
 rintro e w' ⟨D, σ1, r, v, rfl, rfl, hQ, hRD, hx, hle⟩
 exact ⟨D, jcn n σ1, r, v, rfl, rfl, ⟨σ1, hQ, hRD.old, rfl⟩, hRD.blur n, hx, hle⟩
theorem Has.blur {τ : wa} {S : Nat -> Prop} {y x : Ce} (h : Has τ S y x) {n : Nat} : (∀ a, S a -> n <= a) -> Has (jcn n τ) S y x := by
 induction h with
 | c h => exact fun _ => .c h
 | nil => exact fun _ => .nil
 | o ys id v s cs junk T hg hS hl hs hall hj hT hd h ih =>
  intro hn
  refine .o ys id v s cs junk T ?_ hS hl hs hall hj hT hd fun i j hi hj => ih i j hi hj fun a ha => hn a (hT i j a ha).1
  have h1 : ¬ id < n := Nat.not_lt.2 (hn id hS)
  simp only [jcn, if_neg h1, hg, Option.map_some]
  rw [jmw]
  intro e he x hx
  rcases List.mem_append.1 he with he | he
  ·obtain ⟨i, hi, rfl⟩ := List.mem_iff_getElem.1 he
   obtain ⟨j, hj2, rfl⟩ := List.mem_iff_getElem.1 hx
   exact (h i j (by omega) (by rw [<- hs i (by omega)]; exact hj2)).tidy fun a ha => hn a (hT i j a ha).1
  ·exact .flat (hj e he x hx)
theorem HasV.blur {τ : wa} {S : Nat -> Prop} {y x : AV} (h : HasV τ S y x) {n : Nat} : (∀ a, S a -> n <= a) -> HasV (jcn n τ) S y x := by
 induction h with
 | c h => exact fun hn => .c (h.blur hn)
 | agg h =>
  intro hn
  obtain ⟨U, h1, h2, h3, h4⟩ := h
  exact .agg ⟨U, h1, h2, h3, fun j hy hx => (h4 j hy hx).blur fun a ha => hn a (h2 j a ha)⟩
 | tup U hl hU hd h ih => exact fun hn => .tup U hl hU hd fun i hy hx => ih i hy hx fun a ha => hn a (hU i a ha)
theorem Gr.blur {σ τ : wa} (h : Kept σ.next σ τ) (ho : OldS τ) : Gr σ (jcn σ.next τ) := by
 have hn : ∀ a, ¬ a < τ.next -> τ.get a = none := fun a ha => by
  cases hg : τ.get a with
  | none => rfl
  | some y => exact absurd (ho a y hg).1 ha
 let l : List (Nat × List (List Ce)) := (List.range (τ.next - σ.next)).map fun k => ((jcn σ.next τ).get (σ.next + k)).getD (0, [])
 have hll : l.length = τ.next - σ.next := by simp [l]
 have hnx := h.next
 refine ⟨l, ?_, fun b hb e he x hx => ?_⟩
 ·refine wa.ext (by rw [wx, hll]; show τ.next = _; omega) fun a => ?_
  by_cases h1 : a < σ.next
  ·rw [E_lt h1, <- h.get a h1]
   exact if_pos h1
  ·rw [E_ge h1]
   by_cases h2 : a < τ.next
   ·have h3 := h.full a h2 fun hh => absurd hh h1
    obtain ⟨k, rfl⟩ : ∃ k, a = σ.next + k := ⟨a - σ.next, by omega⟩
    have h4 : k < l.length := by omega
    rw [Nat.add_sub_cancel_left, yaf h4]
    simp only [l, List.getElem_map, List.getElem_range]
    cases hg : (jcn σ.next τ).get (σ.next + k) with
    | some y => rfl
    | none =>
     exfalso
     simp only [jcn, if_neg h1] at hg
     cases hg2 : τ.get (σ.next + k) with
     | none => rw [hg2] at h3; cases h3
     | some y => rw [hg2] at hg; cases hg
   ·have h3 := hn a h2
    rw [List.getElem?_eq_none (by omega)]
    simp only [jcn, if_neg h1, h3, Option.map_none]
 ·obtain ⟨k, hk, rfl⟩ := List.mem_map.1 hb
  cases hg : (jcn σ.next τ).get (σ.next + k) with
  | none => rw [hg] at he; cases he
  | some y =>
   rw [hg] at he
   simp only [jcn, if_neg (show ¬ σ.next + k < σ.next by omega)] at hg
   cases hg2 : τ.get (σ.next + k) with
   | none => rw [hg2] at hg; cases hg
   | some z =>
    rw [hg2] at hg
    cases hg
    obtain ⟨e1, _, rfl⟩ := List.mem_map.1 he
    obtain ⟨x1, _, rfl⟩ := List.mem_map.1 hx
    exact zk7
theorem Ok.newV {P : Program} {f : Nat} {args : List AV} {σ : wa} {y : AV} (h : Ok P f args σ (fun r τ => Kept σ.next σ τ /\ HasV τ (fun a => σ.next <= a /\ a < τ.next) y r)) : Ok P f args σ (NewV σ y) :=
 (h.blur σ.next).mono fun r τ2 ⟨τ, ⟨h1, h2⟩, ho, e⟩ => by
   subst e
   exact ⟨.blur h1 ho, h2.blur fun a ha => ha.1⟩
theorem Vl.has {τ : wa} {vals : List Val} {x : Ce} (h : Vl τ vals x) : Has τ (fun a => idOf x = some a) (.fz (vals.map encV)) x := by
 cases h with
 | nil => exact .nil
 | sl vals id v junk hg hj =>
  refine .o (vals.map encV) id v 3 (vals.map encV) junk (fun _ _ _ => False) hg rfl rfl (fun i hi => rfl) (fun e he => ?_) (fun e he x hx => (hj e he).2 x hx) (fun _ _ _ h => h.elim) (fun _ _ _ _ _ h => h.elim) (fun i j hi hj => .c ((jgz _ (yab hi)).2 _ (yab hj)))
  rcases List.mem_append.1 he with he | he
  ·exact (jgz e he).1
  ·exact (hj e he).1
theorem Tb.has {L : ChL} {n i : Nat} {τ : wa} {lab : Nat -> Nat × Option Int} {rows : List RowD} {x : Ce} (h : Tb τ (Own L n τ.next lab i) rows x) (hr : Rise rows) : Has τ (fun a => ∃ w, Own L n τ.next lab i w a) (.fz (rows.map jc)) x := by
 cases h with
 | sl ps id v junk hrw hg hj h0 hp =>
  subst hrw
  have e0 : (ps.map encP).length = ((ps.map (·.1)).map jc).length := by simp
  have hinj : ∀ j j' (h1 : j < ps.length) (h2 : j' < ps.length), ps[j].1.id = ps[j'].1.id -> j = j' := fun j j' h1 h2 he => by
   have h3 := List.pairwise_iff_getElem.1 hr
   rcases Nat.lt_trichotomy j j' with h | h | h
   ·have := h3 j j' (by simpa using h1) (by simpa using h2) h
    simp only [List.getElem_map] at this
    exact absurd he (by intro e; omega)
   ·exact h
   ·have := h3 j' j (by simpa using h2) (by simpa using h1) h
    simp only [List.getElem_map] at this
    exact absurd he (by intro e; omega)
  rw [vec, e0]
  refine .o (S := fun a => ∃ w, Own L n τ.next lab i w a) ((ps.map (·.1)).map jc) id v 2 (ps.map encP) junk (fun j c a => c = 1 /\ ∃ hj : j < ps.length, Own L n τ.next lab i (some ps[j].1.id) a) hg ⟨none, h0⟩ (by simp) (fun j hj => ?_) (fun e he => ?_) (fun e he x hx => (hj e he).2 x hx) (fun j c a ha => ?_) (fun j c j' c' a h1 h2 => ?_) (fun j c hj hc => ?_)
  ·simp [encP, jc]
  ·rcases List.mem_append.1 he with he | he
   ·obtain ⟨p, _, rfl⟩ := List.mem_map.1 he
    rfl
   ·exact (hj e he).1
  ·obtain ⟨rfl, hj, ha⟩ := ha
   refine ⟨⟨_, ha⟩, fun e => ?_⟩
   subst e
   have := ha.1.symm.trans h0.1
   cases this
  ·obtain ⟨rfl, hj, ha⟩ := h1
   obtain ⟨rfl, hj', ha'⟩ := h2
   have := ha.1.symm.trans ha'.1
   injection this with _ h3
   injection h3 with h3
   exact ⟨hinj j j' hj hj' h3, rfl⟩
  ·have hj2 : j < ps.length := by simpa using hj
   have e1 : (ps.map encP)[j]'(by simpa using hj2) = encP ps[j] := by simp
   have e2 : ((ps.map (·.1)).map jc)[j]'hj = jc ps[j].1 := by simp
   have hc2 : c < 2 := by rw [e2] at hc; exact hc
   simp only [e1, e2]
   have hc3 : c = 0 \/ c = 1 := by omega
   rcases hc3 with rfl | rfl
   ·exact .c (.int _ _)
   ·obtain ⟨h1, h2⟩ := hp _ (yab hj2)
    exact h1.has.mono fun a ha => ⟨rfl, hj2, h2 a ha⟩
theorem zz.has {L : ChL} {n : Nat} {s : List zd} {xs : List Ce} {db : List Data} {τ : wa} (h : zz L n s xs db τ) (hr : ∀ d ∈ db, Rise d.rows) : Has τ (fun a => n <= a /\ a < τ.next /\ a ≠ L.c) (.fz (db.map jb)) (.sl L.d L.vd 0 db.length (db.length + L.junk.length)) := by
 obtain ⟨lab, hl⟩ := h.tb
 have e0 : db.length = (db.map jb).length := (yag _).symm
 rw [e0]
 refine .o (S := fun a => n <= a /\ a < τ.next /\ a ≠ L.c) (db.map jb) L.d L.vd 1 (cells xs) L.junk (fun i j a => j = 0 /\ ∃ w, Own L n τ.next lab i w a) h.d (show n <= L.d /\ L.d < τ.next /\ L.d ≠ L.c from ⟨h.nd, h.ld, Ne.symm h.cd⟩) (by simp [cells, h.len]) (fun i hi => by simp [cells, jb]) (fun e he => ?_) (fun e he x hx => (h.jk e he).2 x hx) (fun i j a ha => ?_) (fun i j i' j' a h1 h2 => ?_) (fun i j hi hj => ?_)
 ·rcases List.mem_append.1 he with he | he
  ·obtain ⟨x, _, rfl⟩ := List.mem_map.1 he
   rfl
  ·exact (h.jk e he).1
 ·obtain ⟨_, w, hw⟩ := ha
  exact ⟨⟨hw.2.1, hw.2.2.1, hw.2.2.2.1⟩, hw.2.2.2.2⟩
 ·obtain ⟨q1, w, hw⟩ := h1
  obtain ⟨q2, w', hw'⟩ := h2
  have := hw.1.symm.trans hw'.1
  injection this with h3 _
  exact ⟨h3, by omega⟩
 ·have hi2 : i < db.length := by simpa using hi
  have hi3 : i < xs.length := by rw [h.len]; exact hi2
  have hj0 : j = 0 := by
   simp [jb] at hj
   exact hj
  subst hj0
  have h1 := (hl i hi3 hi2).has (hr _ (yab hi2))
  have e1 : ((db.map jb)[i]'hi)[0]'hj = .fz (db[i].rows.map jc) := by simp [jb]
  have e2 : ((cells xs)[i]'(by simpa [cells] using hi3))[0]'(by simp [cells]) = xs[i] := by simp [cells]
  rw [e1, e2]
  exact h1.mono fun a ha => ⟨rfl, ha⟩
theorem wkn {τ : wa} {fr : Fr} {s bytes id v : Nat} {x y : Opd} {ys junk : List (List Ce)} {e : List Ce} (hx : x.ev fr = some (.c (vec id v ys junk))) (hy : y.ev fr = some (.c (.fz [e]))) (hg : τ.get id = some (v, ys ++ junk)) (hys : ∀ q ∈ ys, q.length = s) (hj : Jk s junk) (he : e.length = s) (hb : (ys.length + 1) * bytes <= 140737488355328) :
 ∃ v' junk', Jk s junk' /\ aop (.app s bytes x y) fr τ = some (.c (vec id v' (ys ++ [e]) junk'), τ.put id (v', ys ++ [e] ++ junk')) := by
 have hall1 : ∀ q ∈ [e], q.length = s := fun q hq => by rw [List.mem_singleton.1 hq]; exact he
 have hall : ∀ q ∈ ys ++ junk, q.length = s := fun q hq => by
  rcases List.mem_append.1 hq with hq | hq
  ·exact hys q hq
  ·exact (hj q hq).1
 by_cases c : 1 <= junk.length
 ·refine ⟨v, junk.drop 1, fun q hq => hj q (ybi hq), ?_⟩
  have e2 : jh (ys ++ junk) (0 + ys.length) [e] = ys ++ [e] ++ junk.drop 1 := by
   simp only [jh, Nat.zero_add, List.length_singleton]
   rw [List.take_left' rfl, List.drop_append]
   rw [yad (by omega), Nat.add_sub_cancel_left]
   simp
  have h1 : appA τ s bytes (vec id v ys junk) [e] = some (vec id v (ys ++ [e]) (junk.drop 1), τ.put id (v, ys ++ [e] ++ junk.drop 1)) := by
   unfold appA
   rw [if_pos hall1]
   simp only [vec, hg]
   rw [if_pos ⟨trivial, by simp, by omega, hall⟩, if_pos (by simp only [List.length_singleton]; omega), e2]
   simp only [List.length_append, List.length_singleton, List.length_drop]
   rw [show ys.length + 1 + (junk.length - 1) = ys.length + junk.length by omega]
  simp only [aop, hx, hy, wa.els, Option.bind_some, h1, Option.map_some]
 ·refine ⟨v + 1, [], Jk.nil, ?_⟩
  have e3 : (List.drop 0 (ys ++ junk)).take ys.length = ys := by rw [List.drop_zero, List.take_left' rfl]
  have h1 : appA τ s bytes (vec id v ys junk) [e] = some (vec id (v + 1) (ys ++ [e]) [], τ.put id (v + 1, ys ++ [e] ++ [])) := by
   unfold appA
   rw [if_pos hall1]
   simp only [vec, hg]
   rw [if_pos ⟨trivial, by simp, by omega, hall⟩, if_neg (by simp only [List.length_singleton]; omega), if_pos (by simpa using hb), e3]
   simp
  simp only [aop, hx, hy, wa.els, Option.bind_some, h1, Option.map_some]
theorem jl2 {τ : wa} {fr : Fr} {s : Nat} {z : List Ce} : aop (.mksl false s 0 z []) fr τ = some (.c (vec τ.next 0 [] []), τ.new (0, [])) := rfl
section
variable {P : Program} {n0 nt : Nat} {rets : List RV} {R : AV -> wa -> Prop} {K : List AK} {fr : Fr} {τ : wa}
theorem Go.appO {d : Option Nat} {g : Option (Nat × Bool)} {rest : List jd} {s bytes id v : Nat} {x y : Opd} {ys junk : List (List Ce)} {e : List Ce} (hw : wants fr g = some true) (hx : x.ev fr = some (.c (vec id v ys junk))) (hy : y.ev fr = some (.c (.fz [e]))) (hg : τ.get id = some (v, ys ++ junk)) (hys : ∀ q ∈ ys, q.length = s) (hj : Jk s junk) (he : e.length = s) (hb : (ys.length + 1) * bytes <= 140737488355328)
 (h : ∀ v' junk', Jk s junk' -> Go P n0 nt rets R (.ops rest :: K) (putA fr d (.c (vec id v' (ys ++ [e]) junk'))) (τ.put id (v', ys ++ [e] ++ junk'))) : Go P n0 nt rets R (.ops (⟨d, .op (.app s bytes x y), g⟩ :: rest) :: K) fr τ :=
 let ⟨_, _, h1, h2⟩ := wkn hx hy hg hys hj he hb
 .op hw h2 (h _ _ h1)
theorem Go.sappO {d : Option Nat} {g : Option (Nat × Bool)} {rest : List (List jd)} {s bytes id v : Nat} {x y : Opd} {ys junk : List (List Ce)} {e : List Ce} (hw : wants fr g = some true) (hx : x.ev fr = some (.c (vec id v ys junk))) (hy : y.ev fr = some (.c (.fz [e]))) (hg : τ.get id = some (v, ys ++ junk)) (hys : ∀ q ∈ ys, q.length = s) (hj : Jk s junk) (he : e.length = s) (hb : (ys.length + 1) * bytes <= 140737488355328)
 (h : ∀ v' junk', Jk s junk' -> Go P n0 nt rets R (.segs rest :: K) (putA fr d (.c (vec id v' (ys ++ [e]) junk'))) (τ.put id (v', ys ++ [e] ++ junk'))) : Go P n0 nt rets R (.segs ([⟨d, .op (.app s bytes x y), g⟩] :: rest) :: K) fr τ :=
 let ⟨_, _, h1, h2⟩ := wkn hx hy hg hys hj he hb
 .sop hw h2 (h _ _ h1)
end
theorem whw {xs : List Ce} {x : Ce} : cells xs ++ [[x]] = cells (xs ++ [x]) := by
 show _ = List.map _ (xs ++ [x])
 rw [yaq]
 rfl
theorem Kept.new {n : Nat} {τ : wa} {y : Nat × List (List Ce)} (h : n <= τ.next) : Kept n τ (τ.new y) := ⟨Nat.le_succ _, fun a ha => if_neg (by omega), fun a ha hs => by
 show (if a = τ.next then _ else _ : Option _).isSome = true
 split
 ·rfl
 ·exact hs (by have : a < τ.next + 1 := ha; omega)⟩
structure DbT (n : Nat) (τ : wa) (db : List Data) (o vo : Nat) (xs : List Ce) (junk : List (List Ce)) : Prop where
 get : τ.get o = some (vo, cells xs ++ junk)
 jk : Jk 1 junk
 len : xs.length = db.length
 no : n <= o
 lo : o < τ.next
 tb : ∃ lab : Nat -> Nat × Option Int, ∀ i (h : i < xs.length) (h2 : i < db.length), Tb τ (fun w a => lab a = (i, w) /\ n <= a /\ a < τ.next /\ a ≠ o) db[i].rows xs[i]
structure wl2 (n : Nat) (τ0 τ : wa) (rows : List RowD) (m v : Nat) (ps : List PRow) (junk : List (List Ce)) (new : Nat -> Option Int) : Prop where
 get : τ.get m = some (v, ps.map encP ++ junk)
 jk : Jk 2 junk
 rows : ps.map (·.1) = rows
 lt : m < τ.next
 vl : ∀ p ∈ ps, Vl τ p.1.vals p.2 /\ ∀ a, idOf p.2 = some a -> m < a /\ a < τ.next /\ new a = some p.1.id
 old : ∀ a, a < m -> τ.get a = τ0.get a
 kept : Kept n τ0 τ
theorem wl2.push {n : Nat} {τ0 τ : wa} {rows : List RowD} {m v : Nat} {ps : List PRow} {junk : List (List Ce)} {new : Nat -> Option Int} (h : wl2 n τ0 τ rows m v ps junk new) (hn : n <= m) (r : RowD) {v9 v' : Nat} {junk9 junk' : List (List Ce)} (hj9 : Jk 3 junk9) (hj : Jk 2 junk') :
 wl2 n τ0 ((E τ [(v9, r.vals.map encV ++ junk9)]).put m (v', ps.map encP ++ [[.int .i64 r.id, vec (τ.next + 0) v9 (r.vals.map encV) junk9]] ++ junk')) (rows ++ [r]) m v' (ps ++ [(r, vec (τ.next + 0) v9 (r.vals.map encV) junk9)]) junk' (fun a => if a < τ.next then new a else some r.id) := by
 have hlt := h.lt
 have hE : (E τ [(v9, r.vals.map encV ++ junk9)]).next = τ.next + 1 := rfl
 refine ⟨?_, hj, by rw [yaq, h.rows]; rfl, by show m < τ.next + 1; omega, fun p hp => ?_, fun a ha => (if_neg (by omega)).trans ((E_lt (by omega)).trans (h.old a ha)), h.kept.trans ((Kept.ofE (by omega) _).trans (.put hn))⟩
 ·rw [yaq]
  exact zay
 ·rcases List.mem_append.1 hp with hp | hp
  ·obtain ⟨h1, h2⟩ := h.vl p hp
   refine ⟨h1.frame fun a ha => (if_neg (by have := h2 a ha; omega)).trans (E_lt (h2 a ha).2.1), fun a ha => ?_⟩
   obtain ⟨h3, h4, h5⟩ := h2 a ha
   refine ⟨h3, by show a < τ.next + 1; omega, ?_⟩
   show (if a < τ.next then new a else some r.id) = _
   rw [if_pos h4]
   exact h5
  ·rw [List.mem_singleton.1 hp]
   refine ⟨.sl r.vals _ v9 junk9 ((if_neg (by omega)).trans (by rw [E_at]; rfl)) hj9, fun a ha => ?_⟩
   cases ha
   refine ⟨by omega, by show τ.next + 0 < τ.next + 1; omega, ?_⟩
   show (if τ.next + 0 < τ.next then new (τ.next + 0) else some r.id) = _
   rw [if_neg (by omega)]
theorem DbT.push {n : Nat} {τ0 τ : wa} {db : List Data} {o vo vo' : Nat} {xs : List Ce} {junk junk' : List (List Ce)} (h : DbT n τ0 db o vo xs junk) {rows : List RowD} {v : Nat} {ps : List PRow} {junk2 : List (List Ce)} {new : Nat -> Option Int} (k : wl2 n τ0 τ rows τ0.next v ps junk2 new) (hn : n <= τ0.next) (hj : Jk 1 junk') :
 DbT n (τ.put o (vo', cells xs ++ [[vec τ0.next v (ps.map encP) junk2]] ++ junk')) (db ++ [⟨rows⟩]) o vo' (xs ++ [vec τ0.next v (ps.map encP) junk2]) junk' := by
 have hlo := h.lo
 have hlt := k.lt
 obtain ⟨lab, hl⟩ := h.tb
 refine ⟨by rw [<- whw]; exact zay, hj, by rw [List.length_append, List.length_append, h.len]; rfl, h.no, by show o < τ.next; omega, ⟨fun a => if a < τ0.next then lab a else if a = τ0.next then (db.length, none) else (db.length, new a), fun i hi hi2 => ?_⟩⟩
 by_cases e : i < db.length
 ·have e2 : i < xs.length := by rw [h.len]; exact e
  rw [yap e2, yap e]
  refine (hl i e2 e).frame (fun w a ha => ⟨?_, ha.2.1, by show a < τ.next; have := ha.2.2.1; omega, ha.2.2.2⟩) fun w a ha => (if_neg ha.2.2.2).trans (k.old a ha.2.2.1)
  show (if a < τ0.next then lab a else _) = _
  rw [if_pos ha.2.2.1]
  exact ha.1
 ·have hie : i = db.length := by simp at hi2; omega
  subst hie
  have e1 : (db ++ [(⟨rows⟩ : Data)])[db.length]'hi2 = ⟨rows⟩ := by rw [List.getElem_append_right (Nat.le_refl _)]; simp
  have e2 : (xs ++ [vec τ0.next v (ps.map encP) junk2])[db.length]'hi = vec τ0.next v (ps.map encP) junk2 := by rw [List.getElem_append_right (by rw [h.len]; exact Nat.le_refl _)]; simp [h.len]
  rw [e1, e2]
  refine .sl _ ps _ v junk2 k.rows ((if_neg (by omega)).trans k.get) k.jk ⟨?_, hn, hlt, by omega⟩ fun p hp => ?_
  ·show (if τ0.next < τ0.next then _ else if τ0.next = τ0.next then _ else _) = _
   rw [if_neg (Nat.lt_irrefl _), if_pos rfl]
  ·obtain ⟨h1, h2⟩ := k.vl p hp
   refine ⟨h1.frame fun a ha => if_neg (by have := h2 a ha; omega), fun a ha => ?_⟩
   obtain ⟨h3, h4, h5⟩ := h2 a ha
   refine ⟨?_, by omega, h4, by omega⟩
   show (if a < τ0.next then _ else if a = τ0.next then _ else _) = _
   rw [if_neg (by omega), if_neg (by omega), h5]
set_option maxHeartbeats 1000000 in
theorem zde (db : List Data) (hd : db.length <= 60) (hr : ∀ d ∈ db, d.rows.length <= 60 /\ ∀ r ∈ d.rows, r.vals ≠ [] /\ r.vals.length <= 34359738368) (σ : wa) : Ok Tryz.prog 122 [.c (.fz (db.map jb))] σ (fun r τ => ∃ o vo xs junk, r = .c (vec o vo (cells xs) junk) /\ Kept σ.next σ τ /\ DbT σ.next τ db o vo xs junk) := by
 refine Ok.run0 mixed jdn (yaa rfl) fun hS hA => ?_
 clear hS hA
 repeat' first|refine yaG ?_|((first|apply yG|apply yH|apply yI);exact rfl;(first|exact jl2))|exact yaF|refine yaS ?_ ?_<;>intro _
 refine Go.keep [3, 10, 11, 12] (Go.loops (I := fun m fr τ => ∃ (i : Nat) (k : Int) (vo : Nat) (xs : List Ce) (junk : List (List Ce)), m = db.length - i /\ i <= db.length /\ k = i /\ (Kept σ.next σ τ /\ DbT σ.next τ (db.take i) σ.next vo xs junk) /\
  fr = [(3, .c (vec σ.next vo (cells xs) junk)), (10, .c (.fz (db.map jb))), (11, .c (.int .i64 (db.length : Int))), (12, .c (.int .i64 k))]) ?_ _ _ _ ⟨0, _, 0, [], [], rfl, yae _, rfl, ⟨.new (yak _), ⟨if_pos rfl, Jk.nil, rfl, yak _, yao _, ⟨fun _ => (0, none), fun i h => by cases h⟩⟩⟩, rfl⟩)
 rintro m fr τ ⟨i, k, vo, xs, junk, rfl, hi, hk, ⟨hK, hD⟩, rfl⟩ hrec
 by_cases hlt : i < db.length
 ·obtain ⟨hr1, hr2⟩ := hr _ (yab hlt)
  have hn0 : σ.next <= τ.next := hK.next
  have htk : db.take (i + 1) = db.take i ++ [⟨db[i].rows⟩] := yai hlt
  repeat' first|refine yaG ?_|((first|apply yG|apply yH|apply yI);exact rfl;(first|exact yX (enc := jb) rfl rfl hk hlt rfl|exact jl2))|exact yaF|refine yaS ?_ ?_<;>intro _
  refine Go.keep [3, 6, 10, 11, 12, 18, 19, 20] (Go.loops (I := fun m fr τ' => ∃ (j : Nat) (kj : Int) (v : Nat) (ps : List PRow) (junk2 : List (List Ce)) (new : Nat -> Option Int), m = db[i].rows.length - j /\ j <= db[i].rows.length /\ kj = j /\ wl2 σ.next τ τ' (db[i].rows.take j) τ.next v ps junk2 new /\
   fr = [(3, .c (vec σ.next vo (cells xs) junk)), (6, .c (vec τ.next v (ps.map encP) junk2)), (10, .c (.fz (db.map jb))), (11, .c (.int .i64 (db.length : Int))), (12, .c (.int .i64 k)), (18, .c (.fz (db[i].rows.map jc))), (19, .c (.int .i64 (db[i].rows.length : Int))), (20, .c (.int .i64 kj))]) ?_ _ _ _ ⟨0, _, 0, [], [], fun _ => none, rfl, yae _, rfl, ⟨if_pos rfl, Jk.nil, rfl, yao _, fun p hp => (by cases hp), fun a ha => if_neg (by omega), .new hn0⟩, rfl⟩)
  rintro m fr τ1 ⟨j, kj, v, ps, junk2, new, rfl, hj, hkj, hT, rfl⟩ hrecj
  have hn1 : τ.next <= τ1.next := hT.kept.next
  have hn2 : σ.next <= τ1.next := yah hn0 hn1
  have hpl : ps.length <= 60 := by
   have h1 := congrArg List.length hT.rows
   rw [yag, yas] at h1
   omega
  by_cases hltj : j < db[i].rows.length
  ·obtain ⟨hv0, hvl⟩ := hr2 _ (yab hltj)
   have cm := jaq db[i].rows[j].vals hv0 hvl τ1
   have htj : db[i].rows.take (j + 1) = db[i].rows.take j ++ [db[i].rows[j]] := yai hltj
   clear hrec hr
   repeat' first|apply Go.seq|apply Go.skip|apply Go.region|apply Go.nil|apply Go.block|apply Go.blk|apply Go.segs|(apply Go.exit;exact rfl)|(apply Go.cond true;exact rfl)|(apply Go.cond false;exact rfl)|apply yB|apply yC|((first|apply yD|apply yE);(first|exact yF|assumption);iterate 6 exact rfl)|((first|apply yG|apply yH|apply yI);exact rfl;(first|exact yJ|exact yK rfl rfl|exact yL rfl|exact yM rfl|exact rfl|exact aL rfl rfl rfl rfl rfl|exact aS rfl rfl rfl rfl rfl rfl rfl|exact yX (enc := jc) rfl rfl hkj hltj rfl))|((first|apply yN|apply yO|apply yP);exact rfl)|exact yaF|(((first|apply yT|apply yU|apply yV|apply yW);exact rfl;(first|exact .d|exact .e|exact .n|((fail_if_success exact bqt);(fail_if_success exact bqf);exact .b)))<;>intro _)
   apply Go.draw
   refine Go.qd ?_
   repeat' first|(apply yA;exact rfl)|(apply Go.qd)|apply Qc.nil|(apply Qc.op;exact rfl;(first|exact fun _ => rfl|exact fun _ => yM rfl))|(apply Qc.no;exact rfl)|((first|apply yD|apply yE);(first|exact yF|assumption);iterate 6 exact rfl)|((first|apply yG|apply yH);exact rfl;(first|exact yJ|exact yK rfl rfl|exact yL rfl|exact yM rfl|exact rfl|exact aL rfl rfl rfl rfl rfl|exact aS rfl rfl rfl rfl rfl rfl rfl))|((first|apply yN|apply yO);exact rfl)|exact yaF|(((first|apply yT|apply yU|apply yV|apply yW);exact rfl;(first|exact .d|exact .e|exact .n|((fail_if_success exact bqt);(fail_if_success exact bqf);exact .b)))<;>intro _)
   refine .call _ rfl rfl rfl cm ?_
   rintro r9 τ9 ⟨v9, junk9, hj9, hr9, ht9⟩
   rw [hr9, ht9]
   clear hr9 ht9 cm
   repeat' first|(apply yA;exact rfl)|(apply Go.qd)|apply Qc.nil|(apply Qc.op;exact rfl;(first|exact fun _ => rfl|exact fun _ => yM rfl))|(apply Qc.no;exact rfl)|((first|apply yD|apply yE);(first|exact yF|assumption);iterate 6 exact rfl)|((first|apply yG|apply yH);exact rfl;(first|exact yJ|exact yK rfl rfl|exact yL rfl|exact yM rfl|exact rfl|exact aL rfl rfl rfl rfl rfl|exact aS rfl rfl rfl rfl rfl rfl rfl))|((first|apply yN|apply yO);exact rfl)|exact yaF|(((first|apply yT|apply yU|apply yV|apply yW);exact rfl;(first|exact .d|exact .e|exact .n|((fail_if_success exact bqt);(fail_if_success exact bqf);exact .b)))<;>intro _)
   have hg2 : (E τ1 [(v9, db[i].rows[j].vals.map encV ++ junk9)]).get τ.next = some (v, ps.map encP ++ junk2) := (E_lt hT.lt).trans hT.get
   have hbd : ((ps.map encP).length + 1) * 32 <= 140737488355328 := by rw [yag]; omega
   repeat' first|refine yaG ?_|(apply Go.sappO;exact rfl;exact rfl;exact rfl;exact hg2;exact zfl;exact hT.jk;exact rfl;exact hbd;intro v' junk' hj')|exact yaF|refine yaS ?_ ?_<;>intro _
   have hfin := hT.push hn0 db[i].rows[j] (v9 := v9) (v' := v') hj9 hj'
   rw [<- htj] at hfin
   have e1 : ps.map encP ++ [jh (jh [Ce.int .i64 0, Ce.nils] 0 [Ce.int .i64 db[i].rows[j].id]) 1 [vec (τ1.next + 0) v9 (db[i].rows[j].vals.map encV) junk9]] = (ps ++ [(db[i].rows[j], vec (τ1.next + 0) v9 (db[i].rows[j].vals.map encV) junk9)]).map encP := by
    rw [yaq]
    rfl
   have e2 : ps.map encP ++ [[.int .i64 db[i].rows[j].id, vec (τ1.next + 0) v9 (db[i].rows[j].vals.map encV) junk9]] = (ps ++ [(db[i].rows[j], vec (τ1.next + 0) v9 (db[i].rows[j].vals.map encV) junk9)]).map encP := by
    rw [yaq]
    rfl
   rw [e2] at hfin
   rw [e1]
   exact Go.keep [3, 6, 10, 11, 12, 18, 19, 20] (hrecj _ _ _ (by omega) ⟨j + 1, _, v', _, junk', _, rfl, hltj, wb hkj (by omega), hfin, rfl⟩)
  ·have hje : j = db[i].rows.length := by omega
   subst hje
   rw [yan (yak _)] at hT
   clear hrecj
   have hxl : xs.length <= 60 := by
    have := hD.len
    rw [yas] at this
    omega
   have hg : τ1.get σ.next = some (vo, cells xs ++ junk) := (hT.old _ hD.lo).trans hD.get
   have hcl : ∀ q ∈ cells xs, q.length = 1 := fun q hq => by
    obtain ⟨x, _, rfl⟩ := List.mem_map.1 hq
    rfl
   have hbd : ((cells xs).length + 1) * 24 <= 140737488355328 := by rw [cells, yag]; omega
   repeat' first|refine yaG ?_|(apply Go.appO;exact rfl;exact rfl;exact rfl;exact hg;exact hcl;exact hD.jk;exact rfl;exact hbd;intro v' junk' hj')|exact yaF|refine yaS ?_ ?_<;>intro _
   have hfin := hD.push (vo' := v') hT hn0 hj'
   rw [<- htk] at hfin
   have hcc : cells xs ++ [jh [Ce.nils] 0 [vec τ.next v (ps.map encP) junk2]] = cells (xs ++ [vec τ.next v (ps.map encP) junk2]) := whw
   have hfin2 : DbT σ.next (τ1.put σ.next (v', cells xs ++ [jh [Ce.nils] 0 [vec τ.next v (ps.map encP) junk2]] ++ junk')) (db.take (i + 1)) σ.next v' (xs ++ [vec τ.next v (ps.map encP) junk2]) junk' := hfin
   rw [hcc] at hfin2 ⊢
   exact Go.keep [3, 10, 11, 12] (hrec _ _ _ (by omega) ⟨i + 1, _, v', _, junk', rfl, hlt, wb hk (by omega), ⟨hK.trans (hT.kept.trans (.put (yak _))), hfin2⟩, rfl⟩)
 ·repeat' first|refine yaG ?_|exact yaF|refine yaS ?_ ?_<;>intro _
  rw [yan (by omega)] at hD
  exact .ret rfl ⟨_, _, _, _, rfl, hK, hD⟩
theorem zew : ∀ {l pre : List zd}, z4 pre l = true -> (∀ t ∈ l, ∀ u ∈ pre, u.name ≠ t.name) /\ l.Pairwise (fun a b => a.name ≠ b.name)
 | [], _, _ => ⟨fun t h => (by cases h), .nil⟩
 | a :: r, pre, h => by
  simp only [z4, Bool.and_eq_true, Bool.not_eq_true'] at h
  obtain ⟨⟨h1, h2⟩, h3⟩ := h
  obtain ⟨g1, g2⟩ := zew h3
  refine ⟨fun t ht u hu => ?_, .cons (fun t ht => ?_) g2⟩
  ·rcases List.mem_cons.1 ht with rfl | ht
   ·rw [ybl] at h2
    have := h2 u hu
    intro e
    exact this (beq_iff_eq.2 e)
   ·exact g1 t ht u (List.mem_append_left _ hu)
  ·exact g1 t ht a (List.mem_append_right _ (List.mem_singleton.2 rfl))
theorem zhx : ∀ {l pre : List Col}, wai pre l = true -> ∀ c ∈ l, zr c.dflt = true
 | [], _, _, c, hc => by cases hc
 | a :: r, pre, h, c, hc => by
  simp only [wai, wej, jgn, Bool.and_eq_true] at h
  rcases List.mem_cons.1 hc with rfl | hc
  ·exact h.1.1.2.2.1
  ·exact zhx h.2 c hc
theorem schG {s : List zd} (h : ww s = true) (hb : ∀ t ∈ s, zac 34359738368 t) : SchG s := by
 obtain ⟨h1, h2, h3⟩ := zdc.1 h
 have hT := ja3 h2
 have hD := (zew h2).2
 have hM : ∀ t ∈ s, ∀ f ∈ t.fks, metF s t f = true := fun t ht f hf => by
  rw [ybl] at h3
  have h4 := h3 t ht
  rw [Bool.not_eq_true, ybl] at h4
  have h5 := h4 f hf
  simpa using h5
 have hR : ∀ t ∈ s, ∀ f ∈ t.fks, ∃ n, ∃ hn : n < s.length, wlx s f = (n : Int) /\ s[n].name = f.table /\ s[n].key.length = f.cols.length := fun t ht f hf => by
  have h4 := hM t ht f hf
  rcases wd0 (fun u : zd => u.name == f.table) s 0 with ⟨h5, _⟩ | ⟨k, hk, h5, h6⟩
  ·rw [jj7 h5] at h4
   cases h4
  ·have h7 : idxA (fun u : zd => u.name == f.table) s 0 = (k : Int) := by rw [h5]; omega
   rw [zim h7 hk, wil, yat, decide_eq_true_eq] at h4
   exact ⟨k, hk, h7, by simpa using List.find?_some h6, h4.1⟩
 refine ⟨by omega, fun t ht => ?_, hb, fun t ht f hf => ?_, fun t ht f hf n hn he => ?_, zgx h, fun t ht => ?_⟩
 ·have := (zu.1 (hT t ht)).2.2.1
  rw [wbk, yat, decide_eq_true_eq] at this
  omega
 ·obtain ⟨n, hn, h4, _⟩ := hR t ht f hf
  exact ⟨n, hn, h4⟩
 ·obtain ⟨m, hm, _, h5, h6⟩ := hR t ht f hf
  have h7 := List.pairwise_iff_getElem.1 hD
  rcases Nat.lt_trichotomy n m with h | h | h
  ·exact absurd (he.symm.trans h5.symm) (h7 n m hn hm h)
  ·subst h
   exact h6.symm
  ·exact absurd (h5.trans he) (h7 m n hm hn h)
 ·exact zhx (zu.1 (hT t ht)).2.2.2.2.2.2.1
theorem dbG {s : List zd} {db : List Data} (h : dbF s db = true) {I : Nat -> Int -> Prop} (hI : ∀ i (h : i < db.length), ∀ r ∈ db[i].rows, I i r.id) : DbG I s db := by
 obtain ⟨h1, h2, h3⟩ := jji h
 refine ⟨h2, fun i hi hi2 => ?_⟩
 have h4 := h3 i hi hi2
 obtain ⟨h5, h6⟩ := wji h4
 have hc := (zgx h1 _ (yab hi)).cols8
 exact ⟨h5, hI i hi2, zk5 h4, fun r hr => ⟨(wck (h6 r hr).1).1, zfk (h6 r hr).1 hc⟩⟩
theorem zl3 {I : Nat -> Int -> Prop} {s : List zd} (hs : SchG s) {db : List Data} (h : DbG I s db) : db.length <= 5 /\ (∀ d ∈ db, zbl 34359738368 d) /\ ∀ d ∈ db, Rise d.rows /\ d.rows.length <= 60 /\ ∀ r ∈ d.rows, r.vals ≠ [] /\ r.vals.length <= 8 /\ ∀ w ∈ r.vals, bV 12 w := by
 have h5 := hs.few
 have hl := h.len
 have key : ∀ d ∈ db, Rise d.rows /\ d.rows.length <= 60 /\ ∀ r ∈ d.rows, r.vals ≠ [] /\ r.vals.length <= 8 /\ ∀ w ∈ r.vals, bV 12 w := fun d hd => by
  obtain ⟨i, hi, rfl⟩ := List.getElem_of_mem hd
  have hi2 : i < s.length := by omega
  have hr := h.rows i hi2 hi
  have ht := hs.tab _ (yab hi2)
  refine ⟨hr.rise, hr.len, fun r hm => ?_⟩
  obtain ⟨f1, f2⟩ := hr.fit r hm
  have f3 := (je.1 f2).2
  have := ht.cols0
  have := ht.cols8
  refine ⟨fun e => by rw [e] at f1; simp at f1; omega, by omega, fun w hw => ?_⟩
  have := f3 w hw
  simp only [zr, Bool.or_eq_true, Bool.and_eq_true, beq_iff_eq, decide_eq_true_eq] at this
  rw [bV]
  rcases this with (⟨_, h⟩ | ⟨_, h⟩) | ⟨_, h⟩
  ·rw [h]; simp
  ·rw [h]; simp
  ·omega
 refine ⟨by omega, fun d hd => ⟨by have := (key d hd).2.1; omega, fun r hr => ?_⟩, key⟩
 obtain ⟨_, k2, k3⟩ := (key d hd).2.2 r hr
 exact ⟨by omega, fun w hw => by have := k3 w hw; rw [bV] at this ⊢; omega⟩
def topR (db : List Data) (q : Res) : List Data × Int := if q.2 = 0 then (q.1, 0) else (db, q.2)
theorem wiq {α : Type} {c : α -> Int} {B : Nat} : ∀ {l : List α}, (∀ x ∈ l, c x <= B) -> cntL c l <= (B * l.length : Nat)
 | [], _ => by simp [cntL]
 | a :: l, h => by
  have h1 := h a (by simp)
  have h2 := wiq (l := l) fun x hx => h x (by simp [hx])
  rw [cntL, List.length_cons, Nat.mul_succ]
  omega
theorem wnn {I : Nat -> Int -> Prop} {s : List zd} (hs : SchG s) {db : List Data} (h : DbG I s db) : db.length <= 34359738368 /\ (∀ x ∈ db, zbl 34359738368 x) /\ 1 + cntL wl db <= 34359738368 := by
 obtain ⟨h1, h2, h3⟩ := zl3 hs h
 refine ⟨by omega, h2, ?_⟩
 have key : ∀ d ∈ db, wl d <= (1500 : Nat) := fun d hd => by
  obtain ⟨_, h4, h5⟩ := h3 d hd
  have hr : ∀ r ∈ d.rows, wj r <= (25 : Nat) := fun r hr => by
   obtain ⟨_, h6, _⟩ := h5 r hr
   rw [wj, cnt3]
   omega
  have h7 := wiq hr
  have h8 : 25 * d.rows.length <= 1500 := by omega
  rw [wl]
  omega
 have h9 := wiq key
 have h10 : 1500 * db.length <= 7500 := by omega
 omega
end Go.Proofs.YtmmgbgpglhbhcaaGreat.Am
namespace Go.Proofs.YtmmgbgpglhbhcaaGreat.Am
variable {I : Nat -> Int -> Prop}

theorem wmw {τ : wa} {fr : Fr} {cs : List Ce} {x : Opd} (hx : x.ev fr = some (.agg cs)) : aop (.box false x) fr τ = some (.c (.ptr τ.next 0 0 0), τ.new (0, [cs])) := by
 simp [aop, hx, AV.cells]
theorem Kept.mono {n m : Nat} {τ τ' : wa} (h : Kept m τ τ') (hn : n <= m) : Kept n τ τ' := ⟨h.next, fun a ha => h.get a (yav ha hn), h.full⟩
theorem DbT.holds {n : Nat} {τ : wa} {s : List zd} {db : List Data} {o vo : Nat} {xs : List Ce} {junk : List (List Ce)} (h : DbT n τ db o vo xs junk) (hn : n <= τ.next) : zz ⟨τ.next, 0, o, vo, junk⟩ n s xs db (τ.new (0, [[.fz (s.map ja), vec o vo (cells xs) junk]])) := by
 have hcl : (cells xs).length = db.length := by rw [cells, yag, h.len]
 have hlo := h.lo
 obtain ⟨lab, hl⟩ := h.tb
 refine ⟨?_, (if_neg (Nat.ne_of_lt hlo)).trans h.get, h.jk, h.len, ⟨lab, fun i h1 h2 => (hl i h1 h2).frame (fun w a ha => ⟨ha.1, ha.2.1, Nat.lt_succ_of_lt ha.2.2.1, Nat.ne_of_lt ha.2.2.1, ha.2.2.2⟩) fun w a ha => if_neg (Nat.ne_of_lt ha.2.2.1)⟩, hn, h.no, by show τ.next ≠ o; omega, yao _, Nat.lt_succ_of_lt hlo⟩
 refine (if_pos rfl).trans ?_
 rw [vec, hcl]
theorem DbT.has {n : Nat} {τ : wa} {db : List Data} {o vo : Nat} {xs : List Ce} {junk : List (List Ce)} (h : DbT n τ db o vo xs junk) (hn : n <= τ.next) (hr : ∀ d ∈ db, Rise d.rows) : Has τ (fun a => n <= a /\ a < τ.next) (.fz (db.map jb)) (vec o vo (cells xs) junk) := by
 have hcl : (cells xs).length = db.length := by rw [cells, yag, h.len]
 have h1 := (h.holds (s := []) hn).has hr
 rw [vec, hcl]
 have hb : ∀ a, (n <= a /\ a < τ.next + 1 /\ a ≠ τ.next) -> n <= a /\ a < τ.next := fun a ha => by omega
 exact (h1.frame fun a ha => (if_neg ha.2.2).symm).mono hb
theorem HasV.two {τ : wa} {S : Nat -> Prop} {y x : Ce} {k : IntKind} {z : Int} (h : Has τ S y x) : HasV τ S (.tup [.c y, .c (.int k z)]) (.tup [.c x, .c (.int k z)]) :=
 HasV.pair (S1 := S) (S2 := fun _ => False) (.c h) (.c (.c (.int _ _))) (fun _ h => h) (fun _ h => h.elim) fun _ _ h => h
theorem wk7 (s : List zd) (db : List Data) (hd : db.length <= 60) (hr : ∀ d ∈ db, d.rows.length <= 60 /\ ∀ r ∈ d.rows, r.vals ≠ [] /\ r.vals.length <= 34359738368) (hrise : ∀ d ∈ db, Rise d.rows) (f : Nat) (pre cap : List Ce) (q : Res) (hq : q.2 = 0 -> ∀ d ∈ q.1, Rise d.rows) (σ : wa)
 (hf : ∀ L xs τ, zz L σ.next s xs db τ -> Ok Tryz.prog f (pre.map .c ++ [.c (.ptr L.c L.vc 0 0)] ++ cap.map .c) τ (Done L σ.next s q τ)) :
 Ok Tryz.prog 49 [.c (.fz (s.map ja)), .c (.fz (db.map jb)), .c (.fn f pre cap)] σ (fun r τ => Kept σ.next σ τ /\ ∃ x, r = .tup [.c x, .c (.int .i64 (topR db q).2)] /\ Has τ (fun a => σ.next <= a /\ a < τ.next) (.fz ((topR db q).1.map jb)) x) := by
 refine Ok.run0 mixed jd8 (yaa rfl) fun hS hA => ?_
 clear hS hA
 repeat' first|refine yaG ?_|exact yaF|refine yaS ?_ ?_<;>intro _
 refine .call _ rfl rfl rfl (zde db hd hr σ) ?_
 rintro r9 τ1 ⟨o, vo, xs, junk, hr9, hK1, hD1⟩
 rw [hr9]
 clear hr9
 have hH := hD1.holds (s := s) hK1.next
 have hK2 : Kept σ.next σ (τ1.new (0, [[.fz (s.map ja), vec o vo (cells xs) junk]])) := hK1.trans (.new hK1.next)
 repeat' first|refine yaG ?_|((first|apply yG|apply yH|apply yI);exact rfl;(first|exact wmw rfl))|exact yaF|refine yaS ?_ ?_<;>intro _
 refine .call _ rfl rfl rfl (hf _ _ _ hH) ?_
 rintro r9 τ2 ⟨hr9, hk2, hq2⟩
 rw [hr9]
 have hK3 := hK2.trans hk2
 by_cases h0 : q.2 = 0
 ·obtain ⟨xs2, hH2⟩ := hq2 h0
  rw [topR, if_pos h0, h0]
  repeat' first|refine yaG ?_|((first|apply yG|apply yH|apply yI);exact rfl;(first|exact wb7 hH2 rfl))|exact yaF|refine yaS ?_ ?_<;>intro _
  exact .ret rfl ⟨hK3, _, rfl, (hH2.has (hq h0)).mono fun a ha => ⟨ha.1, ha.2.1⟩⟩
 ·rw [topR, if_neg h0]
  generalize q.2 = e at h0 ⊢
  repeat' first|refine yaG ?_|exact yaF|refine yaS ?_ ?_<;>intro _
  refine .call _ rfl rfl rfl (zde db hd hr τ2) ?_
  rintro r9 τ3 ⟨o3, vo3, xs3, junk3, hr9, hK4, hD4⟩
  rw [hr9]
  repeat' first|refine yaG ?_|exact yaF|refine yaS ?_ ?_<;>intro _
  exact .ret rfl ⟨hK3.trans (hK4.mono hK3.next), _, rfl, (hD4.has hK4.next hrise).mono fun a ha => ⟨yah hK3.next ha.1, ha.2⟩⟩
end Go.Proofs.YtmmgbgpglhbhcaaGreat.Am
namespace Go.Proofs.YtmmgbgpglhbhcaaGreat.Am
variable {I : Nat -> Int -> Prop}

end Go.Proofs.YtmmgbgpglhbhcaaGreat.Am
namespace Go.Proofs.YtmmgbgpglhbhcaaGreat.Am
abbrev Ins := List Data × Int × Int
def insE (s : List zd) (k : Nat) (vals : List Val) (nx : Int) (db : List Data) : Ins := if ((tabN s k).fks.any fun f => jn s db false vals f) = true then ([], 0, 5) else (db, nx, 0)
def insD (s : List zd) (k : Nat) (vals : List Val) (nx : Int) (db : List Data) : Ins := if (zt db k).length = 60 \/ nx > 1000000000 then ([], 0, 7) else insE s k vals nx (db.set k ⟨zt db k ++ [⟨nx, vals⟩]⟩)
def insC (s : List zd) (k : Nat) (vals : List Val) (nx : Int) (c : Res) : Ins := if c.2 = 0 then insD s k vals nx c.1 else ([], 0, c.2)
def insF (run : Chg -> List Data -> Res) (s : List zd) (k : Nat) (vals : List Val) (rep : Bool) (db : List Data) : Ins :=
 if wbw (tabN s k) vals = 0 then insC s k vals (wcm (zt db k)) (w7 run (tabN s k) k ⟨wcm (zt db k), vals⟩ rep db) else ([], 0, wbw (tabN s k) vals)
def resI (q : Ins) : AV := .tup [.c (if q.2.2 = 0 then .fz (q.1.map jb) else .nils), .c (.int .i64 q.2.1), .c (.int .i64 q.2.2)]
theorem jl3 {e : Int} (h : e ≠ 0) : resI ([], 0, e) = .tup [.c .nils, .c (.int .i64 0), .c (.int .i64 e)] := by rw [resI, if_neg h]
theorem jcr (q : Ins) (n : Nat) : ∀ y ∈ (resI q).all, Old n y := fun y hy => by
 simp only [resI, AV.all, AV.all.allL, List.append_nil, List.mem_append, List.mem_singleton] at hy
 rcases hy with rfl | rfl | rfl
 ·split
  ·exact jal (wbn _)
  ·exact .nils
 ·exact .int _ _
 ·exact .int _ _
def jjn (k : Nat) (nx : Int) : Nat -> Int -> Prop := fun j id => 1 <= id /\ id <= 1000000000 /\ (j = k -> id < nx)
theorem wjn {x : RowD} : ∀ {l : List RowD}, (∀ r ∈ l, r.id < x.id) -> jfh x false l = l ++ [x]
 | [], _ => rfl
 | r :: l, h => by
  have h1 := h r (by simp)
  have h2 := wjn (x := x) (l := l) fun q hq => h q (by simp [hq])
  rw [jfh, decide_eq_false (by omega), if_neg (by simp), if_neg (by omega)]
  simp only [Bool.or_false]
  rw [h2]
  rfl
theorem zdd.mono {Q Q' : Int -> Prop} {t : zd} {l : List RowD} (h : zdd Q t l) (hq : ∀ i, Q i -> Q' i) : zdd Q' t l := ⟨h.len, fun r hr => hq _ (h.ids r hr), h.rise, h.fit⟩
theorem DbG.mono {I I' : Nat -> Int -> Prop} {s : List zd} {db : List Data} (h : DbG I s db) (hI : ∀ k i, I k i -> I' k i) : DbG I' s db := ⟨h.len, fun i h1 h2 => (h.rows i h1 h2).mono (hI i)⟩
def BI : Nat -> Int -> Prop := fun _ id => 1 <= id /\ id <= 1000000000
theorem zir {l : List RowD} (h : ∀ r ∈ l, 1 <= r.id) : 1 <= wcm l := by
 by_cases h0 : 0 < l.length
 ·have hlt : l.length - 1 < l.length := by omega
  have := wfk (l := l) (k := l.length - 1) hlt (by omega)
  have := h _ (yab hlt)
  omega
 ·have : l = [] := yal (by omega)
  subst this
  exact ybf _
theorem zdd.snoc {t : zd} {l : List RowD} {k : Nat} {nx : Int} (h : zdd (jjn k nx k) t l) {x : RowD} (hx : x.id = nx) (h1 : 1 <= nx) (h2 : nx <= 1000000000) (hl : l.length < 60) (hf : x.vals.length = t.cols.length /\ jq x.vals 16 = true) : zdd (BI k) t (l ++ [x]) := by
 refine ⟨by rw [List.length_append, List.length_singleton]; omega, fun r hr => ?_, ?_, fun r hr => ?_⟩
 ·rcases List.mem_append.1 hr with hr | hr
  ·exact ⟨(h.ids r hr).1, (h.ids r hr).2.1⟩
  ·rw [List.mem_singleton.1 hr, hx]
   exact ⟨h1, h2⟩
 ·refine List.pairwise_append.2 ⟨h.rise, List.pairwise_singleton _ _, fun a ha b hb => ?_⟩
  rw [List.mem_singleton.1 hb, hx]
  exact (h.ids a ha).2.2 rfl
 ·rcases List.mem_append.1 hr with hr | hr
  ·exact h.fit r hr
  ·rw [List.mem_singleton.1 hr]
   exact hf
theorem DbG.next {s : List zd} {db : List Data} {k : Nat} {nx : Int} (h : DbG (jjn k nx) s db) : DbG BI s db := h.mono fun _ _ h => ⟨h.1, h.2.1⟩
theorem zno {l : List RowD} (hr : Rise l) : ∀ r ∈ l, r.id < wcm l := fun r hm => by
 obtain ⟨i, hi, rfl⟩ := List.getElem_of_mem hm
 have h1 := wfk (l := l) (k := l.length - 1) (by omega) (by omega)
 rw [h1]
 have h2 := List.pairwise_iff_getElem.1 hr
 by_cases e : i = l.length - 1
 ·subst e
  omega
 ·have := h2 i (l.length - 1) hi (by omega) (by omega)
  omega
set_option maxHeartbeats 2000000 in
theorem zjo {s : List zd} (hs : SchG s) {k : Nat} (hk : k < s.length) (vals0 : List Val) (rep : Bool) (db : List Data) {nx : Int} (hnx : nx = wcm (zt db k)) (h : DbG (jjn k nx) s db) (hl : vals0.length = s[k].cols.length) (hv : jq vals0 16 = true) :
 Pure Tryz.prog 72 [.c (.fz (s.map ja)), .c (.fz (db.map jb)), .c (.int .i64 (k : Int)), .c (.fz (vals0.map encV)), .c (.bool rep)] (resI (insF (chgF s 12) s k (if rep then zk s[k] 0 vals0 else vals0) rep db)) := by
 refine Pure.run mixed jdk (yaa rfl) fun σ hS hA => ?_
 clear hS hA
 have hk2 : k < db.length := by rw [h.len]; exact hk
 have ht := hs.tab _ (yab hk)
 have hb := hs.big _ (yab hk)
 have hR := h.rows k hk hk2
 have cF := zg0 s[k] vals0 hl ht.cols8
 have hvv := whu hs hk hl hv rep
 rw [wg hk2] at hnx
 have cn := jk5 db[k] hR.len fun r hr => ⟨(hR.ids r hr).1, (hR.ids r hr).2.1⟩
 have hn9 : 1 <= nx := by rw [hnx]; exact zir fun r hr => (hR.ids r hr).1
 rw [<- hnx] at cn
 rw [insF, zw hk, wg hk2, <- hnx]
 repeat' first|refine yaG ?_|((first|apply yG|apply yH|apply yI);exact rfl;(first|exact yX (enc := ja) rfl rfl rfl hk rfl))
 refine Go.meet (K' := [_]) (fun fr τ' => ∃ vals, vals = (if rep then zk s[k] 0 vals0 else vals0) /\ fr = [(0, AV.c (.fz (s.map ja))), (1, .c (.fz (db.map jb))), (2, .c (.int .i64 (k : Int))), (3, .c (.fz (vals.map encV))), (4, .c (.bool rep)), (13, .c (.fp (ja s[k])))] /\ τ' = E σ []) ?_ ?_
 ·intro K hrec
  cases rep
  ·repeat' first|refine yaG ?_|exact yaF|refine yaS ?_ ?_<;>intro _
   exact Go.keep [0, 1, 2, 3, 4, 13] (hrec _ _ ⟨_, rfl, rfl, rfl⟩)
  ·repeat' first|refine yaG ?_|refine yaC (cF) ?_|exact yaF|refine yaS ?_ ?_<;>intro _
   exact Go.keep [0, 1, 2, 3, 4, 13] (hrec _ _ ⟨_, rfl, rfl, rfl⟩)
 rintro fr τ' ⟨vals, hve, rfl, rfl⟩
 rw [<- hve] at hvv ⊢
 clear cF hl hv hve
 have ca := zen s[k] vals hvv.1 ht hvv.2
 have cv := zcm vals (yah (je.1 hvv.2).1 (by decide))
 by_cases hab : wbw s[k] vals = 0
 ·rw [hab] at ca
  rw [if_pos hab]
  have hr := wkd (I := jjn k nx) hs 12 1 (by decide) rfl
  have cc := wdd (deep := 0) hs hr hk ⟨nx, vals⟩ hvv.1 rep db h
  have hkc := fun (h2 : (w7 (chgF s 12) s[k] k ⟨nx, vals⟩ rep db).2 = 0) => wbj hr.keeps hk (t := s[k]) (x := ⟨nx, vals⟩) (rep := rep) h h2
  generalize w7 (chgF s 12) s[k] k ⟨nx, vals⟩ rep db = c at cc hkc ⊢
  rw [insC]
  by_cases hc0 : c.2 = 0
  ·rw [z9 hc0] at cc
   rw [if_pos hc0]
   have hdb1 := hkc hc0
   generalize c.1 = db1 at cc hdb1 ⊢
   have hn1 : k < db1.length := by rw [hdb1.len]; exact hk
   have hR1 := hdb1.rows k hk hn1
   rw [insD, wg hn1]
   by_cases hlen : db1[k].rows.length = 60
   ·rw [if_pos (.inl hlen)]
    repeat' first|refine yaG ?_|((first|apply yG|apply yH|apply yI);exact rfl;(first|exact yX (enc := jb) rfl rfl rfl hk2 rfl|exact yX (enc := jb) rfl rfl rfl hn1 rfl))|refine yaC (ca) ?_|refine yaC (cn) ?_|refine yaC (cv) ?_|refine yaC (cc) ?_|exact yaF|refine yaS ?_ ?_<;>intro _
    all_goals first
     |(exfalso; omega)
     | contradiction
     | skip
    exact .ret rfl (Fin.same rfl (jcr ([], 0, 7) _))
   ·by_cases hbig : nx > 1000000000
    ·rw [if_pos (.inr hbig)]
     repeat' first|refine yaG ?_|((first|apply yG|apply yH|apply yI);exact rfl;(first|exact yX (enc := jb) rfl rfl rfl hk2 rfl|exact yX (enc := jb) rfl rfl rfl hn1 rfl))|refine yaC (ca) ?_|refine yaC (cn) ?_|refine yaC (cv) ?_|refine yaC (cc) ?_|exact yaF|refine yaS ?_ ?_<;>intro _
     all_goals first
      |(exfalso; omega)
      | contradiction
      | skip
     all_goals exact .ret rfl (Fin.same rfl (jcr ([], 0, 7) _))
    ·rw [if_neg (fun h => by rcases h with h | h <;> omega)]
     have c4 := wg0 db1[k] ⟨nx, vals⟩ hR1.len
     rw [wjn fun r hr => (hR1.ids r hr).2.2 rfl] at c4
     have c5 := wdz db1 (k : Int) k ⟨db1[k].rows ++ [⟨nx, vals⟩]⟩ rfl hn1 (by rw [hdb1.len]; exact yah hs.few (by decide))
     have hset : DbG BI s (db1.set k ⟨db1[k].rows ++ [⟨nx, vals⟩]⟩) := hdb1.next.set hk (hR1.snoc rfl hn9 (by omega) (by have := hR1.len; omega) hvv)
     generalize db1.set k ⟨db1[k].rows ++ [⟨nx, vals⟩]⟩ = db2 at c5 hset ⊢
     have c9 := jbj s db2 (k : Int) k vals true (yah hs.few (by decide)) rfl hk ht.fk3 (fkR hs hset hk hvv.1)
     have e9 : s[k].fks.any (jn s db2 (!true) vals) = s[k].fks.any fun f => jn s db2 false vals f := rfl
     rw [e9] at c9
     rw [insE, zw hk]
     generalize (s[k].fks.any fun f => jn s db2 false vals f) = B at c9 ⊢
     cases B
     ·rw [if_neg yaj]
      repeat' first|refine yaG ?_|((first|apply yG|apply yH|apply yI);exact rfl;(first|exact yX (enc := jb) rfl rfl rfl hk2 rfl|exact yX (enc := jb) rfl rfl rfl hn1 rfl))|refine yaC (ca) ?_|refine yaC (cn) ?_|refine yaC (cv) ?_|refine yaC (cc) ?_|refine yaC (c4) ?_|refine yaC (c5) ?_|refine yaC (c9) ?_|exact yaF|refine yaS ?_ ?_<;>intro _
      all_goals first
       |(exfalso; omega)
       | contradiction
       | skip
      exact .ret rfl (Fin.same rfl (jcr (db2, nx, 0) _))
     ·rw [if_pos rfl]
      repeat' first|refine yaG ?_|((first|apply yG|apply yH|apply yI);exact rfl;(first|exact yX (enc := jb) rfl rfl rfl hk2 rfl|exact yX (enc := jb) rfl rfl rfl hn1 rfl))|refine yaC (ca) ?_|refine yaC (cn) ?_|refine yaC (cv) ?_|refine yaC (cc) ?_|refine yaC (c4) ?_|refine yaC (c5) ?_|refine yaC (c9) ?_|exact yaF|refine yaS ?_ ?_<;>intro _
      all_goals first
       |(exfalso; omega)
       | contradiction
       | skip
      exact .ret rfl (Fin.same rfl (jcr ([], 0, 5) _))
  ·rw [if_neg hc0]
   obtain ⟨e, he⟩ : ∃ e, c.2 = e := ⟨_, rfl⟩
   rw [he] at hc0
   rw [wae he hc0] at cc
   rw [he]
   repeat' first|refine yaG ?_|((first|apply yG|apply yH|apply yI);exact rfl;(first|exact yX (enc := jb) rfl rfl rfl hk2 rfl))|refine yaC (ca) ?_|refine yaC (cn) ?_|refine yaC (cv) ?_|refine yaC (cc) ?_|exact yaF|refine yaS ?_ ?_<;>intro _
   exact .ret rfl (Fin.same (jl3 hc0).symm (jcr ([], 0, e) _))
 ·rw [if_neg hab]
  generalize wbw s[k] vals = e at ca hab ⊢
  repeat' first|refine yaG ?_|refine yaC (ca) ?_|exact yaF|refine yaS ?_ ?_<;>intro _
  exact .ret rfl (Fin.same (jl3 hab).symm (jcr ([], 0, e) _))
theorem jno {s bytes v : Nat} {ys junk : List (List Ce)} {e : List Ce} (hys : ∀ q ∈ ys, q.length = s) (hj : Jk s junk) (he : e.length = s) (hb : (ys.length + 1) * bytes <= 140737488355328) :
 ∃ v' junk', Jk s junk' /\ ∀ (id : Nat) (τ : wa) (fr : Fr) (x y : Opd), x.ev fr = some (.c (vec id v ys junk)) -> y.ev fr = some (.c (.fz [e])) -> τ.get id = some (v, ys ++ junk) -> aop (.app s bytes x y) fr τ = some (.c (vec id v' (ys ++ [e]) junk'), τ.put id (v', ys ++ [e] ++ junk')) := by
 have hall1 : ∀ q ∈ [e], q.length = s := fun q hq => by rw [List.mem_singleton.1 hq]; exact he
 have hall : ∀ q ∈ ys ++ junk, q.length = s := fun q hq => by
  rcases List.mem_append.1 hq with hq | hq
  ·exact hys q hq
  ·exact (hj q hq).1
 by_cases c : 1 <= junk.length
 ·refine ⟨v, junk.drop 1, fun q hq => hj q (ybi hq), fun id τ fr x y hx hy hg => ?_⟩
  have e2 : jh (ys ++ junk) (0 + ys.length) [e] = ys ++ [e] ++ junk.drop 1 := by
   simp only [jh, Nat.zero_add, List.length_singleton]
   rw [List.take_left' rfl, List.drop_append]
   rw [yad (by omega), Nat.add_sub_cancel_left]
   simp
  have h1 : appA τ s bytes (vec id v ys junk) [e] = some (vec id v (ys ++ [e]) (junk.drop 1), τ.put id (v, ys ++ [e] ++ junk.drop 1)) := by
   unfold appA
   rw [if_pos hall1]
   simp only [vec, hg]
   rw [if_pos ⟨trivial, by simp, by omega, hall⟩, if_pos (by simp only [List.length_singleton]; omega), e2]
   simp only [List.length_append, List.length_singleton, List.length_drop]
   rw [show ys.length + 1 + (junk.length - 1) = ys.length + junk.length by omega]
  simp only [aop, hx, hy, wa.els, Option.bind_some, h1, Option.map_some]
 ·refine ⟨v + 1, [], Jk.nil, fun id τ fr x y hx hy hg => ?_⟩
  have e3 : (List.drop 0 (ys ++ junk)).take ys.length = ys := by rw [List.drop_zero, List.take_left' rfl]
  have h1 : appA τ s bytes (vec id v ys junk) [e] = some (vec id (v + 1) (ys ++ [e]) [], τ.put id (v + 1, ys ++ [e] ++ [])) := by
   unfold appA
   rw [if_pos hall1]
   simp only [vec, hg]
   rw [if_pos ⟨trivial, by simp, by omega, hall⟩, if_neg (by simp only [List.length_singleton]; omega), if_pos (by simpa using hb), e3]
   simp
  simp only [aop, hx, hy, wa.els, Option.bind_some, h1, Option.map_some]
theorem jny {τ : wa} {id : Nat} {b : Nat × List (List Ce)} {l : List (Nat × List (List Ce))} (h : id < τ.next) : E ((E τ []).put id b) l = (E τ l).put id b := by
 refine wa.ext (by show (E τ []).next + l.length = τ.next + l.length; rw [wx]; rfl) fun a => ?_
 by_cases h1 : a < τ.next
 ·rw [E_lt (show a < ((E τ []).put id b).next from h1)]
  show (if a = id then some b else (E τ []).get a) = (if a = id then some b else (E τ l).get a)
  rw [E_lt h1, E_lt h1]
 ·rw [E_ge (show ¬ a < ((E τ []).put id b).next from h1)]
  show _ = (if a = id then some b else (E τ l).get a)
  rw [if_neg (by omega), E_ge h1]
  rfl
theorem wno {L : ChL} {n : Nat} {s : List zd} {xs : List Ce} {db : List Data} {τ : wa} (h : zz L n s xs db τ) {k : Nat} (hk : k < db.length) (hk2 : k < xs.length) (hl : db[k].rows.length <= 60) (hid : ∀ r ∈ db[k].rows, 1 <= r.id /\ r.id <= 1000000000) :
 Ok Tryz.prog 149 [.c (.ptr L.c L.vc 0 0), .c (.int .i64 (k : Int))] τ (fun r τ' => r = .c (.int .i64 (wcm db[k].rows)) /\ τ' = τ) := by
 refine Ok.run0 mixed zb9 (yaa rfl) fun hS hA => ?_
 clear hS hA
 obtain ⟨lab, ps, id2, v2, junk2, hat, hl2⟩ := h.any hk hk2
 have hpl : (ps.map encP).length = db[k].rows.length := by rw [yag, hat.len]
 by_cases h0 : 0 < db[k].rows.length
 ·have hlt : db[k].rows.length - 1 < db[k].rows.length := by omega
  have hz : IntKind.i64.wrap ((db[k].rows.length : Int) - 1) = ((db[k].rows.length - 1 : Nat) : Int) := by rw [jf (by omega) (by omega)]; omega
  have hlast := hid _ (yab hlt)
  have hnx := wfk (l := db[k].rows) (k := db[k].rows.length - 1) hlt (by omega)
  repeat' first|refine yaG ?_|((first|apply yG|apply yH|apply yI);exact rfl;(first|exact wb7 h rfl|exact jd1 h rfl rfl rfl hk|exact wd1 h rfl hk2|exact jd0 h hk hk2 rfl))|exact yaF|refine yaS ?_ ?_<;>intro _
  all_goals first
   |(exfalso; omega)
   | skip
  rw [hat.x]
  repeat' first|refine yaG ?_|((first|apply yG|apply yH|apply yI);exact rfl;(first|exact wd rfl rfl hz (by rw [hpl];exact hlt) hat.get (hat.at hlt) rfl|exact zo rfl hat.get (hat.at hlt) (Nat.zero_lt_succ _)))|exact yaF|refine yaS ?_ ?_<;>intro _
  refine .ret rfl ⟨?_, rfl⟩
  rw [hnx, <- hat.row hlt]
  show AV.c (.int .i64 (IntKind.i64.wrap ((ps[db[k].rows.length - 1]'_).1.id + 1))) = _
  rw [jf (by rw [hat.row hlt]; omega) (by rw [hat.row hlt]; omega)]
 ·have hnil : db[k].rows = [] := yal (by omega)
  repeat' first|refine yaG ?_|((first|apply yG|apply yH|apply yI);exact rfl;(first|exact wb7 h rfl|exact jd1 h rfl rfl rfl hk|exact wd1 h rfl hk2|exact jd0 h hk hk2 rfl))|exact yaF|refine yaS ?_ ?_<;>intro _
  all_goals first
   |(exfalso; omega)
   | skip
  rw [hnil]
  exact .ret rfl ⟨rfl, rfl⟩
theorem zk8 {rows : List RowD} {keys : List (List Int)} {a b : Int} {vals : List Val} (h : ∀ r ∈ rows, r.id ≠ a /\ r.id ≠ b) : jz rows keys a vals = jz rows keys b vals := by
 rw [jz, jz]
 congr 1
 refine List.filter_congr fun r hr => ?_
 obtain ⟨h1, h2⟩ := h r hr
 rw [beq_eq_false_iff_ne.2 h1, beq_eq_false_iff_ne.2 h2]
theorem wl3 {run : Chg -> List Data -> Res} {t : zd} {k : Nat} {a b : Int} {vals : List Val} {rep : Bool} {db : List Data} (h : ∀ r ∈ zt db k, r.id ≠ a /\ r.id ≠ b) : w7 run t k ⟨a, vals⟩ rep db = w7 run t k ⟨b, vals⟩ rep db := by
 rw [w7, w7]
 simp only [zk8 h]
def zn2 (L : ChL) (n : Nat) (s : List zd) (q : Ins) (τ : wa) (r : AV) (τ' : wa) : Prop := r = .tup [.c (.int .i64 q.2.2), .c (.int .i64 q.2.1)] /\ Kept n τ τ' /\ (q.2.2 = 0 -> ∃ xs, zz L n s xs q.1 τ')
set_option maxHeartbeats 4000000 in
theorem zl4 {L : ChL} {n : Nat} {s : List zd} (hs : SchG s) {k : Nat} (hk : k < s.length) (vals0 : List Val) (rep : Bool) (db : List Data) {nx : Int} (hnx : nx = wcm (zt db k)) (xs : List Ce) (τ : wa) (h : zz L n s xs db τ) (hdb : DbG (jjn k nx) s db) (hl : vals0.length = s[k].cols.length) (hv : jq vals0 16 = true) :
 Ok Tryz.prog 74 [.c (.ptr L.c L.vc 0 0), .c (.int .i64 (k : Int)), .c (.fz (vals0.map encV)), .c (.bool rep)] τ (zn2 L n s (insF (chgF s 12) s k (if rep then zk s[k] 0 vals0 else vals0) rep db) τ) := by
 refine Ok.run0 mixed zbt (yaa rfl) fun hS hA => ?_
 clear hS hA
 have hk2 : k < db.length := by rw [hdb.len]; exact hk
 have hk3 : k < xs.length := by rw [h.len]; exact hk2
 have ht := hs.tab _ (yab hk)
 have hb := hs.big _ (yab hk)
 have hR := hdb.rows k hk hk2
 have hne : ∀ {l : List Val}, l.length = s[k].cols.length -> l ≠ [] := fun h1 h0 => by
  rw [h0] at h1
  have := ht.cols0
  simp at h1
  omega
 have cF := wjm s[k] vals0 hl (hne hl) ht.cols8
 have hvv := whu hs hk hl hv rep
 rw [wg hk2] at hnx
 have hn9 : 1 <= nx := by rw [hnx]; exact zir fun r hr => (hR.ids r hr).1
 rw [insF, zw hk, wg hk2, <- hnx]
 have hn0 : τ.next <= τ.next := yak _
 repeat' first|refine yaG ?_|((first|apply yG|apply yH|apply yI);exact rfl;(first|exact zd1 h rfl|exact yX (enc := ja) rfl rfl rfl hk rfl))
 refine Go.meet (K' := [_]) (fun fr τ' => τ' = τ /\ ∃ vals, vals = (if rep then zk s[k] 0 vals0 else vals0) /\ fr = [(0, AV.c (.ptr L.c L.vc 0 0)), (1, .c (.int .i64 (k : Int))), (2, .c (.fz (vals.map encV))), (3, .c (.bool rep)), (10, .c (.fp (ja s[k])))]) ?_ ?_
 ·intro K hrec
  cases rep
  ·repeat' first|refine yaG ?_|exact yaF|refine yaS ?_ ?_<;>intro _
   exact Go.keep [0, 1, 2, 3, 10] (hrec _ _ ⟨rfl, _, rfl, rfl⟩)
  ·repeat' first|refine yaG ?_|refine yaC (cF) ?_|exact yaF|refine yaS ?_ ?_<;>intro _
   exact Go.keep [0, 1, 2, 3, 10] (hrec _ _ ⟨rfl, _, rfl, rfl⟩)
 rintro fr τ' ⟨hτ, vals, hve, rfl⟩
 rw [hτ]
 rw [<- hve] at hvv ⊢
 clear cF hl hv hve hτ
 have ca := jhw s[k] vals hvv.1 ht hb
 by_cases hab : wbw s[k] vals = 0
 ·rw [hab] at ca
  rw [if_pos hab]
  repeat' first|refine yaG ?_|refine yaC (ca) ?_|exact yaF|refine yaS ?_ ?_<;>intro _
  clear ca
  have cn := wno h hk2 hk3 hR.len fun r hr => ⟨(hR.ids r hr).1, (hR.ids r hr).2.1⟩
  rw [<- hnx] at cn
  refine .call _ rfl rfl rfl cn ?_
  rintro r9 τ9 ⟨hr9, ht9⟩
  rw [hr9, ht9]
  clear hr9 ht9 cn
  have hr := wl1 (I := jjn k nx) (L := L) (n := n) hs 12 1 (by decide) rfl
  have cc := jkn (deep := 0) hs hr hk 0 vals hvv.1 rep db xs τ h hdb
  rw [wl3 (b := nx) fun r hm => by
   rw [wg hk2] at hm
   have h1 := hR.ids r hm
   exact ⟨fun e => by have := h1.1; omega, fun e => by have := h1.2.2 rfl; omega⟩] at cc
  have hkc := fun (h2 : (w7 (chgF s 12) s[k] k ⟨nx, vals⟩ rep db).2 = 0) => wbj hr.keeps hk (t := s[k]) (x := ⟨nx, vals⟩) (rep := rep) hdb h2
  generalize w7 (chgF s 12) s[k] k ⟨nx, vals⟩ rep db = c at cc hkc ⊢
  repeat' first|refine yaG ?_|exact yaF|refine yaS ?_ ?_<;>intro _
  refine .call _ rfl rfl rfl cc ?_
  rintro r9 τ1 ⟨hr9, hk1, hq1⟩
  rw [hr9]
  clear cc hr9
  rw [insC]
  by_cases hc0 : c.2 = 0
  ·obtain ⟨xs1, hH1⟩ := hq1 hc0
   have hdb1 := hkc hc0
   rw [if_pos hc0, hc0]
   generalize c.1 = db1 at hdb1 hH1 ⊢
   clear hkc hq1
   have hn1 : k < db1.length := by rw [hdb1.len]; exact hk
   have hn2 : k < xs1.length := by rw [hH1.len]; exact hn1
   have hR1 := hdb1.rows k hk hn1
   rw [insD, wg hn1]
   have hlen60 := hR1.len
   by_cases hlen : db1[k].rows.length = 60
   ·rw [if_pos (.inl hlen)]
    repeat' first|refine yaG ?_|((first|apply yG|apply yH|apply yI);exact rfl;(first|exact wb7 hH1 rfl|exact jd1 hH1 rfl rfl rfl hn1|exact wd1 hH1 rfl hn2|exact jd0 hH1 hn1 hn2 rfl))|exact yaF|refine yaS ?_ ?_<;>intro _
    all_goals first
     |(exfalso; omega)
     | skip
    all_goals exact .ret rfl ⟨rfl, hk1, fun h => by cases h⟩
   ·by_cases hbig : nx > 1000000000
    ·rw [if_pos (.inr hbig)]
     repeat' first|refine yaG ?_|((first|apply yG|apply yH|apply yI);exact rfl;(first|exact wb7 hH1 rfl|exact jd1 hH1 rfl rfl rfl hn1|exact wd1 hH1 rfl hn2|exact jd0 hH1 hn1 hn2 rfl))|exact yaF|refine yaS ?_ ?_<;>intro _
     all_goals first
      |(exfalso; omega)
      | skip
     all_goals exact .ret rfl ⟨rfl, hk1, fun h => by cases h⟩
    ·rw [if_neg (fun h => by rcases h with h | h <;> omega)]
     have hset : DbG BI s (db1.set k ⟨db1[k].rows ++ [⟨nx, vals⟩]⟩) := hdb1.next.set hk (hR1.snoc rfl hn9 (by omega) (by omega) hvv)
     obtain ⟨lab2, ps2, id2, v2, junk2, hat, hl2⟩ := hH1.any hn1 hn2
     obtain ⟨_, q1, q2, q3, q4⟩ := hat.own
     repeat' first|apply Go.seq|apply Go.skip|apply Go.region|apply Go.nil|apply Go.block|apply Go.blk|apply Go.segs|(apply Go.exit;exact rfl)|(apply Go.cond true;exact rfl)|(apply Go.cond false;exact rfl)|apply yB|apply yC|((first|apply yD|apply yE);(first|exact yF|assumption);iterate 6 exact rfl)|((first|apply yG|apply yH|apply yI);exact rfl;(first|exact yJ|exact yK rfl rfl|exact yL rfl|exact yM rfl|exact rfl|exact aL rfl rfl rfl rfl rfl|exact aS rfl rfl rfl rfl rfl rfl rfl|exact wb7 hH1 rfl|exact jd1 hH1 rfl rfl rfl hn1|exact wd1 hH1 rfl hn2|exact jd0 hH1 hn1 hn2 rfl))|((first|apply yN|apply yO|apply yP);exact rfl)|exact yaF|(((first|apply yT|apply yU|apply yV|apply yW);exact rfl;(first|exact .d|exact .e|exact .n|((fail_if_success exact bqt);(fail_if_success exact bqf);exact .b)))<;>intro _)
     all_goals first
      |(exfalso; omega)
      | skip
     apply Go.draw
     refine .old fun _ hSt => ?_
     have hE0 : (E τ1 []).put id2 (v2, ps2.map encP ++ junk2) = τ1 := by rw [wkr hSt, ziq hat.get]
     refine Go.ext ?_ hE0
     have hcS : ∀ a b, ((E τ1 a).put id2 b).get L.c = some (L.vc, [[.fz (s.map ja), .sl L.d L.vd 0 db1.length (db1.length + L.junk.length)]]) := fun a b => (if_neg (Ne.symm q3)).trans ((E_lt hH1.lc).trans hH1.c)
     have hdS : ∀ a b, ((E τ1 a).put id2 b).get L.d = some (L.vd, cells xs1 ++ L.junk) := fun a b => (if_neg (Ne.symm q4)).trans ((E_lt hH1.ld).trans hH1.d)
     have o1 : ∀ (a : List (Nat × List (List Ce))) (b : Nat × List (List Ce)) (fr : Fr) (x : Opd), x.ev fr = some (.c (.ptr L.c L.vc 0 1)) -> aop (.load false 1 x) fr ((E τ1 a).put id2 b) = some (.c (.sl L.d L.vd 0 db1.length (db1.length + L.junk.length)), (E τ1 a).put id2 b) := fun a b fr x hx => zo hx (hcS a b) rfl (yao _)
     have o2 : ∀ (a : List (Nat × List (List Ce))) (b : Nat × List (List Ce)) (fr : Fr) (x y : Opd), x.ev fr = some (.c (.sl L.d L.vd 0 db1.length (db1.length + L.junk.length))) -> y.ev fr = some (.c (.int .i64 (k : Int))) -> aop (.iaddr 1 x y) fr ((E τ1 a).put id2 b) = some (.c (.ptr L.d L.vd (0 + k) 0), (E τ1 a).put id2 b) := fun a b fr x y hx hy => wd hx hy rfl hn1 (hdS a b) (jao hn2) rfl
     have o3 : ∀ (a : List (Nat × List (List Ce))) (b : Nat × List (List Ce)) (fr : Fr) (x : Opd), x.ev fr = some (.c (.ptr L.d L.vd (0 + k) 0)) -> aop (.load false 1 x) fr ((E τ1 a).put id2 b) = some (.c xs1[k], (E τ1 a).put id2 b) := fun a b fr x hx => zo hx (hdS a b) (jao hn2) (yao _)
     refine Go.qxd (fun a b => (E τ1 a).put id2 b) (fun _ => True) [] (v2, ps2.map encP ++ junk2) (fun a b b' h => Option.some.inj (zay.symm.trans ((congrArg (fun σ => σ.get id2) h).trans zay))) trivial ?_
     repeat' first|(apply Qx.op;exact rfl;(first|exact fun a b _ => o1 a b _ _ rfl|exact fun a b _ => o2 a b _ _ _ rfl rfl|exact fun a b _ => o3 a b _ _ rfl|exact fun _ _ _ => rfl))
     refine Qx.call (fun r a' => ∃ v9 junk9, Jk 3 junk9 /\ r = .c (vec (τ1.next + 0) v9 (vals.map encV) junk9) /\ a' = [(v9, vals.map encV ++ junk9)]) rfl rfl rfl (fun b _ => (jaq vals (hne hvv.1) (yah (je.1 hvv.2).1 (by decide)) ((E τ1 []).put id2 b)).mono ?_) ?_
     ·rintro r τ9 ⟨v9, junk9, hj9, hr9, ht9⟩
      exact ⟨_, ⟨v9, junk9, hj9, hr9, rfl⟩, by rw [ht9, jny q2]⟩
     rintro r a' ⟨v9, junk9, hj9, hr9, ha9⟩
     rw [hr9, ha9]
     have hbd : ((ps2.map encP).length + 1) * 32 <= 140737488355328 := by rw [yag, hat.len]; omega
     obtain ⟨v', junk', hj', hap⟩ := jno (bytes := 32) (v := v2) (e := [.int .i64 nx, vec (τ1.next + 0) v9 (vals.map encV) junk9]) (zfl (ps := ps2)) hat.jk rfl hbd
     repeat' first|(apply Qx.op;exact rfl;exact fun _ _ _ => rfl)
     refine .wop (v := .c (vec id2 v' (ps2.map encP ++ [[.int .i64 nx, vec (τ1.next + 0) v9 (vals.map encV) junk9]]) junk')) (b' := (v', ps2.map encP ++ [[.int .i64 nx, vec (τ1.next + 0) v9 (vals.map encV) junk9]] ++ junk')) rfl rfl (fun a => ?_) trivial ?_
     ·rw [hap id2 ((E τ1 a).put id2 (v2, ps2.map encP ++ junk2)) _ _ _ (by rw [<- hat.x]; rfl) rfl zay, zl0]
     refine .nil ?_
     have e1 : ps2.map encP ++ [[.int .i64 nx, vec (τ1.next + 0) v9 (vals.map encV) junk9]] = (ps2 ++ [((⟨nx, vals⟩ : RowD), vec (τ1.next + 0) v9 (vals.map encV) junk9)]).map encP := by
      rw [yaq]
      rfl
     rw [e1]
     have hH2 : zz L n s (xs1.set k (vec id2 v' ((ps2 ++ [((⟨nx, vals⟩ : RowD), vec (τ1.next + 0) v9 (vals.map encV) junk9)]).map encP) junk')) (db1.set k ⟨db1[k].rows ++ [⟨nx, vals⟩]⟩) (((E τ1 [(v9, vals.map encV ++ junk9)]).put id2 (v', (ps2 ++ [((⟨nx, vals⟩ : RowD), vec (τ1.next + 0) v9 (vals.map encV) junk9)]).map encP ++ junk')).put L.d (L.vd, (cells xs1 ++ L.junk).set (0 + k) [vec id2 v' ((ps2 ++ [((⟨nx, vals⟩ : RowD), vec (τ1.next + 0) v9 (vals.map encV) junk9)]).map encP) junk'])) := by
      have hng : ∀ {a : Nat}, a < τ1.next -> a ≠ id2 -> a ≠ L.d -> (((E τ1 [(v9, vals.map encV ++ junk9)]).put id2 (v', (ps2 ++ [((⟨nx, vals⟩ : RowD), vec (τ1.next + 0) v9 (vals.map encV) junk9)]).map encP ++ junk')).put L.d (L.vd, (cells xs1 ++ L.junk).set (0 + k) [vec id2 v' ((ps2 ++ [((⟨nx, vals⟩ : RowD), vec (τ1.next + 0) v9 (vals.map encV) junk9)]).map encP) junk'])).get a = τ1.get a := fun ha h1 h2 => (if_neg h2).trans ((if_neg h1).trans (E_lt ha))
      have hld := hH1.ld
      refine hH1.upd hl2 hn2 (new := fun _ => some nx) (by show τ1.next <= τ1.next + 1; omega) (fun a ha hne hno => hng ha (fun e => hno ⟨none, by rw [e]; exact hat.own⟩) hne) ?_ ?_
      ·rw [wjl hn2]
       exact zay
      ·refine .sl _ _ id2 v' junk' ?_ ((if_neg q4).trans zay) hj' (.inl hat.own) fun p hp => ?_
       ·rw [yaq, hat.rows]
        rfl
       ·rcases List.mem_append.1 hp with hm | hm
        ·exact ⟨(hat.vl p hm).1.frame fun a ha => hng ((hat.vl p hm).2 a ha).2.2.1 (hat.ne hm ha) ((hat.vl p hm).2 a ha).2.2.2.2, fun a ha => .inl ((hat.vl p hm).2 a ha)⟩
        ·rw [List.mem_singleton.1 hm]
         refine ⟨.sl vals _ v9 junk9 ((if_neg (by omega)).trans ((if_neg (by omega)).trans ?_)) hj9, fun a ha => .inr ?_⟩
         ·rw [E_at]
          rfl
         ·cases ha
          exact ⟨yak _, by show τ1.next + 0 < τ1.next + 1; omega, rfl⟩
     have hK2 : Kept n τ1 (((E τ1 [(v9, vals.map encV ++ junk9)]).put id2 (v', (ps2 ++ [((⟨nx, vals⟩ : RowD), vec (τ1.next + 0) v9 (vals.map encV) junk9)]).map encP ++ junk')).put L.d (L.vd, (cells xs1 ++ L.junk).set (0 + k) [vec id2 v' ((ps2 ++ [((⟨nx, vals⟩ : RowD), vec (τ1.next + 0) v9 (vals.map encV) junk9)]).map encP) junk'])) := ((Kept.ofE hH1.le _).trans (.put q1)).trans (.put hH1.nd)
     repeat' first|apply Go.seq|apply Go.skip|apply Go.region|apply Go.nil|apply Go.block|apply Go.blk|apply Go.segs|(apply Go.exit;exact rfl)|(apply Go.cond true;exact rfl)|(apply Go.cond false;exact rfl)|apply yB|apply yC|((first|apply yD|apply yE);(first|exact yF|assumption);iterate 6 exact rfl)|((first|apply yG|apply yH|apply yI);exact rfl;(first|exact yJ|exact yK rfl rfl|exact yL rfl|exact yM rfl|exact rfl|exact aL rfl rfl rfl rfl rfl|exact aS rfl rfl rfl rfl rfl rfl rfl|exact wd rfl rfl rfl hn1 (hdS _ _) (jao hn2) rfl|exact wi rfl rfl (hdS _ _) (jao hn2) (yao _)))|((first|apply yN|apply yO|apply yP);exact rfl)|exact yaF|(((first|apply yT|apply yU|apply yV|apply yW);exact rfl;(first|exact .d|exact .e|exact .n|((fail_if_success exact bqt);(fail_if_success exact bqf);exact .b)))<;>intro _)
     obtain ⟨τ2, hτ2⟩ : ∃ τ2, τ2 = (((E τ1 [(v9, vals.map encV ++ junk9)]).put id2 (v', (ps2 ++ [((⟨nx, vals⟩ : RowD), vec (τ1.next + 0) v9 (vals.map encV) junk9)]).map encP ++ junk')).put L.d (L.vd, (cells xs1 ++ L.junk).set (0 + k) [vec id2 v' ((ps2 ++ [((⟨nx, vals⟩ : RowD), vec (τ1.next + 0) v9 (vals.map encV) junk9)]).map encP) junk'])) := ⟨_, rfl⟩
     refine Go.ext ?_ hτ2
     rw [<- hτ2] at hH2 hK2
     clear hτ2 hap o1 o2 o3 hcS hdS
     generalize xs1.set k (vec id2 v' ((ps2 ++ [((⟨nx, vals⟩ : RowD), vec (τ1.next + 0) v9 (vals.map encV) junk9)]).map encP) junk') = xs2 at hH2
     generalize db1.set k ⟨db1[k].rows ++ [⟨nx, vals⟩]⟩ = db2 at hset hH2 ⊢
     have hK3 := hk1.trans hK2
     rw [insE, zw hk]
     have c9 := zev s db2 s[k] vals false (yah hs.few (by decide)) (yah ht.fk3 (by decide)) (fkR hs hset hk hvv.1)
     have e9 : s[k].fks.any (jn s db2 false vals) = s[k].fks.any fun f => jn s db2 false vals f := rfl
     rw [e9] at c9
     generalize (s[k].fks.any fun f => jn s db2 false vals f) = B at c9 ⊢
     repeat' first|refine yaG ?_|((first|apply yG|apply yH|apply yI);exact rfl;(first|exact zd1 hH2 rfl|exact wb7 hH2 rfl))|exact yaF|refine yaS ?_ ?_<;>intro _
     refine Go.slcall rfl rfl rfl c9 (.bool _) (.same (.own hH2.frz (.same (.same (.same .nil))))) ?_
     cases B
     ·rw [if_neg yaj]
      repeat' first|refine yaG ?_|exact yaF|refine yaS ?_ ?_<;>intro _
      exact .ret rfl ⟨rfl, hK3, fun _ => ⟨xs2, hH2⟩⟩
     ·rw [if_pos rfl]
      repeat' first|refine yaG ?_|exact yaF|refine yaS ?_ ?_<;>intro _
      exact .ret rfl ⟨rfl, hK3, fun h => by cases h⟩
  ·rw [if_neg hc0]
   generalize c.2 = e at hc0 ⊢
   repeat' first|refine yaG ?_|exact yaF|refine yaS ?_ ?_<;>intro _
   exact .ret rfl ⟨rfl, hk1, fun h => absurd h hc0⟩
 ·rw [if_neg hab]
  generalize wbw s[k] vals = e at ca hab ⊢
  repeat' first|refine yaG ?_|refine yaC (ca) ?_|exact yaF|refine yaS ?_ ?_<;>intro _
  exact .ret rfl ⟨rfl, .refl, fun h => absurd h hab⟩
theorem znp {s : List zd} (hs : SchG s) {k : Nat} (hk : k < s.length) {vals : List Val} (hvv : vals.length = s[k].cols.length /\ jq vals 16 = true) {rep : Bool} {db : List Data} (h : DbG (jjn k (wcm (zt db k))) s db) (h0 : (insF (chgF s 12) s k vals rep db).2.2 = 0) : DbG BI s (insF (chgF s 12) s k vals rep db).1 := by
 have hn9 : 1 <= wcm (zt db k) := zir fun r hr => ((h.at hk).ids r hr).1
 revert h0
 rw [insF, zw hk]
 split
 ·have hkc := fun (h2 : (w7 (chgF s 12) s[k] k ⟨wcm (zt db k), vals⟩ rep db).2 = 0) => wbj (wa4 hs 12) hk (t := s[k]) (x := ⟨wcm (zt db k), vals⟩) (rep := rep) h h2
  generalize w7 (chgF s 12) s[k] k ⟨wcm (zt db k), vals⟩ rep db = c at hkc ⊢
  rw [insC]
  split
  ·rename_i hc
   have hdb1 := hkc hc
   have hn1 : k < c.1.length := by rw [hdb1.len]; exact hk
   have hR1 := hdb1.rows k hk hn1
   have h60 := hR1.len
   rw [insD, wg hn1]
   split
   ·intro h
    cases h
   ·rename_i hno
    rw [insE]
    split
    ·intro h
     cases h
    ·exact fun _ => hdb1.next.set hk (hR1.snoc rfl hn9 (by omega) (by omega) hvv)
  ·rename_i hc
   exact fun h => absurd h hc
 ·rename_i hc
  exact fun h => absurd h hc
theorem dbB {s : List zd} {db : List Data} (h : dbF s db = true) : DbG BI s db := by
 obtain ⟨h1, h2, h3⟩ := jji h
 refine dbG h fun i hi r hr => ?_
 obtain ⟨h5, h6⟩ := (wji (h3 i (by omega) hi)).2 r hr
 simp only [isIn, Bool.and_eq_true, decide_eq_true_eq] at h6
 exact h6
theorem jl4 {s : List zd} {db : List Data} (h : DbG BI s db) {k : Nat} (hk : k < s.length) : DbG (jjn k (wcm (zt db k))) s db := by
 refine ⟨h.len, fun i h1 h2 => ?_⟩
 have hR := h.rows i h1 h2
 refine ⟨hR.len, fun r hr => ⟨(hR.ids r hr).1, (hR.ids r hr).2, fun e => ?_⟩, hR.rise, hR.fit⟩
 subst e
 rw [wg h2]
 exact zno hR.rise r hr
theorem HasV.three {τ : wa} {S : Nat -> Prop} {y x : Ce} {k : IntKind} {z z2 : Int} (h : Has τ S y x) : HasV τ S (.tup [.c y, .c (.int k z), .c (.int k z2)]) (.tup [.c x, .c (.int k z), .c (.int k z2)]) := by
 refine .tup (fun i a => i = 0 /\ S a) rfl (fun i a ha => ha.2) (fun i i' a h1 h2 => h1.1.trans h2.1.symm) fun i hy hx => ?_
 have hi : i < 3 := hy
 have hi3 : i = 0 \/ i = 1 \/ i = 2 := by omega
 rcases hi3 with rfl | rfl | rfl
 ·exact .c (h.mono fun a ha => ⟨rfl, ha⟩)
 ·exact .c (.c (.int _ _))
 ·exact .c (.c (.int _ _))
theorem Fin.nil3 {σ : wa} {l : List (Nat × List (List Ce))} {z z2 : Int} : Fin σ (.tup [.c (.fz []), .c (.int .i64 z), .c (.int .i64 z2)]) (.tup [.c .nils, .c (.int .i64 z), .c (.int .i64 z2)]) (E σ l) := by
 refine ⟨l, rfl, .tup rfl fun i hi => ?_⟩
 have hi2 : i < 3 := hi
 have hi3 : i = 0 \/ i = 1 \/ i = 2 := by omega
 rcases hi3 with rfl | rfl | rfl
 ·exact .c .nil
 ·exact .c (.same _ (.int _ _))
 ·exact .c (.same _ (.int _ _))
theorem wao (l : List Data) (z z2 : Int) (n : Nat) : ∀ y ∈ (AV.tup [.c (.fz (l.map jb)), .c (.int .i64 z), .c (.int .i64 z2)]).all, Old n y := fun y hy => by
 simp only [AV.all, AV.all.allL, List.append_nil, List.mem_append, List.mem_singleton] at hy
 rcases hy with rfl | rfl | rfl
 ·exact jal (wbn _)
 ·exact .int _ _
 ·exact .int _ _
end Go.Proofs.YtmmgbgpglhbhcaaGreat.Am
