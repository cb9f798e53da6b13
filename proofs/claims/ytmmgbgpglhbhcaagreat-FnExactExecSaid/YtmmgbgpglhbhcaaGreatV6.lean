/- Joined texts: S10, A27, C2, A28, A29, A30, A31, A22, M5, M6, T1, T2, T3. -/
import Derived.KernelRfl
import Derived.Test.YtmmgbgpglhbhcaaGreatV1
import Derived.Test.YtmmgbgpglhbhcaaGreatV2
import Derived.Test.YtmmgbgpglhbhcaaGreatV3
import Derived.Test.YtmmgbgpglhbhcaaGreatV4
import Derived.Test.YtmmgbgpglhbhcaaGreatV5
set_option linter.unusedVariables false
set_option linter.unusedSimpArgs false
namespace Go.Proofs.YtmmgbgpglhbhcaaGreat.Am
def nil? {α : Type} (l : List α) : Bool := (l.length : Int) == 0
def jir (x : Stmt) : Bool := if x.kind = 1 then nil? x.wher && nil? x.sets else if x.kind = 2 then nil? x.rows else decide (x.kind = 3) && (nil? x.rows && nil? x.sets)
def zco (t : zd) (r : RowD) : Bool := !(r.id == 0) || !fitF t r.vals
def wc0 (t : zd) (x : Stmt) : Bool := !(x.rows.any fun r => zco t r) && (wgs x.wher t.cols.length && jhl x.sets t.cols.length)
def l7F (s : List zd) (x : Stmt) : Bool := match jlt s x.table with
 | none => false
 | some u => isIn x.policy 0 4 && (jir x && (decide ((x.rows.length : Int) <= 8) && wc0 u x))
def jk8 (s : List zd) (x : Stmt) : Bool := ww s && l7F s x
theorem wl4 (x : Stmt) : Pure Tryz.prog 161 [.agg (ji x)] (.c (.bool (jir x))) := by
 refine Pure.run mixed wce (yaa rfl) fun σ hS hA => ?_
 clear hS hA
 repeat' first|refine yaG ?_|exact yaF|refine yaS ?_ ?_<;>intro _
 all_goals refine .ret rfl (.bool ?_)
 all_goals simp only [jir, nil?]
 all_goals simp_all
theorem wk8 (r : RowD) (t : zd) (hx : r.vals.length <= 34359738368) : Pure Tryz.prog 163 [.agg (jc r), .c (.fp (ja t))] (.c (.bool (zco t r))) := by
 refine Pure.run mixed jdq (yaa rfl) fun σ hS hA => ?_
 clear hS hA
 repeat' first|refine yaG ?_|((first|apply Go.pcallB|apply Go.spcallB|apply Qg.pcallB);(iterate 3 exact rfl);exact wlt t r.vals hx;intro _ _)|exact yaF|refine yaS ?_ ?_<;>intro _
 all_goals refine .ret rfl (.bool ?_)
 all_goals simp only [zco]
 all_goals simp_all
theorem zl5 (s : List zd) (x : Stmt) (hx : s.length <= 34359738368) (hb : ∀ t ∈ s, zac 34359738368 t) (hq : jel 34359738368 x) : Pure Tryz.prog 84 [.c (.fz (s.map ja)), .agg (ji x)] (.c (.bool (jk8 s x))) := by
 refine Pure.run mixed ze3 (yaa rfl) fun σ hS hA => ?_
 clear hS hA
 obtain ⟨q1, q2, q3, q4⟩ := hq
 repeat' first|refine yaG ?_|fail
 refine .pcall rfl rfl rfl (wbf s x.table hx) ?_
 rcases zgs (p := fun u : zd => u.name == x.table) (l := s) (i := 0) (ybf _) with hi | ⟨n, hn, hi, hp⟩
 ·have hno : jk8 s x = false := by rw [jk8, l7F, wim hi]; simp
  rw [hi]
  repeat' first|refine yaG ?_|((first|apply Go.pcallB|apply Go.spcallB|apply Qg.pcallB);(iterate 3 exact rfl);exact wdb s hx hb;intro _ _)|exact yaF|refine yaS ?_ ?_<;>intro _
  all_goals exact .ret rfl (.bool hno.symm)
 rw [Int.zero_add] at hi
 have hyes := jgs hi hn
 have hnz : ¬ ((n : Int) < 0) := by omega
 rw [hi]
 have hsat : jk8 s x = (ww s && (isIn x.policy 0 4 && (jir x && (decide ((x.rows.length : Int) <= 8) && wc0 s[n] x)))) := by rw [jk8, l7F, hyes]
 rw [hsat]
 clear hsat hyes hp hi
 repeat' first|refine yaG ?_|((first|apply Go.pcallB|apply Go.spcallB|apply Qg.pcallB);(iterate 3 exact rfl);(first|exact wdb s hx hb|exact jgi _ _ _|exact wl4 x);intro _ _)|exact yaF|refine yaS ?_ ?_<;>intro _
 all_goals try (refine .ret rfl (.bool ?_); clear hb q1 q2 q3 q4; simp_all; done)
 all_goals try (refine .ret rfl (.bool ?_); rw [decide_eq_false (p := (x.rows.length : Int) <= 8) (by omega)]; simp; done)
 rename_i c p k c2 p2 k2 c3 p3 k3 k4
 have hs := nbF p k
 have hc := wet hs _ (yab hn)
 have hres : (ww s && (isIn x.policy 0 4 && (jir x && (decide ((x.rows.length : Int) <= 8) && wc0 s[n] x)))) = wc0 s[n] x := by
  rw [hs, nbF p2 k2, nbF p3 k3, decide_eq_true (by omega)]
  simp
 rw [hres]
 clear hres p k p2 k2 p3 k3
 repeat' first|refine yaG ?_|((first|apply yG|apply yH|apply yI);exact rfl;(first|exact yX (enc := ja) rfl rfl rfl hn rfl))|((first|apply Go.pcallB|apply Go.spcallB|apply Qg.pcallB);(iterate 3 exact rfl);(first|exact zj mixed zbc j9 jc (fun c => .agg (jc c)) (fun _ => rfl) (fun _ => rfl) x.rows (fun r => zco s[n] r) _ [] [.fp (ja s[n])] q2.1 (fun j hj _ => wk8 _ _ (q2.2 _ (yab hj)).1)|exact zk1 x.wher s[n].cols.length q3.1 (by omega) (by omega)|exact jk1 x.sets s[n].cols.length q4.1 q4.2 (by omega) (by omega));intro _ _)|exact yaF|refine yaS ?_ ?_<;>intro _
 all_goals refine .ret rfl (.bool ?_)
 all_goals rw [wc0]
 all_goals clear hb q1 q2 q3 q4
 all_goals simp_all
theorem jl5 (s : List zd) (x : Stmt) (hs : ww s = true) (hx : s.length <= 34359738368) (hb : ∀ t ∈ s, zac 34359738368 t) (hq : jel 34359738368 x) : Pure Tryz.prog 79 [.c (.fz (s.map ja)), .agg (ji x)] (.c (.bool (l7F s x))) := by
 refine Pure.run mixed we1 (yaa rfl) fun σ hS hA => ?_
 clear hS hA
 obtain ⟨q1, q2, q3, q4⟩ := hq
 repeat' first|refine yaG ?_|fail
 refine .pcall rfl rfl rfl (wgn s x.table hx) ?_
 rcases zgs (p := fun u : zd => u.name == x.table) (l := s) (i := 0) (ybf _) with hi | ⟨n, hn, hi, hp⟩
 ·have hno : l7F s x = false := by rw [l7F, wim hi]
  rw [hi]
  repeat' first|refine yaG ?_|exact yaF|refine yaS ?_ ?_<;>intro _
  all_goals exact .ret rfl (.bool hno.symm)
 rw [Int.zero_add] at hi
 have hyes := jgs hi hn
 have hnz : ¬ ((n : Int) < 0) := by omega
 rw [hi]
 have hsat : l7F s x = (isIn x.policy 0 4 && (jir x && (decide ((x.rows.length : Int) <= 8) && wc0 s[n] x))) := by rw [l7F, hyes]
 rw [hsat]
 clear hsat hyes hp hi
 repeat' first|refine yaG ?_|((first|apply Go.pcallB|apply Go.spcallB|apply Qg.pcallB);(iterate 3 exact rfl);exact wau _ _ _;intro _ _)|exact yaF|refine yaS ?_ ?_<;>intro _
 ·rename_i c p k
  refine .ret rfl (.bool ?_)
  rw [nbT p k]
  rfl
 rename_i c p k
 have hc := wet hs _ (yab hn)
 rw [nbF p k, yay]
 clear p k hs hb
 repeat' first|refine yaG ?_|((first|apply yG|apply yH|apply yI);exact rfl;(first|exact yX (enc := ja) rfl rfl rfl hn rfl))|exact yaF|refine yaS ?_ ?_<;>intro _
 refine Go.keep [3, 6, 7, 8] (Go.loops (I := fun m fr τ => ∃ i : Nat, ∃ k : Int, m = x.rows.length - i /\ i <= x.rows.length /\ k = i /\ (∀ j (hj : j < x.rows.length), j < i -> (!zco s[n] x.rows[j]) = true) /\
  fr = [(3, .c (.fp (ji x))), (6, .c (.fp (ja s[n]))), (7, .c (.int .i64 (s[n].cols.length : Int))), (8, .c (.int .i64 k))] /\ τ = E σ []) ?_ _ _ _ ⟨0, _, rfl, yae _, rfl, fun j _ h => absurd h (by omega), rfl, rfl⟩)
 rintro m fr τ ⟨i, k, rfl, hi2, hk, hall, rfl, rfl⟩ hrec
 generalize s[n] = t at hc hall hrec ⊢
 clear hnz c
 by_cases hlt : i < x.rows.length
 ·repeat' first|refine yaG ?_|((first|apply yG|apply yH|apply yI);exact rfl;(first|exact yX (enc := jc) rfl rfl hk hlt rfl))|((first|apply Go.pcallB|apply Go.spcallB|apply Qg.pcallB);(iterate 3 exact rfl);exact wel t x.rows[i].vals (q2.2 _ (yab hlt)).1;intro _ _)|exact yaF|refine yaS ?_ ?_<;>intro _
  all_goals first
   |(have hbad : zco t x.rows[i] = true := (by rw [zco]; clear hrec hall; simp_all; done)
     refine .ret rfl (.bool ?_)
     rw [wc0, List.any_eq_true.2 ⟨x.rows[i], yab hlt, hbad⟩]
     simp
     done)
   |(refine Go.keep [3, 6, 7, 8] (hrec _ _ _ (by omega) ⟨i + 1, _, rfl, hlt, wb hk (by omega), upto (p := fun r : RowD => !zco t r) hall hlt ?_, rfl, rfl⟩)
     rw [zco]
     clear hrec hall
     simp_all
     done)
 have hrows := jb2 (p := fun r : RowD => !zco t r) (l := x.rows) fun j hj => hall j hj (by omega)
 have q5 := q2.1
 clear hrec hall q2
 simp only [Bool.not_not] at hrows
 have hat : wc0 t x = (wgs x.wher t.cols.length && jhl x.sets t.cols.length) := by rw [wc0, hrows]; rfl
 rw [hat]
 clear hat hrows
 have h0 : (0 : Int) <= t.cols.length := by omega
 have h1 : (t.cols.length : Int) <= 16 := by omega
 have hw := wm6 h0 h1
 have hex : ∀ e : List Tok, e.length <= 34359738368 -> Pure Tryz.prog 155 [.c (.fz (e.map zh)), .c (.int .i64 t.cols.length)] (.c (.bool (wbd e t.cols.length))) := fun e he => wjf e _ he (by omega) (by omega)
 clear hc
 generalize (t.cols.length : Int) = N at *
 repeat' first|refine yaG ?_|exact yaF|refine yaS ?_ ?_<;>intro _
 refine Go.keep [3, 7, 9] (Go.loops (I := fun m fr τ => ∃ i : Nat, ∃ k : Int, m = x.sets.length - i /\ i <= x.sets.length /\ k = i /\ zaw N [] x.sets = zaw N (x.sets.take i) (x.sets.drop i) /\
  fr = [(3, .c (.fp (ji x))), (7, .c (.int .i64 N)), (9, .c (.int .i64 k))] /\ τ = E σ []) ?_ _ _ _ ⟨0, _, rfl, yae _, rfl, rfl, rfl, rfl⟩)
 rintro m fr τ ⟨i, k, rfl, hi, hk, hsl, rfl, rfl⟩ hrec
 by_cases hlt : i < x.sets.length
 ·have hd := yac hlt
  have hstep : zaw N [] x.sets = (zck N x.sets[i] && !((x.sets.take i).any fun y => y.col == x.sets[i].col) && zaw N (x.sets.take (i + 1)) (x.sets.drop (i + 1))) := by
   rw [hsl, hd, zaw, yai hlt]
  repeat' first|refine yaG ?_|((first|apply yG|apply yH|apply yI);exact rfl;(first|exact yX (enc := jg) rfl rfl hk hlt rfl))|((first|apply Go.pcallB|apply Go.spcallB|apply Qg.pcallB);(iterate 3 exact rfl);(first|exact wau _ _ _|exact hex x.sets[i].expr (q4.2 _ (yab hlt)).1);intro _ _)|exact yaF|refine yaS ?_ ?_<;>intro _
  all_goals try (refine .ret rfl (.bool ?_); rw [jhl, hstep, zck, <- hw]; clear hrec hsl hstep hex; simp_all; done)
  have hcol : zck N x.sets[i] = true := (by rw [zck, <- hw]; clear hrec hsl hstep hex; simp_all)
  refine Go.keep [3, 7, 9, 10] (Go.loops (I := fun m fr τ => ∃ j : Nat, ∃ q : Int, m = i - j /\ j <= i /\ q = j /\ (∀ a (ha : a < x.sets.length), a < j -> (x.sets[a].col == x.sets[i].col) = false) /\
   fr = [(3, .c (.fp (ji x))), (7, .c (.int .i64 N)), (9, .c (.int .i64 k)), (10, .c (.int .i64 q))] /\ τ = E σ []) ?_ _ _ _ ⟨0, _, rfl, yae _, rfl, fun j _ h => absurd h (by omega), rfl, rfl⟩)
  rintro m fr τ ⟨j, q, rfl, hj, hq, hall, rfl, rfl⟩ hrec2
  by_cases hlj : j < i
  ·have hjl : j < x.sets.length := by omega
   repeat' first|refine yaG ?_|((first|apply yG|apply yH|apply yI);exact rfl;(first|exact yX (enc := jg) rfl rfl hq hjl rfl|exact yX (enc := jg) rfl rfl hk hlt rfl))|exact yaF|refine yaS ?_ ?_<;>intro _
   ·rename_i he
    have hany : ((x.sets.take i).any fun y => y.col == x.sets[i].col) = true := List.any_eq_true.2 ⟨x.sets[j], List.mem_take_iff_getElem.2 ⟨j, by omega, rfl⟩, by simpa using he⟩
    refine .ret rfl (.bool ?_)
    rw [jhl, hstep, hany]
    simp
   ·rename_i he
    refine Go.keep [3, 7, 9, 10] (hrec2 _ _ _ (by omega) ⟨j + 1, _, rfl, hlj, wb hq (by omega), fun a ha h => ?_, rfl, rfl⟩)
    by_cases hja : a = j
    ·subst hja
     simpa using he
    ·exact hall a ha (by omega)
  ·have hany : ((x.sets.take i).any fun y => y.col == x.sets[i].col) = false := by
    rw [ybl]
    intro y hy
    obtain ⟨a, ha, rfl⟩ := List.mem_take_iff_getElem.1 hy
    have := hall a (by omega) (by omega)
    simp [this]
   clear hrec2 hall
   repeat' first|refine yaG ?_|exact yaF|refine yaS ?_ ?_<;>intro _
   refine Go.keep [3, 7, 9] (hrec _ _ _ (by omega) ⟨i + 1, _, rfl, hlt, wb hk (by omega), ?_, rfl, rfl⟩)
   rw [hstep, hcol, hany]
   rfl
 have hsets : jhl x.sets N = true := by
  rw [jhl, hsl, yad (by omega)]
  rfl
 clear hrec hsl
 rw [hsets]
 repeat' first|refine yaG ?_|((first|apply Go.pcallB|apply Go.spcallB|apply Qg.pcallB);(iterate 3 exact rfl);exact hex x.wher q3.1;intro _ _)|exact yaF|refine yaS ?_ ?_<;>intro _
 all_goals refine .ret rfl (.bool ?_)
 all_goals have hadd1 : IntKind.i64.wrap ((x.wher.length : Int) + x.sets.length) = x.wher.length + x.sets.length := jf (by omega) (by omega)
 all_goals have hadd2 : IntKind.i64.wrap ((x.rows.length : Int) + x.sets.length) = x.rows.length + x.sets.length := jf (by omega) (by omega)
 all_goals simp only [jir, nil?, wgs, hadd1, hadd2]
 all_goals clear hadd1 hadd2 hsets hex hw q1 q3 q4 hx hn
 all_goals have p1 : (0 : Int) <= x.rows.length := by omega
 all_goals have p2 : (0 : Int) <= x.wher.length := by omega
 all_goals have p3 : (0 : Int) <= x.sets.length := by omega
 all_goals generalize (x.rows.length : Int) = a at *
 all_goals generalize (x.wher.length : Int) = b at *
 all_goals generalize (x.sets.length : Int) = c at *
 all_goals rw [ybc]
 all_goals simp_all
 all_goals omega
def zaz (t : zd) (old : List Val) : List SetS -> List Val -> Option (List Val)
 | [], cur => some cur
 | a :: r, cur => if ((jba a.expr old).2 && ((jba a.expr old).1.k == 0 || (jba a.expr old).1.k == jcz t a.col)) = true then zaz t old r (cur.set a.col.toNat (jba a.expr old).1) else none
def insJ (s : List zd) (k : Nat) (x : Stmt) (vals : List Val) (db : List Data) : Res := ((insF (chgF s 12) s k (if (x.policy == 3) = true then zk (tabN s k) 0 vals else vals) (x.policy == 3) db).1, (insF (chgF s 12) s k (if (x.policy == 3) = true then zk (tabN s k) 0 vals else vals) (x.policy == 3) db).2.2)
def rowJ (s : List zd) (k : Nat) (x : Stmt) (r : RowD) (db : List Data) : Res := if x.kind = 3 then chgF s 13 (.del k r.id) db else match zaz (tabN s k) r.vals x.sets r.vals with
 | none => ([], 8)
 | some vals => chgF s 13 (.upd k r.id vals (x.policy == 3)) db
def idJ (s : List zd) (k : Nat) (x : Stmt) (id : Int) (db : List Data) : Res := match zat (zt db k) id with
 | none => ([], -1)
 | some r => rowJ s k x r db
def wl5 (s : List zd) (k : Nat) (x : Stmt) (db : List Data) : List (List Data -> Res) := if x.kind = 1 then x.rows.map fun r => insJ s k x r.vals else (zad (zt db k) x.wher).1.map fun id => idJ s k x id
def zk9 (x : Stmt) (c : Int) : Bool := x.policy == 2 && isIn c 2 4
def wbx (db0 : List Data) (x : Stmt) : List (List Data -> Res) -> List Data -> Int -> Ins
 | [], now, m => (now, 0, m)
 | j :: r, now, m => if (j now).2 = 0 then wbx db0 x r (j now).1 (m + 1) else if (j now).2 = -1 \/ zk9 x (j now).2 = true then wbx db0 x r now m else if x.policy = 1 /\ ¬ (j now).2 = 5 then (now, (j now).2, m) else (db0, (j now).2, 0)
def wfh (s : List zd) (k : Nat) (x : Stmt) (db : List Data) : Ins := if (zad (zt db k) x.wher).2 = true then wbx db x (wl5 s k x db) db 0 else (db, 8, 0)
structure StG (t : zd) (x : Stmt) : Prop where
 kind : x.kind = 1 \/ x.kind = 2 \/ x.kind = 3
 ins : x.kind = 1 -> x.wher = []
 rows : x.rows.length <= 8 /\ ∀ r ∈ x.rows, fitF t r.vals = true
 wher : x.wher.length <= 24 /\ (0 < x.wher.length -> wbd x.wher t.cols.length = true)
 sets : x.sets.length <= 34359738368 /\ ∀ a ∈ x.sets, zck t.cols.length a = true
theorem jg1 {n : Int} : ∀ {l pre : List SetS}, zaw n pre l = true -> ∀ a ∈ l, zck n a = true
 | [], _, _, a, h => by cases h
 | y :: r, pre, h, a, ha => by
  simp only [zaw, Bool.and_eq_true] at h
  rcases List.mem_cons.1 ha with rfl | ha
  ·exact h.1.1
  ·exact jg1 h.2 a ha
theorem zmx {α : Type} {l : List α} : nil? l = true ↔ l = [] := by
 rw [nil?, beq_iff_eq]
 constructor
 ·intro h
  exact yal (by omega)
 ·intro h
  rw [h]
  rfl
theorem zl6 {s : List zd} {x : Stmt} (hq : jel 34359738368 x) (h : l7F s x = true) : ∃ k, ∃ hk : k < s.length, idxA (fun u : zd => u.name == x.table) s 0 = (k : Int) /\ StG s[k] x := by
 rw [l7F] at h
 rcases wd0 (fun u : zd => u.name == x.table) s 0 with ⟨h1, _⟩ | ⟨k, hk, h1, _⟩
 ·rw [wim h1] at h
  cases h
 ·have h2 : idxA (fun u : zd => u.name == x.table) s 0 = (k : Int) := by rw [h1]; omega
  rw [jgs h2 hk] at h
  simp only [Bool.and_eq_true, decide_eq_true_eq] at h
  obtain ⟨h3, h4, h5, h6⟩ := h
  rw [wc0, yat, yat, Bool.not_eq_true'] at h6
  obtain ⟨h7, h8, h9⟩ := h6
  have hw : x.wher = [] \/ wbd x.wher s[k].cols.length = true := by
   rw [wgs, Bool.or_eq_true, beq_iff_eq] at h8
   rcases h8 with h8 | h8
   ·exact .inl (yal (by omega))
   ·exact .inr h8
  refine ⟨k, hk, h2, ?_, ?_, ⟨by omega, fun r hr => ?_⟩, ?_, ?_⟩
  ·rw [jir] at h4
   split at h4
   ·rename_i h; exact .inl h
   ·split at h4
    ·rename_i h; exact .inr (.inl h)
    ·rw [yat, decide_eq_true_eq] at h4
     exact .inr (.inr h4.1)
  ·intro h1
   rw [jir, if_pos h1, yat] at h4
   exact zmx.1 h4.1
  ·rw [ybl] at h7
   have := h7 r hr
   rw [zco] at this
   simp only [Bool.or_eq_true, Bool.not_eq_true', not_or, Bool.not_eq_false] at this
   exact this.2
  ·rcases hw with hw | hw
   ·rw [hw]
    exact ⟨Nat.zero_le _, fun h => by simp at h⟩
   ·exact ⟨by have := (zbw hw).1; omega, fun _ => hw⟩
  ·exact ⟨hq.2.2.2.1, jg1 h9⟩
theorem jhx {row : List Val} (hr : Oks row) {n : Int} : ∀ {e : List Tok} {a : Int} {st q : List Val}, jw n a e = true -> Oks st -> zhl row e st = some q -> Oks q
 | [], a, st, q, _, hs, h => by injection h with h; subst h; exact hs
 | t :: e, a, st, q, hx, hs, h => by
  obtain ⟨h1, h2, h3⟩ := jcj hx
  rw [zhl] at h
  split at h
  ·rename_i hk
   exact jhx hr h3 ((hs.take _).snoc (zgp (fun h2 => zdb h1 h2) (hs.drop _) hr hk)) h
  ·cases h
theorem zko {e : List Tok} {row : List Val} (hr : Oks row) (he : wbd e row.length = true) (h : (jba e row).2 = true) : zr (jba e row).1 = true := by
 obtain ⟨_, he⟩ := zbw he
 rw [jba] at h ⊢
 split at h
 ·rename_i v r hq
  exact jhx hr he (fun v hv => by simp at hv) hq v (by simp)
 ·cases h
def jnp : Option (List Val) -> AV
 | none => .tup [.c .nils, .c (.bool false)]
 | some vals => .tup [.c (.fz (vals.map encV)), .c (.bool true)]
theorem wir {τ : wa} {n : Nat} : FrzV τ n (.tup [.c .nils, .c (.bool false)]) (jnp none) := by
 refine .tup rfl fun j hj => ?_
 have hj2 : j < 2 := hj
 have hj3 : j = 0 \/ j = 1 := by omega
 rcases hj3 with rfl | rfl
 ·exact .c (.same _ .nils)
 ·exact .c (.same _ (.bool _))
theorem zke (t : zd) (old : List Val) (sets : List SetS) (hl : old.length = t.cols.length) (h0 : old ≠ []) (hv : jq old 16 = true) (hs : sets.length <= 34359738368) (ha : ∀ a ∈ sets, zck t.cols.length a = true) :
 Pure Tryz.prog 217 [.agg (ja t), .c (.fz (old.map encV)), .c (.fz (sets.map jg))] (jnp (zaz t old sets old)) := by
 refine Pure.run mixed jdt (yaa rfl) fun σ hS hA => ?_
 clear hA hS
 obtain ⟨hv16, hvo⟩ := je.1 hv
 have cm := (wb4 old (yah hv16 (by decide))).at0 σ
 repeat' first|refine yaG ?_|exact yaF|refine yaS ?_ ?_<;>intro _
 refine .call _ rfl rfl rfl cm ?_
 rintro q τ9 ⟨v, junk, hj, hq, ht⟩
 rw [hq, ht]
 clear hq ht cm
 repeat' first|refine yaG ?_|exact yaF|refine yaS ?_ ?_<;>intro _
 refine Go.keep [1, 2, 3, 8, 9] (Go.loops (I := fun m fr τ => ∃ (i : Nat) (k : Int) (cur : List Val), m = sets.length - i /\ i <= sets.length /\ k = i /\ (cur.length = old.length /\ zaz t old sets old = zaz t old (sets.drop i) cur) /\
  fr = [(1, .c (.fz (old.map encV))), (2, .c (.fz (sets.map jg))), (3, .c (.fp (ja t))), (8, .c (vec (σ.next + 0) v (old.map encV) junk)), (9, .c (.int .i64 k))] /\ τ = E σ [(v, cur.map encV ++ junk)]) ?_ _ _ _ ⟨0, _, old, rfl, yae _, rfl, ⟨rfl, rfl⟩, rfl, rfl⟩)
 rintro m fr τ ⟨i, k, cur, rfl, hi, hk, ⟨hcl, hst⟩, rfl, rfl⟩ hrec
 by_cases hlt : i < sets.length
 ·have hsa := ha _ (yab hlt)
  rw [zck, yat] at hsa
  obtain ⟨hcol, hex⟩ := hsa
  obtain ⟨q1, q2⟩ := wlw hcol
  rw [<- hl] at hex
  obtain ⟨he1, he2⟩ := zbw hex
  have hcc : sets[i].col = (sets[i].col.toNat : Int) := by omega
  have hct : sets[i].col.toNat < t.cols.length := by omega
  have hcv : sets[i].col.toNat < cur.length := by omega
  have hcm : sets[i].col.toNat < (old.map encV).length := by rw [yag]; omega
  have hkd : jcz t sets[i].col = t.cols[sets[i].col.toNat].kind := wa8 hcc hct
  have c1 := wjg sets[i].expr old (by omega) hv16 hvo he2
  rw [yac hlt, zaz, hkd] at hst
  generalize jba sets[i].expr old = ev at c1 hst
  obtain ⟨w, b⟩ := ev
  simp only at c1 hst
  cases b
  ·rw [ybe, if_neg yaj] at hst
   rw [hst]
   repeat' first|refine yaG ?_|((first|apply yG|apply yH|apply yI);exact rfl;(first|exact yX (enc := jg) rfl rfl hk hlt rfl|exact yX (enc := zg) rfl rfl hcc hct rfl))|refine yaC (c1) ?_|exact yaF|refine yaS ?_ ?_<;>intro _
   all_goals first
    | exact .ret rfl ⟨_, rfl, wir⟩
    |(exfalso; simp_all; done)
  ·rw [yay] at hst
   have hgo : zaz t old sets old = zaz t old (sets.drop (i + 1)) (cur.set sets[i].col.toNat w) -> ∃ (j : Nat) (kj : Int) (cur' : List Val), sets.length - (i + 1) = sets.length - j /\ j <= sets.length /\ kj = j /\ (cur'.length = old.length /\ zaz t old sets old = zaz t old (sets.drop j) cur') /\ [(1, AV.c (.fz (old.map encV))), (2, .c (.fz (sets.map jg))), (3, .c (.fp (ja t))), (8, .c (vec (σ.next + 0) v (old.map encV) junk)), (9, .c (.int .i64 (IntKind.i64.wrap (k + 1))))] = [(1, AV.c (.fz (old.map encV))), (2, .c (.fz (sets.map jg))), (3, .c (.fp (ja t))), (8, .c (vec (σ.next + 0) v (old.map encV) junk)), (9, .c (.int .i64 kj))] /\ E σ [(v, (cur.map encV ++ junk).set (0 + sets[i].col.toNat) (jh (encV cur[sets[i].col.toNat]) 0 (encV w)))] = E σ [(v, cur'.map encV ++ junk)] := fun h => ⟨i + 1, _, _, rfl, hlt, wb hk (by omega), ⟨by rw [yar]; exact hcl, h⟩, rfl, congrArg (E σ) (congrArg (fun z => [(v, z)]) (zb5 hcv _ w))⟩
   by_cases h0 : w.k = 0
   ·rw [beq_iff_eq.2 h0, Bool.true_or, if_pos rfl] at hst
    repeat' first|refine yaG ?_|((first|apply yG|apply yH|apply yI);exact rfl;(first|exact yX (enc := jg) rfl rfl hk hlt rfl|exact yX (enc := zg) rfl rfl hcc hct rfl|exact z3 (k := 0) rfl rfl hcc hcm rfl (wan hcv) rfl|exact jm (k := 0) rfl rfl rfl rfl (wan hcv) rfl (yaa rfl)))|refine yaC (c1) ?_|exact yaF|refine yaS ?_ ?_<;>intro _
    all_goals first
     | exact Go.keep [1, 2, 3, 8, 9] (hrec _ _ _ (by omega) (hgo hst))
     |(exfalso; simp_all; done)
   ·by_cases h1 : w.k = t.cols[sets[i].col.toNat].kind
    ·rw [beq_iff_eq.2 h1, Bool.or_true, if_pos rfl] at hst
     repeat' first|refine yaG ?_|((first|apply yG|apply yH|apply yI);exact rfl;(first|exact yX (enc := jg) rfl rfl hk hlt rfl|exact yX (enc := zg) rfl rfl hcc hct rfl|exact z3 (k := 0) rfl rfl hcc hcm rfl (wan hcv) rfl|exact jm (k := 0) rfl rfl rfl rfl (wan hcv) rfl (yaa rfl)))|refine yaC (c1) ?_|exact yaF|refine yaS ?_ ?_<;>intro _
     all_goals first
      | exact Go.keep [1, 2, 3, 8, 9] (hrec _ _ _ (by omega) (hgo hst))
      |(exfalso; simp_all; done)
    ·rw [beq_eq_false_iff_ne.2 h0, beq_eq_false_iff_ne.2 h1, if_neg (by simp)] at hst
     rw [hst]
     repeat' first|refine yaG ?_|((first|apply yG|apply yH|apply yI);exact rfl;(first|exact yX (enc := jg) rfl rfl hk hlt rfl|exact yX (enc := zg) rfl rfl hcc hct rfl|exact z3 (k := 0) rfl rfl hcc hcm rfl (wan hcv) rfl|exact jm (k := 0) rfl rfl rfl rfl (wan hcv) rfl (yaa rfl)))|refine yaC (c1) ?_|exact yaF|refine yaS ?_ ?_<;>intro _
     all_goals first
      | exact .ret rfl ⟨_, rfl, wir⟩
      |(exfalso; simp_all; done)
 ·clear hrec
  rw [yad (by omega), zaz] at hst
  rw [hst]
  repeat' first|refine yaG ?_|exact yaF|refine yaS ?_ ?_<;>intro _
  refine .ret rfl ⟨_, rfl, ?_⟩
  have hvv : vec (σ.next + 0) v (old.map encV) junk = vec (σ.next + 0) v (cur.map encV) junk := by rw [vec, vec, yag, yag, hcl]
  rw [hvv]
  refine .tup rfl fun j hj => ?_
  have hj2 : j < 2 := hj
  have hj3 : j = 0 \/ j = 1 := by omega
  rcases hj3 with rfl | rfl
  ·exact jbr (k := 0) rfl (fun e he x hx => ((jgz e he).2 x hx).old _) (yak _)
  ·exact .c (.same _ (.bool _))
theorem wd2 {t : zd} {old : List Val} : ∀ {sets : List SetS} {cur vals : List Val}, zaz t old sets cur = some vals -> vals.length = cur.length
 | [], cur, vals, h => by injection h with h; rw [<- h]
 | a :: r, cur, vals, h => by
  rw [zaz] at h
  split at h
  ·have := wd2 h
   rwa [yar] at this
  ·cases h
theorem zd3 {t : zd} {old : List Val} (ho : Oks old) {n : Int} (hn : (old.length : Int) = n) : ∀ {sets : List SetS} {cur vals : List Val}, (∀ a ∈ sets, zck n a = true) -> (∀ v ∈ cur, zr v = true) -> zaz t old sets cur = some vals -> ∀ v ∈ vals, zr v = true
 | [], cur, vals, _, hc, h => by injection h with h; rw [<- h]; exact hc
 | a :: r, cur, vals, ha, hc, h => by
  rw [zaz] at h
  split at h
  ·rename_i hk
   rw [yat] at hk
   have hs := ha a (by simp)
   rw [zck, yat, <- hn] at hs
   have hw := zko ho hs.2 hk.1
   refine zd3 ho hn (fun a ha2 => ha a (by simp [ha2])) (fun v hv => ?_) h
   rcases ybb hv with hv | rfl
   ·exact hc v hv
   ·exact hw
  ·cases h
theorem jke {s : List zd} (hs : SchG s) {k : Nat} (hk : k < s.length) (x : Stmt) (hx : x.kind = 1) (id : Int) (vals : List Val) (hf : fitF s[k] vals = true) (db : List Data) (h : DbG BI s db) :
 Pure Tryz.prog 156 [.c (.fz (s.map ja)), .c (.fz (db.map jb)), .c (.int .i64 (k : Int)), .agg (ji x), .c (.int .i64 id), .c (.fz (vals.map encV))] (resV (insJ s k x vals db)) := by
 refine Pure.run mixed jce (yaa rfl) fun σ hS hA => ?_
 clear hA hS
 have hva := zfk hf (hs.tab _ (yab hk)).cols8
 have hdn := jl4 h hk
 have c1 := zjo hs hk vals (x.policy == 3) db rfl hdn (wck hf).1 hva
 rw [insJ, zw hk]
 generalize insF (chgF s 12) s k (if (x.policy == 3) = true then zk s[k] 0 vals else vals) (x.policy == 3) db = q at c1 ⊢
 obtain ⟨qd, qi, qc⟩ := q
 rw [resI] at c1
 simp only at c1
 have hr : resV (qd, qc) = .tup [.c (if qc = 0 then .fz (qd.map jb) else .nils), .c (.int .i64 qc)] := rfl
 generalize hz : (if qc = 0 then Ce.fz (qd.map jb) else .nils) = z at c1 hr
 have hx1 : (x.kind == 1) = true := beq_iff_eq.2 hx
 repeat' first|refine yaG ?_|refine yaC (c1) ?_|exact yaF|refine yaS ?_ ?_<;>intro _
 all_goals first
  | contradiction
  | exact .ret rfl (Fin.same hr.symm (zi _ _))
theorem wke {s : List zd} (hs : SchG s) {k : Nat} (hk : k < s.length) (x : Stmt) (hG : StG s[k] x) (hx : ¬ x.kind = 1) (id : Int) (vals : List Val) (db : List Data) (h : DbG BI s db) {r : RowD} (hr : zat (zt db k) id = some r) :
 Pure Tryz.prog 156 [.c (.fz (s.map ja)), .c (.fz (db.map jb)), .c (.int .i64 (k : Int)), .agg (ji x), .c (.int .i64 id), .c (.fz (vals.map encV))] (resV (rowJ s k x r db)) := by
 refine Pure.run mixed jce (yaa rfl) fun σ hS hA => ?_
 clear hA hS
 have hk2 : k < db.length := by rw [h.len]; exact hk
 have hR := h.rows k hk hk2
 have hrun := wkd (I := BI) hs 13 0 (by decide) rfl
 have hid : r.id = id := (zak hr).2
 rw [rowJ]
 by_cases h3 : x.kind = 3
 ·rw [if_pos h3, hid]
  have c1 := hrun.del k id db r h hk hr
  generalize chgF s 13 (.del k id) db = q at c1 ⊢
  have hq : resV q = .tup [.c (if q.2 = 0 then .fz (q.1.map jb) else .nils), .c (.int .i64 q.2)] := rfl
  rw [hq] at c1
  generalize (if q.2 = 0 then Ce.fz (q.1.map jb) else .nils) = z at c1 hq
  repeat' first|refine yaG ?_|refine yaC (c1) ?_|exact yaF|refine yaS ?_ ?_<;>intro _
  all_goals first
   | contradiction
   |(exfalso; omega)
   | exact .ret rfl (Fin.same hq.symm (zi _ _))
 ·rw [if_neg h3]
  rw [wg hk2] at hr
  rcases wo db[k].rows id with ⟨_, hx2⟩ | ⟨j, hj, hx1, hx2⟩
  ·rw [hx2] at hr
   cases hr
  ·rw [hx2] at hr
   injection hr with hr
   subst hr
   have c2 := wax db[k] id (yah hR.len (by decide))
   rw [hx1] at c2
   obtain ⟨hfl, hfv⟩ := hR.fit _ (yab hj)
   have ht := hs.tab _ (yab hk)
   have hne : db[k].rows[j].vals ≠ [] := fun e => by
    rw [e] at hfl
    have := ht.cols0
    simp at hfl
    omega
   have c3 := zke s[k] db[k].rows[j].vals x.sets hfl hne hfv hG.sets.1 hG.sets.2
   rw [zw hk, hid]
   cases hvf : zaz s[k] db[k].rows[j].vals x.sets db[k].rows[j].vals with
   | none =>
    rw [hvf] at c3
    have c3 : Pure _ _ _ (.tup [.c .nils, .c (.bool false)]) := c3
    repeat' first|refine yaG ?_|((first|apply yG|apply yH|apply yI);exact rfl;(first|exact yX (enc := ja) rfl rfl rfl hk rfl|exact yX (enc := jb) rfl rfl rfl hk2 rfl|exact yX (enc := jc) rfl rfl rfl hj rfl))|refine yaC (c2) ?_|refine yaC (c3) ?_|exact yaF|refine yaS ?_ ?_<;>intro _
    all_goals first
     | contradiction
     |(exfalso; omega)
     | exact .ret rfl (Fin.same rfl (zi ([], 8) _))
   | some nv =>
    rw [hvf] at c3
    have c3 : Pure _ _ _ (.tup [.c (.fz (nv.map encV)), .c (.bool true)]) := c3
    have hl2 : nv.length = s[k].cols.length := (wd2 hvf).trans hfl
    have hok2 : jq nv 16 = true := je.2 ⟨by rw [hl2, <- hfl]; exact (je.1 hfv).1, zd3 (je.1 hfv).2 (n := s[k].cols.length) (by rw [hfl]) hG.sets.2 (je.1 hfv).2 hvf⟩
    have c4 := hrun.upd k id nv (x.policy == 3) db h ⟨hk, hl2, hok2⟩
    show Go _ _ _ _ (Fin σ (resV (chgF s 13 (.upd k id nv (x.policy == 3)) db))) _ _ _
    generalize chgF s 13 (.upd k id nv (x.policy == 3)) db = q at c4 ⊢
    have hq : resV q = .tup [.c (if q.2 = 0 then .fz (q.1.map jb) else .nils), .c (.int .i64 q.2)] := rfl
    rw [hq] at c4
    generalize (if q.2 = 0 then Ce.fz (q.1.map jb) else .nils) = z at c4 hq
    repeat' first|refine yaG ?_|((first|apply yG|apply yH|apply yI);exact rfl;(first|exact yX (enc := ja) rfl rfl rfl hk rfl|exact yX (enc := jb) rfl rfl rfl hk2 rfl|exact yX (enc := jc) rfl rfl rfl hj rfl))|refine yaC (c2) ?_|refine yaC (c3) ?_|refine yaC (c4) ?_|exact yaF|refine yaS ?_ ?_<;>intro _
    all_goals first
     | contradiction
     |(exfalso; omega)
     | exact .ret rfl (Fin.same hq.symm (zi _ _))
def whl : AFn := ⟨111,[.t 6,.t 7,.t 8],(oH [oBx 5 2,oP 6 (.mv (.k (.nils))),oMi 7 0,oMi 8 0] (oH [oM 20 0,oFa 21 1 5,oLf 22 21,oC 23 94 [.t 20,.t 22],oM 9 23] (oS (oD [[oM 25 1,oM 26 9,oIa 27 1 25 26,oLt 28 1 27,oFa 29 3 5,oLf 30 29],[oC 31 95 [.t 28,.t 30]],[oM 24 31],[oEx 32 24 0,oEx 33 24 1,oM 10 32],[oM 11 33]]) (oS (oH [oM 34 11,oUn 35 34] (oQ 35 (oH [oM 36 1,oM 6 36,oMi 7 8,oMi 8 0] .ret) .skip)) (oH [oM 37 10,oLn 38 37,oM 12 38] (oS (oH [oFa 39 0 5,oLf 40 39,oBk 41 .eql 40 1] (oQ 41 (oG [oFa 42 2 5,oLf 43 42,oLn 44 43,oM 12 44]) .skip)) (oH [oM 45 1,oM 13 45] (oH [oMi 14 0] (oS (oH [oMi 15 0] (.block 0 (.loop (oS (oH [oM 46 15,oM 47 12,oBt 48 .lss 46 47] (oQ 48 .skip (.exit 0))) (oS (.block 1 (oH [oMi 16 0] (oH [oP 51 (.mksl true 3 0 [.int .i64 0,.int .i64 0,.str []] []),oM 17 51] (oS (oH [oFa 52 0 5,oLf 53 52,oBk 54 .eql 53 1] (oQ 54 (oG [oFa 55 2 5,oLf 56 55,oM 57 15,oIa 58 2 56 57,oFa 59 1 58,oLf 60 59,oM 17 60]) (oH [oM 61 10,oM 62 15,oIa 63 1 61 62,oLf 64 63,oM 16 64] (oH [oM 65 13,oM 66 9,oIa 67 1 65 66,oLt 68 1 67,oM 69 16,oC 70 42 [.t 68,.t 69],oBk 71 .lss 70 0] (oQ 71 (.exit 1) .skip))))) (oH [oM 73 0,oM 74 13,oM 75 9,oLt 76 6 5,oM 77 16,oM 78 17,oC 79 156 [.t 73,.t 74,.t 75,.t 76,.t 77,.t 78],oM 72 79,oEx 80 72 0,oEx 81 72 1,oM 18 80,oM 19 81] (.block 2 (oH [oM 85 19,oBk 86 .eql 85 0,oM 84 86] (oQ 84 (oH [oM 87 18,oM 13 87] (oG [oM 88 14,oBk 89 .add 88 1,oM 14 89])) (oH [oFa 91 5 5,oLf 92 91,oBk 93 .eql 92 2,oM 94 93,otm 95 19 94,otc 96 97 [.t 95,(kI 2),(kI 4)] 94,oPa 97 94 96,oM 90 97] (oQ 90 .skip (oH [oFa 99 5 5,oLf 100 99,oBk 101 .eql 100 1,oM 102 101,otm 103 19 102,oT 104 (.bin .neq (.t 103) (kI 5)) 102,oPa 105 102 104,oM 98 105] (oQ 98 (oH [oM 106 13,oM 107 19,oM 108 14,oM 6 106,oM 7 107,oM 8 108] .ret) (oH [oM 82 1,oM 83 19,oM 6 82,oM 7 83,oMi 8 0] .ret))))))))))))) (oG [oM 49 15,oBk 50 .add 49 1,oM 15 50])))))) (oH [oM 109 13,oM 110 14,oM 6 109,oMi 7 0,oM 8 110] .ret))))))))))⟩
theorem jeo : wc Tryz.prog [5, 51] 80 = some whl := by kernel_rfl
theorem zkf {s : List zd} (hs : SchG s) {k : Nat} (hk : k < s.length) {x : Stmt} {vals : List Val} (hf : fitF s[k] vals = true) {db : List Data} (h : DbG BI s db) (h0 : (insJ s k x vals db).2 = 0) : DbG BI s (insJ s k x vals db).1 := by
 have hva := zfk hf (hs.tab _ (yab hk)).cols8
 have := znp hs hk (rep := x.policy == 3) (whu hs hk (wck hf).1 hva (x.policy == 3)) (jl4 h hk)
 rw [insJ, zw hk] at h0 ⊢
 exact this h0
theorem jl6 {s : List zd} (hs : SchG s) {k : Nat} (hk : k < s.length) {x : Stmt} (hG : StG s[k] x) {r : RowD} {db : List Data} (h : DbG BI s db) (hr : r ∈ zt db k) (h0 : (rowJ s k x r db).2 = 0) : DbG BI s (rowJ s k x r db).1 := by
 obtain ⟨hfl, hfv⟩ := (h.at hk).fit r hr
 have hkp := wa4 (I := BI) hs 13
 revert h0
 rw [rowJ]
 split
 ·exact hkp (.del k r.id) db h hk
 ·rw [zw hk]
  cases hvf : zaz s[k] r.vals x.sets r.vals with
  | none => exact fun h => by cases h
  | some nv =>
   have hl2 : nv.length = s[k].cols.length := (wd2 hvf).trans hfl
   have hok2 : jq nv 16 = true := je.2 ⟨by rw [hl2, <- hfl]; exact (je.1 hfv).1, zd3 (je.1 hfv).2 (n := s[k].cols.length) (by rw [hfl]) hG.sets.2 (je.1 hfv).2 hvf⟩
   exact hkp (.upd k r.id nv (x.policy == 3)) db h ⟨hk, hl2, hok2⟩
theorem wm7 {s : List zd} (hs : SchG s) {k : Nat} (hk : k < s.length) {x : Stmt} (hG : StG s[k] x) {id : Int} {db : List Data} (h : DbG BI s db) (h0 : (idJ s k x id db).2 = 0) : DbG BI s (idJ s k x id db).1 := by
 revert h0
 rw [idJ]
 cases hb : zat (zt db k) id with
 | none => exact fun h => by cases h
 | some r => exact jl6 hs hk hG h (zak hb).1
def Cod (run : Chg -> List Data -> Res) : Prop := ∀ op db, 0 <= (run op db).2
section
variable {run : Chg -> List Data -> Res}
theorem jco (hr : Cod run) {n : Nat} : ∀ (l : List Int) (db : List Data), 0 <= (j4 run n l db).2
 | [], _ => ybf _
 | id :: l, db => by
  rw [j4]
  split
  ·exact jco hr l db
  ·split
   ·exact jco hr l _
   ·exact hr _ _
theorem whx (hr : Cod run) {t : zd} {n : Nat} {x : RowD} {rep : Bool} {db : List Data} : 0 <= (w7 run t n x rep db).2 := by
 rw [w7]
 split
 ·exact (by decide : (0 : Int) <= 4)
 ·exact jco hr _ _
theorem jmx (hr : Cod run) {n : Nat} {y : Way} {wth : List Val} {gone : Bool} {x : RowD} {db : List Data} : 0 <= (oneF run n y wth gone x db).2 := by
 rw [oneF]
 split
 ·split
  ·exact ybf _
  ·exact (by decide : (0 : Int) <= 5)
 ·split
  ·exact hr _ _
  ·exact hr _ _
theorem zb6 (hr : Cod run) {n : Nat} {y : Way} {key wth : List Val} {gone : Bool} : ∀ (l : List Int) (db : List Data), 0 <= (w9 run n y key wth gone l db).2
 | [], _ => ybf _
 | id :: l, db => by
  rw [w9]
  cases zat (zt db n) id with
  | none => exact zb6 hr l db
  | some x =>
   simp only
   split
   ·split
    ·exact zb6 hr l _
    ·exact jmx hr
   ·exact zb6 hr l db
theorem weo (hr : Cod run) {name : List UInt8} {i : Nat} {key wth : List Val} {gone : Bool} : ∀ (l : List Fk) (db : List Data), 0 <= (za1 run name i key wth gone l db).2
 | [], _ => ybf _
 | f :: l, db => by
  rw [za1]
  split
  ·split
   ·exact weo hr l _
   ·exact zb6 hr _ _
  ·exact weo hr l db
theorem wco (hr : Cod run) {name : List UInt8} {key wth : List Val} {gone : Bool} : ∀ (i : Nat) (l : List zd) (db : List Data), 0 <= (jae run name key wth gone i l db).2
 | _, [], _ => ybf _
 | i, t :: l, db => by
  rw [jae]
  split
  ·exact wco hr _ l _
  ·exact weo hr _ _
theorem jjo {t : zd} {vals : List Val} : 0 <= wbw t vals := by
 rw [wbw]
 split
 ·decide
 ·split <;> decide
theorem wl6 {s : List zd} {n : Nat} {id : Int} {db : List Data} : 0 <= (ja4 s n id db).2 := by
 rw [ja4]
 cases zat (zt db n) id with
 | none => exact ybf _
 | some y =>
  simp only
  split
  ·exact (by decide : (0 : Int) <= 5)
  ·exact ybf _
theorem wmx (hr : Cod run) {s : List zd} {n : Nat} {id : Int} {vals : List Val} {rep : Bool} {db : List Data} : 0 <= (updF run s n id vals rep db).2 := by
 rw [updF]
 split
 ·rw [upd1]
  split
  ·cases zat (zt (w7 run (tabN s n) n ⟨id, vals⟩ rep db).1 n) id with
   | none => exact (by decide : (0 : Int) <= 9)
   | some old =>
    simp only [upd3]
    split
    ·exact wl6
    ·rw [upd2]
     split
     ·exact ybf _
     ·exact wco hr _ _ _
  ·exact whx hr
 ·exact jjo
end
theorem jd3 {s : List zd} : ∀ k, Cod (chgF s k)
 | 0, op, db => by rw [chgF]; exact (by decide : (0 : Int) <= 6)
 | k + 1, .del n id, db => by
  rw [chgF]
  cases zat (zt db n) id with
  | none => exact (by decide : (0 : Int) <= 9)
  | some x => exact wco (jd3 k) _ _ _
 | k + 1, .upd n id vals rep, db => by
  rw [chgF]
  exact wmx (jd3 k)
theorem zmy {s : List zd} {k : Nat} {vals : List Val} {rep : Bool} {db : List Data} : 0 <= (insF (chgF s 12) s k vals rep db).2.2 := by
 rw [insF]
 split
 ·rw [insC]
  split
  ·rw [insD]
   split
   ·exact (by decide : (0 : Int) <= 7)
   ·rw [insE]
    split
    ·exact (by decide : (0 : Int) <= 5)
    ·exact ybf _
  ·exact whx (jd3 12)
 ·exact jjo
theorem jmy {s : List zd} {k : Nat} {x : Stmt} {vals : List Val} {db : List Data} : 0 <= (insJ s k x vals db).2 := zmy
theorem wmy {s : List zd} {k : Nat} {x : Stmt} {r : RowD} {db : List Data} : 0 <= (rowJ s k x r db).2 := by
 rw [rowJ]
 split
 ·exact jd3 13 _ _
 ·cases zaz (tabN s k) r.vals x.sets r.vals with
  | none => exact (by decide : (0 : Int) <= 8)
  | some nv => exact jd3 13 _ _
def insV (q : Ins) : AV := .tup [.c (.fz (q.1.map jb)), .c (.int .i64 q.2.1), .c (.int .i64 q.2.2)]
theorem zep {l : List RowD} {w : List Tok} : (zad l w).1.length <= l.length := by
 have key : ∀ (l : List RowD) (acc ids : List Int), zae w l acc = some ids -> ids.length <= acc.length + l.length := by
  intro l
  induction l with
  | nil => intro acc ids h; injection h with h; rw [<- h]; simp
  | cons r l ih =>
   intro acc ids h
   rw [zae] at h
   split at h
   ·cases h
   ·have := ih _ _ h
    split at this
    ·simp at this ⊢; omega
    ·simp at this ⊢; omega
 rw [zad]
 cases h : zae w l [] with
 | none => simp
 | some ids => simpa using key l [] ids h
set_option maxHeartbeats 4000000 in
theorem zl7 {s : List zd} (hs : SchG s) {k : Nat} (hk : k < s.length) (x : Stmt) (hG : StG s[k] x) (hidx : idxA (fun u : zd => u.name == x.table) s 0 = (k : Int)) (db : List Data) (h : DbG BI s db) :
 Pure Tryz.prog 80 [.c (.fz (s.map ja)), .c (.fz (db.map jb)), .agg (ji x)] (insV (wfh s k x db)) := by
 refine Pure.run mixed jeo (yaa rfl) fun σ hS hA => ?_
 clear hA hS
 have hk2 : k < db.length := by rw [h.len]; exact hk
 have hR := h.rows k hk hk2
 have c1 := wgn s x.table (yah hs.few (by decide))
 rw [hidx] at c1
 have c2 := NewV.pure (wio db[k] x.wher (yah hR.len (by decide)) (yah hG.wher.1 (by decide)) fun h0 r hr => ⟨(hR.fit r hr).2, by rw [(hR.fit r hr).1]; exact hG.wher.2 h0⟩)
 have hml := zep (l := db[k].rows) (w := x.wher)
 have hr60 := hR.len
 have hr8 := hG.rows.1
 rw [wfh, wl5, wg hk2]
 generalize zad db[k].rows x.wher = mf at c2 hml ⊢
 obtain ⟨ids, b⟩ := mf
 simp only at c2 hml ⊢
 cases b
 ·rw [if_neg yaj]
  repeat' first|refine yaG ?_|((first|apply yG|apply yH|apply yI);exact rfl;(first|exact yX (enc := jb) rfl rfl rfl hk2 rfl))|refine yaC (c1) ?_|refine yaC (c2) ?_|exact yaF|refine yaS ?_ ?_<;>intro _
  exact .ret rfl (Fin.same rfl (wao _ _ _ _))
 ·rw [if_pos rfl]
  by_cases hx : x.kind = 1
  ·rw [if_pos hx]
   have hx1 : (x.kind == 1) = true := beq_iff_eq.2 hx
   repeat' first|refine yaG ?_|((first|apply yG|apply yH|apply yI);exact rfl;(first|exact yX (enc := jb) rfl rfl rfl hk2 rfl))|refine yaC (c1) ?_|refine yaC (c2) ?_|exact yaF|refine yaS ?_ ?_<;>intro _
   all_goals first
    | contradiction
    | skip
   refine Go.keep [0, 1, 5, 9, 10, 12, 13, 14, 15] (Go.loops (I := fun m fr τ => ∃ (i : Nat) (ki : Int) (now : List Data) (mc : Nat) (km : Int), m = x.rows.length - i /\ i <= x.rows.length /\ ki = i /\ (DbG BI s now /\ mc <= i /\ km = mc /\ wbx db x (x.rows.map fun r => insJ s k x r.vals) db 0 = wbx db x ((x.rows.drop i).map fun r => insJ s k x r.vals) now km) /\
    fr = [(0, .c (.fz (s.map ja))), (1, .c (.fz (db.map jb))), (5, .c (.fp (ji x))), (9, .c (.int .i64 (k : Int))), (10, .c (.fz (ids.map encI))), (12, .c (.int .i64 (x.rows.length : Int))), (13, .c (.fz (now.map jb))), (14, .c (.int .i64 km)), (15, .c (.int .i64 ki))] /\ τ = E σ []) ?_ _ _ _ ⟨0, _, db, 0, _, rfl, yae _, rfl, ⟨h, yak _, rfl, rfl⟩, rfl, rfl⟩)
   rintro m fr τ ⟨i, ki, now, mc, km, rfl, hi, hki, ⟨hnow, hmc, hkm, hst⟩, rfl, rfl⟩ hrec
   by_cases hlt : i < x.rows.length
   ·have hfit := hG.rows.2 _ (yab hlt)
    have hw1 : IntKind.i64.wrap (km + 1) = km + 1 := jf (by omega) (by omega)
    have c3 := jke hs hk x hx 0 x.rows[i].vals hfit now hnow
    have hkp := zkf hs hk (x := x) hfit hnow
    have hcd := jmy (s := s) (k := k) (x := x) (vals := x.rows[i].vals) (db := now)
    rw [yac hlt, List.map_cons, wbx] at hst
    generalize insJ s k x x.rows[i].vals now = q at c3 hkp hst hcd
    have hne : ¬ q.2 = -1 := by omega
    by_cases hq : q.2 = 0
    ·rw [if_pos hq] at hst
     rw [z9 hq] at c3
     have hnq := hkp hq
     rw [<- hw1] at hst
     repeat' first|refine yaG ?_|((first|apply yG|apply yH|apply yI);exact rfl;(first|exact yX (enc := jc) rfl rfl hki hlt rfl))|refine yaC (c3) ?_|exact yaF|refine yaS ?_ ?_<;>intro _
     all_goals first
      | contradiction
      | exact Go.keep [0, 1, 5, 9, 10, 12, 13, 14, 15] (hrec _ _ _ (by omega) ⟨i + 1, _, q.1, mc + 1, _, rfl, hlt, wb hki (by omega), ⟨hnq, by omega, wb hkm (by omega), hst⟩, rfl, rfl⟩)
    ·obtain ⟨e, he⟩ : ∃ e, q.2 = e := ⟨_, rfl⟩
     rw [if_neg hq, he] at hst
     rw [he] at hq hne
     rw [wae he hq] at c3
     have c4 := wau e 2 4
     rw [zk9] at hst
     by_cases hp : x.policy = 2
     ·rw [beq_iff_eq.2 hp, yay] at hst
      have hp1 : ¬ x.policy = 1 := by omega
      cases hin : isIn e 2 4
      ·rw [hin] at c4 hst
       rw [if_neg (fun h => by rcases h with h | h; exact hne h; cases h), if_neg (fun h => hp1 h.1)] at hst
       rw [hst]
       repeat' first|refine yaG ?_|((first|apply yG|apply yH|apply yI);exact rfl;(first|exact yX (enc := jc) rfl rfl hki hlt rfl))|refine yaC (c4) ?_|refine yaC (c3) ?_|exact yaF|refine yaS ?_ ?_<;>intro _
       all_goals first
        | contradiction
        | exact .ret rfl (Fin.same rfl (wao _ _ _ _))
        |(exfalso; simp_all; done)
      ·rw [hin] at c4 hst
       rw [if_pos (.inr rfl)] at hst
       repeat' first|refine yaG ?_|((first|apply yG|apply yH|apply yI);exact rfl;(first|exact yX (enc := jc) rfl rfl hki hlt rfl))|refine yaC (c4) ?_|refine yaC (c3) ?_|exact yaF|refine yaS ?_ ?_<;>intro _
       all_goals first
        | contradiction
        | exact Go.keep [0, 1, 5, 9, 10, 12, 13, 14, 15] (hrec _ _ _ (by omega) ⟨i + 1, _, now, mc, _, rfl, hlt, wb hki (by omega), ⟨hnow, by omega, hkm, hst⟩, rfl, rfl⟩)
        |(exfalso; simp_all; done)
     ·rw [beq_eq_false_iff_ne.2 hp, ybe, if_neg (fun h => by rcases h with h | h; exact hne h; cases h)] at hst
      by_cases hp1 : x.policy = 1
      ·by_cases h5 : e = 5
       ·rw [if_neg (fun h => h.2 h5)] at hst
        rw [hst]
        repeat' first|refine yaG ?_|((first|apply yG|apply yH|apply yI);exact rfl;(first|exact yX (enc := jc) rfl rfl hki hlt rfl))|refine yaC (c4) ?_|refine yaC (c3) ?_|exact yaF|refine yaS ?_ ?_<;>intro _
        all_goals first
         | contradiction
         | exact .ret rfl (Fin.same rfl (wao _ _ _ _))
         |(exfalso; simp_all; done)
       ·rw [if_pos ⟨hp1, h5⟩] at hst
        rw [hst]
        repeat' first|refine yaG ?_|((first|apply yG|apply yH|apply yI);exact rfl;(first|exact yX (enc := jc) rfl rfl hki hlt rfl))|refine yaC (c4) ?_|refine yaC (c3) ?_|exact yaF|refine yaS ?_ ?_<;>intro _
        all_goals first
         | contradiction
         | exact .ret rfl (Fin.same rfl (wao _ _ _ _))
         |(exfalso; simp_all; done)
      ·rw [if_neg (fun h => hp1 h.1)] at hst
       rw [hst]
       repeat' first|refine yaG ?_|((first|apply yG|apply yH|apply yI);exact rfl;(first|exact yX (enc := jc) rfl rfl hki hlt rfl))|refine yaC (c4) ?_|refine yaC (c3) ?_|exact yaF|refine yaS ?_ ?_<;>intro _
       all_goals first
        | contradiction
        | exact .ret rfl (Fin.same rfl (wao _ _ _ _))
        |(exfalso; simp_all; done)
   ·rw [yad (by omega), List.map_nil, wbx] at hst
    rw [hst]
    repeat' first|refine yaG ?_|exact yaF|refine yaS ?_ ?_<;>intro _
    exact .ret rfl (Fin.same rfl (wao _ _ _ _))
  ·rw [if_neg hx]
   repeat' first|refine yaG ?_|((first|apply yG|apply yH|apply yI);exact rfl;(first|exact yX (enc := jb) rfl rfl rfl hk2 rfl))|refine yaC (c1) ?_|refine yaC (c2) ?_|exact yaF|refine yaS ?_ ?_<;>intro _
   all_goals first
    | contradiction
    | skip
   refine Go.keep [0, 1, 5, 9, 10, 12, 13, 14, 15] (Go.loops (I := fun m fr τ => ∃ (i : Nat) (ki : Int) (now : List Data) (mc : Nat) (km : Int), m = ids.length - i /\ i <= ids.length /\ ki = i /\ (DbG BI s now /\ mc <= i /\ km = mc /\ wbx db x (ids.map fun id => idJ s k x id) db 0 = wbx db x ((ids.drop i).map fun id => idJ s k x id) now km) /\
    fr = [(0, .c (.fz (s.map ja))), (1, .c (.fz (db.map jb))), (5, .c (.fp (ji x))), (9, .c (.int .i64 (k : Int))), (10, .c (.fz (ids.map encI))), (12, .c (.int .i64 (ids.length : Int))), (13, .c (.fz (now.map jb))), (14, .c (.int .i64 km)), (15, .c (.int .i64 ki))] /\ τ = E σ []) ?_ _ _ _ ⟨0, _, db, 0, _, rfl, yae _, rfl, ⟨h, yak _, rfl, rfl⟩, rfl, rfl⟩)
   rintro m fr τ ⟨i, ki, now, mc, km, rfl, hi, hki, ⟨hnow, hmc, hkm, hst⟩, rfl, rfl⟩ hrec
   by_cases hlt : i < ids.length
   ·have hw1 : IntKind.i64.wrap (km + 1) = km + 1 := jf (by omega) (by omega)
    have hn3 : k < now.length := by rw [hnow.len]; exact hk
    have hRn := hnow.rows k hk hn3
    rw [yac hlt, List.map_cons, wbx] at hst
    have c5 := wax now[k] ids[i] (yah hRn.len (by decide))
    rcases wo now[k].rows ids[i] with ⟨hx1, hx2⟩ | ⟨j, hj, hx1, hx2⟩
    ·rw [hx1] at c5
     have hno : idJ s k x ids[i] now = ([], -1) := by rw [idJ, wg hn3, hx2]
     rw [hno, if_neg (by decide), if_pos (.inl rfl)] at hst
     repeat' first|refine yaG ?_|((first|apply yG|apply yH|apply yI);exact rfl;(first|exact yX (enc := encI) rfl rfl hki hlt rfl|exact yX (enc := jb) rfl rfl rfl hn3 rfl))|refine yaC (c5) ?_|exact yaF|refine yaS ?_ ?_<;>intro _
     all_goals first
      | contradiction
      | exact Go.keep [0, 1, 5, 9, 10, 12, 13, 14, 15] (hrec _ _ _ (by omega) ⟨i + 1, _, now, mc, _, rfl, hlt, wb hki (by omega), ⟨hnow, by omega, hkm, hst⟩, rfl, rfl⟩)
    ·rw [hx1] at c5
     have hrow : zat (zt now k) ids[i] = some now[k].rows[j] := by rw [wg hn3]; exact hx2
     have hno : idJ s k x ids[i] now = rowJ s k x now[k].rows[j] now := by rw [idJ, hrow]
     rw [hno] at hst
     have c3 := wke hs hk x hG hx ids[i] [] now hnow hrow
     have hkp := jl6 hs hk hG hnow (zak hrow).1
     have hcd := wmy (s := s) (k := k) (x := x) (r := now[k].rows[j]) (db := now)
     generalize rowJ s k x now[k].rows[j] now = q at c3 hkp hst hcd
     have hne : ¬ q.2 = -1 := by omega
     by_cases hq : q.2 = 0
     ·rw [if_pos hq] at hst
      rw [z9 hq] at c3
      have hnq := hkp hq
      rw [<- hw1] at hst
      repeat' first|refine yaG ?_|((first|apply yG|apply yH|apply yI);exact rfl;(first|exact yX (enc := encI) rfl rfl hki hlt rfl|exact yX (enc := jb) rfl rfl rfl hn3 rfl))|refine yaC (c5) ?_|refine yaC (c3) ?_|exact yaF|refine yaS ?_ ?_<;>intro _
      all_goals first
       | contradiction
       | exact Go.keep [0, 1, 5, 9, 10, 12, 13, 14, 15] (hrec _ _ _ (by omega) ⟨i + 1, _, q.1, mc + 1, _, rfl, hlt, wb hki (by omega), ⟨hnq, by omega, wb hkm (by omega), hst⟩, rfl, rfl⟩)
     ·obtain ⟨e, he⟩ : ∃ e, q.2 = e := ⟨_, rfl⟩
      rw [if_neg hq, he] at hst
      rw [he] at hq hne
      rw [wae he hq] at c3
      have c4 := wau e 2 4
      rw [zk9] at hst
      by_cases hp : x.policy = 2
      ·rw [beq_iff_eq.2 hp, yay] at hst
       have hp1 : ¬ x.policy = 1 := by omega
       cases hin : isIn e 2 4
       ·rw [hin] at c4 hst
        rw [if_neg (fun h => by rcases h with h | h; exact hne h; cases h), if_neg (fun h => hp1 h.1)] at hst
        rw [hst]
        repeat' first|refine yaG ?_|((first|apply yG|apply yH|apply yI);exact rfl;(first|exact yX (enc := encI) rfl rfl hki hlt rfl|exact yX (enc := jb) rfl rfl rfl hn3 rfl))|refine yaC (c4) ?_|refine yaC (c5) ?_|refine yaC (c3) ?_|exact yaF|refine yaS ?_ ?_<;>intro _
        all_goals first
         | contradiction
         | exact .ret rfl (Fin.same rfl (wao _ _ _ _))
         |(exfalso; simp_all; done)
       ·rw [hin] at c4 hst
        rw [if_pos (.inr rfl)] at hst
        repeat' first|refine yaG ?_|((first|apply yG|apply yH|apply yI);exact rfl;(first|exact yX (enc := encI) rfl rfl hki hlt rfl|exact yX (enc := jb) rfl rfl rfl hn3 rfl))|refine yaC (c4) ?_|refine yaC (c5) ?_|refine yaC (c3) ?_|exact yaF|refine yaS ?_ ?_<;>intro _
        all_goals first
         | contradiction
         | exact Go.keep [0, 1, 5, 9, 10, 12, 13, 14, 15] (hrec _ _ _ (by omega) ⟨i + 1, _, now, mc, _, rfl, hlt, wb hki (by omega), ⟨hnow, by omega, hkm, hst⟩, rfl, rfl⟩)
         |(exfalso; simp_all; done)
      ·rw [beq_eq_false_iff_ne.2 hp, ybe, if_neg (fun h => by rcases h with h | h; exact hne h; cases h)] at hst
       by_cases hp1 : x.policy = 1
       ·by_cases h5 : e = 5
        ·rw [if_neg (fun h => h.2 h5)] at hst
         rw [hst]
         repeat' first|refine yaG ?_|((first|apply yG|apply yH|apply yI);exact rfl;(first|exact yX (enc := encI) rfl rfl hki hlt rfl|exact yX (enc := jb) rfl rfl rfl hn3 rfl))|refine yaC (c4) ?_|refine yaC (c5) ?_|refine yaC (c3) ?_|exact yaF|refine yaS ?_ ?_<;>intro _
         all_goals first
          | contradiction
          | exact .ret rfl (Fin.same rfl (wao _ _ _ _))
          |(exfalso; simp_all; done)
        ·rw [if_pos ⟨hp1, h5⟩] at hst
         rw [hst]
         repeat' first|refine yaG ?_|((first|apply yG|apply yH|apply yI);exact rfl;(first|exact yX (enc := encI) rfl rfl hki hlt rfl|exact yX (enc := jb) rfl rfl rfl hn3 rfl))|refine yaC (c4) ?_|refine yaC (c5) ?_|refine yaC (c3) ?_|exact yaF|refine yaS ?_ ?_<;>intro _
         all_goals first
          | contradiction
          | exact .ret rfl (Fin.same rfl (wao _ _ _ _))
          |(exfalso; simp_all; done)
       ·rw [if_neg (fun h => hp1 h.1)] at hst
        rw [hst]
        repeat' first|refine yaG ?_|((first|apply yG|apply yH|apply yI);exact rfl;(first|exact yX (enc := encI) rfl rfl hki hlt rfl|exact yX (enc := jb) rfl rfl rfl hn3 rfl))|refine yaC (c4) ?_|refine yaC (c5) ?_|refine yaC (c3) ?_|exact yaF|refine yaS ?_ ?_<;>intro _
        all_goals first
         | contradiction
         | exact .ret rfl (Fin.same rfl (wao _ _ _ _))
         |(exfalso; simp_all; done)
   ·rw [yad (by omega), List.map_nil, wbx] at hst
    rw [hst]
    repeat' first|refine yaG ?_|exact yaF|refine yaS ?_ ?_<;>intro _
    exact .ret rfl (Fin.same rfl (wao _ _ _ _))
set_option maxHeartbeats 1000000 in
theorem jk9 (t : zd) (x : Stmt) (old : List Val) (hl : old.length = t.cols.length) (h0 : old ≠ []) (hv : jq old 16 = true) (hs : x.sets.length <= 34359738368) (ha : ∀ a ∈ x.sets, zck t.cols.length a = true) :
 Pure Tryz.prog 226 [.agg (ji x), .agg (ja t), .c (.fz (old.map encV))] (jnp (zaz t old x.sets old)) := by
 refine Pure.run mixed wdu (yaa rfl) fun σ hS hA => ?_
 clear hA hS
 obtain ⟨hv16, hvo⟩ := je.1 hv
 have cm := jaq old h0 (yah hv16 (by decide)) (E σ [])
 repeat' first|refine yaG ?_|exact yaF|refine yaS ?_ ?_<;>intro _
 refine .call _ rfl rfl rfl cm ?_
 rintro q τ9 ⟨v, junk, hj, hq, ht⟩
 rw [hq, ht, E_E]
 clear hq ht cm
 repeat' first|refine yaG ?_|exact yaF|refine yaS ?_ ?_<;>intro _
 refine Go.keep [2, 3, 4, 8, 16, 17, 18] (Go.loops (I := fun m fr τ => ∃ (i : Nat) (k : Int) (cur : List Val), m = x.sets.length - i /\ i <= x.sets.length /\ k = i /\ (cur.length = old.length /\ zaz t old x.sets old = zaz t old (x.sets.drop i) cur) /\
  fr = [(2, .c (.fz (old.map encV))), (3, .c (.fp (ji x))), (4, .c (.fp (ja t))), (8, .c (vec (σ.next + 0) v (old.map encV) junk)), (16, .c (.fz (x.sets.map jg))), (17, .c (.int .i64 (x.sets.length : Int))), (18, .c (.int .i64 k))] /\ τ = E σ [(v, cur.map encV ++ junk)]) ?_ _ _ _ ⟨0, _, old, rfl, yae _, rfl, ⟨rfl, rfl⟩, rfl, rfl⟩)
 rintro m fr τ ⟨i, k, cur, rfl, hi, hk, ⟨hcl, hst⟩, rfl, rfl⟩ hrec
 by_cases hlt : i < x.sets.length
 ·have hsa := ha _ (yab hlt)
  rw [zck, yat] at hsa
  obtain ⟨hcol, hex⟩ := hsa
  obtain ⟨q1, q2⟩ := wlw hcol
  rw [<- hl] at hex
  obtain ⟨he1, he2⟩ := zbw hex
  have hcc : x.sets[i].col = (x.sets[i].col.toNat : Int) := by omega
  have hct : x.sets[i].col.toNat < t.cols.length := by omega
  have hcv : x.sets[i].col.toNat < cur.length := by omega
  have hcm : x.sets[i].col.toNat < (old.map encV).length := by rw [yag]; omega
  have hkd : jcz t x.sets[i].col = t.cols[x.sets[i].col.toNat].kind := wa8 hcc hct
  have c1 := wlp x.sets[i].expr old (by omega) (yah hv16 (by decide))
  rw [jgo, wes, hv, hex, yay, if_pos rfl] at c1
  have hwo := zko hvo hex
  rw [yac hlt, zaz, hkd] at hst
  generalize jba x.sets[i].expr old = ev at c1 hst hwo
  obtain ⟨w, b⟩ := ev
  simp only at c1 hst hwo
  have c2 := zj4 w t.cols[x.sets[i].col.toNat].kind
  cases b
  ·rw [ybe, if_neg yaj] at hst
   rw [hst]
   repeat' first|refine yaG ?_|((first|apply yG|apply yH|apply yI);exact rfl;(first|exact yX (enc := jg) rfl rfl hk hlt rfl|exact yX (enc := zg) rfl rfl hcc hct rfl))|refine yaC (c1) ?_|refine yaC (c2) ?_|exact yaF|refine yaS ?_ ?_<;>intro _
   all_goals first
    | exact .ret rfl ⟨_, rfl, wir⟩
    |(exfalso; simp_all; done)
  ·rw [jgn, hwo rfl, yay] at c2
   rw [yay] at hst
   have hgo : zaz t old x.sets old = zaz t old (x.sets.drop (i + 1)) (cur.set x.sets[i].col.toNat w) -> ∃ (j : Nat) (kj : Int) (cur' : List Val), x.sets.length - (i + 1) = x.sets.length - j /\ j <= x.sets.length /\ kj = j /\ (cur'.length = old.length /\ zaz t old x.sets old = zaz t old (x.sets.drop j) cur') /\ [(2, AV.c (.fz (old.map encV))), (3, .c (.fp (ji x))), (4, .c (.fp (ja t))), (8, .c (vec (σ.next + 0) v (old.map encV) junk)), (16, .c (.fz (x.sets.map jg))), (17, .c (.int .i64 (x.sets.length : Int))), (18, .c (.int .i64 (IntKind.i64.wrap (k + 1))))] = [(2, AV.c (.fz (old.map encV))), (3, .c (.fp (ji x))), (4, .c (.fp (ja t))), (8, .c (vec (σ.next + 0) v (old.map encV) junk)), (16, .c (.fz (x.sets.map jg))), (17, .c (.int .i64 (x.sets.length : Int))), (18, .c (.int .i64 kj))] /\ E σ [(v, (cur.map encV ++ junk).set (0 + x.sets[i].col.toNat) (jh (encV cur[x.sets[i].col.toNat]) 0 (encV w)))] = E σ [(v, cur'.map encV ++ junk)] := fun h => ⟨i + 1, _, _, rfl, hlt, wb hk (by omega), ⟨by rw [yar]; exact hcl, h⟩, rfl, congrArg (E σ) (congrArg (fun z => [(v, z)]) (zb5 hcv _ w))⟩
   generalize hbb : (w.k == 0 || w.k == t.cols[x.sets[i].col.toNat].kind) = bb at c2 hst
   cases bb
   ·rw [if_neg yaj] at hst
    rw [hst]
    repeat' first|refine yaG ?_|((first|apply yG|apply yH|apply yI);exact rfl;(first|exact yX (enc := jg) rfl rfl hk hlt rfl|exact yX (enc := zg) rfl rfl hcc hct rfl))|refine yaC (c1) ?_|refine yaC (c2) ?_|exact yaF|refine yaS ?_ ?_<;>intro _
    all_goals first
     | exact .ret rfl ⟨_, rfl, wir⟩
     |(exfalso; simp_all; done)
   ·rw [if_pos rfl] at hst
    repeat' first|refine yaG ?_|((first|apply yG|apply yH|apply yI);exact rfl;(first|exact yX (enc := jg) rfl rfl hk hlt rfl|exact yX (enc := zg) rfl rfl hcc hct rfl|exact z3 (k := 0) rfl rfl hcc hcm rfl (wan hcv) rfl|exact jm (k := 0) rfl rfl rfl rfl (wan hcv) rfl (yaa rfl)))|refine yaC (c1) ?_|refine yaC (c2) ?_|exact yaF|refine yaS ?_ ?_<;>intro _
    all_goals first
     | exact Go.keep [2, 3, 4, 8, 16, 17, 18] (hrec _ _ _ (by omega) (hgo hst))
     |(exfalso; simp_all; done)
 ·clear hrec
  rw [yad (by omega), zaz] at hst
  rw [hst]
  repeat' first|refine yaG ?_|exact yaF|refine yaS ?_ ?_<;>intro _
  refine .ret rfl ⟨_, rfl, ?_⟩
  have hvv : vec (σ.next + 0) v (old.map encV) junk = vec (σ.next + 0) v (cur.map encV) junk := by rw [vec, vec, yag, yag, hcl]
  rw [hvv]
  refine .tup rfl fun j hj => ?_
  have hj2 : j < 2 := hj
  have hj3 : j = 0 \/ j = 1 := by omega
  rcases hj3 with rfl | rfl
  ·exact jbr (k := 0) rfl (fun e he x hx => ((jgz e he).2 x hx).old _) (yak _)
  ·exact .c (.same _ (.bool _))
theorem jep (a b c d : AV) : Pure Tryz.prog 86 [a, b, c, d] (.c (.int .i64 0)) := by
 refine Pure.run mixed wea (yaa rfl) fun σ hS hA => ?_
 clear hS hA
 repeat' first|refine yaG ?_|exact yaF|refine yaS ?_ ?_<;>intro _
 exact .ret rfl (.int rfl)
theorem jl7 (x : Stmt) (c : Int) : Pure Tryz.prog 167 [.agg (ji x), .c (.int .i64 c)] (.c (.bool (zk9 x c))) := by
 refine Pure.run mixed zcf (yaa rfl) fun σ hS hA => ?_
 clear hS hA
 rw [zk9]
 by_cases hp : x.policy = 2
 ·rw [beq_iff_eq.2 hp, yay]
  by_cases h2 : c = 2
  ·subst h2
   repeat' first|refine yaG ?_|exact yaF|refine yaS ?_ ?_<;>intro _
   all_goals first
    | contradiction
    | exact .ret rfl (.bool rfl)
  ·by_cases h3 : c = 3
   ·subst h3
    repeat' first|refine yaG ?_|exact yaF|refine yaS ?_ ?_<;>intro _
    all_goals first
     | contradiction
     | exact .ret rfl (.bool rfl)
   ·by_cases h4 : c = 4
    ·subst h4
     repeat' first|refine yaG ?_|exact yaF|refine yaS ?_ ?_<;>intro _
     all_goals first
      | contradiction
      | exact .ret rfl (.bool rfl)
    ·have hf : isIn c 2 4 = false := by
      rw [isIn, Bool.and_eq_false_iff, decide_eq_false_iff_not, decide_eq_false_iff_not]
      omega
     rw [hf]
     repeat' first|refine yaG ?_|exact yaF|refine yaS ?_ ?_<;>intro _
     all_goals first
      | contradiction
      |(refine .ret rfl (.bool ?_); simp_all; done)
 ·rw [beq_eq_false_iff_ne.2 hp, ybe]
  repeat' first|refine yaG ?_|exact yaF|refine yaS ?_ ?_<;>intro _
  all_goals first
   | contradiction
   |(refine .ret rfl (.bool ?_); simp_all; done)
theorem zmz {L : ChL} {n : Nat} {s : List zd} (hs : SchG s) {k : Nat} (hk : k < s.length) (x : Stmt) (r : RowD) (hf : fitF s[k] r.vals = true) (db : List Data) (hdb : DbG BI s db) (xs : List Ce) (τ : wa) (h : zz L n s xs db τ) :
 Ok Tryz.prog 223 [.c (.ptr L.c L.vc 0 0), .c (.fp [.int .i64 (k : Int)]), .c (.fp (jc r)), .c (.fp [.bool (x.policy == 3)]), .c (.fp [.fn 86 [] []])] τ (Done L n s (insJ s k x r.vals db) τ) := by
 refine Ok.run0 mixed zcg (yaa rfl) fun hS hA => ?_
 clear hS hA
 have hva := zfk hf (hs.tab _ (yab hk)).cols8
 have c1 := zl4 hs hk r.vals (x.policy == 3) db rfl xs τ h (jl4 hdb hk) (wck hf).1 hva
 rw [insJ, zw hk]
 generalize insF (chgF s 12) s k (if (x.policy == 3) = true then zk s[k] 0 r.vals else r.vals) (x.policy == 3) db = q at c1 ⊢
 obtain ⟨qd, qi, qc⟩ := q
 repeat' first|refine yaG ?_|exact yaF|refine yaS ?_ ?_<;>intro _
 refine .call _ rfl rfl rfl c1 ?_
 rintro r9 τ2 ⟨hr9, hk2, hq2⟩
 rw [hr9]
 simp only at hq2 ⊢
 clear hr9 c1
 by_cases h0 : qc = 0
 ·subst h0
  repeat' first|refine yaG ?_|((first|apply yQ|apply yR|apply yS);(iterate 3 exact rfl);exact jep _ _ _ _)|exact yaF|refine yaS ?_ ?_<;>intro _
  exact .ret rfl ⟨rfl, hk2, hq2⟩
 ·repeat' first|refine yaG ?_|exact yaF|refine yaS ?_ ?_<;>intro _
  all_goals first
   | contradiction
   | exact .ret rfl ⟨rfl, hk2, hq2⟩
set_option maxHeartbeats 1000000 in
theorem jmz {L : ChL} {n : Nat} {s : List zd} (hs : SchG s) {k : Nat} (hk : k < s.length) (x : Stmt) (hG : StG s[k] x) (id : Int) (db : List Data) (hdb : DbG BI s db) (xs : List Ce) (τ : wa) (h : zz L n s xs db τ) :
 Ok Tryz.prog 225 [.c (.ptr L.c L.vc 0 0), .c (.fp [.int .i64 (k : Int)]), .c (.fp [.int .i64 id]), .c (.fp (ji x)), .c (.fp [.fz (s.map ja)]), .c (.fp [.bool (x.policy == 3)]), .c (.fp [.fn 86 [] []])] τ (Done L n s (idJ s k x id db) τ) := by
 refine Ok.run0 mixed jcg (yaa rfl) fun hS hA => ?_
 have hk2 : k < db.length := by rw [hdb.len]; exact hk
 have hk3 : k < xs.length := by rw [h.len]; exact hk2
 have hR := hdb.rows k hk hk2
 have ht := hs.tab _ (yab hk)
 have cf := jen h hk2 hk3 id hR.len
 have hrun := wl1 (I := BI) (L := L) (n := n) hs 13 0 (by decide) rfl
 rw [idJ, wg hk2]
 repeat' first|refine yaG ?_|exact yaF|refine yaS ?_ ?_<;>intro _
 rcases wo db[k].rows id with ⟨hx1, hx2⟩ | ⟨j, hj, hx1, hx2⟩
 ·rw [hx2]
  refine .call _ rfl rfl rfl (cf.1 hx2) ?_
  rintro r9 τ9 ⟨hr9, ht9⟩
  rw [hr9, ht9]
  repeat' first|refine yaG ?_|exact yaF|refine yaS ?_ ?_<;>intro _
  exact .ret rfl ⟨rfl, .refl, fun h => by cases h⟩
 ·rw [hx2]
  show Go _ _ _ _ (Done L n s (rowJ s k x db[k].rows[j] db) τ) _ _ _
  have hrow : zat (zt db k) id = some db[k].rows[j] := by rw [wg hk2]; exact hx2
  have hid : db[k].rows[j].id = id := (zak hrow).2
  obtain ⟨hfl, hfv⟩ := hR.fit _ (yab hj)
  have hne : db[k].rows[j].vals ≠ [] := fun e => by
   rw [e] at hfl
   have := ht.cols0
   simp at hfl
   omega
  obtain ⟨lab2, ps2, id2, v2, junk2, hat, hl2⟩ := h.any hk2 hk3
  refine .call _ rfl rfl rfl (cf.2 j hj hx1 _ _ _ _ _ hat) ?_
  rintro r9 τ9 ⟨hr9, ht9⟩
  rw [hr9, ht9]
  clear hr9 ht9
  have cm := Lend.made (.own (hat.frz hj) .nil) (jaq db[k].rows[j].vals hne (yah (je.1 hfv).1 (by decide))) fun e he => (jgz e he).2
  repeat' first|refine yaG ?_|((first|apply yG|apply yH|apply yI);exact rfl;(first|exact zo rfl hat.get (hat.at hj) (yao _)))|exact yaF|refine yaS ?_ ?_<;>intro _
  refine .call _ rfl rfl rfl cm ?_
  rintro q τ9 ⟨v, junk, hjk, hq9, ht9⟩
  rw [hq9, ht9]
  clear hq9 ht9 cm
  repeat' first|refine yaG ?_|fail
  refine Go.freezeN (l := []) (m := [(v, db[k].rows[j].vals.map encV ++ junk)]) (fr' := [(0, .c (.ptr L.c L.vc 0 0)), (1, .c (.fp [.int .i64 (k : Int)])), (2, .c (.fp [.int .i64 id])), (3, .c (.fp (ji x))), (4, .c (.fp [.fz (s.map ja)])), (5, .c (.fp [.bool (x.policy == 3)])), (6, .c (.fp [.fn 86 [] []])), (10, .c (.fz (db[k].rows[j].vals.map encV))), (11, .c (.int .i64 8)), (27, .c (.bool (x.kind == 3)))]) hS (fun b hb => by cases hb) (yak _)
   (.frz rfl (.refl (hA _ (by simp))) (.frz rfl (.refl (hA _ (by simp))) (.frz rfl (.refl (hA _ (by simp))) (.frz rfl (.refl (hA _ (by simp))) (.frz rfl (.refl (hA _ (by simp))) (.frz rfl (.refl (hA _ (by simp))) (.frz rfl (.refl (hA _ (by simp))) (.frz rfl (zb3 (k := 0) rfl (Nat.le_refl _)) (.frz rfl (.refl zaq) (.frz rfl (.refl zmp) .nil)))))))))) ?_
  rw [wkr hS]
  rw [rowJ]
  by_cases h3 : x.kind = 3
  ·rw [if_pos h3, hid, beq_iff_eq.2 h3]
   have c5 := hrun.del k id db xs τ h hdb hk
   generalize chgF s 13 (.del k id) db = q at c5 ⊢
   repeat' first|refine yaG ?_|exact yaF|refine yaS ?_ ?_<;>intro _
   refine .call _ rfl rfl rfl c5 ?_
   rintro r9 τ9 ⟨hr9, hk9, hq9⟩
   rw [hr9]
   clear hr9 c5
   by_cases hq : q.2 = 0
   ·rw [hq]
    repeat' first|refine yaG ?_|((first|apply yQ|apply yR|apply yS);(iterate 3 exact rfl);exact jep _ _ _ _)|exact yaF|refine yaS ?_ ?_<;>intro _
    exact .ret rfl ⟨by rw [hq], hk9, hq9⟩
   ·generalize hqe : q.2 = e at hq ⊢
    repeat' first|refine yaG ?_|exact yaF|refine yaS ?_ ?_<;>intro _
    all_goals first
     | contradiction
     | exact .ret rfl ⟨by rw [hqe], hk9, hq9⟩
  ·rw [if_neg h3, beq_eq_false_iff_ne.2 h3, zw hk]
   have c3 := jk9 s[k] x db[k].rows[j].vals hfl hne hfv hG.sets.1 hG.sets.2
   cases hvf : zaz s[k] db[k].rows[j].vals x.sets db[k].rows[j].vals with
   | none =>
    rw [hvf] at c3
    have c3 : Pure _ _ _ (.tup [.c .nils, .c (.bool false)]) := c3
    repeat' first|refine yaG ?_|((first|apply yG|apply yH|apply yI);exact rfl;(first|exact yX (enc := ja) rfl rfl rfl hk rfl))|refine yaC (c3) ?_|exact yaF|refine yaS ?_ ?_<;>intro _
    exact .ret rfl ⟨rfl, .refl, fun h => by cases h⟩
   | some nv =>
    rw [hvf] at c3
    have c3 : Pure _ _ _ (.tup [.c (.fz (nv.map encV)), .c (.bool true)]) := c3
    have hl2' : nv.length = s[k].cols.length := (wd2 hvf).trans hfl
    have hok2 : jq nv 16 = true := je.2 ⟨by rw [hl2', <- hfl]; exact (je.1 hfv).1, zd3 (je.1 hfv).2 (n := s[k].cols.length) (by rw [hfl]) hG.sets.2 (je.1 hfv).2 hvf⟩
    have c5 := hrun.upd k id nv (x.policy == 3) db xs τ h hdb ⟨hk, hl2', hok2⟩
    rw [hid]
    show Go _ _ _ _ (Done L n s (chgF s 13 (.upd k id nv (x.policy == 3)) db) τ) _ _ _
    generalize chgF s 13 (.upd k id nv (x.policy == 3)) db = q at c5 ⊢
    repeat' first|refine yaG ?_|((first|apply yG|apply yH|apply yI);exact rfl;(first|exact yX (enc := ja) rfl rfl rfl hk rfl))|refine yaC (c3) ?_|exact yaF|refine yaS ?_ ?_<;>intro _
    refine .call _ rfl rfl rfl c5 ?_
    rintro r9 τ9 ⟨hr9, hk9, hq9⟩
    rw [hr9]
    clear hr9 c5
    by_cases hq : q.2 = 0
    ·rw [hq]
     repeat' first|refine yaG ?_|((first|apply yQ|apply yR|apply yS);(iterate 3 exact rfl);exact jep _ _ _ _)|exact yaF|refine yaS ?_ ?_<;>intro _
     exact .ret rfl ⟨by rw [hq], hk9, hq9⟩
    ·generalize hqe : q.2 = e at hq ⊢
     repeat' first|refine yaG ?_|exact yaF|refine yaS ?_ ?_<;>intro _
     all_goals first
      | contradiction
      | exact .ret rfl ⟨by rw [hqe], hk9, hq9⟩
def wep (k : Nat) (x : Stmt) (r : RowD) : Ce := .fn 223 [] [.fp [.int .i64 (k : Int)], .fp (jc r), .fp [.bool (x.policy == 3)], .fp [.fn 86 [] []]]
def zeq (s : List zd) (k : Nat) (x : Stmt) (id : Int) : Ce := .fn 225 [] [.fp [.int .i64 (k : Int)], .fp [.int .i64 id], .fp (ji x), .fp [.fz (s.map ja)], .fp [.bool (x.policy == 3)], .fp [.fn 86 [] []]]
theorem jay {n : Nat} {cs : List Ce} (h : ∀ c ∈ cs, Old n c) : Old n (.fp cs) := .fp _ fun j hj => h _ (yab hj)
theorem jko {n : Nat} : Old n (.fp [.fn 86 [] []]) := jay fun c hc => by
 rw [List.mem_singleton.1 hc]
 exact .fn _ _ _ (fun i hi => absurd hi (Nat.not_lt_zero i)) fun i hi => absurd hi (Nat.not_lt_zero i)
theorem wmz {n k : Nat} {x : Stmt} {r : RowD} : Old n (wep k x r) := by
 refine .fn _ _ _ (fun i hi => absurd hi (Nat.not_lt_zero i)) fun i hi => ?_
 have h : ∀ c ∈ [Ce.fp [.int .i64 (k : Int)], .fp (jc r), .fp [.bool (x.policy == 3)], .fp [.fn 86 [] []]], Old n c := fun c hc => by
  simp only [List.mem_cons, List.not_mem_nil, or_false] at hc
  rcases hc with rfl | rfl | rfl | rfl
  ·exact jay fun c hc => by rw [List.mem_singleton.1 hc]; exact .int _ _
  ·refine jay fun c hc => ?_
   simp only [jc, List.mem_cons, List.not_mem_nil, or_false] at hc
   rcases hc with rfl | rfl
   ·exact .int _ _
   ·exact wav _ (List.mem_singleton.2 rfl)
  ·exact jay fun c hc => by rw [List.mem_singleton.1 hc]; exact .bool _
  ·exact jko
 exact h _ (yab hi)
theorem zm0 {n k : Nat} {s : List zd} {x : Stmt} {id : Int} (hx : ∀ c ∈ ji x, Old n c) : Old n (zeq s k x id) := by
 refine .fn _ _ _ (fun i hi => absurd hi (Nat.not_lt_zero i)) fun i hi => ?_
 have h : ∀ c ∈ [Ce.fp [.int .i64 (k : Int)], .fp [.int .i64 id], .fp (ji x), .fp [.fz (s.map ja)], .fp [.bool (x.policy == 3)], .fp [.fn 86 [] []]], Old n c := fun c hc => by
  simp only [List.mem_cons, List.not_mem_nil, or_false] at hc
  rcases hc with rfl | rfl | rfl | rfl | rfl | rfl
  ·exact jay fun c hc => by rw [List.mem_singleton.1 hc]; exact .int _ _
  ·exact jay fun c hc => by rw [List.mem_singleton.1 hc]; exact .int _ _
  ·exact jay hx
  ·exact jay fun c hc => by rw [List.mem_singleton.1 hc]; exact jbx _ (List.mem_singleton.2 rfl)
  ·exact jay fun c hc => by rw [List.mem_singleton.1 hc]; exact .bool _
  ·exact jko
 exact h _ (yab hi)
theorem wko {σ τ : wa} {ys junk : List (List Ce)} {v : Nat} {b : Bool} (ho : ∀ e ∈ ys, ∀ x ∈ e, Old σ.next x) : FrzV (E σ [(v, ys ++ junk)]) σ.next (.tup [.c (vec (σ.next + 0) v ys junk), .c (.bool b)]) (.tup [.c (.fz ys), .c (.bool b)]) := by
 refine .tup rfl fun j hj => ?_
 have hj2 : j < 2 := hj
 have hj3 : j = 0 \/ j = 1 := by omega
 rcases hj3 with rfl | rfl
 ·exact jbr (k := 0) rfl ho (yak _)
 ·exact .c (.same _ (.bool _))
theorem jm0 {s : List zd} {k : Nat} (x : Stmt) (hx : x.kind = 1) (hidx : idxA (fun u : zd => u.name == x.table) s 0 = (k : Int)) (hr8 : x.rows.length <= 8) (hs5 : s.length <= 5) (db : List Data) :
 Pure Tryz.prog 166 [.agg (ji x), .c (.fz (s.map ja)), .c (.fz (db.map jb)), .c (.fn 86 [] [])] (.tup [.c (.fz (x.rows.map fun r => [wep k x r])), .c (.bool true)]) := by
 refine Pure.run mixed jbi (yaa rfl) fun σ hS hA => ?_
 clear hA hS
 have c1 := wbf s x.table (yah hs5 (by decide))
 rw [hidx] at c1
 have hx1 : (x.kind == 1) = true := beq_iff_eq.2 hx
 repeat' first|refine yaG ?_|refine yaC (c1) ?_|exact yaF|refine yaS ?_ ?_<;>intro _
 all_goals first
  | contradiction
  | skip
 refine Go.keep [7, 10, 11, 12, 31, 32, 33] (Go.loops (I := fun m fr τ => ∃ (i : Nat) (ki : Int) (v : Nat) (junk : List (List Ce)), m = x.rows.length - i /\ i <= x.rows.length /\ ki = i /\ Jk 1 junk /\
  fr = [(7, .c (.fp [.fn 86 [] []])), (10, .c (.fp [.int .i64 (k : Int)])), (11, .c (.fp [.bool (x.policy == 3)])), (12, .c (vec (σ.next + 0) v ((x.rows.take i).map fun r => [wep k x r]) junk)), (31, .c (.fz (x.rows.map jc))), (32, .c (.int .i64 (x.rows.length : Int))), (33, .c (.int .i64 ki))] /\ τ = E σ [(v, ((x.rows.take i).map fun r => [wep k x r]) ++ junk)]) ?_ _ _ _ ⟨0, _, 0, [], rfl, yae _, rfl, Jk.nil, rfl, rfl⟩)
 rintro m fr τ ⟨i, ki, v, junk, rfl, hi, hki, hj, rfl, rfl⟩ hrec
 by_cases hlt : i < x.rows.length
 ·have hys : ∀ e ∈ (x.rows.take i).map fun r => [wep k x r], e.length = 1 := fun e he => by
   obtain ⟨a, _, rfl⟩ := List.mem_map.1 he
   rfl
  have hbd : (((x.rows.take i).map fun r => [wep k x r]).length + 1) * 8 <= 140737488355328 := by rw [yag, yas]; omega
  have e1 : ((x.rows.take i).map fun r => [wep k x r]) ++ [[wep k x x.rows[i]]] = (x.rows.take (i + 1)).map fun r => [wep k x r] := by rw [yai hlt, yaq]; rfl
  repeat' first|refine yaG ?_|((first|apply yG|apply yH|apply yI);exact rfl;(first|exact yX (enc := jc) rfl rfl hki hlt rfl))|(apply Go.app1;exact rfl;exact rfl;exact rfl;exact rfl;exact rfl;exact hys;exact hj;exact rfl;exact hbd;intro v' junk' hj')|exact yaF|refine yaS ?_ ?_<;>intro _
  refine Go.keep [7, 10, 11, 12, 31, 32, 33] (hrec _ _ _ (by omega) ⟨i + 1, _, v', junk', rfl, hlt, wb hki (by omega), hj', ?_, ?_⟩)
  ·rw [<- e1]; rfl
  ·rw [<- e1]; rfl
 ·rw [yan (by omega)]
  repeat' first|refine yaG ?_|exact yaF|refine yaS ?_ ?_<;>intro _
  exact .ret rfl ⟨_, rfl, wko (τ := σ) fun e he c hc => by
   obtain ⟨a, _, rfl⟩ := List.mem_map.1 he
   rw [List.mem_singleton.1 hc]
   exact wmz⟩
theorem wm0 {s : List zd} {k : Nat} (x : Stmt) (hx : ¬ x.kind = 1) (hidx : idxA (fun u : zd => u.name == x.table) s 0 = (k : Int)) (hs5 : s.length <= 5) (hw : x.wher.length <= 24) (db : List Data) (hk : k < db.length) (hl : db[k].rows.length <= 60) (hv : ∀ r ∈ db[k].rows, r.vals.length <= 34359738368) :
 Pure Tryz.prog 166 [.agg (ji x), .c (.fz (s.map ja)), .c (.fz (db.map jb)), .c (.fn 86 [] [])] (.tup [.c (.fz ((zad db[k].rows x.wher).1.map fun id => [zeq s k x id])), .c (.bool (zad db[k].rows x.wher).2)]) := by
 refine Pure.run mixed jbi (yaa rfl) fun σ hS hA => ?_
 have hxo : ∀ c ∈ ji x, Old σ.next c := fun c hc => hA (.agg (ji x)) (by simp) c hc
 clear hA hS
 have c1 := wbf s x.table (yah hs5 (by decide))
 rw [hidx] at c1
 have c2 := NewV.pure (zka db[k].rows x.wher (yah hl (by decide)) hv (yah hw (by decide)))
 have hml := zep (l := db[k].rows) (w := x.wher)
 generalize zad db[k].rows x.wher = mf at c2 hml ⊢
 obtain ⟨ids, b⟩ := mf
 simp only at c2 hml ⊢
 have hx1 : (x.kind == 1) = false := beq_eq_false_iff_ne.2 hx
 repeat' first|refine yaG ?_|((first|apply yG|apply yH|apply yI);exact rfl;(first|exact yX (enc := jb) rfl rfl rfl hk rfl))|refine yaC (c1) ?_|refine yaC (c2) ?_|exact yaF|refine yaS ?_ ?_<;>intro _
 all_goals first
  | contradiction
  | skip
 refine Go.keep [4, 5, 7, 10, 11, 12, 16, 54, 55, 56] (Go.loops (I := fun m fr τ => ∃ (i : Nat) (ki : Int) (v : Nat) (junk : List (List Ce)), m = ids.length - i /\ i <= ids.length /\ ki = i /\ Jk 1 junk /\
  fr = [(4, .c (.fp (ji x))), (5, .c (.fp [.fz (s.map ja)])), (7, .c (.fp [.fn 86 [] []])), (10, .c (.fp [.int .i64 (k : Int)])), (11, .c (.fp [.bool (x.policy == 3)])), (12, .c (vec (σ.next + 0) v ((ids.take i).map fun id => [zeq s k x id]) junk)), (16, .c (.bool b)), (54, .c (.fz (ids.map encI))), (55, .c (.int .i64 (ids.length : Int))), (56, .c (.int .i64 ki))] /\ τ = E σ [(v, ((ids.take i).map fun id => [zeq s k x id]) ++ junk)]) ?_ _ _ _ ⟨0, _, 0, [], rfl, yae _, rfl, Jk.nil, rfl, rfl⟩)
 rintro m fr τ ⟨i, ki, v, junk, rfl, hi, hki, hj, rfl, rfl⟩ hrec
 by_cases hlt : i < ids.length
 ·have hys : ∀ e ∈ (ids.take i).map fun id => [zeq s k x id], e.length = 1 := fun e he => by
   obtain ⟨a, _, rfl⟩ := List.mem_map.1 he
   rfl
  have hbd : (((ids.take i).map fun id => [zeq s k x id]).length + 1) * 8 <= 140737488355328 := by rw [yag, yas]; omega
  have e1 : ((ids.take i).map fun id => [zeq s k x id]) ++ [[zeq s k x ids[i]]] = (ids.take (i + 1)).map fun id => [zeq s k x id] := by rw [yai hlt, yaq]; rfl
  repeat' first|refine yaG ?_|((first|apply yG|apply yH|apply yI);exact rfl;(first|exact yX (enc := encI) rfl rfl hki hlt rfl))|(apply Go.app1;exact rfl;exact rfl;exact rfl;exact rfl;exact rfl;exact hys;exact hj;exact rfl;exact hbd;intro v' junk' hj')|exact yaF|refine yaS ?_ ?_<;>intro _
  refine Go.keep [4, 5, 7, 10, 11, 12, 16, 54, 55, 56] (hrec _ _ _ (by omega) ⟨i + 1, _, v', junk', rfl, hlt, wb hki (by omega), hj', ?_, ?_⟩)
  ·rw [<- e1]; rfl
  ·rw [<- e1]; rfl
 ·rw [yan (by omega)]
  repeat' first|refine yaG ?_|exact yaF|refine yaS ?_ ?_<;>intro _
  exact .ret rfl ⟨_, rfl, wko (τ := σ) fun e he c hc => by
   obtain ⟨a, _, rfl⟩ := List.mem_map.1 he
   rw [List.mem_singleton.1 hc]
   exact zm0 hxo⟩
def JobG (s : List zd) (c : Ce) (j : List Data -> Res) : Prop := ∃ f cap, c = .fn f [] cap /\ (∀ now, DbG BI s now -> ∀ (L : ChL) (n : Nat) (xs : List Ce) (τ : wa), zz L n s xs now τ -> Ok Tryz.prog f (([] : List Ce).map .c ++ [.c (.ptr L.c L.vc 0 0)] ++ cap.map .c) τ (Done L n s (j now) τ)) /\ ∀ now, DbG BI s now -> (j now).2 = 0 -> DbG BI s (j now).1
theorem Kept.ofGr {n : Nat} {τ τ' : wa} (h : Gr τ τ') (hn : n <= τ.next) : Kept n τ τ' := by
 obtain ⟨l, rfl, _⟩ := h
 exact .ofE hn l
theorem jkf {s : List zd} (hs : SchG s) {now : List Data} (hn : DbG BI s now) {c : Ce} {j : List Data -> Res} (hj : JobG s c j) (σ : wa) : Ok Tryz.prog 49 [.c (.fz (s.map ja)), .c (.fz (now.map jb)), .c c] σ (NewV σ (.tup [.c (.fz ((topR now (j now)).1.map jb)), .c (.int .i64 (topR now (j now)).2)])) := by
 obtain ⟨f, cap, rfl, hrun, hkp⟩ := hj
 obtain ⟨b1, b2, b3⟩ := zl3 hs hn
 refine Ok.newV ((wk7 s now (by omega) (fun d hd => ⟨(b3 d hd).2.1, fun r hr => ⟨((b3 d hd).2.2 r hr).1, by have := ((b3 d hd).2.2 r hr).2.1; omega⟩⟩) (fun d hd => (b3 d hd).1) f [] cap (j now) (fun h0 d hd => ((zl3 hs (hkp now hn h0)).2.2 d hd).1) σ fun L xs τ hH => hrun now hn L σ.next xs τ hH).mono ?_)
 rintro r τ ⟨hK, x, rfl, hh⟩
 exact ⟨hK, .two hh⟩
theorem jeq {s : List zd} (hs : SchG s) {db : List Data} (h : DbG BI s db) (σ : wa) : Ok Tryz.prog 122 [.c (.fz (db.map jb))] σ (fun r τ => Kept σ.next σ τ /\ ∃ y, r = .c y /\ Has τ (fun a => σ.next <= a /\ a < τ.next) (.fz (db.map jb)) y) := by
 obtain ⟨b1, b2, b3⟩ := zl3 hs h
 refine (zde db (by omega) (fun d hd => ⟨(b3 d hd).2.1, fun r hr => ⟨((b3 d hd).2.2 r hr).1, by have := ((b3 d hd).2.2 r hr).2.1; omega⟩⟩) σ).mono ?_
 rintro r τ ⟨o, vo, xs, junk, rfl, hK, hD⟩
 exact ⟨hK, _, rfl, hD.has hK.next fun d hd => (b3 d hd).1⟩
set_option maxHeartbeats 4000000 in
theorem wl7 {s : List zd} (hs : SchG s) (x : Stmt) (db : List Data) (hdb : DbG BI s db) (J : List (Ce × (List Data -> Res))) (hJ : ∀ p ∈ J, JobG s p.1 p.2) (hJl : J.length <= 60) (b : Bool)
 (hj : Pure Tryz.prog 166 [.agg (ji x), .c (.fz (s.map ja)), .c (.fz (db.map jb)), .c (.fn 86 [] [])] (.tup [.c (.fz (J.map fun p => [p.1])), .c (.bool b)])) (σ : wa) :
 Ok Tryz.prog 85 [.c (.fz (s.map ja)), .c (.fz (db.map jb)), .agg (ji x), .c (.fn 86 [] [])] σ (NewV σ (insV (if b = true then wbx db x (J.map (·.2)) db 0 else (db, 8, 0)))) := by
 refine Ok.newV (Ok.run0 mixed jg8 (yaa rfl) fun hS hA => ?_)
 clear hS hA
 cases b
 ·rw [if_neg yaj]
  repeat' first|refine yaG ?_|refine yaC (hj) ?_|exact yaF|refine yaS ?_ ?_<;>intro _
  refine .call _ rfl rfl rfl (jeq hs hdb σ) ?_
  rintro r9 τ1 ⟨hK, y, hr9, hh⟩
  rw [hr9]
  repeat' first|refine yaG ?_|exact yaF|refine yaS ?_ ?_<;>intro _
  exact .ret rfl ⟨hK, .three hh⟩
 ·rw [if_pos rfl]
  repeat' first|refine yaG ?_|refine yaC (hj) ?_|exact yaF|refine yaS ?_ ?_<;>intro _
  refine .call _ rfl rfl rfl (jeq hs hdb σ) ?_
  rintro r9 τ1 ⟨hK1, y1, hr9, hh1⟩
  rw [hr9]
  clear hr9 hj
  repeat' first|refine yaG ?_|exact yaF|refine yaS ?_ ?_<;>intro _
  refine Go.keep [0, 1, 6, 13, 14, 33, 34, 35] (Go.loops (I := fun m fr τ => ∃ (i : Nat) (ki : Int) (now : List Data) (mc : Nat) (km : Int) (y : Ce), m = J.length - i /\ i <= J.length /\ ki = i /\ (DbG BI s now /\ mc <= i /\ km = mc /\ Kept σ.next σ τ /\ Has τ (fun a => σ.next <= a /\ a < τ.next) (.fz (now.map jb)) y /\ wbx db x (J.map (·.2)) db 0 = wbx db x ((J.drop i).map (·.2)) now km) /\
   fr = [(0, .c (.fz (s.map ja))), (1, .c (.fz (db.map jb))), (6, .c (.fp (ji x))), (13, .c y), (14, .c (.int .i64 km)), (33, .c (.fz (J.map fun p => [p.1]))), (34, .c (.int .i64 (J.length : Int))), (35, .c (.int .i64 ki))]) ?_ _ _ _ ⟨0, _, db, 0, _, y1, rfl, yae _, rfl, ⟨hdb, yak _, rfl, hK1, hh1, rfl⟩, rfl⟩)
  clear hh1 hK1
  rintro m fr τ ⟨i, ki, now, mc, km, y, rfl, hi, hki, ⟨hnow, hmc, hkm, hK, hh, hst⟩, rfl⟩ hrec
  by_cases hlt : i < J.length
  ·have hw1 : IntKind.i64.wrap (km + 1) = km + 1 := jf (by omega) (by omega)
   have hJi := hJ _ (yab hlt)
   have hkp : (J[i].2 now).2 = 0 -> DbG BI s (J[i].2 now).1 := let ⟨_, _, _, _, h⟩ := hJi; h now hnow
   have cc := Lend.new (.same (.own (HasV.c hh).lend (.same .nil))) (jkf hs hnow hJi)
   rw [yac hlt, List.map_cons, wbx] at hst
   generalize J[i].2 now = q at cc hkp hst
   have hn0 : σ.next <= τ.next := hK.next
   repeat' first|refine yaG ?_|((first|apply yG|apply yH|apply yI);exact rfl;(first|exact yX (enc := fun p : Ce × (List Data -> Res) => [p.1]) rfl rfl hki hlt rfl))|exact yaF|refine yaS ?_ ?_<;>intro _
   refine .call _ rfl rfl rfl cc ?_
   rintro r9 τ2 hq9
   obtain ⟨g, hr9, gr, hg⟩ := zlw (.int _ _) hq9
   rw [hr9]
   clear hr9 hq9 cc
   have hK2 := hK.trans (.ofGr gr hK.next)
   have hh2 := (hh.frame fun a ha => gr.lt ha.2).mono (S' := fun a => σ.next <= a /\ a < τ2.next) fun a ha => ⟨ha.1, yav ha.2 gr.next⟩
   have hg2 := hg.mono (S' := fun a => σ.next <= a /\ a < τ2.next) fun a ha => ⟨yah hK.next ha.1, ha.2⟩
   have hn2 : σ.next <= τ2.next := hK2.next
   clear hg hh gr hK
   by_cases hq : q.2 = 0
   ·rw [if_pos hq, <- hw1] at hst
    rw [topR, if_pos hq] at hg2
    rw [topR, if_pos hq]
    repeat' first|refine yaG ?_|exact yaF|refine yaS ?_ ?_<;>intro _
    all_goals first
     | contradiction
     | exact Go.keep [0, 1, 6, 13, 14, 33, 34, 35] (hrec _ _ _ (by omega) ⟨i + 1, _, q.1, mc + 1, _, g, rfl, hlt, wb hki (by omega), ⟨hkp hq, by omega, wb hkm (by omega), hK2, hg2, hst⟩, rfl⟩)
   ·obtain ⟨e, he⟩ : ∃ e, q.2 = e := ⟨_, rfl⟩
    rw [if_neg hq, he] at hst
    rw [topR, if_neg hq, he]
    rw [he] at hq
    clear hg2
    have c4 := jl7 x e
    by_cases hm : e = -1
    ·rw [if_pos (.inl hm)] at hst
     subst hm
     repeat' first|refine yaG ?_|refine yaC (c4) ?_|exact yaF|refine yaS ?_ ?_<;>intro _
     all_goals first
      | contradiction
      | exact Go.keep [0, 1, 6, 13, 14, 33, 34, 35] (hrec _ _ _ (by omega) ⟨i + 1, _, now, mc, _, y, rfl, hlt, wb hki (by omega), ⟨hnow, by omega, hkm, hK2, hh2, hst⟩, rfl⟩)
    ·cases hp : zk9 x e
     ·rw [hp] at c4 hst
      rw [if_neg (fun h => by rcases h with h | h; exact hm h; cases h)] at hst
      by_cases hp1 : x.policy = 1 /\ ¬ e = 5
      ·rw [if_pos hp1] at hst
       obtain ⟨hp1, h5⟩ := hp1
       rw [hst]
       repeat' first|refine yaG ?_|refine yaC (c4) ?_|exact yaF|refine yaS ?_ ?_<;>intro _
       all_goals first
        | contradiction
        | exact .ret rfl ⟨hK2, .three hh2⟩
      ·rw [if_neg hp1] at hst
       rw [hst]
       repeat' first|refine yaG ?_|refine yaC (c4) ?_|exact yaF|refine yaS ?_ ?_<;>intro _
       all_goals first
        |(exfalso; simp_all; done)
        | skip
       all_goals refine .call _ rfl rfl rfl (jeq hs hdb τ2) ?_
       all_goals rintro r9 τ3 ⟨hK3, y3, hr9, hh3⟩
       all_goals rw [hr9]
       all_goals repeat' first|refine yaG ?_|exact yaF|refine yaS ?_ ?_<;>intro _
       all_goals exact .ret rfl ⟨hK2.trans (hK3.mono hn2), .three (hh3.mono fun a ha => ⟨yah hn2 ha.1, ha.2⟩)⟩
     ·rw [hp] at c4 hst
      rw [if_pos (.inr rfl)] at hst
      repeat' first|refine yaG ?_|refine yaC (c4) ?_|exact yaF|refine yaS ?_ ?_<;>intro _
      all_goals first
       | contradiction
       | exact Go.keep [0, 1, 6, 13, 14, 33, 34, 35] (hrec _ _ _ (by omega) ⟨i + 1, _, now, mc, _, y, rfl, hlt, wb hki (by omega), ⟨hnow, by omega, hkm, hK2, hh2, hst⟩, rfl⟩)
  ·rw [yad (by omega), List.map_nil, wbx] at hst
   rw [hst]
   repeat' first|refine yaG ?_|exact yaF|refine yaS ?_ ?_<;>intro _
   exact .ret rfl ⟨hK, .three hh⟩
def ExF (s : List zd) (db : List Data) (x : Stmt) : Ins := if (dbF s db && l7F s x) = true then wfh s (idxA (fun u : zd => u.name == x.table) s 0).toNat x db else ([], 1, 0)
theorem zis {s : List zd} {db0 : List Data} (h0 : DbG BI s db0) {x : Stmt} : ∀ {J : List (List Data -> Res)} {now : List Data} {m : Int}, (∀ j ∈ J, ∀ now, DbG BI s now -> (j now).2 = 0 -> DbG BI s (j now).1) -> DbG BI s now -> DbG BI s (wbx db0 x J now m).1
 | [], _, _, _, h => h
 | j :: r, now, m, hJ, h => by
  have hr : ∀ j ∈ r, ∀ now, DbG BI s now -> (j now).2 = 0 -> DbG BI s (j now).1 := fun j hj => hJ j (by simp [hj])
  rw [wbx]
  split
  ·rename_i hq
   exact zis h0 hr (hJ j (by simp) now h hq)
  ·split
   ·exact zis h0 hr h
   ·split
    ·exact h
    ·exact h0
theorem zkp {s : List zd} (hs : SchG s) {k : Nat} (hk : k < s.length) {x : Stmt} (hG : StG s[k] x) {db : List Data} (h : DbG BI s db) : DbG BI s (wfh s k x db).1 := by
 rw [wfh]
 split
 ·refine zis h (fun j hj now hn h0 => ?_) h
  rw [wl5] at hj
  split at hj
  ·obtain ⟨r, hr, rfl⟩ := List.mem_map.1 hj
   exact zkf hs hk (hG.rows.2 r hr) hn h0
  ·obtain ⟨id, hid, rfl⟩ := List.mem_map.1 hj
   exact wm7 hs hk hG hn h0
 ·exact h
theorem zm1 {s : List zd} (hs : SchG s) {k : Nat} (hk : k < s.length) (x : Stmt) (hG : StG s[k] x) (hidx : idxA (fun u : zd => u.name == x.table) s 0 = (k : Int)) (db : List Data) (hdb : DbG BI s db) (σ : wa) :
 Ok Tryz.prog 85 [.c (.fz (s.map ja)), .c (.fz (db.map jb)), .agg (ji x), .c (.fn 86 [] [])] σ (NewV σ (insV (wfh s k x db))) := by
 have hk2 : k < db.length := by rw [hdb.len]; exact hk
 have hR := hdb.rows k hk hk2
 by_cases hx : x.kind = 1
 ·have hj := jm0 x hx hidx hG.rows.1 hs.few db
  have h1 := wl7 hs x db hdb (x.rows.map fun r => (wep k x r, insJ s k x r.vals)) (fun p hp => by
   obtain ⟨r, hr, rfl⟩ := List.mem_map.1 hp
   refine ⟨_, _, rfl, fun now hn L n xs τ hH => ?_, fun now hn h0 => zkf hs hk (hG.rows.2 r hr) hn h0⟩
   exact zmz hs hk x r (hG.rows.2 r hr) now hn xs τ hH) (by rw [yag]; have := hG.rows.1; omega) true (by
   have e : ((x.rows.map fun r => (wep k x r, insJ s k x r.vals)).map fun p => [p.1]) = x.rows.map fun r => [wep k x r] := by rw [List.map_map]; rfl
   rw [e]
   exact hj) σ
  have e2 : (x.rows.map fun r => (wep k x r, insJ s k x r.vals)).map (·.2) = x.rows.map fun r => insJ s k x r.vals := by rw [List.map_map]; rfl
  rw [e2, if_pos rfl] at h1
  have e3 : wfh s k x db = wbx db x (x.rows.map fun r => insJ s k x r.vals) db 0 := by
   have hw : (zad (zt db k) x.wher).2 = true := by
    rw [hG.ins hx]
    have key : ∀ (l : List RowD) (acc : List Int), ∃ ids, zae [] l acc = some ids := by
     intro l
     induction l with
     | nil => exact fun acc => ⟨acc, rfl⟩
     | cons r l ih =>
      intro acc
      rw [zae]
      exact ih _
    obtain ⟨ids, h⟩ := key (zt db k) []
    rw [zad, h]
   rw [wfh, if_pos hw, wl5, if_pos hx]
  rw [e3]
  exact h1
 ·have hj := wm0 x hx hidx hs.few hG.wher.1 db hk2 hR.len fun r hr => yah (je.1 (hR.fit r hr).2).1 (by decide)
  have hml := zep (l := db[k].rows) (w := x.wher)
  have hl := hR.len
  have h1 := wl7 hs x db hdb ((zad db[k].rows x.wher).1.map fun id => (zeq s k x id, idJ s k x id)) (fun p hp => by
   obtain ⟨id, hid, rfl⟩ := List.mem_map.1 hp
   refine ⟨_, _, rfl, fun now hn L n xs τ hH => ?_, fun now hn h0 => wm7 hs hk hG hn h0⟩
   exact jmz hs hk x hG id now hn xs τ hH) (by rw [yag]; omega) (zad db[k].rows x.wher).2 (by
   have e : (((zad db[k].rows x.wher).1.map fun id => (zeq s k x id, idJ s k x id)).map fun p => [p.1]) = (zad db[k].rows x.wher).1.map fun id => [zeq s k x id] := by rw [List.map_map]; rfl
   rw [e]
   exact hj) σ
  have e2 : ((zad db[k].rows x.wher).1.map fun id => (zeq s k x id, idJ s k x id)).map (·.2) = (zad db[k].rows x.wher).1.map fun id => idJ s k x id := by rw [List.map_map]; rfl
  rw [e2] at h1
  have e3 : wfh s k x db = if (zad db[k].rows x.wher).2 = true then wbx db x ((zad db[k].rows x.wher).1.map fun id => idJ s k x id) db 0 else (db, 8, 0) := by
   rw [wfh, wl5, if_neg hx, wg hk2]
  rw [e3]
  exact h1
theorem jm1 (s : List zd) (db : List Data) (x : Stmt) (hx : s.length <= 34359738368) (hb : ∀ t ∈ s, zac 34359738368 t) (hd : db.length <= 34359738368) (hdb : ∀ d ∈ db, zbl 34359738368 d) (hq : jel 34359738368 x) (σ : wa) :
 Ok Tryz.prog 30 [.c (.fz (s.map ja)), .c (.fz (db.map jb)), .agg (ji x)] σ (NewV σ (.tup [.c (.fz ((ExF s db x).1.map jb)), .c (.int .i64 (ExF s db x).2.1), .c (.int .i64 (ExF s db x).2.2)])) := by
 refine Ok.newV (Ok.run0 mixed zg5 (yaa rfl) fun hS hA => ?_)
 clear hS hA
 have c1 := znk s db hx hb hd hdb
 have c2 := zl5 s x hx hb hq
 rw [ExF]
 cases h1 : dbF s db
 ·rw [h1] at c1
  rw [ybe, if_neg yaj]
  repeat' first|refine yaG ?_|refine yaC (c1) ?_|refine yaC (c2) ?_|exact yaF|refine yaS ?_ ?_<;>intro _
  exact .ret rfl ⟨.refl, .three .nil⟩
 ·rw [h1] at c1
  have hsc := (jji h1).1
  rw [jk8, hsc, yay] at c2
  rw [yay]
  cases h2 : l7F s x
  ·rw [h2] at c2
   rw [if_neg yaj]
   repeat' first|refine yaG ?_|refine yaC (c1) ?_|refine yaC (c2) ?_|exact yaF|refine yaS ?_ ?_<;>intro _
   exact .ret rfl ⟨.refl, .three .nil⟩
  ·rw [h2] at c2
   rw [if_pos rfl]
   have hs := schG hsc hb
   obtain ⟨k, hk, hidx, hG⟩ := zl6 hq h2
   rw [hidx, ybm]
   have c3 := zm1 hs hk x hG hidx db (dbB h1) σ
   rw [insV] at c3
   generalize wfh s k x db = q at c3 ⊢
   repeat' first|refine yaG ?_|refine yaC (c1) ?_|refine yaC (c2) ?_|exact yaF|refine yaS ?_ ?_<;>intro _
   refine .call _ rfl rfl rfl c3 ?_
   rintro r9 τ2 hq9
   obtain ⟨g, hr9, gr, hg⟩ := jjk (.int _ _) (.int _ _) hq9
   rw [hr9]
   repeat' first|refine yaG ?_|exact yaF|refine yaS ?_ ?_<;>intro _
   exact .ret rfl ⟨.ofGr gr (yak _), .three hg⟩
theorem wm1 (s : List zd) (db : List Data) (x : Stmt) (hx : s.length <= 34359738368) (hb : ∀ t ∈ s, zac 34359738368 t) (hd : db.length <= 34359738368) (hdb : ∀ d ∈ db, zbl 34359738368 d) (hq : jel 34359738368 x) :
 Pure Tryz.prog 28 [.c (.fz (s.map ja)), .c (.fz (db.map jb)), .agg (ji x)] (.tup [.c (.fz ((ExF s db x).1.map jb)), .c (.int .i64 (ExF s db x).2.1), .c (.int .i64 (ExF s db x).2.2)]) := by
 refine Pure.run mixed wg4 (yaa rfl) fun σ hS hA => ?_
 clear hS hA
 have c1 := wms s db hx hb hd hdb
 rw [ExF]
 cases h1 : dbF s db
 ·rw [h1] at c1
  rw [ybe, if_neg yaj]
  repeat' first|refine yaG ?_|refine yaC (c1) ?_|exact yaF|refine yaS ?_ ?_<;>intro _
  exact .ret rfl .nil3
 ·rw [h1] at c1
  have hsc := (jji h1).1
  have c2 := jl5 s x hsc hx hb hq
  rw [yay]
  cases h2 : l7F s x
  ·rw [h2] at c2
   rw [if_neg yaj]
   repeat' first|refine yaG ?_|refine yaC (c1) ?_|refine yaC (c2) ?_|exact yaF|refine yaS ?_ ?_<;>intro _
   exact .ret rfl .nil3
  ·rw [h2] at c2
   rw [if_pos rfl]
   have hs := schG hsc hb
   obtain ⟨k, hk, hidx, hG⟩ := zl6 hq h2
   rw [hidx, ybm]
   have hdg := dbB h1
   have c3 := zl7 hs hk x hG hidx db hdg
   have hkp := zkp hs hk hG hdg
   rw [insV] at c3
   generalize wfh s k x db = q at c3 hkp ⊢
   obtain ⟨b1, b2, b3⟩ := zl3 hs hkp
   have c4 := jly q.1 (by omega) fun d hd => ⟨(b3 d hd).2.1, fun r hr => by have := ((b3 d hd).2.2 r hr).2.1; omega⟩
   repeat' first|refine yaG ?_|refine yaC (c1) ?_|refine yaC (c2) ?_|refine yaC (c3) ?_|refine yaC (c4) ?_|exact yaF|refine yaS ?_ ?_<;>intro _
   exact .ret rfl (Fin.same rfl (wao _ _ _ _))
theorem zl8 (s : List zd) (db : List Data) (x : Stmt) (hx : s.length <= 34359738368) (hb : ∀ t ∈ s, zac 34359738368 t) (hd : db.length <= 34359738368) (hdb : ∀ d ∈ db, zbl 34359738368 d) (hq : jel 34359738368 x) :
 (ExF s db x).1.length <= 34359738368 /\ (∀ y ∈ (ExF s db x).1, zbl 34359738368 y) /\ 1 + cntL wl (ExF s db x).1 <= 34359738368 := by
 rw [ExF]
 split
 ·rename_i h0
  rw [yat] at h0
  obtain ⟨h1, h2⟩ := h0
  have hs := schG (jji h1).1 hb
  obtain ⟨k, hk, hidx, hG⟩ := zl6 hq h2
  rw [hidx, ybm]
  exact wnn hs (zkp hs hk hG (dbB h1))
 ·exact ⟨yae _, fun x hx => (by cases hx), by decide⟩
theorem wd3 {α : Type} {h : α -> Int -> Int} {c : α -> Int} (hh : ∀ a k, h a k = -1 \/ h a k = k + c a) : ∀ (xs : List α) (k : Int), za4 h xs k = -1 \/ za4 h xs k = k + cntL c xs
 | [], k => by simp [za4, cntL]
 | a :: r, k => by
  simp only [za4, cntL]
  split
  ·exact .inl rfl
  ·rename_i h0
   rcases hh a k with h1 | h1
   ·omega
   ·rw [h1]
    rcases wd3 hh r (k + c a) with h2 | h2
    ·exact .inl h2
    ·right; rw [h2]; omega
theorem wjo (v : Val) (k : Int) : jdz v k = -1 \/ jdz v k = k + 3 := by
 simp only [jdz]
 split
 ·exact .inr rfl
 ·exact .inl rfl
def wg1 (r : RowD) (k : Int) : Int := if r.id = k then za4 jdz r.vals (k + 1) else -1
def wk9 (d : Data) (k : Int) : Int := za4 wg1 d.rows k
theorem zla (r : RowD) (k : Int) (hk : 0 <= k) : wg1 (zb4 r k) k = k + wj r := by
 have h := zcr (c := fun _ => 3) wk4 (fun _ => by decide) r.vals (k + 1) (by omega)
 rw [wg1, wj]
 show (if k = k then za4 jdz (jx wkv (fun _ => 3) r.vals (k + 1)) (k + 1) else -1) = _
 rw [if_pos rfl, h]
 omega
theorem zm2 (r : RowD) (k : Int) : wg1 r k = -1 \/ wg1 r k = k + wj r := by
 rw [wg1, wj]
 split
 ·rcases wd3 (c := fun _ => 3) wjo r.vals (k + 1) with h | h
  ·exact .inl h
  ·right
   rw [h]
   omega
 ·exact .inl rfl
theorem jla (d : Data) (k : Int) (hk : 0 <= k) : wk9 (wa6 d k) k = k + wl d := by
 rw [wk9, wl, Int.zero_add]
 exact zcr zla j5 d.rows k hk
theorem wkf (xs : List RowD) (k : Int) (hx : xs.length <= 34359738368) (hkl : ∀ e ∈ xs, e.vals.length <= 34359738368) (hk0 : 0 <= k) (hk : k + cntL wj xs <= 34359738368) : Pure Tryz.prog 61 [.c (.fz (xs.map jc)), .c (.int .i64 k)] (.c (.int .i64 (za4 wg1 xs k))) := by
 refine Pure.run mixed zdk (yaa rfl) fun σ hS hA => ?_
 clear hS hA
 repeat' first|refine yaG ?_|exact yaF|refine yaS ?_ ?_<;>intro _
 refine Go.keep [0, 1, 5] (Go.loops (I := fun m fr τ => ∃ i : Nat, ∃ n l : Int, m = xs.length - i /\ i <= xs.length /\ n = i /\ (0 <= l /\ l + cntL wj (xs.drop i) <= 34359738368 /\ za4 wg1 xs k = za4 wg1 (xs.drop i) l) /\
  fr = [(0, .c (.fz (xs.map jc))), (1, .c (.int .i64 l)), (5, .c (.int .i64 n))] /\ τ = E σ []) ?_ _ _ _ ⟨0, _, _, rfl, Nat.zero_le _, rfl, ⟨hk0, by simpa using hk, rfl⟩, rfl, rfl⟩)
 rintro m fr τ ⟨i, n, l, rfl, hi, hn, ⟨hl0, hl, hsl⟩, rfl, rfl⟩ hrec
 by_cases hlt : i < xs.length
 ·have hdr := yac hlt
  have hn0 := ze j5 (xs.drop (i + 1))
  have hn1 := ze (c := fun _ : Val => 3) (fun _ => by decide) xs[i].vals
  rw [hdr] at hl
  simp only [cntL, wj] at hl
  rw [hdr, za4, wg1] at hsl
  have hor := wd3 (c := fun _ => 3) wjo xs[i].vals (l + 1)
  have hc := zkc xs[i].vals (l + 1) (hkl _ (yab hlt)) (by omega) (by omega)
  have hw : IntKind.i64.wrap (l + 1) = l + 1 := jf (by omega) (by omega)
  have hl2 : cntL wj (xs.drop (i + 1)) + (l + 1 + cntL (fun _ => 3) xs[i].vals) <= 34359738368 := by
   have e : cntL wj (xs.drop (i + 1)) = cntL wj (xs.drop (i + 1)) := rfl
   omega
  generalize za4 jdz xs[i].vals (l + 1) = l1 at hc hor hsl
  rw [<- hw] at hc
  by_cases h0 : xs[i].id = l
  ·rw [if_pos h0] at hsl
   repeat' first|refine yaG ?_|((first|apply yG|apply yH|apply yI);exact rfl;(first|exact yX (enc := jc) rfl rfl hn hlt rfl))|refine yaC (hc) ?_|exact yaF|refine yaS ?_ ?_<;>intro _
   all_goals first
    |(exfalso; omega)
    | contradiction
    | skip
   ·rename_i h1
    rw [if_pos h1] at hsl
    exact .ret rfl (.int hsl.symm)
   ·rename_i h1
    rw [if_neg h1] at hsl
    exact Go.keep [0, 1, 5] (hrec _ _ _ (by omega) ⟨i + 1, _, _, rfl, hlt, wb hn (by omega), ⟨by omega, by omega, hsl⟩, rfl, rfl⟩)
  ·rw [if_neg h0] at hsl
   repeat' first|refine yaG ?_|((first|apply yG|apply yH|apply yI);exact rfl;(first|exact yX (enc := jc) rfl rfl hn hlt rfl))|refine yaC (hc) ?_|exact yaF|refine yaS ?_ ?_<;>intro _
   all_goals first
    |(exfalso; omega)
    | contradiction
    | skip
   exact .ret rfl (.int hsl.symm)
 ·repeat' first|refine yaG ?_|exact yaF|refine yaS ?_ ?_<;>intro _
  refine .ret rfl (.int ?_)
  rw [hsl, yad (by omega)]
  rfl
theorem zjp (xs : List Data) (k : Int) (hx : xs.length <= 34359738368) (hkl : ∀ e ∈ xs, e.rows.length <= 34359738368 /\ ∀ r ∈ e.rows, r.vals.length <= 34359738368) (hk0 : 0 <= k) (hk : k + cntL wl xs <= 34359738368) : Pure Tryz.prog 18 [.c (.fz (xs.map jb)), .c (.int .i64 k)] (.c (.int .i64 (za4 wk9 xs k))) := by
 refine Pure.run mixed wc2 (yaa rfl) fun σ hS hA => ?_
 clear hS hA
 repeat' first|refine yaG ?_|exact yaF|refine yaS ?_ ?_<;>intro _
 refine Go.keep [0, 1, 5] (Go.loops (I := fun m fr τ => ∃ i : Nat, ∃ n l : Int, m = xs.length - i /\ i <= xs.length /\ n = i /\ (0 <= l /\ l + cntL wl (xs.drop i) <= 34359738368 /\ za4 wk9 xs k = za4 wk9 (xs.drop i) l) /\
  fr = [(0, .c (.fz (xs.map jb))), (1, .c (.int .i64 l)), (5, .c (.int .i64 n))] /\ τ = E σ []) ?_ _ _ _ ⟨0, _, _, rfl, Nat.zero_le _, rfl, ⟨hk0, by simpa using hk, rfl⟩, rfl, rfl⟩)
 rintro m fr τ ⟨i, n, l, rfl, hi, hn, ⟨hl0, hl, hsl⟩, rfl, rfl⟩ hrec
 by_cases hlt : i < xs.length
 ·have hdr := yac hlt
  have hn0 := ze jan (xs.drop (i + 1))
  have hn1 := ze j5 xs[i].rows
  rw [hdr] at hl
  simp only [cntL, wl, Int.zero_add] at hl
  rw [hdr, za4, wk9] at hsl
  have hor := wd3 zm2 xs[i].rows l
  have hk1 := hkl _ (yab hlt)
  have hl2 : cntL wl (xs.drop (i + 1)) + (l + cntL wj xs[i].rows) <= 34359738368 := by
   have e : cntL wl (xs.drop (i + 1)) = cntL (fun a => cntL wj a.rows) (xs.drop (i + 1)) := by
    congr 1
    funext a
    exact Int.zero_add _
   omega
  have hc := wkf xs[i].rows l hk1.1 hk1.2 hl0 (by omega)
  generalize za4 wg1 xs[i].rows l = l1 at hc hor hsl
  repeat' first|refine yaG ?_|((first|apply yG|apply yH|apply yI);exact rfl;(first|exact yX (enc := jb) rfl rfl hn hlt rfl))|refine yaC (hc) ?_|exact yaF|refine yaS ?_ ?_<;>intro _
  ·rename_i h1
   rw [if_pos h1] at hsl
   exact .ret rfl (.int hsl.symm)
  ·rename_i h1
   rw [if_neg h1] at hsl
   exact Go.keep [0, 1, 5] (hrec _ _ _ (by omega) ⟨i + 1, _, _, rfl, hlt, wb hn (by omega), ⟨by omega, by omega, hsl⟩, rfl, rfl⟩)
 ·repeat' first|refine yaG ?_|exact yaF|refine yaS ?_ ?_<;>intro _
  refine .ret rfl (.int ?_)
  rw [hsl, yad (by omega)]
  rfl
theorem zhy : ∀ (ws : List RowD) (k : Int), (∀ x ∈ ws, zel 34359738368 x) -> (∀ e ∈ jx zb4 wj ws k, e.vals.length <= 34359738368) /\ cntL wj (jx zb4 wj ws k) = cntL wj ws
 | [], k, _ => ⟨fun e he => (by cases he), rfl⟩
 | a :: ws, k, h => by
  obtain ⟨i1, i2⟩ := zhy ws (k + wj a) fun x hx => h x (by simp [hx])
  have hml : (zb4 a k).vals.length = a.vals.length := wy
  refine ⟨fun e he => ?_, ?_⟩
  ·rw [jx] at he
   rcases List.mem_cons.1 he with rfl | he
   ·rw [hml]; exact (h a (by simp)).1
   ·exact i1 e he
  ·rw [jx, cntL, cntL, i2, wj, wj, cnt3, cnt3, hml]
theorem zg2 : ∀ (ws : List Data) (k : Int), (∀ x ∈ ws, zbl 34359738368 x) -> (∀ e ∈ jx wa6 wl ws k, e.rows.length <= 34359738368 /\ ∀ r ∈ e.rows, r.vals.length <= 34359738368) /\ cntL wl (jx wa6 wl ws k) = cntL wl ws
 | [], k, _ => ⟨fun e he => (by cases he), rfl⟩
 | a :: ws, k, h => by
  obtain ⟨i1, i2⟩ := zg2 ws (k + wl a) fun x hx => h x (by simp [hx])
  have ha := h a (by simp)
  obtain ⟨j1, j2⟩ := zhy a.rows k ha.2
  have hml : (wa6 a k).rows.length = a.rows.length := wy
  refine ⟨fun e he => ?_, ?_⟩
  ·rw [jx] at he
   rcases List.mem_cons.1 he with rfl | he
   ·exact ⟨by rw [hml]; exact ha.1, j1⟩
   ·exact i1 e he
  ·have e1 : wl (wa6 a k) = wl a := by
    rw [wl, wl]
    exact congrArg (0 + ·) j2
   rw [jx, cntL, cntL, i2, e1]
theorem jjp (ws : List Data) (w1 : ws.length <= 34359738368) (w2 : ∀ x ∈ ws, zbl 34359738368 x) (w3 : 1 + cntL wl ws <= 34359738368) : Pure Tryz.prog 18 [.c (.fz ((jx wa6 wl ws 1).map jb)), .c (.int .i64 1)] (.c (.int .i64 (1 + cntL wl ws))) := by
 obtain ⟨h2, h3⟩ := zg2 ws 1 w2
 have := zjp (jx wa6 wl ws 1) 1 (by rw [wy]; exact w1) h2 (by decide) (by rw [h3]; exact w3)
 rw [zcr jla jan ws 1 (by decide)] at this
 exact this
theorem wjp (ws : List Data) : 0 <= cntL wl ws := ze jan ws
def jkp (a : SetS) (k : Int) : SetS := ⟨k, jx win zaa a.expr (k + 1)⟩
def waq (a : SetS) : Int := 1 + cntL zaa a.expr
theorem wbr (a : SetS) : 0 <= waq a := by
 have := ze (c := zaa) jad a.expr
 simp only [waq]
 omega
theorem wla (a : SetS) (l : Int) (h : 0 <= l) (hs : 0 <= jdb a l) : waq a <= 8 * (l - jdb a l) + 8 := by
 have := wam (fs := [(szL zTok a.expr)]) (.cons (c := cntL zaa a.expr) (fun q h hs => jaj za3 wgu a.expr q h hs) .nil) l h hs
 simp only [waq]
 simp only [jdb] at hs ⊢
 omega
theorem zjq (xs : List SetS) (k : Int) (hx : xs.length <= 34359738368) (hb : ∀ a ∈ xs, zfh 34359738368 a) (hk0 : 0 <= k) (hk : k + cntL waq xs <= 34359738368) : zdg Tryz.prog 91 (.fz (xs.map jg)) (.fz ((jx jkp waq xs k).map jg)) k (k + cntL waq xs) := by
 refine zau mixed zdl (yaa rfl) (yaa rfl) jg jkp waq wbr xs k hx hk0 hk ?_
 intro n0 rets R K σ τ S x i ni ki ys hi fr hn0 hyl hni hki0 hki1 h0 h1 h5 hmem hh hnext
 have hi' : i < (ys.map jg).length := by simpa using hi
 have hyi : (ys.map jg)[i] = jg ys[i] := by simp
 have hb := hb _ hmem
 obtain ⟨id, v, c, rfl⟩ := hh.shape hi'
 have hh : Has τ S (.fz ((ys.map jg).set i (jg ys[i]))) (.sl id v 0 (ys.map jg).length c) := by rw [<- hyi, yaz]; exact hh
 have hfr : ∀ a, ¬ S a -> τ.get a = τ.get a := fun _ _ => rfl
 have hnx : τ.next = τ.next := rfl
 refine .same (zab h0 h1 h5) ?_
 have hset : ∀ q, (ys.set i q).map jg = (ys.map jg).set i (jg q) := fun q => ybk
 have hc0 := ze (c := zaa) jad ys[i].expr
 simp only [waq] at hki1
 obtain ⟨es0, e0, hg0, he0, hel0, hS0, hw0⟩ := hh.wr (j := 0) hi' (yaa rfl)
 have hel0 : e0.length = 2 := hel0
 obtain ⟨hh, hf0, hn0⟩ := hw0 (.int .i64 ki) (.int _ _)
 have hfr := fun a (ha : ¬ S a) => (hf0 a ha).trans (hfr a ha)
 have hnx := hn0.trans hnx
 repeat' first|(apply yA;exact rfl)|apply yB|apply yC|((first|apply yG|apply yH|apply yI);exact rfl;(first|exact rfl|exact wd rfl rfl hni hi' hg0 he0 hel0|exact wi rfl rfl hg0 he0 (by omega)))|(apply yN;exact rfl)
 obtain ⟨k0, hk0⟩ : ∃ z, ki + 1 = z := ⟨_, rfl⟩
 rw [show IntKind.i64.wrap (ki + 1) = k0 by rw [jf (by omega) (by omega)]; exact hk0]
 obtain ⟨es1, e1, T1, hg1, he1, hel1, hTS1, hj1, hch1, hback1⟩ := hh.ch (j := 1) (y := .fz (ys[i].expr.map zh)) hi' (yaa rfl) rfl
 repeat' first|(apply yA;exact rfl)|apply yB|apply yC|((first|apply yG|apply yH|apply yI);exact rfl;(first|exact rfl|exact wd rfl rfl hni hi' hg1 he1 hel1|exact zo rfl hg1 he1 (show 0 + 1 < e1.length by omega)))|(apply yN;exact rfl)
 refine Go.call _ rfl rfl rfl ((jdc ys[i].expr k0 hb.1 hb.2 (by omega) (by omega)).at_ _ T1 _ hch1) ?_
 rintro r τ1 ⟨rfl, hn1, hf1, hhc1⟩
 have hh := hback1 τ1 _ hf1 hhc1
 have hfr := fun a (ha : ¬ S a) => (hf1 a (fun h => ha (hTS1 a h))).trans (hfr a ha)
 have hnx := hn1.trans hnx
 obtain ⟨k1, hk1⟩ : ∃ z, k0 + cntL zaa ys[i].expr = z := ⟨_, rfl⟩
 rw [hk1]
 clear hg1 he1 hel1 hch1 hback1 hf1 hn1 hhc1
 repeat' first|(apply yA;exact rfl)|apply yB|apply yC|((first|apply yG|apply yH|apply yI);exact rfl;(first|exact rfl))|(apply yN;exact rfl)
 have hkend : k1 = ki + waq ys[i] := by simp only [waq]; omega
 refine hnext _ _ rfl (congrArg (fun z => some (AV.c (Ce.int .i64 z))) hkend) rfl hnx hfr ?_
 rw [hset]
 subst hk0 hk1
 exact hh
structure wny (P : Program) (f : Nat) (ys : List Ce) (k k' : Int) : Prop where
 at_ : ∀ σ S xs, HasL σ S ys xs -> Ok P f [.agg xs, .c (.int .i64 k)] σ (fun r σ' => r = .c (.int .i64 k') /\ σ'.next = σ.next /\ (∀ a, ¬ S a -> σ'.get a = σ.get a))
theorem jjq {τ : wa} {S : Nat -> Prop} {a : Stmt} {xs : List Ce} (h : HasL τ S (ji a) xs) : ∃ x1 x2 x3 S1 S2 S3, xs = [.int .i64 a.kind, .str a.table, x1, x2, x3, .int .i64 a.policy] /\ ((∀ i, S1 i -> S i) /\ (∀ i, S2 i -> S i) /\ (∀ i, S3 i -> S i)) /\ ((∀ i, S2 i -> ¬ S1 i) /\ (∀ i, S3 i -> ¬ S1 i) /\ (∀ i, S3 i -> ¬ S2 i)) /\
 Has τ S1 (.fz (a.rows.map jc)) x1 /\ Has τ S2 (.fz (a.wher.map zh)) x2 /\ Has τ S3 (.fz (a.sets.map jg)) x3 := by
 obtain ⟨U, h1, h2, h3, h4⟩ := h
 match xs, h1 with
 | [y0, y1, y2, y3, y4, y5], _ =>
  have k0 := h4 0 (by simp [ji]) (by simp)
  have k1 := h4 1 (by simp [ji]) (by simp)
  have k2 := h4 2 (by simp [ji]) (by simp)
  have k3 := h4 3 (by simp [ji]) (by simp)
  have k4 := h4 4 (by simp [ji]) (by simp)
  have k5 := h4 5 (by simp [ji]) (by simp)
  simp only [ji, List.getElem_cons_zero, List.getElem_cons_succ] at k0 k1 k2 k3 k4 k5
  cases k0 with
  | c h0 =>
  cases k1 with
  | c h1 =>
  cases k5 with
  | c h5 =>
  exact ⟨y2, y3, y4, U 2, U 3, U 4, rfl, ⟨h2 2, h2 3, h2 4⟩, ⟨fun i a b => absurd (h3 2 3 i b a) (by decide), fun i a b => absurd (h3 2 4 i b a) (by decide), fun i a b => absurd (h3 3 4 i b a) (by decide)⟩, k2, k3, k4⟩
def jb6 (a : Stmt) : Int := 0 + cntL wj a.rows + cntL zaa a.wher + cntL waq a.sets
theorem zhm (a : Stmt) : 0 <= jb6 a := by
 have := ze (c := wj) j5 a.rows
 have := ze (c := zaa) jad a.wher
 have := ze (c := waq) wbr a.sets
 simp only [jb6]
 omega
theorem zlb (a : Stmt) (l : Int) (h : 0 <= l) (hs : 0 <= wdy a l) : jb6 a <= 8 * (l - wdy a l) + 8 := by
 have := wam (fs := [(fun l => l - a.table.length), (szL jbw a.rows), (szL zTok a.wher), (szL jdb a.sets)]) (.cons (c := 0) (zin a.table) (.cons (c := cntL wj a.rows) (fun q h hs => jaj jbe wht a.rows q h hs) (.cons (c := cntL zaa a.wher) (fun q h hs => jaj za3 wgu a.wher q h hs) (.cons (c := cntL waq a.sets) (fun q h hs => jaj jdy wla a.sets q h hs) .nil)))) l h hs
 simp only [jb6]
 simp only [wdy] at hs ⊢
 omega
theorem zkg (a : Stmt) (k : Int) (hb : jel 34359738368 a) (hk0 : 0 <= k) (hk : k + jb6 a <= 34359738368) : wny Tryz.prog 32 (ji a) k (k + jb6 a) := by
 constructor
 intro σ S xs hh
 obtain ⟨x1, x2, x3, S1, S2, S3, rfl, ⟨s1, s2, s3⟩, ⟨d21, d31, d32⟩, g1, g2, g3⟩ := jjq hh
 have n1 := ze (c := wj) j5 a.rows
 have n2 := ze (c := zaa) jad a.wher
 have n3 := ze (c := waq) wbr a.sets
 simp only [jb6] at hk
 refine .old wbm fun hS hA => .of_go mixed wbm (yaa rfl) ?_
 clear hS hA
 repeat' first|refine yaG ?_|exact yaF|refine yaS ?_ ?_<;>intro _
 refine Go.call _ rfl rfl rfl ((zeu a.rows k hb.2.1.1 hb.2.1.2 hk0 (by omega)).at_ σ S1 _ g1) ?_
 rintro r τ1 ⟨rfl, hnx1, hf1, -⟩
 have g2 := g2.frame fun i hi => hf1 i (d21 i hi)
 have g3 := g3.frame fun i hi => hf1 i (d31 i hi)
 repeat' first|refine yaG ?_|exact yaF|refine yaS ?_ ?_<;>intro _
 refine Go.call _ rfl rfl rfl ((jdc a.wher (k + cntL wj a.rows) hb.2.2.1.1 hb.2.2.1.2 (by omega) (by omega)).at_ τ1 S2 _ g2) ?_
 rintro r τ2 ⟨rfl, hnx2, hf2, -⟩
 have g3 := g3.frame fun i hi => hf2 i (d32 i hi)
 repeat' first|refine yaG ?_|exact yaF|refine yaS ?_ ?_<;>intro _
 refine Go.call _ rfl rfl rfl ((zjq a.sets (k + cntL wj a.rows + cntL zaa a.wher) hb.2.2.2.1 hb.2.2.2.2 (by omega) (by omega)).at_ τ2 S3 _ g3) ?_
 rintro r τ3 ⟨rfl, hnx3, hf3, -⟩
 repeat' first|refine yaG ?_|exact yaF|refine yaS ?_ ?_<;>intro _
 refine .ret rfl ⟨?_, hnx3.trans (hnx2.trans hnx1), fun i hi => (hf3 i fun h => hi (s3 i h)).trans ((hf2 i fun h => hi (s2 i h)).trans (hf1 i fun h => hi (s1 i h)))⟩
 simp only [jb6]
 congr 2
 omega
end Go.Proofs.YtmmgbgpglhbhcaaGreat.Am
namespace Go.Proofs.YtmmgbgpglhbhcaaGreat.Am
open Go.RowKit Go.ChangeShapes Go.WideShapes

section
variable {H : Type} {enc : TypeId × Value -> H} {W : World}
theorem wnp : jp enc Tryz.prog W 114 encV LenV := 
 (jp.struct (s := 3) Tryz.underlying114 (.cons (s := 1) rfl (.int Tryz.underlying2) rfl (fun _ => rfl) (.cons (s := 1) rfl (.int Tryz.underlying2) rfl (fun _ => rfl) (.cons (s := 1) rfl (.str Tryz.underlying9) rfl (fun _ => rfl) .nil))) (by kernel_rfl) (fun _ => rfl)).iso (fun p => Val.mk p.1 p.2.1 p.2.2.1) (fun _ => rfl) fun p h => yah h.2.2.1 (by decide)
theorem znz : jp enc Tryz.prog W 37 (fun l : List Val => [.fz (l.map encV)]) (fun l => l.length <= 140737488351232 /\ ∀ v ∈ l, LenV v) :=
 (jp.slice (s := 3) Tryz.underlying37 wnp (by kernel_rfl) (by decide) (fun _ => rfl)).iso id (fun _ => rfl) fun l h => ⟨yah (yaw _ (of_decide_eq_true (by kernel_rfl))) h.1, h.2⟩
end
end Go.Proofs.YtmmgbgpglhbhcaaGreat.Am
namespace Go.Proofs.YtmmgbgpglhbhcaaGreat.Am
open Go.RowKit Go.ChangeShapes Go.WideShapes
section
variable {H : Type} {enc : TypeId × Value -> H} {W : World}
theorem jl8 : jp enc Tryz.prog W 74 (fun l : List Int => [.fz (l.map encI)]) (fun l => l.length <= 140737488351232) :=
 (jp.slice (s := 1) Tryz.underlying74 (.int Tryz.underlying2) (by kernel_rfl) (by decide) (fun _ => rfl)).iso id (fun _ => rfl) fun l h => yah (yaw _ (of_decide_eq_true (by kernel_rfl))) h.1
theorem znq : jp enc Tryz.prog W 210 zh (bTok 1125899906842624) :=
 (jp.struct (s := 5) Tryz.underlying210 (.cons (s := 1) rfl (.int Tryz.underlying2) rfl (fun _ => rfl) (.cons (s := 1) rfl (.int Tryz.underlying2) rfl (fun _ => rfl) (.cons (s := 3) rfl wnp rfl (fun _ => rfl) .nil))) (by kernel_rfl) (fun _ => rfl)).iso (fun p => Tok.mk p.1 p.2.1 p.2.2.1) (fun _ => rfl) fun p h => h.2.2.1
theorem jis : jp enc Tryz.prog W 49 (fun l : List Tok => [.fz (l.map zh)]) (fun l => l.length <= 140737488351232 /\ ∀ v ∈ l, bTok 1125899906842624 v) :=
 (jp.slice (s := 5) Tryz.underlying49 znq (by kernel_rfl) (by decide) (fun _ => rfl)).iso id (fun _ => rfl) fun l h => ⟨yah (yaw _ (of_decide_eq_true (by kernel_rfl))) h.1, h.2⟩
theorem jnq : jp enc Tryz.prog W 255 jr (bChk 1125899906842624) :=
 (jp.struct (s := 1) Tryz.underlying255 (.cons (s := 1) rfl jis rfl (fun _ => rfl) .nil) (by kernel_rfl) (fun _ => rfl)).iso (fun p => Chk.mk p.1) (fun _ => rfl) fun p h => ⟨yah h.1.1 (by decide), h.1.2⟩
theorem jm2 : jp enc Tryz.prog W 76 (fun l : List Chk => [.fz (l.map jr)]) (fun l => l.length <= 140737488351232 /\ ∀ v ∈ l, bChk 1125899906842624 v) :=
 (jp.slice (s := 1) Tryz.underlying76 jnq (by kernel_rfl) (by decide) (fun _ => rfl)).iso id (fun _ => rfl) fun l h => ⟨yah (yaw _ (of_decide_eq_true (by kernel_rfl))) h.1, h.2⟩
theorem wm2 : jp enc Tryz.prog W 252 jl (jfg 1125899906842624) :=
 (jp.struct (s := 1) Tryz.underlying252 (.cons (s := 1) rfl jl8 rfl (fun _ => rfl) .nil) (by kernel_rfl) (fun _ => rfl)).iso (fun p => Uniq.mk p.1) (fun _ => rfl) fun p h => yah h.1 (by decide)
theorem wl8 : jp enc Tryz.prog W 75 (fun l : List Uniq => [.fz (l.map jl)]) (fun l => l.length <= 140737488351232 /\ ∀ v ∈ l, jfg 1125899906842624 v) :=
 (jp.slice (s := 1) Tryz.underlying75 wm2 (by kernel_rfl) (by decide) (fun _ => rfl)).iso id (fun _ => rfl) fun l h => ⟨yah (yaw _ (of_decide_eq_true (by kernel_rfl))) h.1, h.2⟩
theorem jnz : jp enc Tryz.prog W 257 jv (bFk 1125899906842624) :=
 (jp.struct (s := 5) Tryz.underlying257 (.cons (s := 1) rfl jl8 rfl (fun _ => rfl) (.cons (s := 1) rfl (.str Tryz.underlying9) rfl (fun _ => rfl) (.cons (s := 1) rfl (.int Tryz.underlying2) rfl (fun _ => rfl) (.cons (s := 1) rfl (.int Tryz.underlying2) rfl (fun _ => rfl) (.cons (s := 1) rfl (.bool Tryz.underlying4) rfl (fun _ => rfl) .nil))))) (by kernel_rfl) (fun _ => rfl)).iso (fun p => Fk.mk p.1 p.2.1 p.2.2.1 p.2.2.2.1 p.2.2.2.2.1) (fun _ => rfl) fun p h => ⟨yah h.1 (by decide), yah h.2.1 (by decide)⟩
theorem wnq : jp enc Tryz.prog W 77 (fun l : List Fk => [.fz (l.map jv)]) (fun l => l.length <= 140737488351232 /\ ∀ v ∈ l, bFk 1125899906842624 v) :=
 (jp.slice (s := 5) Tryz.underlying77 jnz (by kernel_rfl) (by decide) (fun _ => rfl)).iso id (fun _ => rfl) fun l h => ⟨yah (yaw _ (of_decide_eq_true (by kernel_rfl))) h.1, h.2⟩
theorem znr : jp enc Tryz.prog W 250 zg (bCol 1125899906842624) :=
 (jp.struct (s := 6) Tryz.underlying250 (.cons (s := 1) rfl (.str Tryz.underlying9) rfl (fun _ => rfl) (.cons (s := 1) rfl (.int Tryz.underlying2) rfl (fun _ => rfl) (.cons (s := 1) rfl (.bool Tryz.underlying4) rfl (fun _ => rfl) (.cons (s := 3) rfl wnp rfl (fun _ => rfl) .nil)))) (by kernel_rfl) (fun _ => rfl)).iso (fun p => Col.mk p.1 p.2.1 p.2.2.1 p.2.2.2.1) (fun _ => rfl) fun p h => ⟨yah h.1 (by decide), h.2.2.2.1⟩
theorem zm3 : jp enc Tryz.prog W 73 (fun l : List Col => [.fz (l.map zg)]) (fun l => l.length <= 140737488351232 /\ ∀ v ∈ l, bCol 1125899906842624 v) :=
 (jp.slice (s := 6) Tryz.underlying73 znr (by kernel_rfl) (by decide) (fun _ => rfl)).iso id (fun _ => rfl) fun l h => ⟨yah (yaw _ (of_decide_eq_true (by kernel_rfl))) h.1, h.2⟩
theorem zl9 : jp enc Tryz.prog W 79 ja (zac 1125899906842624) :=
 (jp.struct (s := 6) Tryz.underlying79 (.cons (s := 1) rfl (.str Tryz.underlying9) rfl (fun _ => rfl) (.cons (s := 1) rfl zm3 rfl (fun _ => rfl) (.cons (s := 1) rfl jl8 rfl (fun _ => rfl) (.cons (s := 1) rfl wl8 rfl (fun _ => rfl) (.cons (s := 1) rfl jm2 rfl (fun _ => rfl) (.cons (s := 1) rfl wnq rfl (fun _ => rfl) .nil)))))) (by kernel_rfl) (fun _ => rfl)).iso (fun p => zd.mk p.1 p.2.1 p.2.2.1 p.2.2.2.1 p.2.2.2.2.1 p.2.2.2.2.2.1) (fun _ => rfl) fun p h => ⟨yah h.1 (by decide), ⟨yah h.2.1.1 (by decide), h.2.1.2⟩, yah h.2.2.1 (by decide), ⟨yah h.2.2.2.1.1 (by decide), h.2.2.2.1.2⟩, ⟨yah h.2.2.2.2.1.1 (by decide), h.2.2.2.2.1.2⟩, ⟨yah h.2.2.2.2.2.1.1 (by decide), h.2.2.2.2.2.1.2⟩⟩
theorem jlb : jp enc Tryz.prog W 22 (fun l : List zd => [.fz (l.map ja)]) (fun l => l.length <= 140737488351232 /\ ∀ v ∈ l, zac 1125899906842624 v) :=
 (jp.slice (s := 6) Tryz.underlying22 zl9 (by kernel_rfl) (by decide) (fun _ => rfl)).iso id (fun _ => rfl) fun l h => ⟨yah (yaw _ (of_decide_eq_true (by kernel_rfl))) h.1, h.2⟩
theorem jm3 : jp enc Tryz.prog W 213 jg (zfh 1125899906842624) :=
 (jp.struct (s := 2) Tryz.underlying213 (.cons (s := 1) rfl (.int Tryz.underlying2) rfl (fun _ => rfl) (.cons (s := 1) rfl jis rfl (fun _ => rfl) .nil)) (by kernel_rfl) (fun _ => rfl)).iso (fun p => SetS.mk p.1 p.2.1) (fun _ => rfl) fun p h => ⟨yah h.2.1.1 (by decide), h.2.1.2⟩
theorem jl9 : jp enc Tryz.prog W 50 (fun l : List SetS => [.fz (l.map jg)]) (fun l => l.length <= 140737488351232 /\ ∀ v ∈ l, zfh 1125899906842624 v) :=
 (jp.slice (s := 2) Tryz.underlying50 jm3 (by kernel_rfl) (by decide) (fun _ => rfl)).iso id (fun _ => rfl) fun l h => ⟨yah (yaw _ (of_decide_eq_true (by kernel_rfl))) h.1, h.2⟩
theorem wm3 : jp enc Tryz.prog W 207 jc (zel 1125899906842624) :=
 (jp.struct (s := 2) Tryz.underlying207 (.cons (s := 1) rfl (.int Tryz.underlying2) rfl (fun _ => rfl) (.cons (s := 1) rfl znz rfl (fun _ => rfl) .nil)) (by kernel_rfl) (fun _ => rfl)).iso (fun p => RowD.mk p.1 p.2.1) (fun _ => rfl) fun p h => ⟨yah h.2.1.1 (by decide), h.2.1.2⟩
theorem wjq : jp enc Tryz.prog W 48 (fun l : List RowD => [.fz (l.map jc)]) (fun l => l.length <= 140737488351232 /\ ∀ v ∈ l, zel 1125899906842624 v) :=
 (jp.slice (s := 2) Tryz.underlying48 wm3 (by kernel_rfl) (by decide) (fun _ => rfl)).iso id (fun _ => rfl) fun l h => ⟨yah (yaw _ (of_decide_eq_true (by kernel_rfl))) h.1, h.2⟩
theorem zm4 : jp enc Tryz.prog W 52 ji (jel 1125899906842624) :=
 (jp.struct (s := 6) Tryz.underlying52 (.cons (s := 1) rfl (.int Tryz.underlying2) rfl (fun _ => rfl) (.cons (s := 1) rfl (.str Tryz.underlying9) rfl (fun _ => rfl) (.cons (s := 1) rfl wjq rfl (fun _ => rfl) (.cons (s := 1) rfl jis rfl (fun _ => rfl) (.cons (s := 1) rfl jl9 rfl (fun _ => rfl) (.cons (s := 1) rfl (.int Tryz.underlying2) rfl (fun _ => rfl) .nil)))))) (by kernel_rfl) (fun _ => rfl)).iso (fun p => Stmt.mk p.1 p.2.1 p.2.2.1 p.2.2.2.1 p.2.2.2.2.1 p.2.2.2.2.2.1) (fun _ => rfl) fun p h => ⟨yah h.2.1 (by decide), ⟨yah h.2.2.1.1 (by decide), h.2.2.1.2⟩, ⟨yah h.2.2.2.1.1 (by decide), h.2.2.2.1.2⟩, ⟨yah h.2.2.2.2.1.1 (by decide), h.2.2.2.2.1.2⟩⟩
end
end Go.Proofs.YtmmgbgpglhbhcaaGreat.Am
namespace Go.Proofs.YtmmgbgpglhbhcaaGreat.Am
open Go.RowKit Go.ChangeShapes Go.WideShapes
section
variable {H : Type} {enc : TypeId × Value -> H} {W : World}
theorem jm4 : jp enc Tryz.prog W 82 jb (zbl 1125899906842624) :=
 (jp.struct (s := 1) Tryz.underlying82 (.cons (s := 1) rfl wjq rfl (fun _ => rfl) .nil) (by kernel_rfl) (fun _ => rfl)).iso (fun p => Data.mk p.1) (fun _ => rfl) fun p h => ⟨yah h.1.1 (by decide), h.1.2⟩
theorem wl9 : jp enc Tryz.prog W 23 (fun l : List Data => [.fz (l.map jb)]) (fun l => l.length <= 140737488351232 /\ ∀ v ∈ l, zbl 1125899906842624 v) :=
 (jp.slice (s := 1) Tryz.underlying23 jm4 (by kernel_rfl) (by decide) (fun _ => rfl)).iso id (fun _ => rfl) fun l h => ⟨yah (yaw _ (of_decide_eq_true (by kernel_rfl))) h.1, h.2⟩
end
end Go.Proofs.YtmmgbgpglhbhcaaGreat.Am
