/- The statement of the law FnJoin: whatever its arguments are, it returns true, leaves what was there as it was, and ends. No condition. -/
import Derived.Test.YteafjabcpmpmgaaGreatRows
import Derived.WalkKit
import Derived.ProofKit
import Derived.OpenShut
import Derived.ShutString
import Derived.ChangeOld
import Derived.Below
import Derived.SizedLaws
import Derived.Test.YteafjabcpmpmgaaGreatV1
import Derived.Test.YteafjabcpmpmgaaGreatV2
import Derived.Test.YteafjabcpmpmgaaGreatV3
import Derived.Test.YteafjabcpmpmgaaGreatV4
import Derived.Test.YteafjabcpmpmgaaGreatV5
import Derived.Test.YteafjabcpmpmgaaGreatV6
/- The law FnMatchingEither: its function returns true. -/
set_option linter.unusedVariables false
set_option linter.unusedSimpArgs false
namespace Go.Proofs.YteafjabcpmpmgaaGreat.Am

theorem big_ok (code : List UInt8) : Pure Tryz.prog 30 [.c (.fz (code.map encB))] (.c (.bool (decide (1048576 < (code.length : Int))))) := by
  refine Pure.run mixed c_laws_big_ok (Nat.le_of_ble_eq_true rfl) fun σ hS hA => ?_
  clear hS hA
  repeat' first|(apply yA;exact rfl)|apply yB|apply yC|((first|apply yD|apply yE);(first|exact yF|assumption);iterate 6 exact rfl)|((first|apply yG|apply yH|apply yI);exact rfl;(first|exact yJ|exact yK rfl rfl|exact yL rfl|exact yM rfl|exact rfl|exact aL rfl rfl rfl rfl rfl|exact aS rfl rfl rfl rfl rfl rfl rfl))|((first|apply yN|apply yO|apply yP);exact rfl)|(exfalso;omega)|(((first|apply yT|apply yU|apply yV|apply yW);exact rfl;(first|exact .d|exact .e|exact .n|((fail_if_success exact bqt);(fail_if_success exact bqf);exact .b)))<;>intro _)
  exact .ret rfl (.bool rfl)
theorem b12_34 {t : Tok} (h : bTok 12 t) : bTok 34359738368 t := Nat.le_trans h (by decide)
theorem draw_db {s : List Table} {db : List Data} (h : dbF s db = true ∨ db = []) : db.length ≤ 34359738368 ∧ ∀ d ∈ db, bData 34359738368 d := by
  rcases h with h | rfl
  · exact ⟨by have := (dbF_b h).1; omega, (dbF_b h).2.1⟩
  · exact ⟨by simp, fun d hd => by cases hd⟩
theorem old_tabs {n : Nat} {l : List Table} : ∀ y ∈ (AV.c (.fz (l.map encTable))).all, Old n y := fun y hy => by
  rw [List.mem_singleton.1 hy]; exact old_fz1 (oldTables _)
theorem old_dats {n : Nat} {l : List Data} : ∀ y ∈ (AV.c (.fz (l.map encData))).all, Old n y := fun y hy => by
  rw [List.mem_singleton.1 hy]; exact old_fz1 (oldDatas _)
end Go.Proofs.YteafjabcpmpmgaaGreat.Am

/- The law FnMatchingNot: its function returns true. -/
set_option linter.unusedVariables false
set_option linter.unusedSimpArgs false
namespace Go.Proofs.YteafjabcpmpmgaaGreat.Am

end Go.Proofs.YteafjabcpmpmgaaGreat.Am

/- The law FnJoinTurned: its function returns true. -/
set_option linter.unusedVariables false
set_option linter.unusedSimpArgs false
namespace Go.Proofs.YteafjabcpmpmgaaGreat.Am

theorem sameValsL_ok (xs ys : List Val) (hx : xs.length ≤ 34359738368) : Pure Tryz.prog 45 [.c (.fz (xs.map encV)), .c (.fz (ys.map encV))] (.c (.bool (xs == ys))) := by
  refine Pure.run mixed c_laws_sameVals_ok (Nat.le_of_ble_eq_true rfl) fun σ hS hA => ?_
  clear hS hA
  repeat' first|(apply yA;exact rfl)|apply yB|apply yC|((first|apply yD|apply yE);(first|exact yF|assumption);iterate 6 exact rfl)|((first|apply yG|apply yH|apply yI);exact rfl;(first|exact yJ|exact yK rfl rfl|exact yL rfl|exact yM rfl|exact rfl|exact aL rfl rfl rfl rfl rfl|exact aS rfl rfl rfl rfl rfl rfl rfl))|((first|apply yN|apply yO|apply yP);exact rfl)|(exfalso;omega)|(((first|apply yT|apply yU|apply yV|apply yW);exact rfl;(first|exact .d|exact .e|exact .n|((fail_if_success exact bqt);(fail_if_success exact bqf);exact .b)))<;>intro _)
  · refine .ret rfl (.bool ?_)
    rw [eq_comm, beq_eq_false_iff_ne]
    rintro rfl
    simp at *
  refine Go.keep [0, 1, 5] (Go.loops (I := fun m fr τ => ∃ i : Nat, ∃ n : Int, m = xs.length - i ∧ i ≤ xs.length ∧ n = i ∧ (xs.length = ys.length ∧ (xs == ys) = (xs.drop i == ys.drop i)) ∧
    fr = [(0, .c (.fz (xs.map encV))), (1, .c (.fz (ys.map encV))), (5, .c (.int .i64 n))] ∧ τ = E σ []) ?_ _ _ _ ⟨0, _, rfl, Nat.zero_le _, rfl, ⟨by omega, rfl⟩, rfl, rfl⟩)
  rintro m fr τ ⟨i, n, rfl, hi, hn, ⟨hl, hsl⟩, rfl, rfl⟩ hrec
  by_cases hlt : i < xs.length
  · have hlt2 : i < ys.length := by omega
    have hst := sameVals_step hlt hlt2
    repeat' first|(apply yA;exact rfl)|apply yB|apply yC|((first|apply yD|apply yE);(first|exact yF|assumption);iterate 6 exact rfl)|((first|apply yG|apply yH|apply yI);exact rfl;(first|exact yJ|exact yK rfl rfl|exact yL rfl|exact yM rfl|exact rfl|exact aL rfl rfl rfl rfl rfl|exact aS rfl rfl rfl rfl rfl rfl rfl|exact yX (enc := encV) rfl rfl hn hlt rfl|exact yX (enc := encV) rfl rfl hn hlt2 rfl))|((first|apply yN|apply yO|apply yP);exact rfl)|(exfalso;omega)|(((first|apply yT|apply yU|apply yV|apply yW);exact rfl;(first|exact .d|exact .e|exact .n|((fail_if_success exact bqt);(fail_if_success exact bqf);exact .b)))<;>intro _)
    · refine .ret rfl (.bool ?_)
      rw [hsl, hst]
      clear hrec
      simp_all
      intros
      simp_all
    · refine Go.keep [0, 1, 5] (hrec _ _ _ (by omega) ⟨i + 1, _, rfl, hlt, wrap_succ hn (by omega), ⟨hl, ?_⟩, rfl, rfl⟩)
      rw [hsl, hst]
      clear hrec
      simp_all
  · repeat' first|(apply yA;exact rfl)|apply yB|apply yC|((first|apply yD|apply yE);(first|exact yF|assumption);iterate 6 exact rfl)|((first|apply yG|apply yH|apply yI);exact rfl;(first|exact yJ|exact yK rfl rfl|exact yL rfl|exact yM rfl|exact rfl|exact aL rfl rfl rfl rfl rfl|exact aS rfl rfl rfl rfl rfl rfl rfl))|((first|apply yN|apply yO|apply yP);exact rfl)|(exfalso;omega)|(((first|apply yT|apply yU|apply yV|apply yW);exact rfl;(first|exact .d|exact .e|exact .n|((fail_if_success exact bqt);(fail_if_success exact bqf);exact .b)))<;>intro _)
    refine .ret rfl (.bool ?_)
    rw [hsl, List.drop_eq_nil_of_le (by omega), List.drop_eq_nil_of_le (by omega)]
    rfl
theorem sameLines_ok (a : List Line) (ha : a.length ≤ 34359738368) (hv : ∀ x ∈ a, x.vals.length ≤ 34359738368) : Pure Tryz.prog 43 [.c (.fz (a.map encLine)), .c (.fz (a.map encLine))] (.c (.bool true)) := by
  refine Pure.run mixed c_laws_sameLines_ok (Nat.le_of_ble_eq_true rfl) fun σ hS hA => ?_
  clear hS hA
  repeat' first|(apply yA;exact rfl)|apply yB|apply yC|((first|apply yD|apply yE);(first|exact yF|assumption);iterate 6 exact rfl)|((first|apply yG|apply yH|apply yI);exact rfl;(first|exact yJ|exact yK rfl rfl|exact yL rfl|exact yM rfl|exact rfl|exact aL rfl rfl rfl rfl rfl|exact aS rfl rfl rfl rfl rfl rfl rfl))|((first|apply yN|apply yO|apply yP);exact rfl)|(exfalso;omega)|(((first|apply yT|apply yU|apply yV|apply yW);exact rfl;(first|exact .d|exact .e|exact .n|((fail_if_success exact bqt);(fail_if_success exact bqf);exact .b)))<;>intro _)
  refine Go.keep [0, 1, 5] (Go.loops (I := fun m fr τ => ∃ (i : Nat) (k : Int), m = a.length - i ∧ i ≤ a.length ∧ k = i ∧
    fr = [(0, .c (.fz (a.map encLine))), (1, .c (.fz (a.map encLine))), (5, .c (.int .i64 k))] ∧ τ = E σ []) ?_ _ _ _ ⟨0, _, rfl, Nat.zero_le _, rfl, rfl, rfl⟩)
  rintro m fr τ ⟨i, k, rfl, hi, hk, rfl, rfl⟩ hrec
  by_cases hlt : i < a.length
  · have c1 := sameValsL_ok a[i].vals a[i].vals (hv _ (List.getElem_mem hlt))
    rw [beq_self_eq_true] at c1
    repeat' first|(apply yA;exact rfl)|apply yB|apply yC|((first|apply yD|apply yE);(first|exact yF|assumption);iterate 6 exact rfl)|((first|apply yG|apply yH|apply yI);exact rfl;(first|exact yJ|exact yK rfl rfl|exact yL rfl|exact yM rfl|exact rfl|exact aL rfl rfl rfl rfl rfl|exact aS rfl rfl rfl rfl rfl rfl rfl|exact yX (enc := encLine) rfl rfl hk hlt rfl))|((first|apply yN|apply yO|apply yP);exact rfl)|((first|apply yQ|apply yR|apply yS);(iterate 3 exact rfl);exact c1)|(exfalso;omega)|(((first|apply yT|apply yU|apply yV|apply yW);exact rfl;(first|exact .d|exact .e|exact .n|((fail_if_success exact bqt);(fail_if_success exact bqf);exact .b)))<;>intro _)
    exact Go.keep [0, 1, 5] (hrec _ _ _ (by omega) ⟨i + 1, _, rfl, hlt, wrap_succ hk (by omega), rfl, rfl⟩)
  · repeat' first|(apply yA;exact rfl)|apply yB|apply yC|((first|apply yD|apply yE);(first|exact yF|assumption);iterate 6 exact rfl)|((first|apply yG|apply yH|apply yI);exact rfl;(first|exact yJ|exact yK rfl rfl|exact yL rfl|exact yM rfl|exact rfl|exact aL rfl rfl rfl rfl rfl|exact aS rfl rfl rfl rfl rfl rfl rfl))|((first|apply yN|apply yO|apply yP);exact rfl)|(exfalso;omega)|(((first|apply yT|apply yU|apply yV|apply yW);exact rfl;(first|exact .d|exact .e|exact .n|((fail_if_success exact bqt);(fail_if_success exact bqf);exact .b)))<;>intro _)
    exact .ret rfl (.bool rfl)
theorem oldLines {n : Nat} (l : List Line) : OldL n (l.map encLine) := fun e he c hc => by
  obtain ⟨a, _, rfl⟩ := List.mem_map.1 he
  simp only [encLine, List.mem_cons, List.not_mem_nil, or_false] at hc
  subst hc
  exact old_fz1 (oldL_flat flats)
theorem old_lins {n : Nat} {l : List Line} : ∀ y ∈ (AV.c (.fz (l.map encLine))).all, Old n y := fun y hy => by
  rw [List.mem_singleton.1 hy]; exact old_fz1 (oldLines _)
theorem join_in {s : List Table} {db : List Data} {a b : Int} {w : List Tok} (h : (JoinF s db a b w).2 = true) : dbF s db = true ∧ isIn a 0 (s.length - 1) = true ∧ isIn b 0 (s.length - 1) = true ∧ exprF w (colsAt s a + colsAt s b : Nat) = true := by
  rw [JoinF] at h
  split at h
  · rename_i hg
    simpa only [Bool.and_eq_true] using hg
  · cases h
theorem exprAux_all {n : Int} : ∀ {e : List Tok} {a : Int}, exprAux n a e = true → ∀ t ∈ e, isTokF t n = true
  | [], _, _, t, ht => by cases ht
  | x :: e, a, h, t, ht => by
    obtain ⟨h1, h2, h3⟩ := exprAux_cons h
    rcases List.mem_cons.1 ht with rfl | ht
    · exact h1
    · exact exprAux_all h3 t ht
def turned (n m : Int) (w : List Tok) (i : Nat) : List Tok := (w.take i).map (turnT n m) ++ w.drop i
theorem turned_len {n m : Int} {w : List Tok} {i : Nat} : (turned n m w i).length = w.length := by
  rw [turned, List.length_append, List.length_map, List.length_take, List.length_drop]
  omega
theorem turned_at {n m : Int} {w : List Tok} {i : Nat} (h : i < w.length) : (turned n m w i)[i]? = some w[i] := by
  rw [turned, List.getElem?_append_right (by rw [List.length_map, List.length_take]; omega), List.length_map, List.length_take, List.getElem?_drop, List.getElem?_eq_getElem (by omega)]
  congr 2
  omega
theorem turned_set {n m : Int} {w : List Tok} {i : Nat} (h : i < w.length) : (turned n m w i).set i (turnT n m w[i]) = turned n m w (i + 1) := by
  rw [turned, turned, List.set_append_right _ _ (by rw [List.length_map, List.length_take]; omega), List.length_map, List.length_take, show i - min i w.length = 0 by omega, List.drop_eq_getElem_cons h, List.set_cons_zero, List.take_succ_eq_append_getElem h, List.map_append, List.append_assoc]
  rfl
theorem turned_same {n m : Int} {w : List Tok} {i : Nat} (h : i < w.length) (he : turnT n m w[i] = w[i]) : turned n m w i = turned n m w (i + 1) := by
  rw [turned, turned, List.drop_eq_getElem_cons h, List.take_succ_eq_append_getElem h, List.map_append, List.append_assoc, List.map_singleton, he]
  rfl
theorem JoinTurned_sound (code : List UInt8) : Pure Tryz.prog 8 [.c (.fz (code.map encB))] (.c (.bool true)) := by
  refine Pure.run mixed c_laws_FnJoinTurned_ok (Nat.le_of_ble_eq_true rfl) fun σ hS hA => ?_
  clear hA
  have cb := big_ok code
  by_cases hc : 1048576 < (code.length : Int)
  · rw [decide_eq_true hc] at cb
    repeat' first|(apply yA;exact rfl)|apply yB|apply yC|((first|apply yD|apply yE);(first|exact yF|assumption);iterate 6 exact rfl)|((first|apply yG|apply yH|apply yI);exact rfl;(first|exact yJ|exact yK rfl rfl|exact yL rfl|exact yM rfl|exact rfl|exact aL rfl rfl rfl rfl rfl|exact aS rfl rfl rfl rfl rfl rfl rfl))|((first|apply yN|apply yO|apply yP);exact rfl)|((first|apply yQ|apply yR|apply yS);(iterate 3 exact rfl);exact cb)|(exfalso;omega)|(((first|apply yT|apply yU|apply yV|apply yW);exact rfl;(first|exact .d|exact .e|exact .n|((fail_if_success exact bqt);(fail_if_success exact bqf);exact .b)))<;>intro _)
    exact .ret rfl (.bool rfl)
  rw [decide_eq_false hc] at cb
  repeat' first|(apply yA;exact rfl)|apply yB|apply yC|((first|apply yD|apply yE);(first|exact yF|assumption);iterate 6 exact rfl)|((first|apply yG|apply yH|apply yI);exact rfl;(first|exact yJ|exact yK rfl rfl|exact yL rfl|exact yM rfl|exact rfl|exact aL rfl rfl rfl rfl rfl|exact aS rfl rfl rfl rfl rfl rfl rfl))|((first|apply yN|apply yO|apply yP);exact rfl)|((first|apply yQ|apply yR|apply yS);(iterate 3 exact rfl);exact cb)|(exfalso;omega)|(((first|apply yT|apply yU|apply yV|apply yW);exact rfl;(first|exact .d|exact .e|exact .n|((fail_if_success exact bqt);(fail_if_success exact bqf);exact .b)))<;>intro _)
  refine Go.told rfl rfl rfl (DrawJoinOn_ok code (by omega)) ?_
  rintro _ ⟨s, db, a, b, w, hs, hd, hw, hwb, rfl⟩
  obtain ⟨hx, hb⟩ := hs.b
  obtain ⟨hdl, hdb⟩ := draw_db hd
  have hwb1 : ∀ t ∈ w, bTok 34359738368 t := fun t ht => b12_34 (hwb t ht)
  have hwb2 : ∀ t ∈ w.map (turnT (colsAt s a) (colsAt s b)), bTok 34359738368 t := fun t ht => by
    obtain ⟨u, hu, rfl⟩ := List.mem_map.1 ht
    have := hwb1 u hu
    rw [bTok, turnT_v]
    exact this
  have c1 := NewV.pure (JoinOn_ok s db a b w hx hb hdl hdb (by omega) hwb1)
  have cS := NewV.pure (sJoinOn_ok s db a b w hx hb hdl hdb (by omega) hwb1)
  have c2 := NewV.pure (JoinOn_ok s db b a (w.map (turnT (colsAt s a) (colsAt s b))) hx hb hdl hdb (by rw [List.length_map]; omega) hwb2)
  obtain ⟨f1, f2, _⟩ := JoinOn_fact s db a b w hx hb hdl hdb (by omega) hwb1
  have hl := turned_law (s := s) (db := db) (a := a) (b := b) (w := w)
  have hin := join_in (s := s) (db := db) (a := a) (b := b) (w := w)
  generalize JoinF s db a b w = M1 at c1 cS hl f1 f2 hin
  generalize JoinF s db b a (w.map (turnT (colsAt s a) (colsAt s b))) = M2 at c2 hl
  obtain ⟨l1, b1⟩ := M1
  obtain ⟨l2, b2⟩ := M2
  simp only at c1 cS hl c2 f1 f2 hin
  have cs1 := sameLines_ok l1 f1 fun x hx => (f2 x hx).1
  cases b1
  · repeat' first|(apply yA;exact rfl)|apply yB|apply yC|((first|apply yD|apply yE);(first|exact yF|assumption);iterate 6 exact rfl)|((first|apply yG|apply yH|apply yI);exact rfl;(first|exact yJ|exact yK rfl rfl|exact yL rfl|exact yM rfl|exact rfl|exact aL rfl rfl rfl rfl rfl|exact aS rfl rfl rfl rfl rfl rfl rfl))|((first|apply yN|apply yO|apply yP);exact rfl)|((first|apply yQ|apply yR|apply yS);(iterate 3 exact rfl);(first|exact c1|exact cS|exact cs1))|(exfalso;omega)|(((first|apply yT|apply yU|apply yV|apply yW);exact rfl;(first|exact .d|exact .e|exact .n|((fail_if_success exact bqt);(fail_if_success exact bqf);exact .b)))<;>intro _)
    exact .ret rfl (.bool rfl)
  obtain ⟨rfl, hlen⟩ := hl rfl
  obtain ⟨_, hia, hib, he⟩ := hin rfl
  obtain ⟨a0, a1⟩ := isIn_at hia
  obtain ⟨e0, e1⟩ := isIn_at hib
  have hna : a = (a.toNat : Int) := by omega
  have hla : a.toNat < s.length := by omega
  have hnb : b = (b.toNat : Int) := by omega
  have hlb : b.toNat < s.length := by omega
  have hca : colsAt s a = s[a.toNat].cols.length := by rw [colsAt, List.getElem?_eq_getElem hla]
  have hcb : colsAt s b = s[b.toNat].cols.length := by rw [colsAt, List.getElem?_eq_getElem hlb]
  have hTa := (hs.2.2 _ (List.getElem_mem hla)).hi
  have hTb := (hs.2.2 _ (List.getElem_mem hlb)).hi
  rw [hca, hcb] at c2 he
  clear hca hcb hwb2 hin hl hib hia
  obtain ⟨hx1, hx2⟩ := exprF_aux he
  have htok := exprAux_all hx2
  repeat' first|(apply yA;exact rfl)|apply yB|apply yC|((first|apply yD|apply yE);(first|exact yF|assumption);iterate 6 exact rfl)|((first|apply yG|apply yH|apply yI);exact rfl;(first|exact yJ|exact yK rfl rfl|exact yL rfl|exact yM rfl|exact rfl|exact aL rfl rfl rfl rfl rfl|exact aS rfl rfl rfl rfl rfl rfl rfl|exact yX (enc := encTable) rfl rfl hna hla rfl|exact yX (enc := encTable) rfl rfl hnb hlb rfl))|((first|apply yN|apply yO|apply yP);exact rfl)|((first|apply yQ|apply yR|apply yS);(iterate 3 exact rfl);(first|exact c1|exact cS|exact cs1))|(exfalso;omega)|(((first|apply yT|apply yU|apply yV|apply yW);exact rfl;(first|exact .d|exact .e|exact .n|((fail_if_success exact bqt);(fail_if_success exact bqf);exact .b)))<;>intro _)
  refine Go.app (k := 0) (ys := []) (junk := []) (zs := w.map encTok) rfl rfl rfl rfl rfl (fun e he => by cases he) Jk.nil encTok_len (by simp; omega) fun v1 j1 hj1 => ?_
  simp only [List.nil_append]
  repeat' first|(apply yA;exact rfl)|apply yB|apply yC|((first|apply yD|apply yE);(first|exact yF|assumption);iterate 6 exact rfl)|((first|apply yG|apply yH|apply yI);exact rfl;(first|exact yJ|exact yK rfl rfl|exact yL rfl|exact yM rfl|exact rfl|exact aL rfl rfl rfl rfl rfl|exact aS rfl rfl rfl rfl rfl rfl rfl))|((first|apply yN|apply yO|apply yP);exact rfl)|(exfalso;omega)|(((first|apply yT|apply yU|apply yV|apply yW);exact rfl;(first|exact .d|exact .e|exact .n|((fail_if_success exact bqt);(fail_if_success exact bqf);exact .b)))<;>intro _)
  clear c1 cS cs1 cb
  generalize s[a.toNat].cols.length = N at c2 he hx2 htok hTa
  generalize s[b.toNat].cols.length = M at c2 he hx2 htok hTb
  refine Go.keep [3, 4, 5, 6, 8, 12, 13, 14, 15] (Go.loops (I := fun m fr τ => ∃ (i : Nat) (k : Int), m = w.length - i ∧ i ≤ w.length ∧ k = i ∧
    fr = [(3, .c (.fz (s.map encTable))), (4, .c (.fz (db.map encData))), (5, .c (.int .i64 a)), (6, .c (.int .i64 b)), (8, .c (.fz (l1.map encLine))), (12, .c (.int .i64 (N : Int))), (13, .c (.int .i64 (M : Int))), (14, .c (vec (σ.next + 0) v1 (w.map encTok) j1)), (15, .c (.int .i64 k))] ∧ τ = E σ [(v1, (turned N M w i).map encTok ++ j1)]) ?_ _ _ _ ⟨0, _, rfl, Nat.zero_le _, rfl, rfl, by rw [turned]; simp⟩)
  rintro m fr τ ⟨i, k, rfl, hi, hk, rfl, rfl⟩ hrec
  by_cases hlt : i < w.length
  · have hg : (E σ [(v1, (turned N M w i).map encTok ++ j1)]).get (σ.next + 0) = some (v1, (turned N M w i).map encTok ++ j1) := E_get (k := 0) rfl
    have hil : i < ((turned N M w i).map encTok).length := by rw [List.length_map, turned_len]; exact hlt
    have hit : i < (w.map encTok).length := by rw [List.length_map]; exact hlt
    have hev : ((turned N M w i).map encTok ++ j1)[0 + i]? = some (encTok w[i]) := by
      rw [Nat.zero_add, List.getElem?_append_left hil, List.getElem?_map, turned_at hlt]
      rfl
    have ht := htok _ (List.getElem_mem hlt)
    have setT : ∀ z : Int, z = (turnT N M w[i]).col → w[i].kind = 1 → ((turned N M w i).map encTok ++ j1).set (0 + i) (splice (encTok w[i]) 1 [.int .i64 z]) = (turned N M w (i + 1)).map encTok ++ j1 := fun z hz hk1 => by
      have e2 : splice (encTok w[i]) 1 [.int .i64 z] = encTok (turnT N M w[i]) := by
        rw [hz, encTok, encTok, turnT_kind, turnT_v]
        rfl
      rw [e2, Nat.zero_add, set_left hil, ← List.map_set, turned_set hlt]
    by_cases hk1 : w[i].kind = 1
    · have hcol := isTok_col ht hk1
      rw [Int.natCast_add] at hcol
      by_cases hcn : w[i].col < N
      · have hz : IntKind.i64.wrap (w[i].col + (M : Int)) = (turnT N M w[i]).col := by rw [turnT_col hk1, if_pos hcn, wrap64 (by omega) (by omega)]
        repeat' first|(apply yA;exact rfl)|apply yB|apply yC|((first|apply yD|apply yE);(first|exact yF|assumption);iterate 6 exact rfl)|((first|apply yG|apply yH|apply yI);exact rfl;(first|exact yJ|exact yK rfl rfl|exact yL rfl|exact yM rfl|exact rfl|exact aL rfl rfl rfl rfl rfl|exact aS rfl rfl rfl rfl rfl rfl rfl|exact aop_iaddrO rfl rfl hk hit hg hev rfl|exact aop_load (k := 0) rfl rfl hev (Nat.le_of_ble_eq_true rfl) rfl|exact aop_store (k := 0) rfl rfl rfl rfl hev rfl (Nat.le_of_ble_eq_true rfl)))|((first|apply yN|apply yO|apply yP);exact rfl)|(exfalso;omega)|(((first|apply yT|apply yU|apply yV|apply yW);exact rfl;(first|exact .d|exact .e|exact .n|((fail_if_success exact bqt);(fail_if_success exact bqf);exact .b)))<;>intro _)
        refine Go.keep [3, 4, 5, 6, 8, 12, 13, 14, 15] (hrec _ _ _ (by omega) ⟨i + 1, _, rfl, hlt, wrap_succ hk (by omega), rfl, ?_⟩)
        rw [← setT _ hz hk1]
        rfl
      · have hz : IntKind.i64.wrap (w[i].col - (N : Int)) = (turnT N M w[i]).col := by rw [turnT_col hk1, if_neg hcn, wrap64 (by omega) (by omega)]
        repeat' first|(apply yA;exact rfl)|apply yB|apply yC|((first|apply yD|apply yE);(first|exact yF|assumption);iterate 6 exact rfl)|((first|apply yG|apply yH|apply yI);exact rfl;(first|exact yJ|exact yK rfl rfl|exact yL rfl|exact yM rfl|exact rfl|exact aL rfl rfl rfl rfl rfl|exact aS rfl rfl rfl rfl rfl rfl rfl|exact aop_iaddrO rfl rfl hk hit hg hev rfl|exact aop_load (k := 0) rfl rfl hev (Nat.le_of_ble_eq_true rfl) rfl|exact aop_store (k := 0) rfl rfl rfl rfl hev rfl (Nat.le_of_ble_eq_true rfl)))|((first|apply yN|apply yO|apply yP);exact rfl)|(exfalso;omega)|(((first|apply yT|apply yU|apply yV|apply yW);exact rfl;(first|exact .d|exact .e|exact .n|((fail_if_success exact bqt);(fail_if_success exact bqf);exact .b)))<;>intro _)
        refine Go.keep [3, 4, 5, 6, 8, 12, 13, 14, 15] (hrec _ _ _ (by omega) ⟨i + 1, _, rfl, hlt, wrap_succ hk (by omega), rfl, ?_⟩)
        rw [← setT _ hz hk1]
        rfl
    · repeat' first|(apply yA;exact rfl)|apply yB|apply yC|((first|apply yD|apply yE);(first|exact yF|assumption);iterate 6 exact rfl)|((first|apply yG|apply yH|apply yI);exact rfl;(first|exact yJ|exact yK rfl rfl|exact yL rfl|exact yM rfl|exact rfl|exact aL rfl rfl rfl rfl rfl|exact aS rfl rfl rfl rfl rfl rfl rfl|exact aop_iaddrO rfl rfl hk hit hg hev rfl|exact aop_load (k := 0) rfl rfl hev (Nat.le_of_ble_eq_true rfl) rfl))|((first|apply yN|apply yO|apply yP);exact rfl)|(exfalso;omega)|(((first|apply yT|apply yU|apply yV|apply yW);exact rfl;(first|exact .d|exact .e|exact .n|((fail_if_success exact bqt);(fail_if_success exact bqf);exact .b)))<;>intro _)
      refine Go.keep [3, 4, 5, 6, 8, 12, 13, 14, 15] (hrec _ _ _ (by omega) ⟨i + 1, _, rfl, hlt, wrap_succ hk (by omega), rfl, ?_⟩)
      rw [turned_same hlt (turnT_else hk1)]
  · clear hrec
    have hT : turned N M w i = w.map (turnT N M) := by rw [turned, List.take_of_length_le (by omega), List.drop_eq_nil_of_le (by omega), List.append_nil]
    rw [hT, show vec (σ.next + 0) v1 (w.map encTok) j1 = vec (σ.next + 0) v1 ((w.map (turnT N M)).map encTok) j1 by simp [vec]]
    have hul : ((w.map (turnT N M)).map encTok).length = w.length := by simp
    generalize w.map (turnT N M) = u at c2 hul
    repeat' first|(apply yA;exact rfl)|apply yB|apply yC|((first|apply yD|apply yE);(first|exact yF|assumption);iterate 6 exact rfl)|((first|apply yG|apply yH|apply yI);exact rfl;(first|exact yJ|exact yK rfl rfl|exact yL rfl|exact yM rfl|exact rfl|exact aL rfl rfl rfl rfl rfl|exact aS rfl rfl rfl rfl rfl rfl rfl))|((first|apply yN|apply yO|apply yP);exact rfl)|(exfalso;omega)|(((first|apply yT|apply yU|apply yV|apply yW);exact rfl;(first|exact .d|exact .e|exact .n|((fail_if_success exact bqt);(fail_if_success exact bqf);exact .b)))<;>intro _)
    refine Go.freezeN (l := []) (m := [(v1, u.map encTok ++ j1)]) (fr' := [(8, .c (.fz (l1.map encLine))), (132, .c (.fz (s.map encTable))), (133, .c (.fz (db.map encData))), (134, .c (.int .i64 b)), (135, .c (.int .i64 a)), (136, .c (.fz (u.map encTok)))]) hS (fun b hb => by cases hb) (Nat.le_refl _)
      (.frz rfl (.refl old_lins) (.frz rfl (.refl old_tabs) (.frz rfl (.refl old_dats) (.frz rfl (.refl old_c) (.frz rfl (.refl old_c) (.frz rfl (frz_drop (n := 0) (k := 0) rfl flatTs (Nat.zero_le _) (Nat.le_refl _)) .nil)))))) ?_
    repeat' first|(apply yA;exact rfl)|apply yB|apply yC|((first|apply yD|apply yE);(first|exact yF|assumption);iterate 6 exact rfl)|((first|apply yG|apply yH|apply yI);exact rfl;(first|exact yJ|exact yK rfl rfl|exact yL rfl|exact yM rfl|exact rfl|exact aL rfl rfl rfl rfl rfl|exact aS rfl rfl rfl rfl rfl rfl rfl))|((first|apply yN|apply yO|apply yP);exact rfl)|((first|apply yQ|apply yR|apply yS);(iterate 3 exact rfl);exact c2)|(exfalso;omega)|(((first|apply yT|apply yU|apply yV|apply yW);exact rfl;(first|exact .d|exact .e|exact .n|((fail_if_success exact bqt);(fail_if_success exact bqf);exact .b)))<;>intro _)
    refine .ret rfl (.bool ?_)
    rw [hlen]
    simp
end Go.Proofs.YteafjabcpmpmgaaGreat.Am

/- The law FnJoin: its function returns true. -/
set_option linter.unusedVariables false
set_option linter.unusedSimpArgs false
namespace Go.Proofs.YteafjabcpmpmgaaGreat.Am

theorem joinIn_ext {w : List Tok} {a : List Val} : ∀ {l : List RowD} {acc q : List Line}, joinIn w a l acc = some q → ∃ m, q = acc ++ m
  | [], acc, q, h => by injection h with h; exact ⟨[], by rw [← h, List.append_nil]⟩
  | r :: l, acc, q, h => by
    rw [joinIn] at h
    split at h
    · cases h
    · obtain ⟨m, h1⟩ := joinIn_ext h
      split at h1
      · exact ⟨⟨a ++ r.vals⟩ :: m, by rw [h1]; simp⟩
      · exact ⟨m, h1⟩
theorem joinOut_ext {w : List Tok} {right : List RowD} : ∀ {l : List RowD} {acc q : List Line}, joinOut w right l acc = some q → ∃ m, q = acc ++ m
  | [], acc, q, h => by injection h with h; exact ⟨[], by rw [← h, List.append_nil]⟩
  | x :: l, acc, q, h => by
    rw [joinOut] at h
    split at h
    · rename_i u hu
      obtain ⟨m, h1⟩ := joinIn_ext hu
      obtain ⟨m2, h2⟩ := joinOut_ext h
      exact ⟨m ++ m2, by rw [h2, h1, List.append_assoc]⟩
    · cases h
theorem joinF_some {w : List Tok} {L R : List RowD} {l : List Line} (h : joinF w L R = (l, true)) : joinOut w R L [] = some l := by
  rw [joinF] at h
  split at h
  · rename_i q hq
    injection h with h
    rw [hq, h]
  · injection h with h1 h2
    cases h2
theorem Join_sound (code : List UInt8) : Pure Tryz.prog 7 [.c (.fz (code.map encB))] (.c (.bool true)) := by
  refine Pure.run mixed c_laws_FnJoin_ok (Nat.le_of_ble_eq_true rfl) fun σ hS hA => ?_
  clear hA
  have cb := big_ok code
  by_cases hc : 1048576 < (code.length : Int)
  · rw [decide_eq_true hc] at cb
    repeat' first|(apply yA;exact rfl)|apply yB|apply yC|((first|apply yD|apply yE);(first|exact yF|assumption);iterate 6 exact rfl)|((first|apply yG|apply yH|apply yI);exact rfl;(first|exact yJ|exact yK rfl rfl|exact yL rfl|exact yM rfl|exact rfl|exact aL rfl rfl rfl rfl rfl|exact aS rfl rfl rfl rfl rfl rfl rfl))|((first|apply yN|apply yO|apply yP);exact rfl)|((first|apply yQ|apply yR|apply yS);(iterate 3 exact rfl);exact cb)|(exfalso;omega)|(((first|apply yT|apply yU|apply yV|apply yW);exact rfl;(first|exact .d|exact .e|exact .n|((fail_if_success exact bqt);(fail_if_success exact bqf);exact .b)))<;>intro _)
    exact .ret rfl (.bool rfl)
  rw [decide_eq_false hc] at cb
  repeat' first|(apply yA;exact rfl)|apply yB|apply yC|((first|apply yD|apply yE);(first|exact yF|assumption);iterate 6 exact rfl)|((first|apply yG|apply yH|apply yI);exact rfl;(first|exact yJ|exact yK rfl rfl|exact yL rfl|exact yM rfl|exact rfl|exact aL rfl rfl rfl rfl rfl|exact aS rfl rfl rfl rfl rfl rfl rfl))|((first|apply yN|apply yO|apply yP);exact rfl)|((first|apply yQ|apply yR|apply yS);(iterate 3 exact rfl);exact cb)|(exfalso;omega)|(((first|apply yT|apply yU|apply yV|apply yW);exact rfl;(first|exact .d|exact .e|exact .n|((fail_if_success exact bqt);(fail_if_success exact bqf);exact .b)))<;>intro _)
  refine Go.told rfl rfl rfl (DrawJoinOn_ok code (by omega)) ?_
  rintro _ ⟨s, db, a, b, w, hs, hd, hw, hwb, rfl⟩
  obtain ⟨hx, hb⟩ := hs.b
  obtain ⟨hdl, hdb⟩ := draw_db hd
  have hwb1 : ∀ t ∈ w, bTok 34359738368 t := fun t ht => b12_34 (hwb t ht)
  have c1 := NewV.pure (JoinOn_ok s db a b w hx hb hdl hdb (by omega) hwb1)
  have cS := NewV.pure (sJoinOn_ok s db a b w hx hb hdl hdb (by omega) hwb1)
  obtain ⟨f1, f2, _⟩ := JoinOn_fact s db a b w hx hb hdl hdb (by omega) hwb1
  have hin := join_in (s := s) (db := db) (a := a) (b := b) (w := w)
  have hval : (JoinF s db a b w).2 = true → JoinF s db a b w = joinF w (rowsAt db a) (rowsAt db b) := fun h => by
    obtain ⟨q1, q2, q3, q4⟩ := hin h
    rw [JoinF, if_pos (by simp only [Bool.and_eq_true]; exact ⟨q1, q2, q3, q4⟩)]
  generalize JoinF s db a b w = M1 at c1 cS f1 f2 hin hval
  obtain ⟨l1, b1⟩ := M1
  simp only at c1 cS f1 f2 hin hval
  have cs1 := sameLines_ok l1 f1 fun x hx => (f2 x hx).1
  cases b1
  · repeat' first|(apply yA;exact rfl)|apply yB|apply yC|((first|apply yD|apply yE);(first|exact yF|assumption);iterate 6 exact rfl)|((first|apply yG|apply yH|apply yI);exact rfl;(first|exact yJ|exact yK rfl rfl|exact yL rfl|exact yM rfl|exact rfl|exact aL rfl rfl rfl rfl rfl|exact aS rfl rfl rfl rfl rfl rfl rfl))|((first|apply yN|apply yO|apply yP);exact rfl)|((first|apply yQ|apply yR|apply yS);(iterate 3 exact rfl);(first|exact c1|exact cS|exact cs1))|(exfalso;omega)|(((first|apply yT|apply yU|apply yV|apply yW);exact rfl;(first|exact .d|exact .e|exact .n|((fail_if_success exact bqt);(fail_if_success exact bqf);exact .b)))<;>intro _)
    exact .ret rfl (.bool rfl)
  obtain ⟨hdb2, hia, hib, he⟩ := hin rfl
  obtain ⟨a0, a1⟩ := isIn_at hia
  obtain ⟨e0, e1⟩ := isIn_at hib
  obtain ⟨_, hdbl, _⟩ := dbF_at hdb2
  obtain ⟨_, _, hrl⟩ := dbF_b hdb2
  have hna : a = (a.toNat : Int) := by omega
  have hla : a.toNat < db.length := by omega
  have hnb : b = (b.toNat : Int) := by omega
  have hlb : b.toNat < db.length := by omega
  have hra : rowsAt db a = db[a.toNat].rows := by rw [rowsAt, List.getElem?_eq_getElem hla]
  have hrb : rowsAt db b = db[b.toNat].rows := by rw [rowsAt, List.getElem?_eq_getElem hlb]
  have hj := joinF_some (hval rfl).symm
  rw [hra, hrb] at hj
  obtain ⟨hL1, hL2⟩ := hrl _ (List.getElem_mem hla)
  obtain ⟨hR1, hR2⟩ := hrl _ (List.getElem_mem hlb)
  clear hval hra hrb hin hrl he hib hia
  repeat' first|(apply yA;exact rfl)|apply yB|apply yC|((first|apply yD|apply yE);(first|exact yF|assumption);iterate 6 exact rfl)|((first|apply yG|apply yH|apply yI);exact rfl;(first|exact yJ|exact yK rfl rfl|exact yL rfl|exact yM rfl|exact rfl|exact aL rfl rfl rfl rfl rfl|exact aS rfl rfl rfl rfl rfl rfl rfl))|((first|apply yN|apply yO|apply yP);exact rfl)|((first|apply yQ|apply yR|apply yS);(iterate 3 exact rfl);(first|exact c1|exact cS|exact cs1))|(exfalso;omega)|(((first|apply yT|apply yU|apply yV|apply yW);exact rfl;(first|exact .d|exact .e|exact .n|((fail_if_success exact bqt);(fail_if_success exact bqf);exact .b)))<;>intro _)
  clear c1 cS cs1 cb
  refine Go.keep [4, 5, 6, 7, 8, 12, 13] (Go.loops (I := fun m fr τ => ∃ (i : Nat) (k : Int) (acc : List Line) (c : Int), m = db[a.toNat].rows.length - i ∧ i ≤ db[a.toNat].rows.length ∧ k = i ∧ c = acc.length ∧ joinOut w db[b.toNat].rows (db[a.toNat].rows.drop i) acc = some l1 ∧
    fr = [(4, .c (.fz (db.map encData))), (5, .c (.int .i64 a)), (6, .c (.int .i64 b)), (7, .c (.fz (w.map encTok))), (8, .c (.fz (l1.map encLine))), (12, .c (.int .i64 c)), (13, .c (.int .i64 k))] ∧ τ = E σ []) ?_ _ _ _ ⟨0, _, [], _, rfl, Nat.zero_le _, rfl, rfl, hj, rfl, rfl⟩)
  clear hj
  rintro m fr τ ⟨i, k, acc, c, rfl, hi, hk, hcc, hj, rfl, rfl⟩ hrec
  by_cases hlti : i < db[a.toNat].rows.length
  · have hlr := hL2 _ (List.getElem_mem hlti)
    rw [List.drop_eq_getElem_cons hlti, joinOut] at hj
    cases hq : joinIn w db[a.toNat].rows[i].vals db[b.toNat].rows acc with
    | none => rw [hq] at hj; cases hj
    | some q =>
    rw [hq] at hj
    repeat' first|(apply yA;exact rfl)|apply yB|apply yC|((first|apply yD|apply yE);(first|exact yF|assumption);iterate 6 exact rfl)|((first|apply yG|apply yH|apply yI);exact rfl;(first|exact yJ|exact yK rfl rfl|exact yL rfl|exact yM rfl|exact rfl|exact aL rfl rfl rfl rfl rfl|exact aS rfl rfl rfl rfl rfl rfl rfl|exact yX (enc := encData) rfl rfl hna hla rfl))|((first|apply yN|apply yO|apply yP);exact rfl)|(exfalso;omega)|(((first|apply yT|apply yU|apply yV|apply yW);exact rfl;(first|exact .d|exact .e|exact .n|((fail_if_success exact bqt);(fail_if_success exact bqf);exact .b)))<;>intro _)
    refine Go.keep [4, 5, 6, 7, 8, 12, 13, 14] (Go.loops (I := fun m fr τ => ∃ (j : Nat) (kj : Int) (ac : List Line) (c : Int), m = db[b.toNat].rows.length - j ∧ j ≤ db[b.toNat].rows.length ∧ kj = j ∧ c = ac.length ∧ joinIn w db[a.toNat].rows[i].vals (db[b.toNat].rows.drop j) ac = some q ∧
      fr = [(4, .c (.fz (db.map encData))), (5, .c (.int .i64 a)), (6, .c (.int .i64 b)), (7, .c (.fz (w.map encTok))), (8, .c (.fz (l1.map encLine))), (12, .c (.int .i64 c)), (13, .c (.int .i64 k)), (14, .c (.int .i64 kj))] ∧ τ = E σ []) ?_ _ _ _ ⟨0, _, acc, _, rfl, Nat.zero_le _, rfl, hcc, hq, rfl, rfl⟩)
    clear hq hcc
    clear acc c
    rintro m fr τ ⟨j, kj, ac, c, rfl, hjl, hkj, hcc, hq, rfl, rfl⟩ hrecj
    by_cases hltj : j < db[b.toNat].rows.length
    · have hrr := hR2 _ (List.getElem_mem hltj)
      rw [List.drop_eq_getElem_cons hltj, joinIn] at hq
      repeat' first|apply Go.seq|apply Go.skip|apply Go.region|apply Go.nil|apply Go.block|apply Go.blk|apply Go.segs|(apply Go.exit;exact rfl)|(apply Go.cond true;exact rfl)|(apply Go.cond false;exact rfl)|apply yB|apply yC|((first|apply yD|apply yE);(first|exact yF|assumption);iterate 6 exact rfl)|((first|apply yG|apply yH|apply yI);exact rfl;(first|exact yJ|exact yK rfl rfl|exact yL rfl|exact yM rfl|exact rfl|exact aL rfl rfl rfl rfl rfl|exact aS rfl rfl rfl rfl rfl rfl rfl|exact yX (enc := encData) rfl rfl hnb hlb rfl))|((first|apply yN|apply yO|apply yP);exact rfl)|(exfalso;omega)|(((first|apply yT|apply yU|apply yV|apply yW);exact rfl;(first|exact .d|exact .e|exact .n|((fail_if_success exact bqt);(fail_if_success exact bqf);exact .b)))<;>intro _)
      apply Go.draw
      refine Go.qkd [] ?_
      repeat' first|(apply Qk.nil;show Go _ _ _ _ _ _ _ _)|(apply Qk.op;exact rfl;(first|(rintro _ ⟨_, rfl⟩;exact rfl)|(rintro _ ⟨_, rfl⟩;exact aop_load rfl rfl rfl (Nat.le_of_ble_eq_true rfl) rfl)|(rintro _ ⟨_, rfl⟩;exact yX (enc := encData) rfl rfl hna hla rfl)|(rintro _ ⟨_, rfl⟩;exact yX (enc := encRowD) rfl rfl hk hlti rfl)))|(apply Qk.no;exact rfl)|(apply Qk.wop;exact rfl;exact rfl;(first|exact yJ|exact yL rfl|exact aop_store rfl rfl rfl rfl rfl rfl (Nat.le_of_ble_eq_true rfl));exact ⟨_, rfl⟩)
      refine Qk.app (l := []) (k := 0) (ys := []) (junk := []) (zs := db[a.toNat].rows[i].vals.map encV) rfl rfl rfl rfl rfl (fun e he => by cases he) Jk.nil lens (by simp; omega) (fun z => ⟨_, rfl⟩) fun v1 j1 hj1 => ?_
      repeat' first|(apply Qk.nil;show Go _ _ _ _ _ _ _ _)|(apply Qk.op;exact rfl;(first|(rintro _ ⟨_, rfl⟩;exact rfl)|(rintro _ ⟨_, rfl⟩;exact aop_load rfl rfl rfl (Nat.le_of_ble_eq_true rfl) rfl)|(rintro _ ⟨_, rfl⟩;exact yX (enc := encData) rfl rfl hnb hlb rfl)|(rintro _ ⟨_, rfl⟩;exact yX (enc := encRowD) rfl rfl hkj hltj rfl)))|(apply Qk.no;exact rfl)|(apply Qk.wop;exact rfl;exact rfl;(first|exact yJ|exact yL rfl|exact aop_store rfl rfl rfl rfl rfl rfl (Nat.le_of_ble_eq_true rfl));exact ⟨_, rfl⟩)
      refine Go.sapp (k := 0) (ys := [] ++ db[a.toNat].rows[i].vals.map encV) (junk := j1) (zs := db[b.toNat].rows[j].vals.map encV) rfl rfl rfl rfl rfl (by simpa using lens) hj1 lens (by simp; omega) fun v2 j2 hj2 => ?_
      rw [show [] ++ db[a.toNat].rows[i].vals.map encV ++ db[b.toNat].rows[j].vals.map encV = (db[a.toNat].rows[i].vals ++ db[b.toNat].rows[j].vals).map encV by simp]
      have hvl : (db[a.toNat].rows[i].vals ++ db[b.toNat].rows[j].vals).length ≤ 34359738368 := by rw [List.length_append]; omega
      generalize db[a.toNat].rows[i].vals ++ db[b.toNat].rows[j].vals = vs at hq hvl
      repeat' first|(apply yA;exact rfl)|apply yB|apply yC|((first|apply yD|apply yE);(first|exact yF|assumption);iterate 6 exact rfl)|((first|apply yG|apply yH|apply yI);exact rfl;(first|exact yJ|exact yK rfl rfl|exact yL rfl|exact yM rfl|exact rfl|exact aL rfl rfl rfl rfl rfl|exact aS rfl rfl rfl rfl rfl rfl rfl))|((first|apply yN|apply yO|apply yP);exact rfl)|(exfalso;omega)|(((first|apply yT|apply yU|apply yV|apply yW);exact rfl;(first|exact .d|exact .e|exact .n|((fail_if_success exact bqt);(fail_if_success exact bqf);exact .b)))<;>intro _)
      refine Go.freezeN (l := []) (m := [(v2, vs.map encV ++ j2)]) (fr' := [(4, .c (.fz (db.map encData))), (5, .c (.int .i64 a)), (6, .c (.int .i64 b)), (7, .c (.fz (w.map encTok))), (8, .c (.fz (l1.map encLine))), (12, .c (.int .i64 c)), (13, .c (.int .i64 k)), (14, .c (.int .i64 kj)), (15, .c (.fz (vs.map encV))), (106, .c (.fz (w.map encTok))), (107, .c (.fz (vs.map encV)))]) hS (fun b hb => by cases hb) (Nat.le_refl _)
        (.frz rfl (.refl old_dats) (.frz rfl (.refl old_c) (.frz rfl (.refl old_c) (.frz rfl (.refl old_toks) (.frz rfl (.refl old_lins) (.frz rfl (.refl old_c) (.frz rfl (.refl old_c) (.frz rfl (.refl old_c) (.frz rfl (frz_drop (n := 0) (k := 0) rfl flats (Nat.zero_le _) (Nat.le_refl _)) (.frz rfl (.refl old_toks) (.frz rfl (frz_drop (n := 0) (k := 0) rfl flats (Nat.zero_le _) (Nat.le_refl _)) .nil))))))))))) ?_
      have ct := Truth_ok w vs (by omega) hvl
      by_cases ht : truthI w vs = 1
      · rw [ht] at ct hq
        rw [if_neg (by decide), if_pos rfl] at hq
        obtain ⟨m1, hm1⟩ := joinIn_ext hq
        obtain ⟨m2, hm2⟩ := joinOut_ext hj
        have hlk : ac.length < l1.length := by rw [hm2, hm1]; simp
        have hel : l1[ac.length] = ⟨vs⟩ := by
          have : l1[ac.length]? = some ⟨vs⟩ := by rw [hm2, hm1]; simp
          rw [List.getElem?_eq_getElem hlk] at this
          injection this
        have hne : ¬ c = (l1.length : Int) := by omega
        have hcl : (l1[ac.length]).vals = vs := by rw [hel]
        have cv2 := sameValsL_ok l1[ac.length].vals vs (by rw [hcl]; exact hvl)
        rw [show (l1[ac.length].vals == vs) = true by rw [hcl]; exact beq_self_eq_true _] at cv2
        have ew : IntKind.i64.wrap (c + 1) = ((ac ++ [(⟨vs⟩ : Line)]).length : Nat) := by rw [List.length_append, List.length_singleton, wrap64 (by omega) (by omega)]; omega
        repeat' first|(apply yA;exact rfl)|apply yB|apply yC|((first|apply yD|apply yE);(first|exact yF|assumption);iterate 6 exact rfl)|((first|apply yG|apply yH|apply yI);exact rfl;(first|exact yJ|exact yK rfl rfl|exact yL rfl|exact yM rfl|exact rfl|exact aL rfl rfl rfl rfl rfl|exact aS rfl rfl rfl rfl rfl rfl rfl|exact yX (enc := encLine) rfl rfl hcc hlk rfl))|((first|apply yN|apply yO|apply yP);exact rfl)|((first|apply yQ|apply yR|apply yS);(iterate 3 exact rfl);(first|exact ct|exact cv2))|(exfalso;omega)|(((first|apply yT|apply yU|apply yV|apply yW);exact rfl;(first|exact .d|exact .e|exact .n|((fail_if_success exact bqt);(fail_if_success exact bqf);exact .b)))<;>intro _)
        exact Go.keep [4, 5, 6, 7, 8, 12, 13, 14] (hrecj _ _ _ (by omega) ⟨j + 1, _, ac ++ [⟨vs⟩], _, rfl, hltj, wrap_succ hkj (by omega), ew, hq, rfl, rfl⟩)
      · by_cases ht1 : truthI w vs = -1
        · rw [if_pos ht1] at hq; cases hq
        rw [if_neg ht1, if_neg ht] at hq
        repeat' first|(apply yA;exact rfl)|apply yB|apply yC|((first|apply yD|apply yE);(first|exact yF|assumption);iterate 6 exact rfl)|((first|apply yG|apply yH|apply yI);exact rfl;(first|exact yJ|exact yK rfl rfl|exact yL rfl|exact yM rfl|exact rfl|exact aL rfl rfl rfl rfl rfl|exact aS rfl rfl rfl rfl rfl rfl rfl))|((first|apply yN|apply yO|apply yP);exact rfl)|((first|apply yQ|apply yR|apply yS);(iterate 3 exact rfl);exact ct)|(exfalso;omega)|(((first|apply yT|apply yU|apply yV|apply yW);exact rfl;(first|exact .d|exact .e|exact .n|((fail_if_success exact bqt);(fail_if_success exact bqf);exact .b)))<;>intro _)
        exact Go.keep [4, 5, 6, 7, 8, 12, 13, 14] (hrecj _ _ _ (by omega) ⟨j + 1, _, ac, _, rfl, hltj, wrap_succ hkj (by omega), hcc, hq, rfl, rfl⟩)
    · rw [List.drop_eq_nil_of_le (by omega), joinIn] at hq
      injection hq with hq
      subst hq
      repeat' first|(apply yA;exact rfl)|apply yB|apply yC|((first|apply yD|apply yE);(first|exact yF|assumption);iterate 6 exact rfl)|((first|apply yG|apply yH|apply yI);exact rfl;(first|exact yJ|exact yK rfl rfl|exact yL rfl|exact yM rfl|exact rfl|exact aL rfl rfl rfl rfl rfl|exact aS rfl rfl rfl rfl rfl rfl rfl|exact yX (enc := encData) rfl rfl hnb hlb rfl))|((first|apply yN|apply yO|apply yP);exact rfl)|(exfalso;omega)|(((first|apply yT|apply yU|apply yV|apply yW);exact rfl;(first|exact .d|exact .e|exact .n|((fail_if_success exact bqt);(fail_if_success exact bqf);exact .b)))<;>intro _)
      exact Go.keep [4, 5, 6, 7, 8, 12, 13] (hrec _ _ _ (by omega) ⟨i + 1, _, ac, _, rfl, hlti, wrap_succ hk (by omega), hcc, hj, rfl, rfl⟩)
  · rw [List.drop_eq_nil_of_le (by omega), joinOut] at hj
    injection hj with hj
    subst hj
    repeat' first|(apply yA;exact rfl)|apply yB|apply yC|((first|apply yD|apply yE);(first|exact yF|assumption);iterate 6 exact rfl)|((first|apply yG|apply yH|apply yI);exact rfl;(first|exact yJ|exact yK rfl rfl|exact yL rfl|exact yM rfl|exact rfl|exact aL rfl rfl rfl rfl rfl|exact aS rfl rfl rfl rfl rfl rfl rfl|exact yX (enc := encData) rfl rfl hna hla rfl))|((first|apply yN|apply yO|apply yP);exact rfl)|(exfalso;omega)|(((first|apply yT|apply yU|apply yV|apply yW);exact rfl;(first|exact .d|exact .e|exact .n|((fail_if_success exact bqt);(fail_if_success exact bqf);exact .b)))<;>intro _)
    refine .ret rfl (.bool ?_)
    rw [hcc]
    simp
end Go.Proofs.YteafjabcpmpmgaaGreat.Am

/- The statement of the law FnJoin: whatever its arguments are, it returns true, leaves what was there as it was, and ends. No condition. -/
namespace Go.Proofs.YteafjabcpmpmgaaGreat.fnJoin
open Go.ChangeShapes Go.WideShapes Go.ChangeAt Go.RowKit Go.Proofs.YteafjabcpmpmgaaGreat.Am
open Go.ChangeMaps (open_string shut_string)
set_option linter.unusedVariables false
theorem own : ownKnob Tryz.prog.godebug = none := by kernel_rfl
theorem laidOut : laidOutB Tryz.prog = true := by kernel_rfl
set_option maxRecDepth 100000 in
theorem lifted (os : Os) (started : os.Started) (H : Type) (enc : TypeId × Value → H) :
    ReturnsInHanded {} Tryz.checked os 7 .any (Rows.fnJoinSpec.pre6 enc Tryz.prog Tryz.f7 Rows.fnJoinRow.domain false) (Rows.fnJoinSpec.post enc Tryz.prog Tryz.f7 false true false false) := by
  refine returnsInHanded_of_change_sized (C := Tryz.checked) own started (by kernel_rfl) Tryz.func7
    (ChangeSpec.witness6 (enc := enc) (C := Tryz.checked) false ⟨#[], #[.slice none 0 0], []⟩ 8 (by kernel_rfl) (by kernel_rfl) (by kernel_rfl) (by kernel_rfl)) ?_
  intro W base args ds gs before hval0 hW hcnd hsz0 _
  have hval : ∀ (j : Nat) t v, Tryz.f7.params[j]? = some t → args[j]? = some v → Value.okWide Tryz.prog W .any base t v := hval0
  have hW' := hW
  obtain ⟨p, q, hA0, hV, rfl, hfz, hnd⟩ := hW
  have hA : DataW.TrodAll enc Tryz.prog W 0 (fun _ => true) true Tryz.f7.params.toList args.toList ds p := hA0
  rw [Tryz.params7] at hA hval
  have hsz : (DataW.weightsEach Tryz.prog (Tryz.f7.params.toList ++ Rows.fnJoinSpec.plain.varTypes Tryz.prog) (ds ++ gs)).all (· ≤ reachBytes) = true := hsz0
  rw [Tryz.params7] at hsz
  obtain ⟨v0, vs0, d0, ds0, p0, q0, hargs, rfl, rfl, h0, r0⟩ := trodAll_cons hA
  obtain ⟨rfl, rfl, rfl⟩ := trodAll_nil r0
  obtain rfl : args = #[v0] := by cases args; simp_all
  obtain ⟨rfl, rfl⟩ := trodVars_none hV
  obtain ⟨a0, g0, e0⟩ := Opens.c openBs (cells_slice Tryz.underlying53 (hval 0 53 v0 rfl rfl)) h0 (fun n hn => of_decide_eq_true (List.all_eq_true.1 hsz _ (DataW.weights_mem_each (j := 0) (t := 53) rfl rfl n hn)))
  have k0 := h0
  have lt0 : ∀ x ∈ p0, x.block < W.heap.size := by obtain ⟨m, hm⟩ := k0; exact DataW.trod_lt m _ _ _ hm
  clear hA0 hval0 hsz0 hsz
  refine ((Join_sound a0 ).calls (W := W) ⟨rfl, fun i hi => ?_⟩).mono fun e W' ⟨he, bel⟩ => ?_
  · match i, hi with
    | 0, _ => exact e0
  subst he
  exact ⟨_, rfl, _, _, _, [], _, [], hW', trodAll_mk1 (shut_bool Tryz.underlying4 _), (trodAll_cons_mk (Below.trod laidOut (by kernel_rfl) (of_decide_eq_true (by kernel_rfl)) k0 bel lt0) trodAll_mk0), rfl, bel.frame _, fun h => by cases h⟩
theorem spl {a b : Bool} (h : (a && b) = true) : a = true ∧ b = true := by cases a <;> cases b <;> simp_all
theorem and2 {a b : Bool} (h : a = true) (k : b = true) : (a && b) = true := by rw [h, k]; rfl
theorem facts0 : (Rows.fnJoinRow.wf (OpenSpec.ofChange Rows.fnJoinSpec) && laidOutB Tryz.pinned.checked.prog && mapsRowed Tryz.pinned.checked.prog && Tryz.f7.params.all (Tryz.pinned.checked.prog.readableRec ·) && namedTie Tryz.pinned.checked.prog Rows.fnJoinRow.named Rows.fnJoinSpec.vars && (Rows.fnJoinRow.stops == []) && (Tryz.pinned.checked.prog.stops == []) && (Rows.fnJoinRow.knobs == []) && (Tryz.pinned.checked.prog.stopKnobs == [])) = true := by kernel_rfl
theorem facts1 : ((Rows.fnJoinRow.inPlace == Tryz.pinned.checked.prog.inPlace 7) && (Rows.fnJoinRow.unfollowed == Tryz.pinned.checked.prog.unfollowed 7) && (Rows.fnJoinRow.recurses == Tryz.pinned.checked.prog.recurses 7) && (Rows.fnJoinRow.named == Tryz.pinned.checked.prog.varsNamed 7)) = true := by kernel_rfl
theorem facts2 : ((Rows.fnJoinRow.maps == (Tryz.f7.params.toList ++ Rows.fnJoinSpec.plain.varTypes Tryz.pinned.checked.prog).any (Tryz.pinned.checked.prog.mapsRec ·)) && (Rows.fnJoinRow.ifaces == (Tryz.f7.params.toList ++ Rows.fnJoinSpec.plain.varTypes Tryz.pinned.checked.prog).any (Tryz.pinned.checked.prog.ifacesRec ·)) && (Rows.fnJoinRow.mapsOut == Tryz.pinned.checked.prog.mapsAmong Tryz.f7.resultTypes.toList) && (Rows.fnJoinRow.loops == (Tryz.f7.params.toList ++ Rows.fnJoinSpec.plain.varTypes Tryz.pinned.checked.prog).any (Tryz.pinned.checked.prog.loopsFrom ·)) && (Rows.fnJoinRow.wideKeys == (Tryz.f7.params.toList ++ Rows.fnJoinSpec.plain.varTypes Tryz.pinned.checked.prog ++ Tryz.f7.resultTypes.toList).any (Tryz.pinned.checked.prog.wideKeysFrom ·)) && Rows.fnJoinSpec.vars.all (Tryz.pinned.checked.prog.varReadable ·)) = true := by kernel_rfl
theorem facts3 : (Tryz.f7.resultTypes.all (fun t => Tryz.pinned.checked.prog.readableRec t && decide (t < Tryz.pinned.checked.prog.types.size)) && (Rows.fnJoinRow.ifacesOut == Tryz.f7.resultTypes.toList.any (Tryz.pinned.checked.prog.ifacesRec ·)) && (Rows.fnJoinRow.loopsOut == Tryz.f7.resultTypes.toList.any (Tryz.pinned.checked.prog.loopsFrom ·)) && (Rows.fnJoinRow.plainKeys == Tryz.pinned.checked.prog.plainKeys) && Rows.fnJoinRow.shortTexts.isNone && (Tryz.pinned.checked.prog.make == some Rows.fnJoinRow.make) && (Rows.fnJoinRow.kinds == (if Rows.fnJoinRow.domain.isEmpty then [] else Tryz.f7.params.toList.map fun t => match Tryz.pinned.checked.prog.underlying t with | some (.int k) => some k | _ => none)) && (Rows.fnJoinRow.pinned == Rows.fnJoinRow.pinnedBy) && (Rows.fnJoinRow.veiled == (Tryz.f7.params.toList ++ Rows.fnJoinSpec.plain.varTypes Tryz.pinned.checked.prog ++ Tryz.f7.resultTypes.toList).any (Tryz.pinned.checked.prog.veiledRec ·)) && Rows.fnJoinRow.veiledFits Tryz.pinned.checked.prog Tryz.f7.params.toList (Tryz.f7.params.toList ++ Rows.fnJoinSpec.plain.varTypes Tryz.pinned.checked.prog ++ Tryz.f7.resultTypes.toList)) = true := by kernel_rfl
theorem facts4 : (Tryz.pinned.checked.prog.stopsHeard && Tryz.pinned.checked.prog.mayEnter && (Rows.fnJoinRow.lifted == Tryz.pinned.checked.prog.liftsFinal)) = true := by kernel_rfl
set_option maxRecDepth 100000 in
theorem closed : joinedFacts Tryz.pinned.checked.prog 7 Tryz.f7 Rows.fnJoinSpec Rows.fnJoinRow = true := by
  have g := facts0
  obtain ⟨g, p8⟩ := spl g
  obtain ⟨g, p7⟩ := spl g
  obtain ⟨g, p6⟩ := spl g
  obtain ⟨g, p5⟩ := spl g
  obtain ⟨g, p4⟩ := spl g
  obtain ⟨g, p3⟩ := spl g
  obtain ⟨g, p2⟩ := spl g
  obtain ⟨g, p1⟩ := spl g
  have p0 := g
  have g := facts1
  obtain ⟨g, p12⟩ := spl g
  obtain ⟨g, p11⟩ := spl g
  obtain ⟨g, p10⟩ := spl g
  have p9 := g
  have g := facts2
  obtain ⟨g, p18⟩ := spl g
  obtain ⟨g, p17⟩ := spl g
  obtain ⟨g, p16⟩ := spl g
  obtain ⟨g, p15⟩ := spl g
  obtain ⟨g, p14⟩ := spl g
  have p13 := g
  have g := facts3
  obtain ⟨g, p31⟩ := spl g
  obtain ⟨g, p30⟩ := spl g
  obtain ⟨g, p29⟩ := spl g
  obtain ⟨g, p28⟩ := spl g
  obtain ⟨g, p27⟩ := spl g
  obtain ⟨g, p23⟩ := spl g
  obtain ⟨g, p22⟩ := spl g
  obtain ⟨g, p21⟩ := spl g
  obtain ⟨g, p20⟩ := spl g
  have p19 := g
  have g := facts4
  obtain ⟨g, p26⟩ := spl g
  obtain ⟨g, p25⟩ := spl g
  have p24 := g
  exact (and2 (and2 (and2 (and2 (and2 (and2 (and2 (and2 (and2 (and2 (and2 (and2 (and2 (and2 (and2 (and2 (and2 (and2 (and2 (and2 (and2 (and2 (and2 (and2 (and2 (and2 (and2 (and2 (and2 (and2 (and2 p0 p1) p2) p3) p4) p5) p6) p7) p8) p9) p10) p11) p12) p13) p14) p15) p16) p17) p18) p19) p20) p21) p22) p23) p24) p25) p26) p27) p28) p29) p30) p31)
theorem over : Rows.fnJoinRow.holds Tryz.pinned (OpenSpec.ofChange Rows.fnJoinSpec) :=
  OpenClaim.holds_of_wide 7 Tryz.f7 rfl rfl rfl rfl rfl rfl rfl ⟨rfl, rfl, rfl, rfl, rfl⟩ rfl rfl rfl rfl rfl (by kernel_rfl) Tryz.func7 closed
    (of_decide_eq_true (by kernel_rfl)) (by unfold Func.isWrapper; first | (rw [if_pos (by decide +kernel)]; kernel_rfl) | (rw [if_neg (by decide +kernel)]; exact ⟨rfl, rfl⟩))
    (fun os started H enc _ => lifted os started H enc)
theorem proved : Rows.FnJoinSaid := over
end Go.Proofs.YteafjabcpmpmgaaGreat.fnJoin
namespace Go.Proofs.YteafjabcpmpmgaaGreat
/-- The row, under a short name, for the claim. -/
theorem fnJoin_holds : Rows.FnJoinSaid := fnJoin.proved
#print axioms fnJoin_holds
end Go.Proofs.YteafjabcpmpmgaaGreat
