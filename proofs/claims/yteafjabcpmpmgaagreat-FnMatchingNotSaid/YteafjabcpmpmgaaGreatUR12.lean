/- The statement of the law FnMatchingNot: whatever its arguments are, it returns true, leaves what was there as it was, and ends. No condition. -/
import Derived.Test.YteafjabcpmpmgaaGreatRows
import Derived.WalkKit
import Derived.ProofKit
import Derived.OpenShut
import Derived.ShutString
import Derived.ChangeOld
import Derived.Below
import Derived.SizedLaws
import Derived.Test.YteafjabcpmpmgaaGreatU1
import Derived.Test.YteafjabcpmpmgaaGreatU2
import Derived.Test.YteafjabcpmpmgaaGreatU3
import Derived.Test.YteafjabcpmpmgaaGreatU4
import Derived.Test.YteafjabcpmpmgaaGreatU5
import Derived.Test.YteafjabcpmpmgaaGreatU6
/- The law FnMatchingEither: its function returns true. -/
set_option linter.unusedVariables false
set_option linter.unusedSimpArgs false
namespace Go.Proofs.YteafjabcpmpmgaaGreat.Am

theorem big_ok (code : List UInt8) : Pure Tryz.prog 30 [.c (.fz (code.map encB))] (.c (.bool (decide (1048576 < (code.length : Int))))) := by
  refine Pure.run mixed c_laws_big_ok (Nat.le_of_ble_eq_true rfl) fun σ hS hA => ?_
  clear hS hA
  repeat' first|(apply yA;exact rfl)|apply yB|apply yC|((first|apply yD|apply yE);(first|exact yF|assumption);iterate 6 exact rfl)|((first|apply yG|apply yH|apply yI);exact rfl;(first|exact yJ|exact yK rfl rfl|exact yL rfl|exact yM rfl|exact rfl|exact aL rfl rfl rfl rfl rfl|exact aS rfl rfl rfl rfl rfl rfl rfl))|((first|apply yN|apply yO|apply yP);exact rfl)|(exfalso;omega)|(((first|apply yT|apply yU|apply yV|apply yW);exact rfl;(first|exact .d|exact .e|exact .n|((fail_if_success exact bqt);(fail_if_success exact bqf);exact .b)))<;>intro _)
  exact .ret rfl (.bool rfl)
theorem b12_34 {t : Tok} (h : bTok 12 t) : bTok 34359738368 t := Nat.le_trans h (by decide)
theorem draw_db {s : List Table} {db : List Data} (h : dbF s db = true ∨ db = []) : db.length ≤ 34359738368 ∧ ∀ d ∈ db, bData 34359738368 d := by
  rcases h with h | rfl
  · exact ⟨by have := (dbF_b h).1; omega, (dbF_b h).2.1⟩
  · exact ⟨by simp, fun d hd => by cases hd⟩
theorem old_ints {n : Nat} {l : List Int} : ∀ y ∈ (AV.c (.fz (l.map encI))).all, Old n y := fun y hy => by
  rw [List.mem_singleton.1 hy]; exact old_fz1 (oldInts _)
theorem old_tabs {n : Nat} {l : List Table} : ∀ y ∈ (AV.c (.fz (l.map encTable))).all, Old n y := fun y hy => by
  rw [List.mem_singleton.1 hy]; exact old_fz1 (oldTables _)
theorem old_dats {n : Nat} {l : List Data} : ∀ y ∈ (AV.c (.fz (l.map encData))).all, Old n y := fun y hy => by
  rw [List.mem_singleton.1 hy]; exact old_fz1 (oldDatas _)
theorem MatchingEither_sound (code : List UInt8) : Pure Tryz.prog 5 [.c (.fz (code.map encB))] (.c (.bool true)) := by
  refine Pure.run mixed c_laws_FnMatchingEither_ok (Nat.le_of_ble_eq_true rfl) fun σ hS hA => ?_
  clear hA
  have cb := big_ok code
  by_cases hc : 1048576 < (code.length : Int)
  · rw [decide_eq_true hc] at cb
    repeat' first|(apply yA;exact rfl)|apply yB|apply yC|((first|apply yD|apply yE);(first|exact yF|assumption);iterate 6 exact rfl)|((first|apply yG|apply yH|apply yI);exact rfl;(first|exact yJ|exact yK rfl rfl|exact yL rfl|exact yM rfl|exact rfl|exact aL rfl rfl rfl rfl rfl|exact aS rfl rfl rfl rfl rfl rfl rfl))|((first|apply yN|apply yO|apply yP);exact rfl)|((first|apply yQ|apply yR|apply yS);(iterate 3 exact rfl);exact cb)|(exfalso;omega)|(((first|apply yT|apply yU|apply yV|apply yW);exact rfl;(first|exact .d|exact .e|exact .n|((fail_if_success exact bqt);(fail_if_success exact bqf);exact .b)))<;>intro _)
    exact .ret rfl (.bool rfl)
  rw [decide_eq_false hc] at cb
  repeat' first|(apply yA;exact rfl)|apply yB|apply yC|((first|apply yD|apply yE);(first|exact yF|assumption);iterate 6 exact rfl)|((first|apply yG|apply yH|apply yI);exact rfl;(first|exact yJ|exact yK rfl rfl|exact yL rfl|exact yM rfl|exact rfl|exact aL rfl rfl rfl rfl rfl|exact aS rfl rfl rfl rfl rfl rfl rfl))|((first|apply yN|apply yO|apply yP);exact rfl)|((first|apply yQ|apply yR|apply yS);(iterate 3 exact rfl);exact cb)|(exfalso;omega)|(((first|apply yT|apply yU|apply yV|apply yW);exact rfl;(first|exact .d|exact .e|exact .n|((fail_if_success exact bqt);(fail_if_success exact bqf);exact .b)))<;>intro _)
  refine Go.told rfl rfl rfl (DrawMatching_ok code (by omega)) ?_
  rintro _ ⟨s, db, n, w, hs, hd, hw, hwb, rfl⟩
  obtain ⟨hx, hb⟩ := hs.b
  obtain ⟨hdl, hdb⟩ := draw_db hd
  have cI := fun (v : List Tok) (h1 : v.length ≤ 34359738368) (h2 : ∀ t ∈ v, bTok 34359738368 t) => NewV.pure (Matching_ok s db n v hx hb hdl hdb h1 h2)
  have cS := NewV.pure (sMatching_ok s db n w hx hb hdl hdb (by omega) fun t ht => b12_34 (hwb t ht))
  have c1 := cI w (by omega) fun t ht => b12_34 (hwb t ht)
  have hl := either_law (s := s) (db := db) (n := n) (w := w)
  have c2 := cI (w ++ [tok 7]) (by simp; omega) fun t ht => by
    rcases List.mem_append.1 ht with ht | ht
    · exact b12_34 (hwb t ht)
    · rw [List.mem_singleton.1 ht]; exact Nat.zero_le _
  have c3 := cI (w ++ (w ++ [tok 7]) ++ [tok 6]) (by simp; omega) fun t ht => by
    rcases List.mem_append.1 ht with ht | ht
    · rcases List.mem_append.1 ht with ht | ht
      · exact b12_34 (hwb t ht)
      · rcases List.mem_append.1 ht with ht | ht
        · exact b12_34 (hwb t ht)
        · rw [List.mem_singleton.1 ht]; exact Nat.zero_le _
    · rw [List.mem_singleton.1 ht]; exact Nat.zero_le _
  have f1 := (Matching_fact s db n w hx hb hdl hdb (by omega) fun t ht => b12_34 (hwb t ht)).1
  have f2 := (Matching_fact s db n (w ++ [tok 7]) hx hb hdl hdb (by simp; omega) fun t ht => by
    rcases List.mem_append.1 ht with ht | ht
    · exact b12_34 (hwb t ht)
    · rw [List.mem_singleton.1 ht]; exact Nat.zero_le _).1
  clear cI
  generalize MatchF s db n w = M1 at c1 cS hl f1
  generalize MatchF s db n (w ++ [tok 7]) = M2 at c2 hl f2
  generalize MatchF s db n (w ++ (w ++ [tok 7]) ++ [tok 6]) = M3 at c3 hl
  obtain ⟨l1, b1⟩ := M1
  obtain ⟨l2, b2⟩ := M2
  obtain ⟨l3, b3⟩ := M3
  simp only at c1 cS hl c2 c3 f1 f2
  have hwl : IntKind.i64.wrap (IntKind.i64.wrap (2 * (w.length : Int)) + 2) = 2 * w.length + 2 := by
    rw [show IntKind.i64.wrap (2 * (w.length : Int)) = 2 * w.length from wrap64 (by omega) (by omega), wrap64 (by omega) (by omega)]
  cases b1
  · repeat' first|(apply yA;exact rfl)|apply yB|apply yC|((first|apply yD|apply yE);(first|exact yF|assumption);iterate 6 exact rfl)|((first|apply yG|apply yH|apply yI);exact rfl;(first|exact yJ|exact yK rfl rfl|exact yL rfl|exact yM rfl|exact rfl|exact aL rfl rfl rfl rfl rfl|exact aS rfl rfl rfl rfl rfl rfl rfl))|((first|apply yN|apply yO|apply yP);exact rfl)|((first|apply yQ|apply yR|apply yS);(iterate 3 exact rfl);(first|exact c1|exact cS))|(exfalso;omega)|(((first|apply yT|apply yU|apply yV|apply yW);exact rfl;(first|exact .d|exact .e|exact .n|((fail_if_success exact bqt);(fail_if_success exact bqf);exact .b)))<;>intro _)
    exact .ret rfl (.bool rfl)
  by_cases h0 : (w.length : Int) = 0
  · repeat' first|(apply yA;exact rfl)|apply yB|apply yC|((first|apply yD|apply yE);(first|exact yF|assumption);iterate 6 exact rfl)|((first|apply yG|apply yH|apply yI);exact rfl;(first|exact yJ|exact yK rfl rfl|exact yL rfl|exact yM rfl|exact rfl|exact aL rfl rfl rfl rfl rfl|exact aS rfl rfl rfl rfl rfl rfl rfl))|((first|apply yN|apply yO|apply yP);exact rfl)|((first|apply yQ|apply yR|apply yS);(iterate 3 exact rfl);(first|exact c1|exact cS))|(exfalso;omega)|(((first|apply yT|apply yU|apply yV|apply yW);exact rfl;(first|exact .d|exact .e|exact .n|((fail_if_success exact bqt);(fail_if_success exact bqf);exact .b)))<;>intro _)
    exact .ret rfl (.bool rfl)
  obtain ⟨rfl, rfl, h3⟩ := hl rfl (by omega) (by omega)
  repeat' first|(apply yA;exact rfl)|apply yB|apply yC|((first|apply yD|apply yE);(first|exact yF|assumption);iterate 6 exact rfl)|((first|apply yG|apply yH|apply yI);exact rfl;(first|exact yJ|exact yK rfl rfl|exact yL rfl|exact yM rfl|exact rfl|exact aL rfl rfl rfl rfl rfl|exact aS rfl rfl rfl rfl rfl rfl rfl))|((first|apply yN|apply yO|apply yP);exact rfl)|((first|apply yQ|apply yR|apply yS);(iterate 3 exact rfl);(first|exact c1|exact cS))|(exfalso;omega)|(((first|apply yT|apply yU|apply yV|apply yW);exact rfl;(first|exact .d|exact .e|exact .n|((fail_if_success exact bqt);(fail_if_success exact bqf);exact .b)))<;>intro _)
  all_goals try (exact .ret rfl (.bool rfl))
  refine Go.app (k := 0) (ys := []) (junk := []) (zs := w.map encTok) rfl rfl rfl rfl rfl (fun e he => by cases he) Jk.nil encTok_len (by simp; omega) fun v1 j1 hj1 => ?_
  simp only [List.nil_append]
  repeat' first|(apply yA;exact rfl)|apply yB|apply yC|((first|apply yD|apply yE);(first|exact yF|assumption);iterate 6 exact rfl)|((first|apply yG|apply yH|apply yI);exact rfl;(first|exact yJ|exact yK rfl rfl|exact yL rfl|exact yM rfl|exact rfl|exact aL rfl rfl rfl rfl rfl|exact aS rfl rfl rfl rfl rfl rfl rfl))|((first|apply yN|apply yO|apply yP);exact rfl)|(exfalso;omega)|(((first|apply yT|apply yU|apply yV|apply yW);exact rfl;(first|exact .d|exact .e|exact .n|((fail_if_success exact bqt);(fail_if_success exact bqf);exact .b)))<;>intro _)
  refine Go.app1 (k := 0) (ys := w.map encTok) (junk := j1) (z := encTok (tok 7)) rfl rfl rfl rfl rfl encTok_len hj1 rfl (by simp; omega) fun v2 j2 hj2 => ?_
  rw [show w.map encTok ++ [encTok (tok 7)] = (w ++ [tok 7]).map encTok by simp]
  have hul : (w ++ [tok 7]).length ≤ 8 := by simp; omega
  generalize hu : w ++ [tok 7] = u at c2 c3 hul
  repeat' first|(apply yA;exact rfl)|apply yB|apply yC|((first|apply yD|apply yE);(first|exact yF|assumption);iterate 6 exact rfl)|((first|apply yG|apply yH|apply yI);exact rfl;(first|exact yJ|exact yK rfl rfl|exact yL rfl|exact yM rfl|exact rfl|exact aL rfl rfl rfl rfl rfl|exact aS rfl rfl rfl rfl rfl rfl rfl))|((first|apply yN|apply yO|apply yP);exact rfl)|(exfalso;omega)|(((first|apply yT|apply yU|apply yV|apply yW);exact rfl;(first|exact .d|exact .e|exact .n|((fail_if_success exact bqt);(fail_if_success exact bqf);exact .b)))<;>intro _)
  refine Go.freezeN (l := []) (m := [(v2, u.map encTok ++ j2)]) (fr' := [(3, .c (.fz (s.map encTable))), (4, .c (.fz (db.map encData))), (5, .c (.int .i64 n)), (6, .c (.fz (w.map encTok))), (7, .c (.fz (l1.map encI))), (11, .c (.fz (u.map encTok))), (70, .c (.fz (s.map encTable))), (71, .c (.fz (db.map encData))), (72, .c (.int .i64 n)), (73, .c (.fz (u.map encTok)))]) hS (fun b hb => by cases hb) (Nat.le_refl _)
    (.frz rfl (.refl old_tabs) (.frz rfl (.refl old_dats) (.frz rfl (.refl old_c) (.frz rfl (.refl old_toks) (.frz rfl (.refl old_ints) (.frz rfl (frz_drop (n := 0) (k := 0) rfl flatTs (Nat.zero_le _) (Nat.le_refl _)) (.frz rfl (.refl old_tabs) (.frz rfl (.refl old_dats) (.frz rfl (.refl old_c) (.frz rfl (frz_drop (n := 0) (k := 0) rfl flatTs (Nat.zero_le _) (Nat.le_refl _)) .nil)))))))))) ?_
  repeat' first|(apply yA;exact rfl)|apply yB|apply yC|((first|apply yD|apply yE);(first|exact yF|assumption);iterate 6 exact rfl)|((first|apply yG|apply yH|apply yI);exact rfl;(first|exact yJ|exact yK rfl rfl|exact yL rfl|exact yM rfl|exact rfl|exact aL rfl rfl rfl rfl rfl|exact aS rfl rfl rfl rfl rfl rfl rfl))|((first|apply yN|apply yO|apply yP);exact rfl)|((first|apply yQ|apply yR|apply yS);(iterate 3 exact rfl);exact c2)|(exfalso;omega)|(((first|apply yT|apply yU|apply yV|apply yW);exact rfl;(first|exact .d|exact .e|exact .n|((fail_if_success exact bqt);(fail_if_success exact bqf);exact .b)))<;>intro _)
  refine Go.app (k := 0) (ys := []) (junk := []) (zs := w.map encTok) rfl rfl rfl rfl rfl (fun e he => by cases he) Jk.nil encTok_len (by simp; omega) fun v3 j3 hj3 => ?_
  simp only [List.nil_append]
  repeat' first|(apply yA;exact rfl)|apply yB|apply yC|((first|apply yD|apply yE);(first|exact yF|assumption);iterate 6 exact rfl)|((first|apply yG|apply yH|apply yI);exact rfl;(first|exact yJ|exact yK rfl rfl|exact yL rfl|exact yM rfl|exact rfl|exact aL rfl rfl rfl rfl rfl|exact aS rfl rfl rfl rfl rfl rfl rfl))|((first|apply yN|apply yO|apply yP);exact rfl)|(exfalso;omega)|(((first|apply yT|apply yU|apply yV|apply yW);exact rfl;(first|exact .d|exact .e|exact .n|((fail_if_success exact bqt);(fail_if_success exact bqf);exact .b)))<;>intro _)
  refine Go.app (k := 0) (ys := w.map encTok) (junk := j3) (zs := u.map encTok) rfl rfl rfl rfl rfl encTok_len hj3 encTok_len (by simp; omega) fun v4 j4 hj4 => ?_
  rw [← List.map_append]
  repeat' first|(apply yA;exact rfl)|apply yB|apply yC|((first|apply yD|apply yE);(first|exact yF|assumption);iterate 6 exact rfl)|((first|apply yG|apply yH|apply yI);exact rfl;(first|exact yJ|exact yK rfl rfl|exact yL rfl|exact yM rfl|exact rfl|exact aL rfl rfl rfl rfl rfl|exact aS rfl rfl rfl rfl rfl rfl rfl))|((first|apply yN|apply yO|apply yP);exact rfl)|(exfalso;omega)|(((first|apply yT|apply yU|apply yV|apply yW);exact rfl;(first|exact .d|exact .e|exact .n|((fail_if_success exact bqt);(fail_if_success exact bqf);exact .b)))<;>intro _)
  refine Go.app1 (k := 0) (ys := (w ++ u).map encTok) (junk := j4) (z := encTok (tok 6)) rfl rfl rfl rfl rfl encTok_len hj4 rfl (by simp; omega) fun v5 j5 hj5 => ?_
  rw [show (w ++ u).map encTok ++ [encTok (tok 6)] = (w ++ u ++ [tok 6]).map encTok by simp]
  generalize w ++ u ++ [tok 6] = z at c3
  repeat' first|(apply yA;exact rfl)|apply yB|apply yC|((first|apply yD|apply yE);(first|exact yF|assumption);iterate 6 exact rfl)|((first|apply yG|apply yH|apply yI);exact rfl;(first|exact yJ|exact yK rfl rfl|exact yL rfl|exact yM rfl|exact rfl|exact aL rfl rfl rfl rfl rfl|exact aS rfl rfl rfl rfl rfl rfl rfl))|((first|apply yN|apply yO|apply yP);exact rfl)|(exfalso;omega)|(((first|apply yT|apply yU|apply yV|apply yW);exact rfl;(first|exact .d|exact .e|exact .n|((fail_if_success exact bqt);(fail_if_success exact bqf);exact .b)))<;>intro _)
  refine Go.freezeN (l := []) (m := [(v5, z.map encTok ++ j5)]) (fr' := [(7, .c (.fz (l1.map encI))), (12, .c (.fz (l2.map encI))), (13, .c (.bool true)), (78, .c (.fz (s.map encTable))), (79, .c (.fz (db.map encData))), (80, .c (.int .i64 n)), (88, .c (.fz (z.map encTok)))]) hS (fun b hb => by cases hb) (Nat.le_refl _)
    (.frz rfl (.refl old_ints) (.frz rfl (.refl old_ints) (.frz rfl (.refl old_b) (.frz rfl (.refl old_tabs) (.frz rfl (.refl old_dats) (.frz rfl (.refl old_c) (.frz rfl (frz_drop (n := 0) (k := 0) rfl flatTs (Nat.zero_le _) (Nat.le_refl _)) .nil))))))) ?_
  repeat' first|(apply yA;exact rfl)|apply yB|apply yC|((first|apply yD|apply yE);(first|exact yF|assumption);iterate 6 exact rfl)|((first|apply yG|apply yH|apply yI);exact rfl;(first|exact yJ|exact yK rfl rfl|exact yL rfl|exact yM rfl|exact rfl|exact aL rfl rfl rfl rfl rfl|exact aS rfl rfl rfl rfl rfl rfl rfl))|((first|apply yN|apply yO|apply yP);exact rfl)|((first|apply yQ|apply yR|apply yS);(iterate 3 exact rfl);exact c3)|(exfalso;omega)|(((first|apply yT|apply yU|apply yV|apply yW);exact rfl;(first|exact .d|exact .e|exact .n|((fail_if_success exact bqt);(fail_if_success exact bqf);exact .b)))<;>intro _)
  refine .ret rfl (.bool ?_)
  have hw2 : IntKind.i64.wrap ((l1.length : Int) + l2.length) = l3.length := by rw [wrap64 (by omega) (by omega)]; omega
  rw [hw2]
  simp
end Go.Proofs.YteafjabcpmpmgaaGreat.Am

/- The law FnMatchingNot: its function returns true. -/
set_option linter.unusedVariables false
set_option linter.unusedSimpArgs false
namespace Go.Proofs.YteafjabcpmpmgaaGreat.Am

theorem sameInts_ok (a b : List Int) (ha : a.length ≤ 34359738368) (hb : b.length ≤ 34359738368) : Pure Tryz.prog 33 [.c (.fz (a.map encI)), .c (.fz (b.map encI))] (.c (.bool (decide (a = b)))) := by
  refine Pure.run mixed c_laws_sameInts_ok (Nat.le_of_ble_eq_true rfl) fun σ hS hA => ?_
  clear hS hA
  by_cases hl : a.length = b.length
  · have hl2 : (a.length : Int) = b.length := by omega
    repeat' first|(apply yA;exact rfl)|apply yB|apply yC|((first|apply yD|apply yE);(first|exact yF|assumption);iterate 6 exact rfl)|((first|apply yG|apply yH|apply yI);exact rfl;(first|exact yJ|exact yK rfl rfl|exact yL rfl|exact yM rfl|exact rfl|exact aL rfl rfl rfl rfl rfl|exact aS rfl rfl rfl rfl rfl rfl rfl))|((first|apply yN|apply yO|apply yP);exact rfl)|(exfalso;omega)|(((first|apply yT|apply yU|apply yV|apply yW);exact rfl;(first|exact .d|exact .e|exact .n|((fail_if_success exact bqt);(fail_if_success exact bqf);exact .b)))<;>intro _)
    refine Go.keep [0, 1, 5] (Go.loops (I := fun m fr τ => ∃ (i : Nat) (k : Int), m = a.length - i ∧ i ≤ a.length ∧ k = i ∧ (∀ j (h1 : j < a.length) (h2 : j < b.length), j < i → a[j] = b[j]) ∧
      fr = [(0, .c (.fz (a.map encI))), (1, .c (.fz (b.map encI))), (5, .c (.int .i64 k))] ∧ τ = E σ []) ?_ _ _ _ ⟨0, _, rfl, Nat.zero_le _, rfl, fun j _ _ h => by omega, rfl, rfl⟩)
    rintro m fr τ ⟨i, k, rfl, hi, hk, hs, rfl, rfl⟩ hrec
    by_cases hlt : i < a.length
    · have hlt2 : i < b.length := by omega
      by_cases he : a[i] = b[i]
      · repeat' first|(apply yA;exact rfl)|apply yB|apply yC|((first|apply yD|apply yE);(first|exact yF|assumption);iterate 6 exact rfl)|((first|apply yG|apply yH|apply yI);exact rfl;(first|exact yJ|exact yK rfl rfl|exact yL rfl|exact yM rfl|exact rfl|exact aL rfl rfl rfl rfl rfl|exact aS rfl rfl rfl rfl rfl rfl rfl|exact yX (enc := encI) rfl rfl hk hlt rfl|exact yX (enc := encI) rfl rfl hk hlt2 rfl))|((first|apply yN|apply yO|apply yP);exact rfl)|(exfalso;omega)|(((first|apply yT|apply yU|apply yV|apply yW);exact rfl;(first|exact .d|exact .e|exact .n|((fail_if_success exact bqt);(fail_if_success exact bqf);exact .b)))<;>intro _)
        exact Go.keep [0, 1, 5] (hrec _ _ _ (by omega) ⟨i + 1, _, rfl, hlt, wrap_succ hk (by omega), fun j h1 h2 h3 => by
          by_cases e : j = i
          · subst e; exact he
          · exact hs j h1 h2 (by omega), rfl, rfl⟩)
      · repeat' first|(apply yA;exact rfl)|apply yB|apply yC|((first|apply yD|apply yE);(first|exact yF|assumption);iterate 6 exact rfl)|((first|apply yG|apply yH|apply yI);exact rfl;(first|exact yJ|exact yK rfl rfl|exact yL rfl|exact yM rfl|exact rfl|exact aL rfl rfl rfl rfl rfl|exact aS rfl rfl rfl rfl rfl rfl rfl|exact yX (enc := encI) rfl rfl hk hlt rfl|exact yX (enc := encI) rfl rfl hk hlt2 rfl))|((first|apply yN|apply yO|apply yP);exact rfl)|(exfalso;omega)|(((first|apply yT|apply yU|apply yV|apply yW);exact rfl;(first|exact .d|exact .e|exact .n|((fail_if_success exact bqt);(fail_if_success exact bqf);exact .b)))<;>intro _)
        refine .ret rfl (.bool (decide_eq_false fun e => he (by subst e; rfl)).symm)
    · repeat' first|(apply yA;exact rfl)|apply yB|apply yC|((first|apply yD|apply yE);(first|exact yF|assumption);iterate 6 exact rfl)|((first|apply yG|apply yH|apply yI);exact rfl;(first|exact yJ|exact yK rfl rfl|exact yL rfl|exact yM rfl|exact rfl|exact aL rfl rfl rfl rfl rfl|exact aS rfl rfl rfl rfl rfl rfl rfl))|((first|apply yN|apply yO|apply yP);exact rfl)|(exfalso;omega)|(((first|apply yT|apply yU|apply yV|apply yW);exact rfl;(first|exact .d|exact .e|exact .n|((fail_if_success exact bqt);(fail_if_success exact bqf);exact .b)))<;>intro _)
      exact .ret rfl (.bool (decide_eq_true (List.ext_getElem hl fun j h1 h2 => hs j h1 h2 (by omega))).symm)
  · have hl2 : ¬ (a.length : Int) = b.length := by omega
    repeat' first|(apply yA;exact rfl)|apply yB|apply yC|((first|apply yD|apply yE);(first|exact yF|assumption);iterate 6 exact rfl)|((first|apply yG|apply yH|apply yI);exact rfl;(first|exact yJ|exact yK rfl rfl|exact yL rfl|exact yM rfl|exact rfl|exact aL rfl rfl rfl rfl rfl|exact aS rfl rfl rfl rfl rfl rfl rfl))|((first|apply yN|apply yO|apply yP);exact rfl)|(exfalso;omega)|(((first|apply yT|apply yU|apply yV|apply yW);exact rfl;(first|exact .d|exact .e|exact .n|((fail_if_success exact bqt);(fail_if_success exact bqf);exact .b)))<;>intro _)
    exact .ret rfl (.bool (decide_eq_false fun e => hl (by rw [e])).symm)
theorem MatchingNot_sound (code : List UInt8) : Pure Tryz.prog 6 [.c (.fz (code.map encB))] (.c (.bool true)) := by
  refine Pure.run mixed c_laws_FnMatchingNot_ok (Nat.le_of_ble_eq_true rfl) fun σ hS hA => ?_
  clear hA
  have cb := big_ok code
  by_cases hc : 1048576 < (code.length : Int)
  · rw [decide_eq_true hc] at cb
    repeat' first|(apply yA;exact rfl)|apply yB|apply yC|((first|apply yD|apply yE);(first|exact yF|assumption);iterate 6 exact rfl)|((first|apply yG|apply yH|apply yI);exact rfl;(first|exact yJ|exact yK rfl rfl|exact yL rfl|exact yM rfl|exact rfl|exact aL rfl rfl rfl rfl rfl|exact aS rfl rfl rfl rfl rfl rfl rfl))|((first|apply yN|apply yO|apply yP);exact rfl)|((first|apply yQ|apply yR|apply yS);(iterate 3 exact rfl);exact cb)|(exfalso;omega)|(((first|apply yT|apply yU|apply yV|apply yW);exact rfl;(first|exact .d|exact .e|exact .n|((fail_if_success exact bqt);(fail_if_success exact bqf);exact .b)))<;>intro _)
    exact .ret rfl (.bool rfl)
  rw [decide_eq_false hc] at cb
  repeat' first|(apply yA;exact rfl)|apply yB|apply yC|((first|apply yD|apply yE);(first|exact yF|assumption);iterate 6 exact rfl)|((first|apply yG|apply yH|apply yI);exact rfl;(first|exact yJ|exact yK rfl rfl|exact yL rfl|exact yM rfl|exact rfl|exact aL rfl rfl rfl rfl rfl|exact aS rfl rfl rfl rfl rfl rfl rfl))|((first|apply yN|apply yO|apply yP);exact rfl)|((first|apply yQ|apply yR|apply yS);(iterate 3 exact rfl);exact cb)|(exfalso;omega)|(((first|apply yT|apply yU|apply yV|apply yW);exact rfl;(first|exact .d|exact .e|exact .n|((fail_if_success exact bqt);(fail_if_success exact bqf);exact .b)))<;>intro _)
  refine Go.told rfl rfl rfl (DrawMatching_ok code (by omega)) ?_
  rintro _ ⟨s, db, n, w, hs, hd, hw, hwb, rfl⟩
  obtain ⟨hx, hb⟩ := hs.b
  obtain ⟨hdl, hdb⟩ := draw_db hd
  have hwb1 : ∀ t ∈ w, bTok 34359738368 t := fun t ht => b12_34 (hwb t ht)
  have hwb2 : ∀ t ∈ w ++ [tok 7], bTok 34359738368 t := fun t ht => by
    rcases List.mem_append.1 ht with ht | ht
    · exact hwb1 t ht
    · rw [List.mem_singleton.1 ht]; exact Nat.zero_le _
  have hwb3 : ∀ t ∈ w ++ w ++ [tok 5], bTok 34359738368 t := fun t ht => by
    rcases List.mem_append.1 ht with ht | ht
    · rcases List.mem_append.1 ht with ht | ht
      · exact hwb1 t ht
      · exact hwb1 t ht
    · rw [List.mem_singleton.1 ht]; exact Nat.zero_le _
  have cI := fun (v : List Tok) (h1 : v.length ≤ 34359738368) (h2 : ∀ t ∈ v, bTok 34359738368 t) => NewV.pure (Matching_ok s db n v hx hb hdl hdb h1 h2)
  have fI := fun (v : List Tok) (h1 : v.length ≤ 34359738368) (h2 : ∀ t ∈ v, bTok 34359738368 t) => (Matching_fact s db n v hx hb hdl hdb h1 h2).1
  have cS := NewV.pure (sMatching_ok s db n w hx hb hdl hdb (by omega) hwb1)
  have c1 := cI w (by omega) hwb1
  have c2 := cI (w ++ [tok 7]) (by simp; omega) hwb2
  have c3 := cI (w ++ w ++ [tok 5]) (by simp; omega) hwb3
  have f1 := fI w (by omega) hwb1
  have f2 := fI (w ++ [tok 7]) (by simp; omega) hwb2
  have hl := not_law (s := s) (db := db) (n := n) (w := w)
  clear cI fI
  generalize MatchF s db n w = M1 at c1 cS hl f1
  generalize MatchF s db n (w ++ [tok 7]) = M2 at c2 hl f2
  generalize MatchF s db n (w ++ w ++ [tok 5]) = M3 at c3 hl
  obtain ⟨l1, b1⟩ := M1
  obtain ⟨l2, b2⟩ := M2
  obtain ⟨l3, b3⟩ := M3
  simp only at c1 cS hl c2 c3 f1 f2
  have cs1 := sameInts_ok l1 l1 f1 f1
  rw [decide_eq_true rfl] at cs1
  have hwl : IntKind.i64.wrap (IntKind.i64.wrap (2 * (w.length : Int)) + 2) = 2 * w.length + 2 := by
    rw [show IntKind.i64.wrap (2 * (w.length : Int)) = 2 * w.length from wrap64 (by omega) (by omega), wrap64 (by omega) (by omega)]
  cases b1
  · repeat' first|(apply yA;exact rfl)|apply yB|apply yC|((first|apply yD|apply yE);(first|exact yF|assumption);iterate 6 exact rfl)|((first|apply yG|apply yH|apply yI);exact rfl;(first|exact yJ|exact yK rfl rfl|exact yL rfl|exact yM rfl|exact rfl|exact aL rfl rfl rfl rfl rfl|exact aS rfl rfl rfl rfl rfl rfl rfl))|((first|apply yN|apply yO|apply yP);exact rfl)|((first|apply yQ|apply yR|apply yS);(iterate 3 exact rfl);(first|exact c1|exact cS|exact cs1))|(exfalso;omega)|(((first|apply yT|apply yU|apply yV|apply yW);exact rfl;(first|exact .d|exact .e|exact .n|((fail_if_success exact bqt);(fail_if_success exact bqf);exact .b)))<;>intro _)
    exact .ret rfl (.bool rfl)
  by_cases h0 : (w.length : Int) = 0
  · repeat' first|(apply yA;exact rfl)|apply yB|apply yC|((first|apply yD|apply yE);(first|exact yF|assumption);iterate 6 exact rfl)|((first|apply yG|apply yH|apply yI);exact rfl;(first|exact yJ|exact yK rfl rfl|exact yL rfl|exact yM rfl|exact rfl|exact aL rfl rfl rfl rfl rfl|exact aS rfl rfl rfl rfl rfl rfl rfl))|((first|apply yN|apply yO|apply yP);exact rfl)|((first|apply yQ|apply yR|apply yS);(iterate 3 exact rfl);(first|exact c1|exact cS|exact cs1))|(exfalso;omega)|(((first|apply yT|apply yU|apply yV|apply yW);exact rfl;(first|exact .d|exact .e|exact .n|((fail_if_success exact bqt);(fail_if_success exact bqf);exact .b)))<;>intro _)
    exact .ret rfl (.bool rfl)
  obtain ⟨rfl, rfl, rfl, h3⟩ := hl rfl (by omega) (by omega)
  repeat' first|(apply yA;exact rfl)|apply yB|apply yC|((first|apply yD|apply yE);(first|exact yF|assumption);iterate 6 exact rfl)|((first|apply yG|apply yH|apply yI);exact rfl;(first|exact yJ|exact yK rfl rfl|exact yL rfl|exact yM rfl|exact rfl|exact aL rfl rfl rfl rfl rfl|exact aS rfl rfl rfl rfl rfl rfl rfl))|((first|apply yN|apply yO|apply yP);exact rfl)|((first|apply yQ|apply yR|apply yS);(iterate 3 exact rfl);(first|exact c1|exact cS|exact cs1))|(exfalso;omega)|(((first|apply yT|apply yU|apply yV|apply yW);exact rfl;(first|exact .d|exact .e|exact .n|((fail_if_success exact bqt);(fail_if_success exact bqf);exact .b)))<;>intro _)
  all_goals try (exact .ret rfl (.bool rfl))
  refine Go.app (k := 0) (ys := []) (junk := []) (zs := w.map encTok) rfl rfl rfl rfl rfl (fun e he => by cases he) Jk.nil encTok_len (by simp; omega) fun v1 j1 hj1 => ?_
  simp only [List.nil_append]
  repeat' first|(apply yA;exact rfl)|apply yB|apply yC|((first|apply yD|apply yE);(first|exact yF|assumption);iterate 6 exact rfl)|((first|apply yG|apply yH|apply yI);exact rfl;(first|exact yJ|exact yK rfl rfl|exact yL rfl|exact yM rfl|exact rfl|exact aL rfl rfl rfl rfl rfl|exact aS rfl rfl rfl rfl rfl rfl rfl))|((first|apply yN|apply yO|apply yP);exact rfl)|(exfalso;omega)|(((first|apply yT|apply yU|apply yV|apply yW);exact rfl;(first|exact .d|exact .e|exact .n|((fail_if_success exact bqt);(fail_if_success exact bqf);exact .b)))<;>intro _)
  refine Go.app1 (k := 0) (ys := w.map encTok) (junk := j1) (z := encTok (tok 7)) rfl rfl rfl rfl rfl encTok_len hj1 rfl (by simp; omega) fun v2 j2 hj2 => ?_
  rw [show w.map encTok ++ [encTok (tok 7)] = (w ++ [tok 7]).map encTok by simp]
  generalize w ++ [tok 7] = u at c2
  repeat' first|(apply yA;exact rfl)|apply yB|apply yC|((first|apply yD|apply yE);(first|exact yF|assumption);iterate 6 exact rfl)|((first|apply yG|apply yH|apply yI);exact rfl;(first|exact yJ|exact yK rfl rfl|exact yL rfl|exact yM rfl|exact rfl|exact aL rfl rfl rfl rfl rfl|exact aS rfl rfl rfl rfl rfl rfl rfl))|((first|apply yN|apply yO|apply yP);exact rfl)|(exfalso;omega)|(((first|apply yT|apply yU|apply yV|apply yW);exact rfl;(first|exact .d|exact .e|exact .n|((fail_if_success exact bqt);(fail_if_success exact bqf);exact .b)))<;>intro _)
  refine Go.freezeN (l := []) (m := [(v2, u.map encTok ++ j2)]) (fr' := [(3, .c (.fz (s.map encTable))), (4, .c (.fz (db.map encData))), (5, .c (.int .i64 n)), (6, .c (.fz (w.map encTok))), (7, .c (.fz (l3.map encI))), (77, .c (.fz (s.map encTable))), (78, .c (.fz (db.map encData))), (79, .c (.int .i64 n)), (85, .c (.fz (u.map encTok)))]) hS (fun b hb => by cases hb) (Nat.le_refl _)
    (.frz rfl (.refl old_tabs) (.frz rfl (.refl old_dats) (.frz rfl (.refl old_c) (.frz rfl (.refl old_toks) (.frz rfl (.refl old_ints) (.frz rfl (.refl old_tabs) (.frz rfl (.refl old_dats) (.frz rfl (.refl old_c) (.frz rfl (frz_drop (n := 0) (k := 0) rfl flatTs (Nat.zero_le _) (Nat.le_refl _)) .nil))))))))) ?_
  repeat' first|(apply yA;exact rfl)|apply yB|apply yC|((first|apply yD|apply yE);(first|exact yF|assumption);iterate 6 exact rfl)|((first|apply yG|apply yH|apply yI);exact rfl;(first|exact yJ|exact yK rfl rfl|exact yL rfl|exact yM rfl|exact rfl|exact aL rfl rfl rfl rfl rfl|exact aS rfl rfl rfl rfl rfl rfl rfl))|((first|apply yN|apply yO|apply yP);exact rfl)|((first|apply yQ|apply yR|apply yS);(iterate 3 exact rfl);exact c2)|(exfalso;omega)|(((first|apply yT|apply yU|apply yV|apply yW);exact rfl;(first|exact .d|exact .e|exact .n|((fail_if_success exact bqt);(fail_if_success exact bqf);exact .b)))<;>intro _)
  refine Go.app (k := 0) (ys := []) (junk := []) (zs := w.map encTok) rfl rfl rfl rfl rfl (fun e he => by cases he) Jk.nil encTok_len (by simp; omega) fun v3 j3 hj3 => ?_
  simp only [List.nil_append]
  repeat' first|(apply yA;exact rfl)|apply yB|apply yC|((first|apply yD|apply yE);(first|exact yF|assumption);iterate 6 exact rfl)|((first|apply yG|apply yH|apply yI);exact rfl;(first|exact yJ|exact yK rfl rfl|exact yL rfl|exact yM rfl|exact rfl|exact aL rfl rfl rfl rfl rfl|exact aS rfl rfl rfl rfl rfl rfl rfl))|((first|apply yN|apply yO|apply yP);exact rfl)|(exfalso;omega)|(((first|apply yT|apply yU|apply yV|apply yW);exact rfl;(first|exact .d|exact .e|exact .n|((fail_if_success exact bqt);(fail_if_success exact bqf);exact .b)))<;>intro _)
  refine Go.app (k := 0) (ys := w.map encTok) (junk := j3) (zs := w.map encTok) rfl rfl rfl rfl rfl encTok_len hj3 encTok_len (by simp; omega) fun v4 j4 hj4 => ?_
  rw [← List.map_append]
  repeat' first|(apply yA;exact rfl)|apply yB|apply yC|((first|apply yD|apply yE);(first|exact yF|assumption);iterate 6 exact rfl)|((first|apply yG|apply yH|apply yI);exact rfl;(first|exact yJ|exact yK rfl rfl|exact yL rfl|exact yM rfl|exact rfl|exact aL rfl rfl rfl rfl rfl|exact aS rfl rfl rfl rfl rfl rfl rfl))|((first|apply yN|apply yO|apply yP);exact rfl)|(exfalso;omega)|(((first|apply yT|apply yU|apply yV|apply yW);exact rfl;(first|exact .d|exact .e|exact .n|((fail_if_success exact bqt);(fail_if_success exact bqf);exact .b)))<;>intro _)
  refine Go.app1 (k := 0) (ys := (w ++ w).map encTok) (junk := j4) (z := encTok (tok 5)) rfl rfl rfl rfl rfl encTok_len hj4 rfl (by simp; omega) fun v5 j5 hj5 => ?_
  rw [show (w ++ w).map encTok ++ [encTok (tok 5)] = (w ++ w ++ [tok 5]).map encTok by simp]
  generalize w ++ w ++ [tok 5] = z at c3
  repeat' first|(apply yA;exact rfl)|apply yB|apply yC|((first|apply yD|apply yE);(first|exact yF|assumption);iterate 6 exact rfl)|((first|apply yG|apply yH|apply yI);exact rfl;(first|exact yJ|exact yK rfl rfl|exact yL rfl|exact yM rfl|exact rfl|exact aL rfl rfl rfl rfl rfl|exact aS rfl rfl rfl rfl rfl rfl rfl))|((first|apply yN|apply yO|apply yP);exact rfl)|(exfalso;omega)|(((first|apply yT|apply yU|apply yV|apply yW);exact rfl;(first|exact .d|exact .e|exact .n|((fail_if_success exact bqt);(fail_if_success exact bqf);exact .b)))<;>intro _)
  refine Go.freezeN (l := []) (m := [(v5, z.map encTok ++ j5)]) (fr' := [(7, .c (.fz (l3.map encI))), (11, .c (.fz (l2.map encI))), (12, .c (.bool true)), (95, .c (.fz (s.map encTable))), (96, .c (.fz (db.map encData))), (97, .c (.int .i64 n)), (101, .c (.fz (z.map encTok)))]) hS (fun b hb => by cases hb) (Nat.le_refl _)
    (.frz rfl (.refl old_ints) (.frz rfl (.refl old_ints) (.frz rfl (.refl old_b) (.frz rfl (.refl old_tabs) (.frz rfl (.refl old_dats) (.frz rfl (.refl old_c) (.frz rfl (frz_drop (n := 0) (k := 0) rfl flatTs (Nat.zero_le _) (Nat.le_refl _)) .nil))))))) ?_
  clear c1 c2 cS hwl cb
  repeat' first|(apply yA;exact rfl)|apply yB|apply yC|((first|apply yD|apply yE);(first|exact yF|assumption);iterate 6 exact rfl)|((first|apply yG|apply yH|apply yI);exact rfl;(first|exact yJ|exact yK rfl rfl|exact yL rfl|exact yM rfl|exact rfl|exact aL rfl rfl rfl rfl rfl|exact aS rfl rfl rfl rfl rfl rfl rfl))|((first|apply yN|apply yO|apply yP);exact rfl)|((first|apply yQ|apply yR|apply yS);(iterate 3 exact rfl);(first|exact c3|exact cs1))|(exfalso;omega)|(((first|apply yT|apply yU|apply yV|apply yW);exact rfl;(first|exact .d|exact .e|exact .n|((fail_if_success exact bqt);(fail_if_success exact bqf);exact .b)))<;>intro _)
  refine Go.keep [7, 11, 16] (Go.loops (I := fun m fr τ => ∃ (i : Nat) (k : Int), m = l3.length - i ∧ i ≤ l3.length ∧ k = i ∧
    fr = [(7, .c (.fz (l3.map encI))), (11, .c (.fz (l2.map encI))), (16, .c (.int .i64 k))] ∧ τ = E σ []) ?_ _ _ _ ⟨0, _, rfl, Nat.zero_le _, rfl, rfl, rfl⟩)
  rintro m fr τ ⟨i, k, rfl, hi, hk, rfl, rfl⟩ hrec
  by_cases hlt : i < l3.length
  · repeat' first|(apply yA;exact rfl)|apply yB|apply yC|((first|apply yD|apply yE);(first|exact yF|assumption);iterate 6 exact rfl)|((first|apply yG|apply yH|apply yI);exact rfl;(first|exact yJ|exact yK rfl rfl|exact yL rfl|exact yM rfl|exact rfl|exact aL rfl rfl rfl rfl rfl|exact aS rfl rfl rfl rfl rfl rfl rfl))|((first|apply yN|apply yO|apply yP);exact rfl)|(exfalso;omega)|(((first|apply yT|apply yU|apply yV|apply yW);exact rfl;(first|exact .d|exact .e|exact .n|((fail_if_success exact bqt);(fail_if_success exact bqf);exact .b)))<;>intro _)
    refine Go.keep [7, 11, 16, 17] (Go.loops (I := fun m fr τ => ∃ (j : Nat) (kj : Int), m = l2.length - j ∧ j ≤ l2.length ∧ kj = j ∧
      fr = [(7, .c (.fz (l3.map encI))), (11, .c (.fz (l2.map encI))), (16, .c (.int .i64 k)), (17, .c (.int .i64 kj))] ∧ τ = E σ []) ?_ _ _ _ ⟨0, _, rfl, Nat.zero_le _, rfl, rfl, rfl⟩)
    rintro m fr τ ⟨j, kj, rfl, hj, hkj, rfl, rfl⟩ hrecj
    by_cases hltj : j < l2.length
    · have hne : ¬ l3[i] = l2[j] := fun e => h3 _ (List.getElem_mem hlt) (by rw [e]; exact List.getElem_mem hltj)
      repeat' first|(apply yA;exact rfl)|apply yB|apply yC|((first|apply yD|apply yE);(first|exact yF|assumption);iterate 6 exact rfl)|((first|apply yG|apply yH|apply yI);exact rfl;(first|exact yJ|exact yK rfl rfl|exact yL rfl|exact yM rfl|exact rfl|exact aL rfl rfl rfl rfl rfl|exact aS rfl rfl rfl rfl rfl rfl rfl|exact yX (enc := encI) rfl rfl hk hlt rfl|exact yX (enc := encI) rfl rfl hkj hltj rfl))|((first|apply yN|apply yO|apply yP);exact rfl)|(exfalso;omega)|(((first|apply yT|apply yU|apply yV|apply yW);exact rfl;(first|exact .d|exact .e|exact .n|((fail_if_success exact bqt);(fail_if_success exact bqf);exact .b)))<;>intro _)
      exact Go.keep [7, 11, 16, 17] (hrecj _ _ _ (by omega) ⟨j + 1, _, rfl, hltj, wrap_succ hkj (by omega), rfl, rfl⟩)
    · repeat' first|(apply yA;exact rfl)|apply yB|apply yC|((first|apply yD|apply yE);(first|exact yF|assumption);iterate 6 exact rfl)|((first|apply yG|apply yH|apply yI);exact rfl;(first|exact yJ|exact yK rfl rfl|exact yL rfl|exact yM rfl|exact rfl|exact aL rfl rfl rfl rfl rfl|exact aS rfl rfl rfl rfl rfl rfl rfl))|((first|apply yN|apply yO|apply yP);exact rfl)|(exfalso;omega)|(((first|apply yT|apply yU|apply yV|apply yW);exact rfl;(first|exact .d|exact .e|exact .n|((fail_if_success exact bqt);(fail_if_success exact bqf);exact .b)))<;>intro _)
      exact Go.keep [7, 11, 16] (hrec _ _ _ (by omega) ⟨i + 1, _, rfl, hlt, wrap_succ hk (by omega), rfl, rfl⟩)
  · repeat' first|(apply yA;exact rfl)|apply yB|apply yC|((first|apply yD|apply yE);(first|exact yF|assumption);iterate 6 exact rfl)|((first|apply yG|apply yH|apply yI);exact rfl;(first|exact yJ|exact yK rfl rfl|exact yL rfl|exact yM rfl|exact rfl|exact aL rfl rfl rfl rfl rfl|exact aS rfl rfl rfl rfl rfl rfl rfl))|((first|apply yN|apply yO|apply yP);exact rfl)|(exfalso;omega)|(((first|apply yT|apply yU|apply yV|apply yW);exact rfl;(first|exact .d|exact .e|exact .n|((fail_if_success exact bqt);(fail_if_success exact bqf);exact .b)))<;>intro _)
    exact .ret rfl (.bool rfl)
end Go.Proofs.YteafjabcpmpmgaaGreat.Am

/- The statement of the law FnMatchingNot: whatever its arguments are, it returns true, leaves what was there as it was, and ends. No condition. -/
namespace Go.Proofs.YteafjabcpmpmgaaGreat.fnMatchingNot
open Go.ChangeShapes Go.WideShapes Go.ChangeAt Go.RowKit Go.Proofs.YteafjabcpmpmgaaGreat.Am
open Go.ChangeMaps (open_string shut_string)
set_option linter.unusedVariables false
theorem own : ownKnob Tryz.prog.godebug = none := by kernel_rfl
theorem laidOut : laidOutB Tryz.prog = true := by kernel_rfl
set_option maxRecDepth 100000 in
theorem lifted (os : Os) (started : os.Started) (H : Type) (enc : TypeId × Value → H) :
    ReturnsInHanded {} Tryz.checked os 6 .any (Rows.fnMatchingNotSpec.pre6 enc Tryz.prog Tryz.f6 Rows.fnMatchingNotRow.domain false) (Rows.fnMatchingNotSpec.post enc Tryz.prog Tryz.f6 false true false false) := by
  refine returnsInHanded_of_change_sized (C := Tryz.checked) own started (by kernel_rfl) Tryz.func6
    (ChangeSpec.witness6 (enc := enc) (C := Tryz.checked) false ⟨#[], #[.slice none 0 0], []⟩ 8 (by kernel_rfl) (by kernel_rfl) (by kernel_rfl) (by kernel_rfl)) ?_
  intro W base args ds gs before hval0 hW hcnd hsz0 _
  have hval : ∀ (j : Nat) t v, Tryz.f6.params[j]? = some t → args[j]? = some v → Value.okWide Tryz.prog W .any base t v := hval0
  have hW' := hW
  obtain ⟨p, q, hA0, hV, rfl, hfz, hnd⟩ := hW
  have hA : DataW.TrodAll enc Tryz.prog W 0 (fun _ => true) true Tryz.f6.params.toList args.toList ds p := hA0
  rw [Tryz.params6] at hA hval
  have hsz : (DataW.weightsEach Tryz.prog (Tryz.f6.params.toList ++ Rows.fnMatchingNotSpec.plain.varTypes Tryz.prog) (ds ++ gs)).all (· ≤ reachBytes) = true := hsz0
  rw [Tryz.params6] at hsz
  obtain ⟨v0, vs0, d0, ds0, p0, q0, hargs, rfl, rfl, h0, r0⟩ := trodAll_cons hA
  obtain ⟨rfl, rfl, rfl⟩ := trodAll_nil r0
  obtain rfl : args = #[v0] := by cases args; simp_all
  obtain ⟨rfl, rfl⟩ := trodVars_none hV
  obtain ⟨a0, g0, e0⟩ := Opens.c openBs (cells_slice Tryz.underlying53 (hval 0 53 v0 rfl rfl)) h0 (fun n hn => of_decide_eq_true (List.all_eq_true.1 hsz _ (DataW.weights_mem_each (j := 0) (t := 53) rfl rfl n hn)))
  have k0 := h0
  have lt0 : ∀ x ∈ p0, x.block < W.heap.size := by obtain ⟨m, hm⟩ := k0; exact DataW.trod_lt m _ _ _ hm
  clear hA0 hval0 hsz0 hsz
  refine ((MatchingNot_sound a0 ).calls (W := W) ⟨rfl, fun i hi => ?_⟩).mono fun e W' ⟨he, bel⟩ => ?_
  · match i, hi with
    | 0, _ => exact e0
  subst he
  exact ⟨_, rfl, _, _, _, [], _, [], hW', trodAll_mk1 (shut_bool Tryz.underlying4 _), (trodAll_cons_mk (Below.trod laidOut (by kernel_rfl) (of_decide_eq_true (by kernel_rfl)) k0 bel lt0) trodAll_mk0), rfl, bel.frame _, fun h => by cases h⟩
theorem spl {a b : Bool} (h : (a && b) = true) : a = true ∧ b = true := by cases a <;> cases b <;> simp_all
theorem and2 {a b : Bool} (h : a = true) (k : b = true) : (a && b) = true := by rw [h, k]; rfl
theorem facts0 : (Rows.fnMatchingNotRow.wf (OpenSpec.ofChange Rows.fnMatchingNotSpec) && laidOutB Tryz.pinned.checked.prog && mapsRowed Tryz.pinned.checked.prog && Tryz.f6.params.all (Tryz.pinned.checked.prog.readableRec ·) && namedTie Tryz.pinned.checked.prog Rows.fnMatchingNotRow.named Rows.fnMatchingNotSpec.vars && (Rows.fnMatchingNotRow.stops == []) && (Tryz.pinned.checked.prog.stops == []) && (Rows.fnMatchingNotRow.knobs == []) && (Tryz.pinned.checked.prog.stopKnobs == [])) = true := by kernel_rfl
theorem facts1 : ((Rows.fnMatchingNotRow.inPlace == Tryz.pinned.checked.prog.inPlace 6) && (Rows.fnMatchingNotRow.unfollowed == Tryz.pinned.checked.prog.unfollowed 6) && (Rows.fnMatchingNotRow.recurses == Tryz.pinned.checked.prog.recurses 6) && (Rows.fnMatchingNotRow.named == Tryz.pinned.checked.prog.varsNamed 6)) = true := by kernel_rfl
theorem facts2 : ((Rows.fnMatchingNotRow.maps == (Tryz.f6.params.toList ++ Rows.fnMatchingNotSpec.plain.varTypes Tryz.pinned.checked.prog).any (Tryz.pinned.checked.prog.mapsRec ·)) && (Rows.fnMatchingNotRow.ifaces == (Tryz.f6.params.toList ++ Rows.fnMatchingNotSpec.plain.varTypes Tryz.pinned.checked.prog).any (Tryz.pinned.checked.prog.ifacesRec ·)) && (Rows.fnMatchingNotRow.mapsOut == Tryz.pinned.checked.prog.mapsAmong Tryz.f6.resultTypes.toList) && (Rows.fnMatchingNotRow.loops == (Tryz.f6.params.toList ++ Rows.fnMatchingNotSpec.plain.varTypes Tryz.pinned.checked.prog).any (Tryz.pinned.checked.prog.loopsFrom ·)) && (Rows.fnMatchingNotRow.wideKeys == (Tryz.f6.params.toList ++ Rows.fnMatchingNotSpec.plain.varTypes Tryz.pinned.checked.prog ++ Tryz.f6.resultTypes.toList).any (Tryz.pinned.checked.prog.wideKeysFrom ·)) && Rows.fnMatchingNotSpec.vars.all (Tryz.pinned.checked.prog.varReadable ·)) = true := by kernel_rfl
theorem facts3 : (Tryz.f6.resultTypes.all (fun t => Tryz.pinned.checked.prog.readableRec t && decide (t < Tryz.pinned.checked.prog.types.size)) && (Rows.fnMatchingNotRow.ifacesOut == Tryz.f6.resultTypes.toList.any (Tryz.pinned.checked.prog.ifacesRec ·)) && (Rows.fnMatchingNotRow.loopsOut == Tryz.f6.resultTypes.toList.any (Tryz.pinned.checked.prog.loopsFrom ·)) && (Rows.fnMatchingNotRow.plainKeys == Tryz.pinned.checked.prog.plainKeys) && Rows.fnMatchingNotRow.shortTexts.isNone && (Tryz.pinned.checked.prog.make == some Rows.fnMatchingNotRow.make) && (Rows.fnMatchingNotRow.kinds == (if Rows.fnMatchingNotRow.domain.isEmpty then [] else Tryz.f6.params.toList.map fun t => match Tryz.pinned.checked.prog.underlying t with | some (.int k) => some k | _ => none)) && (Rows.fnMatchingNotRow.pinned == Rows.fnMatchingNotRow.pinnedBy) && (Rows.fnMatchingNotRow.veiled == (Tryz.f6.params.toList ++ Rows.fnMatchingNotSpec.plain.varTypes Tryz.pinned.checked.prog ++ Tryz.f6.resultTypes.toList).any (Tryz.pinned.checked.prog.veiledRec ·)) && Rows.fnMatchingNotRow.veiledFits Tryz.pinned.checked.prog Tryz.f6.params.toList (Tryz.f6.params.toList ++ Rows.fnMatchingNotSpec.plain.varTypes Tryz.pinned.checked.prog ++ Tryz.f6.resultTypes.toList)) = true := by kernel_rfl
theorem facts4 : (Tryz.pinned.checked.prog.stopsHeard && Tryz.pinned.checked.prog.mayEnter && (Rows.fnMatchingNotRow.lifted == Tryz.pinned.checked.prog.liftsFinal)) = true := by kernel_rfl
set_option maxRecDepth 100000 in
theorem closed : joinedFacts Tryz.pinned.checked.prog 6 Tryz.f6 Rows.fnMatchingNotSpec Rows.fnMatchingNotRow = true := by
  have g := facts0
  obtain ⟨g, p8⟩ := spl g
  obtain ⟨g, p7⟩ := spl g
  obtain ⟨g, p6⟩ := spl g
  obtain ⟨g, p5⟩ := spl g
  obtain ⟨g, p4⟩ := spl g
  obtain ⟨g, p3⟩ := spl g
  obtain ⟨g, p2⟩ := spl g
  obtain ⟨g, p1⟩ := spl g
  have p0 := g
  have g := facts1
  obtain ⟨g, p12⟩ := spl g
  obtain ⟨g, p11⟩ := spl g
  obtain ⟨g, p10⟩ := spl g
  have p9 := g
  have g := facts2
  obtain ⟨g, p18⟩ := spl g
  obtain ⟨g, p17⟩ := spl g
  obtain ⟨g, p16⟩ := spl g
  obtain ⟨g, p15⟩ := spl g
  obtain ⟨g, p14⟩ := spl g
  have p13 := g
  have g := facts3
  obtain ⟨g, p31⟩ := spl g
  obtain ⟨g, p30⟩ := spl g
  obtain ⟨g, p29⟩ := spl g
  obtain ⟨g, p28⟩ := spl g
  obtain ⟨g, p27⟩ := spl g
  obtain ⟨g, p23⟩ := spl g
  obtain ⟨g, p22⟩ := spl g
  obtain ⟨g, p21⟩ := spl g
  obtain ⟨g, p20⟩ := spl g
  have p19 := g
  have g := facts4
  obtain ⟨g, p26⟩ := spl g
  obtain ⟨g, p25⟩ := spl g
  have p24 := g
  exact (and2 (and2 (and2 (and2 (and2 (and2 (and2 (and2 (and2 (and2 (and2 (and2 (and2 (and2 (and2 (and2 (and2 (and2 (and2 (and2 (and2 (and2 (and2 (and2 (and2 (and2 (and2 (and2 (and2 (and2 (and2 p0 p1) p2) p3) p4) p5) p6) p7) p8) p9) p10) p11) p12) p13) p14) p15) p16) p17) p18) p19) p20) p21) p22) p23) p24) p25) p26) p27) p28) p29) p30) p31)
theorem over : Rows.fnMatchingNotRow.holds Tryz.pinned (OpenSpec.ofChange Rows.fnMatchingNotSpec) :=
  OpenClaim.holds_of_wide 6 Tryz.f6 rfl rfl rfl rfl rfl rfl rfl ⟨rfl, rfl, rfl, rfl, rfl⟩ rfl rfl rfl rfl rfl (by kernel_rfl) Tryz.func6 closed
    (of_decide_eq_true (by kernel_rfl)) (by unfold Func.isWrapper; first | (rw [if_pos (by decide +kernel)]; kernel_rfl) | (rw [if_neg (by decide +kernel)]; exact ⟨rfl, rfl⟩))
    (fun os started H enc _ => lifted os started H enc)
theorem proved : Rows.FnMatchingNotSaid := over
end Go.Proofs.YteafjabcpmpmgaaGreat.fnMatchingNot
namespace Go.Proofs.YteafjabcpmpmgaaGreat
/-- The row, under a short name, for the claim. -/
theorem fnMatchingNot_holds : Rows.FnMatchingNotSaid := fnMatchingNot.proved
#print axioms fnMatchingNot_holds
end Go.Proofs.YteafjabcpmpmgaaGreat
