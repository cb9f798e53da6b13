/- The statement of the law FnFires: whatever its arguments are, it returns true, leaves what was there as it was, and ends. No condition. -/
import Derived.Test.YteafjabcpmpmgaaGreatRows
import Derived.WalkKit
import Derived.ProofKit
import Derived.OpenShut
import Derived.ShutString
import Derived.ChangeOld
import Derived.Below
import Derived.SizedLaws
import Derived.Test.YteafjabcpmpmgaaGreatB1
import Derived.Test.YteafjabcpmpmgaaGreatB2
import Derived.Test.YteafjabcpmpmgaaGreatB3
import Derived.Test.YteafjabcpmpmgaaGreatB4
import Derived.Test.YteafjabcpmpmgaaGreatB5
import Derived.Test.YteafjabcpmpmgaaGreatB6
/- The law FnMatchingEither: its function returns true. -/
set_option linter.unusedVariables false
set_option linter.unusedSimpArgs false
namespace Go.Proofs.YteafjabcpmpmgaaGreat.Am

theorem big_ok (code : List UInt8) : Pure Tryz.prog 30 [.c (.fz (code.map encB))] (.c (.bool (decide (1048576 < (code.length : Int))))) := by
  refine Pure.run mixed c_laws_big_ok (Nat.le_of_ble_eq_true rfl) fun σ hS hA => ?_
  clear hS hA
  repeat' first|(apply yA;exact rfl)|apply yB|apply yC|((first|apply yD|apply yE);(first|exact yF|assumption);iterate 6 exact rfl)|((first|apply yG|apply yH|apply yI);exact rfl;(first|exact yJ|exact yK rfl rfl|exact yL rfl|exact yM rfl|exact rfl|exact aL rfl rfl rfl rfl rfl|exact aS rfl rfl rfl rfl rfl rfl rfl))|((first|apply yN|apply yO|apply yP);exact rfl)|(exfalso;omega)|(((first|apply yT|apply yU|apply yV|apply yW);exact rfl;(first|exact .d|exact .e|exact .n|((fail_if_success exact bqt);(fail_if_success exact bqf);exact .b)))<;>intro _)
  exact .ret rfl (.bool rfl)
end Go.Proofs.YteafjabcpmpmgaaGreat.Am

/- The law FnMatchingNot: its function returns true. -/
set_option linter.unusedVariables false
set_option linter.unusedSimpArgs false
namespace Go.Proofs.YteafjabcpmpmgaaGreat.Am

theorem sameInts_ok (a b : List Int) (ha : a.length ≤ 34359738368) (hb : b.length ≤ 34359738368) : Pure Tryz.prog 33 [.c (.fz (a.map encI)), .c (.fz (b.map encI))] (.c (.bool (decide (a = b)))) := by
  refine Pure.run mixed c_laws_sameInts_ok (Nat.le_of_ble_eq_true rfl) fun σ hS hA => ?_
  clear hS hA
  by_cases hl : a.length = b.length
  · have hl2 : (a.length : Int) = b.length := by omega
    repeat' first|(apply yA;exact rfl)|apply yB|apply yC|((first|apply yD|apply yE);(first|exact yF|assumption);iterate 6 exact rfl)|((first|apply yG|apply yH|apply yI);exact rfl;(first|exact yJ|exact yK rfl rfl|exact yL rfl|exact yM rfl|exact rfl|exact aL rfl rfl rfl rfl rfl|exact aS rfl rfl rfl rfl rfl rfl rfl))|((first|apply yN|apply yO|apply yP);exact rfl)|(exfalso;omega)|(((first|apply yT|apply yU|apply yV|apply yW);exact rfl;(first|exact .d|exact .e|exact .n|((fail_if_success exact bqt);(fail_if_success exact bqf);exact .b)))<;>intro _)
    refine Go.keep [0, 1, 5] (Go.loops (I := fun m fr τ => ∃ (i : Nat) (k : Int), m = a.length - i ∧ i ≤ a.length ∧ k = i ∧ (∀ j (h1 : j < a.length) (h2 : j < b.length), j < i → a[j] = b[j]) ∧
      fr = [(0, .c (.fz (a.map encI))), (1, .c (.fz (b.map encI))), (5, .c (.int .i64 k))] ∧ τ = E σ []) ?_ _ _ _ ⟨0, _, rfl, Nat.zero_le _, rfl, fun j _ _ h => by omega, rfl, rfl⟩)
    rintro m fr τ ⟨i, k, rfl, hi, hk, hs, rfl, rfl⟩ hrec
    by_cases hlt : i < a.length
    · have hlt2 : i < b.length := by omega
      by_cases he : a[i] = b[i]
      · repeat' first|(apply yA;exact rfl)|apply yB|apply yC|((first|apply yD|apply yE);(first|exact yF|assumption);iterate 6 exact rfl)|((first|apply yG|apply yH|apply yI);exact rfl;(first|exact yJ|exact yK rfl rfl|exact yL rfl|exact yM rfl|exact rfl|exact aL rfl rfl rfl rfl rfl|exact aS rfl rfl rfl rfl rfl rfl rfl|exact yX (enc := encI) rfl rfl hk hlt rfl|exact yX (enc := encI) rfl rfl hk hlt2 rfl))|((first|apply yN|apply yO|apply yP);exact rfl)|(exfalso;omega)|(((first|apply yT|apply yU|apply yV|apply yW);exact rfl;(first|exact .d|exact .e|exact .n|((fail_if_success exact bqt);(fail_if_success exact bqf);exact .b)))<;>intro _)
        exact Go.keep [0, 1, 5] (hrec _ _ _ (by omega) ⟨i + 1, _, rfl, hlt, wrap_succ hk (by omega), fun j h1 h2 h3 => by
          by_cases e : j = i
          · subst e; exact he
          · exact hs j h1 h2 (by omega), rfl, rfl⟩)
      · repeat' first|(apply yA;exact rfl)|apply yB|apply yC|((first|apply yD|apply yE);(first|exact yF|assumption);iterate 6 exact rfl)|((first|apply yG|apply yH|apply yI);exact rfl;(first|exact yJ|exact yK rfl rfl|exact yL rfl|exact yM rfl|exact rfl|exact aL rfl rfl rfl rfl rfl|exact aS rfl rfl rfl rfl rfl rfl rfl|exact yX (enc := encI) rfl rfl hk hlt rfl|exact yX (enc := encI) rfl rfl hk hlt2 rfl))|((first|apply yN|apply yO|apply yP);exact rfl)|(exfalso;omega)|(((first|apply yT|apply yU|apply yV|apply yW);exact rfl;(first|exact .d|exact .e|exact .n|((fail_if_success exact bqt);(fail_if_success exact bqf);exact .b)))<;>intro _)
        refine .ret rfl (.bool (decide_eq_false fun e => he (by subst e; rfl)).symm)
    · repeat' first|(apply yA;exact rfl)|apply yB|apply yC|((first|apply yD|apply yE);(first|exact yF|assumption);iterate 6 exact rfl)|((first|apply yG|apply yH|apply yI);exact rfl;(first|exact yJ|exact yK rfl rfl|exact yL rfl|exact yM rfl|exact rfl|exact aL rfl rfl rfl rfl rfl|exact aS rfl rfl rfl rfl rfl rfl rfl))|((first|apply yN|apply yO|apply yP);exact rfl)|(exfalso;omega)|(((first|apply yT|apply yU|apply yV|apply yW);exact rfl;(first|exact .d|exact .e|exact .n|((fail_if_success exact bqt);(fail_if_success exact bqf);exact .b)))<;>intro _)
      exact .ret rfl (.bool (decide_eq_true (List.ext_getElem hl fun j h1 h2 => hs j h1 h2 (by omega))).symm)
  · have hl2 : ¬ (a.length : Int) = b.length := by omega
    repeat' first|(apply yA;exact rfl)|apply yB|apply yC|((first|apply yD|apply yE);(first|exact yF|assumption);iterate 6 exact rfl)|((first|apply yG|apply yH|apply yI);exact rfl;(first|exact yJ|exact yK rfl rfl|exact yL rfl|exact yM rfl|exact rfl|exact aL rfl rfl rfl rfl rfl|exact aS rfl rfl rfl rfl rfl rfl rfl))|((first|apply yN|apply yO|apply yP);exact rfl)|(exfalso;omega)|(((first|apply yT|apply yU|apply yV|apply yW);exact rfl;(first|exact .d|exact .e|exact .n|((fail_if_success exact bqt);(fail_if_success exact bqf);exact .b)))<;>intro _)
    exact .ret rfl (.bool (decide_eq_false fun e => hl (by rw [e])).symm)
end Go.Proofs.YteafjabcpmpmgaaGreat.Am

/- The law FnFires: its function returns true. -/
set_option linter.unusedVariables false
set_option linter.unusedSimpArgs false
namespace Go.Proofs.YteafjabcpmpmgaaGreat.Am

theorem any_mem (ids : List Int) (n : Int) : (ids.any fun a => n == a) = true ↔ n ∈ ids := by
  rw [List.any_eq_true]
  constructor
  · rintro ⟨a, ha, he⟩
    rw [beq_iff_eq] at he
    exact he ▸ ha
  · exact fun h => ⟨n, h, beq_self_eq_true n⟩
theorem lawsHas_ok (xs : List Int) (n : Int) (hx : xs.length ≤ 34359738368) : Pure Tryz.prog 36 [.c (.fz (xs.map encI)), .c (.int .i64 n)] (.c (.bool (xs.any fun a => n == a))) := by
  refine Pure.run mixed c_laws_has_ok (Nat.le_of_ble_eq_true rfl) fun σ hS hA => ?_
  clear hS hA
  repeat' first|(apply yA;exact rfl)|apply yB|apply yC|((first|apply yD|apply yE);(first|exact yF|assumption);iterate 6 exact rfl)|((first|apply yG|apply yH|apply yI);exact rfl;(first|exact yJ|exact yK rfl rfl|exact yL rfl|exact yM rfl|exact rfl|exact aL rfl rfl rfl rfl rfl|exact aS rfl rfl rfl rfl rfl rfl rfl))|((first|apply yN|apply yO|apply yP);exact rfl)|(exfalso;omega)|(((first|apply yT|apply yU|apply yV|apply yW);exact rfl;(first|exact .d|exact .e|exact .n|((fail_if_success exact bqt);(fail_if_success exact bqf);exact .b)))<;>intro _)
  refine Go.keep [0, 1, 5] (Go.loops (I := fun m fr τ => ∃ i : Nat, ∃ k : Int, m = xs.length - i ∧ i ≤ xs.length ∧ k = i ∧ (xs.any fun a => n == a) = ((xs.drop i).any fun a => n == a) ∧
    fr = [(0, .c (.fz (xs.map encI))), (1, .c (.int .i64 n)), (5, .c (.int .i64 k))] ∧ τ = E σ []) ?_ _ _ _ ⟨0, _, rfl, Nat.zero_le _, rfl, rfl, rfl, rfl⟩)
  rintro m fr τ ⟨i, k, rfl, hi, hk, hsl, rfl, rfl⟩ hrec
  by_cases hlt : i < xs.length
  · rw [List.drop_eq_getElem_cons hlt, List.any_cons] at hsl
    repeat' first|(apply yA;exact rfl)|apply yB|apply yC|((first|apply yD|apply yE);(first|exact yF|assumption);iterate 6 exact rfl)|((first|apply yG|apply yH|apply yI);exact rfl;(first|exact yJ|exact yK rfl rfl|exact yL rfl|exact yM rfl|exact rfl|exact aL rfl rfl rfl rfl rfl|exact aS rfl rfl rfl rfl rfl rfl rfl|exact yX (enc := encI) rfl rfl hk hlt rfl))|((first|apply yN|apply yO|apply yP);exact rfl)|(exfalso;omega)|(((first|apply yT|apply yU|apply yV|apply yW);exact rfl;(first|exact .d|exact .e|exact .n|((fail_if_success exact bqt);(fail_if_success exact bqf);exact .b)))<;>intro _)
    · rename_i h
      refine .ret rfl (.bool ?_)
      rw [hsl, h]
      simp
    · rename_i h
      refine Go.keep [0, 1, 5] (hrec _ _ _ (by omega) ⟨i + 1, _, rfl, hlt, wrap_succ hk (by omega), ?_, rfl, rfl⟩)
      rw [hsl, show (n == xs[i]) = false from beq_eq_false_iff_ne.2 fun h2 => h h2.symm, Bool.false_or]
  · repeat' first|(apply yA;exact rfl)|apply yB|apply yC|((first|apply yD|apply yE);(first|exact yF|assumption);iterate 6 exact rfl)|((first|apply yG|apply yH|apply yI);exact rfl;(first|exact yJ|exact yK rfl rfl|exact yL rfl|exact yM rfl|exact rfl|exact aL rfl rfl rfl rfl rfl|exact aS rfl rfl rfl rfl rfl rfl rfl))|((first|apply yN|apply yO|apply yP);exact rfl)|(exfalso;omega)|(((first|apply yT|apply yU|apply yV|apply yW);exact rfl;(first|exact .d|exact .e|exact .n|((fail_if_success exact bqt);(fail_if_success exact bqf);exact .b)))<;>intro _)
    refine .ret rfl (.bool ?_)
    rw [hsl, List.drop_eq_nil_of_le (by omega)]
    rfl
set_option maxHeartbeats 2000000 in
theorem Fires_sound (code : List UInt8) : Pure Tryz.prog 4 [.c (.fz (code.map encB))] (.c (.bool true)) := by
  refine Pure.run mixed c_laws_FnFires_ok (Nat.le_of_ble_eq_true rfl) fun σ hS hA => ?_
  clear hS hA
  have cb := big_ok code
  by_cases hc : 1048576 < (code.length : Int)
  · rw [decide_eq_true hc] at cb
    repeat' first|(apply yA;exact rfl)|apply yB|apply yC|((first|apply yD|apply yE);(first|exact yF|assumption);iterate 6 exact rfl)|((first|apply yG|apply yH|apply yI);exact rfl;(first|exact yJ|exact yK rfl rfl|exact yL rfl|exact yM rfl|exact rfl|exact aL rfl rfl rfl rfl rfl|exact aS rfl rfl rfl rfl rfl rfl rfl))|((first|apply yN|apply yO|apply yP);exact rfl)|((first|apply yQ|apply yR|apply yS);(iterate 3 exact rfl);exact cb)|(exfalso;omega)|(((first|apply yT|apply yU|apply yV|apply yW);exact rfl;(first|exact .d|exact .e|exact .n|((fail_if_success exact bqt);(fail_if_success exact bqf);exact .b)))<;>intro _)
    exact .ret rfl (.bool rfl)
  rw [decide_eq_false hc] at cb
  repeat' first|(apply yA;exact rfl)|apply yB|apply yC|((first|apply yD|apply yE);(first|exact yF|assumption);iterate 6 exact rfl)|((first|apply yG|apply yH|apply yI);exact rfl;(first|exact yJ|exact yK rfl rfl|exact yL rfl|exact yM rfl|exact rfl|exact aL rfl rfl rfl rfl rfl|exact aS rfl rfl rfl rfl rfl rfl rfl))|((first|apply yN|apply yO|apply yP);exact rfl)|((first|apply yQ|apply yR|apply yS);(iterate 3 exact rfl);exact cb)|(exfalso;omega)|(((first|apply yT|apply yU|apply yV|apply yW);exact rfl;(first|exact .d|exact .e|exact .n|((fail_if_success exact bqt);(fail_if_success exact bqf);exact .b)))<;>intro _)
  refine Go.told rfl rfl rfl (DrawFires_ok code (by omega)) ?_
  rintro _ ⟨s, ts, m, ev, old, now, hs, ht1, ht2, hm, ⟨ho, hob⟩, ⟨hw, hwb⟩, rfl⟩
  obtain ⟨hx, hb⟩ := hs.b
  have k : ∀ {n : Nat}, n ≤ 12 → n ≤ 34359738368 := fun h => by omega
  have c1 := NewV.pure (Fires_ok s ts (m : Int) ev old now hx hb (by omega) ht2 (by omega) (fun x h => k (hob x h)) (by omega) (fun x h => k (hwb x h)))
  have cS := NewV.pure (sFires_ok s ts (m : Int) ev old now hx hb (by omega) ht2 (by omega) (fun x h => k (hob x h)) (by omega) (fun x h => k (hwb x h)))
  have f1 := (Fires_fact s ts (m : Int) ev old now hx hb (by omega) ht2 (by omega) (fun x h => k (hob x h)) (by omega) (fun x h => k (hwb x h))).1
  have hl := fun (hne : FiresF s ts (m : Int) ev old now ≠ []) (i : Nat) (hi : i < ts.length) => fires_law (s := s) (l := ts) (n := (m : Int)) (ev := ev) (old := old) (now := now) rfl hm hne hi
  have hof : ∀ x : Trigger, ofF s (m : Int) ev x = (x.table == s[m].name && x.event == ev) := fun x => by
    rw [ofF, Int.toNat_natCast, List.getElem?_eq_getElem hm]
  have ct := sTriggersOk_ok s ts hx hb (by omega) ht2
  generalize FiresF s ts (m : Int) ev old now = F at c1 cS f1 hl
  have cs := sameInts_ok F F f1 f1
  rw [decide_eq_true rfl] at cs
  cases ht : triggersF s ts
  · rw [ht] at ct
    repeat' first|(apply yA;exact rfl)|apply yB|apply yC|((first|apply yD|apply yE);(first|exact yF|assumption);iterate 6 exact rfl)|((first|apply yG|apply yH|apply yI);exact rfl;(first|exact yJ|exact yK rfl rfl|exact yL rfl|exact yM rfl|exact rfl|exact aL rfl rfl rfl rfl rfl|exact aS rfl rfl rfl rfl rfl rfl rfl))|((first|apply yN|apply yO|apply yP);exact rfl)|((first|apply yQ|apply yR|apply yS);(iterate 3 exact rfl);(first|exact c1|exact cS|exact cs|exact ct))|(exfalso;omega)|(((first|apply yT|apply yU|apply yV|apply yW);exact rfl;(first|exact .d|exact .e|exact .n|((fail_if_success exact bqt);(fail_if_success exact bqf);exact .b)))<;>intro _)
    exact .ret rfl (.bool rfl)
  rw [ht] at ct
  repeat' first|(apply yA;exact rfl)|apply yB|apply yC|((first|apply yD|apply yE);(first|exact yF|assumption);iterate 6 exact rfl)|((first|apply yG|apply yH|apply yI);exact rfl;(first|exact yJ|exact yK rfl rfl|exact yL rfl|exact yM rfl|exact rfl|exact aL rfl rfl rfl rfl rfl|exact aS rfl rfl rfl rfl rfl rfl rfl))|((first|apply yN|apply yO|apply yP);exact rfl)|((first|apply yQ|apply yR|apply yS);(iterate 3 exact rfl);(first|exact c1|exact cS|exact cs|exact ct))|(exfalso;omega)|(((first|apply yT|apply yU|apply yV|apply yW);exact rfl;(first|exact .d|exact .e|exact .n|((fail_if_success exact bqt);(fail_if_success exact bqf);exact .b)))<;>intro _)
  refine Go.keep [3, 4, 5, 6, 9, 10] (Go.loops (I := fun k fr τ => ∃ (i : Nat) (z : Int), k = ts.length - i ∧ i ≤ ts.length ∧ z = i ∧
    fr = [(3, .c (.fz (s.map encTable))), (4, .c (.fz (ts.map encTrigger))), (5, .c (.int .i64 (m : Int))), (6, .c (.int .i64 ev)), (9, .c (.fz (F.map encI))), (10, .c (.int .i64 z))] ∧ τ = E σ []) ?_ _ _ _ ⟨0, _, rfl, Nat.zero_le _, rfl, rfl, rfl⟩)
  rintro k2 fr τ ⟨i, z, rfl, hi, hz, rfl, rfl⟩ hrec
  by_cases hlt : i < ts.length
  · have hrm : (m : Int) = ((m : Nat) : Int) := rfl
    have cc := lawsHas_ok F (i : Int) f1
    have hrec2 : ∀ fr τ, fr = [(3, AV.c (.fz (s.map encTable))), (4, .c (.fz (ts.map encTrigger))), (5, .c (.int .i64 (m : Int))), (6, .c (.int .i64 ev)), (9, .c (.fz (F.map encI))), (10, .c (.int .i64 (IntKind.i64.wrap (z + 1))))] → τ = E σ [] → _ := fun fr τ h1 h2 => hrec _ fr τ (by omega) ⟨i + 1, _, rfl, hlt, wrap_succ hz (by omega), h1, h2⟩
    clear hrec
    cases F with
    | nil =>
      rw [List.any_nil, hz.symm] at cc
      cases h1 : (ts[i].table == s[m].name)
      · rw [beq_eq_false_iff_ne] at h1
        repeat' first|(apply yA;exact rfl)|apply yB|apply yC|((first|apply yD|apply yE);(first|exact yF|assumption);iterate 6 exact rfl)|((first|apply yG|apply yH|apply yI);exact rfl;(first|exact yJ|exact yK rfl rfl|exact yL rfl|exact yM rfl|exact rfl|exact aL rfl rfl rfl rfl rfl|exact aS rfl rfl rfl rfl rfl rfl rfl|exact yX (enc := encTrigger) rfl rfl hz hlt rfl|exact yX (enc := encTable) rfl rfl hrm hm rfl))|((first|apply yN|apply yO|apply yP);exact rfl)|((first|apply yQ|apply yR|apply yS);(iterate 3 exact rfl);exact cc)|(exfalso;omega)|(((first|apply yT|apply yU|apply yV|apply yW);exact rfl;(first|exact .d|exact .e|exact .n|((fail_if_success exact bqt);(fail_if_success exact bqf);exact .b)))<;>intro _)
        all_goals first | exact .ret rfl (.bool rfl) | exact Go.keep [3, 4, 5, 6, 9, 10] (hrec2 _ _ rfl rfl)
      · rw [beq_iff_eq] at h1
        repeat' first|(apply yA;exact rfl)|apply yB|apply yC|((first|apply yD|apply yE);(first|exact yF|assumption);iterate 6 exact rfl)|((first|apply yG|apply yH|apply yI);exact rfl;(first|exact yJ|exact yK rfl rfl|exact yL rfl|exact yM rfl|exact rfl|exact aL rfl rfl rfl rfl rfl|exact aS rfl rfl rfl rfl rfl rfl rfl|exact yX (enc := encTrigger) rfl rfl hz hlt rfl|exact yX (enc := encTable) rfl rfl hrm hm rfl))|((first|apply yN|apply yO|apply yP);exact rfl)|((first|apply yQ|apply yR|apply yS);(iterate 3 exact rfl);exact cc)|(exfalso;omega)|(((first|apply yT|apply yU|apply yV|apply yW);exact rfl;(first|exact .d|exact .e|exact .n|((fail_if_success exact bqt);(fail_if_success exact bqf);exact .b)))<;>intro _)
        all_goals first | exact .ret rfl (.bool rfl) | exact Go.keep [3, 4, 5, 6, 9, 10] (hrec2 _ _ rfl rfl)
    | cons f0 F =>
      obtain ⟨l1, l2⟩ := hl (by simp) i hlt
      rw [← any_mem] at l1 l2
      generalize hC : ((f0 :: F).any fun a => (i : Int) == a) = C at cc l1 l2
      rw [hz.symm] at cc
      rw [hof] at l1 l2
      generalize f0 :: F = F2 at *
      by_cases h1 : ts[i].table = s[m].name
      · by_cases h2 : ts[i].event = ev
        · have h3 : (ts[i].table == s[m].name && ts[i].event == ev) = true := by rw [h1, h2]; simp
          have l2 := l2 h3
          clear l1
          cases C
          · have h4 : ¬ ts[i].when_.length = 0 := fun h => by cases l2 h
            repeat' first|(apply yA;exact rfl)|apply yB|apply yC|((first|apply yD|apply yE);(first|exact yF|assumption);iterate 6 exact rfl)|((first|apply yG|apply yH|apply yI);exact rfl;(first|exact yJ|exact yK rfl rfl|exact yL rfl|exact yM rfl|exact rfl|exact aL rfl rfl rfl rfl rfl|exact aS rfl rfl rfl rfl rfl rfl rfl|exact yX (enc := encTrigger) rfl rfl hz hlt rfl|exact yX (enc := encTable) rfl rfl hrm hm rfl))|((first|apply yN|apply yO|apply yP);exact rfl)|((first|apply yQ|apply yR|apply yS);(iterate 3 exact rfl);exact cc)|(exfalso;omega)|(((first|apply yT|apply yU|apply yV|apply yW);exact rfl;(first|exact .d|exact .e|exact .n|((fail_if_success exact bqt);(fail_if_success exact bqf);exact .b)))<;>intro _)
            all_goals first | exact Go.keep [3, 4, 5, 6, 9, 10] (hrec2 _ _ rfl rfl) | (exfalso; omega) | (exfalso; clear hrec2; simp_all; done)
          · repeat' first|(apply yA;exact rfl)|apply yB|apply yC|((first|apply yD|apply yE);(first|exact yF|assumption);iterate 6 exact rfl)|((first|apply yG|apply yH|apply yI);exact rfl;(first|exact yJ|exact yK rfl rfl|exact yL rfl|exact yM rfl|exact rfl|exact aL rfl rfl rfl rfl rfl|exact aS rfl rfl rfl rfl rfl rfl rfl|exact yX (enc := encTrigger) rfl rfl hz hlt rfl|exact yX (enc := encTable) rfl rfl hrm hm rfl))|((first|apply yN|apply yO|apply yP);exact rfl)|((first|apply yQ|apply yR|apply yS);(iterate 3 exact rfl);exact cc)|(exfalso;omega)|(((first|apply yT|apply yU|apply yV|apply yW);exact rfl;(first|exact .d|exact .e|exact .n|((fail_if_success exact bqt);(fail_if_success exact bqf);exact .b)))<;>intro _)
            all_goals first | exact Go.keep [3, 4, 5, 6, 9, 10] (hrec2 _ _ rfl rfl) | (exfalso; clear hrec2; simp_all; done)
        · have h3 : ¬ (ts[i].table == s[m].name && ts[i].event == ev) = true := by simp [h2]
          cases C
          · repeat' first|(apply yA;exact rfl)|apply yB|apply yC|((first|apply yD|apply yE);(first|exact yF|assumption);iterate 6 exact rfl)|((first|apply yG|apply yH|apply yI);exact rfl;(first|exact yJ|exact yK rfl rfl|exact yL rfl|exact yM rfl|exact rfl|exact aL rfl rfl rfl rfl rfl|exact aS rfl rfl rfl rfl rfl rfl rfl|exact yX (enc := encTrigger) rfl rfl hz hlt rfl|exact yX (enc := encTable) rfl rfl hrm hm rfl))|((first|apply yN|apply yO|apply yP);exact rfl)|((first|apply yQ|apply yR|apply yS);(iterate 3 exact rfl);exact cc)|(exfalso;omega)|(((first|apply yT|apply yU|apply yV|apply yW);exact rfl;(first|exact .d|exact .e|exact .n|((fail_if_success exact bqt);(fail_if_success exact bqf);exact .b)))<;>intro _)
            all_goals first | exact Go.keep [3, 4, 5, 6, 9, 10] (hrec2 _ _ rfl rfl) | (exfalso; clear hrec2; simp_all; done)
          · exact absurd (l1 rfl) h3
      · have h3 : ¬ (ts[i].table == s[m].name && ts[i].event == ev) = true := by simp [h1]
        cases C
        · repeat' first|(apply yA;exact rfl)|apply yB|apply yC|((first|apply yD|apply yE);(first|exact yF|assumption);iterate 6 exact rfl)|((first|apply yG|apply yH|apply yI);exact rfl;(first|exact yJ|exact yK rfl rfl|exact yL rfl|exact yM rfl|exact rfl|exact aL rfl rfl rfl rfl rfl|exact aS rfl rfl rfl rfl rfl rfl rfl|exact yX (enc := encTrigger) rfl rfl hz hlt rfl|exact yX (enc := encTable) rfl rfl hrm hm rfl))|((first|apply yN|apply yO|apply yP);exact rfl)|((first|apply yQ|apply yR|apply yS);(iterate 3 exact rfl);exact cc)|(exfalso;omega)|(((first|apply yT|apply yU|apply yV|apply yW);exact rfl;(first|exact .d|exact .e|exact .n|((fail_if_success exact bqt);(fail_if_success exact bqf);exact .b)))<;>intro _)
          all_goals first | exact Go.keep [3, 4, 5, 6, 9, 10] (hrec2 _ _ rfl rfl) | (exfalso; clear hrec2; simp_all; done)
        · exact absurd (l1 rfl) h3
  · repeat' first|(apply yA;exact rfl)|apply yB|apply yC|((first|apply yD|apply yE);(first|exact yF|assumption);iterate 6 exact rfl)|((first|apply yG|apply yH|apply yI);exact rfl;(first|exact yJ|exact yK rfl rfl|exact yL rfl|exact yM rfl|exact rfl|exact aL rfl rfl rfl rfl rfl|exact aS rfl rfl rfl rfl rfl rfl rfl))|((first|apply yN|apply yO|apply yP);exact rfl)|(exfalso;omega)|(((first|apply yT|apply yU|apply yV|apply yW);exact rfl;(first|exact .d|exact .e|exact .n|((fail_if_success exact bqt);(fail_if_success exact bqf);exact .b)))<;>intro _)
    exact .ret rfl (.bool rfl)
end Go.Proofs.YteafjabcpmpmgaaGreat.Am

/- The statement of the law FnFires: whatever its arguments are, it returns true, leaves what was there as it was, and ends. No condition. -/
namespace Go.Proofs.YteafjabcpmpmgaaGreat.fnFires
open Go.ChangeShapes Go.WideShapes Go.ChangeAt Go.RowKit Go.Proofs.YteafjabcpmpmgaaGreat.Am
open Go.ChangeMaps (open_string shut_string)
set_option linter.unusedVariables false
theorem own : ownKnob Tryz.prog.godebug = none := by kernel_rfl
theorem laidOut : laidOutB Tryz.prog = true := by kernel_rfl
set_option maxRecDepth 100000 in
theorem lifted (os : Os) (started : os.Started) (H : Type) (enc : TypeId × Value → H) :
    ReturnsInHanded {} Tryz.checked os 4 .any (Rows.fnFiresSpec.pre6 enc Tryz.prog Tryz.f4 Rows.fnFiresRow.domain false) (Rows.fnFiresSpec.post enc Tryz.prog Tryz.f4 false true false false) := by
  refine returnsInHanded_of_change_sized (C := Tryz.checked) own started (by kernel_rfl) Tryz.func4
    (ChangeSpec.witness6 (enc := enc) (C := Tryz.checked) false ⟨#[], #[.slice none 0 0], []⟩ 8 (by kernel_rfl) (by kernel_rfl) (by kernel_rfl) (by kernel_rfl)) ?_
  intro W base args ds gs before hval0 hW hcnd hsz0 _
  have hval : ∀ (j : Nat) t v, Tryz.f4.params[j]? = some t → args[j]? = some v → Value.okWide Tryz.prog W .any base t v := hval0
  have hW' := hW
  obtain ⟨p, q, hA0, hV, rfl, hfz, hnd⟩ := hW
  have hA : DataW.TrodAll enc Tryz.prog W 0 (fun _ => true) true Tryz.f4.params.toList args.toList ds p := hA0
  rw [Tryz.params4] at hA hval
  have hsz : (DataW.weightsEach Tryz.prog (Tryz.f4.params.toList ++ Rows.fnFiresSpec.plain.varTypes Tryz.prog) (ds ++ gs)).all (· ≤ reachBytes) = true := hsz0
  rw [Tryz.params4] at hsz
  obtain ⟨v0, vs0, d0, ds0, p0, q0, hargs, rfl, rfl, h0, r0⟩ := trodAll_cons hA
  obtain ⟨rfl, rfl, rfl⟩ := trodAll_nil r0
  obtain rfl : args = #[v0] := by cases args; simp_all
  obtain ⟨rfl, rfl⟩ := trodVars_none hV
  obtain ⟨a0, g0, e0⟩ := Opens.c openBs (cells_slice Tryz.underlying53 (hval 0 53 v0 rfl rfl)) h0 (fun n hn => of_decide_eq_true (List.all_eq_true.1 hsz _ (DataW.weights_mem_each (j := 0) (t := 53) rfl rfl n hn)))
  have k0 := h0
  have lt0 : ∀ x ∈ p0, x.block < W.heap.size := by obtain ⟨m, hm⟩ := k0; exact DataW.trod_lt m _ _ _ hm
  clear hA0 hval0 hsz0 hsz
  refine ((Fires_sound a0 ).calls (W := W) ⟨rfl, fun i hi => ?_⟩).mono fun e W' ⟨he, bel⟩ => ?_
  · match i, hi with
    | 0, _ => exact e0
  subst he
  exact ⟨_, rfl, _, _, _, [], _, [], hW', trodAll_mk1 (shut_bool Tryz.underlying4 _), (trodAll_cons_mk (Below.trod laidOut (by kernel_rfl) (of_decide_eq_true (by kernel_rfl)) k0 bel lt0) trodAll_mk0), rfl, bel.frame _, fun h => by cases h⟩
theorem spl {a b : Bool} (h : (a && b) = true) : a = true ∧ b = true := by cases a <;> cases b <;> simp_all
theorem and2 {a b : Bool} (h : a = true) (k : b = true) : (a && b) = true := by rw [h, k]; rfl
theorem facts0 : (Rows.fnFiresRow.wf (OpenSpec.ofChange Rows.fnFiresSpec) && laidOutB Tryz.pinned.checked.prog && mapsRowed Tryz.pinned.checked.prog && Tryz.f4.params.all (Tryz.pinned.checked.prog.readableRec ·) && namedTie Tryz.pinned.checked.prog Rows.fnFiresRow.named Rows.fnFiresSpec.vars && (Rows.fnFiresRow.stops == []) && (Tryz.pinned.checked.prog.stops == []) && (Rows.fnFiresRow.knobs == []) && (Tryz.pinned.checked.prog.stopKnobs == [])) = true := by kernel_rfl
theorem facts1 : ((Rows.fnFiresRow.inPlace == Tryz.pinned.checked.prog.inPlace 4) && (Rows.fnFiresRow.unfollowed == Tryz.pinned.checked.prog.unfollowed 4) && (Rows.fnFiresRow.recurses == Tryz.pinned.checked.prog.recurses 4) && (Rows.fnFiresRow.named == Tryz.pinned.checked.prog.varsNamed 4)) = true := by kernel_rfl
theorem facts2 : ((Rows.fnFiresRow.maps == (Tryz.f4.params.toList ++ Rows.fnFiresSpec.plain.varTypes Tryz.pinned.checked.prog).any (Tryz.pinned.checked.prog.mapsRec ·)) && (Rows.fnFiresRow.ifaces == (Tryz.f4.params.toList ++ Rows.fnFiresSpec.plain.varTypes Tryz.pinned.checked.prog).any (Tryz.pinned.checked.prog.ifacesRec ·)) && (Rows.fnFiresRow.mapsOut == Tryz.pinned.checked.prog.mapsAmong Tryz.f4.resultTypes.toList) && (Rows.fnFiresRow.loops == (Tryz.f4.params.toList ++ Rows.fnFiresSpec.plain.varTypes Tryz.pinned.checked.prog).any (Tryz.pinned.checked.prog.loopsFrom ·)) && (Rows.fnFiresRow.wideKeys == (Tryz.f4.params.toList ++ Rows.fnFiresSpec.plain.varTypes Tryz.pinned.checked.prog ++ Tryz.f4.resultTypes.toList).any (Tryz.pinned.checked.prog.wideKeysFrom ·)) && Rows.fnFiresSpec.vars.all (Tryz.pinned.checked.prog.varReadable ·)) = true := by kernel_rfl
theorem facts3 : (Tryz.f4.resultTypes.all (fun t => Tryz.pinned.checked.prog.readableRec t && decide (t < Tryz.pinned.checked.prog.types.size)) && (Rows.fnFiresRow.ifacesOut == Tryz.f4.resultTypes.toList.any (Tryz.pinned.checked.prog.ifacesRec ·)) && (Rows.fnFiresRow.loopsOut == Tryz.f4.resultTypes.toList.any (Tryz.pinned.checked.prog.loopsFrom ·)) && (Rows.fnFiresRow.plainKeys == Tryz.pinned.checked.prog.plainKeys) && Rows.fnFiresRow.shortTexts.isNone && (Tryz.pinned.checked.prog.make == some Rows.fnFiresRow.make) && (Rows.fnFiresRow.kinds == (if Rows.fnFiresRow.domain.isEmpty then [] else Tryz.f4.params.toList.map fun t => match Tryz.pinned.checked.prog.underlying t with | some (.int k) => some k | _ => none)) && (Rows.fnFiresRow.pinned == Rows.fnFiresRow.pinnedBy) && (Rows.fnFiresRow.veiled == (Tryz.f4.params.toList ++ Rows.fnFiresSpec.plain.varTypes Tryz.pinned.checked.prog ++ Tryz.f4.resultTypes.toList).any (Tryz.pinned.checked.prog.veiledRec ·)) && Rows.fnFiresRow.veiledFits Tryz.pinned.checked.prog Tryz.f4.params.toList (Tryz.f4.params.toList ++ Rows.fnFiresSpec.plain.varTypes Tryz.pinned.checked.prog ++ Tryz.f4.resultTypes.toList)) = true := by kernel_rfl
theorem facts4 : (Tryz.pinned.checked.prog.stopsHeard && Tryz.pinned.checked.prog.mayEnter && (Rows.fnFiresRow.lifted == Tryz.pinned.checked.prog.liftsFinal)) = true := by kernel_rfl
set_option maxRecDepth 100000 in
theorem closed : joinedFacts Tryz.pinned.checked.prog 4 Tryz.f4 Rows.fnFiresSpec Rows.fnFiresRow = true := by
  have g := facts0
  obtain ⟨g, p8⟩ := spl g
  obtain ⟨g, p7⟩ := spl g
  obtain ⟨g, p6⟩ := spl g
  obtain ⟨g, p5⟩ := spl g
  obtain ⟨g, p4⟩ := spl g
  obtain ⟨g, p3⟩ := spl g
  obtain ⟨g, p2⟩ := spl g
  obtain ⟨g, p1⟩ := spl g
  have p0 := g
  have g := facts1
  obtain ⟨g, p12⟩ := spl g
  obtain ⟨g, p11⟩ := spl g
  obtain ⟨g, p10⟩ := spl g
  have p9 := g
  have g := facts2
  obtain ⟨g, p18⟩ := spl g
  obtain ⟨g, p17⟩ := spl g
  obtain ⟨g, p16⟩ := spl g
  obtain ⟨g, p15⟩ := spl g
  obtain ⟨g, p14⟩ := spl g
  have p13 := g
  have g := facts3
  obtain ⟨g, p31⟩ := spl g
  obtain ⟨g, p30⟩ := spl g
  obtain ⟨g, p29⟩ := spl g
  obtain ⟨g, p28⟩ := spl g
  obtain ⟨g, p27⟩ := spl g
  obtain ⟨g, p23⟩ := spl g
  obtain ⟨g, p22⟩ := spl g
  obtain ⟨g, p21⟩ := spl g
  obtain ⟨g, p20⟩ := spl g
  have p19 := g
  have g := facts4
  obtain ⟨g, p26⟩ := spl g
  obtain ⟨g, p25⟩ := spl g
  have p24 := g
  exact (and2 (and2 (and2 (and2 (and2 (and2 (and2 (and2 (and2 (and2 (and2 (and2 (and2 (and2 (and2 (and2 (and2 (and2 (and2 (and2 (and2 (and2 (and2 (and2 (and2 (and2 (and2 (and2 (and2 (and2 (and2 p0 p1) p2) p3) p4) p5) p6) p7) p8) p9) p10) p11) p12) p13) p14) p15) p16) p17) p18) p19) p20) p21) p22) p23) p24) p25) p26) p27) p28) p29) p30) p31)
theorem over : Rows.fnFiresRow.holds Tryz.pinned (OpenSpec.ofChange Rows.fnFiresSpec) :=
  OpenClaim.holds_of_wide 4 Tryz.f4 rfl rfl rfl rfl rfl rfl rfl ⟨rfl, rfl, rfl, rfl, rfl⟩ rfl rfl rfl rfl rfl (by kernel_rfl) Tryz.func4 closed
    (of_decide_eq_true (by kernel_rfl)) (by unfold Func.isWrapper; first | (rw [if_pos (by decide +kernel)]; kernel_rfl) | (rw [if_neg (by decide +kernel)]; exact ⟨rfl, rfl⟩))
    (fun os started H enc _ => lifted os started H enc)
theorem proved : Rows.FnFiresSaid := over
end Go.Proofs.YteafjabcpmpmgaaGreat.fnFires
namespace Go.Proofs.YteafjabcpmpmgaaGreat
/-- The row, under a short name, for the claim. -/
theorem fnFires_holds : Rows.FnFiresSaid := fnFires.proved
#print axioms fnFires_holds
end Go.Proofs.YteafjabcpmpmgaaGreat
