/- The statement of the law FnRange: whatever its arguments are, it returns true, leaves what was there as it was, and ends. No condition. -/
import Derived.Test.YteafjabcpmpmgaaRows
import Derived.WalkKit
import Derived.ProofKit
import Derived.OpenShut
import Derived.ShutString
import Derived.ChangeOld
import Derived.Below
import Derived.SizedLaws
import Derived.Test.YteafjabcpmpmgaaU1
import Derived.Test.YteafjabcpmpmgaaU2
import Derived.Test.YteafjabcpmpmgaaU3
import Derived.Test.YteafjabcpmpmgaaU4
import Derived.Test.YteafjabcpmpmgaaU5
/- What the laws' functions share. -/
set_option linter.unusedVariables false
set_option linter.unusedSimpArgs false
namespace Go.Proofs.Yteafjabcpmpmgaa.Am

theorem big_ok (code : List UInt8) : Pure Try.prog 4 [.c (.fz (code.map encB))] (.c (.bool (decide (1048576 < (code.length : Int))))) := by
  refine Pure.run mixed c_laws_big_ok (Nat.le_of_ble_eq_true rfl) fun σ hS hA => ?_
  clear hS hA
  repeat' first|(apply yA;exact rfl)|apply yB|apply yC|((first|apply yD|apply yE);(first|exact yF|assumption);iterate 6 exact rfl)|((first|apply yG|apply yH|apply yI);exact rfl;(first|exact yJ|exact yK rfl rfl|exact yL rfl|exact yM rfl|exact rfl|exact aL rfl rfl rfl rfl rfl|exact aS rfl rfl rfl rfl rfl rfl rfl))|((first|apply yN|apply yO|apply yP);exact rfl)|(exfalso;omega)|(((first|apply yT|apply yU|apply yV|apply yW);exact rfl;(first|exact .d|exact .e|exact .n|((fail_if_success exact bqt);(fail_if_success exact bqf);exact .b)))<;>intro _)
  exact .ret rfl (.bool rfl)
theorem sameInts_ok (a b : List Int) (ha : a.length ≤ 34359738368) (hb : b.length ≤ 34359738368) : Pure Try.prog 7 [.c (.fz (a.map encI)), .c (.fz (b.map encI))] (.c (.bool (decide (a = b)))) := by
  refine Pure.run mixed c_laws_sameInts_ok (Nat.le_of_ble_eq_true rfl) fun σ hS hA => ?_
  clear hS hA
  by_cases hl : a.length = b.length
  · have hl2 : (a.length : Int) = b.length := by omega
    repeat' first|(apply yA;exact rfl)|apply yB|apply yC|((first|apply yD|apply yE);(first|exact yF|assumption);iterate 6 exact rfl)|((first|apply yG|apply yH|apply yI);exact rfl;(first|exact yJ|exact yK rfl rfl|exact yL rfl|exact yM rfl|exact rfl|exact aL rfl rfl rfl rfl rfl|exact aS rfl rfl rfl rfl rfl rfl rfl))|((first|apply yN|apply yO|apply yP);exact rfl)|(exfalso;omega)|(((first|apply yT|apply yU|apply yV|apply yW);exact rfl;(first|exact .d|exact .e|exact .n|((fail_if_success exact bqt);(fail_if_success exact bqf);exact .b)))<;>intro _)
    refine Go.keep [0, 1, 5] (Go.loops (I := fun m fr τ => ∃ (i : Nat) (k : Int), m = a.length - i ∧ i ≤ a.length ∧ k = i ∧ (∀ j (h1 : j < a.length) (h2 : j < b.length), j < i → a[j] = b[j]) ∧
      fr = [(0, .c (.fz (a.map encI))), (1, .c (.fz (b.map encI))), (5, .c (.int .i64 k))] ∧ τ = E σ []) ?_ _ _ _ ⟨0, _, rfl, Nat.zero_le _, rfl, fun j _ _ h => by omega, rfl, rfl⟩)
    rintro m fr τ ⟨i, k, rfl, hi, hk, hs, rfl, rfl⟩ hrec
    by_cases hlt : i < a.length
    · have hlt2 : i < b.length := by omega
      by_cases he : a[i] = b[i]
      · repeat' first|(apply yA;exact rfl)|apply yB|apply yC|((first|apply yD|apply yE);(first|exact yF|assumption);iterate 6 exact rfl)|((first|apply yG|apply yH|apply yI);exact rfl;(first|exact yJ|exact yK rfl rfl|exact yL rfl|exact yM rfl|exact rfl|exact aL rfl rfl rfl rfl rfl|exact aS rfl rfl rfl rfl rfl rfl rfl|exact yX (enc := encI) rfl rfl hk hlt rfl|exact yX (enc := encI) rfl rfl hk hlt2 rfl))|((first|apply yN|apply yO|apply yP);exact rfl)|(exfalso;omega)|(((first|apply yT|apply yU|apply yV|apply yW);exact rfl;(first|exact .d|exact .e|exact .n|((fail_if_success exact bqt);(fail_if_success exact bqf);exact .b)))<;>intro _)
        exact Go.keep [0, 1, 5] (hrec _ _ _ (by omega) ⟨i + 1, _, rfl, hlt, wrap_succ hk (by omega), fun j h1 h2 h3 => by
          by_cases e : j = i
          · subst e; exact he
          · exact hs j h1 h2 (by omega), rfl, rfl⟩)
      · repeat' first|(apply yA;exact rfl)|apply yB|apply yC|((first|apply yD|apply yE);(first|exact yF|assumption);iterate 6 exact rfl)|((first|apply yG|apply yH|apply yI);exact rfl;(first|exact yJ|exact yK rfl rfl|exact yL rfl|exact yM rfl|exact rfl|exact aL rfl rfl rfl rfl rfl|exact aS rfl rfl rfl rfl rfl rfl rfl|exact yX (enc := encI) rfl rfl hk hlt rfl|exact yX (enc := encI) rfl rfl hk hlt2 rfl))|((first|apply yN|apply yO|apply yP);exact rfl)|(exfalso;omega)|(((first|apply yT|apply yU|apply yV|apply yW);exact rfl;(first|exact .d|exact .e|exact .n|((fail_if_success exact bqt);(fail_if_success exact bqf);exact .b)))<;>intro _)
        refine .ret rfl (.bool (decide_eq_false fun e => he (by subst e; rfl)).symm)
    · repeat' first|(apply yA;exact rfl)|apply yB|apply yC|((first|apply yD|apply yE);(first|exact yF|assumption);iterate 6 exact rfl)|((first|apply yG|apply yH|apply yI);exact rfl;(first|exact yJ|exact yK rfl rfl|exact yL rfl|exact yM rfl|exact rfl|exact aL rfl rfl rfl rfl rfl|exact aS rfl rfl rfl rfl rfl rfl rfl))|((first|apply yN|apply yO|apply yP);exact rfl)|(exfalso;omega)|(((first|apply yT|apply yU|apply yV|apply yW);exact rfl;(first|exact .d|exact .e|exact .n|((fail_if_success exact bqt);(fail_if_success exact bqf);exact .b)))<;>intro _)
      exact .ret rfl (.bool (decide_eq_true (List.ext_getElem hl fun j h1 h2 => hs j h1 h2 (by omega))).symm)
  · have hl2 : ¬ (a.length : Int) = b.length := by omega
    repeat' first|(apply yA;exact rfl)|apply yB|apply yC|((first|apply yD|apply yE);(first|exact yF|assumption);iterate 6 exact rfl)|((first|apply yG|apply yH|apply yI);exact rfl;(first|exact yJ|exact yK rfl rfl|exact yL rfl|exact yM rfl|exact rfl|exact aL rfl rfl rfl rfl rfl|exact aS rfl rfl rfl rfl rfl rfl rfl))|((first|apply yN|apply yO|apply yP);exact rfl)|(exfalso;omega)|(((first|apply yT|apply yU|apply yV|apply yW);exact rfl;(first|exact .d|exact .e|exact .n|((fail_if_success exact bqt);(fail_if_success exact bqf);exact .b)))<;>intro _)
    exact .ret rfl (.bool (decide_eq_false fun e => hl (by rw [e])).symm)
end Go.Proofs.Yteafjabcpmpmgaa.Am

/- The law FnRange: its function returns true. -/
set_option linter.unusedVariables false
set_option linter.unusedSimpArgs false
namespace Go.Proofs.Yteafjabcpmpmgaa.Am

def orderF (a b : Val) : Int := if okVal a && okVal b then order a b else 0
theorem OrderI_ok (a b : Val) : Pure Try.prog 9 [.agg (encV a), .agg (encV b)] (.c (.int .i64 (orderF a b))) := by
  refine Pure.run mixed c_impl_Order_ok (Nat.le_of_ble_eq_true rfl) fun σ hS hA => ?_
  clear hS hA
  have c1 := ValOk_ok a
  have c2 := ValOk_ok b
  rw [orderF]
  cases h1 : okVal a
  · rw [h1] at c1
    repeat' first|(apply yA;exact rfl)|apply yB|apply yC|((first|apply yD|apply yE);(first|exact yF|assumption);iterate 6 exact rfl)|((first|apply yG|apply yH|apply yI);exact rfl;(first|exact yJ|exact yK rfl rfl|exact yL rfl|exact yM rfl|exact rfl|exact aL rfl rfl rfl rfl rfl|exact aS rfl rfl rfl rfl rfl rfl rfl))|((first|apply yN|apply yO|apply yP);exact rfl)|((first|apply yQ|apply yR|apply yS);(iterate 3 exact rfl);exact c1)|(exfalso;omega)|(((first|apply yT|apply yU|apply yV|apply yW);exact rfl;(first|exact .d|exact .e|exact .n|((fail_if_success exact bqt);(fail_if_success exact bqf);exact .b)))<;>intro _)
    exact .ret rfl (.int rfl)
  rw [h1] at c1
  cases h2 : okVal b
  · rw [h2] at c2
    repeat' first|(apply yA;exact rfl)|apply yB|apply yC|((first|apply yD|apply yE);(first|exact yF|assumption);iterate 6 exact rfl)|((first|apply yG|apply yH|apply yI);exact rfl;(first|exact yJ|exact yK rfl rfl|exact yL rfl|exact yM rfl|exact rfl|exact aL rfl rfl rfl rfl rfl|exact aS rfl rfl rfl rfl rfl rfl rfl))|((first|apply yN|apply yO|apply yP);exact rfl)|((first|apply yQ|apply yR|apply yS);(iterate 3 exact rfl);(first|exact c1|exact c2))|(exfalso;omega)|(((first|apply yT|apply yU|apply yV|apply yW);exact rfl;(first|exact .d|exact .e|exact .n|((fail_if_success exact bqt);(fail_if_success exact bqf);exact .b)))<;>intro _)
    exact .ret rfl (.int rfl)
  rw [h2] at c2
  repeat' first|(apply yA;exact rfl)|apply yB|apply yC|((first|apply yD|apply yE);(first|exact yF|assumption);iterate 6 exact rfl)|((first|apply yG|apply yH|apply yI);exact rfl;(first|exact yJ|exact yK rfl rfl|exact yL rfl|exact yM rfl|exact rfl|exact aL rfl rfl rfl rfl rfl|exact aS rfl rfl rfl rfl rfl rfl rfl))|((first|apply yN|apply yO|apply yP);exact rfl)|((first|apply yQ|apply yR|apply yS);(iterate 3 exact rfl);(first|exact c1|exact c2|exact order_ok a b))|(exfalso;omega)|(((first|apply yT|apply yU|apply yV|apply yW);exact rfl;(first|exact .d|exact .e|exact .n|((fail_if_success exact bqt);(fail_if_success exact bqf);exact .b)))<;>intro _)
  exact .ret rfl (.int rfl)
/-- What the law holds to be between the bounds. -/
def inF (lo up : Val) (e : Entry) : Bool := decide (orderF lo (key0 e) ≤ 0) && decide (orderF (key0 e) up ≤ 0)
theorem range_in {l : List Entry} {lo up : Val} (h : (okEnts l && okVal lo && okVal up) = true) {e : Entry} (he : e ∈ l) : within lo up e = inF lo up e := by
  simp only [Bool.and_eq_true] at h
  obtain ⟨⟨h1, h2⟩, h3⟩ := h
  obtain ⟨k1, k2⟩ := okEnts_key h1 e he
  have hk : okVal (key0 e) = true := by
    rw [key0_eq k1]
    rw [areVals, Bool.and_eq_true, List.all_eq_true] at k2
    exact k2.2 _ (List.getElem_mem k1)
  rw [within, inF, orderF, orderF, h2, h3, hk]
  simp only [Bool.and_self, if_true]
  congr 1
  exact decide_eq_decide.2 (order_flip _ _)
/-- What Range tells, and what the law counts. -/
theorem range_pick (l : List Entry) (lo up : Val) : ∃ w : Entry → Bool, rangeF l lo up = (l.filter w).map Entry.id ∧ (rangeF l lo up = [] ∨ ∀ e ∈ l, w e = inF lo up e) := by
  by_cases h : (okEnts l && okVal lo && okVal up) = true
  · exact ⟨within lo up, by rw [rangeF, if_pos h], .inr fun e he => range_in h he⟩
  · have h0 : rangeF l lo up = [] := by rw [rangeF, if_neg h]
    exact ⟨fun _ => false, by rw [h0]; simp, .inl h0⟩
theorem frz_ptrE {σ : Store} {l : List (Nat × List (List Ce))} {k v N : Nat} {e : List Ce} (hl : l[k]? = some (v, [e])) (ho : ∀ x ∈ e, Old N x) (hN : N ≤ σ.next + k) : FrzV (E σ l) N (.c (.ptr (σ.next + k) v 0 0)) (.c (.fp e)) :=
  .c (.ptr _ _ _ _ [e] e e hN (E_get hl) rfl rfl fun j hj => by
    simp only [Nat.zero_add]
    exact .same _ (ho _ (List.getElem_mem hj)))
set_option maxHeartbeats 4000000 in
theorem Range_sound (code : List UInt8) : Pure Try.prog 3 [.c (.fz (code.map encB))] (.c (.bool true)) := by
  refine Pure.run mixed c_laws_FnRange_ok (Nat.le_of_ble_eq_true rfl) fun σ hS hA => ?_
  clear hA
  have cb := big_ok code
  by_cases hc : 1048576 < (code.length : Int)
  · rw [decide_eq_true hc] at cb
    repeat' first|(apply yA;exact rfl)|apply yB|apply yC|((first|apply yD|apply yE);(first|exact yF|assumption);iterate 6 exact rfl)|((first|apply yG|apply yH|apply yI);exact rfl;(first|exact yJ|exact yK rfl rfl|exact yL rfl|exact yM rfl|exact rfl|exact aL rfl rfl rfl rfl rfl|exact aS rfl rfl rfl rfl rfl rfl rfl))|((first|apply yN|apply yO|apply yP);exact rfl)|((first|apply yQ|apply yR|apply yS);(iterate 3 exact rfl);exact cb)|(exfalso;omega)|(((first|apply yT|apply yU|apply yV|apply yW);exact rfl;(first|exact .d|exact .e|exact .n|((fail_if_success exact bqt);(fail_if_success exact bqf);exact .b)))<;>intro _)
    exact .ret rfl (.bool rfl)
  rw [decide_eq_false hc] at cb
  repeat' first|(apply yA;exact rfl)|apply yB|apply yC|((first|apply yD|apply yE);(first|exact yF|assumption);iterate 6 exact rfl)|((first|apply yG|apply yH|apply yI);exact rfl;(first|exact yJ|exact yK rfl rfl|exact yL rfl|exact yM rfl|exact rfl|exact aL rfl rfl rfl rfl rfl|exact aS rfl rfl rfl rfl rfl rfl rfl))|((first|apply yN|apply yO|apply yP);exact rfl)|((first|apply yQ|apply yR|apply yS);(iterate 3 exact rfl);exact cb)|(exfalso;omega)|(((first|apply yT|apply yU|apply yV|apply yW);exact rfl;(first|exact .d|exact .e|exact .n|((fail_if_success exact bqt);(fail_if_success exact bqf);exact .b)))<;>intro _)
  refine Go.told rfl rfl rfl (DrawRange_ok code (by omega)) ?_
  rintro _ ⟨l, lo, up, hl, hk, rfl⟩
  repeat' first|(apply yA;exact rfl)|apply yB|apply yC|((first|apply yG|apply yH|apply yI);exact rfl;(first|exact yJ|exact yK rfl rfl|exact yL rfl|exact yM rfl|exact rfl|exact aL rfl rfl rfl rfl rfl|exact aS rfl rfl rfl rfl rfl rfl rfl))|((first|apply yN|apply yO|apply yP);exact rfl)|(exfalso;omega)|(((first|apply yT|apply yU|apply yV|apply yW);exact rfl;(first|exact .d|exact .e|exact .n|((fail_if_success exact bqt);(fail_if_success exact bqf);exact .b)))<;>intro _)
  refine Go.keep [3, 4, 5, 18, 19, 20] ?_
  refine Go.freezeN (l := []) (m := [(0, [encV lo]), (0, [encV up])]) (fr' := [(3, .c (.fz (l.map encE))), (4, .c (.fp (encV lo))), (5, .c (.fp (encV up))), (18, .c (.fz (l.map encE))), (19, .agg (encV lo)), (20, .agg (encV up))]) hS (fun b hb => by cases hb) (Nat.le_refl _)
    (.frz rfl (.refl fun y hy => by rw [List.mem_singleton.1 hy]; exact old_fz1 (oldEnts _)) (.frz rfl (frz_ptrE (k := 0) (v := 0) rfl (fun x hx => (encV_flat lo x hx).old _) (Nat.le_refl _)) (.frz rfl (frz_ptrE (k := 1) (v := 0) rfl (fun x hx => (encV_flat up x hx).old _) (Nat.le_succ _)) (.frz rfl (.refl fun y hy => by rw [List.mem_singleton.1 hy]; exact old_fz1 (oldEnts _)) (.frz rfl (.refl (old_v lo)) (.frz rfl (.refl (old_v up)) .nil)))))) ?_
  have hkl : ∀ e ∈ l, e.key.length ≤ 34359738368 := fun e he => by rw [hk e he]; decide
  have c1 := New.pure (Makes.new flatIs (Range_ok l lo up (by omega) hkl))
  have cS := New.pure (Makes.new flatIs (sRange_ok l lo up (by omega) hkl))
  obtain ⟨w, hw, hwi⟩ := range_pick l lo up
  have hG60 : (rangeF l lo up).length ≤ 60 := by
    rw [hw, List.length_map]
    exact Nat.le_trans (List.length_filter_le _ _) hl
  generalize rangeF l lo up = G at *
  have cs := sameInts_ok G G (by omega) (by omega)
  rw [decide_eq_true rfl] at cs
  repeat' first|(apply yA;exact rfl)|apply yB|apply yC|((first|apply yD|apply yE);(first|exact yF|assumption);iterate 6 exact rfl)|((first|apply yG|apply yH|apply yI);exact rfl;(first|exact yJ|exact yK rfl rfl|exact yL rfl|exact yM rfl|exact rfl|exact aL rfl rfl rfl rfl rfl|exact aS rfl rfl rfl rfl rfl rfl rfl))|((first|apply yN|apply yO|apply yP);exact rfl)|((first|apply yQ|apply yR|apply yS);(iterate 3 exact rfl);(first|exact c1|exact cS|exact cs))|(exfalso;omega)|(((first|apply yT|apply yU|apply yV|apply yW);exact rfl;(first|exact .d|exact .e|exact .n|((fail_if_success exact bqt);(fail_if_success exact bqf);exact .b)))<;>intro _)
  refine Go.keep [3, 4, 5, 6, 7, 8] (Go.loops (I := fun m fr τ => ∃ (i n : Nat) (z zn : Int), m = l.length - i ∧ i ≤ l.length ∧ z = i ∧ zn = n ∧ (n = ((l.take i).filter w).length) ∧
    fr = [(3, .c (.fz (l.map encE))), (4, .c (.fp (encV lo))), (5, .c (.fp (encV up))), (6, .c (.fz (G.map encI))), (7, .c (.int .i64 zn)), (8, .c (.int .i64 z))] ∧ τ = E σ []) ?_ _ _ _ ⟨0, 0, _, _, rfl, Nat.zero_le _, rfl, rfl, rfl, rfl, rfl⟩)
  rintro m fr τ ⟨i, n, z, zn, rfl, hi, hz, hzn, hn, rfl, rfl⟩ hrec
  have hGn : G.length = n + ((l.drop i).filter w).length := by
    have := congrArg List.length hw
    rw [List.length_map] at this
    rw [this, hn, ← List.length_append, ← List.filter_append, List.take_append_drop]
  by_cases hlt : i < l.length
  · have h1k := hk _ (List.getElem_mem hlt)
    have hz0 : (0 : Int) = ((0 : Nat) : Int) := rfl
    have h0k : 0 < l[i].key.length := by omega
    have cA := OrderI_ok lo l[i].key[0]
    have cB := OrderI_ok l[i].key[0] up
    have hin : inF lo up l[i] = (decide (orderF lo l[i].key[0] ≤ 0) && decide (orderF l[i].key[0] up ≤ 0)) := by rw [inF, key0_eq h0k]
    have htk : (l.take (i + 1)).filter w = (l.take i).filter w ++ (if w l[i] = true then [l[i]] else []) := by
      rw [List.take_succ_eq_append_getElem hlt, List.filter_append, List.filter_cons]
      split <;> rfl
    have hat : w l[i] = true → ∃ h : n < G.length, G[n] = l[i].id := fun hwt => by
      have e : G = ((l.take i).filter w).map Entry.id ++ (l[i].id :: ((l.drop (i + 1)).filter w).map Entry.id) := by
        rw [hw]
        conv => lhs; rw [← List.take_append_drop i l, List.drop_eq_getElem_cons hlt]
        rw [List.filter_append, List.filter_cons, if_pos hwt, List.map_append, List.map_cons]
      have hnl : n = (((l.take i).filter w).map Entry.id).length := by rw [List.length_map]; exact hn
      have hG1 : G.length = n + (1 + ((l.drop (i + 1)).filter w).length) := by
        rw [e, List.length_append, ← hnl, List.length_cons, List.length_map]
        omega
      have hnG : n < G.length := by omega
      refine ⟨hnG, ?_⟩
      rw [List.getElem_of_eq e, List.getElem_append_right (by rw [← hnl]; exact Nat.le_refl _)]
      simp [hnl]
    have hno : G = [] ∨ w l[i] = inF lo up l[i] := hwi.imp id fun h => h _ (List.getElem_mem hlt)
    generalize orderF lo l[i].key[0] = A at cA hin
    generalize orderF l[i].key[0] up = B at cB hin
    rw [hin] at hno
    cases hwt : w l[i]
    · rw [hwt, if_neg (by decide), List.append_nil] at htk
      rw [hwt] at hno
      have step : ∀ fr τ, fr = [(3, AV.c (.fz (l.map encE))), (4, .c (.fp (encV lo))), (5, .c (.fp (encV up))), (6, .c (.fz (G.map encI))), (7, .c (.int .i64 zn)), (8, .c (.int .i64 (IntKind.i64.wrap (z + 1))))] → τ = E σ [] → _ := fun fr τ h1 h2 => hrec _ fr τ (by omega) ⟨i + 1, n, _, _, rfl, hlt, wrap_succ hz (by omega), hzn, by rw [htk]; exact hn, h1, h2⟩
      clear hrec hat
      rcases hno with rfl | hno
      · have hn0 : n = 0 := by rw [List.length_nil] at hGn; omega
        have hl0 : (([] : List Int).length : Int) = 0 := rfl
        have hl1 : (([] : List (List Ce)).length : Int) = 0 := rfl
        by_cases hA : A ≤ 0
        · by_cases hB : B ≤ 0
          · repeat' first|(apply yA;exact rfl)|apply yB|apply yC|((first|apply yD|apply yE);(first|exact yF|assumption);iterate 6 exact rfl)|((first|apply yG|apply yH|apply yI);exact rfl;(first|exact yJ|exact yK rfl rfl|exact yL rfl|exact yM rfl|exact rfl|exact aL rfl rfl rfl rfl rfl|exact aS rfl rfl rfl rfl rfl rfl rfl|exact yX (enc := encE) rfl rfl hz hlt rfl|exact yX (enc := encV) rfl rfl hz0 h0k rfl))|((first|apply yN|apply yO|apply yP);exact rfl)|((first|apply yQ|apply yR|apply yS);(iterate 3 exact rfl);(first|exact cA|exact cB))|(exfalso;omega)|(((first|apply yT|apply yU|apply yV|apply yW);exact rfl;(first|exact .d|exact .e|exact .n|((fail_if_success exact bqt);(fail_if_success exact bqf);exact .b)))<;>intro _)
            all_goals exact Go.keep [3, 4, 5, 6, 7, 8] (step _ _ rfl rfl)
          · repeat' first|(apply yA;exact rfl)|apply yB|apply yC|((first|apply yD|apply yE);(first|exact yF|assumption);iterate 6 exact rfl)|((first|apply yG|apply yH|apply yI);exact rfl;(first|exact yJ|exact yK rfl rfl|exact yL rfl|exact yM rfl|exact rfl|exact aL rfl rfl rfl rfl rfl|exact aS rfl rfl rfl rfl rfl rfl rfl|exact yX (enc := encE) rfl rfl hz hlt rfl|exact yX (enc := encV) rfl rfl hz0 h0k rfl))|((first|apply yN|apply yO|apply yP);exact rfl)|((first|apply yQ|apply yR|apply yS);(iterate 3 exact rfl);(first|exact cA|exact cB))|(exfalso;omega)|(((first|apply yT|apply yU|apply yV|apply yW);exact rfl;(first|exact .d|exact .e|exact .n|((fail_if_success exact bqt);(fail_if_success exact bqf);exact .b)))<;>intro _)
            all_goals exact Go.keep [3, 4, 5, 6, 7, 8] (step _ _ rfl rfl)
        · repeat' first|(apply yA;exact rfl)|apply yB|apply yC|((first|apply yD|apply yE);(first|exact yF|assumption);iterate 6 exact rfl)|((first|apply yG|apply yH|apply yI);exact rfl;(first|exact yJ|exact yK rfl rfl|exact yL rfl|exact yM rfl|exact rfl|exact aL rfl rfl rfl rfl rfl|exact aS rfl rfl rfl rfl rfl rfl rfl|exact yX (enc := encE) rfl rfl hz hlt rfl|exact yX (enc := encV) rfl rfl hz0 h0k rfl))|((first|apply yN|apply yO|apply yP);exact rfl)|((first|apply yQ|apply yR|apply yS);(iterate 3 exact rfl);(first|exact cA|exact cB))|(exfalso;omega)|(((first|apply yT|apply yU|apply yV|apply yW);exact rfl;(first|exact .d|exact .e|exact .n|((fail_if_success exact bqt);(fail_if_success exact bqf);exact .b)))<;>intro _)
          all_goals exact Go.keep [3, 4, 5, 6, 7, 8] (step _ _ rfl rfl)
      · by_cases hA : A ≤ 0
        · have hB : ¬ B ≤ 0 := fun h => by rw [decide_eq_true hA, decide_eq_true h] at hno; cases hno
          repeat' first|(apply yA;exact rfl)|apply yB|apply yC|((first|apply yD|apply yE);(first|exact yF|assumption);iterate 6 exact rfl)|((first|apply yG|apply yH|apply yI);exact rfl;(first|exact yJ|exact yK rfl rfl|exact yL rfl|exact yM rfl|exact rfl|exact aL rfl rfl rfl rfl rfl|exact aS rfl rfl rfl rfl rfl rfl rfl|exact yX (enc := encE) rfl rfl hz hlt rfl|exact yX (enc := encV) rfl rfl hz0 h0k rfl))|((first|apply yN|apply yO|apply yP);exact rfl)|((first|apply yQ|apply yR|apply yS);(iterate 3 exact rfl);(first|exact cA|exact cB))|(exfalso;omega)|(((first|apply yT|apply yU|apply yV|apply yW);exact rfl;(first|exact .d|exact .e|exact .n|((fail_if_success exact bqt);(fail_if_success exact bqf);exact .b)))<;>intro _)
          all_goals exact Go.keep [3, 4, 5, 6, 7, 8] (step _ _ rfl rfl)
        · repeat' first|(apply yA;exact rfl)|apply yB|apply yC|((first|apply yD|apply yE);(first|exact yF|assumption);iterate 6 exact rfl)|((first|apply yG|apply yH|apply yI);exact rfl;(first|exact yJ|exact yK rfl rfl|exact yL rfl|exact yM rfl|exact rfl|exact aL rfl rfl rfl rfl rfl|exact aS rfl rfl rfl rfl rfl rfl rfl|exact yX (enc := encE) rfl rfl hz hlt rfl|exact yX (enc := encV) rfl rfl hz0 h0k rfl))|((first|apply yN|apply yO|apply yP);exact rfl)|((first|apply yQ|apply yR|apply yS);(iterate 3 exact rfl);(first|exact cA|exact cB))|(exfalso;omega)|(((first|apply yT|apply yU|apply yV|apply yW);exact rfl;(first|exact .d|exact .e|exact .n|((fail_if_success exact bqt);(fail_if_success exact bqf);exact .b)))<;>intro _)
          all_goals exact Go.keep [3, 4, 5, 6, 7, 8] (step _ _ rfl rfl)
    · obtain ⟨hgl, hge⟩ := hat hwt
      rw [hwt, if_pos rfl] at htk
      rw [hwt] at hno
      have hno2 := hno.resolve_left fun h => by rw [h] at hgl; simp at hgl
      have hAB : A ≤ 0 ∧ B ≤ 0 := by simpa using hno2.symm
      obtain ⟨hA, hB⟩ := hAB
      repeat' first|(apply yA;exact rfl)|apply yB|apply yC|((first|apply yD|apply yE);(first|exact yF|assumption);iterate 6 exact rfl)|((first|apply yG|apply yH|apply yI);exact rfl;(first|exact yJ|exact yK rfl rfl|exact yL rfl|exact yM rfl|exact rfl|exact aL rfl rfl rfl rfl rfl|exact aS rfl rfl rfl rfl rfl rfl rfl|exact yX (enc := encE) rfl rfl hz hlt rfl|exact yX (enc := encV) rfl rfl hz0 h0k rfl|exact yX (enc := encI) rfl rfl hzn hgl rfl))|((first|apply yN|apply yO|apply yP);exact rfl)|((first|apply yQ|apply yR|apply yS);(iterate 3 exact rfl);(first|exact cA|exact cB))|(exfalso;omega)|(((first|apply yT|apply yU|apply yV|apply yW);exact rfl;(first|exact .d|exact .e|exact .n|((fail_if_success exact bqt);(fail_if_success exact bqf);exact .b)))<;>intro _)
      exact Go.keep [3, 4, 5, 6, 7, 8] (hrec _ _ _ (by omega) ⟨i + 1, n + 1, _, _, rfl, hlt, wrap_succ hz (by omega), wrap_succ hzn (by omega), by rw [htk, List.length_append, ← hn]; rfl, rfl, rfl⟩)
  · rw [List.drop_eq_nil_of_le (by omega)] at hGn
    have hGn2 : (G.length : Int) = zn := by
      rw [hGn, hzn]
      simp
    repeat' first|(apply yA;exact rfl)|apply yB|apply yC|((first|apply yD|apply yE);(first|exact yF|assumption);iterate 6 exact rfl)|((first|apply yG|apply yH|apply yI);exact rfl;(first|exact yJ|exact yK rfl rfl|exact yL rfl|exact yM rfl|exact rfl|exact aL rfl rfl rfl rfl rfl|exact aS rfl rfl rfl rfl rfl rfl rfl))|((first|apply yN|apply yO|apply yP);exact rfl)|(exfalso;omega)|(((first|apply yT|apply yU|apply yV|apply yW);exact rfl;(first|exact .d|exact .e|exact .n|((fail_if_success exact bqt);(fail_if_success exact bqf);exact .b)))<;>intro _)
    refine .ret rfl (.bool ?_)
    simp
    omega
end Go.Proofs.Yteafjabcpmpmgaa.Am

/- The statement of the law FnRange: whatever its arguments are, it returns true, leaves what was there as it was, and ends. No condition. -/
namespace Go.Proofs.Yteafjabcpmpmgaa.fnRange
open Go.ChangeShapes Go.WideShapes Go.ChangeAt Go.RowKit Go.Proofs.Yteafjabcpmpmgaa.Am
open Go.ChangeMaps (open_string shut_string)
set_option linter.unusedVariables false
theorem own : ownKnob Try.prog.godebug = none := by kernel_rfl
theorem laidOut : laidOutB Try.prog = true := by kernel_rfl
set_option maxRecDepth 100000 in
theorem lifted (os : Os) (started : os.Started) (H : Type) (enc : TypeId × Value → H) :
    ReturnsInHanded {} Try.checked os 3 .any (Rows.fnRangeSpec.pre6 enc Try.prog Try.f3 Rows.fnRangeRow.domain false) (Rows.fnRangeSpec.post enc Try.prog Try.f3 false true false false) := by
  refine returnsInHanded_of_change_sized (C := Try.checked) own started (by kernel_rfl) Try.func3
    (ChangeSpec.witness6 (enc := enc) (C := Try.checked) false ⟨#[], #[.slice none 0 0], []⟩ 8 (by kernel_rfl) (by kernel_rfl) (by kernel_rfl) (by kernel_rfl)) ?_
  intro W base args ds gs before hval0 hW hcnd hsz0 _
  have hval : ∀ (j : Nat) t v, Try.f3.params[j]? = some t → args[j]? = some v → Value.okWide Try.prog W .any base t v := hval0
  have hW' := hW
  obtain ⟨p, q, hA0, hV, rfl, hfz, hnd⟩ := hW
  have hA : DataW.TrodAll enc Try.prog W 0 (fun _ => true) true Try.f3.params.toList args.toList ds p := hA0
  rw [Try.params3] at hA hval
  have hsz : (DataW.weightsEach Try.prog (Try.f3.params.toList ++ Rows.fnRangeSpec.plain.varTypes Try.prog) (ds ++ gs)).all (· ≤ reachBytes) = true := hsz0
  rw [Try.params3] at hsz
  obtain ⟨v0, vs0, d0, ds0, p0, q0, hargs, rfl, rfl, h0, r0⟩ := trodAll_cons hA
  obtain ⟨rfl, rfl, rfl⟩ := trodAll_nil r0
  obtain rfl : args = #[v0] := by cases args; simp_all
  obtain ⟨rfl, rfl⟩ := trodVars_none hV
  obtain ⟨a0, g0, e0⟩ := Opens.c openBs (cells_slice Try.underlying22 (hval 0 22 v0 rfl rfl)) h0 (fun n hn => of_decide_eq_true (List.all_eq_true.1 hsz _ (DataW.weights_mem_each (j := 0) (t := 22) rfl rfl n hn)))
  have k0 := h0
  have lt0 : ∀ x ∈ p0, x.block < W.heap.size := by obtain ⟨m, hm⟩ := k0; exact DataW.trod_lt m _ _ _ hm
  clear hA0 hval0 hsz0 hsz
  refine ((Range_sound a0 ).calls (W := W) ⟨rfl, fun i hi => ?_⟩).mono fun e W' ⟨he, bel⟩ => ?_
  · match i, hi with
    | 0, _ => exact e0
  subst he
  exact ⟨_, rfl, _, _, _, [], _, [], hW', trodAll_mk1 (shut_bool Try.underlying4 _), (trodAll_cons_mk (Below.trod laidOut (by kernel_rfl) (of_decide_eq_true (by kernel_rfl)) k0 bel lt0) trodAll_mk0), rfl, bel.frame _, fun h => by cases h⟩
theorem spl {a b : Bool} (h : (a && b) = true) : a = true ∧ b = true := by cases a <;> cases b <;> simp_all
theorem and2 {a b : Bool} (h : a = true) (k : b = true) : (a && b) = true := by rw [h, k]; rfl
theorem facts0 : (Rows.fnRangeRow.wf (OpenSpec.ofChange Rows.fnRangeSpec) && laidOutB Try.pinned.checked.prog && mapsRowed Try.pinned.checked.prog && Try.f3.params.all (Try.pinned.checked.prog.readableRec ·) && namedTie Try.pinned.checked.prog Rows.fnRangeRow.named Rows.fnRangeSpec.vars && (Rows.fnRangeRow.stops == []) && (Try.pinned.checked.prog.stops == []) && (Rows.fnRangeRow.knobs == []) && (Try.pinned.checked.prog.stopKnobs == [])) = true := by kernel_rfl
theorem facts1 : ((Rows.fnRangeRow.inPlace == Try.pinned.checked.prog.inPlace 3) && (Rows.fnRangeRow.unfollowed == Try.pinned.checked.prog.unfollowed 3) && (Rows.fnRangeRow.recurses == Try.pinned.checked.prog.recurses 3) && (Rows.fnRangeRow.named == Try.pinned.checked.prog.varsNamed 3)) = true := by kernel_rfl
theorem facts2 : ((Rows.fnRangeRow.maps == (Try.f3.params.toList ++ Rows.fnRangeSpec.plain.varTypes Try.pinned.checked.prog).any (Try.pinned.checked.prog.mapsRec ·)) && (Rows.fnRangeRow.ifaces == (Try.f3.params.toList ++ Rows.fnRangeSpec.plain.varTypes Try.pinned.checked.prog).any (Try.pinned.checked.prog.ifacesRec ·)) && (Rows.fnRangeRow.mapsOut == Try.pinned.checked.prog.mapsAmong Try.f3.resultTypes.toList) && (Rows.fnRangeRow.loops == (Try.f3.params.toList ++ Rows.fnRangeSpec.plain.varTypes Try.pinned.checked.prog).any (Try.pinned.checked.prog.loopsFrom ·)) && (Rows.fnRangeRow.wideKeys == (Try.f3.params.toList ++ Rows.fnRangeSpec.plain.varTypes Try.pinned.checked.prog ++ Try.f3.resultTypes.toList).any (Try.pinned.checked.prog.wideKeysFrom ·)) && Rows.fnRangeSpec.vars.all (Try.pinned.checked.prog.varReadable ·)) = true := by kernel_rfl
theorem facts3 : (Try.f3.resultTypes.all (fun t => Try.pinned.checked.prog.readableRec t && decide (t < Try.pinned.checked.prog.types.size)) && (Rows.fnRangeRow.ifacesOut == Try.f3.resultTypes.toList.any (Try.pinned.checked.prog.ifacesRec ·)) && (Rows.fnRangeRow.loopsOut == Try.f3.resultTypes.toList.any (Try.pinned.checked.prog.loopsFrom ·)) && (Rows.fnRangeRow.plainKeys == Try.pinned.checked.prog.plainKeys) && Rows.fnRangeRow.shortTexts.isNone && (Try.pinned.checked.prog.make == some Rows.fnRangeRow.make) && (Rows.fnRangeRow.kinds == (if Rows.fnRangeRow.domain.isEmpty then [] else Try.f3.params.toList.map fun t => match Try.pinned.checked.prog.underlying t with | some (.int k) => some k | _ => none)) && (Rows.fnRangeRow.pinned == Rows.fnRangeRow.pinnedBy) && (Rows.fnRangeRow.veiled == (Try.f3.params.toList ++ Rows.fnRangeSpec.plain.varTypes Try.pinned.checked.prog ++ Try.f3.resultTypes.toList).any (Try.pinned.checked.prog.veiledRec ·)) && Rows.fnRangeRow.veiledFits Try.pinned.checked.prog Try.f3.params.toList (Try.f3.params.toList ++ Rows.fnRangeSpec.plain.varTypes Try.pinned.checked.prog ++ Try.f3.resultTypes.toList)) = true := by kernel_rfl
theorem facts4 : (Try.pinned.checked.prog.stopsHeard && Try.pinned.checked.prog.mayEnter && (Rows.fnRangeRow.lifted == Try.pinned.checked.prog.liftsFinal)) = true := by kernel_rfl
set_option maxRecDepth 100000 in
theorem closed : joinedFacts Try.pinned.checked.prog 3 Try.f3 Rows.fnRangeSpec Rows.fnRangeRow = true := by
  have g := facts0
  obtain ⟨g, p8⟩ := spl g
  obtain ⟨g, p7⟩ := spl g
  obtain ⟨g, p6⟩ := spl g
  obtain ⟨g, p5⟩ := spl g
  obtain ⟨g, p4⟩ := spl g
  obtain ⟨g, p3⟩ := spl g
  obtain ⟨g, p2⟩ := spl g
  obtain ⟨g, p1⟩ := spl g
  have p0 := g
  have g := facts1
  obtain ⟨g, p12⟩ := spl g
  obtain ⟨g, p11⟩ := spl g
  obtain ⟨g, p10⟩ := spl g
  have p9 := g
  have g := facts2
  obtain ⟨g, p18⟩ := spl g
  obtain ⟨g, p17⟩ := spl g
  obtain ⟨g, p16⟩ := spl g
  obtain ⟨g, p15⟩ := spl g
  obtain ⟨g, p14⟩ := spl g
  have p13 := g
  have g := facts3
  obtain ⟨g, p31⟩ := spl g
  obtain ⟨g, p30⟩ := spl g
  obtain ⟨g, p29⟩ := spl g
  obtain ⟨g, p28⟩ := spl g
  obtain ⟨g, p27⟩ := spl g
  obtain ⟨g, p23⟩ := spl g
  obtain ⟨g, p22⟩ := spl g
  obtain ⟨g, p21⟩ := spl g
  obtain ⟨g, p20⟩ := spl g
  have p19 := g
  have g := facts4
  obtain ⟨g, p26⟩ := spl g
  obtain ⟨g, p25⟩ := spl g
  have p24 := g
  exact (and2 (and2 (and2 (and2 (and2 (and2 (and2 (and2 (and2 (and2 (and2 (and2 (and2 (and2 (and2 (and2 (and2 (and2 (and2 (and2 (and2 (and2 (and2 (and2 (and2 (and2 (and2 (and2 (and2 (and2 (and2 p0 p1) p2) p3) p4) p5) p6) p7) p8) p9) p10) p11) p12) p13) p14) p15) p16) p17) p18) p19) p20) p21) p22) p23) p24) p25) p26) p27) p28) p29) p30) p31)
theorem over : Rows.fnRangeRow.holds Try.pinned (OpenSpec.ofChange Rows.fnRangeSpec) :=
  OpenClaim.holds_of_wide 3 Try.f3 rfl rfl rfl rfl rfl rfl rfl ⟨rfl, rfl, rfl, rfl, rfl⟩ rfl rfl rfl rfl rfl (by kernel_rfl) Try.func3 closed
    (of_decide_eq_true (by kernel_rfl)) (by unfold Func.isWrapper; first | (rw [if_pos (by decide +kernel)]; kernel_rfl) | (rw [if_neg (by decide +kernel)]; exact ⟨rfl, rfl⟩))
    (fun os started H enc _ => lifted os started H enc)
theorem proved : Rows.FnRangeSaid := over
end Go.Proofs.Yteafjabcpmpmgaa.fnRange
namespace Go.Proofs.Yteafjabcpmpmgaa
/-- The row, under a short name, for the claim. -/
theorem fnRange_holds : Rows.FnRangeSaid := fnRange.proved
#print axioms fnRange_holds
end Go.Proofs.Yteafjabcpmpmgaa
