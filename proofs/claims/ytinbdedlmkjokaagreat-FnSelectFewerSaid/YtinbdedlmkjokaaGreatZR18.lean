/- The statement of the law FnSelectFewer: whatever its arguments are, it returns true, leaves what was there as it was, and ends. No condition. -/
import Derived.Test.YtinbdedlmkjokaaGreatRows
import Derived.WalkKit
import Derived.ProofKit
import Derived.OpenShut
import Derived.ShutString
import Derived.ChangeOld
import Derived.Below
import Derived.SizedLaws
import Derived.Test.YtinbdedlmkjokaaGreatZ1
import Derived.Test.YtinbdedlmkjokaaGreatZ2
import Derived.Test.YtinbdedlmkjokaaGreatZ3
import Derived.Test.YtinbdedlmkjokaaGreatZ4
import Derived.Test.YtinbdedlmkjokaaGreatZ5
import Derived.Test.YtinbdedlmkjokaaGreatZ6
/- What the laws' functions share. -/
set_option linter.unusedVariables false
set_option linter.unusedSimpArgs false
namespace Go.Proofs.YtinbdedlmkjokaaGreat.Am

theorem big_ok (code : List UInt8) : Pure Tryz.prog 8 [.c (.fz (code.map encB))] (.c (.bool (decide (1048576 < (code.length : Int))))) := by
  refine Pure.run mixed c_laws_big_ok (Nat.le_of_ble_eq_true rfl) fun σ hS hA => ?_
  clear hS hA
  repeat' first|refine yaG ?_|(exfalso;omega)|(refine yaS ?_ ?_<;>intro _)
  exact .ret rfl (.bool rfl)
end Go.Proofs.YtinbdedlmkjokaaGreat.Am

/- The law FnMatchingEither: its function returns true. -/
set_option linter.unusedVariables false
set_option linter.unusedSimpArgs false
namespace Go.Proofs.YtinbdedlmkjokaaGreat.Am

theorem draw_db {s : List Table} {db : List Data} (h : dbF s db = true ∨ db = []) : db.length ≤ 34359738368 ∧ ∀ d ∈ db, bData 34359738368 d := by
  rcases h with h | rfl
  · exact ⟨by have := (dbF_b h).1; omega, (dbF_b h).2.1⟩
  · exact ⟨by simp, fun d hd => by cases hd⟩
theorem old_tabs {n : Nat} {l : List Table} : ∀ y ∈ (AV.c (.fz (l.map encTable))).all, Old n y := fun y hy => by
  rw [List.mem_singleton.1 hy]; exact old_fz1 (oldTables _)
theorem old_dats {n : Nat} {l : List Data} : ∀ y ∈ (AV.c (.fz (l.map encData))).all, Old n y := fun y hy => by
  rw [List.mem_singleton.1 hy]; exact old_fz1 (oldDatas _)
end Go.Proofs.YtinbdedlmkjokaaGreat.Am

/- The law FnMatchingNot: its function returns true. -/
set_option linter.unusedVariables false
set_option linter.unusedSimpArgs false
namespace Go.Proofs.YtinbdedlmkjokaaGreat.Am

end Go.Proofs.YtinbdedlmkjokaaGreat.Am

/- The law FnJoinTurned: its function returns true. -/
set_option linter.unusedVariables false
set_option linter.unusedSimpArgs false
namespace Go.Proofs.YtinbdedlmkjokaaGreat.Am

theorem sameValsL_ok (xs ys : List Val) (hx : xs.length ≤ 34359738368) : Pure Tryz.prog 93 [.c (.fz (xs.map encV)), .c (.fz (ys.map encV))] (.c (.bool (xs == ys))) := by
  refine Pure.run mixed c_laws_sameVals_ok (Nat.le_of_ble_eq_true rfl) fun σ hS hA => ?_
  clear hS hA
  repeat' first|refine yaG ?_|(exfalso;omega)|(refine yaS ?_ ?_<;>intro _)
  · refine .ret rfl (.bool ?_)
    rw [eq_comm, beq_eq_false_iff_ne]
    rintro rfl
    simp at *
  refine Go.keep [0, 1, 5] (Go.loops (I := fun m fr τ => ∃ i : Nat, ∃ n : Int, m = xs.length - i ∧ i ≤ xs.length ∧ n = i ∧ (xs.length = ys.length ∧ (xs == ys) = (xs.drop i == ys.drop i)) ∧
    fr = [(0, .c (.fz (xs.map encV))), (1, .c (.fz (ys.map encV))), (5, .c (.int .i64 n))] ∧ τ = E σ []) ?_ _ _ _ ⟨0, _, rfl, Nat.zero_le _, rfl, ⟨by omega, rfl⟩, rfl, rfl⟩)
  rintro m fr τ ⟨i, n, rfl, hi, hn, ⟨hl, hsl⟩, rfl, rfl⟩ hrec
  by_cases hlt : i < xs.length
  · have hlt2 : i < ys.length := by omega
    have hst := sameVals_step hlt hlt2
    repeat' first|refine yaG ?_|((first|apply yG|apply yH|apply yI);exact rfl;(first|exact yX (enc := encV) rfl rfl hn hlt rfl|exact yX (enc := encV) rfl rfl hn hlt2 rfl))|(exfalso;omega)|(refine yaS ?_ ?_<;>intro _)
    · refine .ret rfl (.bool ?_)
      rw [hsl, hst]
      clear hrec
      simp_all
      intros
      simp_all
    · refine Go.keep [0, 1, 5] (hrec _ _ _ (by omega) ⟨i + 1, _, rfl, hlt, wrap_succ hn (by omega), ⟨hl, ?_⟩, rfl, rfl⟩)
      rw [hsl, hst]
      clear hrec
      simp_all
  · repeat' first|refine yaG ?_|(exfalso;omega)|(refine yaS ?_ ?_<;>intro _)
    refine .ret rfl (.bool ?_)
    rw [hsl, List.drop_eq_nil_of_le (by omega), List.drop_eq_nil_of_le (by omega)]
    rfl
theorem sameLines_ok (a : List Line) (ha : a.length ≤ 34359738368) (hv : ∀ x ∈ a, x.vals.length ≤ 34359738368) : Pure Tryz.prog 26 [.c (.fz (a.map encLine)), .c (.fz (a.map encLine))] (.c (.bool true)) := by
  refine Pure.run mixed c_laws_sameLines_ok (Nat.le_of_ble_eq_true rfl) fun σ hS hA => ?_
  clear hS hA
  repeat' first|refine yaG ?_|(exfalso;omega)|(refine yaS ?_ ?_<;>intro _)
  refine Go.keep [0, 1, 5] (Go.loops (I := fun m fr τ => ∃ (i : Nat) (k : Int), m = a.length - i ∧ i ≤ a.length ∧ k = i ∧
    fr = [(0, .c (.fz (a.map encLine))), (1, .c (.fz (a.map encLine))), (5, .c (.int .i64 k))] ∧ τ = E σ []) ?_ _ _ _ ⟨0, _, rfl, Nat.zero_le _, rfl, rfl, rfl⟩)
  rintro m fr τ ⟨i, k, rfl, hi, hk, rfl, rfl⟩ hrec
  by_cases hlt : i < a.length
  · have c1 := sameValsL_ok a[i].vals a[i].vals (hv _ (List.getElem_mem hlt))
    rw [beq_self_eq_true] at c1
    repeat' first|refine yaG ?_|((first|apply yG|apply yH|apply yI);exact rfl;(first|exact yX (enc := encLine) rfl rfl hk hlt rfl))|refine yaC (c1) ?_|(exfalso;omega)|(refine yaS ?_ ?_<;>intro _)
    exact Go.keep [0, 1, 5] (hrec _ _ _ (by omega) ⟨i + 1, _, rfl, hlt, wrap_succ hk (by omega), rfl, rfl⟩)
  · repeat' first|refine yaG ?_|(exfalso;omega)|(refine yaS ?_ ?_<;>intro _)
    exact .ret rfl (.bool rfl)
theorem oldLines {n : Nat} (l : List Line) : OldL n (l.map encLine) := fun e he c hc => by
  obtain ⟨a, _, rfl⟩ := List.mem_map.1 he
  simp only [encLine, List.mem_cons, List.not_mem_nil, or_false] at hc
  subst hc
  exact old_fz1 (oldL_flat flats)
theorem old_lins {n : Nat} {l : List Line} : ∀ y ∈ (AV.c (.fz (l.map encLine))).all, Old n y := fun y hy => by
  rw [List.mem_singleton.1 hy]; exact old_fz1 (oldLines _)
def turned (n m : Int) (w : List Tok) (i : Nat) : List Tok := (w.take i).map (turnT n m) ++ w.drop i
end Go.Proofs.YtinbdedlmkjokaaGreat.Am

/- The law FnSelectFewer: its function returns true. -/
set_option linter.unusedVariables false
set_option linter.unusedSimpArgs false
namespace Go.Proofs.YtinbdedlmkjokaaGreat.Am

set_option maxHeartbeats 4000000 in
theorem SelectFewer_sound (code : List UInt8) : Pure Tryz.prog 5 [.c (.fz (code.map encB))] (.c (.bool true)) := by
  refine Pure.run mixed c_laws_FnSelectFewer_ok (Nat.le_of_ble_eq_true rfl) fun σ hS hA => ?_
  clear hA
  have cb := big_ok code
  by_cases hc : 1048576 < (code.length : Int)
  · rw [decide_eq_true hc] at cb
    repeat' first|refine yaG ?_|refine yaC (cb) ?_|(exfalso;omega)|(refine yaS ?_ ?_<;>intro _)
    exact .ret rfl (.bool rfl)
  rw [decide_eq_false hc] at cb
  repeat' first|refine yaG ?_|refine yaC (cb) ?_|(exfalso;omega)|(refine yaS ?_ ?_<;>intro _)
  refine Go.told rfl rfl rfl (DrawRunSelect_ok code (by omega)) ?_
  rintro _ ⟨s, db, q, hs, hd, hq, rfl⟩
  obtain ⟨hx, hb⟩ := hs.b
  obtain ⟨hdl, hdb⟩ := draw_db hd
  have hq2 : bSel 34359738368 { q with wher := [] } := ⟨hq.1, hq.2.1, ⟨by simp, fun t ht => by cases ht⟩, hq.2.2.2⟩
  have c1 := NewV.pure (RunSelect_ok s db q hx hb hdl hdb hq)
  have cS := NewV.pure (sRunSelect_ok s db q hx hb hdl hdb hq)
  have c2 := NewV.pure (RunSelect_ok s db { q with wher := [] } hx hb hdl hdb hq2)
  have ck := sSelectOk_ok s { q with wher := [] } hx hb hq2
  have hl := fewer_law (s := s) (db := db) (q := q)
  generalize RunF s db q = M1 at c1 cS hl
  generalize RunF s db { q with wher := [] } = M2 at c2 hl
  obtain ⟨l1, b1⟩ := M1
  obtain ⟨l2, b2⟩ := M2
  simp only at c1 cS hl c2
  repeat' first|refine yaN ?_|(exfalso;omega)|(refine yaS ?_ ?_<;>intro _)
  refine Go.keep [3, 4, 5, 22, 23, 24] ?_
  refine Go.freezeN (l := []) (m := [(0, [encSel q])]) (fr' := [(3, .c (.fz (s.map encTable))), (4, .c (.fz (db.map encData))), (5, .c (.fp (encSel q))), (22, .c (.fz (s.map encTable))), (23, .c (.fz (db.map encData))), (24, .agg (encSel q))]) hS (fun b hb => by cases hb) (Nat.le_refl _)
    (.frz rfl (.refl old_tabs) (.frz rfl (.refl old_dats) (.frz rfl (frz_ptrC (k := 0) (v := 0) (e := encSel q) rfl rfl (fun j h1 h2 => .same _ (old_selC q _ (List.getElem_mem h1))) (Nat.le_refl _)) (.frz rfl (.refl old_tabs) (.frz rfl (.refl old_dats) (.frz rfl (.refl (old_selA q)) .nil)))))) ?_
  cases b1
  · repeat' first|refine yaN ?_|refine yaC (c1) ?_|refine yaC (cS) ?_|(exfalso;omega)|(refine yaS ?_ ?_<;>intro _)
    exact .ret rfl (.bool rfl)
  repeat' first|refine yaN ?_|refine yaC (c1) ?_|refine yaC (cS) ?_|(exfalso;omega)|(refine yaS ?_ ?_<;>intro _)
  refine Go.keep [3, 4, 6, 7, 9, 10, 44, 45, 46] ?_
  refine Go.freezeN (l := []) (m := [(0, [[.str q.table, .fz (q.terms.map encTerm), .nils, .fz (q.by_.map encI), .int .i64 q.most]])]) (fr' := [(3, .c (.fz (s.map encTable))), (4, .c (.fz (db.map encData))), (6, .c (.fz (l1.map encLine))), (7, .c (.bool true)), (9, .c (.bool true)), (10, .c (.fp (encSel { q with wher := [] }))), (44, .c (.bool false)), (45, .c (.fz (s.map encTable))), (46, .agg (encSel { q with wher := [] }))]) hS (fun b hb => by cases hb) (Nat.le_refl _)
    (.frz rfl (.refl old_tabs) (.frz rfl (.refl old_dats) (.frz rfl (.refl old_lins) (.frz rfl (.refl old_b) (.frz rfl (.refl old_b) (.frz rfl (frz_ptrC (k := 0) (v := 0) rfl rfl ?_ (Nat.le_refl _)) (.frz rfl (.refl old_b) (.frz rfl (.refl old_tabs) (.frz rfl (.agg rfl ?_) .nil))))))))) ?_
  · intro j h1 h2
    have hj : j < 5 := h2
    have : j = 0 ∨ j = 1 ∨ j = 2 ∨ j = 3 ∨ j = 4 := by omega
    rcases this with rfl | rfl | rfl | rfl | rfl
    · exact .same _ (.str _)
    · exact .same _ (old_fz1 (oldTerms _))
    · exact .nil
    · exact .same _ (old_fz1 (oldInts _))
    · exact .same _ (.int _ _)
  · intro j h1
    have hj : j < 5 := h1
    have : j = 0 ∨ j = 1 ∨ j = 2 ∨ j = 3 ∨ j = 4 := by omega
    rcases this with rfl | rfl | rfl | rfl | rfl
    · exact .same _ (.str _)
    · exact .same _ (old_fz1 (oldTerms _))
    · exact .nil
    · exact .same _ (old_fz1 (oldInts _))
    · exact .same _ (.int _ _)
  cases hk : selectF s { q with wher := [] }
  · rw [hk] at ck
    repeat' first|refine yaG ?_|refine yaC (ck) ?_|(exfalso;omega)|(refine yaS ?_ ?_<;>intro _)
    exact .ret rfl (.bool rfl)
  rw [hk] at ck
  cases b2
  · repeat' first|refine yaG ?_|refine yaC (ck) ?_|refine yaC (c2) ?_|(exfalso;omega)|(refine yaS ?_ ?_<;>intro _)
    exact .ret rfl (.bool rfl)
  have hle := hl rfl rfl
  repeat' first|refine yaG ?_|refine yaC (ck) ?_|refine yaC (c2) ?_|(exfalso;omega)|(refine yaS ?_ ?_<;>intro _)
  refine .ret rfl (.bool ?_)
  simp
  omega
end Go.Proofs.YtinbdedlmkjokaaGreat.Am

/- The statement of the law FnSelectFewer: whatever its arguments are, it returns true, leaves what was there as it was, and ends. No condition. -/
namespace Go.Proofs.YtinbdedlmkjokaaGreat.fnSelectFewer
open Go.ChangeShapes Go.WideShapes Go.ChangeAt Go.RowKit Go.Proofs.YtinbdedlmkjokaaGreat.Am
open Go.ChangeMaps (open_string shut_string)
set_option linter.unusedVariables false
theorem own : ownKnob Tryz.prog.godebug = none := by kernel_rfl
theorem laidOut : laidOutB Tryz.prog = true := by kernel_rfl
set_option maxRecDepth 100000 in
theorem lifted (os : Os) (started : os.Started) (H : Type) (enc : TypeId × Value → H) :
    ReturnsInHanded {} Tryz.checked os 5 .any (Rows.fnSelectFewerSpec.pre6 enc Tryz.prog Tryz.f5 Rows.fnSelectFewerRow.domain false) (Rows.fnSelectFewerSpec.post enc Tryz.prog Tryz.f5 false true false false) := by
  refine returnsInHanded_of_change_sized (C := Tryz.checked) own started (by kernel_rfl) Tryz.func5
    (ChangeSpec.witness6 (enc := enc) (C := Tryz.checked) false ⟨#[], #[.slice none 0 0], []⟩ 8 (by kernel_rfl) (by kernel_rfl) (by kernel_rfl) (by kernel_rfl)) ?_
  intro W base args ds gs before hval0 hW hcnd hsz0 _
  have hval : ∀ (j : Nat) t v, Tryz.f5.params[j]? = some t → args[j]? = some v → Value.okWide Tryz.prog W .any base t v := hval0
  have hW' := hW
  obtain ⟨p, q, hA0, hV, rfl, hfz, hnd⟩ := hW
  have hA : DataW.TrodAll enc Tryz.prog W 0 (fun _ => true) true Tryz.f5.params.toList args.toList ds p := hA0
  rw [Tryz.params5] at hA hval
  have hsz : (DataW.weightsEach Tryz.prog (Tryz.f5.params.toList ++ Rows.fnSelectFewerSpec.plain.varTypes Tryz.prog) (ds ++ gs)).all (· ≤ reachBytes) = true := hsz0
  rw [Tryz.params5] at hsz
  obtain ⟨v0, vs0, d0, ds0, p0, q0, hargs, rfl, rfl, h0, r0⟩ := trodAll_cons hA
  obtain ⟨rfl, rfl, rfl⟩ := trodAll_nil r0
  obtain rfl : args = #[v0] := by cases args; simp_all
  obtain ⟨rfl, rfl⟩ := trodVars_none hV
  obtain ⟨a0, g0, e0⟩ := Opens.c openBs (cells_slice Tryz.underlying22 (hval 0 22 v0 rfl rfl)) h0 (fun n hn => of_decide_eq_true (List.all_eq_true.1 hsz _ (DataW.weights_mem_each (j := 0) (t := 22) rfl rfl n hn)))
  have k0 := h0
  have lt0 : ∀ x ∈ p0, x.block < W.heap.size := by obtain ⟨m, hm⟩ := k0; exact DataW.trod_lt m _ _ _ hm
  clear hA0 hval0 hsz0 hsz
  refine ((SelectFewer_sound a0 ).calls (W := W) ⟨rfl, fun i hi => ?_⟩).mono fun e W' ⟨he, bel⟩ => ?_
  · match i, hi with
    | 0, _ => exact e0
  subst he
  exact ⟨_, rfl, _, _, _, [], _, [], hW', trodAll_mk1 (shut_bool Tryz.underlying4 _), (trodAll_cons_mk (Below.trod laidOut (by kernel_rfl) (of_decide_eq_true (by kernel_rfl)) k0 bel lt0) trodAll_mk0), rfl, bel.frame _, fun h => by cases h⟩
theorem spl {a b : Bool} (h : (a && b) = true) : a = true ∧ b = true := by cases a <;> cases b <;> simp_all
theorem and2 {a b : Bool} (h : a = true) (k : b = true) : (a && b) = true := by rw [h, k]; rfl
theorem facts0 : (Rows.fnSelectFewerRow.wf (OpenSpec.ofChange Rows.fnSelectFewerSpec) && laidOutB Tryz.pinned.checked.prog && mapsRowed Tryz.pinned.checked.prog && Tryz.f5.params.all (Tryz.pinned.checked.prog.readableRec ·) && namedTie Tryz.pinned.checked.prog Rows.fnSelectFewerRow.named Rows.fnSelectFewerSpec.vars && (Rows.fnSelectFewerRow.stops == []) && (Tryz.pinned.checked.prog.stops == []) && (Rows.fnSelectFewerRow.knobs == []) && (Tryz.pinned.checked.prog.stopKnobs == [])) = true := by kernel_rfl
theorem facts1 : ((Rows.fnSelectFewerRow.inPlace == Tryz.pinned.checked.prog.inPlace 5) && (Rows.fnSelectFewerRow.unfollowed == Tryz.pinned.checked.prog.unfollowed 5) && (Rows.fnSelectFewerRow.recurses == Tryz.pinned.checked.prog.recurses 5) && (Rows.fnSelectFewerRow.named == Tryz.pinned.checked.prog.varsNamed 5)) = true := by kernel_rfl
theorem facts2 : ((Rows.fnSelectFewerRow.maps == (Tryz.f5.params.toList ++ Rows.fnSelectFewerSpec.plain.varTypes Tryz.pinned.checked.prog).any (Tryz.pinned.checked.prog.mapsRec ·)) && (Rows.fnSelectFewerRow.ifaces == (Tryz.f5.params.toList ++ Rows.fnSelectFewerSpec.plain.varTypes Tryz.pinned.checked.prog).any (Tryz.pinned.checked.prog.ifacesRec ·)) && (Rows.fnSelectFewerRow.mapsOut == Tryz.pinned.checked.prog.mapsAmong Tryz.f5.resultTypes.toList) && (Rows.fnSelectFewerRow.loops == (Tryz.f5.params.toList ++ Rows.fnSelectFewerSpec.plain.varTypes Tryz.pinned.checked.prog).any (Tryz.pinned.checked.prog.loopsFrom ·)) && (Rows.fnSelectFewerRow.wideKeys == (Tryz.f5.params.toList ++ Rows.fnSelectFewerSpec.plain.varTypes Tryz.pinned.checked.prog ++ Tryz.f5.resultTypes.toList).any (Tryz.pinned.checked.prog.wideKeysFrom ·)) && Rows.fnSelectFewerSpec.vars.all (Tryz.pinned.checked.prog.varReadable ·)) = true := by kernel_rfl
theorem facts3 : (Tryz.f5.resultTypes.all (fun t => Tryz.pinned.checked.prog.readableRec t && decide (t < Tryz.pinned.checked.prog.types.size)) && (Rows.fnSelectFewerRow.ifacesOut == Tryz.f5.resultTypes.toList.any (Tryz.pinned.checked.prog.ifacesRec ·)) && (Rows.fnSelectFewerRow.loopsOut == Tryz.f5.resultTypes.toList.any (Tryz.pinned.checked.prog.loopsFrom ·)) && (Rows.fnSelectFewerRow.plainKeys == Tryz.pinned.checked.prog.plainKeys) && Rows.fnSelectFewerRow.shortTexts.isNone && (Tryz.pinned.checked.prog.make == some Rows.fnSelectFewerRow.make) && (Rows.fnSelectFewerRow.kinds == (if Rows.fnSelectFewerRow.domain.isEmpty then [] else Tryz.f5.params.toList.map fun t => match Tryz.pinned.checked.prog.underlying t with | some (.int k) => some k | _ => none)) && (Rows.fnSelectFewerRow.pinned == Rows.fnSelectFewerRow.pinnedBy) && (Rows.fnSelectFewerRow.veiled == (Tryz.f5.params.toList ++ Rows.fnSelectFewerSpec.plain.varTypes Tryz.pinned.checked.prog ++ Tryz.f5.resultTypes.toList).any (Tryz.pinned.checked.prog.veiledRec ·)) && Rows.fnSelectFewerRow.veiledFits Tryz.pinned.checked.prog Tryz.f5.params.toList (Tryz.f5.params.toList ++ Rows.fnSelectFewerSpec.plain.varTypes Tryz.pinned.checked.prog ++ Tryz.f5.resultTypes.toList)) = true := by kernel_rfl
theorem facts4 : (Tryz.pinned.checked.prog.stopsHeard && Tryz.pinned.checked.prog.mayEnter && (Rows.fnSelectFewerRow.lifted == Tryz.pinned.checked.prog.liftsFinal)) = true := by kernel_rfl
set_option maxRecDepth 100000 in
theorem closed : joinedFacts Tryz.pinned.checked.prog 5 Tryz.f5 Rows.fnSelectFewerSpec Rows.fnSelectFewerRow = true := by
  have g := facts0
  obtain ⟨g, p8⟩ := spl g
  obtain ⟨g, p7⟩ := spl g
  obtain ⟨g, p6⟩ := spl g
  obtain ⟨g, p5⟩ := spl g
  obtain ⟨g, p4⟩ := spl g
  obtain ⟨g, p3⟩ := spl g
  obtain ⟨g, p2⟩ := spl g
  obtain ⟨g, p1⟩ := spl g
  have p0 := g
  have g := facts1
  obtain ⟨g, p12⟩ := spl g
  obtain ⟨g, p11⟩ := spl g
  obtain ⟨g, p10⟩ := spl g
  have p9 := g
  have g := facts2
  obtain ⟨g, p18⟩ := spl g
  obtain ⟨g, p17⟩ := spl g
  obtain ⟨g, p16⟩ := spl g
  obtain ⟨g, p15⟩ := spl g
  obtain ⟨g, p14⟩ := spl g
  have p13 := g
  have g := facts3
  obtain ⟨g, p31⟩ := spl g
  obtain ⟨g, p30⟩ := spl g
  obtain ⟨g, p29⟩ := spl g
  obtain ⟨g, p28⟩ := spl g
  obtain ⟨g, p27⟩ := spl g
  obtain ⟨g, p23⟩ := spl g
  obtain ⟨g, p22⟩ := spl g
  obtain ⟨g, p21⟩ := spl g
  obtain ⟨g, p20⟩ := spl g
  have p19 := g
  have g := facts4
  obtain ⟨g, p26⟩ := spl g
  obtain ⟨g, p25⟩ := spl g
  have p24 := g
  exact (and2 (and2 (and2 (and2 (and2 (and2 (and2 (and2 (and2 (and2 (and2 (and2 (and2 (and2 (and2 (and2 (and2 (and2 (and2 (and2 (and2 (and2 (and2 (and2 (and2 (and2 (and2 (and2 (and2 (and2 (and2 p0 p1) p2) p3) p4) p5) p6) p7) p8) p9) p10) p11) p12) p13) p14) p15) p16) p17) p18) p19) p20) p21) p22) p23) p24) p25) p26) p27) p28) p29) p30) p31)
theorem over : Rows.fnSelectFewerRow.holds Tryz.pinned (OpenSpec.ofChange Rows.fnSelectFewerSpec) :=
  OpenClaim.holds_of_wide 5 Tryz.f5 rfl rfl rfl rfl rfl rfl rfl ⟨rfl, rfl, rfl, rfl, rfl⟩ rfl rfl rfl rfl rfl (by kernel_rfl) Tryz.func5 closed
    (of_decide_eq_true (by kernel_rfl)) (by unfold Func.isWrapper; first | (rw [if_pos (by decide +kernel)]; kernel_rfl) | (rw [if_neg (by decide +kernel)]; exact ⟨rfl, rfl⟩))
    (fun os started H enc _ => lifted os started H enc)
theorem proved : Rows.FnSelectFewerSaid := over
end Go.Proofs.YtinbdedlmkjokaaGreat.fnSelectFewer
namespace Go.Proofs.YtinbdedlmkjokaaGreat
/-- The row, under a short name, for the claim. -/
theorem fnSelectFewer_holds : Rows.FnSelectFewerSaid := fnSelectFewer.proved
#print axioms fnSelectFewer_holds
end Go.Proofs.YtinbdedlmkjokaaGreat
