/- The statement of the law FnIndexed: whatever its arguments are, it returns true, leaves what was there as it was, and ends. No condition. -/
import Derived.Test.YtdgnfdljkghpjaaGreatRows
import Derived.WalkKit
import Derived.ProofKit
import Derived.OpenShut
import Derived.ShutString
import Derived.ChangeOld
import Derived.Below
import Derived.SizedLaws
import Derived.Test.YtdgnfdljkghpjaaGreatB1
import Derived.Test.YtdgnfdljkghpjaaGreatB2
import Derived.Test.YtdgnfdljkghpjaaGreatB3
import Derived.Test.YtdgnfdljkghpjaaGreatB4
import Derived.Test.YtdgnfdljkghpjaaGreatB5
import Derived.Test.YtdgnfdljkghpjaaGreatB6
/- The law FnIndexed: its function returns true. -/
set_option linter.unusedVariables false
set_option linter.unusedSimpArgs false
namespace Go.Proofs.YtdgnfdljkghpjaaGreat.Am

theorem frz_ptrX {σ : Store} {l : List (Nat × List (List Ce))} {k v N : Nat} {e : List Ce} (hl : l[k]? = some (v, [e])) (ho : ∀ x ∈ e, Old N x) (hN : N ≤ σ.next + k) : FrzV (E σ l) N (.c (.ptr (σ.next + k) v 0 0)) (.c (.fp e)) :=
  frz_ptrC hl rfl (fun j h1 h2 => .same _ (ho _ (List.getElem_mem _))) hN
theorem Indexed_sound (code : List UInt8) : Pure Tryz.prog 5 [.c (.fz (code.map encB))] (.c (.bool true)) := by
  refine Pure.run mixed c_laws_FnIndexed_ok (Nat.le_of_ble_eq_true rfl) fun σ hS hA => ?_
  clear hA
  have cb := big_ok code
  by_cases hc : 1048576 < (code.length : Int)
  · rw [decide_eq_true hc] at cb
    repeat' first|refine yaG ?_|refine yaC (cb) ?_|(exfalso;omega)|(refine yaS ?_ ?_<;>intro _)
    exact .ret rfl (.bool rfl)
  rw [decide_eq_false hc] at cb
  repeat' first|refine yaG ?_|refine yaC (cb) ?_|(exfalso;omega)|(refine yaS ?_ ?_<;>intro _)
  refine Go.told rfl rfl rfl (DrawIndexOf_ok code (by omega)) ?_
  rintro _ ⟨s, db, n, cols, hs, hd, hcl, rfl⟩
  obtain ⟨hx, hb⟩ := hs.b
  obtain ⟨hdl, hdb⟩ := draw_dbI hd
  have c1 := NewV.pure (IndexOf_ok s db n cols hx hb hdl hdb (by omega))
  have cS := sIndexOf_ok s db n cols hx hb hdl hdb (by omega)
  obtain ⟨w1, w2, _⟩ := IndexOf_fact s db n cols hx hb hdl hdb (by omega)
  have cs := sameEntries_ok (IndexOfF s db n cols).1 w1 w2
  have hI : IndexOfF s db n cols = if idxOk s db n cols then (ofAux cols (rowsAt db n) [], true) else ([], false) := rfl
  cases h1 : idxOk s db n cols
  · rw [h1, if_neg (by decide)] at hI
    rw [hI] at c1 cS cs
    repeat' first|refine yaG ?_|refine yaC (c1) ?_|refine yaC (cS) ?_|refine yaC (cs) ?_|(exfalso;omega)|(refine yaS ?_ ?_<;>intro _)
    exact .ret rfl (.bool rfl)
  have cF := fun key => FindRows_ok s db n cols key hx hb hdl hdb (by omega)
  have hFF : ∀ key, FindF s db n cols key = foundF (rowsAt db n) cols key := fun key => by rw [FindF, h1]; rfl
  rw [h1, if_pos rfl] at hI
  rw [hI] at c1 cS cs w1 w2
  obtain ⟨m, hlt, hlt2, rfl, _, h5, h6, _, h7, _⟩ := idxOk_at h1
  rw [h7] at c1 cS cs w1 w2 hFF
  obtain ⟨hr1, hr2⟩ := rowsF_mem h6
  simp only at c1 cS cs w1 w2
  have hnn : (m : Int) = ((m : Nat) : Int) := rfl
  by_cases hone : cols.length = 1
  · match cols, hone with
    | [c], _ =>
    obtain ⟨hc0, hcn⟩ := colsF_in h5 c (by simp)
    have hcc : c = (c.toNat : Int) := by omega
    have hfit : ∀ r ∈ db[m].rows, c.toNat < r.vals.length ∧ ∀ v ∈ r.vals, okVal v = true := fun r hr => by
      obtain ⟨f1, f2⟩ := fitF_vals (hr2 r hr).1
      exact ⟨by omega, f2⟩
    have hz0 : (0 : Int) = ((0 : Nat) : Int) := rfl
    have h01 : 0 < [c].length := by simp
    repeat' first|refine yaG ?_|refine yaC (c1) ?_|refine yaC (cS) ?_|refine yaC (cs) ?_|(exfalso;omega)|(refine yaS ?_ ?_<;>intro _)
    generalize hL : ofAux [c] db[m].rows [] = L at c1 cS cs w1 w2 ⊢
    refine Go.keep [3, 4, 5, 6, 7, 11] (Go.loops (I := fun k fr τ => ∃ (i : Nat) (z : Int), k = db[m].rows.length - i ∧ i ≤ db[m].rows.length ∧ z = i ∧
      fr = [(3, .c (.fz (s.map encTable))), (4, .c (.fz (db.map encData))), (5, .c (.int .i64 (m : Int))), (6, .c (.fz ([c].map encI))), (7, .c (.fz (L.map encE))), (11, .c (.int .i64 z))] ∧ τ = E σ []) ?_ _ _ _ ⟨0, _, rfl, Nat.zero_le _, rfl, rfl, rfl⟩)
    rintro k fr τ ⟨i, z, rfl, hi, hz, rfl, rfl⟩ hrec
    by_cases hlt3 : i < db[m].rows.length
    · obtain ⟨hcr, hvr⟩ := hfit _ (List.getElem_mem hlt3)
      obtain ⟨v, hv⟩ : ∃ v, v = (db[m].rows[i].vals[c.toNat]'hcr) := ⟨_, rfl⟩
      have hok : okVal v = true := by rw [hv]; exact hvr _ (List.getElem_mem _)
      have cR := New.pure (Makes.new flatIs (Range_ok L v v w1 w2))
      have cK := cF [v]
      rw [hFF] at cK
      repeat' first|apply Go.seq|apply Go.skip|apply Go.region|apply Go.nil|apply Go.block|apply Go.blk|apply Go.segs|(apply Go.exit;exact rfl)|(apply Go.cond true;exact rfl)|(apply Go.cond false;exact rfl)|apply yB|apply yC|((first|apply yD|apply yE);(first|exact yF|assumption);iterate 6 exact rfl)|((first|apply yG|apply yH|apply yI);exact rfl;(first|exact yJ|exact yK rfl rfl|exact yL rfl|exact yM rfl|exact rfl|exact aL rfl rfl rfl rfl rfl|exact aS rfl rfl rfl rfl rfl rfl rfl|exact yX (enc := encData) rfl rfl hnn hlt2 rfl))|((first|apply yN|apply yO|apply yP);exact rfl)|(exfalso;omega)|(((first|apply yT|apply yU|apply yV|apply yW);exact rfl;(first|exact .d|exact .e|exact .n|((fail_if_success exact bqt);(fail_if_success exact bqf);exact .b)))<;>intro _)
      apply Go.draw
      refine Go.qkd [] ?_
      repeat' first|(apply Qk.nil;show Go _ _ _ _ _ _ _ _)|(apply Qk.op;exact rfl;(first|(rintro _ ⟨_, rfl⟩;exact rfl)|(rintro _ ⟨_, rfl⟩;exact aop_load rfl rfl rfl (Nat.le_of_ble_eq_true rfl) rfl)|(rintro _ ⟨_, rfl⟩;exact yX (enc := encData) rfl rfl hnn hlt2 rfl)|(rintro _ ⟨_, rfl⟩;exact yX (enc := encRowD) rfl rfl hz hlt3 rfl)|(rintro _ ⟨_, rfl⟩;exact yX (enc := encI) rfl rfl hz0 h01 rfl)|(rintro _ ⟨_, rfl⟩;exact yX (enc := encV) rfl rfl hcc hcr rfl)))|(apply Qk.no;exact rfl)|(apply Qk.wop;exact rfl;exact rfl;(first|exact yJ|exact yL rfl|exact aop_store rfl rfl rfl rfl rfl rfl (Nat.le_of_ble_eq_true rfl));exact ⟨_, rfl⟩)
      rw [← hv]
      repeat' first|apply Go.seq|apply Go.skip|apply Go.region|apply Go.nil|apply Go.block|apply Go.blk|apply Go.segs|(apply Go.exit;exact rfl)|(apply Go.cond true;exact rfl)|(apply Go.cond false;exact rfl)|apply yB|apply yC|((first|apply yD|apply yE);(first|exact yF|assumption);iterate 6 exact rfl)|((first|apply yG|apply yH|apply yI);exact rfl;(first|exact yJ|exact yK rfl rfl|exact yL rfl|exact yM rfl|exact rfl|exact aL rfl rfl rfl rfl rfl|exact aS rfl rfl rfl rfl rfl rfl rfl))|((first|apply yN|apply yO|apply yP);exact rfl)
      refine Go.keep [3, 4, 5, 6, 7, 11, 12, 90] ?_
      refine Go.freezeN (l := []) (m := [(0, [encV v])]) (fr' := [(3, .c (.fz (s.map encTable))), (4, .c (.fz (db.map encData))), (5, .c (.int .i64 (m : Int))), (6, .c (.fz ([c].map encI))), (7, .c (.fz (L.map encE))), (11, .c (.int .i64 z)), (12, .c (.fp (encV v))), (90, .c (.bool (v.k == 0)))]) hS (fun b hb => by cases hb) (Nat.le_refl _)
        (.frz rfl (.refl fun y hy => by rw [List.mem_singleton.1 hy]; exact old_fz1 (oldTables _)) (.frz rfl (.refl fun y hy => by rw [List.mem_singleton.1 hy]; exact old_fz1 (oldDatas _)) (.frz rfl (.refl old_c) (.frz rfl (.refl fun y hy => by rw [List.mem_singleton.1 hy]; exact old_fz1 (oldInts _)) (.frz rfl (.refl fun y hy => by rw [List.mem_singleton.1 hy]; exact old_fz1 (oldEnts _)) (.frz rfl (.refl old_c) (.frz rfl (frz_ptrX (k := 0) (v := 0) rfl (fun x hx => (encV_flat v x hx).old _) (Nat.le_refl _)) (.frz rfl (.refl fun y hy => by rw [List.mem_singleton.1 hy]; exact .bool _) .nil)))))))) ?_
      by_cases hnull : v.k = 0
      · repeat' first|refine yaG ?_|(exfalso;omega)|(refine yaS ?_ ?_<;>intro _)
        all_goals first
          | contradiction
          | skip
        exact Go.keep [3, 4, 5, 6, 7, 11] (hrec _ _ _ (by omega) ⟨i + 1, _, rfl, hlt3, wrap_succ hz (by omega), rfl, rfl⟩)
      · have hrf := range_found h6 h5 hok hnull
        rw [hL] at hrf
        have hfl : (foundF db[m].rows [c] [v]).length ≤ 34359738368 := by
          rw [foundF, List.length_map]
          exact Nat.le_trans (List.length_filter_le _ _) (by omega)
        have cE := sameInts_ok (foundF db[m].rows [c] [v]) (foundF db[m].rows [c] [v]) hfl hfl
        rw [decide_eq_true rfl] at cE
        rw [hrf] at cR
        generalize foundF db[m].rows [c] [v] = G at cR cK cE
        repeat' first|refine yaG ?_|refine yaC (cR) ?_|refine yaC (cK) ?_|refine yaC (cE) ?_|(exfalso;omega)|(refine yaS ?_ ?_<;>intro _)
        all_goals first
          | contradiction
          | skip
        exact Go.keep [3, 4, 5, 6, 7, 11] (hrec _ _ _ (by omega) ⟨i + 1, _, rfl, hlt3, wrap_succ hz (by omega), rfl, rfl⟩)
    · repeat' first|refine yaG ?_|((first|apply yG|apply yH|apply yI);exact rfl;(first|exact yX (enc := encData) rfl rfl hnn hlt2 rfl))|(exfalso;omega)|(refine yaS ?_ ?_<;>intro _)
      exact .ret rfl (.bool rfl)
  · have hone2 : ¬ (cols.length : Int) = 1 := by omega
    repeat' first|refine yaG ?_|refine yaC (c1) ?_|refine yaC (cS) ?_|refine yaC (cs) ?_|(exfalso;omega)|(refine yaS ?_ ?_<;>intro _)
    all_goals first
      | (exfalso; omega)
      | exact .ret rfl (.bool rfl)
end Go.Proofs.YtdgnfdljkghpjaaGreat.Am

/- The statement of the law FnIndexed: whatever its arguments are, it returns true, leaves what was there as it was, and ends. No condition. -/
namespace Go.Proofs.YtdgnfdljkghpjaaGreat.fnIndexed
open Go.ChangeShapes Go.WideShapes Go.ChangeAt Go.RowKit Go.Proofs.YtdgnfdljkghpjaaGreat.Am
open Go.ChangeMaps (open_string shut_string)
set_option linter.unusedVariables false
theorem own : ownKnob Tryz.prog.godebug = none := by kernel_rfl
theorem laidOut : laidOutB Tryz.prog = true := by kernel_rfl
set_option maxRecDepth 100000 in
theorem lifted (os : Os) (started : os.Started) (H : Type) (enc : TypeId × Value → H) :
    ReturnsInHanded {} Tryz.checked os 5 .any (Rows.fnIndexedSpec.pre6 enc Tryz.prog Tryz.f5 Rows.fnIndexedRow.domain false) (Rows.fnIndexedSpec.post enc Tryz.prog Tryz.f5 false true false false) := by
  refine returnsInHanded_of_change_sized (C := Tryz.checked) own started (by kernel_rfl) Tryz.func5
    (ChangeSpec.witness6 (enc := enc) (C := Tryz.checked) false ⟨#[], #[.slice none 0 0], []⟩ 8 (by kernel_rfl) (by kernel_rfl) (by kernel_rfl) (by kernel_rfl)) ?_
  intro W base args ds gs before hval0 hW hcnd hsz0 _
  have hval : ∀ (j : Nat) t v, Tryz.f5.params[j]? = some t → args[j]? = some v → Value.okWide Tryz.prog W .any base t v := hval0
  have hW' := hW
  obtain ⟨p, q, hA0, hV, rfl, hfz, hnd⟩ := hW
  have hA : DataW.TrodAll enc Tryz.prog W 0 (fun _ => true) true Tryz.f5.params.toList args.toList ds p := hA0
  rw [Tryz.params5] at hA hval
  have hsz : (DataW.weightsEach Tryz.prog (Tryz.f5.params.toList ++ Rows.fnIndexedSpec.plain.varTypes Tryz.prog) (ds ++ gs)).all (· ≤ reachBytes) = true := hsz0
  rw [Tryz.params5] at hsz
  obtain ⟨v0, vs0, d0, ds0, p0, q0, hargs, rfl, rfl, h0, r0⟩ := trodAll_cons hA
  obtain ⟨rfl, rfl, rfl⟩ := trodAll_nil r0
  obtain rfl : args = #[v0] := by cases args; simp_all
  obtain ⟨rfl, rfl⟩ := trodVars_none hV
  obtain ⟨a0, g0, e0⟩ := Opens.c openBs (cells_slice Tryz.underlying22 (hval 0 22 v0 rfl rfl)) h0 (fun n hn => of_decide_eq_true (List.all_eq_true.1 hsz _ (DataW.weights_mem_each (j := 0) (t := 22) rfl rfl n hn)))
  have k0 := h0
  have lt0 : ∀ x ∈ p0, x.block < W.heap.size := by obtain ⟨m, hm⟩ := k0; exact DataW.trod_lt m _ _ _ hm
  clear hA0 hval0 hsz0 hsz
  refine ((Indexed_sound a0 ).calls (W := W) ⟨rfl, fun i hi => ?_⟩).mono fun e W' ⟨he, bel⟩ => ?_
  · match i, hi with
    | 0, _ => exact e0
  subst he
  exact ⟨_, rfl, _, _, _, [], _, [], hW', trodAll_mk1 (shut_bool Tryz.underlying4 _), (trodAll_cons_mk (Below.trod laidOut (by kernel_rfl) (of_decide_eq_true (by kernel_rfl)) k0 bel lt0) trodAll_mk0), rfl, bel.frame _, fun h => by cases h⟩
theorem spl {a b : Bool} (h : (a && b) = true) : a = true ∧ b = true := by cases a <;> cases b <;> simp_all
theorem and2 {a b : Bool} (h : a = true) (k : b = true) : (a && b) = true := by rw [h, k]; rfl
theorem facts0 : (Rows.fnIndexedRow.wf (OpenSpec.ofChange Rows.fnIndexedSpec) && laidOutB Tryz.pinned.checked.prog && mapsRowed Tryz.pinned.checked.prog && Tryz.f5.params.all (Tryz.pinned.checked.prog.readableRec ·) && namedTie Tryz.pinned.checked.prog Rows.fnIndexedRow.named Rows.fnIndexedSpec.vars && (Rows.fnIndexedRow.stops == []) && (Tryz.pinned.checked.prog.stops == []) && (Rows.fnIndexedRow.knobs == []) && (Tryz.pinned.checked.prog.stopKnobs == [])) = true := by kernel_rfl
theorem facts1 : ((Rows.fnIndexedRow.inPlace == Tryz.pinned.checked.prog.inPlace 5) && (Rows.fnIndexedRow.unfollowed == Tryz.pinned.checked.prog.unfollowed 5) && (Rows.fnIndexedRow.recurses == Tryz.pinned.checked.prog.recurses 5) && (Rows.fnIndexedRow.named == Tryz.pinned.checked.prog.varsNamed 5)) = true := by kernel_rfl
theorem facts2 : ((Rows.fnIndexedRow.maps == (Tryz.f5.params.toList ++ Rows.fnIndexedSpec.plain.varTypes Tryz.pinned.checked.prog).any (Tryz.pinned.checked.prog.mapsRec ·)) && (Rows.fnIndexedRow.ifaces == (Tryz.f5.params.toList ++ Rows.fnIndexedSpec.plain.varTypes Tryz.pinned.checked.prog).any (Tryz.pinned.checked.prog.ifacesRec ·)) && (Rows.fnIndexedRow.mapsOut == Tryz.pinned.checked.prog.mapsAmong Tryz.f5.resultTypes.toList) && (Rows.fnIndexedRow.loops == (Tryz.f5.params.toList ++ Rows.fnIndexedSpec.plain.varTypes Tryz.pinned.checked.prog).any (Tryz.pinned.checked.prog.loopsFrom ·)) && (Rows.fnIndexedRow.wideKeys == (Tryz.f5.params.toList ++ Rows.fnIndexedSpec.plain.varTypes Tryz.pinned.checked.prog ++ Tryz.f5.resultTypes.toList).any (Tryz.pinned.checked.prog.wideKeysFrom ·)) && Rows.fnIndexedSpec.vars.all (Tryz.pinned.checked.prog.varReadable ·)) = true := by kernel_rfl
theorem facts3 : (Tryz.f5.resultTypes.all (fun t => Tryz.pinned.checked.prog.readableRec t && decide (t < Tryz.pinned.checked.prog.types.size)) && (Rows.fnIndexedRow.ifacesOut == Tryz.f5.resultTypes.toList.any (Tryz.pinned.checked.prog.ifacesRec ·)) && (Rows.fnIndexedRow.loopsOut == Tryz.f5.resultTypes.toList.any (Tryz.pinned.checked.prog.loopsFrom ·)) && (Rows.fnIndexedRow.plainKeys == Tryz.pinned.checked.prog.plainKeys) && Rows.fnIndexedRow.shortTexts.isNone && (Tryz.pinned.checked.prog.make == some Rows.fnIndexedRow.make) && (Rows.fnIndexedRow.kinds == (if Rows.fnIndexedRow.domain.isEmpty then [] else Tryz.f5.params.toList.map fun t => match Tryz.pinned.checked.prog.underlying t with | some (.int k) => some k | _ => none)) && (Rows.fnIndexedRow.pinned == Rows.fnIndexedRow.pinnedBy) && (Rows.fnIndexedRow.veiled == (Tryz.f5.params.toList ++ Rows.fnIndexedSpec.plain.varTypes Tryz.pinned.checked.prog ++ Tryz.f5.resultTypes.toList).any (Tryz.pinned.checked.prog.veiledRec ·)) && Rows.fnIndexedRow.veiledFits Tryz.pinned.checked.prog Tryz.f5.params.toList (Tryz.f5.params.toList ++ Rows.fnIndexedSpec.plain.varTypes Tryz.pinned.checked.prog ++ Tryz.f5.resultTypes.toList)) = true := by kernel_rfl
theorem facts4 : (Tryz.pinned.checked.prog.stopsHeard && Tryz.pinned.checked.prog.mayEnter && (Rows.fnIndexedRow.lifted == Tryz.pinned.checked.prog.liftsFinal)) = true := by kernel_rfl
set_option maxRecDepth 100000 in
theorem closed : joinedFacts Tryz.pinned.checked.prog 5 Tryz.f5 Rows.fnIndexedSpec Rows.fnIndexedRow = true := by
  have g := facts0
  obtain ⟨g, p8⟩ := spl g
  obtain ⟨g, p7⟩ := spl g
  obtain ⟨g, p6⟩ := spl g
  obtain ⟨g, p5⟩ := spl g
  obtain ⟨g, p4⟩ := spl g
  obtain ⟨g, p3⟩ := spl g
  obtain ⟨g, p2⟩ := spl g
  obtain ⟨g, p1⟩ := spl g
  have p0 := g
  have g := facts1
  obtain ⟨g, p12⟩ := spl g
  obtain ⟨g, p11⟩ := spl g
  obtain ⟨g, p10⟩ := spl g
  have p9 := g
  have g := facts2
  obtain ⟨g, p18⟩ := spl g
  obtain ⟨g, p17⟩ := spl g
  obtain ⟨g, p16⟩ := spl g
  obtain ⟨g, p15⟩ := spl g
  obtain ⟨g, p14⟩ := spl g
  have p13 := g
  have g := facts3
  obtain ⟨g, p31⟩ := spl g
  obtain ⟨g, p30⟩ := spl g
  obtain ⟨g, p29⟩ := spl g
  obtain ⟨g, p28⟩ := spl g
  obtain ⟨g, p27⟩ := spl g
  obtain ⟨g, p23⟩ := spl g
  obtain ⟨g, p22⟩ := spl g
  obtain ⟨g, p21⟩ := spl g
  obtain ⟨g, p20⟩ := spl g
  have p19 := g
  have g := facts4
  obtain ⟨g, p26⟩ := spl g
  obtain ⟨g, p25⟩ := spl g
  have p24 := g
  exact (and2 (and2 (and2 (and2 (and2 (and2 (and2 (and2 (and2 (and2 (and2 (and2 (and2 (and2 (and2 (and2 (and2 (and2 (and2 (and2 (and2 (and2 (and2 (and2 (and2 (and2 (and2 (and2 (and2 (and2 (and2 p0 p1) p2) p3) p4) p5) p6) p7) p8) p9) p10) p11) p12) p13) p14) p15) p16) p17) p18) p19) p20) p21) p22) p23) p24) p25) p26) p27) p28) p29) p30) p31)
theorem over : Rows.fnIndexedRow.holds Tryz.pinned (OpenSpec.ofChange Rows.fnIndexedSpec) :=
  OpenClaim.holds_of_wide 5 Tryz.f5 rfl rfl rfl rfl rfl rfl rfl ⟨rfl, rfl, rfl, rfl, rfl⟩ rfl rfl rfl rfl rfl (by kernel_rfl) Tryz.func5 closed
    (of_decide_eq_true (by kernel_rfl)) (by unfold Func.isWrapper; first | (rw [if_pos (by decide +kernel)]; kernel_rfl) | (rw [if_neg (by decide +kernel)]; exact ⟨rfl, rfl⟩))
    (fun os started H enc _ => lifted os started H enc)
theorem proved : Rows.FnIndexedSaid := over
end Go.Proofs.YtdgnfdljkghpjaaGreat.fnIndexed
namespace Go.Proofs.YtdgnfdljkghpjaaGreat
/-- The row, under a short name, for the claim. -/
theorem fnIndexed_holds : Rows.FnIndexedSaid := fnIndexed.proved
#print axioms fnIndexed_holds
end Go.Proofs.YtdgnfdljkghpjaaGreat
