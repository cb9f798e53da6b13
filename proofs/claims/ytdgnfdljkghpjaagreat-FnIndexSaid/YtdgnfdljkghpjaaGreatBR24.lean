/- The statement of the law FnIndex: whatever its arguments are, it returns true, leaves what was there as it was, and ends. No condition. -/
import Derived.Test.YtdgnfdljkghpjaaGreatRows
import Derived.WalkKit
import Derived.ProofKit
import Derived.OpenShut
import Derived.ShutString
import Derived.ChangeOld
import Derived.Below
import Derived.SizedLaws
import Derived.Test.YtdgnfdljkghpjaaGreatB1
import Derived.Test.YtdgnfdljkghpjaaGreatB2
import Derived.Test.YtdgnfdljkghpjaaGreatB3
import Derived.Test.YtdgnfdljkghpjaaGreatB4
import Derived.Test.YtdgnfdljkghpjaaGreatB5
import Derived.Test.YtdgnfdljkghpjaaGreatB6
/- The law FnIndex: its function returns true. -/
set_option linter.unusedVariables false
set_option linter.unusedSimpArgs false
namespace Go.Proofs.YtdgnfdljkghpjaaGreat.Am

theorem Index_sound (code : List UInt8) : Pure Tryz.prog 6 [.c (.fz (code.map encB))] (.c (.bool true)) := by
  refine Pure.run mixed c_laws_FnIndex_ok (Nat.le_of_ble_eq_true rfl) fun σ hS hA => ?_
  clear hS hA
  have cb := big_ok code
  by_cases hc : 1048576 < (code.length : Int)
  · rw [decide_eq_true hc] at cb
    repeat' first|refine yaG ?_|refine yaC (cb) ?_|(exfalso;omega)|(refine yaS ?_ ?_<;>intro _)
    exact .ret rfl (.bool rfl)
  rw [decide_eq_false hc] at cb
  repeat' first|refine yaG ?_|refine yaC (cb) ?_|(exfalso;omega)|(refine yaS ?_ ?_<;>intro _)
  refine Go.told rfl rfl rfl (DrawIndexOf_ok code (by omega)) ?_
  rintro _ ⟨s, db, n, cols, hs, hd, hcl, rfl⟩
  obtain ⟨hx, hb⟩ := hs.b
  obtain ⟨hdl, hdb⟩ := draw_dbI hd
  have c1 := NewV.pure (IndexOf_ok s db n cols hx hb hdl hdb (by omega))
  have cS := sIndexOf_ok s db n cols hx hb hdl hdb (by omega)
  obtain ⟨w1, w2, _⟩ := IndexOf_fact s db n cols hx hb hdl hdb (by omega)
  have cs := sameEntries_ok (IndexOfF s db n cols).1 w1 w2
  have cO := fun l => IndexOk_ok s db n cols l hx hb hdl hdb (by omega)
  repeat' first|refine yaG ?_|refine yaC (c1) ?_|refine yaC (cS) ?_|(exfalso;omega)|(refine yaS ?_ ?_<;>intro _)
  refine Go.told rfl rfl rfl (DrawIndexOk_ok code (by omega)) ?_
  rintro _ ⟨s2, db2, n2, cols2, l2, hs2, hd2, hcl2, rfl⟩
  obtain ⟨hx2, hb2⟩ := hs2.b
  obtain ⟨hdl2, hdb2⟩ := draw_dbI hd2
  have d1 := IndexOk_ok s2 db2 n2 cols2 l2 hx2 hb2 hdl2 hdb2 (by omega)
  have d2 := sIndexOk_ok s2 db2 n2 cols2 l2 hx2 hb2 hdl2 hdb2 (by omega)
  generalize IndexOkF s2 db2 n2 cols2 l2 = B at d1 d2
  have hI : IndexOfF s db n cols = if idxOk s db n cols then (ofAux cols (rowsAt db n) [], true) else ([], false) := rfl
  have hIO : ∀ l, IndexOkF s db n cols l = ((IndexOfF s db n cols).2 && ((IndexOfF s db n cols).1 == l)) := fun l => rfl
  cases h1 : idxOk s db n cols
  · rw [h1, if_neg (by decide)] at hI
    rw [hI] at cs ⊢
    cases B
    · repeat' first|refine yaG ?_|refine yaC (cs) ?_|refine yaC (d1) ?_|refine yaC (d2) ?_|(exfalso;omega)|(refine yaS ?_ ?_<;>intro _)
      exact .ret rfl (.bool rfl)
    · repeat' first|refine yaG ?_|refine yaC (cs) ?_|refine yaC (d1) ?_|refine yaC (d2) ?_|(exfalso;omega)|(refine yaS ?_ ?_<;>intro _)
      exact .ret rfl (.bool rfl)
  rw [h1, if_pos rfl] at hI
  have cI := cO (IndexOfF s db n cols).1
  rw [hIO, beq_self_eq_true, hI] at cI
  rw [hI] at cs w1 w2 ⊢
  obtain ⟨m, hlt, hlt2, rfl, h4, h5, h6, _, h7, _⟩ := idxOk_at h1
  rw [h7] at cs cI w1 w2 ⊢
  obtain ⟨hr1, hr2⟩ := rowsF_mem h6
  have hcol := schemaF_cols (dbF_at h4).1 _ (List.getElem_mem hlt)
  simp only at cs cI w1 w2
  have hnn : (m : Int) = ((m : Nat) : Int) := rfl
  have hsort := index_sorted h6 h5
  have hp : (ofAux cols db[m].rows []).Perm (entsF cols db[m].rows) := by simpa using ofAux_perm cols db[m].rows []
  have hlen : (ofAux cols db[m].rows []).length = db[m].rows.length := by rw [hp.length_eq]; simp [entsF]
  have hpos : 0 < cols.length := by
    rw [colsF, Bool.and_eq_true, decide_eq_true_eq] at h5
    omega
  have hrise := rowsF_rise h6
  have hidn : ((ofAux cols db[m].rows []).map Entry.id).Nodup := by
    refine (hp.map Entry.id).nodup_iff.2 ?_
    rw [entsF, List.map_map, List.Nodup, List.pairwise_map]
    exact hrise.imp fun h e => by
      have h : _ < _ := h
      have e : _ = _ := e
      simp only [Function.comp] at e
      omega
  have hrow : ∀ e ∈ ofAux cols db[m].rows [], ∃ (j : Nat) (hj : j < db[m].rows.length), e.key = keyF cols db[m].rows[j].vals ∧ e.id = db[m].rows[j].id := fun e he => by
    obtain ⟨r, hrm, rfl⟩ := List.mem_map.1 (hp.mem_iff.1 he)
    obtain ⟨j, hj, rfl⟩ := List.getElem_of_mem hrm
    exact ⟨j, hj, rfl, rfl⟩
  have hklen : ∀ e ∈ ofAux cols db[m].rows [], e.key.length = cols.length := fun e he => by
    obtain ⟨j, hj, h, _⟩ := hrow e he
    rw [h, keyF_len]
  clear hp
  generalize ofAux cols db[m].rows [] = L at *
  repeat' first|(apply yA;exact rfl)|apply yB|apply yC|((first|apply yD|apply yE);(first|exact yF|assumption);iterate 6 exact rfl)|((first|apply yG|apply yH|apply yI);exact rfl;(first|exact yJ|exact yK rfl rfl|exact yL rfl|exact yM rfl|exact aop_neB rfl rfl|exact rfl|exact aL rfl rfl rfl rfl rfl|exact aS rfl rfl rfl rfl rfl rfl rfl))|((first|apply yN|apply yO|apply yP);exact rfl)|((first|apply yQ|apply yR|apply yS);(iterate 3 exact rfl);(first|exact cs|exact d1|exact d2))|(exfalso;omega)|(((first|apply yT|apply yU|apply yV|apply yW);exact rfl;(first|exact .d|exact .e|exact .n|((fail_if_success exact bqt);(fail_if_success exact bqf);exact .b)))<;>intro _)
  refine Go.keep [3, 4, 5, 6, 7, 16, 17] (Go.loops (I := fun k fr τ => ∃ (i : Nat) (z : Int) (v : Nat) (junk : List (List Ce)), k = L.length - i ∧ i ≤ L.length ∧ z = i ∧ Jk 1 junk ∧
    fr = [(3, .c (.fz (s.map encTable))), (4, .c (.fz (db.map encData))), (5, .c (.int .i64 (m : Int))), (6, .c (.fz (cols.map encI))), (7, .c (.fz (L.map encE))), (16, .c (vec (σ.next + 0) v (((L.take i).map Entry.id).map encI) junk)), (17, .c (.int .i64 z))] ∧ τ = E σ [(v, ((L.take i).map Entry.id).map encI ++ junk)]) ?_ _ _ _ ⟨0, _, 0, [], rfl, Nat.zero_le _, rfl, Jk.nil, rfl, rfl⟩)
  rintro k fr τ ⟨i, z, v, junk, rfl, hi, hz, hjk, rfl, rfl⟩ hrec
  by_cases hlt3 : i < L.length
  · have hem := List.getElem_mem hlt3
    obtain ⟨j, hj, hkj, hidj⟩ := hrow _ hem
    obtain ⟨f1, f2⟩ := fitF_vals (hr2 _ (List.getElem_mem hj)).1
    have cA := at_good db[m] j hj (by omega) (fun q hq => Int.ne_of_lt (List.pairwise_iff_getElem.1 hrise q j (by omega) hj hq))
    rw [← hidj] at cA
    have hav : areVals db[m].rows[j].vals 16 = true := by
      rw [areVals, Bool.and_eq_true, decide_eq_true_eq, List.all_eq_true]
      exact ⟨by omega, f2⟩
    have cK := KeyOf_good cols db[m].rows[j].vals (by omega) hav (fun c hcm => by rw [f1]; exact colsF_in h5 c hcm)
    rw [← hkj] at cK
    have cV := sameValsE_ok L[i].key L[i].key (w2 _ hem)
    rw [beq_self_eq_true] at cV
    have hnot : L[i].id ∉ (L.take i).map Entry.id := fun hm => by
      have h := hidn
      rw [← List.take_append_drop i L, List.map_append, List.nodup_append] at h
      refine h.2.2 _ hm L[i].id ?_ rfl
      rw [List.drop_eq_getElem_cons hlt3, List.map_cons]
      exact List.mem_cons_self
    have hidl : ((L.take i).map Entry.id).length = i := by rw [List.length_map, List.length_take]; omega
    have cH := has_no ((L.take i).map Entry.id) L[i].id (by omega) hnot
    have h0k : 0 < L[i].key.length := by rw [hklen _ hem]; exact hpos
    repeat' first|refine yaG ?_|((first|apply yG|apply yH|apply yI);exact rfl;(first|exact yX (enc := encData) rfl rfl hnn hlt2 rfl|exact yX (enc := encE) rfl rfl hz hlt3 rfl))|refine yaC (cA) ?_|refine yaC (cK) ?_|refine yaC (cV) ?_|(exfalso;omega)|(refine yaS ?_ ?_<;>intro _)
    refine Go.lcall rfl rfl rfl cH (.bool _) (.own (frz_oldQ (N := 0) (k := 0) rfl (oldInts _) (Nat.zero_le _)) (.same .nil)) ?_
    repeat' first|refine yaG ?_|((first|apply yG|apply yH|apply yI);exact rfl;(first|exact yX (enc := encE) rfl rfl hz hlt3 rfl))|(exfalso;omega)|(refine yaS ?_ ?_<;>intro _)
    have lens : ∀ e ∈ ((L.take i).map Entry.id).map encI, e.length = 1 := fun e he => by
      obtain ⟨a, _, rfl⟩ := List.mem_map.1 he
      rfl
    refine Go.app1 (k := 0) (ys := ((L.take i).map Entry.id).map encI) (junk := junk) (z := encI L[i].id) rfl rfl rfl rfl rfl lens hjk rfl (by rw [List.length_map]; omega) fun v' junk' hj' => ?_
    rw [show ((L.take i).map Entry.id).map encI ++ [encI L[i].id] = ((L.take (i + 1)).map Entry.id).map encI by rw [List.take_succ_eq_append_getElem hlt3, List.map_append, List.map_append]; rfl]
    by_cases hi0 : i = 0
    · repeat' first|refine yaG ?_|(exfalso;omega)|(refine yaS ?_ ?_<;>intro _)
      all_goals first
        | (exfalso; omega)
        | skip
      exact Go.keep [3, 4, 5, 6, 7, 16, 17] (hrec _ _ _ (by omega) ⟨i + 1, _, v', junk', rfl, hlt3, wrap_succ hz (by omega), hj', rfl, rfl⟩)
    · have hz0 : (0 : Int) = ((0 : Nat) : Int) := rfl
      have e3 : IntKind.i64.wrap (z - 1) = ((i - 1 : Nat) : Int) := by rw [wrap64 (by omega) (by omega)]; omega
      have hlt4 : i - 1 < L.length := by omega
      have h0p : 0 < L[i - 1].key.length := by rw [hklen _ (List.getElem_mem hlt4)]; exact hpos
      have cOr := OrderL_ok L[i - 1].key[0] L[i].key[0]
      have hle : ¬ orderL L[i - 1].key[0] L[i].key[0] > 0 := by
        rw [orderL]
        split
        · have h := List.pairwise_iff_getElem.1 hsort (i - 1) i hlt4 hlt3 (by omega)
          have k1 : L[i - 1].key = L[i - 1].key[0] :: L[i - 1].key.drop 1 := by rw [← List.drop_eq_getElem_cons h0p]; rfl
          have k2 : L[i].key = L[i].key[0] :: L[i].key.drop 1 := by rw [← List.drop_eq_getElem_cons h0k]; rfl
          have := head_le h k1 k2
          omega
        · omega
      generalize orderL L[i - 1].key[0] L[i].key[0] = O at cOr hle
      repeat' first|refine yaG ?_|((first|apply yG|apply yH|apply yI);exact rfl;(first|exact yX (enc := encE) rfl rfl e3 hlt4 rfl|exact yX (enc := encE) rfl rfl hz hlt3 rfl|exact yX (enc := encV) rfl rfl hz0 h0p rfl|exact yX (enc := encV) rfl rfl hz0 h0k rfl))|refine yaC (cOr) ?_|(exfalso;omega)|(refine yaS ?_ ?_<;>intro _)
      all_goals first
        | (exfalso; omega)
        | skip
      exact Go.keep [3, 4, 5, 6, 7, 16, 17] (hrec _ _ _ (by omega) ⟨i + 1, _, v', junk', rfl, hlt3, wrap_succ hz (by omega), hj', rfl, rfl⟩)
  · have hlen2 : (L.length : Int) = db[m].rows.length := by omega
    repeat' first|refine yaG ?_|((first|apply yG|apply yH|apply yI);exact rfl;(first|exact yX (enc := encData) rfl rfl hnn hlt2 rfl))|refine yaC (cI) ?_|(exfalso;omega)|(refine yaS ?_ ?_<;>intro _)
    all_goals first
      | contradiction
      | (exfalso; omega)
      | skip
    exact .ret rfl (.bool rfl)
end Go.Proofs.YtdgnfdljkghpjaaGreat.Am

/- The statement of the law FnIndex: whatever its arguments are, it returns true, leaves what was there as it was, and ends. No condition. -/
namespace Go.Proofs.YtdgnfdljkghpjaaGreat.fnIndex
open Go.ChangeShapes Go.WideShapes Go.ChangeAt Go.RowKit Go.Proofs.YtdgnfdljkghpjaaGreat.Am
open Go.ChangeMaps (open_string shut_string)
set_option linter.unusedVariables false
theorem own : ownKnob Tryz.prog.godebug = none := by kernel_rfl
theorem laidOut : laidOutB Tryz.prog = true := by kernel_rfl
set_option maxRecDepth 100000 in
theorem lifted (os : Os) (started : os.Started) (H : Type) (enc : TypeId × Value → H) :
    ReturnsInHanded {} Tryz.checked os 6 .any (Rows.fnIndexSpec.pre6 enc Tryz.prog Tryz.f6 Rows.fnIndexRow.domain false) (Rows.fnIndexSpec.post enc Tryz.prog Tryz.f6 false true false false) := by
  refine returnsInHanded_of_change_sized (C := Tryz.checked) own started (by kernel_rfl) Tryz.func6
    (ChangeSpec.witness6 (enc := enc) (C := Tryz.checked) false ⟨#[], #[.slice none 0 0], []⟩ 8 (by kernel_rfl) (by kernel_rfl) (by kernel_rfl) (by kernel_rfl)) ?_
  intro W base args ds gs before hval0 hW hcnd hsz0 _
  have hval : ∀ (j : Nat) t v, Tryz.f6.params[j]? = some t → args[j]? = some v → Value.okWide Tryz.prog W .any base t v := hval0
  have hW' := hW
  obtain ⟨p, q, hA0, hV, rfl, hfz, hnd⟩ := hW
  have hA : DataW.TrodAll enc Tryz.prog W 0 (fun _ => true) true Tryz.f6.params.toList args.toList ds p := hA0
  rw [Tryz.params6] at hA hval
  have hsz : (DataW.weightsEach Tryz.prog (Tryz.f6.params.toList ++ Rows.fnIndexSpec.plain.varTypes Tryz.prog) (ds ++ gs)).all (· ≤ reachBytes) = true := hsz0
  rw [Tryz.params6] at hsz
  obtain ⟨v0, vs0, d0, ds0, p0, q0, hargs, rfl, rfl, h0, r0⟩ := trodAll_cons hA
  obtain ⟨rfl, rfl, rfl⟩ := trodAll_nil r0
  obtain rfl : args = #[v0] := by cases args; simp_all
  obtain ⟨rfl, rfl⟩ := trodVars_none hV
  obtain ⟨a0, g0, e0⟩ := Opens.c openBs (cells_slice Tryz.underlying22 (hval 0 22 v0 rfl rfl)) h0 (fun n hn => of_decide_eq_true (List.all_eq_true.1 hsz _ (DataW.weights_mem_each (j := 0) (t := 22) rfl rfl n hn)))
  have k0 := h0
  have lt0 : ∀ x ∈ p0, x.block < W.heap.size := by obtain ⟨m, hm⟩ := k0; exact DataW.trod_lt m _ _ _ hm
  clear hA0 hval0 hsz0 hsz
  refine ((Index_sound a0 ).calls (W := W) ⟨rfl, fun i hi => ?_⟩).mono fun e W' ⟨he, bel⟩ => ?_
  · match i, hi with
    | 0, _ => exact e0
  subst he
  exact ⟨_, rfl, _, _, _, [], _, [], hW', trodAll_mk1 (shut_bool Tryz.underlying4 _), (trodAll_cons_mk (Below.trod laidOut (by kernel_rfl) (of_decide_eq_true (by kernel_rfl)) k0 bel lt0) trodAll_mk0), rfl, bel.frame _, fun h => by cases h⟩
theorem spl {a b : Bool} (h : (a && b) = true) : a = true ∧ b = true := by cases a <;> cases b <;> simp_all
theorem and2 {a b : Bool} (h : a = true) (k : b = true) : (a && b) = true := by rw [h, k]; rfl
theorem facts0 : (Rows.fnIndexRow.wf (OpenSpec.ofChange Rows.fnIndexSpec) && laidOutB Tryz.pinned.checked.prog && mapsRowed Tryz.pinned.checked.prog && Tryz.f6.params.all (Tryz.pinned.checked.prog.readableRec ·) && namedTie Tryz.pinned.checked.prog Rows.fnIndexRow.named Rows.fnIndexSpec.vars && (Rows.fnIndexRow.stops == []) && (Tryz.pinned.checked.prog.stops == []) && (Rows.fnIndexRow.knobs == []) && (Tryz.pinned.checked.prog.stopKnobs == [])) = true := by kernel_rfl
theorem facts1 : ((Rows.fnIndexRow.inPlace == Tryz.pinned.checked.prog.inPlace 6) && (Rows.fnIndexRow.unfollowed == Tryz.pinned.checked.prog.unfollowed 6) && (Rows.fnIndexRow.recurses == Tryz.pinned.checked.prog.recurses 6) && (Rows.fnIndexRow.named == Tryz.pinned.checked.prog.varsNamed 6)) = true := by kernel_rfl
theorem facts2 : ((Rows.fnIndexRow.maps == (Tryz.f6.params.toList ++ Rows.fnIndexSpec.plain.varTypes Tryz.pinned.checked.prog).any (Tryz.pinned.checked.prog.mapsRec ·)) && (Rows.fnIndexRow.ifaces == (Tryz.f6.params.toList ++ Rows.fnIndexSpec.plain.varTypes Tryz.pinned.checked.prog).any (Tryz.pinned.checked.prog.ifacesRec ·)) && (Rows.fnIndexRow.mapsOut == Tryz.pinned.checked.prog.mapsAmong Tryz.f6.resultTypes.toList) && (Rows.fnIndexRow.loops == (Tryz.f6.params.toList ++ Rows.fnIndexSpec.plain.varTypes Tryz.pinned.checked.prog).any (Tryz.pinned.checked.prog.loopsFrom ·)) && (Rows.fnIndexRow.wideKeys == (Tryz.f6.params.toList ++ Rows.fnIndexSpec.plain.varTypes Tryz.pinned.checked.prog ++ Tryz.f6.resultTypes.toList).any (Tryz.pinned.checked.prog.wideKeysFrom ·)) && Rows.fnIndexSpec.vars.all (Tryz.pinned.checked.prog.varReadable ·)) = true := by kernel_rfl
theorem facts3 : (Tryz.f6.resultTypes.all (fun t => Tryz.pinned.checked.prog.readableRec t && decide (t < Tryz.pinned.checked.prog.types.size)) && (Rows.fnIndexRow.ifacesOut == Tryz.f6.resultTypes.toList.any (Tryz.pinned.checked.prog.ifacesRec ·)) && (Rows.fnIndexRow.loopsOut == Tryz.f6.resultTypes.toList.any (Tryz.pinned.checked.prog.loopsFrom ·)) && (Rows.fnIndexRow.plainKeys == Tryz.pinned.checked.prog.plainKeys) && Rows.fnIndexRow.shortTexts.isNone && (Tryz.pinned.checked.prog.make == some Rows.fnIndexRow.make) && (Rows.fnIndexRow.kinds == (if Rows.fnIndexRow.domain.isEmpty then [] else Tryz.f6.params.toList.map fun t => match Tryz.pinned.checked.prog.underlying t with | some (.int k) => some k | _ => none)) && (Rows.fnIndexRow.pinned == Rows.fnIndexRow.pinnedBy) && (Rows.fnIndexRow.veiled == (Tryz.f6.params.toList ++ Rows.fnIndexSpec.plain.varTypes Tryz.pinned.checked.prog ++ Tryz.f6.resultTypes.toList).any (Tryz.pinned.checked.prog.veiledRec ·)) && Rows.fnIndexRow.veiledFits Tryz.pinned.checked.prog Tryz.f6.params.toList (Tryz.f6.params.toList ++ Rows.fnIndexSpec.plain.varTypes Tryz.pinned.checked.prog ++ Tryz.f6.resultTypes.toList)) = true := by kernel_rfl
theorem facts4 : (Tryz.pinned.checked.prog.stopsHeard && Tryz.pinned.checked.prog.mayEnter && (Rows.fnIndexRow.lifted == Tryz.pinned.checked.prog.liftsFinal)) = true := by kernel_rfl
set_option maxRecDepth 100000 in
theorem closed : joinedFacts Tryz.pinned.checked.prog 6 Tryz.f6 Rows.fnIndexSpec Rows.fnIndexRow = true := by
  have g := facts0
  obtain ⟨g, p8⟩ := spl g
  obtain ⟨g, p7⟩ := spl g
  obtain ⟨g, p6⟩ := spl g
  obtain ⟨g, p5⟩ := spl g
  obtain ⟨g, p4⟩ := spl g
  obtain ⟨g, p3⟩ := spl g
  obtain ⟨g, p2⟩ := spl g
  obtain ⟨g, p1⟩ := spl g
  have p0 := g
  have g := facts1
  obtain ⟨g, p12⟩ := spl g
  obtain ⟨g, p11⟩ := spl g
  obtain ⟨g, p10⟩ := spl g
  have p9 := g
  have g := facts2
  obtain ⟨g, p18⟩ := spl g
  obtain ⟨g, p17⟩ := spl g
  obtain ⟨g, p16⟩ := spl g
  obtain ⟨g, p15⟩ := spl g
  obtain ⟨g, p14⟩ := spl g
  have p13 := g
  have g := facts3
  obtain ⟨g, p31⟩ := spl g
  obtain ⟨g, p30⟩ := spl g
  obtain ⟨g, p29⟩ := spl g
  obtain ⟨g, p28⟩ := spl g
  obtain ⟨g, p27⟩ := spl g
  obtain ⟨g, p23⟩ := spl g
  obtain ⟨g, p22⟩ := spl g
  obtain ⟨g, p21⟩ := spl g
  obtain ⟨g, p20⟩ := spl g
  have p19 := g
  have g := facts4
  obtain ⟨g, p26⟩ := spl g
  obtain ⟨g, p25⟩ := spl g
  have p24 := g
  exact (and2 (and2 (and2 (and2 (and2 (and2 (and2 (and2 (and2 (and2 (and2 (and2 (and2 (and2 (and2 (and2 (and2 (and2 (and2 (and2 (and2 (and2 (and2 (and2 (and2 (and2 (and2 (and2 (and2 (and2 (and2 p0 p1) p2) p3) p4) p5) p6) p7) p8) p9) p10) p11) p12) p13) p14) p15) p16) p17) p18) p19) p20) p21) p22) p23) p24) p25) p26) p27) p28) p29) p30) p31)
theorem over : Rows.fnIndexRow.holds Tryz.pinned (OpenSpec.ofChange Rows.fnIndexSpec) :=
  OpenClaim.holds_of_wide 6 Tryz.f6 rfl rfl rfl rfl rfl rfl rfl ⟨rfl, rfl, rfl, rfl, rfl⟩ rfl rfl rfl rfl rfl (by kernel_rfl) Tryz.func6 closed
    (of_decide_eq_true (by kernel_rfl)) (by unfold Func.isWrapper; first | (rw [if_pos (by decide +kernel)]; kernel_rfl) | (rw [if_neg (by decide +kernel)]; exact ⟨rfl, rfl⟩))
    (fun os started H enc _ => lifted os started H enc)
theorem proved : Rows.FnIndexSaid := over
end Go.Proofs.YtdgnfdljkghpjaaGreat.fnIndex
namespace Go.Proofs.YtdgnfdljkghpjaaGreat
/-- The row, under a short name, for the claim. -/
theorem fnIndex_holds : Rows.FnIndexSaid := fnIndex.proved
#print axioms fnIndex_holds
end Go.Proofs.YtdgnfdljkghpjaaGreat
