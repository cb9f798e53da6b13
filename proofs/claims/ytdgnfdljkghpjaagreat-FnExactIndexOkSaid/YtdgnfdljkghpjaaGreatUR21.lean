/- The statement of the law FnExactIndexOk: whatever its arguments are, it returns true, leaves what was there as it was, and ends. No condition. -/
import Derived.Test.YtdgnfdljkghpjaaGreatRows
import Derived.WalkKit
import Derived.ProofKit
import Derived.OpenShut
import Derived.ShutString
import Derived.ChangeOld
import Derived.Below
import Derived.SizedLaws
import Derived.Test.YtdgnfdljkghpjaaGreatU1
import Derived.Test.YtdgnfdljkghpjaaGreatU2
import Derived.Test.YtdgnfdljkghpjaaGreatU3
import Derived.Test.YtdgnfdljkghpjaaGreatU4
import Derived.Test.YtdgnfdljkghpjaaGreatU5
import Derived.Test.YtdgnfdljkghpjaaGreatU6
/- The law FnExactIndexOk: its function returns true. -/
set_option linter.unusedVariables false
set_option linter.unusedSimpArgs false
namespace Go.Proofs.YtdgnfdljkghpjaaGreat.Am

theorem IndexOk_sound (s : List Table) (db : List Data) (n : Int) (cols : List Int) (l : List Entry) (b0_1 : s.length ≤ 1125899906842624) (b0_2 : ∀ x ∈ s, bTable 1125899906842624 x) (b1_1 : db.length ≤ 1125899906842624) (b1_2 : ∀ x ∈ db, bData 1125899906842624 x) (b3_1 : cols.length ≤ 1125899906842624) (b4_1 : l.length ≤ 1125899906842624) (b4_2 : ∀ x ∈ l, LenE x) :
    Pure Tryz.prog 4 [.c (.fz (s.map encTable)), .c (.fz (db.map encData)), .c (.int .i64 n), .c (.fz (cols.map encI)), .c (.fz (l.map encE))] (.c (.bool true)) := by
  refine Pure.run mixed c_laws_FnExactIndexOk_ok (Nat.le_of_ble_eq_true rfl) fun σ hS hA => ?_
  clear hS hA
  repeat' first|refine yaG ?_|(exfalso;omega)|(refine yaS ?_ ?_<;>intro _)
  · exact .ret rfl (.bool rfl)
  rename_i g3
  have h3_1 : cols.length ≤ 34359738368 := by omega
  have z0 := szL_le zTable_le s 1048576 (by decide)
  have f0 := fun (h : 0 ≤ szL zTable s 1048576) => list_of (N := 34359738368) zTable_le (fun a l N h0 h hl => bTable_of a l N h0 h hl) (xs := s) (l := 1048576) (by omega) h (by omega)
  refine .pcall rfl rfl rfl (szTableS_ok s 1048576 b0_1 b0_2 (by omega) (by omega)) ?_
  generalize szL zTable s 1048576 = l0 at z0 f0 ⊢
  repeat' first|refine yaG ?_|(exfalso;omega)|(refine yaS ?_ ?_<;>intro _)
  · exact .ret rfl (.bool rfl)
  rename_i g0
  obtain ⟨h0_1, h0_2⟩ := f0 (by omega)
  have z1 := szL_le zData_le db l0 (by omega)
  have f1 := fun (h : 0 ≤ szL zData db l0) => list_of (N := 34359738368) zData_le (fun a l N h0 h hl => bData_of a l N h0 h hl) (xs := db) (l := l0) (by omega) h (by omega)
  refine .pcall rfl rfl rfl (szDataS_ok db l0 b1_1 b1_2 (by omega) (by omega)) ?_
  generalize szL zData db l0 = l1 at z1 f1 ⊢
  repeat' first|refine yaG ?_|(exfalso;omega)|(refine yaS ?_ ?_<;>intro _)
  · exact .ret rfl (.bool rfl)
  rename_i g1
  obtain ⟨h1_1, h1_2⟩ := f1 (by omega)
  have z4 := szL_le szE_le l l1 (by omega)
  have f4 := fun (h : 0 ≤ szL szE l l1) => ents_of (xs := l) (l := l1) (by omega) h (by omega)
  refine .pcall rfl rfl rfl (szEntryS_ok l l1 b4_1 b4_2 (by omega) (by omega)) ?_
  generalize szL szE l l1 = l4 at z4 f4 ⊢
  repeat' first|refine yaG ?_|(exfalso;omega)|(refine yaS ?_ ?_<;>intro _)
  · exact .ret rfl (.bool rfl)
  rename_i g4
  obtain ⟨h4_1, h4_2⟩ := f4 (by omega)
  have t0 := New.pure (toTableS_ok s h0_1 h0_2)
  have t1 := New.pure (toDataS_ok db h1_1 h1_2)
  have t3 := New.pure (toInt64S_ok cols h3_1)
  have t4 := New.pure (toEntryS_ok l h4_1 h4_2)
  have c1 := sIndexOk_ok s db n cols l h0_1 h0_2 h1_1 h1_2 h3_1
  have c2 := IndexOk_ok s db n cols l h0_1 h0_2 h1_1 h1_2 h3_1
  have q0 := eqTableS_ok s s h0_1 h0_2
  have q1 := eqDataS_ok db db h1_1 h1_2
  have q3 := eqInt64S_ok cols cols h3_1
  have q4 := eqEntryS_ok l l h4_1 h4_2
  rw [beq_self_eq_true] at q0 q1 q3 q4
  generalize IndexOkF s db n cols l = B at c1 c2
  clear f0 f1 f4 z0 z1 z4 g0 g1 g4 g3
  repeat' first|(apply yA;exact rfl)|apply yB|apply yC|((first|apply yD|apply yE);(first|exact yF|assumption);iterate 6 exact rfl)|((first|apply yG|apply yH|apply yI);exact rfl;(first|exact yJ|exact yK rfl rfl|exact yL rfl|exact yM rfl|exact aop_neB rfl rfl|exact rfl|exact aL rfl rfl rfl rfl rfl|exact aS rfl rfl rfl rfl rfl rfl rfl))|((first|apply yN|apply yO|apply yP);exact rfl)|((first|apply yQ|apply yR|apply yS);(iterate 3 exact rfl);(first|exact t0|exact t1|exact t3|exact t4|exact c1|exact c2|exact q0|exact q1|exact q3|exact q4))|(exfalso;omega)|(((first|apply yT|apply yU|apply yV|apply yW);exact rfl;(first|exact .d|exact .e|exact .n|((fail_if_success exact bqt);(fail_if_success exact bqf);exact .b)))<;>intro _)
  all_goals first
    | exact .ret rfl (.bool rfl)
    | (exfalso; simp_all; done)
end Go.Proofs.YtdgnfdljkghpjaaGreat.Am

/- The statement of the law FnExactIndexOk: whatever its arguments are, it returns true, leaves what was there as it was, and ends. No condition. -/
namespace Go.Proofs.YtdgnfdljkghpjaaGreat.fnExactIndexOk
open Go.ChangeShapes Go.WideShapes Go.ChangeAt Go.RowKit Go.Proofs.YtdgnfdljkghpjaaGreat.Am
open Go.ChangeMaps (open_string shut_string)
set_option linter.unusedVariables false
theorem own : ownKnob Tryz.prog.godebug = none := by kernel_rfl
theorem laidOut : laidOutB Tryz.prog = true := by kernel_rfl
set_option maxRecDepth 100000 in
theorem lifted (os : Os) (started : os.Started) (H : Type) (enc : TypeId × Value → H) :
    ReturnsInHanded {} Tryz.checked os 4 .any (Rows.fnExactIndexOkSpec.pre6 enc Tryz.prog Tryz.f4 Rows.fnExactIndexOkRow.domain false) (Rows.fnExactIndexOkSpec.post enc Tryz.prog Tryz.f4 false true false false) := by
  refine returnsInHanded_of_change_sized (C := Tryz.checked) own started (by kernel_rfl) Tryz.func4
    (ChangeSpec.witness6 (enc := enc) (C := Tryz.checked) false ⟨#[], #[.slice none 0 0, .slice none 0 0, .int .i64 0, .slice none 0 0, .slice none 0 0], []⟩ 8 (by kernel_rfl) (by kernel_rfl) (by kernel_rfl) (by kernel_rfl)) ?_
  intro W base args ds gs before hval0 hW hcnd hsz0 _
  have hval : ∀ (j : Nat) t v, Tryz.f4.params[j]? = some t → args[j]? = some v → Value.okWide Tryz.prog W .any base t v := hval0
  have hW' := hW
  obtain ⟨p, q, hA0, hV, rfl, hfz, hnd⟩ := hW
  have hA : DataW.TrodAll enc Tryz.prog W 0 (fun _ => true) true Tryz.f4.params.toList args.toList ds p := hA0
  rw [Tryz.params4] at hA hval
  have hsz : (DataW.weightsEach Tryz.prog (Tryz.f4.params.toList ++ Rows.fnExactIndexOkSpec.plain.varTypes Tryz.prog) (ds ++ gs)).all (· ≤ reachBytes) = true := hsz0
  rw [Tryz.params4] at hsz
  obtain ⟨v0, vs0, d0, ds0, p0, q0, hargs, rfl, rfl, h0, r0⟩ := trodAll_cons hA
  obtain ⟨v1, vs1, d1, ds1, p1, q1, rfl, rfl, rfl, h1, r1⟩ := trodAll_cons r0
  obtain ⟨v2, vs2, d2, ds2, p2, q2, rfl, rfl, rfl, h2, r2⟩ := trodAll_cons r1
  obtain ⟨v3, vs3, d3, ds3, p3, q3, rfl, rfl, rfl, h3, r3⟩ := trodAll_cons r2
  obtain ⟨v4, vs4, d4, ds4, p4, q4, rfl, rfl, rfl, h4, r4⟩ := trodAll_cons r3
  obtain ⟨rfl, rfl, rfl⟩ := trodAll_nil r4
  obtain rfl : args = #[v0, v1, v2, v3, v4] := by cases args; simp_all
  obtain ⟨rfl, rfl⟩ := trodVars_none hV
  obtain ⟨a0, g0, e0⟩ := Opens.c openTables (cells_slice Tryz.underlying33 (hval 0 33 v0 rfl rfl)) h0 (fun n hn => of_decide_eq_true (List.all_eq_true.1 hsz _ (DataW.weights_mem_each (j := 0) (t := 33) rfl rfl n hn)))
  have k0 := h0
  have lt0 : ∀ x ∈ p0, x.block < W.heap.size := by obtain ⟨m, hm⟩ := k0; exact DataW.trod_lt m _ _ _ hm
  obtain ⟨a1, g1, e1⟩ := Opens.c openDatas (cells_slice Tryz.underlying34 (hval 1 34 v1 rfl rfl)) h1 (fun n hn => of_decide_eq_true (List.all_eq_true.1 hsz _ (DataW.weights_mem_each (j := 1) (t := 34) rfl rfl n hn)))
  have k1 := h1
  have lt1 : ∀ x ∈ p1, x.block < W.heap.size := by obtain ⟨m, hm⟩ := k1; exact DataW.trod_lt m _ _ _ hm
  obtain ⟨a2, g2, e2⟩ := Opens.c (Opens.int Tryz.underlying2) (cells_int Tryz.underlying2 (hval 2 2 v2 rfl rfl)) h2 (fun n hn => of_decide_eq_true (List.all_eq_true.1 hsz _ (DataW.weights_mem_each (j := 2) (t := 2) rfl rfl n hn)))
  have k2 := h2
  have lt2 : ∀ x ∈ p2, x.block < W.heap.size := by obtain ⟨m, hm⟩ := k2; exact DataW.trod_lt m _ _ _ hm
  obtain ⟨a3, g3, e3⟩ := Opens.c openIs (cells_slice Tryz.underlying35 (hval 3 35 v3 rfl rfl)) h3 (fun n hn => of_decide_eq_true (List.all_eq_true.1 hsz _ (DataW.weights_mem_each (j := 3) (t := 35) rfl rfl n hn)))
  have k3 := h3
  have lt3 : ∀ x ∈ p3, x.block < W.heap.size := by obtain ⟨m, hm⟩ := k3; exact DataW.trod_lt m _ _ _ hm
  obtain ⟨a4, g4, e4⟩ := Opens.c openEs (cells_slice Tryz.underlying36 (hval 4 36 v4 rfl rfl)) h4 (fun n hn => of_decide_eq_true (List.all_eq_true.1 hsz _ (DataW.weights_mem_each (j := 4) (t := 36) rfl rfl n hn)))
  have k4 := h4
  have lt4 : ∀ x ∈ p4, x.block < W.heap.size := by obtain ⟨m, hm⟩ := k4; exact DataW.trod_lt m _ _ _ hm
  clear hA0 hval0 hsz0 hsz
  refine ((IndexOk_sound a0 a1 a2 a3 a4 (Nat.le_trans g0.1 (by decide)) g0.2 (Nat.le_trans g1.1 (by decide)) g1.2 (Nat.le_trans g3 (by decide)) (Nat.le_trans g4.1 (by decide)) g4.2).calls (W := W) ⟨rfl, fun i hi => ?_⟩).mono fun e W' ⟨he, bel⟩ => ?_
  · match i, hi with
    | 0, _ => exact e0
    | 1, _ => exact e1
    | 2, _ => exact e2
    | 3, _ => exact e3
    | 4, _ => exact e4
  subst he
  exact ⟨_, rfl, _, _, _, [], _, [], hW', trodAll_mk1 (shut_bool Tryz.underlying4 _), (trodAll_cons_mk (Below.trod laidOut (by kernel_rfl) (of_decide_eq_true (by kernel_rfl)) k0 bel lt0) (trodAll_cons_mk (Below.trod laidOut (by kernel_rfl) (of_decide_eq_true (by kernel_rfl)) k1 bel lt1) (trodAll_cons_mk (Below.trod laidOut (by kernel_rfl) (of_decide_eq_true (by kernel_rfl)) k2 bel lt2) (trodAll_cons_mk (Below.trod laidOut (by kernel_rfl) (of_decide_eq_true (by kernel_rfl)) k3 bel lt3) (trodAll_cons_mk (Below.trod laidOut (by kernel_rfl) (of_decide_eq_true (by kernel_rfl)) k4 bel lt4) trodAll_mk0))))), rfl, bel.frame _, fun h => by cases h⟩
theorem spl {a b : Bool} (h : (a && b) = true) : a = true ∧ b = true := by cases a <;> cases b <;> simp_all
theorem and2 {a b : Bool} (h : a = true) (k : b = true) : (a && b) = true := by rw [h, k]; rfl
theorem facts0 : (Rows.fnExactIndexOkRow.wf (OpenSpec.ofChange Rows.fnExactIndexOkSpec) && laidOutB Tryz.pinned.checked.prog && mapsRowed Tryz.pinned.checked.prog && Tryz.f4.params.all (Tryz.pinned.checked.prog.readableRec ·) && namedTie Tryz.pinned.checked.prog Rows.fnExactIndexOkRow.named Rows.fnExactIndexOkSpec.vars && (Rows.fnExactIndexOkRow.stops == []) && (Tryz.pinned.checked.prog.stops == []) && (Rows.fnExactIndexOkRow.knobs == []) && (Tryz.pinned.checked.prog.stopKnobs == [])) = true := by kernel_rfl
theorem facts1 : ((Rows.fnExactIndexOkRow.inPlace == Tryz.pinned.checked.prog.inPlace 4) && (Rows.fnExactIndexOkRow.unfollowed == Tryz.pinned.checked.prog.unfollowed 4) && (Rows.fnExactIndexOkRow.recurses == Tryz.pinned.checked.prog.recurses 4) && (Rows.fnExactIndexOkRow.named == Tryz.pinned.checked.prog.varsNamed 4)) = true := by kernel_rfl
theorem facts2 : ((Rows.fnExactIndexOkRow.maps == (Tryz.f4.params.toList ++ Rows.fnExactIndexOkSpec.plain.varTypes Tryz.pinned.checked.prog).any (Tryz.pinned.checked.prog.mapsRec ·)) && (Rows.fnExactIndexOkRow.ifaces == (Tryz.f4.params.toList ++ Rows.fnExactIndexOkSpec.plain.varTypes Tryz.pinned.checked.prog).any (Tryz.pinned.checked.prog.ifacesRec ·)) && (Rows.fnExactIndexOkRow.mapsOut == Tryz.pinned.checked.prog.mapsAmong Tryz.f4.resultTypes.toList) && (Rows.fnExactIndexOkRow.loops == (Tryz.f4.params.toList ++ Rows.fnExactIndexOkSpec.plain.varTypes Tryz.pinned.checked.prog).any (Tryz.pinned.checked.prog.loopsFrom ·)) && (Rows.fnExactIndexOkRow.wideKeys == (Tryz.f4.params.toList ++ Rows.fnExactIndexOkSpec.plain.varTypes Tryz.pinned.checked.prog ++ Tryz.f4.resultTypes.toList).any (Tryz.pinned.checked.prog.wideKeysFrom ·)) && Rows.fnExactIndexOkSpec.vars.all (Tryz.pinned.checked.prog.varReadable ·)) = true := by kernel_rfl
theorem facts3 : (Tryz.f4.resultTypes.all (fun t => Tryz.pinned.checked.prog.readableRec t && decide (t < Tryz.pinned.checked.prog.types.size)) && (Rows.fnExactIndexOkRow.ifacesOut == Tryz.f4.resultTypes.toList.any (Tryz.pinned.checked.prog.ifacesRec ·)) && (Rows.fnExactIndexOkRow.loopsOut == Tryz.f4.resultTypes.toList.any (Tryz.pinned.checked.prog.loopsFrom ·)) && (Rows.fnExactIndexOkRow.plainKeys == Tryz.pinned.checked.prog.plainKeys) && Rows.fnExactIndexOkRow.shortTexts.isNone && (Tryz.pinned.checked.prog.make == some Rows.fnExactIndexOkRow.make) && (Rows.fnExactIndexOkRow.kinds == (if Rows.fnExactIndexOkRow.domain.isEmpty then [] else Tryz.f4.params.toList.map fun t => match Tryz.pinned.checked.prog.underlying t with | some (.int k) => some k | _ => none)) && (Rows.fnExactIndexOkRow.pinned == Rows.fnExactIndexOkRow.pinnedBy) && (Rows.fnExactIndexOkRow.veiled == (Tryz.f4.params.toList ++ Rows.fnExactIndexOkSpec.plain.varTypes Tryz.pinned.checked.prog ++ Tryz.f4.resultTypes.toList).any (Tryz.pinned.checked.prog.veiledRec ·)) && Rows.fnExactIndexOkRow.veiledFits Tryz.pinned.checked.prog Tryz.f4.params.toList (Tryz.f4.params.toList ++ Rows.fnExactIndexOkSpec.plain.varTypes Tryz.pinned.checked.prog ++ Tryz.f4.resultTypes.toList)) = true := by kernel_rfl
theorem facts4 : (Tryz.pinned.checked.prog.stopsHeard && Tryz.pinned.checked.prog.mayEnter && (Rows.fnExactIndexOkRow.lifted == Tryz.pinned.checked.prog.liftsFinal)) = true := by kernel_rfl
set_option maxRecDepth 100000 in
theorem closed : joinedFacts Tryz.pinned.checked.prog 4 Tryz.f4 Rows.fnExactIndexOkSpec Rows.fnExactIndexOkRow = true := by
  have g := facts0
  obtain ⟨g, p8⟩ := spl g
  obtain ⟨g, p7⟩ := spl g
  obtain ⟨g, p6⟩ := spl g
  obtain ⟨g, p5⟩ := spl g
  obtain ⟨g, p4⟩ := spl g
  obtain ⟨g, p3⟩ := spl g
  obtain ⟨g, p2⟩ := spl g
  obtain ⟨g, p1⟩ := spl g
  have p0 := g
  have g := facts1
  obtain ⟨g, p12⟩ := spl g
  obtain ⟨g, p11⟩ := spl g
  obtain ⟨g, p10⟩ := spl g
  have p9 := g
  have g := facts2
  obtain ⟨g, p18⟩ := spl g
  obtain ⟨g, p17⟩ := spl g
  obtain ⟨g, p16⟩ := spl g
  obtain ⟨g, p15⟩ := spl g
  obtain ⟨g, p14⟩ := spl g
  have p13 := g
  have g := facts3
  obtain ⟨g, p31⟩ := spl g
  obtain ⟨g, p30⟩ := spl g
  obtain ⟨g, p29⟩ := spl g
  obtain ⟨g, p28⟩ := spl g
  obtain ⟨g, p27⟩ := spl g
  obtain ⟨g, p23⟩ := spl g
  obtain ⟨g, p22⟩ := spl g
  obtain ⟨g, p21⟩ := spl g
  obtain ⟨g, p20⟩ := spl g
  have p19 := g
  have g := facts4
  obtain ⟨g, p26⟩ := spl g
  obtain ⟨g, p25⟩ := spl g
  have p24 := g
  exact (and2 (and2 (and2 (and2 (and2 (and2 (and2 (and2 (and2 (and2 (and2 (and2 (and2 (and2 (and2 (and2 (and2 (and2 (and2 (and2 (and2 (and2 (and2 (and2 (and2 (and2 (and2 (and2 (and2 (and2 (and2 p0 p1) p2) p3) p4) p5) p6) p7) p8) p9) p10) p11) p12) p13) p14) p15) p16) p17) p18) p19) p20) p21) p22) p23) p24) p25) p26) p27) p28) p29) p30) p31)
theorem over : Rows.fnExactIndexOkRow.holds Tryz.pinned (OpenSpec.ofChange Rows.fnExactIndexOkSpec) :=
  OpenClaim.holds_of_wide 4 Tryz.f4 rfl rfl rfl rfl rfl rfl rfl ⟨rfl, rfl, rfl, rfl, rfl⟩ rfl rfl rfl rfl rfl (by kernel_rfl) Tryz.func4 closed
    (of_decide_eq_true (by kernel_rfl)) (by unfold Func.isWrapper; first | (rw [if_pos (by decide +kernel)]; kernel_rfl) | (rw [if_neg (by decide +kernel)]; exact ⟨rfl, rfl⟩))
    (fun os started H enc _ => lifted os started H enc)
theorem proved : Rows.FnExactIndexOkSaid := over
end Go.Proofs.YtdgnfdljkghpjaaGreat.fnExactIndexOk
namespace Go.Proofs.YtdgnfdljkghpjaaGreat
/-- The row, under a short name, for the claim. -/
theorem fnExactIndexOk_holds : Rows.FnExactIndexOkSaid := fnExactIndexOk.proved
#print axioms fnExactIndexOk_holds
end Go.Proofs.YtdgnfdljkghpjaaGreat
