/- The statement of the law FnIndexPut: whatever its arguments are, it returns true, leaves what was there as it was, and ends. No condition. -/
import Derived.Test.YtdgnfdljkghpjaaGreatRows
import Derived.WalkKit
import Derived.ProofKit
import Derived.OpenShut
import Derived.ShutString
import Derived.ChangeOld
import Derived.Below
import Derived.SizedLaws
import Derived.Test.YtdgnfdljkghpjaaGreatV1
import Derived.Test.YtdgnfdljkghpjaaGreatV2
import Derived.Test.YtdgnfdljkghpjaaGreatV3
import Derived.Test.YtdgnfdljkghpjaaGreatV4
import Derived.Test.YtdgnfdljkghpjaaGreatV5
import Derived.Test.YtdgnfdljkghpjaaGreatV6
/- The law FnIndexPut: its function returns true. -/
set_option linter.unusedVariables false
set_option linter.unusedSimpArgs false
namespace Go.Proofs.YtdgnfdljkghpjaaGreat.Am

theorem PutF_in (l : List Entry) (e : Entry) : (PutF l e).1.length ≤ l.length + 1 ∧ ∀ q ∈ (PutF l e).1, q ∈ l ∨ q = e := by
  rw [PutF]
  split
  · have hp := putF_perm e l
    refine ⟨by show (putF e l).length ≤ _; rw [hp.length_eq]; simp, fun q hq => ?_⟩
    rcases List.mem_append.1 (hp.mem_iff.1 hq) with h | h
    · exact .inl h
    · exact .inr (List.mem_singleton.1 h)
  · exact ⟨Nat.zero_le _, fun q hq => by cases hq⟩
theorem dropF_in (l : List Entry) (e : Entry) : (dropF l e).1.length ≤ l.length ∧ ∀ q ∈ (dropF l e).1, q ∈ l := by
  rw [dropF]
  split
  · exact ⟨List.length_filter_le _ _, fun q hq => (List.mem_filter.1 hq).1⟩
  · exact ⟨Nat.zero_le _, fun q hq => by cases hq⟩
theorem IndexPutLaw_sound (code : List UInt8) : Pure Tryz.prog 3 [.c (.fz (code.map encB))] (.c (.bool true)) := by
  refine Pure.run mixed c_laws_FnIndexPut_ok (Nat.le_of_ble_eq_true rfl) fun σ hS hA => ?_
  clear hA
  have cb := big_ok code
  by_cases hc : 1048576 < (code.length : Int)
  · rw [decide_eq_true hc] at cb
    repeat' first|refine yaG ?_|refine yaC (cb) ?_|(exfalso;omega)|(refine yaS ?_ ?_<;>intro _)
    exact .ret rfl (.bool rfl)
  rw [decide_eq_false hc] at cb
  repeat' first|refine yaG ?_|refine yaC (cb) ?_|(exfalso;omega)|(refine yaS ?_ ?_<;>intro _)
  refine Go.told rfl rfl rfl (DrawIndexPut_ok code (by omega)) ?_
  rintro _ ⟨l, e, hl, hk, he, rfl⟩
  have hkl : ∀ q ∈ l, q.key.length ≤ 34359738368 := fun q hq => by rw [hk q hq]; decide
  have hke : e.key.length ≤ 34359738368 := by rw [he]; decide
  have c1 := NewV.pure (IndexPut_ok l e (by omega) hkl hke)
  have cS := sIndexPut_ok l e (by omega) hkl hke
  have cl := sameEntries_ok l (by omega) hkl
  obtain ⟨p1, p2⟩ := PutF_in l e
  have hpd := put_drop (l := l) (e := e)
  generalize PutF l e = P at c1 cS p1 p2 hpd
  obtain ⟨p, is⟩ := P
  simp only at c1 cS p1 p2 hpd
  have hkp : ∀ q ∈ p, q.key.length ≤ 34359738368 := fun q hq => by
    rcases p2 q hq with h | rfl
    · exact hkl q h
    · exact hke
  have cp := sameEntries_ok p (by omega) hkp
  have c2 := NewV.pure (IndexDrop_ok p e (by omega) hkp)
  repeat' first|refine yaG ?_|refine yaC (c1) ?_|refine yaC (cS) ?_|(exfalso;omega)|(refine yaS ?_ ?_<;>intro _)
  refine Go.told rfl rfl rfl (DrawIndexDrop_ok code (by omega)) ?_
  rintro _ ⟨m, x, hm, hkm, hxk, rfl⟩
  have hkml : ∀ q ∈ m, q.key.length ≤ 34359738368 := fun q hq => by rw [hkm q hq]; decide
  have hkx : x.key.length ≤ 34359738368 := by rw [hxk]; decide
  have c3 := NewV.pure (IndexDrop_ok m x (by omega) hkml)
  have c4 := NewV.pure (sIndexDrop_ok m x (by omega) hkml)
  have cm := sameEntries_ok m (by omega) hkml
  obtain ⟨d1, d2⟩ := dropF_in m x
  have hdp := drop_put (m := m) (x := x)
  generalize dropF m x = D at c3 c4 d1 d2 hdp
  obtain ⟨d, fine⟩ := D
  simp only at c3 c4 d1 d2 hdp
  have hkd : ∀ q ∈ d, q.key.length ≤ 34359738368 := fun q hq => hkml q (d2 q hq)
  have cd := sameEntries_ok d (by omega) hkd
  have c5 := NewV.pure (IndexPut_ok d x (by omega) hkd hkx)
  cases is <;> cases fine
  · repeat' first|refine yaG ?_|refine yaC (c3) ?_|refine yaC (c4) ?_|refine yaC (cp) ?_|refine yaC (cd) ?_|(exfalso;omega)|(refine yaS ?_ ?_<;>intro _)
    exact .ret rfl (.bool rfl)
  · rw [hdp rfl] at c5
    repeat' first|refine yaG ?_|refine yaC (c3) ?_|refine yaC (c4) ?_|refine yaC (c5) ?_|refine yaC (cp) ?_|refine yaC (cd) ?_|refine yaC (cm) ?_|(exfalso;omega)|(refine yaS ?_ ?_<;>intro _)
    exact .ret rfl (.bool rfl)
  · rw [hpd rfl] at c2
    repeat' first|refine yaG ?_|refine yaC (c3) ?_|refine yaC (c4) ?_|refine yaC (c2) ?_|refine yaC (cp) ?_|refine yaC (cd) ?_|refine yaC (cl) ?_|(exfalso;omega)|(refine yaS ?_ ?_<;>intro _)
    exact .ret rfl (.bool rfl)
  · rw [hdp rfl] at c5
    rw [hpd rfl] at c2
    repeat' first|refine yaG ?_|refine yaC (c3) ?_|refine yaC (c4) ?_|refine yaC (c5) ?_|refine yaC (c2) ?_|refine yaC (cp) ?_|refine yaC (cd) ?_|refine yaC (cm) ?_|refine yaC (cl) ?_|(exfalso;omega)|(refine yaS ?_ ?_<;>intro _)
    exact .ret rfl (.bool rfl)
end Go.Proofs.YtdgnfdljkghpjaaGreat.Am

/- The statement of the law FnIndexPut: whatever its arguments are, it returns true, leaves what was there as it was, and ends. No condition. -/
namespace Go.Proofs.YtdgnfdljkghpjaaGreat.fnIndexPut
open Go.ChangeShapes Go.WideShapes Go.ChangeAt Go.RowKit Go.Proofs.YtdgnfdljkghpjaaGreat.Am
open Go.ChangeMaps (open_string shut_string)
set_option linter.unusedVariables false
theorem own : ownKnob Tryz.prog.godebug = none := by kernel_rfl
theorem laidOut : laidOutB Tryz.prog = true := by kernel_rfl
set_option maxRecDepth 100000 in
theorem lifted (os : Os) (started : os.Started) (H : Type) (enc : TypeId × Value → H) :
    ReturnsInHanded {} Tryz.checked os 3 .any (Rows.fnIndexPutSpec.pre6 enc Tryz.prog Tryz.f3 Rows.fnIndexPutRow.domain false) (Rows.fnIndexPutSpec.post enc Tryz.prog Tryz.f3 false true false false) := by
  refine returnsInHanded_of_change_sized (C := Tryz.checked) own started (by kernel_rfl) Tryz.func3
    (ChangeSpec.witness6 (enc := enc) (C := Tryz.checked) false ⟨#[], #[.slice none 0 0], []⟩ 8 (by kernel_rfl) (by kernel_rfl) (by kernel_rfl) (by kernel_rfl)) ?_
  intro W base args ds gs before hval0 hW hcnd hsz0 _
  have hval : ∀ (j : Nat) t v, Tryz.f3.params[j]? = some t → args[j]? = some v → Value.okWide Tryz.prog W .any base t v := hval0
  have hW' := hW
  obtain ⟨p, q, hA0, hV, rfl, hfz, hnd⟩ := hW
  have hA : DataW.TrodAll enc Tryz.prog W 0 (fun _ => true) true Tryz.f3.params.toList args.toList ds p := hA0
  rw [Tryz.params3] at hA hval
  have hsz : (DataW.weightsEach Tryz.prog (Tryz.f3.params.toList ++ Rows.fnIndexPutSpec.plain.varTypes Tryz.prog) (ds ++ gs)).all (· ≤ reachBytes) = true := hsz0
  rw [Tryz.params3] at hsz
  obtain ⟨v0, vs0, d0, ds0, p0, q0, hargs, rfl, rfl, h0, r0⟩ := trodAll_cons hA
  obtain ⟨rfl, rfl, rfl⟩ := trodAll_nil r0
  obtain rfl : args = #[v0] := by cases args; simp_all
  obtain ⟨rfl, rfl⟩ := trodVars_none hV
  obtain ⟨a0, g0, e0⟩ := Opens.c openBs (cells_slice Tryz.underlying22 (hval 0 22 v0 rfl rfl)) h0 (fun n hn => of_decide_eq_true (List.all_eq_true.1 hsz _ (DataW.weights_mem_each (j := 0) (t := 22) rfl rfl n hn)))
  have k0 := h0
  have lt0 : ∀ x ∈ p0, x.block < W.heap.size := by obtain ⟨m, hm⟩ := k0; exact DataW.trod_lt m _ _ _ hm
  clear hA0 hval0 hsz0 hsz
  refine ((IndexPutLaw_sound a0 ).calls (W := W) ⟨rfl, fun i hi => ?_⟩).mono fun e W' ⟨he, bel⟩ => ?_
  · match i, hi with
    | 0, _ => exact e0
  subst he
  exact ⟨_, rfl, _, _, _, [], _, [], hW', trodAll_mk1 (shut_bool Tryz.underlying4 _), (trodAll_cons_mk (Below.trod laidOut (by kernel_rfl) (of_decide_eq_true (by kernel_rfl)) k0 bel lt0) trodAll_mk0), rfl, bel.frame _, fun h => by cases h⟩
theorem spl {a b : Bool} (h : (a && b) = true) : a = true ∧ b = true := by cases a <;> cases b <;> simp_all
theorem and2 {a b : Bool} (h : a = true) (k : b = true) : (a && b) = true := by rw [h, k]; rfl
theorem facts0 : (Rows.fnIndexPutRow.wf (OpenSpec.ofChange Rows.fnIndexPutSpec) && laidOutB Tryz.pinned.checked.prog && mapsRowed Tryz.pinned.checked.prog && Tryz.f3.params.all (Tryz.pinned.checked.prog.readableRec ·) && namedTie Tryz.pinned.checked.prog Rows.fnIndexPutRow.named Rows.fnIndexPutSpec.vars && (Rows.fnIndexPutRow.stops == []) && (Tryz.pinned.checked.prog.stops == []) && (Rows.fnIndexPutRow.knobs == []) && (Tryz.pinned.checked.prog.stopKnobs == [])) = true := by kernel_rfl
theorem facts1 : ((Rows.fnIndexPutRow.inPlace == Tryz.pinned.checked.prog.inPlace 3) && (Rows.fnIndexPutRow.unfollowed == Tryz.pinned.checked.prog.unfollowed 3) && (Rows.fnIndexPutRow.recurses == Tryz.pinned.checked.prog.recurses 3) && (Rows.fnIndexPutRow.named == Tryz.pinned.checked.prog.varsNamed 3)) = true := by kernel_rfl
theorem facts2 : ((Rows.fnIndexPutRow.maps == (Tryz.f3.params.toList ++ Rows.fnIndexPutSpec.plain.varTypes Tryz.pinned.checked.prog).any (Tryz.pinned.checked.prog.mapsRec ·)) && (Rows.fnIndexPutRow.ifaces == (Tryz.f3.params.toList ++ Rows.fnIndexPutSpec.plain.varTypes Tryz.pinned.checked.prog).any (Tryz.pinned.checked.prog.ifacesRec ·)) && (Rows.fnIndexPutRow.mapsOut == Tryz.pinned.checked.prog.mapsAmong Tryz.f3.resultTypes.toList) && (Rows.fnIndexPutRow.loops == (Tryz.f3.params.toList ++ Rows.fnIndexPutSpec.plain.varTypes Tryz.pinned.checked.prog).any (Tryz.pinned.checked.prog.loopsFrom ·)) && (Rows.fnIndexPutRow.wideKeys == (Tryz.f3.params.toList ++ Rows.fnIndexPutSpec.plain.varTypes Tryz.pinned.checked.prog ++ Tryz.f3.resultTypes.toList).any (Tryz.pinned.checked.prog.wideKeysFrom ·)) && Rows.fnIndexPutSpec.vars.all (Tryz.pinned.checked.prog.varReadable ·)) = true := by kernel_rfl
theorem facts3 : (Tryz.f3.resultTypes.all (fun t => Tryz.pinned.checked.prog.readableRec t && decide (t < Tryz.pinned.checked.prog.types.size)) && (Rows.fnIndexPutRow.ifacesOut == Tryz.f3.resultTypes.toList.any (Tryz.pinned.checked.prog.ifacesRec ·)) && (Rows.fnIndexPutRow.loopsOut == Tryz.f3.resultTypes.toList.any (Tryz.pinned.checked.prog.loopsFrom ·)) && (Rows.fnIndexPutRow.plainKeys == Tryz.pinned.checked.prog.plainKeys) && Rows.fnIndexPutRow.shortTexts.isNone && (Tryz.pinned.checked.prog.make == some Rows.fnIndexPutRow.make) && (Rows.fnIndexPutRow.kinds == (if Rows.fnIndexPutRow.domain.isEmpty then [] else Tryz.f3.params.toList.map fun t => match Tryz.pinned.checked.prog.underlying t with | some (.int k) => some k | _ => none)) && (Rows.fnIndexPutRow.pinned == Rows.fnIndexPutRow.pinnedBy) && (Rows.fnIndexPutRow.veiled == (Tryz.f3.params.toList ++ Rows.fnIndexPutSpec.plain.varTypes Tryz.pinned.checked.prog ++ Tryz.f3.resultTypes.toList).any (Tryz.pinned.checked.prog.veiledRec ·)) && Rows.fnIndexPutRow.veiledFits Tryz.pinned.checked.prog Tryz.f3.params.toList (Tryz.f3.params.toList ++ Rows.fnIndexPutSpec.plain.varTypes Tryz.pinned.checked.prog ++ Tryz.f3.resultTypes.toList)) = true := by kernel_rfl
theorem facts4 : (Tryz.pinned.checked.prog.stopsHeard && Tryz.pinned.checked.prog.mayEnter && (Rows.fnIndexPutRow.lifted == Tryz.pinned.checked.prog.liftsFinal)) = true := by kernel_rfl
set_option maxRecDepth 100000 in
theorem closed : joinedFacts Tryz.pinned.checked.prog 3 Tryz.f3 Rows.fnIndexPutSpec Rows.fnIndexPutRow = true := by
  have g := facts0
  obtain ⟨g, p8⟩ := spl g
  obtain ⟨g, p7⟩ := spl g
  obtain ⟨g, p6⟩ := spl g
  obtain ⟨g, p5⟩ := spl g
  obtain ⟨g, p4⟩ := spl g
  obtain ⟨g, p3⟩ := spl g
  obtain ⟨g, p2⟩ := spl g
  obtain ⟨g, p1⟩ := spl g
  have p0 := g
  have g := facts1
  obtain ⟨g, p12⟩ := spl g
  obtain ⟨g, p11⟩ := spl g
  obtain ⟨g, p10⟩ := spl g
  have p9 := g
  have g := facts2
  obtain ⟨g, p18⟩ := spl g
  obtain ⟨g, p17⟩ := spl g
  obtain ⟨g, p16⟩ := spl g
  obtain ⟨g, p15⟩ := spl g
  obtain ⟨g, p14⟩ := spl g
  have p13 := g
  have g := facts3
  obtain ⟨g, p31⟩ := spl g
  obtain ⟨g, p30⟩ := spl g
  obtain ⟨g, p29⟩ := spl g
  obtain ⟨g, p28⟩ := spl g
  obtain ⟨g, p27⟩ := spl g
  obtain ⟨g, p23⟩ := spl g
  obtain ⟨g, p22⟩ := spl g
  obtain ⟨g, p21⟩ := spl g
  obtain ⟨g, p20⟩ := spl g
  have p19 := g
  have g := facts4
  obtain ⟨g, p26⟩ := spl g
  obtain ⟨g, p25⟩ := spl g
  have p24 := g
  exact (and2 (and2 (and2 (and2 (and2 (and2 (and2 (and2 (and2 (and2 (and2 (and2 (and2 (and2 (and2 (and2 (and2 (and2 (and2 (and2 (and2 (and2 (and2 (and2 (and2 (and2 (and2 (and2 (and2 (and2 (and2 p0 p1) p2) p3) p4) p5) p6) p7) p8) p9) p10) p11) p12) p13) p14) p15) p16) p17) p18) p19) p20) p21) p22) p23) p24) p25) p26) p27) p28) p29) p30) p31)
theorem over : Rows.fnIndexPutRow.holds Tryz.pinned (OpenSpec.ofChange Rows.fnIndexPutSpec) :=
  OpenClaim.holds_of_wide 3 Tryz.f3 rfl rfl rfl rfl rfl rfl rfl ⟨rfl, rfl, rfl, rfl, rfl⟩ rfl rfl rfl rfl rfl (by kernel_rfl) Tryz.func3 closed
    (of_decide_eq_true (by kernel_rfl)) (by unfold Func.isWrapper; first | (rw [if_pos (by decide +kernel)]; kernel_rfl) | (rw [if_neg (by decide +kernel)]; exact ⟨rfl, rfl⟩))
    (fun os started H enc _ => lifted os started H enc)
theorem proved : Rows.FnIndexPutSaid := over
end Go.Proofs.YtdgnfdljkghpjaaGreat.fnIndexPut
namespace Go.Proofs.YtdgnfdljkghpjaaGreat
/-- The row, under a short name, for the claim. -/
theorem fnIndexPut_holds : Rows.FnIndexPutSaid := fnIndexPut.proved
#print axioms fnIndexPut_holds
end Go.Proofs.YtdgnfdljkghpjaaGreat
