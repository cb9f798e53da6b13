/- The statement of the law FnExactInsertRow: whatever its arguments are, it returns true, leaves what was there as it was, and ends. No condition. -/
import Derived.Test.YtmmgbgpglhbhcaaGreatRows
import Derived.WalkKit
import Derived.ProofKit
import Derived.OpenShut
import Derived.ShutString
import Derived.ChangeOld
import Derived.Below
import Derived.SizedLaws
import Derived.Test.YtmmgbgpglhbhcaaGreatU1
import Derived.Test.YtmmgbgpglhbhcaaGreatU2
import Derived.Test.YtmmgbgpglhbhcaaGreatU3
import Derived.Test.YtmmgbgpglhbhcaaGreatU4
import Derived.Test.YtmmgbgpglhbhcaaGreatU5
import Derived.Test.YtmmgbgpglhbhcaaGreatU6
import Derived.Test.YtmmgbgpglhbhcaaGreatU7
set_option linter.unusedVariables false
set_option linter.unusedSimpArgs false
namespace Go.Proofs.YtmmgbgpglhbhcaaGreat.Am
theorem InsertRow_sound (s : List Table) (db : List Data) (n : Int) (vals : List Val) (rep : Bool) (b0_1 : s.length ≤ 1125899906842624) (b0_2 : ∀ x ∈ s, bTable 1125899906842624 x) (b1_1 : db.length ≤ 1125899906842624) (b1_2 : ∀ x ∈ db, bData 1125899906842624 x) (b3_1 : vals.length ≤ 1125899906842624) (b3_2 : ∀ x ∈ vals, LenV x) : Pure Tryz.prog 5 [.c (.fz (s.map encTable)), .c (.fz (db.map encData)), .c (.int .i64 n), .c (.fz (vals.map encV)), .c (.bool rep)] (.c (.bool true)) := by
  refine Pure.run2 mixed c_laws_FnExactInsertRow_ok (Nat.le_of_ble_eq_true rfl) fun σ hS => ?_
  clear hS
  have hend : ∀ τ : Store, (∀ id, id < σ.next → τ.get id = σ.get id) → Ends σ (.c (.bool true)) (.c (.bool true)) τ := fun τ h => ⟨h, solid_end⟩
  have hold : ∀ id, id < σ.next → (E σ []).get id = σ.get id := fun id h => E_lt h
  have hm0 : σ.next ≤ (E σ []).next := by rw [E_next]; omega
  generalize E σ [] = τ0 at hold hm0 ⊢
  repeat' first|refine yaG ?_|(exfalso;omega)|(refine yaS ?_ ?_<;>intro _)
  have z0 := szL_le zTable_le s 1048576 (by omega)
  have f0 := fun (h : 0 ≤ szL zTable s 1048576) => list_of (N := 34359738368) zTable_le (fun a l N h0 h hl => bTable_of a l N h0 h hl) (xs := s) (l := 1048576) (by omega) h (by omega)
  have c0 := fun (h : 0 ≤ szL zTable s 1048576) => szL_cnt8 zTable_le cntTable_sz s 1048576 (by omega) h
  refine .pcall rfl rfl rfl (szTableS_ok s 1048576 b0_1 b0_2 (by omega) (by omega)) ?_
  generalize szL zTable s 1048576 = l0 at z0 f0 c0 ⊢
  repeat' first|refine yaG ?_|(exfalso;omega)|(refine yaS ?_ ?_<;>intro _)
  · exact .ret rfl (hend _ hold)
  rename_i g0
  obtain ⟨h0_1, h0_2⟩ := f0 (by omega)
  have c0 := c0 (by omega)
  clear f0 b0_1 b0_2
  repeat' first|refine yaG ?_|(exfalso;omega)|(refine yaS ?_ ?_<;>intro _)
  have z1 := szL_le zData_le db l0 (by omega)
  have f1 := fun (h : 0 ≤ szL zData db l0) => list_of (N := 34359738368) zData_le (fun a l N h0 h hl => bData_of a l N h0 h hl) (xs := db) (l := l0) (by omega) h (by omega)
  have c1 := fun (h : 0 ≤ szL zData db l0) => szL_cnt8 zData_le cntData_sz db l0 (by omega) h
  refine .pcall rfl rfl rfl (szDataS_ok db l0 b1_1 b1_2 (by omega) (by omega)) ?_
  generalize szL zData db l0 = l1 at z1 f1 c1 ⊢
  repeat' first|refine yaG ?_|(exfalso;omega)|(refine yaS ?_ ?_<;>intro _)
  · exact .ret rfl (hend _ hold)
  rename_i g1
  obtain ⟨h1_1, h1_2⟩ := f1 (by omega)
  have c1 := c1 (by omega)
  clear f1 b1_1 b1_2
  repeat' first|refine yaG ?_|(exfalso;omega)|(refine yaS ?_ ?_<;>intro _)
  have z3 := szL_le szV_le vals l1 (by omega)
  have f3 := fun (h : 0 ≤ szL szV vals l1) => list_of (N := 34359738368) szV_le (fun _ _ _ _ h hl => bV_of h hl) (xs := vals) (l := l1) (by omega) h (by omega)
  have c3 := fun (h : 0 ≤ szL szV vals l1) => szL_cnt8 szV_le szV_cnt vals l1 (by omega) h
  refine .pcall rfl rfl rfl (szValS_ok vals l1 b3_1 b3_2 (by omega) (by omega)) ?_
  generalize szL szV vals l1 = l3 at z3 f3 c3 ⊢
  repeat' first|refine yaG ?_|(exfalso;omega)|(refine yaS ?_ ?_<;>intro _)
  · exact .ret rfl (hend _ hold)
  rename_i g3
  obtain ⟨h3_1, h3_2⟩ := f3 (by omega)
  have c3 := c3 (by omega)
  clear f3 b3_1 b3_2
  have cn0 := cntL_nonneg (c := cntTable) cntTable_nonneg s
  have cn1 := cntL_nonneg (c := cntData) cntData_nonneg db
  have cn3 := cntL_nonneg (c := (fun _ => 3)) (fun _ => by decide) vals
  have himpl := InsertRow_new s db n vals rep h0_1 h0_2 h1_1 h1_2 h3_1 h3_2
  have hspec := sInsertRow_ok s db n vals rep h0_1 h0_2 h1_1 h1_2 h3_1 h3_2
  have t0 := New.pure (toTableS_ok s h0_1 h0_2)
  have t1 := New.pure (toDataS_ok db h1_1 h1_2)
  have t3 := New.pure (toValS_ok vals h3_1)
  obtain ⟨w1, w2, w3⟩ := InsertRow_fact s db n vals rep h0_1 h0_2 h1_1 h1_2 h3_1 h3_2
  generalize (InsF s db n vals rep).1 = ws at himpl hspec w1 w2 w3
  generalize (InsF s db n vals rep).2.1 = B1 at himpl hspec
  generalize (InsF s db n vals rep).2.2 = B2 at himpl hspec
  repeat' first|refine yaG ?_|refine yaC (t0) ?_|refine yaC (t1) ?_|refine yaC (t3) ?_|(exfalso;omega)|(refine yaS ?_ ?_<;>intro _)
  first | refine .spcall rfl rfl rfl hspec ?_ | refine .pcall rfl rfl rfl hspec ?_
  repeat' first|refine yaG ?_|(exfalso;omega)|(refine yaS ?_ ?_<;>intro _)
  first | refine .call _ rfl rfl rfl (toTableS_ok s h0_1 h0_2 _) ?_ | refine .scall _ rfl rfl rfl (toTableS_ok s h0_1 h0_2 _) ?_
  intro r τ1 hq
  obtain ⟨x0, rfl, gr, hh0⟩ := New.openC hq
  have hold : ∀ id, id < σ.next → τ1.get id = σ.get id := fun id h => (gr.lt (by omega)).trans (hold id h)
  have hm1 := gr.next
  generalize hmq0 : τ0.next = m0 at hm0 hm1 hh0
  clear hq gr hmq0
  repeat' first|refine yaG ?_|(exfalso;omega)|(refine yaS ?_ ?_<;>intro _)
  first | refine .call _ rfl rfl rfl (toDataS_ok db h1_1 h1_2 _) ?_ | refine .scall _ rfl rfl rfl (toDataS_ok db h1_1 h1_2 _) ?_
  intro r τ2 hq
  obtain ⟨x1, rfl, gr, hh1⟩ := New.openC hq
  have hh0 := hh0.frame fun a ha => gr.lt (by have := ha.2; omega)
  have hold : ∀ id, id < σ.next → τ2.get id = σ.get id := fun id h => (gr.lt (by omega)).trans (hold id h)
  have hm2 := gr.next
  generalize hmq1 : τ1.next = m1 at hm1 hm2 hh1
  simp only [hmq1] at hh0
  clear hq gr hmq1
  repeat' first|refine yaG ?_|(exfalso;omega)|(refine yaS ?_ ?_<;>intro _)
  first | refine .call _ rfl rfl rfl (toValS_ok vals h3_1 _) ?_ | refine .scall _ rfl rfl rfl (toValS_ok vals h3_1 _) ?_
  intro r τ3 hq
  obtain ⟨x3, rfl, gr, hh3⟩ := New.openC hq
  have hh0 := hh0.frame fun a ha => gr.lt (by have := ha.2; omega)
  have hh1 := hh1.frame fun a ha => gr.lt (by have := ha.2; omega)
  have hold : ∀ id, id < σ.next → τ3.get id = σ.get id := fun id h => (gr.lt (by omega)).trans (hold id h)
  have hm3 := gr.next
  generalize hmq2 : τ2.next = m2 at hm2 hm3 hh3
  simp only [hmq2] at hh1
  clear hq gr hmq2
  repeat' first|refine yaG ?_|(exfalso;omega)|(refine yaS ?_ ?_<;>intro _)
  first | refine .call _ rfl rfl rfl (Lend.new (.own (HasV.c hh0).lend (.own (HasV.c hh1).lend (.same (.own (HasV.c hh3).lend (.same .nil))))) himpl) ?_ | refine .scall _ rfl rfl rfl (Lend.new (.own (HasV.c hh0).lend (.own (HasV.c hh1).lend (.same (.own (HasV.c hh3).lend (.same .nil))))) himpl) ?_
  intro r τr hq
  obtain ⟨g, rfl, gr, hhr⟩ := new3_open (.int _ _) (.int _ _) hq
  have hh0 := hh0.frame fun a ha => gr.lt (by have := ha.2; omega)
  have hh1 := hh1.frame fun a ha => gr.lt (by have := ha.2; omega)
  have hh3 := hh3.frame fun a ha => gr.lt (by have := ha.2; omega)
  have hold : ∀ id, id < σ.next → τr.get id = σ.get id := fun id h => (gr.lt (by omega)).trans (hold id h)
  have hmr := gr.next
  generalize hmq : τ3.next = m3 at hm3 hmr hhr
  simp only [hmq] at hh3
  clear hq gr hmq
  repeat' first|refine yaG ?_|(exfalso;omega)|(refine yaS ?_ ?_<;>intro _)
  first | refine Go.lcall rfl rfl rfl (eqDataS_ok ws ws w1 w2) (.bool _) (.own (HasV.c hhr).lend (.same .nil)) ?_ | refine Go.slcall rfl rfl rfl (eqDataS_ok ws ws w1 w2) (.bool _) (.own (HasV.c hhr).lend (.same .nil)) ?_
  rw [beq_self_eq_true]
  repeat' first|(apply yA;exact rfl)|apply yB|apply yC|((first|apply yD|apply yE);(first|exact yF|assumption);iterate 6 exact rfl)|((first|apply yG|apply yH|apply yI);exact rfl;(first|exact yJ|exact yK rfl rfl|exact yL rfl|exact yM rfl|exact aop_neB rfl rfl|exact rfl|exact aL rfl rfl rfl rfl rfl|exact aS rfl rfl rfl rfl rfl rfl rfl))|((first|apply yN|apply yO|apply yP);exact rfl)|((first|apply yQ|apply yR|apply yS);(iterate 3 exact rfl);exact t0)|(exfalso;omega)|(((first|apply yT|apply yU|apply yV|apply yW);exact rfl;(first|exact .d|exact .e|exact .n|((fail_if_success exact bqt);(fail_if_success exact bqf);exact .b)))<;>intro _)
  first | refine Go.lcall rfl rfl rfl (eqTableS_ok s s h0_1 h0_2) (.bool _) (.own (HasV.c hh0).lend (.same .nil)) ?_ | refine Go.slcall rfl rfl rfl (eqTableS_ok s s h0_1 h0_2) (.bool _) (.own (HasV.c hh0).lend (.same .nil)) ?_
  rw [beq_self_eq_true]
  repeat' first|(apply yA;exact rfl)|apply yB|apply yC|((first|apply yD|apply yE);(first|exact yF|assumption);iterate 6 exact rfl)|((first|apply yG|apply yH|apply yI);exact rfl;(first|exact yJ|exact yK rfl rfl|exact yL rfl|exact yM rfl|exact aop_neB rfl rfl|exact rfl|exact aL rfl rfl rfl rfl rfl|exact aS rfl rfl rfl rfl rfl rfl rfl))|((first|apply yN|apply yO|apply yP);exact rfl)|((first|apply yQ|apply yR|apply yS);(iterate 3 exact rfl);exact t1)|(exfalso;omega)|(((first|apply yT|apply yU|apply yV|apply yW);exact rfl;(first|exact .d|exact .e|exact .n|((fail_if_success exact bqt);(fail_if_success exact bqf);exact .b)))<;>intro _)
  first | refine Go.lcall rfl rfl rfl (eqDataS_ok db db h1_1 h1_2) (.bool _) (.own (HasV.c hh1).lend (.same .nil)) ?_ | refine Go.slcall rfl rfl rfl (eqDataS_ok db db h1_1 h1_2) (.bool _) (.own (HasV.c hh1).lend (.same .nil)) ?_
  rw [beq_self_eq_true]
  repeat' first|(apply yA;exact rfl)|apply yB|apply yC|((first|apply yD|apply yE);(first|exact yF|assumption);iterate 6 exact rfl)|((first|apply yG|apply yH|apply yI);exact rfl;(first|exact yJ|exact yK rfl rfl|exact yL rfl|exact yM rfl|exact aop_neB rfl rfl|exact rfl|exact aL rfl rfl rfl rfl rfl|exact aS rfl rfl rfl rfl rfl rfl rfl))|((first|apply yN|apply yO|apply yP);exact rfl)|((first|apply yQ|apply yR|apply yS);(iterate 3 exact rfl);exact t3)|(exfalso;omega)|(((first|apply yT|apply yU|apply yV|apply yW);exact rfl;(first|exact .d|exact .e|exact .n|((fail_if_success exact bqt);(fail_if_success exact bqf);exact .b)))<;>intro _)
  first | refine Go.lcall rfl rfl rfl (eqValS_ok vals vals h3_1) (.bool _) (.own (HasV.c hh3).lend (.same .nil)) ?_ | refine Go.slcall rfl rfl rfl (eqValS_ok vals vals h3_1) (.bool _) (.own (HasV.c hh3).lend (.same .nil)) ?_
  rw [beq_self_eq_true]
  repeat' first|refine yaG ?_|(exfalso;omega)|(refine yaS ?_ ?_<;>intro _)
  refine .call _ rfl rfl rfl ((markTableS_ok s 1 h0_1 h0_2 (by omega) (by omega)).at_ _ _ _ hh0) ?_
  rintro r τm0 ⟨rfl, hnx, hfr, -⟩
  have hh1 := hh1.frame (fun a ha => hfr a fun h => by have := ha.1; have := h.2; omega)
  have hh3 := hh3.frame (fun a ha => hfr a fun h => by have := ha.1; have := h.2; omega)
  have hhr := hhr.frame (fun a ha => hfr a fun h => by have := ha.1; have := h.2; omega)
  have hold : ∀ id, id < σ.next → τm0.get id = σ.get id := fun id h => (hfr id fun h' => by have := h'.1; omega).trans (hold id h)
  obtain ⟨k1, hk1⟩ : ∃ z, 1 + cntL cntTable s = z := ⟨_, rfl⟩
  rw [hk1]
  have hkb1 : 1 ≤ k1 ∧ k1 ≤ 8388616 + 8 * 1 - 8 * l0 := by omega
  clear hfr hh0 hk1 hnx
  repeat' first|refine yaG ?_|(exfalso;omega)|(refine yaS ?_ ?_<;>intro _)
  refine .call _ rfl rfl rfl ((markDataS_ok db k1 h1_1 h1_2 (by omega) (by omega)).at_ _ _ _ hh1) ?_
  rintro r τm1 ⟨rfl, hnx, hfr, -⟩
  have hh3 := hh3.frame (fun a ha => hfr a fun h => by have := ha.1; have := h.2; omega)
  have hhr := hhr.frame (fun a ha => hfr a fun h => by have := ha.1; have := h.2; omega)
  have hold : ∀ id, id < σ.next → τm1.get id = σ.get id := fun id h => (hfr id fun h' => by have := h'.1; omega).trans (hold id h)
  obtain ⟨k2, hk2⟩ : ∃ z, k1 + cntL cntData db = z := ⟨_, rfl⟩
  rw [hk2]
  have hkb2 : 1 ≤ k2 ∧ k2 ≤ 8388616 + 8 * 2 - 8 * l1 := by omega
  clear hfr hh1 hk2 hnx
  repeat' first|refine yaG ?_|(exfalso;omega)|(refine yaS ?_ ?_<;>intro _)
  refine .call _ rfl rfl rfl ((markValS_ok vals k2 h3_1 (by omega) (by omega)).at_ _ _ _ hh3) ?_
  rintro r τm2 ⟨rfl, hnx, hfr, -⟩
  have hhr := hhr.frame (fun a ha => hfr a fun h => by have := ha.1; have := h.2; omega)
  have hold : ∀ id, id < σ.next → τm2.get id = σ.get id := fun id h => (hfr id fun h' => by have := h'.1; omega).trans (hold id h)
  obtain ⟨k3, hk3⟩ : ∃ z, k2 + cntL (fun _ => 3) vals = z := ⟨_, rfl⟩
  rw [hk3]
  have hkb3 : 1 ≤ k3 ∧ k3 ≤ 8388616 + 8 * 3 - 8 * l3 := by omega
  clear hfr hh3 hk3 hnx
  repeat' first|refine yaG ?_|(exfalso;omega)|(refine yaS ?_ ?_<;>intro _)
  first | refine Go.lcall rfl rfl rfl (eqDataS_ok ws ws w1 w2) (.bool _) (.own (HasV.c hhr).lend (.same .nil)) ?_ | refine Go.slcall rfl rfl rfl (eqDataS_ok ws ws w1 w2) (.bool _) (.own (HasV.c hhr).lend (.same .nil)) ?_
  rw [beq_self_eq_true]
  repeat' first|(apply yA;exact rfl)|apply yB|apply yC|((first|apply yD|apply yE);(first|exact yF|assumption);iterate 6 exact rfl)|((first|apply yG|apply yH|apply yI);exact rfl;(first|exact yJ|exact yK rfl rfl|exact yL rfl|exact yM rfl|exact aop_neB rfl rfl|exact rfl|exact aL rfl rfl rfl rfl rfl|exact aS rfl rfl rfl rfl rfl rfl rfl))|((first|apply yN|apply yO|apply yP);exact rfl)|(exfalso;omega)|(((first|apply yT|apply yU|apply yV|apply yW);exact rfl;(first|exact .d|exact .e|exact .n|((fail_if_success exact bqt);(fail_if_success exact bqf);exact .b)))<;>intro _)
  refine .call _ rfl rfl rfl ((markDataS_ok ws 1 w1 w2 (by omega) (by omega)).at_ _ _ _ hhr) ?_
  rintro r τw ⟨rfl, hnx, hfr, hhr⟩
  have hold : ∀ id, id < σ.next → τw.get id = σ.get id := fun id h => (hfr id fun h' => by have := h'.1; omega).trans (hold id h)
  have hhc := heldDataS_at ws w1 w2 w3
  generalize markL markData cntData ws 1 = ms at hhr hhc
  have w4 : 0 ≤ 1 + cntL cntData ws := by have := heldDataS_nn ws; omega
  generalize 1 + cntL cntData ws = k9 at hhc w4 ⊢
  clear hfr hnx
  repeat' first|refine yaG ?_|(exfalso;omega)|(refine yaS ?_ ?_<;>intro _)
  first | refine Go.lcall rfl rfl rfl (hhc) (.int _ _) (.own (HasV.c hhr).lend (.same .nil)) ?_ | refine Go.slcall rfl rfl rfl (hhc) (.int _ _) (.own (HasV.c hhr).lend (.same .nil)) ?_
  repeat' first|refine yaG ?_|refine yaC (t0) ?_|refine yaC (t1) ?_|refine yaC (t3) ?_|(exfalso;omega)|(refine yaS ?_ ?_<;>intro _)
  first | refine .spcall rfl rfl rfl (NewV.pure himpl) ?_ | refine .pcall rfl rfl rfl (NewV.pure himpl) ?_
  have hee := eqDataS_ok ws ws w1 w2
  rw [beq_self_eq_true] at hee
  repeat' first|(apply yA;exact rfl)|apply yB|apply yC|((first|apply yD|apply yE);(first|exact yF|assumption);iterate 6 exact rfl)|((first|apply yG|apply yH|apply yI);exact rfl;(first|exact yJ|exact yK rfl rfl|exact yL rfl|exact yM rfl|exact aop_neB rfl rfl|exact rfl|exact aL rfl rfl rfl rfl rfl|exact aS rfl rfl rfl rfl rfl rfl rfl))|((first|apply yN|apply yO|apply yP);exact rfl)|((first|apply yQ|apply yR|apply yS);(iterate 3 exact rfl);exact hee)|(exfalso;omega)|(((first|apply yT|apply yU|apply yV|apply yW);exact rfl;(first|exact .d|exact .e|exact .n|((fail_if_success exact bqt);(fail_if_success exact bqf);exact .b)))<;>intro _)
  first | refine Go.lcall rfl rfl rfl (hhc) (.int _ _) (.own (HasV.c hhr).lend (.same .nil)) ?_ | refine Go.slcall rfl rfl rfl (hhc) (.int _ _) (.own (HasV.c hhr).lend (.same .nil)) ?_
  repeat' first|refine yaG ?_|(exfalso;omega)|(refine yaS ?_ ?_<;>intro _)
  exact .ret rfl ⟨hold, solid_end⟩
end Go.Proofs.YtmmgbgpglhbhcaaGreat.Am
namespace Go.Proofs.YtmmgbgpglhbhcaaGreat.fnExactInsertRow
open Go.ChangeShapes Go.WideShapes Go.ChangeAt Go.RowKit Go.Proofs.YtmmgbgpglhbhcaaGreat.Am
open Go.ChangeMaps (open_string shut_string)
theorem own : ownKnob Tryz.prog.godebug = none := by kernel_rfl
theorem laidOut : laidOutB Tryz.prog = true := by kernel_rfl
set_option maxRecDepth 100000 in
theorem lifted (os : Os) (started : os.Started) (H : Type) (enc : TypeId × Value → H) :
    ReturnsInHanded {} Tryz.checked os 5 .any (Rows.fnExactInsertRowSpec.pre6 enc Tryz.prog Tryz.f5 Rows.fnExactInsertRowRow.domain false) (Rows.fnExactInsertRowSpec.post enc Tryz.prog Tryz.f5 false true false false) := by
  refine returnsInHanded_of_change_sized (C := Tryz.checked) own started (by kernel_rfl) Tryz.func5
    (ChangeSpec.witness6 (enc := enc) (C := Tryz.checked) false ⟨#[], #[.slice none 0 0, .slice none 0 0, .int .i64 0, .slice none 0 0, .bool false], []⟩ 8 (by kernel_rfl) (by kernel_rfl) (by kernel_rfl) (by kernel_rfl)) ?_
  intro W base args ds gs before hval0 hW hcnd hsz0 _
  have hval : ∀ (j : Nat) t v, Tryz.f5.params[j]? = some t → args[j]? = some v → Value.okWide Tryz.prog W .any base t v := hval0
  have hW' := hW
  obtain ⟨p, q, hA0, hV, rfl, hfz, hnd⟩ := hW
  have hA : DataW.TrodAll enc Tryz.prog W 0 (fun _ => true) true Tryz.f5.params.toList args.toList ds p := hA0
  rw [Tryz.params5] at hA hval
  have hsz : (DataW.weightsEach Tryz.prog (Tryz.f5.params.toList ++ Rows.fnExactInsertRowSpec.plain.varTypes Tryz.prog) (ds ++ gs)).all (· ≤ reachBytes) = true := hsz0
  rw [Tryz.params5] at hsz
  obtain ⟨v0, vs0, d0, ds0, p0, q0, hargs, rfl, rfl, h0, r0⟩ := trodAll_cons hA
  obtain ⟨v1, vs1, d1, ds1, p1, q1, rfl, rfl, rfl, h1, r1⟩ := trodAll_cons r0
  obtain ⟨v2, vs2, d2, ds2, p2, q2, rfl, rfl, rfl, h2, r2⟩ := trodAll_cons r1
  obtain ⟨v3, vs3, d3, ds3, p3, q3, rfl, rfl, rfl, h3, r3⟩ := trodAll_cons r2
  obtain ⟨v4, vs4, d4, ds4, p4, q4, rfl, rfl, rfl, h4, r4⟩ := trodAll_cons r3
  obtain ⟨rfl, rfl, rfl⟩ := trodAll_nil r4
  obtain rfl : args = #[v0, v1, v2, v3, v4] := by cases args; simp_all
  obtain ⟨rfl, rfl⟩ := trodVars_none hV
  obtain ⟨a0, g0, e0⟩ := Opens.c openTables (cells_slice Tryz.underlying22 (hval 0 22 v0 rfl rfl)) h0 (fun n hn => of_decide_eq_true (List.all_eq_true.1 hsz _ (DataW.weights_mem_each (j := 0) (t := 22) rfl rfl n hn)))
  have k0 := h0
  have lt0 : ∀ x ∈ p0, x.block < W.heap.size := by obtain ⟨m, hm⟩ := k0; exact DataW.trod_lt m _ _ _ hm
  obtain ⟨a1, g1, e1⟩ := Opens.c openDatas (cells_slice Tryz.underlying23 (hval 1 23 v1 rfl rfl)) h1 (fun n hn => of_decide_eq_true (List.all_eq_true.1 hsz _ (DataW.weights_mem_each (j := 1) (t := 23) rfl rfl n hn)))
  have k1 := h1
  have lt1 : ∀ x ∈ p1, x.block < W.heap.size := by obtain ⟨m, hm⟩ := k1; exact DataW.trod_lt m _ _ _ hm
  obtain ⟨a2, g2, e2⟩ := Opens.c (Opens.int Tryz.underlying2) (cells_int Tryz.underlying2 (hval 2 2 v2 rfl rfl)) h2 (fun n hn => of_decide_eq_true (List.all_eq_true.1 hsz _ (DataW.weights_mem_each (j := 2) (t := 2) rfl rfl n hn)))
  have k2 := h2
  have lt2 : ∀ x ∈ p2, x.block < W.heap.size := by obtain ⟨m, hm⟩ := k2; exact DataW.trod_lt m _ _ _ hm
  obtain ⟨a3, g3, e3⟩ := Opens.c openVs (cells_slice Tryz.underlying37 (hval 3 37 v3 rfl rfl)) h3 (fun n hn => of_decide_eq_true (List.all_eq_true.1 hsz _ (DataW.weights_mem_each (j := 3) (t := 37) rfl rfl n hn)))
  have k3 := h3
  have lt3 : ∀ x ∈ p3, x.block < W.heap.size := by obtain ⟨m, hm⟩ := k3; exact DataW.trod_lt m _ _ _ hm
  obtain ⟨a4, g4, e4⟩ := Opens.c (Opens.bool Tryz.underlying4) (cells_bool Tryz.underlying4 (hval 4 4 v4 rfl rfl)) h4 (fun n hn => of_decide_eq_true (List.all_eq_true.1 hsz _ (DataW.weights_mem_each (j := 4) (t := 4) rfl rfl n hn)))
  have k4 := h4
  have lt4 : ∀ x ∈ p4, x.block < W.heap.size := by obtain ⟨m, hm⟩ := k4; exact DataW.trod_lt m _ _ _ hm
  clear hA0 hval0 hsz0 hsz
  refine ((InsertRow_sound a0 a1 a2 a3 a4 (Nat.le_trans g0.1 (by decide)) g0.2 (Nat.le_trans g1.1 (by decide)) g1.2 (Nat.le_trans g3.1 (by decide)) g3.2).calls (W := W) ⟨rfl, fun i hi => ?_⟩).mono fun e W' ⟨he, bel⟩ => ?_
  · match i, hi with
    | 0, _ => exact e0
    | 1, _ => exact e1
    | 2, _ => exact e2
    | 3, _ => exact e3
    | 4, _ => exact e4
  subst he
  exact ⟨_, rfl, _, _, _, [], _, [], hW', trodAll_mk1 (shut_bool Tryz.underlying4 _), (trodAll_cons_mk (Below.trod laidOut (by kernel_rfl) (of_decide_eq_true (by kernel_rfl)) k0 bel lt0) (trodAll_cons_mk (Below.trod laidOut (by kernel_rfl) (of_decide_eq_true (by kernel_rfl)) k1 bel lt1) (trodAll_cons_mk (Below.trod laidOut (by kernel_rfl) (of_decide_eq_true (by kernel_rfl)) k2 bel lt2) (trodAll_cons_mk (Below.trod laidOut (by kernel_rfl) (of_decide_eq_true (by kernel_rfl)) k3 bel lt3) (trodAll_cons_mk (Below.trod laidOut (by kernel_rfl) (of_decide_eq_true (by kernel_rfl)) k4 bel lt4) trodAll_mk0))))), rfl, bel.frame _, fun h => by cases h⟩
theorem spl {a b : Bool} (h : (a && b) = true) : a = true ∧ b = true := by cases a <;> cases b <;> simp_all
theorem and2 {a b : Bool} (h : a = true) (k : b = true) : (a && b) = true := by rw [h, k]; rfl
theorem facts0 : (Rows.fnExactInsertRowRow.wf (OpenSpec.ofChange Rows.fnExactInsertRowSpec) && laidOutB Tryz.pinned.checked.prog && mapsRowed Tryz.pinned.checked.prog && Tryz.f5.params.all (Tryz.pinned.checked.prog.readableRec ·) && namedTie Tryz.pinned.checked.prog Rows.fnExactInsertRowRow.named Rows.fnExactInsertRowSpec.vars && (Rows.fnExactInsertRowRow.stops == []) && (Tryz.pinned.checked.prog.stops == []) && (Rows.fnExactInsertRowRow.knobs == []) && (Tryz.pinned.checked.prog.stopKnobs == [])) = true := by kernel_rfl
theorem facts1 : ((Rows.fnExactInsertRowRow.inPlace == Tryz.pinned.checked.prog.inPlace 5) && (Rows.fnExactInsertRowRow.unfollowed == Tryz.pinned.checked.prog.unfollowed 5) && (Rows.fnExactInsertRowRow.recurses == Tryz.pinned.checked.prog.recurses 5) && (Rows.fnExactInsertRowRow.named == Tryz.pinned.checked.prog.varsNamed 5)) = true := by kernel_rfl
theorem facts2 : ((Rows.fnExactInsertRowRow.maps == (Tryz.f5.params.toList ++ Rows.fnExactInsertRowSpec.plain.varTypes Tryz.pinned.checked.prog).any (Tryz.pinned.checked.prog.mapsRec ·)) && (Rows.fnExactInsertRowRow.ifaces == (Tryz.f5.params.toList ++ Rows.fnExactInsertRowSpec.plain.varTypes Tryz.pinned.checked.prog).any (Tryz.pinned.checked.prog.ifacesRec ·)) && (Rows.fnExactInsertRowRow.mapsOut == Tryz.pinned.checked.prog.mapsAmong Tryz.f5.resultTypes.toList) && (Rows.fnExactInsertRowRow.loops == (Tryz.f5.params.toList ++ Rows.fnExactInsertRowSpec.plain.varTypes Tryz.pinned.checked.prog).any (Tryz.pinned.checked.prog.loopsFrom ·)) && (Rows.fnExactInsertRowRow.wideKeys == (Tryz.f5.params.toList ++ Rows.fnExactInsertRowSpec.plain.varTypes Tryz.pinned.checked.prog ++ Tryz.f5.resultTypes.toList).any (Tryz.pinned.checked.prog.wideKeysFrom ·)) && Rows.fnExactInsertRowSpec.vars.all (Tryz.pinned.checked.prog.varReadable ·)) = true := by kernel_rfl
theorem facts3 : (Tryz.f5.resultTypes.all (fun t => Tryz.pinned.checked.prog.readableRec t && decide (t < Tryz.pinned.checked.prog.types.size)) && (Rows.fnExactInsertRowRow.ifacesOut == Tryz.f5.resultTypes.toList.any (Tryz.pinned.checked.prog.ifacesRec ·)) && (Rows.fnExactInsertRowRow.loopsOut == Tryz.f5.resultTypes.toList.any (Tryz.pinned.checked.prog.loopsFrom ·)) && (Rows.fnExactInsertRowRow.plainKeys == Tryz.pinned.checked.prog.plainKeys) && Rows.fnExactInsertRowRow.shortTexts.isNone && (Tryz.pinned.checked.prog.make == some Rows.fnExactInsertRowRow.make) && (Rows.fnExactInsertRowRow.kinds == (if Rows.fnExactInsertRowRow.domain.isEmpty then [] else Tryz.f5.params.toList.map fun t => match Tryz.pinned.checked.prog.underlying t with | some (.int k) => some k | _ => none)) && (Rows.fnExactInsertRowRow.pinned == Rows.fnExactInsertRowRow.pinnedBy) && (Rows.fnExactInsertRowRow.veiled == (Tryz.f5.params.toList ++ Rows.fnExactInsertRowSpec.plain.varTypes Tryz.pinned.checked.prog ++ Tryz.f5.resultTypes.toList).any (Tryz.pinned.checked.prog.veiledRec ·)) && Rows.fnExactInsertRowRow.veiledFits Tryz.pinned.checked.prog Tryz.f5.params.toList (Tryz.f5.params.toList ++ Rows.fnExactInsertRowSpec.plain.varTypes Tryz.pinned.checked.prog ++ Tryz.f5.resultTypes.toList)) = true := by kernel_rfl
theorem facts4 : (Tryz.pinned.checked.prog.stopsHeard && Tryz.pinned.checked.prog.mayEnter && (Rows.fnExactInsertRowRow.lifted == Tryz.pinned.checked.prog.liftsFinal)) = true := by kernel_rfl
set_option maxRecDepth 100000 in
theorem closed : joinedFacts Tryz.pinned.checked.prog 5 Tryz.f5 Rows.fnExactInsertRowSpec Rows.fnExactInsertRowRow = true := by
  have g := facts0
  obtain ⟨g, p8⟩ := spl g
  obtain ⟨g, p7⟩ := spl g
  obtain ⟨g, p6⟩ := spl g
  obtain ⟨g, p5⟩ := spl g
  obtain ⟨g, p4⟩ := spl g
  obtain ⟨g, p3⟩ := spl g
  obtain ⟨g, p2⟩ := spl g
  obtain ⟨g, p1⟩ := spl g
  have p0 := g
  have g := facts1
  obtain ⟨g, p12⟩ := spl g
  obtain ⟨g, p11⟩ := spl g
  obtain ⟨g, p10⟩ := spl g
  have p9 := g
  have g := facts2
  obtain ⟨g, p18⟩ := spl g
  obtain ⟨g, p17⟩ := spl g
  obtain ⟨g, p16⟩ := spl g
  obtain ⟨g, p15⟩ := spl g
  obtain ⟨g, p14⟩ := spl g
  have p13 := g
  have g := facts3
  obtain ⟨g, p31⟩ := spl g
  obtain ⟨g, p30⟩ := spl g
  obtain ⟨g, p29⟩ := spl g
  obtain ⟨g, p28⟩ := spl g
  obtain ⟨g, p27⟩ := spl g
  obtain ⟨g, p23⟩ := spl g
  obtain ⟨g, p22⟩ := spl g
  obtain ⟨g, p21⟩ := spl g
  obtain ⟨g, p20⟩ := spl g
  have p19 := g
  have g := facts4
  obtain ⟨g, p26⟩ := spl g
  obtain ⟨g, p25⟩ := spl g
  have p24 := g
  exact (and2 (and2 (and2 (and2 (and2 (and2 (and2 (and2 (and2 (and2 (and2 (and2 (and2 (and2 (and2 (and2 (and2 (and2 (and2 (and2 (and2 (and2 (and2 (and2 (and2 (and2 (and2 (and2 (and2 (and2 (and2 p0 p1) p2) p3) p4) p5) p6) p7) p8) p9) p10) p11) p12) p13) p14) p15) p16) p17) p18) p19) p20) p21) p22) p23) p24) p25) p26) p27) p28) p29) p30) p31)
theorem over : Rows.fnExactInsertRowRow.holds Tryz.pinned (OpenSpec.ofChange Rows.fnExactInsertRowSpec) :=
  OpenClaim.holds_of_wide 5 Tryz.f5 rfl rfl rfl rfl rfl rfl rfl ⟨rfl, rfl, rfl, rfl, rfl⟩ rfl rfl rfl rfl rfl (by kernel_rfl) Tryz.func5 closed
    (of_decide_eq_true (by kernel_rfl)) (by unfold Func.isWrapper; first | (rw [if_pos (by decide +kernel)]; kernel_rfl) | (rw [if_neg (by decide +kernel)]; exact ⟨rfl, rfl⟩))
    (fun os started H enc _ => lifted os started H enc)
theorem proved : Rows.FnExactInsertRowSaid := over
end Go.Proofs.YtmmgbgpglhbhcaaGreat.fnExactInsertRow
namespace Go.Proofs.YtmmgbgpglhbhcaaGreat
theorem fnExactInsertRow_holds : Rows.FnExactInsertRowSaid := fnExactInsertRow.proved
#print axioms fnExactInsertRow_holds
end Go.Proofs.YtmmgbgpglhbhcaaGreat
