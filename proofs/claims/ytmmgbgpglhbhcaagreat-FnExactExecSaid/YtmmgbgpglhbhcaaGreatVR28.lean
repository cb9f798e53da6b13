/- The statement of the law FnExactExec: whatever its arguments are, it returns true, leaves what was there as it was, and ends. No condition. -/
import Derived.Test.YtmmgbgpglhbhcaaGreatRows
import Derived.WalkKit
import Derived.ProofKit
import Derived.OpenShut
import Derived.ShutString
import Derived.ChangeOld
import Derived.Below
import Derived.SizedLaws
import Derived.Test.YtmmgbgpglhbhcaaGreatV1
import Derived.Test.YtmmgbgpglhbhcaaGreatV2
import Derived.Test.YtmmgbgpglhbhcaaGreatV3
import Derived.Test.YtmmgbgpglhbhcaaGreatV4
import Derived.Test.YtmmgbgpglhbhcaaGreatV5
import Derived.Test.YtmmgbgpglhbhcaaGreatV6
set_option linter.unusedVariables false
set_option linter.unusedSimpArgs false
namespace Go.Proofs.YtmmgbgpglhbhcaaGreat.Am
theorem Exec_sound (s : List zd) (db : List Data) (x : Stmt) (b0_1 : s.length <= 1125899906842624) (b0_2 : ∀ x ∈ s, zac 1125899906842624 x) (b1_1 : db.length <= 1125899906842624) (b1_2 : ∀ x ∈ db, zbl 1125899906842624 x) (b2_1 : jel 1125899906842624 x) : Pure Tryz.prog 6 [.c (.fz (s.map ja)), .c (.fz (db.map jb)), .agg (ji x)] (.c (.bool true)) := by
 refine Pure.run2 mixed wcb (yaa rfl) fun σ hS => ?_
 clear hS
 have hend : ∀ τ : wa, (∀ id, id < σ.next -> τ.get id = σ.get id) -> Ends σ (.c (.bool true)) (.c (.bool true)) τ := fun τ h => ⟨h, zjk⟩
 have hold : ∀ id, id < σ.next -> (E σ []).get id = σ.get id := fun id h => E_lt h
 have hm0 : σ.next <= (E σ []).next := by rw [wx]; omega
 generalize E σ [] = τ0 at hold hm0 ⊢
 repeat' first|refine yaG ?_|exact yaF|refine yaS ?_ ?_<;>intro _
 have z0 := jaf jdx s 1048576 (by omega)
 have f0 := fun (h : 0 <= szL za0 s 1048576) => wa2 (N := 34359738368) jdx (fun a l N h0 h hl => zlm a l N h0 h hl) (xs := s) (l := 1048576) (by omega) h (by omega)
 have c0 := fun (h : 0 <= szL za0 s 1048576) => jaj jdx wj9 s 1048576 (by omega) h
 refine .pcall rfl rfl rfl (wj3 s 1048576 b0_1 b0_2 (by omega) (by omega)) ?_
 generalize szL za0 s 1048576 = l0 at z0 f0 c0 ⊢
 repeat' first|refine yaG ?_|exact yaF|refine yaS ?_ ?_<;>intro _
 ·exact .ret rfl (hend _ hold)
 rename_i g0
 obtain ⟨h0_1, h0_2⟩ := f0 (by omega)
 have c0 := c0 (by omega)
 clear f0 b0_1 b0_2
 repeat' first|refine yaG ?_|exact yaF|refine yaS ?_ ?_<;>intro _
 have z1 := jaf wfj db l0 (by omega)
 have f1 := fun (h : 0 <= szL zem db l0) => wa2 (N := 34359738368) wfj (fun a l N h0 h hl => zms a l N h0 h hl) (xs := db) (l := l0) (by omega) h (by omega)
 have c1 := fun (h : 0 <= szL zem db l0) => jaj wfj zk3 db l0 (by omega) h
 refine .pcall rfl rfl rfl (wk1 db l0 b1_1 b1_2 (by omega) (by omega)) ?_
 generalize szL zem db l0 = l1 at z1 f1 c1 ⊢
 repeat' first|refine yaG ?_|exact yaF|refine yaS ?_ ?_<;>intro _
 ·exact .ret rfl (hend _ hold)
 rename_i g1
 obtain ⟨h1_1, h1_2⟩ := f1 (by omega)
 have c1 := c1 (by omega)
 clear f1 b1_1 b1_2
 repeat' first|refine yaG ?_|exact yaF|refine yaS ?_ ?_<;>intro _
 have z2 := jmq x l1 (by omega)
 have f2 := fun (h : 0 <= wdy x l1) => wmq x l1 34359738368 (by omega) h (by omega)
 have c2 := fun (h : 0 <= wdy x l1) => zlb x l1 (by omega) h
 refine .pcall rfl rfl rfl (zlt x l1 b2_1 (by omega) (by omega)) ?_
 generalize wdy x l1 = l2 at z2 f2 c2 ⊢
 repeat' first|refine yaG ?_|exact yaF|refine yaS ?_ ?_<;>intro _
 ·exact .ret rfl (hend _ hold)
 rename_i g2
 have h2_1 := f2 (by omega)
 have c2 := c2 (by omega)
 clear f2 b2_1
 have cn0 := ze (c := waj) wcl s
 have cn1 := ze (c := wl) jan db
 have cn2 := zhm x
 have himpl := jm1 s db x h0_1 h0_2 h1_1 h1_2 h2_1
 have hspec := wm1 s db x h0_1 h0_2 h1_1 h1_2 h2_1
 have t0 := New.pure (wda s h0_1 h0_2)
 have t1 := New.pure (jem db h1_1 h1_2)
 have t2 := NewL.pure (wgr x h2_1)
 obtain ⟨w1, w2, w3⟩ := zl8 s db x h0_1 h0_2 h1_1 h1_2 h2_1
 generalize (ExF s db x).1 = ws at himpl hspec w1 w2 w3
 generalize (ExF s db x).2.1 = B1 at himpl hspec
 generalize (ExF s db x).2.2 = B2 at himpl hspec
 repeat' first|refine yaG ?_|refine yaC (t0) ?_|refine yaC (t1) ?_|refine yaC (t2) ?_|exact yaF|refine yaS ?_ ?_<;>intro _
 first | refine .spcall rfl rfl rfl hspec ?_ | refine .pcall rfl rfl rfl hspec ?_
 repeat' first|refine yaG ?_|exact yaF|refine yaS ?_ ?_<;>intro _
 first | refine .call _ rfl rfl rfl (wda s h0_1 h0_2 _) ?_ | refine .scall _ rfl rfl rfl (wda s h0_1 h0_2 _) ?_
 intro r τ1 hq
 obtain ⟨x0, rfl, gr, hh0⟩ := New.openC hq
 have hold : ∀ id, id < σ.next -> τ1.get id = σ.get id := fun id h => (gr.lt (by omega)).trans (hold id h)
 have hm1 := gr.next
 generalize hmq0 : τ0.next = m0 at hm0 hm1 hh0
 clear hq gr hmq0
 repeat' first|refine yaG ?_|exact yaF|refine yaS ?_ ?_<;>intro _
 first | refine .call _ rfl rfl rfl (jem db h1_1 h1_2 _) ?_ | refine .scall _ rfl rfl rfl (jem db h1_1 h1_2 _) ?_
 intro r τ2 hq
 obtain ⟨x1, rfl, gr, hh1⟩ := New.openC hq
 have hh0 := hh0.frame fun a ha => gr.lt (by have := ha.2; omega)
 have hold : ∀ id, id < σ.next -> τ2.get id = σ.get id := fun id h => (gr.lt (by omega)).trans (hold id h)
 have hm2 := gr.next
 generalize hmq1 : τ1.next = m1 at hm1 hm2 hh1
 simp only [hmq1] at hh0
 clear hq gr hmq1
 repeat' first|refine yaG ?_|exact yaF|refine yaS ?_ ?_<;>intro _
 first | refine .call _ rfl rfl rfl (wgr x h2_1 _) ?_ | refine .scall _ rfl rfl rfl (wgr x h2_1 _) ?_
 intro r τ3 hq
 obtain ⟨x2, rfl, gr, hh2⟩ := NewL.openC hq
 have hh0 := hh0.frame fun a ha => gr.lt (by have := ha.2; omega)
 have hh1 := hh1.frame fun a ha => gr.lt (by have := ha.2; omega)
 have hold : ∀ id, id < σ.next -> τ3.get id = σ.get id := fun id h => (gr.lt (by omega)).trans (hold id h)
 have hm3 := gr.next
 generalize hmq2 : τ2.next = m2 at hm2 hm3 hh2
 simp only [hmq2] at hh1
 clear hq gr hmq2
 have hn3 : σ.next <= τ3.next := by omega
 obtain ⟨y1, y2, y3, _, _, _, rfl, _⟩ := jjq hh2
 repeat' first|refine yaG ?_|exact yaF|refine yaS ?_ ?_<;>intro _
 first | refine .call _ rfl rfl rfl (Lend.new (.own (HasV.c hh0).lend (.own (HasV.c hh1).lend (.own (HasV.agg hh2).lend .nil))) himpl) ?_ | refine .scall _ rfl rfl rfl (Lend.new (.own (HasV.c hh0).lend (.own (HasV.c hh1).lend (.own (HasV.agg hh2).lend .nil))) himpl) ?_
 intro r τr hq
 obtain ⟨g, rfl, gr, hhr⟩ := jjk (.int _ _) (.int _ _) hq
 have hh0 := hh0.frame fun a ha => gr.lt (by have := ha.2; omega)
 have hh1 := hh1.frame fun a ha => gr.lt (by have := ha.2; omega)
 have hh2 := hh2.frame fun a ha => gr.lt (by have := ha.2; omega)
 have hold : ∀ id, id < σ.next -> τr.get id = σ.get id := fun id h => (gr.lt (by omega)).trans (hold id h)
 have hmr := gr.next
 generalize hmq : τ3.next = m3 at hm3 hmr hhr
 simp only [hmq] at hh2
 clear hq gr hmq
 repeat' first|refine yaG ?_|exact yaF|refine yaS ?_ ?_<;>intro _
 first | refine Go.lcall rfl rfl rfl (wa3 ws ws w1 w2) (.bool _) (.own (HasV.c hhr).lend (.same .nil)) ?_ | refine Go.slcall rfl rfl rfl (wa3 ws ws w1 w2) (.bool _) (.own (HasV.c hhr).lend (.same .nil)) ?_
 rw [beq_self_eq_true]
 repeat' first|(apply yA;exact rfl)|apply yB|apply yC|((first|apply yD|apply yE);(first|exact yF|assumption);iterate 6 exact rfl)|((first|apply yG|apply yH|apply yI);exact rfl;(first|exact yJ|exact yK rfl rfl|exact yL rfl|exact yM rfl|exact zgv rfl rfl|exact rfl|exact aL rfl rfl rfl rfl rfl|exact aS rfl rfl rfl rfl rfl rfl rfl))|((first|apply yN|apply yO|apply yP);exact rfl)|((first|apply yQ|apply yR|apply yS);(iterate 3 exact rfl);exact t0)|exact yaF|(((first|apply yT|apply yU|apply yV|apply yW);exact rfl;(first|exact .d|exact .e|exact .n|((fail_if_success exact bqt);(fail_if_success exact bqf);exact .b)))<;>intro _)
 first | refine Go.lcall rfl rfl rfl (wgl s s h0_1 h0_2) (.bool _) (.own (HasV.c hh0).lend (.same .nil)) ?_ | refine Go.slcall rfl rfl rfl (wgl s s h0_1 h0_2) (.bool _) (.own (HasV.c hh0).lend (.same .nil)) ?_
 rw [beq_self_eq_true]
 repeat' first|(apply yA;exact rfl)|apply yB|apply yC|((first|apply yD|apply yE);(first|exact yF|assumption);iterate 6 exact rfl)|((first|apply yG|apply yH|apply yI);exact rfl;(first|exact yJ|exact yK rfl rfl|exact yL rfl|exact yM rfl|exact zgv rfl rfl|exact rfl|exact aL rfl rfl rfl rfl rfl|exact aS rfl rfl rfl rfl rfl rfl rfl))|((first|apply yN|apply yO|apply yP);exact rfl)|((first|apply yQ|apply yR|apply yS);(iterate 3 exact rfl);exact t1)|exact yaF|(((first|apply yT|apply yU|apply yV|apply yW);exact rfl;(first|exact .d|exact .e|exact .n|((fail_if_success exact bqt);(fail_if_success exact bqf);exact .b)))<;>intro _)
 first | refine Go.lcall rfl rfl rfl (wa3 db db h1_1 h1_2) (.bool _) (.own (HasV.c hh1).lend (.same .nil)) ?_ | refine Go.slcall rfl rfl rfl (wa3 db db h1_1 h1_2) (.bool _) (.own (HasV.c hh1).lend (.same .nil)) ?_
 rw [beq_self_eq_true]
 repeat' first|(apply yA;exact rfl)|apply yB|apply yC|((first|apply yD|apply yE);(first|exact yF|assumption);iterate 6 exact rfl)|((first|apply yG|apply yH|apply yI);exact rfl;(first|exact yJ|exact yK rfl rfl|exact yL rfl|exact yM rfl|exact zgv rfl rfl|exact rfl|exact aL rfl rfl rfl rfl rfl|exact aS rfl rfl rfl rfl rfl rfl rfl))|((first|apply yN|apply yO|apply yP);exact rfl)|((first|apply yQ|apply yR|apply yS);(iterate 3 exact rfl);exact t2)|exact yaF|(((first|apply yT|apply yU|apply yV|apply yW);exact rfl;(first|exact .d|exact .e|exact .n|((fail_if_success exact bqt);(fail_if_success exact bqf);exact .b)))<;>intro _)
 first | refine Go.lcall rfl rfl rfl (zjh x x h2_1) (.bool _) (.own (HasV.agg hh2).lend (.same .nil)) ?_ | refine Go.slcall rfl rfl rfl (zjh x x h2_1) (.bool _) (.own (HasV.agg hh2).lend (.same .nil)) ?_
 rw [beq_self_eq_true]
 repeat' first|refine yaG ?_|exact yaF|refine yaS ?_ ?_<;>intro _
 refine .call _ rfl rfl rfl ((jio s 1 h0_1 h0_2 (by omega) (by omega)).at_ _ _ _ hh0) ?_
 rintro r τm0 ⟨rfl, hnx, hfr, -⟩
 have hh1 := hh1.frame (fun a ha => hfr a fun h => by have := ha.1; have := h.2; omega)
 have hh2 := hh2.frame (fun a ha => hfr a fun h => by have := ha.1; have := h.2; omega)
 have hhr := hhr.frame (fun a ha => hfr a fun h => by have := ha.1; have := h.2; omega)
 have hold : ∀ id, id < σ.next -> τm0.get id = σ.get id := fun id h => (hfr id fun h' => by have := h'.1; omega).trans (hold id h)
 obtain ⟨k1, hk1⟩ : ∃ z, 1 + cntL waj s = z := ⟨_, rfl⟩
 rw [hk1]
 have hkb1 : 1 <= k1 /\ k1 <= 8388616 + 8 * 1 - 8 * l0 := by omega
 clear hfr hh0 hk1 hnx
 repeat' first|refine yaG ?_|exact yaF|refine yaS ?_ ?_<;>intro _
 refine .call _ rfl rfl rfl ((jeu db k1 h1_1 h1_2 (by omega) (by omega)).at_ _ _ _ hh1) ?_
 rintro r τm1 ⟨rfl, hnx, hfr, -⟩
 have hh2 := hh2.frame (fun a ha => hfr a fun h => by have := ha.1; have := h.2; omega)
 have hhr := hhr.frame (fun a ha => hfr a fun h => by have := ha.1; have := h.2; omega)
 have hold : ∀ id, id < σ.next -> τm1.get id = σ.get id := fun id h => (hfr id fun h' => by have := h'.1; omega).trans (hold id h)
 obtain ⟨k2, hk2⟩ : ∃ z, k1 + cntL wl db = z := ⟨_, rfl⟩
 rw [hk2]
 have hkb2 : 1 <= k2 /\ k2 <= 8388616 + 8 * 2 - 8 * l1 := by omega
 clear hfr hh1 hk2 hnx
 repeat' first|refine yaG ?_|exact yaF|refine yaS ?_ ?_<;>intro _
 refine .call _ rfl rfl rfl ((zkg x k2 h2_1 (by omega) (by omega)).at_ _ _ _ hh2) ?_
 rintro r τm2 ⟨rfl, hnx, hfr⟩
 have hhr := hhr.frame (fun a ha => hfr a fun h => by have := ha.1; have := h.2; omega)
 have hold : ∀ id, id < σ.next -> τm2.get id = σ.get id := fun id h => (hfr id fun h' => by have := h'.1; omega).trans (hold id h)
 obtain ⟨k3, hk3⟩ : ∃ z, k2 + jb6 x = z := ⟨_, rfl⟩
 rw [hk3]
 have hkb3 : 1 <= k3 /\ k3 <= 8388616 + 8 * 3 - 8 * l2 := by omega
 clear hfr hh2 hk3 hnx
 repeat' first|refine yaG ?_|exact yaF|refine yaS ?_ ?_<;>intro _
 first | refine Go.lcall rfl rfl rfl (wa3 ws ws w1 w2) (.bool _) (.own (HasV.c hhr).lend (.same .nil)) ?_ | refine Go.slcall rfl rfl rfl (wa3 ws ws w1 w2) (.bool _) (.own (HasV.c hhr).lend (.same .nil)) ?_
 rw [beq_self_eq_true]
 repeat' first|(apply yA;exact rfl)|apply yB|apply yC|((first|apply yD|apply yE);(first|exact yF|assumption);iterate 6 exact rfl)|((first|apply yG|apply yH|apply yI);exact rfl;(first|exact yJ|exact yK rfl rfl|exact yL rfl|exact yM rfl|exact zgv rfl rfl|exact rfl|exact aL rfl rfl rfl rfl rfl|exact aS rfl rfl rfl rfl rfl rfl rfl))|((first|apply yN|apply yO|apply yP);exact rfl)|exact yaF|(((first|apply yT|apply yU|apply yV|apply yW);exact rfl;(first|exact .d|exact .e|exact .n|((fail_if_success exact bqt);(fail_if_success exact bqf);exact .b)))<;>intro _)
 refine .call _ rfl rfl rfl ((jeu ws 1 w1 w2 (by omega) (by omega)).at_ _ _ _ hhr) ?_
 rintro r τw ⟨rfl, hnx, hfr, hhr⟩
 have hold : ∀ id, id < σ.next -> τw.get id = σ.get id := fun id h => (hfr id fun h' => by have := h'.1; omega).trans (hold id h)
 have hhc := jjp ws w1 w2 w3
 generalize jx wa6 wl ws 1 = ms at hhr hhc
 have w4 : 0 <= 1 + cntL wl ws := by have := wjp ws; omega
 generalize 1 + cntL wl ws = k9 at hhc w4 ⊢
 clear hfr hnx
 repeat' first|refine yaG ?_|exact yaF|refine yaS ?_ ?_<;>intro _
 first | refine Go.lcall rfl rfl rfl (hhc) (.int _ _) (.own (HasV.c hhr).lend (.same .nil)) ?_ | refine Go.slcall rfl rfl rfl (hhc) (.int _ _) (.own (HasV.c hhr).lend (.same .nil)) ?_
 repeat' first|refine yaG ?_|refine yaC (t0) ?_|refine yaC (t1) ?_|refine yaC (t2) ?_|exact yaF|refine yaS ?_ ?_<;>intro _
 first | refine .spcall rfl rfl rfl (NewV.pure himpl) ?_ | refine .pcall rfl rfl rfl (NewV.pure himpl) ?_
 have hee := wa3 ws ws w1 w2
 rw [beq_self_eq_true] at hee
 repeat' first|(apply yA;exact rfl)|apply yB|apply yC|((first|apply yD|apply yE);(first|exact yF|assumption);iterate 6 exact rfl)|((first|apply yG|apply yH|apply yI);exact rfl;(first|exact yJ|exact yK rfl rfl|exact yL rfl|exact yM rfl|exact zgv rfl rfl|exact rfl|exact aL rfl rfl rfl rfl rfl|exact aS rfl rfl rfl rfl rfl rfl rfl))|((first|apply yN|apply yO|apply yP);exact rfl)|((first|apply yQ|apply yR|apply yS);(iterate 3 exact rfl);exact hee)|exact yaF|(((first|apply yT|apply yU|apply yV|apply yW);exact rfl;(first|exact .d|exact .e|exact .n|((fail_if_success exact bqt);(fail_if_success exact bqf);exact .b)))<;>intro _)
 first | refine Go.lcall rfl rfl rfl (hhc) (.int _ _) (.own (HasV.c hhr).lend (.same .nil)) ?_ | refine Go.slcall rfl rfl rfl (hhc) (.int _ _) (.own (HasV.c hhr).lend (.same .nil)) ?_
 repeat' first|refine yaG ?_|exact yaF|refine yaS ?_ ?_<;>intro _
 exact .ret rfl ⟨hold, zjk⟩
end Go.Proofs.YtmmgbgpglhbhcaaGreat.Am
namespace Go.Proofs.YtmmgbgpglhbhcaaGreat.fnExactExec
open Go.ChangeShapes Go.WideShapes Go.ChangeAt Go.RowKit Go.Proofs.YtmmgbgpglhbhcaaGreat.Am
open Go.ChangeMaps (open_string shut_string)
theorem own : ownKnob Tryz.prog.godebug = none := by kernel_rfl
theorem laidOut : laidOutB Tryz.prog = true := by kernel_rfl
set_option maxRecDepth 100000 in
theorem lifted (os : Os) (started : os.Started) (H : Type) (enc : TypeId × Value -> H) :
 ReturnsInHanded {} Tryz.checked os 6 .any (Rows.fnExactExecSpec.pre6 enc Tryz.prog Tryz.f6 Rows.fnExactExecRow.domain false) (Rows.fnExactExecSpec.post enc Tryz.prog Tryz.f6 false true false false) := by
 refine returnsInHanded_of_change_sized (C := Tryz.checked) own started (by kernel_rfl) Tryz.func6
  (ChangeSpec.witness6 (enc := enc) (C := Tryz.checked) false ⟨#[], #[.slice none 0 0, .slice none 0 0, .agg #[.int .i64 0, .string ByteArray.empty, .slice none 0 0, .slice none 0 0, .slice none 0 0, .int .i64 0]], []⟩ 8 (by kernel_rfl) (by kernel_rfl) (by kernel_rfl) (by kernel_rfl)) ?_
 intro W base args ds gs before hval0 hW hcnd hsz0 _
 have hval : ∀ (j : Nat) t v, Tryz.f6.params[j]? = some t -> args[j]? = some v -> Value.okWide Tryz.prog W .any base t v := hval0
 have hW' := hW
 obtain ⟨p, q, hA0, hV, rfl, hfz, hnd⟩ := hW
 have hA : DataW.TrodAll enc Tryz.prog W 0 (fun _ => true) true Tryz.f6.params.toList args.toList ds p := hA0
 rw [Tryz.params6] at hA hval
 have hsz : (DataW.weightsEach Tryz.prog (Tryz.f6.params.toList ++ Rows.fnExactExecSpec.plain.varTypes Tryz.prog) (ds ++ gs)).all (· <= reachBytes) = true := hsz0
 rw [Tryz.params6] at hsz
 obtain ⟨v0, vs0, d0, ds0, p0, q0, hargs, rfl, rfl, h0, r0⟩ := trodAll_cons hA
 obtain ⟨v1, vs1, d1, ds1, p1, q1, rfl, rfl, rfl, h1, r1⟩ := trodAll_cons r0
 obtain ⟨v2, vs2, d2, ds2, p2, q2, rfl, rfl, rfl, h2, r2⟩ := trodAll_cons r1
 obtain ⟨rfl, rfl, rfl⟩ := trodAll_nil r2
 obtain rfl : args = #[v0, v1, v2] := by cases args; simp_all
 obtain ⟨rfl, rfl⟩ := trodVars_none hV
 obtain ⟨a0, g0, e0⟩ := jp.c jlb (wfr Tryz.underlying22 (hval 0 22 v0 rfl rfl)) h0 (fun n hn => of_decide_eq_true (List.all_eq_true.1 hsz _ (DataW.weights_mem_each (j := 0) (t := 22) rfl rfl n hn)))
 have k0 := h0
 have lt0 : ∀ x ∈ p0, x.block < W.heap.size := by obtain ⟨m, hm⟩ := k0; exact DataW.trod_lt m _ _ _ hm
 obtain ⟨a1, g1, e1⟩ := jp.c wl9 (wfr Tryz.underlying23 (hval 1 23 v1 rfl rfl)) h1 (fun n hn => of_decide_eq_true (List.all_eq_true.1 hsz _ (DataW.weights_mem_each (j := 1) (t := 23) rfl rfl n hn)))
 have k1 := h1
 have lt1 : ∀ x ∈ p1, x.block < W.heap.size := by obtain ⟨m, hm⟩ := k1; exact DataW.trod_lt m _ _ _ hm
 obtain ⟨a2, g2, e2⟩ := zm4.agg Tryz.underlying52 (hval 2 52 v2 rfl rfl) h2 (fun n hn => of_decide_eq_true (List.all_eq_true.1 hsz _ (DataW.weights_mem_each (j := 2) (t := 52) rfl rfl n hn)))
 have k2 := h2
 have lt2 : ∀ x ∈ p2, x.block < W.heap.size := by obtain ⟨m, hm⟩ := k2; exact DataW.trod_lt m _ _ _ hm
 clear hA0 hval0 hsz0 hsz
 refine ((Exec_sound a0 a1 a2 (yah g0.1 (by decide)) g0.2 (yah g1.1 (by decide)) g1.2 (g2)).calls (W := W) ⟨rfl, fun i hi => ?_⟩).mono fun e W' ⟨he, bel⟩ => ?_
 ·match i, hi with
  | 0, _ => exact e0
  | 1, _ => exact e1
  | 2, _ => exact e2
 subst he
 exact ⟨_, rfl, _, _, _, [], _, [], hW', trodAll_mk1 (shut_bool Tryz.underlying4 _), (trodAll_cons_mk (Below.trod laidOut (by kernel_rfl) (of_decide_eq_true (by kernel_rfl)) k0 bel lt0) (trodAll_cons_mk (Below.trod laidOut (by kernel_rfl) (of_decide_eq_true (by kernel_rfl)) k1 bel lt1) (trodAll_cons_mk (Below.trod laidOut (by kernel_rfl) (of_decide_eq_true (by kernel_rfl)) k2 bel lt2) trodAll_mk0))), rfl, bel.frame _, fun h => by cases h⟩
theorem spl {a b : Bool} (h : (a && b) = true) : a = true /\ b = true := by cases a <;> cases b <;> simp_all
theorem and2 {a b : Bool} (h : a = true) (k : b = true) : (a && b) = true := by rw [h, k]; rfl
theorem facts0 : (Rows.fnExactExecRow.wf (OpenSpec.ofChange Rows.fnExactExecSpec) && laidOutB Tryz.pinned.checked.prog && mapsRowed Tryz.pinned.checked.prog && Tryz.f6.params.all (Tryz.pinned.checked.prog.readableRec ·) && namedTie Tryz.pinned.checked.prog Rows.fnExactExecRow.named Rows.fnExactExecSpec.vars && (Rows.fnExactExecRow.stops == []) && (Tryz.pinned.checked.prog.stops == []) && (Rows.fnExactExecRow.knobs == []) && (Tryz.pinned.checked.prog.stopKnobs == [])) = true := by kernel_rfl
theorem facts1 : ((Rows.fnExactExecRow.inPlace == Tryz.pinned.checked.prog.inPlace 6) && (Rows.fnExactExecRow.unfollowed == Tryz.pinned.checked.prog.unfollowed 6) && (Rows.fnExactExecRow.recurses == Tryz.pinned.checked.prog.recurses 6) && (Rows.fnExactExecRow.named == Tryz.pinned.checked.prog.varsNamed 6)) = true := by kernel_rfl
theorem facts2 : ((Rows.fnExactExecRow.maps == (Tryz.f6.params.toList ++ Rows.fnExactExecSpec.plain.varTypes Tryz.pinned.checked.prog).any (Tryz.pinned.checked.prog.mapsRec ·)) && (Rows.fnExactExecRow.ifaces == (Tryz.f6.params.toList ++ Rows.fnExactExecSpec.plain.varTypes Tryz.pinned.checked.prog).any (Tryz.pinned.checked.prog.ifacesRec ·)) && (Rows.fnExactExecRow.mapsOut == Tryz.pinned.checked.prog.mapsAmong Tryz.f6.resultTypes.toList) && (Rows.fnExactExecRow.loops == (Tryz.f6.params.toList ++ Rows.fnExactExecSpec.plain.varTypes Tryz.pinned.checked.prog).any (Tryz.pinned.checked.prog.loopsFrom ·)) && (Rows.fnExactExecRow.wideKeys == (Tryz.f6.params.toList ++ Rows.fnExactExecSpec.plain.varTypes Tryz.pinned.checked.prog ++ Tryz.f6.resultTypes.toList).any (Tryz.pinned.checked.prog.wideKeysFrom ·)) && Rows.fnExactExecSpec.vars.all (Tryz.pinned.checked.prog.varReadable ·)) = true := by kernel_rfl
theorem facts3 : (Tryz.f6.resultTypes.all (fun t => Tryz.pinned.checked.prog.readableRec t && decide (t < Tryz.pinned.checked.prog.types.size)) && (Rows.fnExactExecRow.ifacesOut == Tryz.f6.resultTypes.toList.any (Tryz.pinned.checked.prog.ifacesRec ·)) && (Rows.fnExactExecRow.loopsOut == Tryz.f6.resultTypes.toList.any (Tryz.pinned.checked.prog.loopsFrom ·)) && (Rows.fnExactExecRow.plainKeys == Tryz.pinned.checked.prog.plainKeys) && Rows.fnExactExecRow.shortTexts.isNone && (Tryz.pinned.checked.prog.make == some Rows.fnExactExecRow.make) && (Rows.fnExactExecRow.kinds == (if Rows.fnExactExecRow.domain.isEmpty then [] else Tryz.f6.params.toList.map fun t => match Tryz.pinned.checked.prog.underlying t with | some (.int k) => some k | _ => none)) && (Rows.fnExactExecRow.pinned == Rows.fnExactExecRow.pinnedBy) && (Rows.fnExactExecRow.veiled == (Tryz.f6.params.toList ++ Rows.fnExactExecSpec.plain.varTypes Tryz.pinned.checked.prog ++ Tryz.f6.resultTypes.toList).any (Tryz.pinned.checked.prog.veiledRec ·)) && Rows.fnExactExecRow.veiledFits Tryz.pinned.checked.prog Tryz.f6.params.toList (Tryz.f6.params.toList ++ Rows.fnExactExecSpec.plain.varTypes Tryz.pinned.checked.prog ++ Tryz.f6.resultTypes.toList)) = true := by kernel_rfl
theorem facts4 : (Tryz.pinned.checked.prog.stopsHeard && Tryz.pinned.checked.prog.mayEnter && (Rows.fnExactExecRow.lifted == Tryz.pinned.checked.prog.liftsFinal)) = true := by kernel_rfl
set_option maxRecDepth 100000 in
theorem closed : joinedFacts Tryz.pinned.checked.prog 6 Tryz.f6 Rows.fnExactExecSpec Rows.fnExactExecRow = true := by
 have g := facts0
 obtain ⟨g, p8⟩ := spl g
 obtain ⟨g, p7⟩ := spl g
 obtain ⟨g, p6⟩ := spl g
 obtain ⟨g, p5⟩ := spl g
 obtain ⟨g, p4⟩ := spl g
 obtain ⟨g, p3⟩ := spl g
 obtain ⟨g, p2⟩ := spl g
 obtain ⟨g, p1⟩ := spl g
 have p0 := g
 have g := facts1
 obtain ⟨g, p12⟩ := spl g
 obtain ⟨g, p11⟩ := spl g
 obtain ⟨g, p10⟩ := spl g
 have p9 := g
 have g := facts2
 obtain ⟨g, p18⟩ := spl g
 obtain ⟨g, p17⟩ := spl g
 obtain ⟨g, p16⟩ := spl g
 obtain ⟨g, p15⟩ := spl g
 obtain ⟨g, p14⟩ := spl g
 have p13 := g
 have g := facts3
 obtain ⟨g, p31⟩ := spl g
 obtain ⟨g, p30⟩ := spl g
 obtain ⟨g, p29⟩ := spl g
 obtain ⟨g, p28⟩ := spl g
 obtain ⟨g, p27⟩ := spl g
 obtain ⟨g, p23⟩ := spl g
 obtain ⟨g, p22⟩ := spl g
 obtain ⟨g, p21⟩ := spl g
 obtain ⟨g, p20⟩ := spl g
 have p19 := g
 have g := facts4
 obtain ⟨g, p26⟩ := spl g
 obtain ⟨g, p25⟩ := spl g
 have p24 := g
 exact (and2 (and2 (and2 (and2 (and2 (and2 (and2 (and2 (and2 (and2 (and2 (and2 (and2 (and2 (and2 (and2 (and2 (and2 (and2 (and2 (and2 (and2 (and2 (and2 (and2 (and2 (and2 (and2 (and2 (and2 (and2 p0 p1) p2) p3) p4) p5) p6) p7) p8) p9) p10) p11) p12) p13) p14) p15) p16) p17) p18) p19) p20) p21) p22) p23) p24) p25) p26) p27) p28) p29) p30) p31)
theorem over : Rows.fnExactExecRow.holds Tryz.pinned (OpenSpec.ofChange Rows.fnExactExecSpec) :=
 OpenClaim.holds_of_wide 6 Tryz.f6 rfl rfl rfl rfl rfl rfl rfl ⟨rfl, rfl, rfl, rfl, rfl⟩ rfl rfl rfl rfl rfl (by kernel_rfl) Tryz.func6 closed
  (of_decide_eq_true (by kernel_rfl)) (by unfold Func.isWrapper; first | (rw [if_pos (by decide +kernel)]; kernel_rfl) | (rw [if_neg (by decide +kernel)]; exact ⟨rfl, rfl⟩))
  (fun os started H enc _ => lifted os started H enc)
theorem proved : Rows.FnExactExecSaid := over
end Go.Proofs.YtmmgbgpglhbhcaaGreat.fnExactExec
namespace Go.Proofs.YtmmgbgpglhbhcaaGreat
theorem fnExactExec_holds : Rows.FnExactExecSaid := fnExactExec.proved
#print axioms fnExactExec_holds
end Go.Proofs.YtmmgbgpglhbhcaaGreat
