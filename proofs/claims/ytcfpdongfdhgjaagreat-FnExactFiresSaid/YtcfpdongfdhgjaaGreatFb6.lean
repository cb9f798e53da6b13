/- The statement of the law FnExactFires: whatever its arguments are, it returns true, leaves what was there as it was, and ends. No condition. -/
import Derived.OpenShut
import Derived.Below
import Derived.Carry
import Derived.SizedLaws
import Derived.ChangeArms
import Derived.DataReads
import Derived.KernelRfl
import Derived.Test.YtcfpdongfdhgjaaGreatRows
import Derived.WalkKit
import Derived.ProofKit
import Derived.ShutString
import Derived.ChangeOld
import Derived.Test.YtcfpdongfdhgjaaGreatFb1
import Derived.Test.YtcfpdongfdhgjaaGreatFb2
import Derived.Test.YtcfpdongfdhgjaaGreatFb3
import Derived.Test.YtcfpdongfdhgjaaGreatFb4
import Derived.Test.YtcfpdongfdhgjaaGreatFb5
/- Triggers that fire: the program and its reference. -/
set_option linter.unusedVariables false
set_option linter.unusedSimpArgs false
namespace Go.Proofs.YtcfpdongfdhgjaaGreat.Am

theorem aop_copy {fr : Fr} {σ : Store} {l : List (Nat × List (List Ce))} {s k v i m c : Nat} {x y : Opd} {u : Ce} {es zs : List (List Ce)} (hx : x.ev fr = some (.c (.sl (σ.next + k) v i m c))) (hy : y.ev fr = some (.c u)) (hu : (E σ l).els u = some zs) (hl : l[k]? = some (v, es)) (hi : i + m ≤ es.length) (hes : ∀ e ∈ es, e.length = s) (hzs : ∀ e ∈ zs, e.length = s) (hz : zs.length ≤ m) :
    aop (.copy s x y) fr (E σ l) = some (.c (.int .i64 zs.length), E σ (l.set k (v, splice es i zs))) := by
  have hk : k < l.length := (List.getElem?_eq_some_iff.1 hl).1
  simp only [aop, hx, hy, E_get hl, hu]
  rw [if_pos ⟨trivial, hi, hes, hzs, hz⟩, E_put hk]
theorem els_rep {σ : Store} {l : List (Nat × List (List Ce))} {k n c : Nat} {z : List Ce} (hl : l[k]? = some (0, List.replicate n z)) : (E σ l).els (.sl (σ.next + k) 0 0 n c) = some (List.replicate n z) := by
  simp only [Store.els, E_get hl, List.length_replicate, Nat.zero_add, Nat.le_refl, and_self, if_true, List.drop_zero]
  rw [List.take_of_length_le (by simp)]
def nulls (n : Nat) : List Val := List.replicate n vNull
def half (n : Nat) (l : List Val) : List Val := if l = [] then nulls n else l
def bothF (n : Nat) (old now : List Val) : List Val := half n old ++ half n now
theorem nulls_map (n : Nat) : (nulls n).map encV = List.replicate n [Ce.int .i64 0, .int .i64 0, .str []] := by
  rw [nulls, List.map_replicate]
  rfl
theorem half_nil (n : Nat) : half n [] = nulls n := rfl
theorem half_some (n : Nat) {l : List Val} (h : l ≠ []) : half n l = l := by rw [half, if_neg h]
theorem ne_len {l : List Val} (h : l ≠ []) : ¬ ((l.length : Int) = 0) := by
  cases l with
  | nil => exact absurd rfl h
  | cons a l => simp only [List.length_cons]; omega
theorem fin_vec {σ : Store} {l : List (Nat × List (List Ce))} {v : Nat} {ys : List Val} {zs junk : List (List Ce)} (e : zs = ys.map encV) (hl : l[0]? = some (v, zs ++ junk)) : Fin σ (.c (.fz (ys.map encV))) (.c (vec (σ.next + 0) v zs junk)) (E σ l) :=
  ⟨l, rfl, by subst e; exact frz_all (k := 0) hl (Nat.le_refl _)⟩
theorem seen_ok (n : Nat) (old now : List Val) (hn : n ≤ 8) (ho : old.length ≤ 8) (hw : now.length ≤ 8) : Pure Tryz.prog 212 [.c (.int .i64 (n : Int)), .c (.fz (old.map encV)), .c (.fz (now.map encV))] (.c (.fz ((bothF n old now).map encV))) := by
  refine Pure.run mixed c_impl_seen_ok (Nat.le_of_ble_eq_true rfl) fun σ hS hA => ?_
  clear hS hA
  have hmk : 32 * n ≤ 140737488355328 := by omega
  have hrl : ∀ e ∈ List.replicate n [Ce.int .i64 0, .int .i64 0, .str []], e.length = 3 := fun e he => by rw [List.eq_of_mem_replicate he]; rfl
  have hlo : (old.map encV).length = old.length := List.length_map _
  have hlw : (now.map encV).length = now.length := List.length_map _
  have hlr : (List.replicate n [Ce.int IntKind.i64 0, .int .i64 0, .str []]).length = n := List.length_replicate
  by_cases h1 : old = []
  · subst h1
    by_cases h2 : now = []
    · subst h2
      repeat' first | (apply Go.adm; exact rfl) | apply Go.qs | apply Qg.nil | ((first | apply Go.v2 | apply Go.v1); (first | exact leAdd | assumption); iterate 6 exact rfl) | ((first | apply Go.op | apply Go.sop | apply Qg.op); exact rfl; (first | exact aop_alloc | exact aop_new rfl rfl | exact aop_mksl rfl | exact aop_lenM rfl | exact rfl | exact aL rfl rfl rfl rfl rfl | exact aS rfl rfl rfl rfl rfl rfl rfl | exact aop_mkslice rfl rfl hmk)) | ((first | apply Go.no | apply Go.sno | apply Qg.no); exact rfl) | (exfalso; omega) | (((first | apply Go.iQ | apply Go.gQ | apply Go.sQ | apply Qg.gQ); exact rfl; (first | exact .d | exact .e | exact .n | ((fail_if_success exact bqt); (fail_if_success exact bqf); exact .b))) <;> intro _)
      apply Go.loop
      repeat' first | (apply Go.adm; exact rfl) | apply Go.qs | apply Qg.nil | ((first | apply Go.v2 | apply Go.v1); (first | exact leAdd | assumption); iterate 6 exact rfl) | ((first | apply Go.op | apply Go.sop | apply Qg.op); exact rfl; (first | exact aop_alloc | exact aop_new rfl rfl | exact aop_mksl rfl | exact aop_lenM rfl | exact rfl | exact aL rfl rfl rfl rfl rfl | exact aS rfl rfl rfl rfl rfl rfl rfl | exact aop_mkslice rfl rfl hmk)) | ((first | apply Go.no | apply Go.sno | apply Qg.no); exact rfl) | (exfalso; omega) | (((first | apply Go.iQ | apply Go.gQ | apply Go.sQ | apply Qg.gQ); exact rfl; (first | exact .d | exact .e | exact .n | ((fail_if_success exact bqt); (fail_if_success exact bqf); exact .b))) <;> intro _)
      refine Go.app (k := 0) (ys := []) (junk := []) (zs := List.replicate n [Ce.int .i64 0, .int .i64 0, .str []]) rfl rfl rfl (els_rep (k := 1) rfl) rfl (fun e he => by simp at he) Jk.nil hrl (by simp; omega) fun v1 j1 hj1 => ?_
      repeat' first | (apply Go.adm; exact rfl) | apply Go.qs | apply Qg.nil | ((first | apply Go.v2 | apply Go.v1); (first | exact leAdd | assumption); iterate 6 exact rfl) | ((first | apply Go.op | apply Go.sop | apply Qg.op); exact rfl; (first | exact aop_alloc | exact aop_new rfl rfl | exact aop_mksl rfl | exact aop_lenM rfl | exact rfl | exact aL rfl rfl rfl rfl rfl | exact aS rfl rfl rfl rfl rfl rfl rfl)) | ((first | apply Go.no | apply Go.sno | apply Qg.no); exact rfl) | (exfalso; omega) | (((first | apply Go.iQ | apply Go.gQ | apply Go.sQ | apply Qg.gQ); exact rfl; (first | exact .d | exact .e | exact .n | ((fail_if_success exact bqt); (fail_if_success exact bqf); exact .b))) <;> intro _)
      apply Go.lp
      repeat' first | (apply Go.adm; exact rfl) | apply Go.qs | apply Qg.nil | ((first | apply Go.v2 | apply Go.v1); (first | exact leAdd | assumption); iterate 6 exact rfl) | ((first | apply Go.op | apply Go.sop | apply Qg.op); exact rfl; (first | exact aop_alloc | exact aop_new rfl rfl | exact aop_mksl rfl | exact aop_lenM rfl | exact rfl | exact aL rfl rfl rfl rfl rfl | exact aS rfl rfl rfl rfl rfl rfl rfl | exact aop_mkslice rfl rfl hmk)) | ((first | apply Go.no | apply Go.sno | apply Qg.no); exact rfl) | (exfalso; omega) | (((first | apply Go.iQ | apply Go.gQ | apply Go.sQ | apply Qg.gQ); exact rfl; (first | exact .d | exact .e | exact .n | ((fail_if_success exact bqt); (fail_if_success exact bqf); exact .b))) <;> intro _)
      refine Go.app (k := 0) (ys := [] ++ List.replicate n [Ce.int .i64 0, .int .i64 0, .str []]) (junk := j1) (zs := List.replicate n [Ce.int .i64 0, .int .i64 0, .str []]) rfl rfl rfl (els_rep (k := 2) rfl) rfl hrl hj1 hrl (by simp; omega) fun v2 j2 hj2 => ?_
      repeat' first | (apply Go.adm; exact rfl) | apply Go.qs | apply Qg.nil | ((first | apply Go.v2 | apply Go.v1); (first | exact leAdd | assumption); iterate 6 exact rfl) | ((first | apply Go.op | apply Go.sop | apply Qg.op); exact rfl; (first | exact aop_alloc | exact aop_new rfl rfl | exact aop_mksl rfl | exact aop_lenM rfl | exact rfl | exact aL rfl rfl rfl rfl rfl | exact aS rfl rfl rfl rfl rfl rfl rfl)) | ((first | apply Go.no | apply Go.sno | apply Qg.no); exact rfl) | (exfalso; omega) | (((first | apply Go.iQ | apply Go.gQ | apply Go.sQ | apply Qg.gQ); exact rfl; (first | exact .d | exact .e | exact .n | ((fail_if_success exact bqt); (fail_if_success exact bqf); exact .b))) <;> intro _)
      apply Go.lp
      repeat' first | (apply Go.adm; exact rfl) | apply Go.qs | apply Qg.nil | ((first | apply Go.v2 | apply Go.v1); (first | exact leAdd | assumption); iterate 6 exact rfl) | ((first | apply Go.op | apply Go.sop | apply Qg.op); exact rfl; (first | exact aop_alloc | exact aop_new rfl rfl | exact aop_mksl rfl | exact aop_lenM rfl | exact rfl | exact aL rfl rfl rfl rfl rfl | exact aS rfl rfl rfl rfl rfl rfl rfl)) | ((first | apply Go.no | apply Go.sno | apply Qg.no); exact rfl) | (exfalso; omega) | (((first | apply Go.iQ | apply Go.gQ | apply Go.sQ | apply Qg.gQ); exact rfl; (first | exact .d | exact .e | exact .n | ((fail_if_success exact bqt); (fail_if_success exact bqf); exact .b))) <;> intro _)
      refine .ret rfl (fin_vec ?_ rfl)
      simp only [bothF, half_nil, half_nil, List.map_append, List.nil_append, nulls_map]
    · have hw0 := ne_len h2
      repeat' first | (apply Go.adm; exact rfl) | apply Go.qs | apply Qg.nil | ((first | apply Go.v2 | apply Go.v1); (first | exact leAdd | assumption); iterate 6 exact rfl) | ((first | apply Go.op | apply Go.sop | apply Qg.op); exact rfl; (first | exact aop_alloc | exact aop_new rfl rfl | exact aop_mksl rfl | exact aop_lenM rfl | exact rfl | exact aL rfl rfl rfl rfl rfl | exact aS rfl rfl rfl rfl rfl rfl rfl | exact aop_mkslice rfl rfl hmk)) | ((first | apply Go.no | apply Go.sno | apply Qg.no); exact rfl) | (exfalso; omega) | (((first | apply Go.iQ | apply Go.gQ | apply Go.sQ | apply Qg.gQ); exact rfl; (first | exact .d | exact .e | exact .n | ((fail_if_success exact bqt); (fail_if_success exact bqf); exact .b))) <;> intro _)
      apply Go.loop
      repeat' first | (apply Go.adm; exact rfl) | apply Go.qs | apply Qg.nil | ((first | apply Go.v2 | apply Go.v1); (first | exact leAdd | assumption); iterate 6 exact rfl) | ((first | apply Go.op | apply Go.sop | apply Qg.op); exact rfl; (first | exact aop_alloc | exact aop_new rfl rfl | exact aop_mksl rfl | exact aop_lenM rfl | exact rfl | exact aL rfl rfl rfl rfl rfl | exact aS rfl rfl rfl rfl rfl rfl rfl | exact aop_mkslice rfl rfl hmk)) | ((first | apply Go.no | apply Go.sno | apply Qg.no); exact rfl) | (exfalso; omega) | (((first | apply Go.iQ | apply Go.gQ | apply Go.sQ | apply Qg.gQ); exact rfl; (first | exact .d | exact .e | exact .n | ((fail_if_success exact bqt); (fail_if_success exact bqf); exact .b))) <;> intro _)
      refine Go.app (k := 0) (ys := []) (junk := []) (zs := List.replicate n [Ce.int .i64 0, .int .i64 0, .str []]) rfl rfl rfl (els_rep (k := 1) rfl) rfl (fun e he => by simp at he) Jk.nil hrl (by simp; omega) fun v1 j1 hj1 => ?_
      repeat' first | (apply Go.adm; exact rfl) | apply Go.qs | apply Qg.nil | ((first | apply Go.v2 | apply Go.v1); (first | exact leAdd | assumption); iterate 6 exact rfl) | ((first | apply Go.op | apply Go.sop | apply Qg.op); exact rfl; (first | exact aop_alloc | exact aop_new rfl rfl | exact aop_mksl rfl | exact aop_lenM rfl | exact rfl | exact aL rfl rfl rfl rfl rfl | exact aS rfl rfl rfl rfl rfl rfl rfl)) | ((first | apply Go.no | apply Go.sno | apply Qg.no); exact rfl) | (exfalso; omega) | (((first | apply Go.iQ | apply Go.gQ | apply Go.sQ | apply Qg.gQ); exact rfl; (first | exact .d | exact .e | exact .n | ((fail_if_success exact bqt); (fail_if_success exact bqf); exact .b))) <;> intro _)
      apply Go.lp
      repeat' first | (apply Go.adm; exact rfl) | apply Go.qs | apply Qg.nil | ((first | apply Go.v2 | apply Go.v1); (first | exact leAdd | assumption); iterate 6 exact rfl) | ((first | apply Go.op | apply Go.sop | apply Qg.op); exact rfl; (first | exact aop_alloc | exact aop_new rfl rfl | exact aop_mksl rfl | exact aop_lenM rfl | exact rfl | exact aL rfl rfl rfl rfl rfl | exact aS rfl rfl rfl rfl rfl rfl rfl | exact aop_mkslice rfl rfl hmk)) | ((first | apply Go.no | apply Go.sno | apply Qg.no); exact rfl) | (exfalso; omega) | (((first | apply Go.iQ | apply Go.gQ | apply Go.sQ | apply Qg.gQ); exact rfl; (first | exact .d | exact .e | exact .n | ((fail_if_success exact bqt); (fail_if_success exact bqf); exact .b))) <;> intro _)
      refine Go.app (k := 0) (ys := [] ++ List.replicate n [Ce.int .i64 0, .int .i64 0, .str []]) (junk := j1) (zs := now.map encV) rfl rfl rfl rfl rfl hrl hj1 lens (by simp; omega) fun v2 j2 hj2 => ?_
      repeat' first | (apply Go.adm; exact rfl) | apply Go.qs | apply Qg.nil | ((first | apply Go.v2 | apply Go.v1); (first | exact leAdd | assumption); iterate 6 exact rfl) | ((first | apply Go.op | apply Go.sop | apply Qg.op); exact rfl; (first | exact aop_alloc | exact aop_new rfl rfl | exact aop_mksl rfl | exact aop_lenM rfl | exact rfl | exact aL rfl rfl rfl rfl rfl | exact aS rfl rfl rfl rfl rfl rfl rfl)) | ((first | apply Go.no | apply Go.sno | apply Qg.no); exact rfl) | (exfalso; omega) | (((first | apply Go.iQ | apply Go.gQ | apply Go.sQ | apply Qg.gQ); exact rfl; (first | exact .d | exact .e | exact .n | ((fail_if_success exact bqt); (fail_if_success exact bqf); exact .b))) <;> intro _)
      apply Go.lp
      repeat' first | (apply Go.adm; exact rfl) | apply Go.qs | apply Qg.nil | ((first | apply Go.v2 | apply Go.v1); (first | exact leAdd | assumption); iterate 6 exact rfl) | ((first | apply Go.op | apply Go.sop | apply Qg.op); exact rfl; (first | exact aop_alloc | exact aop_new rfl rfl | exact aop_mksl rfl | exact aop_lenM rfl | exact rfl | exact aL rfl rfl rfl rfl rfl | exact aS rfl rfl rfl rfl rfl rfl rfl)) | ((first | apply Go.no | apply Go.sno | apply Qg.no); exact rfl) | (exfalso; omega) | (((first | apply Go.iQ | apply Go.gQ | apply Go.sQ | apply Qg.gQ); exact rfl; (first | exact .d | exact .e | exact .n | ((fail_if_success exact bqt); (fail_if_success exact bqf); exact .b))) <;> intro _)
      refine .ret rfl (fin_vec ?_ rfl)
      simp only [bothF, half_nil, half_some n h2, List.map_append, List.nil_append, nulls_map]
  · have ho0 := ne_len h1
    by_cases h2 : now = []
    · subst h2
      repeat' first | (apply Go.adm; exact rfl) | apply Go.qs | apply Qg.nil | ((first | apply Go.v2 | apply Go.v1); (first | exact leAdd | assumption); iterate 6 exact rfl) | ((first | apply Go.op | apply Go.sop | apply Qg.op); exact rfl; (first | exact aop_alloc | exact aop_new rfl rfl | exact aop_mksl rfl | exact aop_lenM rfl | exact rfl | exact aL rfl rfl rfl rfl rfl | exact aS rfl rfl rfl rfl rfl rfl rfl | exact aop_mkslice rfl rfl hmk)) | ((first | apply Go.no | apply Go.sno | apply Qg.no); exact rfl) | (exfalso; omega) | (((first | apply Go.iQ | apply Go.gQ | apply Go.sQ | apply Qg.gQ); exact rfl; (first | exact .d | exact .e | exact .n | ((fail_if_success exact bqt); (fail_if_success exact bqf); exact .b))) <;> intro _)
      apply Go.loop
      repeat' first | (apply Go.adm; exact rfl) | apply Go.qs | apply Qg.nil | ((first | apply Go.v2 | apply Go.v1); (first | exact leAdd | assumption); iterate 6 exact rfl) | ((first | apply Go.op | apply Go.sop | apply Qg.op); exact rfl; (first | exact aop_alloc | exact aop_new rfl rfl | exact aop_mksl rfl | exact aop_lenM rfl | exact rfl | exact aL rfl rfl rfl rfl rfl | exact aS rfl rfl rfl rfl rfl rfl rfl | exact aop_mkslice rfl rfl hmk)) | ((first | apply Go.no | apply Go.sno | apply Qg.no); exact rfl) | (exfalso; omega) | (((first | apply Go.iQ | apply Go.gQ | apply Go.sQ | apply Qg.gQ); exact rfl; (first | exact .d | exact .e | exact .n | ((fail_if_success exact bqt); (fail_if_success exact bqf); exact .b))) <;> intro _)
      refine Go.app (k := 0) (ys := []) (junk := []) (zs := old.map encV) rfl rfl rfl rfl rfl (fun e he => by simp at he) Jk.nil lens (by simp; omega) fun v1 j1 hj1 => ?_
      repeat' first | (apply Go.adm; exact rfl) | apply Go.qs | apply Qg.nil | ((first | apply Go.v2 | apply Go.v1); (first | exact leAdd | assumption); iterate 6 exact rfl) | ((first | apply Go.op | apply Go.sop | apply Qg.op); exact rfl; (first | exact aop_alloc | exact aop_new rfl rfl | exact aop_mksl rfl | exact aop_lenM rfl | exact rfl | exact aL rfl rfl rfl rfl rfl | exact aS rfl rfl rfl rfl rfl rfl rfl)) | ((first | apply Go.no | apply Go.sno | apply Qg.no); exact rfl) | (exfalso; omega) | (((first | apply Go.iQ | apply Go.gQ | apply Go.sQ | apply Qg.gQ); exact rfl; (first | exact .d | exact .e | exact .n | ((fail_if_success exact bqt); (fail_if_success exact bqf); exact .b))) <;> intro _)
      apply Go.lp
      repeat' first | (apply Go.adm; exact rfl) | apply Go.qs | apply Qg.nil | ((first | apply Go.v2 | apply Go.v1); (first | exact leAdd | assumption); iterate 6 exact rfl) | ((first | apply Go.op | apply Go.sop | apply Qg.op); exact rfl; (first | exact aop_alloc | exact aop_new rfl rfl | exact aop_mksl rfl | exact aop_lenM rfl | exact rfl | exact aL rfl rfl rfl rfl rfl | exact aS rfl rfl rfl rfl rfl rfl rfl | exact aop_mkslice rfl rfl hmk)) | ((first | apply Go.no | apply Go.sno | apply Qg.no); exact rfl) | (exfalso; omega) | (((first | apply Go.iQ | apply Go.gQ | apply Go.sQ | apply Qg.gQ); exact rfl; (first | exact .d | exact .e | exact .n | ((fail_if_success exact bqt); (fail_if_success exact bqf); exact .b))) <;> intro _)
      refine Go.app (k := 0) (ys := [] ++ old.map encV) (junk := j1) (zs := List.replicate n [Ce.int .i64 0, .int .i64 0, .str []]) rfl rfl rfl (els_rep (k := 1) rfl) rfl lens hj1 hrl (by simp; omega) fun v2 j2 hj2 => ?_
      repeat' first | (apply Go.adm; exact rfl) | apply Go.qs | apply Qg.nil | ((first | apply Go.v2 | apply Go.v1); (first | exact leAdd | assumption); iterate 6 exact rfl) | ((first | apply Go.op | apply Go.sop | apply Qg.op); exact rfl; (first | exact aop_alloc | exact aop_new rfl rfl | exact aop_mksl rfl | exact aop_lenM rfl | exact rfl | exact aL rfl rfl rfl rfl rfl | exact aS rfl rfl rfl rfl rfl rfl rfl)) | ((first | apply Go.no | apply Go.sno | apply Qg.no); exact rfl) | (exfalso; omega) | (((first | apply Go.iQ | apply Go.gQ | apply Go.sQ | apply Qg.gQ); exact rfl; (first | exact .d | exact .e | exact .n | ((fail_if_success exact bqt); (fail_if_success exact bqf); exact .b))) <;> intro _)
      apply Go.lp
      repeat' first | (apply Go.adm; exact rfl) | apply Go.qs | apply Qg.nil | ((first | apply Go.v2 | apply Go.v1); (first | exact leAdd | assumption); iterate 6 exact rfl) | ((first | apply Go.op | apply Go.sop | apply Qg.op); exact rfl; (first | exact aop_alloc | exact aop_new rfl rfl | exact aop_mksl rfl | exact aop_lenM rfl | exact rfl | exact aL rfl rfl rfl rfl rfl | exact aS rfl rfl rfl rfl rfl rfl rfl)) | ((first | apply Go.no | apply Go.sno | apply Qg.no); exact rfl) | (exfalso; omega) | (((first | apply Go.iQ | apply Go.gQ | apply Go.sQ | apply Qg.gQ); exact rfl; (first | exact .d | exact .e | exact .n | ((fail_if_success exact bqt); (fail_if_success exact bqf); exact .b))) <;> intro _)
      refine .ret rfl (fin_vec ?_ rfl)
      simp only [bothF, half_some n h1, half_nil, List.map_append, List.nil_append, nulls_map]
    · have hw0 := ne_len h2
      repeat' first | (apply Go.adm; exact rfl) | apply Go.qs | apply Qg.nil | ((first | apply Go.v2 | apply Go.v1); (first | exact leAdd | assumption); iterate 6 exact rfl) | ((first | apply Go.op | apply Go.sop | apply Qg.op); exact rfl; (first | exact aop_alloc | exact aop_new rfl rfl | exact aop_mksl rfl | exact aop_lenM rfl | exact rfl | exact aL rfl rfl rfl rfl rfl | exact aS rfl rfl rfl rfl rfl rfl rfl | exact aop_mkslice rfl rfl hmk)) | ((first | apply Go.no | apply Go.sno | apply Qg.no); exact rfl) | (exfalso; omega) | (((first | apply Go.iQ | apply Go.gQ | apply Go.sQ | apply Qg.gQ); exact rfl; (first | exact .d | exact .e | exact .n | ((fail_if_success exact bqt); (fail_if_success exact bqf); exact .b))) <;> intro _)
      apply Go.loop
      repeat' first | (apply Go.adm; exact rfl) | apply Go.qs | apply Qg.nil | ((first | apply Go.v2 | apply Go.v1); (first | exact leAdd | assumption); iterate 6 exact rfl) | ((first | apply Go.op | apply Go.sop | apply Qg.op); exact rfl; (first | exact aop_alloc | exact aop_new rfl rfl | exact aop_mksl rfl | exact aop_lenM rfl | exact rfl | exact aL rfl rfl rfl rfl rfl | exact aS rfl rfl rfl rfl rfl rfl rfl | exact aop_mkslice rfl rfl hmk)) | ((first | apply Go.no | apply Go.sno | apply Qg.no); exact rfl) | (exfalso; omega) | (((first | apply Go.iQ | apply Go.gQ | apply Go.sQ | apply Qg.gQ); exact rfl; (first | exact .d | exact .e | exact .n | ((fail_if_success exact bqt); (fail_if_success exact bqf); exact .b))) <;> intro _)
      refine Go.app (k := 0) (ys := []) (junk := []) (zs := old.map encV) rfl rfl rfl rfl rfl (fun e he => by simp at he) Jk.nil lens (by simp; omega) fun v1 j1 hj1 => ?_
      repeat' first | (apply Go.adm; exact rfl) | apply Go.qs | apply Qg.nil | ((first | apply Go.v2 | apply Go.v1); (first | exact leAdd | assumption); iterate 6 exact rfl) | ((first | apply Go.op | apply Go.sop | apply Qg.op); exact rfl; (first | exact aop_alloc | exact aop_new rfl rfl | exact aop_mksl rfl | exact aop_lenM rfl | exact rfl | exact aL rfl rfl rfl rfl rfl | exact aS rfl rfl rfl rfl rfl rfl rfl)) | ((first | apply Go.no | apply Go.sno | apply Qg.no); exact rfl) | (exfalso; omega) | (((first | apply Go.iQ | apply Go.gQ | apply Go.sQ | apply Qg.gQ); exact rfl; (first | exact .d | exact .e | exact .n | ((fail_if_success exact bqt); (fail_if_success exact bqf); exact .b))) <;> intro _)
      apply Go.lp
      repeat' first | (apply Go.adm; exact rfl) | apply Go.qs | apply Qg.nil | ((first | apply Go.v2 | apply Go.v1); (first | exact leAdd | assumption); iterate 6 exact rfl) | ((first | apply Go.op | apply Go.sop | apply Qg.op); exact rfl; (first | exact aop_alloc | exact aop_new rfl rfl | exact aop_mksl rfl | exact aop_lenM rfl | exact rfl | exact aL rfl rfl rfl rfl rfl | exact aS rfl rfl rfl rfl rfl rfl rfl | exact aop_mkslice rfl rfl hmk)) | ((first | apply Go.no | apply Go.sno | apply Qg.no); exact rfl) | (exfalso; omega) | (((first | apply Go.iQ | apply Go.gQ | apply Go.sQ | apply Qg.gQ); exact rfl; (first | exact .d | exact .e | exact .n | ((fail_if_success exact bqt); (fail_if_success exact bqf); exact .b))) <;> intro _)
      refine Go.app (k := 0) (ys := [] ++ old.map encV) (junk := j1) (zs := now.map encV) rfl rfl rfl rfl rfl lens hj1 lens (by simp; omega) fun v2 j2 hj2 => ?_
      repeat' first | (apply Go.adm; exact rfl) | apply Go.qs | apply Qg.nil | ((first | apply Go.v2 | apply Go.v1); (first | exact leAdd | assumption); iterate 6 exact rfl) | ((first | apply Go.op | apply Go.sop | apply Qg.op); exact rfl; (first | exact aop_alloc | exact aop_new rfl rfl | exact aop_mksl rfl | exact aop_lenM rfl | exact rfl | exact aL rfl rfl rfl rfl rfl | exact aS rfl rfl rfl rfl rfl rfl rfl)) | ((first | apply Go.no | apply Go.sno | apply Qg.no); exact rfl) | (exfalso; omega) | (((first | apply Go.iQ | apply Go.gQ | apply Go.sQ | apply Qg.gQ); exact rfl; (first | exact .d | exact .e | exact .n | ((fail_if_success exact bqt); (fail_if_success exact bqf); exact .b))) <;> intro _)
      apply Go.lp
      repeat' first | (apply Go.adm; exact rfl) | apply Go.qs | apply Qg.nil | ((first | apply Go.v2 | apply Go.v1); (first | exact leAdd | assumption); iterate 6 exact rfl) | ((first | apply Go.op | apply Go.sop | apply Qg.op); exact rfl; (first | exact aop_alloc | exact aop_new rfl rfl | exact aop_mksl rfl | exact aop_lenM rfl | exact rfl | exact aL rfl rfl rfl rfl rfl | exact aS rfl rfl rfl rfl rfl rfl rfl)) | ((first | apply Go.no | apply Go.sno | apply Qg.no); exact rfl) | (exfalso; omega) | (((first | apply Go.iQ | apply Go.gQ | apply Go.sQ | apply Qg.gQ); exact rfl; (first | exact .d | exact .e | exact .n | ((fail_if_success exact bqt); (fail_if_success exact bqf); exact .b))) <;> intro _)
      refine .ret rfl (fin_vec ?_ rfl)
      simp only [bothF, half_some n h1, half_some n h2, List.map_append, List.nil_append]
end Go.Proofs.YtcfpdongfdhgjaaGreat.Am

/- Triggers that fire: the reference's rows, and the law's function. -/
set_option linter.unusedVariables false
set_option linter.unusedSimpArgs false
namespace Go.Proofs.YtcfpdongfdhgjaaGreat.Am

theorem aop_mksliceZ {fr : Fr} {σ : Store} {l : List (Nat × List (List Ce))} {s bytes n : Nat} {z : List Ce} {q : Int} {x y : Opd} (hx : x.ev fr = some (.c (.int .i64 q))) (hy : y.ev fr = some (.c (.int .i64 q))) (hq : q = (n : Int)) (hb : bytes * n ≤ 140737488355328) :
    aop (.mkslice s bytes z x y) fr (E σ l) = some (.c (.sl (σ.next + l.length) 0 0 n n), E σ (l ++ [(0, List.replicate n z)])) := by
  subst hq
  exact aop_mkslice hx hy hb
theorem splice_half {N : Nat} {old : List Val} {z : List Ce} (hz : z = encV vNull) (ho : old = [] ∨ old.length = N) : splice (List.replicate (2 * N) z) 0 (old.map encV) = (half N old).map encV ++ List.replicate N z := by
  subst hz
  rw [splice, List.take_zero, List.nil_append, Nat.zero_add, List.length_map, List.drop_replicate]
  by_cases h : old = []
  · subst h
    rw [half_nil, nulls, List.map_replicate, List.map_nil, List.nil_append, List.replicate_append_replicate, List.length_nil]
    congr 1
    omega
  · rcases ho with ho | ho
    · exact absurd ho h
    · rw [half_some N h, ho]
      congr 2
      omega
theorem half_len {N : Nat} {old : List Val} (ho : old = [] ∨ old.length = N) : (half N old).length = N := by
  rcases ho with ho | ho
  · subst ho; simp [half_nil, nulls]
  · by_cases h : old = []
    · subst h; simp [half_nil, nulls]
    · rw [half_some N h, ho]
theorem splice_half2 {N : Nat} {old now : List Val} {z : List Ce} (hz : z = encV vNull) (ho : old = [] ∨ old.length = N) (hw : now = [] ∨ now.length = N) : splice ((half N old).map encV ++ List.replicate N z) (0 + N) (now.map encV) = (bothF N old now).map encV := by
  subst hz
  have hl : ((half N old).map encV).length = N := by rw [List.length_map, half_len ho]
  rw [splice, Nat.zero_add, List.take_left' hl, bothF, List.map_append, List.length_map, List.append_assoc]
  congr 1
  rw [List.drop_append, List.drop_eq_nil_of_le (by omega), hl, List.nil_append, List.drop_replicate]
  by_cases h : now = []
  · subst h
    rw [half_nil, nulls, List.map_replicate, List.map_nil, List.nil_append, List.length_nil]
    congr 1
    omega
  · rcases hw with hw | hw
    · exact absurd hw h
    · rw [half_some N h, hw, show N - (N + N - N) = 0 by omega]
      simp
theorem l8Both_ok (t : Table) (old now : List Val) (hc : t.cols.length ≤ 8) (ho : old = [] ∨ old.length = t.cols.length) (hw : now = [] ∨ now.length = t.cols.length) : Pure Tryz.prog 207 [.agg (encTable t), .c (.fz (old.map encV)), .c (.fz (now.map encV))] (.c (.fz ((bothF t.cols.length old now).map encV))) := by
  refine Pure.run mixed c_spec_l8Both_ok (Nat.le_of_ble_eq_true rfl) fun σ hS hA => ?_
  clear hS hA
  generalize hN : t.cols.length = N at *
  have hq : IntKind.i64.wrap (2 * (t.cols.length : Int)) = ((2 * N : Nat) : Int) := by rw [wrap2 (by omega), hN]; omega
  have hmk : 32 * (2 * N) ≤ 140737488355328 := by omega
  have hrl : ∀ e ∈ List.replicate (2 * N) [Ce.int .i64 0, .int .i64 0, .str []], e.length = 3 := fun e he => by rw [List.eq_of_mem_replicate he]; rfl
  have hrl2 : ∀ e ∈ (half N old).map encV ++ List.replicate N [Ce.int .i64 0, .int .i64 0, .str []], e.length = 3 := fun e he => (List.mem_append.1 he).elim (lens e) fun h => by rw [List.eq_of_mem_replicate h]; rfl
  have hlo : (old.map encV).length ≤ 2 * N := by
    rw [List.length_map]
    rcases ho with rfl | ho
    · simp
    · omega
  have hlw : (now.map encV).length ≤ 2 * N - N := by
    rw [List.length_map]
    rcases hw with rfl | hw
    · simp
    · omega
  have e1 := splice_half (z := [Ce.int .i64 0, .int .i64 0, .str []]) rfl ho
  have e2 := splice_half2 (z := [Ce.int .i64 0, .int .i64 0, .str []]) rfl ho hw
  have hl1 : ((half N old).map encV ++ List.replicate N [Ce.int .i64 0, .int .i64 0, .str []]).length = 2 * N := by rw [List.length_append, List.length_map, half_len ho, List.length_replicate]; omega
  repeat' first | (apply Go.adm; exact rfl) | apply Go.qs | apply Qg.nil | ((first | apply Go.v2 | apply Go.v1); (first | exact leAdd | assumption); iterate 6 exact rfl) | ((first | apply Go.op | apply Go.sop | apply Qg.op); exact rfl; (first | exact aop_alloc | exact aop_new rfl rfl | exact aop_mksl rfl | exact aop_lenM rfl | exact rfl | exact aL rfl rfl rfl rfl rfl | exact aS rfl rfl rfl rfl rfl rfl rfl | exact aop_mksliceZ rfl rfl hq hmk)) | ((first | apply Go.no | apply Go.sno | apply Qg.no); exact rfl) | (exfalso; omega) | (((first | apply Go.iQ | apply Go.gQ | apply Go.sQ | apply Qg.gQ); exact rfl; (first | exact .d | exact .e | exact .n | ((fail_if_success exact bqt); (fail_if_success exact bqf); exact .b))) <;> intro _)
  refine Go.op rfl (aop_copy (k := 0) (zs := old.map encV) rfl rfl rfl rfl (by simp) hrl lens hlo) ?_
  rw [show (([] ++ [(0, List.replicate (2 * N) [Ce.int .i64 0, .int .i64 0, .str []])] : List (Nat × List (List Ce))).set 0 (0, splice (List.replicate (2 * N) [Ce.int .i64 0, .int .i64 0, .str []]) 0 (old.map encV))) = [(0, (half N old).map encV ++ List.replicate N [Ce.int .i64 0, .int .i64 0, .str []])] by rw [← e1]; rfl]
  have hNi : (t.cols.length : Int) = (N : Int) := by omega
  repeat' first | (apply Go.adm; exact rfl) | apply Go.qs | apply Qg.nil | ((first | apply Go.v2 | apply Go.v1); (first | exact leAdd | assumption); iterate 6 exact rfl) | ((first | apply Go.op | apply Go.sop | apply Qg.op); exact rfl; (first | exact aop_alloc | exact aop_new rfl rfl | exact aop_mksl rfl | exact aop_lenM rfl | exact rfl | exact aL rfl rfl rfl rfl rfl | exact aS rfl rfl rfl rfl rfl rfl rfl | exact aop_slice (l := N) (h := 2 * N) (m := 2 * N) rfl rfl rfl rfl (bound_nat hNi) rfl rfl (E_get (k := 0) rfl) hrl2 (by omega) (Nat.le_refl _) (Nat.le_refl _))) | ((first | apply Go.no | apply Go.sno | apply Qg.no); exact rfl) | (exfalso; omega) | (((first | apply Go.iQ | apply Go.gQ | apply Go.sQ | apply Qg.gQ); exact rfl; (first | exact .d | exact .e | exact .n | ((fail_if_success exact bqt); (fail_if_success exact bqf); exact .b))) <;> intro _)
  refine Go.op rfl (aop_copy (k := 0) (i := 0 + N) (m := 2 * N - N) (zs := now.map encV) rfl rfl rfl rfl (by rw [hl1]; omega) hrl2 lens hlw) ?_
  repeat' first | (apply Go.adm; exact rfl) | apply Go.qs | apply Qg.nil | ((first | apply Go.v2 | apply Go.v1); (first | exact leAdd | assumption); iterate 6 exact rfl) | ((first | apply Go.op | apply Go.sop | apply Qg.op); exact rfl; (first | exact aop_alloc | exact aop_new rfl rfl | exact aop_mksl rfl | exact aop_lenM rfl | exact rfl | exact aL rfl rfl rfl rfl rfl | exact aS rfl rfl rfl rfl rfl rfl rfl)) | ((first | apply Go.no | apply Go.sno | apply Qg.no); exact rfl) | (exfalso; omega) | (((first | apply Go.iQ | apply Go.gQ | apply Go.sQ | apply Qg.gQ); exact rfl; (first | exact .d | exact .e | exact .n | ((fail_if_success exact bqt); (fail_if_success exact bqf); exact .b))) <;> intro _)
  have hlen : ((bothF N old now).map encV).length = 2 * N := by rw [List.length_map, bothF, List.length_append, half_len ho, half_len hw]; omega
  refine .ret (v := .c (.sl (σ.next + 0) 0 0 (2 * N) (2 * N))) rfl ?_
  have hv : Ce.sl (σ.next + 0) 0 0 (2 * N) (2 * N) = vec (σ.next + 0) 0 ((bothF N old now).map encV) [] := by rw [vec, hlen]; rfl
  rw [hv]
  refine fin_vec rfl ?_
  rw [List.append_nil, ← e2]
  rfl
def fireAux (p : Trigger → Bool) : List Trigger → Int → List Int → List Int
  | [], _, acc => acc
  | x :: l, i, acc => fireAux p l (i + 1) (if p x then acc ++ [i] else acc)
def fireOne (t : Table) (ev : Int) (vals : List Val) (x : Trigger) : Bool := x.table == t.name && (x.event == ev && ((x.when_.length : Int) == 0 || truthI x.when_ vals == 1))
def firesF (t : Table) (l : List Trigger) (ev : Int) (old now : List Val) : List Int := fireAux (fireOne t ev (bothF t.cols.length old now)) l 0 []
theorem fires_ok (s : List Table) (l : List Trigger) (n : Int) (m : Nat) (ev : Int) (old now : List Val) (hn : n = (m : Int)) (hm : m < s.length) (hc : s[m].cols.length ≤ 8) (hx : l.length ≤ 1048576) (hb : ∀ x ∈ l, x.when_.length ≤ 34359738368) (ho : old.length ≤ 8) (hw : now.length ≤ 8) (σ : Store) :
    Ok Tryz.prog 112 [.c (.fz (s.map encTable)), .c (.fz (l.map encTrigger)), .c (.int .i64 n), .c (.int .i64 ev), .c (.fz (old.map encV)), .c (.fz (now.map encV))] σ (NewV σ (.c (.fz ((firesF s[m] l ev old now).map encI)))) := by
  refine Ok.run mixed c_impl_fires_ok (Nat.le_of_ble_eq_true rfl) fun hS hA => ?_
  clear hS hA
  have cs := seen_ok s[m].cols.length old now hc ho hw
  have hbl : (bothF s[m].cols.length old now).length ≤ 34359738368 := by
    have : ∀ q : List Val, q.length ≤ 8 → (half s[m].cols.length q).length ≤ 8 := fun q h => by
      rw [half]
      split
      · rw [nulls, List.length_replicate]; exact hc
      · exact h
    have h1 := this old ho
    have h2 := this now hw
    rw [bothF, List.length_append]
    omega
  rw [firesF]
  generalize bothF s[m].cols.length old now = vals at cs hbl ⊢
  repeat' first | (apply Go.adm; exact rfl) | apply Go.qs | apply Qg.nil | ((first | apply Go.v2 | apply Go.v1); (first | exact leAdd | assumption); iterate 6 exact rfl) | ((first | apply Go.op | apply Go.sop | apply Qg.op); exact rfl; (first | exact aop_alloc | exact aop_new rfl rfl | exact aop_mksl rfl | exact aop_lenM rfl | exact rfl | exact aL rfl rfl rfl rfl rfl | exact aS rfl rfl rfl rfl rfl rfl rfl | exact aop_iaddrM (enc := encTable) rfl rfl hn hm rfl)) | ((first | apply Go.no | apply Go.sno | apply Qg.no); exact rfl) | ((first | apply Go.pcall | apply Go.spcall | apply Qg.pcall); (iterate 3 exact rfl); exact cs) | (exfalso; omega) | (((first | apply Go.iQ | apply Go.gQ | apply Go.sQ | apply Qg.gQ); exact rfl; (first | exact .d | exact .e | exact .n | ((fail_if_success exact bqt); (fail_if_success exact bqf); exact .b))) <;> intro _)
  refine Go.keep [0, 2, 3, 13, 14, 27, 28, 29] (Go.loops (I := fun q fr τ => ∃ (i : Nat) (k : Int) (ids : List Int) (v : Nat) (junk : List (List Ce)), q = l.length - i ∧ i ≤ l.length ∧ k = i ∧ Jk 1 junk ∧ (ids.length ≤ i ∧ fireAux (fireOne s[m] ev vals) l 0 [] = fireAux (fireOne s[m] ev vals) (l.drop i) k ids) ∧
    fr = [(0, .c (.fz (s.map encTable))), (2, .c (.int .i64 n)), (3, .c (.int .i64 ev)), (13, .c (vec (σ.next + 0) v (ids.map encI) junk)), (14, .c (.fz (vals.map encV))), (27, .c (.fz (l.map encTrigger))), (28, .c (.int .i64 (l.length : Int))), (29, .c (.int .i64 k))] ∧ τ = E σ [(v, ids.map encI ++ junk)]) ?_ _ _ _ ⟨0, _, [], 0, [], rfl, Nat.zero_le _, rfl, Jk.nil, ⟨Nat.zero_le _, rfl⟩, rfl, rfl⟩)
  rintro q fr τ ⟨i, k, ids, v, junk, rfl, hi, hk, hj, ⟨hil, hs⟩, rfl, rfl⟩ hrec
  clear cs
  by_cases hlt : i < l.length
  · have hwb := hb _ (List.getElem_mem hlt)
    rw [List.drop_eq_getElem_cons hlt, fireAux] at hs
    have hkk : IntKind.i64.wrap (k + 1) = k + 1 := wrap64 (by omega) (by omega)
    have hbd : ((ids.map encI).length + 1) * 8 ≤ 140737488355328 := by rw [List.length_map]; omega
    have hz1 : ∀ e ∈ ids.map encI, e.length = 1 := fun e he => (flatIs e he).1
    have e1 : ids.map encI ++ [encI k] = (ids ++ [k]).map encI := by simp
    have c1 := Truth_ok l[i].when_ vals hwb hbl
    cases hf : fireOne s[m] ev vals l[i]
    · rw [hf, if_neg Bool.false_ne_true] at hs
      simp only [fireOne] at hf
      repeat' first | (apply Go.adm; exact rfl) | apply Go.qs | apply Qg.nil | ((first | apply Go.v2 | apply Go.v1); (first | exact leAdd | assumption); iterate 6 exact rfl) | ((first | apply Go.op | apply Go.sop | apply Qg.op); exact rfl; (first | exact aop_alloc | exact aop_new rfl rfl | exact aop_mksl rfl | exact aop_lenM rfl | exact rfl | exact aL rfl rfl rfl rfl rfl | exact aS rfl rfl rfl rfl rfl rfl rfl | exact aop_iaddrM (enc := encTrigger) rfl rfl hk hlt rfl | exact aop_iaddrM (enc := encTable) rfl rfl hn hm rfl)) | ((first | apply Go.no | apply Go.sno | apply Qg.no); exact rfl) | (apply Go.app1; exact rfl; exact rfl; exact rfl; exact rfl; exact rfl; exact hz1; exact hj; exact rfl; exact hbd; intro v' junk' hj') | ((first | apply Go.pcall | apply Go.spcall | apply Qg.pcall); (iterate 3 exact rfl); exact c1) | (exfalso; omega) | (((first | apply Go.iQ | apply Go.gQ | apply Go.sQ | apply Qg.gQ); exact rfl; (first | exact .d | exact .e | exact .n | ((fail_if_success exact bqt); (fail_if_success exact bqf); exact .b))) <;> intro _)
      all_goals first
        | exact Go.keep [0, 2, 3, 13, 14, 27, 28, 29] (hrec _ _ _ (by omega) ⟨i + 1, _, ids, v, junk, rfl, hlt, wrap_succ hk (by omega), hj, ⟨by omega, by rw [hkk]; exact hs⟩, rfl, rfl⟩)
        | (exfalso; clear hrec hs; simp_all; done)
    · rw [hf, if_pos rfl] at hs
      simp only [fireOne] at hf
      repeat' first | (apply Go.adm; exact rfl) | apply Go.qs | apply Qg.nil | ((first | apply Go.v2 | apply Go.v1); (first | exact leAdd | assumption); iterate 6 exact rfl) | ((first | apply Go.op | apply Go.sop | apply Qg.op); exact rfl; (first | exact aop_alloc | exact aop_new rfl rfl | exact aop_mksl rfl | exact aop_lenM rfl | exact rfl | exact aL rfl rfl rfl rfl rfl | exact aS rfl rfl rfl rfl rfl rfl rfl | exact aop_iaddrM (enc := encTrigger) rfl rfl hk hlt rfl | exact aop_iaddrM (enc := encTable) rfl rfl hn hm rfl)) | ((first | apply Go.no | apply Go.sno | apply Qg.no); exact rfl) | (apply Go.app1; exact rfl; exact rfl; exact rfl; exact rfl; exact rfl; exact hz1; exact hj; exact rfl; exact hbd; intro v' junk' hj') | ((first | apply Go.pcall | apply Go.spcall | apply Qg.pcall); (iterate 3 exact rfl); exact c1) | (exfalso; omega) | (((first | apply Go.iQ | apply Go.gQ | apply Go.sQ | apply Qg.gQ); exact rfl; (first | exact .d | exact .e | exact .n | ((fail_if_success exact bqt); (fail_if_success exact bqf); exact .b))) <;> intro _)
      all_goals first
        | (refine Go.keep [0, 2, 3, 13, 14, 27, 28, 29] (hrec _ _ _ (by omega) ⟨i + 1, _, ids ++ [k], v', junk', rfl, hlt, wrap_succ hk (by omega), hj', ⟨by simp; omega, by rw [hkk]; exact hs⟩, ?_, ?_⟩) <;> (rw [← e1]; rfl))
        | (exfalso; clear hrec hs; simp_all; done)
  · repeat' first | (apply Go.adm; exact rfl) | apply Go.qs | apply Qg.nil | ((first | apply Go.v2 | apply Go.v1); (first | exact leAdd | assumption); iterate 6 exact rfl) | ((first | apply Go.op | apply Go.sop | apply Qg.op); exact rfl; (first | exact aop_alloc | exact aop_new rfl rfl | exact aop_mksl rfl | exact aop_lenM rfl | exact rfl | exact aL rfl rfl rfl rfl rfl | exact aS rfl rfl rfl rfl rfl rfl rfl)) | ((first | apply Go.no | apply Go.sno | apply Qg.no); exact rfl) | (exfalso; omega) | (((first | apply Go.iQ | apply Go.gQ | apply Go.sQ | apply Qg.gQ); exact rfl; (first | exact .d | exact .e | exact .n | ((fail_if_success exact bqt); (fail_if_success exact bqf); exact .b))) <;> intro _)
    refine .ret rfl ?_
    rw [List.drop_eq_nil_of_le (by omega), fireAux] at hs
    rw [hs]
    exact newVec flatIs hj
end Go.Proofs.YtcfpdongfdhgjaaGreat.Am

/- Triggers that fire: whole functions. -/
set_option linter.unusedVariables false
set_option linter.unusedSimpArgs false
namespace Go.Proofs.YtcfpdongfdhgjaaGreat.Am

theorem namesAux_uniq : ∀ {l pre : List Table}, namesAux pre l = true → (∀ t ∈ l, ∀ u ∈ pre, u.name ≠ t.name) ∧ ∀ i j (hi : i < l.length) (hj : j < l.length), l[i].name = l[j].name → i = j
  | [], _, _ => ⟨fun t ht => by simp at ht, fun i j hi => by simp at hi⟩
  | t :: r, pre, h => by
    simp only [namesAux, Bool.and_eq_true, Bool.not_eq_true', List.any_eq_false, beq_iff_eq] at h
    obtain ⟨⟨_, h1⟩, h2⟩ := h
    obtain ⟨h3, h4⟩ := namesAux_uniq h2
    refine ⟨fun u hu w hw => ?_, fun i j hi hj e => ?_⟩
    · rcases List.mem_cons.1 hu with rfl | hu
      · exact h1 w hw
      · exact h3 u hu w (by simp [hw])
    · cases i with
      | zero =>
        cases j with
        | zero => rfl
        | succ j => exact absurd e (h3 _ (List.getElem_mem (by simpa using hj)) t (by simp))
      | succ i =>
        cases j with
        | zero => exact absurd e.symm (h3 _ (List.getElem_mem (by simpa using hi)) t (by simp))
        | succ j => rw [h4 i j (by simpa using hi) (by simpa using hj) e]
theorem tabAt_eq {s : List Table} (h : schemaF s = true) {m : Nat} (hm : m < s.length) {nm : List UInt8} (e : nm = s[m].name) : tabAt s nm = some s[m] := by
  subst e
  rcases idxA_at (p := fun u : Table => u.name == s[m].name) (l := s) (i := 0) (Int.le_refl _) with hi | ⟨n, hn, hi, hp⟩
  · exfalso
    have := any_idx (p := fun u : Table => u.name == s[m].name) (l := s)
    rw [hi] at this
    have h2 : (s.any fun u => u.name == s[m].name) = true := List.any_eq_true.2 ⟨s[m], List.getElem_mem hm, by simp⟩
    rw [h2] at this
    exact absurd this (by decide)
  · rw [tabAt_yes (by rw [hi]; omega) hn]
    have := (namesAux_uniq (schemaF_iff.1 h).2.1).2 n m hn hm (eq_of_beq hp)
    subst this
    rfl
theorem half_oks {n : Nat} {l : List Val} (h : ∀ v ∈ l, okVal v = true) : ∀ v ∈ half n l, okVal v = true := by
  intro v hv
  rw [half] at hv
  split at hv
  · rw [List.eq_of_mem_replicate hv]; rfl
  · exact h v hv
theorem l8Fires_ok (s : List Table) (l : List Trigger) (n : Int) (m : Nat) (ev : Int) (old now : List Val) (hn : n = (m : Int)) (hm : m < s.length) (hc : s[m].cols.length ≤ 8) (hx : l.length ≤ 1048576) (ho : old = [] ∨ old.length = s[m].cols.length) (hw : now = [] ∨ now.length = s[m].cols.length)
    (ho2 : ∀ v ∈ old, okVal v = true) (hw2 : ∀ v ∈ now, okVal v = true) (hT : ∀ x ∈ l, x.table = s[m].name → whereF x.when_ (2 * s[m].cols.length) = true) (σ : Store) :
    Ok Tryz.prog 107 [.c (.fz (s.map encTable)), .c (.fz (l.map encTrigger)), .c (.int .i64 n), .c (.int .i64 ev), .c (.fz (old.map encV)), .c (.fz (now.map encV))] σ (NewV σ (.c (.fz ((firesF s[m] l ev old now).map encI)))) := by
  refine Ok.run mixed c_spec_l8Fires_ok (Nat.le_of_ble_eq_true rfl) fun hS hA => ?_
  clear hS hA
  have cs := l8Both_ok s[m] old now hc ho hw
  have hbl : (bothF s[m].cols.length old now).length = 2 * s[m].cols.length := by rw [bothF, List.length_append, half_len ho, half_len hw]; omega
  have hba : areVals (bothF s[m].cols.length old now) 16 = true := by
    simp only [areVals, Bool.and_eq_true, decide_eq_true_eq, List.all_eq_true]
    refine ⟨by omega, fun v hv => ?_⟩
    rcases List.mem_append.1 hv with hv | hv
    · exact half_oks ho2 v hv
    · exact half_oks hw2 v hv
  rw [firesF]
  generalize bothF s[m].cols.length old now = vals at cs hbl hba ⊢
  repeat' first | (apply Go.adm; exact rfl) | apply Go.qs | apply Qg.nil | ((first | apply Go.v2 | apply Go.v1); (first | exact leAdd | assumption); iterate 6 exact rfl) | ((first | apply Go.op | apply Go.sop | apply Qg.op); exact rfl; (first | exact aop_alloc | exact aop_new rfl rfl | exact aop_mksl rfl | exact aop_lenM rfl | exact rfl | exact aL rfl rfl rfl rfl rfl | exact aS rfl rfl rfl rfl rfl rfl rfl)) | ((first | apply Go.no | apply Go.sno | apply Qg.no); exact rfl) | (exfalso; omega) | (((first | apply Go.iQ | apply Go.gQ | apply Go.sQ | apply Qg.gQ); exact rfl; (first | exact .d | exact .e | exact .n | ((fail_if_success exact bqt); (fail_if_success exact bqf); exact .b))) <;> intro _)
  refine Go.keep [0, 1, 2, 3, 4, 5, 13, 14] (Go.loops (I := fun q fr τ => ∃ (i : Nat) (k : Int) (ids : List Int) (v : Nat) (junk : List (List Ce)), q = l.length - i ∧ i ≤ l.length ∧ k = i ∧ Jk 1 junk ∧ (ids.length ≤ i ∧ fireAux (fireOne s[m] ev vals) l 0 [] = fireAux (fireOne s[m] ev vals) (l.drop i) k ids) ∧
    fr = [(0, .c (.fz (s.map encTable))), (1, .c (.fz (l.map encTrigger))), (2, .c (.int .i64 n)), (3, .c (.int .i64 ev)), (4, .c (.fz (old.map encV))), (5, .c (.fz (now.map encV))), (13, .c (vec (σ.next + 0) v (ids.map encI) junk)), (14, .c (.int .i64 k))] ∧ τ = E σ [(v, ids.map encI ++ junk)]) ?_ _ _ _ ⟨0, _, [], 0, [], rfl, Nat.zero_le _, rfl, Jk.nil, ⟨Nat.zero_le _, rfl⟩, rfl, rfl⟩)
  rintro q fr τ ⟨i, k, ids, v, junk, rfl, hi, hk, hj, ⟨hil, hs⟩, rfl, rfl⟩ hrec
  by_cases hlt : i < l.length
  · have hTi := hT _ (List.getElem_mem hlt)
    rw [List.drop_eq_getElem_cons hlt, fireAux] at hs
    have hkk : IntKind.i64.wrap (k + 1) = k + 1 := wrap64 (by omega) (by omega)
    have hbd : ((ids.map encI).length + 1) * 8 ≤ 140737488355328 := by rw [List.length_map]; omega
    have hz1 : ∀ e ∈ ids.map encI, e.length = 1 := fun e he => (flatIs e he).1
    have e1 : ids.map encI ++ [encI k] = (ids ++ [k]).map encI := by simp
    have fin0 : fireOne s[m] ev vals l[i] = false → ∀ fr τ, fr = [(0, AV.c (.fz (s.map encTable))), (1, .c (.fz (l.map encTrigger))), (2, .c (.int .i64 n)), (3, .c (.int .i64 ev)), (4, .c (.fz (old.map encV))), (5, .c (.fz (now.map encV))), (13, .c (vec (σ.next + 0) v (ids.map encI) junk)), (14, .c (.int .i64 (IntKind.i64.wrap (k + 1))))] → τ = E σ [(v, ids.map encI ++ junk)] → _ := fun hf fr τ a b => by
      rw [hf, if_neg Bool.false_ne_true] at hs
      exact hrec (l.length - (i + 1)) fr τ (by omega) ⟨i + 1, _, ids, v, junk, rfl, hlt, wrap_succ hk (by omega), hj, ⟨by omega, by rw [hkk]; exact hs⟩, a, b⟩
    have fin1 : fireOne s[m] ev vals l[i] = true → ∀ (v' : Nat) (junk' : List (List Ce)), Jk 1 junk' → ∀ fr τ, fr = [(0, AV.c (.fz (s.map encTable))), (1, .c (.fz (l.map encTrigger))), (2, .c (.int .i64 n)), (3, .c (.int .i64 ev)), (4, .c (.fz (old.map encV))), (5, .c (.fz (now.map encV))), (13, .c (vec (σ.next + 0) v' ((ids ++ [k]).map encI) junk')), (14, .c (.int .i64 (IntKind.i64.wrap (k + 1))))] → τ = E σ [(v', (ids ++ [k]).map encI ++ junk')] → _ := fun hf v' junk' hj' fr τ a b => by
      rw [hf, if_pos rfl] at hs
      exact hrec (l.length - (i + 1)) fr τ (by omega) ⟨i + 1, _, ids ++ [k], v', junk', rfl, hlt, wrap_succ hk (by omega), hj', ⟨by simp; omega, by rw [hkk]; exact hs⟩, a, b⟩
    clear hrec hs
    by_cases h1 : l[i].table = s[m].name
    · have hb1 : (l[i].table == s[m].name) = true := by rw [h1]; exact beq_self_eq_true _
      by_cases h0 : (l[i].when_.length : Int) = 0
      · repeat' first | (apply Go.adm; exact rfl) | apply Go.qs | apply Qg.nil | ((first | apply Go.v2 | apply Go.v1); (first | exact leAdd | assumption); iterate 6 exact rfl) | ((first | apply Go.op | apply Go.sop | apply Qg.op); exact rfl; (first | exact aop_alloc | exact aop_new rfl rfl | exact aop_mksl rfl | exact aop_lenM rfl | exact rfl | exact aL rfl rfl rfl rfl rfl | exact aS rfl rfl rfl rfl rfl rfl rfl | exact aop_iaddrM (enc := encTrigger) rfl rfl hk hlt rfl | exact aop_iaddrM (enc := encTable) rfl rfl hn hm rfl)) | ((first | apply Go.no | apply Go.sno | apply Qg.no); exact rfl) | (apply Go.app1; exact rfl; exact rfl; exact rfl; exact rfl; exact rfl; exact hz1; exact hj; exact rfl; exact hbd; intro v' junk' hj') | (exfalso; omega) | (((first | apply Go.iQ | apply Go.gQ | apply Go.sQ | apply Qg.gQ); exact rfl; (first | exact .d | exact .e | exact .n | ((fail_if_success exact bqt); (fail_if_success exact bqf); exact .b))) <;> intro _)
        all_goals first
          | (refine Go.keep [0, 1, 2, 3, 4, 5, 13, 14] (fin1 ?_ v' junk' hj' _ _ ?_ ?_) <;> first | (rw [← e1]; rfl) | (simp_all [fireOne]; done))
          | (refine Go.keep [0, 1, 2, 3, 4, 5, 13, 14] (fin0 ?_ _ _ rfl rfl); simp_all [fireOne]; done)
          | (exfalso; simp_all; done)
      · have hex : exprF l[i].when_ vals.length = true := by
          rw [hbl]
          have := whereF_some (hTi h1) (by omega)
          exact this
        have c1 := l2Truth_ok l[i].when_ vals hba hex
        have hTT : truthI l[i].when_ vals = truthR l[i].when_ vals := by rw [truthI, evalOk, hba, hex]; rfl
        repeat' first | (apply Go.adm; exact rfl) | apply Go.qs | apply Qg.nil | ((first | apply Go.v2 | apply Go.v1); (first | exact leAdd | assumption); iterate 6 exact rfl) | ((first | apply Go.op | apply Go.sop | apply Qg.op); exact rfl; (first | exact aop_alloc | exact aop_new rfl rfl | exact aop_mksl rfl | exact aop_lenM rfl | exact rfl | exact aL rfl rfl rfl rfl rfl | exact aS rfl rfl rfl rfl rfl rfl rfl | exact aop_iaddrM (enc := encTrigger) rfl rfl hk hlt rfl | exact aop_iaddrM (enc := encTable) rfl rfl hn hm rfl)) | ((first | apply Go.no | apply Go.sno | apply Qg.no); exact rfl) | (apply Go.app1; exact rfl; exact rfl; exact rfl; exact rfl; exact rfl; exact hz1; exact hj; exact rfl; exact hbd; intro v' junk' hj') | ((first | apply Go.pcall | apply Go.spcall | apply Qg.pcall); (iterate 3 exact rfl); (first | exact cs | exact c1)) | (exfalso; omega) | (((first | apply Go.iQ | apply Go.gQ | apply Go.sQ | apply Qg.gQ); exact rfl; (first | exact .d | exact .e | exact .n | ((fail_if_success exact bqt); (fail_if_success exact bqf); exact .b))) <;> intro _)
        all_goals first
          | (refine Go.keep [0, 1, 2, 3, 4, 5, 13, 14] (fin1 ?_ v' junk' hj' _ _ ?_ ?_) <;> first | (rw [← e1]; rfl) | (simp_all [fireOne]; done))
          | (refine Go.keep [0, 1, 2, 3, 4, 5, 13, 14] (fin0 ?_ _ _ rfl rfl); simp_all [fireOne]; done)
          | (exfalso; simp_all; done)
    · have hb1 : (l[i].table == s[m].name) = false := beq_eq_false_iff_ne.2 h1
      repeat' first | (apply Go.adm; exact rfl) | apply Go.qs | apply Qg.nil | ((first | apply Go.v2 | apply Go.v1); (first | exact leAdd | assumption); iterate 6 exact rfl) | ((first | apply Go.op | apply Go.sop | apply Qg.op); exact rfl; (first | exact aop_alloc | exact aop_new rfl rfl | exact aop_mksl rfl | exact aop_lenM rfl | exact rfl | exact aL rfl rfl rfl rfl rfl | exact aS rfl rfl rfl rfl rfl rfl rfl | exact aop_iaddrM (enc := encTrigger) rfl rfl hk hlt rfl | exact aop_iaddrM (enc := encTable) rfl rfl hn hm rfl)) | ((first | apply Go.no | apply Go.sno | apply Qg.no); exact rfl) | (exfalso; omega) | (((first | apply Go.iQ | apply Go.gQ | apply Go.sQ | apply Qg.gQ); exact rfl; (first | exact .d | exact .e | exact .n | ((fail_if_success exact bqt); (fail_if_success exact bqf); exact .b))) <;> intro _)
      all_goals first
        | (refine Go.keep [0, 1, 2, 3, 4, 5, 13, 14] (fin0 ?_ _ _ rfl rfl); simp_all [fireOne]; done)
        | (exfalso; simp_all; done)
  · repeat' first | (apply Go.adm; exact rfl) | apply Go.qs | apply Qg.nil | ((first | apply Go.v2 | apply Go.v1); (first | exact leAdd | assumption); iterate 6 exact rfl) | ((first | apply Go.op | apply Go.sop | apply Qg.op); exact rfl; (first | exact aop_alloc | exact aop_new rfl rfl | exact aop_mksl rfl | exact aop_lenM rfl | exact rfl | exact aL rfl rfl rfl rfl rfl | exact aS rfl rfl rfl rfl rfl rfl rfl)) | ((first | apply Go.no | apply Go.sno | apply Qg.no); exact rfl) | (exfalso; omega) | (((first | apply Go.iQ | apply Go.gQ | apply Go.sQ | apply Qg.gQ); exact rfl; (first | exact .d | exact .e | exact .n | ((fail_if_success exact bqt); (fail_if_success exact bqf); exact .b))) <;> intro _)
    refine .ret rfl ?_
    rw [List.drop_eq_nil_of_le (by omega), fireAux] at hs
    rw [hs]
    exact newVec flatIs hj
def fitAt (s : List Table) (n : Int) (v : List Val) : Bool := (v.length : Int) == 0 || (match s[n.toNat]? with | some t => fitF t v | none => false)
def firesOk (s : List Table) (l : List Trigger) (n : Int) (old now : List Val) : Bool := triggersF s l && (isIn n 0 (s.length - 1) && (fitAt s n old && fitAt s n now))
def FiresF (s : List Table) (l : List Trigger) (n ev : Int) (old now : List Val) : List Int := if firesOk s l n old now then (match s[n.toNat]? with | some t => firesF t l ev old now | none => []) else []
theorem trig_facts {s : List Table} {l : List Trigger} (h : triggersF s l = true) : schemaF s = true ∧ l.length ≤ 6 ∧ ∀ x ∈ l, trigF s x = true := by
  simp only [triggersF, Bool.and_eq_true, decide_eq_true_eq, Bool.not_eq_true', List.any_eq_false, Bool.not_eq_true, Bool.not_eq_false'] at h
  exact ⟨h.1, by omega, fun x hx => by simpa using h.2.2 x hx⟩
theorem l8Row_ok (t : Table) (vals : List Val) (hx : vals.length ≤ 34359738368) : Pure Tryz.prog 106 [.agg (encTable t), .c (.fz (vals.map encV))] (.c (.bool ((vals.length : Int) == 0 || fitF t vals))) := by
  refine Pure.run mixed c_spec_l8Row_ok (Nat.le_of_ble_eq_true rfl) fun σ hS hA => ?_
  clear hS hA
  have c1 := l4Kinds_ok t vals hx
  by_cases h : (vals.length : Int) = 0
  · repeat' first | (apply Go.adm; exact rfl) | apply Go.qs | apply Qg.nil | ((first | apply Go.v2 | apply Go.v1); (first | exact leAdd | assumption); iterate 6 exact rfl) | ((first | apply Go.op | apply Go.sop | apply Qg.op); exact rfl; (first | exact aop_alloc | exact aop_new rfl rfl | exact aop_mksl rfl | exact aop_lenM rfl | exact rfl | exact aL rfl rfl rfl rfl rfl | exact aS rfl rfl rfl rfl rfl rfl rfl)) | ((first | apply Go.no | apply Go.sno | apply Qg.no); exact rfl) | (exfalso; omega) | (((first | apply Go.iQ | apply Go.gQ | apply Go.sQ | apply Qg.gQ); exact rfl; (first | exact .d | exact .e | exact .n | ((fail_if_success exact bqt); (fail_if_success exact bqf); exact .b))) <;> intro _)
    exact .ret rfl (.bool (by rw [h]; rfl))
  · repeat' first | (apply Go.adm; exact rfl) | apply Go.qs | apply Qg.nil | ((first | apply Go.v2 | apply Go.v1); (first | exact leAdd | assumption); iterate 6 exact rfl) | ((first | apply Go.op | apply Go.sop | apply Qg.op); exact rfl; (first | exact aop_alloc | exact aop_new rfl rfl | exact aop_mksl rfl | exact aop_lenM rfl | exact rfl | exact aL rfl rfl rfl rfl rfl | exact aS rfl rfl rfl rfl rfl rfl rfl)) | ((first | apply Go.no | apply Go.sno | apply Qg.no); exact rfl) | ((first | apply Go.pcall | apply Go.spcall | apply Qg.pcall); (iterate 3 exact rfl); exact c1) | (exfalso; omega) | (((first | apply Go.iQ | apply Go.gQ | apply Go.sQ | apply Qg.gQ); exact rfl; (first | exact .d | exact .e | exact .n | ((fail_if_success exact bqt); (fail_if_success exact bqf); exact .b))) <;> intro _)
    exact .ret rfl (.bool (by rw [beq_eq_false_iff_ne.2 h]; rfl))
theorem fitAt_facts {s : List Table} {n : Int} {m : Nat} {v : List Val} (hn : n = (m : Int)) (hm : m < s.length) (hc : s[m].cols.length ≤ 8) (h : fitAt s n v = true) : v.length ≤ 8 ∧ (v = [] ∨ v.length = s[m].cols.length) ∧ ∀ w ∈ v, okVal w = true := by
  have hmn : n.toNat = m := by omega
  rw [fitAt, hmn, List.getElem?_eq_getElem hm, Bool.or_eq_true, beq_iff_eq] at h
  rcases h with h | h
  · have : v = [] := List.eq_nil_of_length_eq_zero (by omega)
    subst this
    exact ⟨by simp, .inl rfl, fun w hw => by simp at hw⟩
  · obtain ⟨h1, h2⟩ := fitF_vals h
    exact ⟨by omega, .inr h1, h2⟩
end Go.Proofs.YtcfpdongfdhgjaaGreat.Am

/- Triggers that fire: both packages' own. -/
set_option linter.unusedVariables false
set_option linter.unusedSimpArgs false
namespace Go.Proofs.YtcfpdongfdhgjaaGreat.Am

theorem newZero {σ : Store} : NewV σ (.c (.fz [])) (.c (.sl (σ.next + 0) 0 0 0 0)) (E σ [(0, [])]) := newVec (ys := []) (junk := []) (v := 0) (s := 1) (fun e he => by cases he) Jk.nil
theorem fitAt_len {s : List Table} {n : Int} {m : Nat} (hn : n = (m : Int)) (hm : m < s.length) (v : List Val) : fitAt s n v = ((v.length : Int) == 0 || fitF s[m] v) := by
  have hmn : n.toNat = m := by omega
  rw [fitAt, hmn, List.getElem?_eq_getElem hm]
theorem firesF_of {s : List Table} {l : List Trigger} {n ev : Int} {old now : List Val} {m : Nat} (hn : n = (m : Int)) (hm : m < s.length) (h1 : triggersF s l = true) (h2 : isIn n 0 (s.length - 1) = true) : FiresF s l n ev old now = if fitAt s n old && fitAt s n now then firesF s[m] l ev old now else [] := by
  have hmn : n.toNat = m := by omega
  rw [FiresF, firesOk, h1, h2, Bool.true_and, Bool.true_and, hmn, List.getElem?_eq_getElem hm]
theorem Fires_no (s : List Table) (l : List Trigger) (n ev : Int) (old now : List Val) (hx : s.length ≤ 34359738368) (hb : ∀ t ∈ s, bTable 34359738368 t) (hl : l.length ≤ 34359738368) (hq : ∀ x ∈ l, bTrigger 34359738368 x)
    (ho : old.length ≤ 34359738368) (ho2 : ∀ x ∈ old, bV 34359738368 x) (hw : now.length ≤ 34359738368) (hw2 : ∀ x ∈ now, bV 34359738368 x) (σ : Store) (h1 : triggersF s l = true) (h2 : isIn n 0 (s.length - 1) = true) (h5 : (fitAt s n old && fitAt s n now) = false) :
    Ok Tryz.prog 39 [.c (.fz (s.map encTable)), .c (.fz (l.map encTrigger)), .c (.int .i64 n), .c (.int .i64 ev), .c (.fz (old.map encV)), .c (.fz (now.map encV))] σ (NewV σ (.c (.fz ((FiresF s l n ev old now).map encI)))) := by
  refine Ok.run mixed c_impl_Fires_ok (Nat.le_of_ble_eq_true rfl) fun hS hA => ?_
  clear hS hA
  have c1 := TriggersOk_ok s l hx hb hl hq
  have c2 := isTable_ok s n hx
  rw [h1] at c1
  rw [h2] at c2
  obtain ⟨hs, hl6, htr⟩ := trig_facts h1
  obtain ⟨h3, h4⟩ := isIn_at h2
  have hn : n = (n.toNat : Int) := by omega
  have hlt : n.toNat < s.length := by omega
  have hcl := (schemaF_cols hs _ (List.getElem_mem hlt)).2
  have c3 := fit_ok s[n.toNat] old ho
  have c4 := fit_ok s[n.toNat] now hw
  rw [firesF_of hn hlt h1 h2]
  have e3 := fitAt_len hn hlt old
  have e4 := fitAt_len hn hlt now
  rw [h5]
  generalize fitF s[n.toNat] old = F3 at c3 e3
  generalize fitF s[n.toNat] now = F4 at c4 e4
  rw [e3, e4] at h5
  by_cases h0 : (old.length : Int) = 0
  · rw [beq_iff_eq.2 h0, Bool.true_or, Bool.true_and, Bool.or_eq_false_iff, beq_eq_false_iff_ne] at h5
    obtain ⟨h00, rfl⟩ := h5
    repeat' first | (apply Go.adm; exact rfl) | apply Go.qs | apply Qg.nil | ((first | apply Go.v2 | apply Go.v1); (first | exact leAdd | assumption); iterate 6 exact rfl) | ((first | apply Go.op | apply Go.sop | apply Qg.op); exact rfl; (first | exact aop_alloc | exact aop_new rfl rfl | exact aop_mksl rfl | exact aop_lenM rfl | exact rfl | exact aL rfl rfl rfl rfl rfl | exact aS rfl rfl rfl rfl rfl rfl rfl | exact aop_iaddrM (enc := encTable) rfl rfl hn hlt rfl)) | ((first | apply Go.no | apply Go.sno | apply Qg.no); exact rfl) | ((first | apply Go.pcall | apply Go.spcall | apply Qg.pcall); (iterate 3 exact rfl); (first | exact c1 | exact c2 | exact c3 | exact c4)) | (exfalso; omega) | (((first | apply Go.iQ | apply Go.gQ | apply Go.sQ | apply Qg.gQ); exact rfl; (first | exact .d | exact .e | exact .n | ((fail_if_success exact bqt); (fail_if_success exact bqf); exact .b))) <;> intro _)
    exact .ret rfl (newNil (Gr.start σ))
  rw [beq_eq_false_iff_ne.2 h0, Bool.false_or] at h5
  cases F3
  · repeat' first | (apply Go.adm; exact rfl) | apply Go.qs | apply Qg.nil | ((first | apply Go.v2 | apply Go.v1); (first | exact leAdd | assumption); iterate 6 exact rfl) | ((first | apply Go.op | apply Go.sop | apply Qg.op); exact rfl; (first | exact aop_alloc | exact aop_new rfl rfl | exact aop_mksl rfl | exact aop_lenM rfl | exact rfl | exact aL rfl rfl rfl rfl rfl | exact aS rfl rfl rfl rfl rfl rfl rfl | exact aop_iaddrM (enc := encTable) rfl rfl hn hlt rfl)) | ((first | apply Go.no | apply Go.sno | apply Qg.no); exact rfl) | ((first | apply Go.pcall | apply Go.spcall | apply Qg.pcall); (iterate 3 exact rfl); (first | exact c1 | exact c2 | exact c3 | exact c4)) | (exfalso; omega) | (((first | apply Go.iQ | apply Go.gQ | apply Go.sQ | apply Qg.gQ); exact rfl; (first | exact .d | exact .e | exact .n | ((fail_if_success exact bqt); (fail_if_success exact bqf); exact .b))) <;> intro _)
    exact .ret rfl (newNil (Gr.start σ))
  · rw [Bool.true_and, Bool.or_eq_false_iff, beq_eq_false_iff_ne] at h5
    obtain ⟨h00, rfl⟩ := h5
    repeat' first | (apply Go.adm; exact rfl) | apply Go.qs | apply Qg.nil | ((first | apply Go.v2 | apply Go.v1); (first | exact leAdd | assumption); iterate 6 exact rfl) | ((first | apply Go.op | apply Go.sop | apply Qg.op); exact rfl; (first | exact aop_alloc | exact aop_new rfl rfl | exact aop_mksl rfl | exact aop_lenM rfl | exact rfl | exact aL rfl rfl rfl rfl rfl | exact aS rfl rfl rfl rfl rfl rfl rfl | exact aop_iaddrM (enc := encTable) rfl rfl hn hlt rfl)) | ((first | apply Go.no | apply Go.sno | apply Qg.no); exact rfl) | ((first | apply Go.pcall | apply Go.spcall | apply Qg.pcall); (iterate 3 exact rfl); (first | exact c1 | exact c2 | exact c3 | exact c4)) | (exfalso; omega) | (((first | apply Go.iQ | apply Go.gQ | apply Go.sQ | apply Qg.gQ); exact rfl; (first | exact .d | exact .e | exact .n | ((fail_if_success exact bqt); (fail_if_success exact bqf); exact .b))) <;> intro _)
    exact .ret rfl (newNil (Gr.start σ))
theorem Fires_yes (s : List Table) (l : List Trigger) (n ev : Int) (old now : List Val) (hx : s.length ≤ 34359738368) (hb : ∀ t ∈ s, bTable 34359738368 t) (hl : l.length ≤ 34359738368) (hq : ∀ x ∈ l, bTrigger 34359738368 x)
    (ho : old.length ≤ 34359738368) (ho2 : ∀ x ∈ old, bV 34359738368 x) (hw : now.length ≤ 34359738368) (hw2 : ∀ x ∈ now, bV 34359738368 x) (σ : Store) (h1 : triggersF s l = true) (h2 : isIn n 0 (s.length - 1) = true) (h5 : (fitAt s n old && fitAt s n now) = true) :
    Ok Tryz.prog 39 [.c (.fz (s.map encTable)), .c (.fz (l.map encTrigger)), .c (.int .i64 n), .c (.int .i64 ev), .c (.fz (old.map encV)), .c (.fz (now.map encV))] σ (NewV σ (.c (.fz ((FiresF s l n ev old now).map encI)))) := by
  refine Ok.run mixed c_impl_Fires_ok (Nat.le_of_ble_eq_true rfl) fun hS hA => ?_
  clear hS hA
  have c1 := TriggersOk_ok s l hx hb hl hq
  have c2 := isTable_ok s n hx
  rw [h1] at c1
  rw [h2] at c2
  obtain ⟨hs, hl6, htr⟩ := trig_facts h1
  obtain ⟨h3, h4⟩ := isIn_at h2
  have hn : n = (n.toNat : Int) := by omega
  have hlt : n.toNat < s.length := by omega
  have hcl := (schemaF_cols hs _ (List.getElem_mem hlt)).2
  have c3 := fit_ok s[n.toNat] old ho
  have c4 := fit_ok s[n.toNat] now hw
  rw [firesF_of hn hlt h1 h2]
  have e3 := fitAt_len hn hlt old
  have e4 := fitAt_len hn hlt now
  have fin : ∀ τ : Store, Ok Tryz.prog 112 [.c (.fz (s.map encTable)), .c (.fz (l.map encTrigger)), .c (.int .i64 n), .c (.int .i64 ev), .c (.fz (old.map encV)), .c (.fz (now.map encV))] τ (NewV τ (.c (.fz ((firesF s[n.toNat] l ev old now).map encI)))) := fun τ => by
    rw [Bool.and_eq_true] at h5
    obtain ⟨a1, a2, a3⟩ := fitAt_facts hn hlt hcl h5.1
    obtain ⟨b1, b2, b3⟩ := fitAt_facts hn hlt hcl h5.2
    exact fires_ok s l n n.toNat ev old now hn hlt hcl (by omega) (fun x hx => (hq x hx).2.1.1) a1 b1 τ
  rw [h5]
  generalize fitF s[n.toNat] old = F3 at c3 e3
  generalize fitF s[n.toNat] now = F4 at c4 e4
  rw [e3, e4] at h5
  by_cases h0 : (old.length : Int) = 0
  · by_cases h00 : (now.length : Int) = 0
    · repeat' first | (apply Go.adm; exact rfl) | apply Go.qs | apply Qg.nil | ((first | apply Go.v2 | apply Go.v1); (first | exact leAdd | assumption); iterate 6 exact rfl) | ((first | apply Go.op | apply Go.sop | apply Qg.op); exact rfl; (first | exact aop_alloc | exact aop_new rfl rfl | exact aop_mksl rfl | exact aop_lenM rfl | exact rfl | exact aL rfl rfl rfl rfl rfl | exact aS rfl rfl rfl rfl rfl rfl rfl | exact aop_iaddrM (enc := encTable) rfl rfl hn hlt rfl)) | ((first | apply Go.no | apply Go.sno | apply Qg.no); exact rfl) | ((first | apply Go.pcall | apply Go.spcall | apply Qg.pcall); (iterate 3 exact rfl); (first | exact c1 | exact c2 | exact c3 | exact c4)) | (exfalso; omega) | (((first | apply Go.iQ | apply Go.gQ | apply Go.sQ | apply Qg.gQ); exact rfl; (first | exact .d | exact .e | exact .n | ((fail_if_success exact bqt); (fail_if_success exact bqf); exact .b))) <;> intro _)
      refine Go.call _ rfl rfl rfl (fin _) ?_
      intro r τ hq
      obtain ⟨x, rfl, g, hh⟩ := new1_open hq
      repeat' first | (apply Go.adm; exact rfl) | apply Go.qs | apply Qg.nil | ((first | apply Go.v2 | apply Go.v1); (first | exact leAdd | assumption); iterate 6 exact rfl) | ((first | apply Go.op | apply Go.sop | apply Qg.op); exact rfl; (first | exact aop_alloc | exact aop_new rfl rfl | exact aop_mksl rfl | exact aop_lenM rfl | exact rfl | exact aL rfl rfl rfl rfl rfl | exact aS rfl rfl rfl rfl rfl rfl rfl)) | ((first | apply Go.no | apply Go.sno | apply Qg.no); exact rfl) | (exfalso; omega) | (((first | apply Go.iQ | apply Go.gQ | apply Go.sQ | apply Qg.gQ); exact rfl; (first | exact .d | exact .e | exact .n | ((fail_if_success exact bqt); (fail_if_success exact bqf); exact .b))) <;> intro _)
      exact .ret rfl ⟨(Gr.start σ).trans g, .c hh⟩
    · rw [beq_eq_false_iff_ne.2 h00, Bool.false_or, Bool.and_eq_true] at h5
      obtain ⟨_, rfl⟩ := h5
      repeat' first | (apply Go.adm; exact rfl) | apply Go.qs | apply Qg.nil | ((first | apply Go.v2 | apply Go.v1); (first | exact leAdd | assumption); iterate 6 exact rfl) | ((first | apply Go.op | apply Go.sop | apply Qg.op); exact rfl; (first | exact aop_alloc | exact aop_new rfl rfl | exact aop_mksl rfl | exact aop_lenM rfl | exact rfl | exact aL rfl rfl rfl rfl rfl | exact aS rfl rfl rfl rfl rfl rfl rfl | exact aop_iaddrM (enc := encTable) rfl rfl hn hlt rfl)) | ((first | apply Go.no | apply Go.sno | apply Qg.no); exact rfl) | ((first | apply Go.pcall | apply Go.spcall | apply Qg.pcall); (iterate 3 exact rfl); (first | exact c1 | exact c2 | exact c3 | exact c4)) | (exfalso; omega) | (((first | apply Go.iQ | apply Go.gQ | apply Go.sQ | apply Qg.gQ); exact rfl; (first | exact .d | exact .e | exact .n | ((fail_if_success exact bqt); (fail_if_success exact bqf); exact .b))) <;> intro _)
      refine Go.call _ rfl rfl rfl (fin _) ?_
      intro r τ hq
      obtain ⟨x, rfl, g, hh⟩ := new1_open hq
      repeat' first | (apply Go.adm; exact rfl) | apply Go.qs | apply Qg.nil | ((first | apply Go.v2 | apply Go.v1); (first | exact leAdd | assumption); iterate 6 exact rfl) | ((first | apply Go.op | apply Go.sop | apply Qg.op); exact rfl; (first | exact aop_alloc | exact aop_new rfl rfl | exact aop_mksl rfl | exact aop_lenM rfl | exact rfl | exact aL rfl rfl rfl rfl rfl | exact aS rfl rfl rfl rfl rfl rfl rfl)) | ((first | apply Go.no | apply Go.sno | apply Qg.no); exact rfl) | (exfalso; omega) | (((first | apply Go.iQ | apply Go.gQ | apply Go.sQ | apply Qg.gQ); exact rfl; (first | exact .d | exact .e | exact .n | ((fail_if_success exact bqt); (fail_if_success exact bqf); exact .b))) <;> intro _)
      exact .ret rfl ⟨(Gr.start σ).trans g, .c hh⟩
  · rw [beq_eq_false_iff_ne.2 h0, Bool.false_or, Bool.and_eq_true] at h5
    obtain ⟨rfl, h5⟩ := h5
    by_cases h00 : (now.length : Int) = 0
    · repeat' first | (apply Go.adm; exact rfl) | apply Go.qs | apply Qg.nil | ((first | apply Go.v2 | apply Go.v1); (first | exact leAdd | assumption); iterate 6 exact rfl) | ((first | apply Go.op | apply Go.sop | apply Qg.op); exact rfl; (first | exact aop_alloc | exact aop_new rfl rfl | exact aop_mksl rfl | exact aop_lenM rfl | exact rfl | exact aL rfl rfl rfl rfl rfl | exact aS rfl rfl rfl rfl rfl rfl rfl | exact aop_iaddrM (enc := encTable) rfl rfl hn hlt rfl)) | ((first | apply Go.no | apply Go.sno | apply Qg.no); exact rfl) | ((first | apply Go.pcall | apply Go.spcall | apply Qg.pcall); (iterate 3 exact rfl); (first | exact c1 | exact c2 | exact c3 | exact c4)) | (exfalso; omega) | (((first | apply Go.iQ | apply Go.gQ | apply Go.sQ | apply Qg.gQ); exact rfl; (first | exact .d | exact .e | exact .n | ((fail_if_success exact bqt); (fail_if_success exact bqf); exact .b))) <;> intro _)
      refine Go.call _ rfl rfl rfl (fin _) ?_
      intro r τ hq
      obtain ⟨x, rfl, g, hh⟩ := new1_open hq
      repeat' first | (apply Go.adm; exact rfl) | apply Go.qs | apply Qg.nil | ((first | apply Go.v2 | apply Go.v1); (first | exact leAdd | assumption); iterate 6 exact rfl) | ((first | apply Go.op | apply Go.sop | apply Qg.op); exact rfl; (first | exact aop_alloc | exact aop_new rfl rfl | exact aop_mksl rfl | exact aop_lenM rfl | exact rfl | exact aL rfl rfl rfl rfl rfl | exact aS rfl rfl rfl rfl rfl rfl rfl)) | ((first | apply Go.no | apply Go.sno | apply Qg.no); exact rfl) | (exfalso; omega) | (((first | apply Go.iQ | apply Go.gQ | apply Go.sQ | apply Qg.gQ); exact rfl; (first | exact .d | exact .e | exact .n | ((fail_if_success exact bqt); (fail_if_success exact bqf); exact .b))) <;> intro _)
      exact .ret rfl ⟨(Gr.start σ).trans g, .c hh⟩
    · rw [beq_eq_false_iff_ne.2 h00, Bool.false_or] at h5
      subst h5
      repeat' first | (apply Go.adm; exact rfl) | apply Go.qs | apply Qg.nil | ((first | apply Go.v2 | apply Go.v1); (first | exact leAdd | assumption); iterate 6 exact rfl) | ((first | apply Go.op | apply Go.sop | apply Qg.op); exact rfl; (first | exact aop_alloc | exact aop_new rfl rfl | exact aop_mksl rfl | exact aop_lenM rfl | exact rfl | exact aL rfl rfl rfl rfl rfl | exact aS rfl rfl rfl rfl rfl rfl rfl | exact aop_iaddrM (enc := encTable) rfl rfl hn hlt rfl)) | ((first | apply Go.no | apply Go.sno | apply Qg.no); exact rfl) | ((first | apply Go.pcall | apply Go.spcall | apply Qg.pcall); (iterate 3 exact rfl); (first | exact c1 | exact c2 | exact c3 | exact c4)) | (exfalso; omega) | (((first | apply Go.iQ | apply Go.gQ | apply Go.sQ | apply Qg.gQ); exact rfl; (first | exact .d | exact .e | exact .n | ((fail_if_success exact bqt); (fail_if_success exact bqf); exact .b))) <;> intro _)
      refine Go.call _ rfl rfl rfl (fin _) ?_
      intro r τ hq
      obtain ⟨x, rfl, g, hh⟩ := new1_open hq
      repeat' first | (apply Go.adm; exact rfl) | apply Go.qs | apply Qg.nil | ((first | apply Go.v2 | apply Go.v1); (first | exact leAdd | assumption); iterate 6 exact rfl) | ((first | apply Go.op | apply Go.sop | apply Qg.op); exact rfl; (first | exact aop_alloc | exact aop_new rfl rfl | exact aop_mksl rfl | exact aop_lenM rfl | exact rfl | exact aL rfl rfl rfl rfl rfl | exact aS rfl rfl rfl rfl rfl rfl rfl)) | ((first | apply Go.no | apply Go.sno | apply Qg.no); exact rfl) | (exfalso; omega) | (((first | apply Go.iQ | apply Go.gQ | apply Go.sQ | apply Qg.gQ); exact rfl; (first | exact .d | exact .e | exact .n | ((fail_if_success exact bqt); (fail_if_success exact bqf); exact .b))) <;> intro _)
      exact .ret rfl ⟨(Gr.start σ).trans g, .c hh⟩
theorem Fires_ok (s : List Table) (l : List Trigger) (n ev : Int) (old now : List Val) (hx : s.length ≤ 34359738368) (hb : ∀ t ∈ s, bTable 34359738368 t) (hl : l.length ≤ 34359738368) (hq : ∀ x ∈ l, bTrigger 34359738368 x)
    (ho : old.length ≤ 34359738368) (ho2 : ∀ x ∈ old, bV 34359738368 x) (hw : now.length ≤ 34359738368) (hw2 : ∀ x ∈ now, bV 34359738368 x) (σ : Store) :
    Ok Tryz.prog 39 [.c (.fz (s.map encTable)), .c (.fz (l.map encTrigger)), .c (.int .i64 n), .c (.int .i64 ev), .c (.fz (old.map encV)), .c (.fz (now.map encV))] σ (NewV σ (.c (.fz ((FiresF s l n ev old now).map encI)))) := by
  cases h1 : triggersF s l
  · refine Ok.run mixed c_impl_Fires_ok (Nat.le_of_ble_eq_true rfl) fun hS hA => ?_
    clear hS hA
    have c1 := TriggersOk_ok s l hx hb hl hq
    rw [h1] at c1
    rw [FiresF, firesOk, h1, Bool.false_and]
    repeat' first | (apply Go.adm; exact rfl) | apply Go.qs | apply Qg.nil | ((first | apply Go.v2 | apply Go.v1); (first | exact leAdd | assumption); iterate 6 exact rfl) | ((first | apply Go.op | apply Go.sop | apply Qg.op); exact rfl; (first | exact aop_alloc | exact aop_new rfl rfl | exact aop_mksl rfl | exact aop_lenM rfl | exact rfl | exact aL rfl rfl rfl rfl rfl | exact aS rfl rfl rfl rfl rfl rfl rfl)) | ((first | apply Go.no | apply Go.sno | apply Qg.no); exact rfl) | ((first | apply Go.pcall | apply Go.spcall | apply Qg.pcall); (iterate 3 exact rfl); exact c1) | (exfalso; omega) | (((first | apply Go.iQ | apply Go.gQ | apply Go.sQ | apply Qg.gQ); exact rfl; (first | exact .d | exact .e | exact .n | ((fail_if_success exact bqt); (fail_if_success exact bqf); exact .b))) <;> intro _)
    exact .ret rfl (newNil (Gr.start σ))
  cases h2 : isIn n 0 (s.length - 1)
  · refine Ok.run mixed c_impl_Fires_ok (Nat.le_of_ble_eq_true rfl) fun hS hA => ?_
    clear hS hA
    have c1 := TriggersOk_ok s l hx hb hl hq
    have c2 := isTable_ok s n hx
    rw [h1] at c1
    rw [h2] at c2
    rw [FiresF, firesOk, h1, h2, Bool.true_and, Bool.false_and]
    repeat' first | (apply Go.adm; exact rfl) | apply Go.qs | apply Qg.nil | ((first | apply Go.v2 | apply Go.v1); (first | exact leAdd | assumption); iterate 6 exact rfl) | ((first | apply Go.op | apply Go.sop | apply Qg.op); exact rfl; (first | exact aop_alloc | exact aop_new rfl rfl | exact aop_mksl rfl | exact aop_lenM rfl | exact rfl | exact aL rfl rfl rfl rfl rfl | exact aS rfl rfl rfl rfl rfl rfl rfl)) | ((first | apply Go.no | apply Go.sno | apply Qg.no); exact rfl) | ((first | apply Go.pcall | apply Go.spcall | apply Qg.pcall); (iterate 3 exact rfl); (first | exact c1 | exact c2)) | (exfalso; omega) | (((first | apply Go.iQ | apply Go.gQ | apply Go.sQ | apply Qg.gQ); exact rfl; (first | exact .d | exact .e | exact .n | ((fail_if_success exact bqt); (fail_if_success exact bqf); exact .b))) <;> intro _)
    exact .ret rfl (newNil (Gr.start σ))
  cases h5 : (fitAt s n old && fitAt s n now)
  · exact Fires_no s l n ev old now hx hb hl hq ho ho2 hw hw2 σ h1 h2 h5
  · exact Fires_yes s l n ev old now hx hb hl hq ho ho2 hw hw2 σ h1 h2 h5
theorem sFires_ok (s : List Table) (l : List Trigger) (n ev : Int) (old now : List Val) (hx : s.length ≤ 34359738368) (hb : ∀ t ∈ s, bTable 34359738368 t) (hl : l.length ≤ 34359738368) (hq : ∀ x ∈ l, bTrigger 34359738368 x)
    (ho : old.length ≤ 34359738368) (ho2 : ∀ x ∈ old, bV 34359738368 x) (hw : now.length ≤ 34359738368) (hw2 : ∀ x ∈ now, bV 34359738368 x) (σ : Store) :
    Ok Tryz.prog 36 [.c (.fz (s.map encTable)), .c (.fz (l.map encTrigger)), .c (.int .i64 n), .c (.int .i64 ev), .c (.fz (old.map encV)), .c (.fz (now.map encV))] σ (NewV σ (.c (.fz ((FiresF s l n ev old now).map encI)))) := by
  refine Ok.run mixed c_spec_Fires_ok (Nat.le_of_ble_eq_true rfl) fun hS hA => ?_
  clear hS hA
  have c1 := sTriggersOk_ok s l hx hb hl hq
  have c2 := l1In_ok n 0 (IntKind.i64.wrap ((s.length : Int) - 1))
  have hwr : IntKind.i64.wrap ((s.length : Int) - 1) = s.length - 1 := wrap64 (by omega) (by omega)
  cases h1 : triggersF s l
  · rw [h1] at c1
    rw [FiresF, firesOk, h1, Bool.false_and]
    repeat' first | (apply Go.adm; exact rfl) | apply Go.qs | apply Qg.nil | ((first | apply Go.v2 | apply Go.v1); (first | exact leAdd | assumption); iterate 6 exact rfl) | ((first | apply Go.op | apply Go.sop | apply Qg.op); exact rfl; (first | exact aop_alloc | exact aop_new rfl rfl | exact aop_mksl rfl | exact aop_lenM rfl | exact rfl | exact aL rfl rfl rfl rfl rfl | exact aS rfl rfl rfl rfl rfl rfl rfl)) | ((first | apply Go.no | apply Go.sno | apply Qg.no); exact rfl) | ((first | apply Go.pcall | apply Go.spcall | apply Qg.pcall); (iterate 3 exact rfl); exact c1) | (exfalso; omega) | (((first | apply Go.iQ | apply Go.gQ | apply Go.sQ | apply Qg.gQ); exact rfl; (first | exact .d | exact .e | exact .n | ((fail_if_success exact bqt); (fail_if_success exact bqf); exact .b))) <;> intro _)
    exact .ret rfl newZero
  cases h2 : isIn n 0 (s.length - 1)
  · rw [h1] at c1
    rw [hwr, h2] at c2
    rw [FiresF, firesOk, h1, h2, Bool.true_and, Bool.false_and]
    rw [← hwr] at c2
    repeat' first | (apply Go.adm; exact rfl) | apply Go.qs | apply Qg.nil | ((first | apply Go.v2 | apply Go.v1); (first | exact leAdd | assumption); iterate 6 exact rfl) | ((first | apply Go.op | apply Go.sop | apply Qg.op); exact rfl; (first | exact aop_alloc | exact aop_new rfl rfl | exact aop_mksl rfl | exact aop_lenM rfl | exact rfl | exact aL rfl rfl rfl rfl rfl | exact aS rfl rfl rfl rfl rfl rfl rfl)) | ((first | apply Go.no | apply Go.sno | apply Qg.no); exact rfl) | ((first | apply Go.pcall | apply Go.spcall | apply Qg.pcall); (iterate 3 exact rfl); (first | exact c1 | exact c2)) | (exfalso; omega) | (((first | apply Go.iQ | apply Go.gQ | apply Go.sQ | apply Qg.gQ); exact rfl; (first | exact .d | exact .e | exact .n | ((fail_if_success exact bqt); (fail_if_success exact bqf); exact .b))) <;> intro _)
    exact .ret rfl newZero
  rw [h1] at c1
  rw [hwr, h2, ← hwr] at c2
  obtain ⟨hs, hl6, htr⟩ := trig_facts h1
  obtain ⟨h3, h4⟩ := isIn_at h2
  have hn : n = (n.toNat : Int) := by omega
  have hlt : n.toNat < s.length := by omega
  have hcl := (schemaF_cols hs _ (List.getElem_mem hlt)).2
  have c3 := l8Row_ok s[n.toNat] old ho
  have c4 := l8Row_ok s[n.toNat] now hw
  rw [firesF_of hn hlt h1 h2]
  rw [← fitAt_len hn hlt] at c3 c4
  have fin : fitAt s n old = true → fitAt s n now = true → ∀ τ : Store, Ok Tryz.prog 107 [.c (.fz (s.map encTable)), .c (.fz (l.map encTrigger)), .c (.int .i64 n), .c (.int .i64 ev), .c (.fz (old.map encV)), .c (.fz (now.map encV))] τ (NewV τ (.c (.fz ((firesF s[n.toNat] l ev old now).map encI)))) := fun a b τ => by
    obtain ⟨a1, a2, a3⟩ := fitAt_facts hn hlt hcl a
    obtain ⟨b1, b2, b3⟩ := fitAt_facts hn hlt hcl b
    exact l8Fires_ok s l n n.toNat ev old now hn hlt hcl (by omega) a2 b2 a3 b3 (fun x hx e => by
      have := htr x hx
      rw [trigF, tabAt_eq hs hlt e] at this
      revert this
      cases tabAt s x.into with
      | none => intro h; cases h
      | some v => intro h; simp only [Bool.and_eq_true] at h; rw [trigAt, Bool.and_eq_true] at h; exact h.2.1) τ
  generalize fitAt s n old = F3 at c3 fin ⊢
  generalize fitAt s n now = F4 at c4 fin ⊢
  cases F3 <;> cases F4
  all_goals
    repeat' first | (apply Go.adm; exact rfl) | apply Go.qs | apply Qg.nil | ((first | apply Go.v2 | apply Go.v1); (first | exact leAdd | assumption); iterate 6 exact rfl) | ((first | apply Go.op | apply Go.sop | apply Qg.op); exact rfl; (first | exact aop_alloc | exact aop_new rfl rfl | exact aop_mksl rfl | exact aop_lenM rfl | exact rfl | exact aL rfl rfl rfl rfl rfl | exact aS rfl rfl rfl rfl rfl rfl rfl | exact aop_iaddrM (enc := encTable) rfl rfl hn hlt rfl)) | ((first | apply Go.no | apply Go.sno | apply Qg.no); exact rfl) | ((first | apply Go.pcall | apply Go.spcall | apply Qg.pcall); (iterate 3 exact rfl); (first | exact c1 | exact c2 | exact c3 | exact c4)) | (exfalso; omega) | (((first | apply Go.iQ | apply Go.gQ | apply Go.sQ | apply Qg.gQ); exact rfl; (first | exact .d | exact .e | exact .n | ((fail_if_success exact bqt); (fail_if_success exact bqf); exact .b))) <;> intro _)
    first
      | exact .ret rfl newZero
      | refine Go.call _ rfl rfl rfl (fin rfl rfl _) ?_
        intro r τ hq
        obtain ⟨x, rfl, g, hh⟩ := new1_open hq
        repeat' first | (apply Go.adm; exact rfl) | apply Go.qs | apply Qg.nil | ((first | apply Go.v2 | apply Go.v1); (first | exact leAdd | assumption); iterate 6 exact rfl) | ((first | apply Go.op | apply Go.sop | apply Qg.op); exact rfl; (first | exact aop_alloc | exact aop_new rfl rfl | exact aop_mksl rfl | exact aop_lenM rfl | exact rfl | exact aL rfl rfl rfl rfl rfl | exact aS rfl rfl rfl rfl rfl rfl rfl)) | ((first | apply Go.no | apply Go.sno | apply Qg.no); exact rfl) | (exfalso; omega) | (((first | apply Go.iQ | apply Go.gQ | apply Go.sQ | apply Qg.gQ); exact rfl; (first | exact .d | exact .e | exact .n | ((fail_if_success exact bqt); (fail_if_success exact bqf); exact .b))) <;> intro _)
        exact .ret rfl ⟨(Gr.start σ).trans g, .c hh⟩
theorem fireAux_len {p : Trigger → Bool} : ∀ {l : List Trigger} {i : Int} {acc : List Int}, (fireAux p l i acc).length ≤ acc.length + l.length
  | [], i, acc => by simp [fireAux]
  | x :: l, i, acc => by
    rw [fireAux]
    have := @fireAux_len p l (i + 1) (if p x then acc ++ [i] else acc)
    simp only [List.length_cons]
    split at this
    · rw [List.length_append, List.length_singleton] at this
      rw [if_pos ‹_›]
      omega
    · rw [if_neg ‹_›]
      omega
theorem Fires_fact (s : List Table) (l : List Trigger) (n ev : Int) (old now : List Val) (hx : s.length ≤ 34359738368) (hb : ∀ t ∈ s, bTable 34359738368 t) (hl : l.length ≤ 34359738368) (hq : ∀ x ∈ l, bTrigger 34359738368 x)
    (ho : old.length ≤ 34359738368) (ho2 : ∀ x ∈ old, bV 34359738368 x) (hw : now.length ≤ 34359738368) (hw2 : ∀ x ∈ now, bV 34359738368 x) :
    (FiresF s l n ev old now).length ≤ 34359738368 ∧ 1 + cntL (fun _ => 1) (FiresF s l n ev old now) ≤ 34359738368 := by
  have h : (FiresF s l n ev old now).length ≤ 6 := by
    rw [FiresF]
    split
    · rename_i h
      simp only [firesOk, Bool.and_eq_true] at h
      have h6 := (trig_facts h.1).2.1
      split
      · rename_i t _
        have := fireAux_len (p := fireOne t ev (bothF t.cols.length old now)) (l := l) (i := 0) (acc := [])
        simp only [List.length_nil] at this
        rw [firesF]
        omega
      · simp
    · simp
  rw [cnt1]
  omega
end Go.Proofs.YtcfpdongfdhgjaaGreat.Am

/- The law FnExactFires: its function returns true (the walk). Printed by a program. -/
set_option linter.unusedVariables false
set_option linter.unusedSimpArgs false
namespace Go.Proofs.YtcfpdongfdhgjaaGreat.Am

theorem Fires_sound (s : List Table) (l : List Trigger) (n : Int) (ev : Int) (old : List Val) (now : List Val) (b0_1 : s.length ≤ 1125899906842624) (b0_2 : ∀ x ∈ s, bTable 1125899906842624 x) (b1_1 : l.length ≤ 1125899906842624) (b1_2 : ∀ x ∈ l, bTrigger 1125899906842624 x) (b4_1 : old.length ≤ 1125899906842624) (b4_2 : ∀ x ∈ old, LenV x) (b5_1 : now.length ≤ 1125899906842624) (b5_2 : ∀ x ∈ now, LenV x) : Pure Tryz.prog 5 [.c (.fz (s.map encTable)), .c (.fz (l.map encTrigger)), .c (.int .i64 n), .c (.int .i64 ev), .c (.fz (old.map encV)), .c (.fz (now.map encV))] (.c (.bool true)) := by
  refine Pure.run2 mixed c_laws_FnExactFires_ok (Nat.le_of_ble_eq_true rfl) fun σ hS => ?_
  clear hS
  have hend : ∀ τ : Store, (∀ id, id < σ.next → τ.get id = σ.get id) → Ends σ (.c (.bool true)) (.c (.bool true)) τ := fun τ h => ⟨h, solid_end⟩
  have hold : ∀ id, id < σ.next → (E σ []).get id = σ.get id := fun id h => E_lt h
  have hm0 : σ.next ≤ (E σ []).next := by rw [E_next]; omega
  generalize E σ [] = τ0 at hold hm0 ⊢
  repeat' first | (apply Go.adm; exact rfl) | apply Go.qs | apply Qg.nil | ((first | apply Go.v2 | apply Go.v1); (first | exact leAdd | assumption); iterate 6 exact rfl) | ((first | apply Go.op | apply Go.sop | apply Qg.op); exact rfl; (first | exact aop_alloc | exact aop_new rfl rfl | exact aop_mksl rfl | exact aop_lenM rfl | exact rfl | exact aL rfl rfl rfl rfl rfl | exact aS rfl rfl rfl rfl rfl rfl rfl)) | ((first | apply Go.no | apply Go.sno | apply Qg.no); exact rfl) | (exfalso; omega) | (((first | apply Go.iQ | apply Go.gQ | apply Go.sQ | apply Qg.gQ); exact rfl; (first | exact .d | exact .e | exact .n | ((fail_if_success exact bqt); (fail_if_success exact bqf); exact .b))) <;> intro _)
  have z0 := szL_le zTable_le s 1048576 (by omega)
  have f0 := fun (h : 0 ≤ szL zTable s 1048576) => list_of (N := 34359738368) zTable_le (fun a l N h0 h hl => bTable_of a l N h0 h hl) (xs := s) (l := 1048576) (by omega) h (by omega)
  have c0 := fun (h : 0 ≤ szL zTable s 1048576) => szL_cnt8 zTable_le cntTable_sz s 1048576 (by omega) h
  refine .pcall rfl rfl rfl (szTableS_ok s 1048576 b0_1 b0_2 (by omega) (by omega)) ?_
  generalize szL zTable s 1048576 = l0 at z0 f0 c0 ⊢
  repeat' first | (apply Go.adm; exact rfl) | apply Go.qs | apply Qg.nil | ((first | apply Go.v2 | apply Go.v1); (first | exact leAdd | assumption); iterate 6 exact rfl) | ((first | apply Go.op | apply Go.sop | apply Qg.op); exact rfl; (first | exact aop_alloc | exact aop_new rfl rfl | exact aop_mksl rfl | exact aop_lenM rfl | exact rfl | exact aL rfl rfl rfl rfl rfl | exact aS rfl rfl rfl rfl rfl rfl rfl)) | ((first | apply Go.no | apply Go.sno | apply Qg.no); exact rfl) | (exfalso; omega) | (((first | apply Go.iQ | apply Go.gQ | apply Go.sQ | apply Qg.gQ); exact rfl; (first | exact .d | exact .e | exact .n | ((fail_if_success exact bqt); (fail_if_success exact bqf); exact .b))) <;> intro _)
  · exact .ret rfl (hend _ hold)
  rename_i g0
  obtain ⟨h0_1, h0_2⟩ := f0 (by omega)
  have c0 := c0 (by omega)
  clear f0 b0_1 b0_2
  repeat' first | (apply Go.adm; exact rfl) | apply Go.qs | apply Qg.nil | ((first | apply Go.v2 | apply Go.v1); (first | exact leAdd | assumption); iterate 6 exact rfl) | ((first | apply Go.op | apply Go.sop | apply Qg.op); exact rfl; (first | exact aop_alloc | exact aop_new rfl rfl | exact aop_mksl rfl | exact aop_lenM rfl | exact rfl | exact aL rfl rfl rfl rfl rfl | exact aS rfl rfl rfl rfl rfl rfl rfl)) | ((first | apply Go.no | apply Go.sno | apply Qg.no); exact rfl) | (exfalso; omega) | (((first | apply Go.iQ | apply Go.gQ | apply Go.sQ | apply Qg.gQ); exact rfl; (first | exact .d | exact .e | exact .n | ((fail_if_success exact bqt); (fail_if_success exact bqf); exact .b))) <;> intro _)
  have z1 := szL_le zTrigger_le l l0 (by omega)
  have f1 := fun (h : 0 ≤ szL zTrigger l l0) => list_of (N := 34359738368) zTrigger_le (fun a l N h0 h hl => bTrigger_of a l N h0 h hl) (xs := l) (l := l0) (by omega) h (by omega)
  have c1 := fun (h : 0 ≤ szL zTrigger l l0) => szL_cnt8 zTrigger_le cntTrigger_sz l l0 (by omega) h
  refine .pcall rfl rfl rfl (szTriggerS_ok l l0 b1_1 b1_2 (by omega) (by omega)) ?_
  generalize szL zTrigger l l0 = l1 at z1 f1 c1 ⊢
  repeat' first | (apply Go.adm; exact rfl) | apply Go.qs | apply Qg.nil | ((first | apply Go.v2 | apply Go.v1); (first | exact leAdd | assumption); iterate 6 exact rfl) | ((first | apply Go.op | apply Go.sop | apply Qg.op); exact rfl; (first | exact aop_alloc | exact aop_new rfl rfl | exact aop_mksl rfl | exact aop_lenM rfl | exact rfl | exact aL rfl rfl rfl rfl rfl | exact aS rfl rfl rfl rfl rfl rfl rfl)) | ((first | apply Go.no | apply Go.sno | apply Qg.no); exact rfl) | (exfalso; omega) | (((first | apply Go.iQ | apply Go.gQ | apply Go.sQ | apply Qg.gQ); exact rfl; (first | exact .d | exact .e | exact .n | ((fail_if_success exact bqt); (fail_if_success exact bqf); exact .b))) <;> intro _)
  · exact .ret rfl (hend _ hold)
  rename_i g1
  obtain ⟨h1_1, h1_2⟩ := f1 (by omega)
  have c1 := c1 (by omega)
  clear f1 b1_1 b1_2
  repeat' first | (apply Go.adm; exact rfl) | apply Go.qs | apply Qg.nil | ((first | apply Go.v2 | apply Go.v1); (first | exact leAdd | assumption); iterate 6 exact rfl) | ((first | apply Go.op | apply Go.sop | apply Qg.op); exact rfl; (first | exact aop_alloc | exact aop_new rfl rfl | exact aop_mksl rfl | exact aop_lenM rfl | exact rfl | exact aL rfl rfl rfl rfl rfl | exact aS rfl rfl rfl rfl rfl rfl rfl)) | ((first | apply Go.no | apply Go.sno | apply Qg.no); exact rfl) | (exfalso; omega) | (((first | apply Go.iQ | apply Go.gQ | apply Go.sQ | apply Qg.gQ); exact rfl; (first | exact .d | exact .e | exact .n | ((fail_if_success exact bqt); (fail_if_success exact bqf); exact .b))) <;> intro _)
  have z4 := szL_le szV_le old l1 (by omega)
  have f4 := fun (h : 0 ≤ szL szV old l1) => list_of (N := 34359738368) szV_le (fun _ _ _ _ h hl => bV_of h hl) (xs := old) (l := l1) (by omega) h (by omega)
  have c4 := fun (h : 0 ≤ szL szV old l1) => szL_cnt8 szV_le szV_cnt old l1 (by omega) h
  refine .pcall rfl rfl rfl (szValS_ok old l1 b4_1 b4_2 (by omega) (by omega)) ?_
  generalize szL szV old l1 = l4 at z4 f4 c4 ⊢
  repeat' first | (apply Go.adm; exact rfl) | apply Go.qs | apply Qg.nil | ((first | apply Go.v2 | apply Go.v1); (first | exact leAdd | assumption); iterate 6 exact rfl) | ((first | apply Go.op | apply Go.sop | apply Qg.op); exact rfl; (first | exact aop_alloc | exact aop_new rfl rfl | exact aop_mksl rfl | exact aop_lenM rfl | exact rfl | exact aL rfl rfl rfl rfl rfl | exact aS rfl rfl rfl rfl rfl rfl rfl)) | ((first | apply Go.no | apply Go.sno | apply Qg.no); exact rfl) | (exfalso; omega) | (((first | apply Go.iQ | apply Go.gQ | apply Go.sQ | apply Qg.gQ); exact rfl; (first | exact .d | exact .e | exact .n | ((fail_if_success exact bqt); (fail_if_success exact bqf); exact .b))) <;> intro _)
  · exact .ret rfl (hend _ hold)
  rename_i g4
  obtain ⟨h4_1, h4_2⟩ := f4 (by omega)
  have c4 := c4 (by omega)
  clear f4 b4_1 b4_2
  repeat' first | (apply Go.adm; exact rfl) | apply Go.qs | apply Qg.nil | ((first | apply Go.v2 | apply Go.v1); (first | exact leAdd | assumption); iterate 6 exact rfl) | ((first | apply Go.op | apply Go.sop | apply Qg.op); exact rfl; (first | exact aop_alloc | exact aop_new rfl rfl | exact aop_mksl rfl | exact aop_lenM rfl | exact rfl | exact aL rfl rfl rfl rfl rfl | exact aS rfl rfl rfl rfl rfl rfl rfl)) | ((first | apply Go.no | apply Go.sno | apply Qg.no); exact rfl) | (exfalso; omega) | (((first | apply Go.iQ | apply Go.gQ | apply Go.sQ | apply Qg.gQ); exact rfl; (first | exact .d | exact .e | exact .n | ((fail_if_success exact bqt); (fail_if_success exact bqf); exact .b))) <;> intro _)
  have z5 := szL_le szV_le now l4 (by omega)
  have f5 := fun (h : 0 ≤ szL szV now l4) => list_of (N := 34359738368) szV_le (fun _ _ _ _ h hl => bV_of h hl) (xs := now) (l := l4) (by omega) h (by omega)
  have c5 := fun (h : 0 ≤ szL szV now l4) => szL_cnt8 szV_le szV_cnt now l4 (by omega) h
  refine .pcall rfl rfl rfl (szValS_ok now l4 b5_1 b5_2 (by omega) (by omega)) ?_
  generalize szL szV now l4 = l5 at z5 f5 c5 ⊢
  repeat' first | (apply Go.adm; exact rfl) | apply Go.qs | apply Qg.nil | ((first | apply Go.v2 | apply Go.v1); (first | exact leAdd | assumption); iterate 6 exact rfl) | ((first | apply Go.op | apply Go.sop | apply Qg.op); exact rfl; (first | exact aop_alloc | exact aop_new rfl rfl | exact aop_mksl rfl | exact aop_lenM rfl | exact rfl | exact aL rfl rfl rfl rfl rfl | exact aS rfl rfl rfl rfl rfl rfl rfl)) | ((first | apply Go.no | apply Go.sno | apply Qg.no); exact rfl) | (exfalso; omega) | (((first | apply Go.iQ | apply Go.gQ | apply Go.sQ | apply Qg.gQ); exact rfl; (first | exact .d | exact .e | exact .n | ((fail_if_success exact bqt); (fail_if_success exact bqf); exact .b))) <;> intro _)
  · exact .ret rfl (hend _ hold)
  rename_i g5
  obtain ⟨h5_1, h5_2⟩ := f5 (by omega)
  have c5 := c5 (by omega)
  clear f5 b5_1 b5_2
  have cn0 := cntL_nonneg (c := cntTable) cntTable_nonneg s
  have cn1 := cntL_nonneg (c := cntTrigger) cntTrigger_nonneg l
  have cn4 := cntL_nonneg (c := (fun _ => 3)) (fun _ => by decide) old
  have cn5 := cntL_nonneg (c := (fun _ => 3)) (fun _ => by decide) now
  have himpl := Fires_ok s l n ev old now h0_1 h0_2 h1_1 h1_2 h4_1 h4_2 h5_1 h5_2
  have hspec := NewV.pure (sFires_ok s l n ev old now h0_1 h0_2 h1_1 h1_2 h4_1 h4_2 h5_1 h5_2)
  have t0 := New.pure (toTableS_ok s h0_1 h0_2)
  have t1 := New.pure (toTriggerS_ok l h1_1 h1_2)
  have t4 := New.pure (toValS_ok old h4_1)
  have t5 := New.pure (toValS_ok now h5_1)
  obtain ⟨w1, w3⟩ := Fires_fact s l n ev old now h0_1 h0_2 h1_1 h1_2 h4_1 h4_2 h5_1 h5_2
  generalize FiresF s l n ev old now = ws at himpl hspec w1 w3
  repeat' first | (apply Go.adm; exact rfl) | apply Go.qs | apply Qg.nil | ((first | apply Go.v2 | apply Go.v1); (first | exact leAdd | assumption); iterate 6 exact rfl) | ((first | apply Go.op | apply Go.sop | apply Qg.op); exact rfl; (first | exact aop_alloc | exact aop_new rfl rfl | exact aop_mksl rfl | exact aop_lenM rfl | exact rfl | exact aL rfl rfl rfl rfl rfl | exact aS rfl rfl rfl rfl rfl rfl rfl)) | ((first | apply Go.no | apply Go.sno | apply Qg.no); exact rfl) | ((first | apply Go.pcall | apply Go.spcall | apply Qg.pcall); (iterate 3 exact rfl); (first | exact t0 | exact t1 | exact t4 | exact t5)) | (exfalso; omega) | (((first | apply Go.iQ | apply Go.gQ | apply Go.sQ | apply Qg.gQ); exact rfl; (first | exact .d | exact .e | exact .n | ((fail_if_success exact bqt); (fail_if_success exact bqf); exact .b))) <;> intro _)
  first | refine .spcall rfl rfl rfl hspec ?_ | refine .pcall rfl rfl rfl hspec ?_
  repeat' first | (apply Go.adm; exact rfl) | apply Go.qs | apply Qg.nil | ((first | apply Go.v2 | apply Go.v1); (first | exact leAdd | assumption); iterate 6 exact rfl) | ((first | apply Go.op | apply Go.sop | apply Qg.op); exact rfl; (first | exact aop_alloc | exact aop_new rfl rfl | exact aop_mksl rfl | exact aop_lenM rfl | exact rfl | exact aL rfl rfl rfl rfl rfl | exact aS rfl rfl rfl rfl rfl rfl rfl)) | ((first | apply Go.no | apply Go.sno | apply Qg.no); exact rfl) | (exfalso; omega) | (((first | apply Go.iQ | apply Go.gQ | apply Go.sQ | apply Qg.gQ); exact rfl; (first | exact .d | exact .e | exact .n | ((fail_if_success exact bqt); (fail_if_success exact bqf); exact .b))) <;> intro _)
  first | refine .call _ rfl rfl rfl (toTableS_ok s h0_1 h0_2 _) ?_ | refine .scall _ rfl rfl rfl (toTableS_ok s h0_1 h0_2 _) ?_
  intro r τ1 hq
  obtain ⟨x0, rfl, gr, hh0⟩ := New.openC hq
  have hold : ∀ id, id < σ.next → τ1.get id = σ.get id := fun id h => (gr.lt (by omega)).trans (hold id h)
  have hm1 := gr.next
  generalize hmq0 : τ0.next = m0 at hm0 hm1 hh0
  clear hq gr hmq0
  repeat' first | (apply Go.adm; exact rfl) | apply Go.qs | apply Qg.nil | ((first | apply Go.v2 | apply Go.v1); (first | exact leAdd | assumption); iterate 6 exact rfl) | ((first | apply Go.op | apply Go.sop | apply Qg.op); exact rfl; (first | exact aop_alloc | exact aop_new rfl rfl | exact aop_mksl rfl | exact aop_lenM rfl | exact rfl | exact aL rfl rfl rfl rfl rfl | exact aS rfl rfl rfl rfl rfl rfl rfl)) | ((first | apply Go.no | apply Go.sno | apply Qg.no); exact rfl) | (exfalso; omega) | (((first | apply Go.iQ | apply Go.gQ | apply Go.sQ | apply Qg.gQ); exact rfl; (first | exact .d | exact .e | exact .n | ((fail_if_success exact bqt); (fail_if_success exact bqf); exact .b))) <;> intro _)
  first | refine .call _ rfl rfl rfl (toTriggerS_ok l h1_1 h1_2 _) ?_ | refine .scall _ rfl rfl rfl (toTriggerS_ok l h1_1 h1_2 _) ?_
  intro r τ2 hq
  obtain ⟨x1, rfl, gr, hh1⟩ := New.openC hq
  have hh0 := hh0.frame fun a ha => gr.lt (by have := ha.2; omega)
  have hold : ∀ id, id < σ.next → τ2.get id = σ.get id := fun id h => (gr.lt (by omega)).trans (hold id h)
  have hm2 := gr.next
  generalize hmq1 : τ1.next = m1 at hm1 hm2 hh1
  simp only [hmq1] at hh0
  clear hq gr hmq1
  repeat' first | (apply Go.adm; exact rfl) | apply Go.qs | apply Qg.nil | ((first | apply Go.v2 | apply Go.v1); (first | exact leAdd | assumption); iterate 6 exact rfl) | ((first | apply Go.op | apply Go.sop | apply Qg.op); exact rfl; (first | exact aop_alloc | exact aop_new rfl rfl | exact aop_mksl rfl | exact aop_lenM rfl | exact rfl | exact aL rfl rfl rfl rfl rfl | exact aS rfl rfl rfl rfl rfl rfl rfl)) | ((first | apply Go.no | apply Go.sno | apply Qg.no); exact rfl) | (exfalso; omega) | (((first | apply Go.iQ | apply Go.gQ | apply Go.sQ | apply Qg.gQ); exact rfl; (first | exact .d | exact .e | exact .n | ((fail_if_success exact bqt); (fail_if_success exact bqf); exact .b))) <;> intro _)
  first | refine .call _ rfl rfl rfl (toValS_ok old h4_1 _) ?_ | refine .scall _ rfl rfl rfl (toValS_ok old h4_1 _) ?_
  intro r τ3 hq
  obtain ⟨x4, rfl, gr, hh4⟩ := New.openC hq
  have hh0 := hh0.frame fun a ha => gr.lt (by have := ha.2; omega)
  have hh1 := hh1.frame fun a ha => gr.lt (by have := ha.2; omega)
  have hold : ∀ id, id < σ.next → τ3.get id = σ.get id := fun id h => (gr.lt (by omega)).trans (hold id h)
  have hm3 := gr.next
  generalize hmq2 : τ2.next = m2 at hm2 hm3 hh4
  simp only [hmq2] at hh1
  clear hq gr hmq2
  repeat' first | (apply Go.adm; exact rfl) | apply Go.qs | apply Qg.nil | ((first | apply Go.v2 | apply Go.v1); (first | exact leAdd | assumption); iterate 6 exact rfl) | ((first | apply Go.op | apply Go.sop | apply Qg.op); exact rfl; (first | exact aop_alloc | exact aop_new rfl rfl | exact aop_mksl rfl | exact aop_lenM rfl | exact rfl | exact aL rfl rfl rfl rfl rfl | exact aS rfl rfl rfl rfl rfl rfl rfl)) | ((first | apply Go.no | apply Go.sno | apply Qg.no); exact rfl) | (exfalso; omega) | (((first | apply Go.iQ | apply Go.gQ | apply Go.sQ | apply Qg.gQ); exact rfl; (first | exact .d | exact .e | exact .n | ((fail_if_success exact bqt); (fail_if_success exact bqf); exact .b))) <;> intro _)
  first | refine .call _ rfl rfl rfl (toValS_ok now h5_1 _) ?_ | refine .scall _ rfl rfl rfl (toValS_ok now h5_1 _) ?_
  intro r τ4 hq
  obtain ⟨x5, rfl, gr, hh5⟩ := New.openC hq
  have hh0 := hh0.frame fun a ha => gr.lt (by have := ha.2; omega)
  have hh1 := hh1.frame fun a ha => gr.lt (by have := ha.2; omega)
  have hh4 := hh4.frame fun a ha => gr.lt (by have := ha.2; omega)
  have hold : ∀ id, id < σ.next → τ4.get id = σ.get id := fun id h => (gr.lt (by omega)).trans (hold id h)
  have hm4 := gr.next
  generalize hmq3 : τ3.next = m3 at hm3 hm4 hh5
  simp only [hmq3] at hh4
  clear hq gr hmq3
  repeat' first | (apply Go.adm; exact rfl) | apply Go.qs | apply Qg.nil | ((first | apply Go.v2 | apply Go.v1); (first | exact leAdd | assumption); iterate 6 exact rfl) | ((first | apply Go.op | apply Go.sop | apply Qg.op); exact rfl; (first | exact aop_alloc | exact aop_new rfl rfl | exact aop_mksl rfl | exact aop_lenM rfl | exact rfl | exact aL rfl rfl rfl rfl rfl | exact aS rfl rfl rfl rfl rfl rfl rfl)) | ((first | apply Go.no | apply Go.sno | apply Qg.no); exact rfl) | (exfalso; omega) | (((first | apply Go.iQ | apply Go.gQ | apply Go.sQ | apply Qg.gQ); exact rfl; (first | exact .d | exact .e | exact .n | ((fail_if_success exact bqt); (fail_if_success exact bqf); exact .b))) <;> intro _)
  first | refine .call _ rfl rfl rfl (Lend.new (.own (HasV.c hh0).lend (.own (HasV.c hh1).lend (.same (.same (.own (HasV.c hh4).lend (.own (HasV.c hh5).lend .nil)))))) himpl) ?_ | refine .scall _ rfl rfl rfl (Lend.new (.own (HasV.c hh0).lend (.own (HasV.c hh1).lend (.same (.same (.own (HasV.c hh4).lend (.own (HasV.c hh5).lend .nil)))))) himpl) ?_
  intro r τr hq
  obtain ⟨g, rfl, gr, hhr⟩ := new1_open  hq
  have hh0 := hh0.frame fun a ha => gr.lt (by have := ha.2; omega)
  have hh1 := hh1.frame fun a ha => gr.lt (by have := ha.2; omega)
  have hh4 := hh4.frame fun a ha => gr.lt (by have := ha.2; omega)
  have hh5 := hh5.frame fun a ha => gr.lt (by have := ha.2; omega)
  have hold : ∀ id, id < σ.next → τr.get id = σ.get id := fun id h => (gr.lt (by omega)).trans (hold id h)
  have hmr := gr.next
  generalize hmq : τ4.next = m4 at hm4 hmr hhr
  simp only [hmq] at hh5
  clear hq gr hmq
  repeat' first | (apply Go.adm; exact rfl) | apply Go.qs | apply Qg.nil | ((first | apply Go.v2 | apply Go.v1); (first | exact leAdd | assumption); iterate 6 exact rfl) | ((first | apply Go.op | apply Go.sop | apply Qg.op); exact rfl; (first | exact aop_alloc | exact aop_new rfl rfl | exact aop_mksl rfl | exact aop_lenM rfl | exact rfl | exact aL rfl rfl rfl rfl rfl | exact aS rfl rfl rfl rfl rfl rfl rfl)) | ((first | apply Go.no | apply Go.sno | apply Qg.no); exact rfl) | (exfalso; omega) | (((first | apply Go.iQ | apply Go.gQ | apply Go.sQ | apply Qg.gQ); exact rfl; (first | exact .d | exact .e | exact .n | ((fail_if_success exact bqt); (fail_if_success exact bqf); exact .b))) <;> intro _)
  first | refine Go.lcall rfl rfl rfl (eqInt64S_ok ws ws w1) (.bool _) (.own (HasV.c hhr).lend (.same .nil)) ?_ | refine Go.slcall rfl rfl rfl (eqInt64S_ok ws ws w1) (.bool _) (.own (HasV.c hhr).lend (.same .nil)) ?_
  rw [beq_self_eq_true]
  repeat' first | (apply Go.adm; exact rfl) | apply Go.qs | apply Qg.nil | ((first | apply Go.v2 | apply Go.v1); (first | exact leAdd | assumption); iterate 6 exact rfl) | ((first | apply Go.op | apply Go.sop | apply Qg.op); exact rfl; (first | exact aop_alloc | exact aop_new rfl rfl | exact aop_mksl rfl | exact aop_lenM rfl | exact aop_neB rfl rfl | exact rfl | exact aL rfl rfl rfl rfl rfl | exact aS rfl rfl rfl rfl rfl rfl rfl)) | ((first | apply Go.no | apply Go.sno | apply Qg.no); exact rfl) | ((first | apply Go.pcall | apply Go.spcall | apply Qg.pcall); (iterate 3 exact rfl); exact t0) | (exfalso; omega) | (((first | apply Go.iQ | apply Go.gQ | apply Go.sQ | apply Qg.gQ); exact rfl; (first | exact .d | exact .e | exact .n | ((fail_if_success exact bqt); (fail_if_success exact bqf); exact .b))) <;> intro _)
  first | refine Go.lcall rfl rfl rfl (eqTableS_ok s s h0_1 h0_2) (.bool _) (.own (HasV.c hh0).lend (.same .nil)) ?_ | refine Go.slcall rfl rfl rfl (eqTableS_ok s s h0_1 h0_2) (.bool _) (.own (HasV.c hh0).lend (.same .nil)) ?_
  rw [beq_self_eq_true]
  repeat' first | (apply Go.adm; exact rfl) | apply Go.qs | apply Qg.nil | ((first | apply Go.v2 | apply Go.v1); (first | exact leAdd | assumption); iterate 6 exact rfl) | ((first | apply Go.op | apply Go.sop | apply Qg.op); exact rfl; (first | exact aop_alloc | exact aop_new rfl rfl | exact aop_mksl rfl | exact aop_lenM rfl | exact aop_neB rfl rfl | exact rfl | exact aL rfl rfl rfl rfl rfl | exact aS rfl rfl rfl rfl rfl rfl rfl)) | ((first | apply Go.no | apply Go.sno | apply Qg.no); exact rfl) | ((first | apply Go.pcall | apply Go.spcall | apply Qg.pcall); (iterate 3 exact rfl); exact t1) | (exfalso; omega) | (((first | apply Go.iQ | apply Go.gQ | apply Go.sQ | apply Qg.gQ); exact rfl; (first | exact .d | exact .e | exact .n | ((fail_if_success exact bqt); (fail_if_success exact bqf); exact .b))) <;> intro _)
  first | refine Go.lcall rfl rfl rfl (eqTriggerS_ok l l h1_1 h1_2) (.bool _) (.own (HasV.c hh1).lend (.same .nil)) ?_ | refine Go.slcall rfl rfl rfl (eqTriggerS_ok l l h1_1 h1_2) (.bool _) (.own (HasV.c hh1).lend (.same .nil)) ?_
  rw [beq_self_eq_true]
  repeat' first | (apply Go.adm; exact rfl) | apply Go.qs | apply Qg.nil | ((first | apply Go.v2 | apply Go.v1); (first | exact leAdd | assumption); iterate 6 exact rfl) | ((first | apply Go.op | apply Go.sop | apply Qg.op); exact rfl; (first | exact aop_alloc | exact aop_new rfl rfl | exact aop_mksl rfl | exact aop_lenM rfl | exact aop_neB rfl rfl | exact rfl | exact aL rfl rfl rfl rfl rfl | exact aS rfl rfl rfl rfl rfl rfl rfl)) | ((first | apply Go.no | apply Go.sno | apply Qg.no); exact rfl) | ((first | apply Go.pcall | apply Go.spcall | apply Qg.pcall); (iterate 3 exact rfl); exact t4) | (exfalso; omega) | (((first | apply Go.iQ | apply Go.gQ | apply Go.sQ | apply Qg.gQ); exact rfl; (first | exact .d | exact .e | exact .n | ((fail_if_success exact bqt); (fail_if_success exact bqf); exact .b))) <;> intro _)
  first | refine Go.lcall rfl rfl rfl (eqValS_ok old old h4_1) (.bool _) (.own (HasV.c hh4).lend (.same .nil)) ?_ | refine Go.slcall rfl rfl rfl (eqValS_ok old old h4_1) (.bool _) (.own (HasV.c hh4).lend (.same .nil)) ?_
  rw [beq_self_eq_true]
  repeat' first | (apply Go.adm; exact rfl) | apply Go.qs | apply Qg.nil | ((first | apply Go.v2 | apply Go.v1); (first | exact leAdd | assumption); iterate 6 exact rfl) | ((first | apply Go.op | apply Go.sop | apply Qg.op); exact rfl; (first | exact aop_alloc | exact aop_new rfl rfl | exact aop_mksl rfl | exact aop_lenM rfl | exact aop_neB rfl rfl | exact rfl | exact aL rfl rfl rfl rfl rfl | exact aS rfl rfl rfl rfl rfl rfl rfl)) | ((first | apply Go.no | apply Go.sno | apply Qg.no); exact rfl) | ((first | apply Go.pcall | apply Go.spcall | apply Qg.pcall); (iterate 3 exact rfl); exact t5) | (exfalso; omega) | (((first | apply Go.iQ | apply Go.gQ | apply Go.sQ | apply Qg.gQ); exact rfl; (first | exact .d | exact .e | exact .n | ((fail_if_success exact bqt); (fail_if_success exact bqf); exact .b))) <;> intro _)
  first | refine Go.lcall rfl rfl rfl (eqValS_ok now now h5_1) (.bool _) (.own (HasV.c hh5).lend (.same .nil)) ?_ | refine Go.slcall rfl rfl rfl (eqValS_ok now now h5_1) (.bool _) (.own (HasV.c hh5).lend (.same .nil)) ?_
  rw [beq_self_eq_true]
  repeat' first | (apply Go.adm; exact rfl) | apply Go.qs | apply Qg.nil | ((first | apply Go.v2 | apply Go.v1); (first | exact leAdd | assumption); iterate 6 exact rfl) | ((first | apply Go.op | apply Go.sop | apply Qg.op); exact rfl; (first | exact aop_alloc | exact aop_new rfl rfl | exact aop_mksl rfl | exact aop_lenM rfl | exact rfl | exact aL rfl rfl rfl rfl rfl | exact aS rfl rfl rfl rfl rfl rfl rfl)) | ((first | apply Go.no | apply Go.sno | apply Qg.no); exact rfl) | (exfalso; omega) | (((first | apply Go.iQ | apply Go.gQ | apply Go.sQ | apply Qg.gQ); exact rfl; (first | exact .d | exact .e | exact .n | ((fail_if_success exact bqt); (fail_if_success exact bqf); exact .b))) <;> intro _)
  refine .call _ rfl rfl rfl ((markTableS_ok s 1 h0_1 h0_2 (by omega) (by omega)).at_ _ _ _ hh0) ?_
  rintro r τm0 ⟨rfl, hnx, hfr, -⟩
  have hh1 := hh1.frame (fun a ha => hfr a fun h => by have := ha.1; have := h.2; omega)
  have hh4 := hh4.frame (fun a ha => hfr a fun h => by have := ha.1; have := h.2; omega)
  have hh5 := hh5.frame (fun a ha => hfr a fun h => by have := ha.1; have := h.2; omega)
  have hhr := hhr.frame (fun a ha => hfr a fun h => by have := ha.1; have := h.2; omega)
  have hold : ∀ id, id < σ.next → τm0.get id = σ.get id := fun id h => (hfr id fun h' => by have := h'.1; omega).trans (hold id h)
  obtain ⟨k1, hk1⟩ : ∃ z, 1 + cntL cntTable s = z := ⟨_, rfl⟩
  rw [hk1]
  have hkb1 : 1 ≤ k1 ∧ k1 ≤ 8388616 + 8 * 1 - 8 * l0 := by omega
  clear hfr hh0 hk1 hnx
  repeat' first | (apply Go.adm; exact rfl) | apply Go.qs | apply Qg.nil | ((first | apply Go.v2 | apply Go.v1); (first | exact leAdd | assumption); iterate 6 exact rfl) | ((first | apply Go.op | apply Go.sop | apply Qg.op); exact rfl; (first | exact aop_alloc | exact aop_new rfl rfl | exact aop_mksl rfl | exact aop_lenM rfl | exact rfl | exact aL rfl rfl rfl rfl rfl | exact aS rfl rfl rfl rfl rfl rfl rfl)) | ((first | apply Go.no | apply Go.sno | apply Qg.no); exact rfl) | (exfalso; omega) | (((first | apply Go.iQ | apply Go.gQ | apply Go.sQ | apply Qg.gQ); exact rfl; (first | exact .d | exact .e | exact .n | ((fail_if_success exact bqt); (fail_if_success exact bqf); exact .b))) <;> intro _)
  refine .call _ rfl rfl rfl ((markTriggerS_ok l k1 h1_1 h1_2 (by omega) (by omega)).at_ _ _ _ hh1) ?_
  rintro r τm1 ⟨rfl, hnx, hfr, -⟩
  have hh4 := hh4.frame (fun a ha => hfr a fun h => by have := ha.1; have := h.2; omega)
  have hh5 := hh5.frame (fun a ha => hfr a fun h => by have := ha.1; have := h.2; omega)
  have hhr := hhr.frame (fun a ha => hfr a fun h => by have := ha.1; have := h.2; omega)
  have hold : ∀ id, id < σ.next → τm1.get id = σ.get id := fun id h => (hfr id fun h' => by have := h'.1; omega).trans (hold id h)
  obtain ⟨k2, hk2⟩ : ∃ z, k1 + cntL cntTrigger l = z := ⟨_, rfl⟩
  rw [hk2]
  have hkb2 : 1 ≤ k2 ∧ k2 ≤ 8388616 + 8 * 2 - 8 * l1 := by omega
  clear hfr hh1 hk2 hnx
  repeat' first | (apply Go.adm; exact rfl) | apply Go.qs | apply Qg.nil | ((first | apply Go.v2 | apply Go.v1); (first | exact leAdd | assumption); iterate 6 exact rfl) | ((first | apply Go.op | apply Go.sop | apply Qg.op); exact rfl; (first | exact aop_alloc | exact aop_new rfl rfl | exact aop_mksl rfl | exact aop_lenM rfl | exact rfl | exact aL rfl rfl rfl rfl rfl | exact aS rfl rfl rfl rfl rfl rfl rfl)) | ((first | apply Go.no | apply Go.sno | apply Qg.no); exact rfl) | (exfalso; omega) | (((first | apply Go.iQ | apply Go.gQ | apply Go.sQ | apply Qg.gQ); exact rfl; (first | exact .d | exact .e | exact .n | ((fail_if_success exact bqt); (fail_if_success exact bqf); exact .b))) <;> intro _)
  refine .call _ rfl rfl rfl ((markValS_ok old k2 h4_1 (by omega) (by omega)).at_ _ _ _ hh4) ?_
  rintro r τm2 ⟨rfl, hnx, hfr, -⟩
  have hh5 := hh5.frame (fun a ha => hfr a fun h => by have := ha.1; have := h.2; omega)
  have hhr := hhr.frame (fun a ha => hfr a fun h => by have := ha.1; have := h.2; omega)
  have hold : ∀ id, id < σ.next → τm2.get id = σ.get id := fun id h => (hfr id fun h' => by have := h'.1; omega).trans (hold id h)
  obtain ⟨k3, hk3⟩ : ∃ z, k2 + cntL (fun _ => 3) old = z := ⟨_, rfl⟩
  rw [hk3]
  have hkb3 : 1 ≤ k3 ∧ k3 ≤ 8388616 + 8 * 3 - 8 * l4 := by omega
  clear hfr hh4 hk3 hnx
  repeat' first | (apply Go.adm; exact rfl) | apply Go.qs | apply Qg.nil | ((first | apply Go.v2 | apply Go.v1); (first | exact leAdd | assumption); iterate 6 exact rfl) | ((first | apply Go.op | apply Go.sop | apply Qg.op); exact rfl; (first | exact aop_alloc | exact aop_new rfl rfl | exact aop_mksl rfl | exact aop_lenM rfl | exact rfl | exact aL rfl rfl rfl rfl rfl | exact aS rfl rfl rfl rfl rfl rfl rfl)) | ((first | apply Go.no | apply Go.sno | apply Qg.no); exact rfl) | (exfalso; omega) | (((first | apply Go.iQ | apply Go.gQ | apply Go.sQ | apply Qg.gQ); exact rfl; (first | exact .d | exact .e | exact .n | ((fail_if_success exact bqt); (fail_if_success exact bqf); exact .b))) <;> intro _)
  refine .call _ rfl rfl rfl ((markValS_ok now k3 h5_1 (by omega) (by omega)).at_ _ _ _ hh5) ?_
  rintro r τm3 ⟨rfl, hnx, hfr, -⟩
  have hhr := hhr.frame (fun a ha => hfr a fun h => by have := ha.1; have := h.2; omega)
  have hold : ∀ id, id < σ.next → τm3.get id = σ.get id := fun id h => (hfr id fun h' => by have := h'.1; omega).trans (hold id h)
  obtain ⟨k4, hk4⟩ : ∃ z, k3 + cntL (fun _ => 3) now = z := ⟨_, rfl⟩
  rw [hk4]
  have hkb4 : 1 ≤ k4 ∧ k4 ≤ 8388616 + 8 * 4 - 8 * l5 := by omega
  clear hfr hh5 hk4 hnx
  repeat' first | (apply Go.adm; exact rfl) | apply Go.qs | apply Qg.nil | ((first | apply Go.v2 | apply Go.v1); (first | exact leAdd | assumption); iterate 6 exact rfl) | ((first | apply Go.op | apply Go.sop | apply Qg.op); exact rfl; (first | exact aop_alloc | exact aop_new rfl rfl | exact aop_mksl rfl | exact aop_lenM rfl | exact rfl | exact aL rfl rfl rfl rfl rfl | exact aS rfl rfl rfl rfl rfl rfl rfl)) | ((first | apply Go.no | apply Go.sno | apply Qg.no); exact rfl) | (exfalso; omega) | (((first | apply Go.iQ | apply Go.gQ | apply Go.sQ | apply Qg.gQ); exact rfl; (first | exact .d | exact .e | exact .n | ((fail_if_success exact bqt); (fail_if_success exact bqf); exact .b))) <;> intro _)
  first | refine Go.lcall rfl rfl rfl (eqInt64S_ok ws ws w1) (.bool _) (.own (HasV.c hhr).lend (.same .nil)) ?_ | refine Go.slcall rfl rfl rfl (eqInt64S_ok ws ws w1) (.bool _) (.own (HasV.c hhr).lend (.same .nil)) ?_
  rw [beq_self_eq_true]
  repeat' first | (apply Go.adm; exact rfl) | apply Go.qs | apply Qg.nil | ((first | apply Go.v2 | apply Go.v1); (first | exact leAdd | assumption); iterate 6 exact rfl) | ((first | apply Go.op | apply Go.sop | apply Qg.op); exact rfl; (first | exact aop_alloc | exact aop_new rfl rfl | exact aop_mksl rfl | exact aop_lenM rfl | exact aop_neB rfl rfl | exact rfl | exact aL rfl rfl rfl rfl rfl | exact aS rfl rfl rfl rfl rfl rfl rfl)) | ((first | apply Go.no | apply Go.sno | apply Qg.no); exact rfl) | (exfalso; omega) | (((first | apply Go.iQ | apply Go.gQ | apply Go.sQ | apply Qg.gQ); exact rfl; (first | exact .d | exact .e | exact .n | ((fail_if_success exact bqt); (fail_if_success exact bqf); exact .b))) <;> intro _)
  refine .call _ rfl rfl rfl ((markInt64S_ok ws 1 w1 (by omega) (by omega)).at_ _ _ _ hhr) ?_
  rintro r τw ⟨rfl, hnx, hfr, hhr⟩
  have hold : ∀ id, id < σ.next → τw.get id = σ.get id := fun id h => (hfr id fun h' => by have := h'.1; omega).trans (hold id h)
  have hhc := heldInt64S_at ws w1 w3
  generalize markL markI (fun _ => 1) ws 1 = ms at hhr hhc
  have w4 : 0 ≤ 1 + cntL (fun _ => 1) ws := by have := heldInt64S_nn ws; omega
  generalize 1 + cntL (fun _ => 1) ws = k9 at hhc w4 ⊢
  clear hfr hnx
  repeat' first | (apply Go.adm; exact rfl) | apply Go.qs | apply Qg.nil | ((first | apply Go.v2 | apply Go.v1); (first | exact leAdd | assumption); iterate 6 exact rfl) | ((first | apply Go.op | apply Go.sop | apply Qg.op); exact rfl; (first | exact aop_alloc | exact aop_new rfl rfl | exact aop_mksl rfl | exact aop_lenM rfl | exact rfl | exact aL rfl rfl rfl rfl rfl | exact aS rfl rfl rfl rfl rfl rfl rfl)) | ((first | apply Go.no | apply Go.sno | apply Qg.no); exact rfl) | (exfalso; omega) | (((first | apply Go.iQ | apply Go.gQ | apply Go.sQ | apply Qg.gQ); exact rfl; (first | exact .d | exact .e | exact .n | ((fail_if_success exact bqt); (fail_if_success exact bqf); exact .b))) <;> intro _)
  first | refine Go.lcall rfl rfl rfl (hhc) (.int _ _) (.own (HasV.c hhr).lend (.same .nil)) ?_ | refine Go.slcall rfl rfl rfl (hhc) (.int _ _) (.own (HasV.c hhr).lend (.same .nil)) ?_
  repeat' first | (apply Go.adm; exact rfl) | apply Go.qs | apply Qg.nil | ((first | apply Go.v2 | apply Go.v1); (first | exact leAdd | assumption); iterate 6 exact rfl) | ((first | apply Go.op | apply Go.sop | apply Qg.op); exact rfl; (first | exact aop_alloc | exact aop_new rfl rfl | exact aop_mksl rfl | exact aop_lenM rfl | exact rfl | exact aL rfl rfl rfl rfl rfl | exact aS rfl rfl rfl rfl rfl rfl rfl)) | ((first | apply Go.no | apply Go.sno | apply Qg.no); exact rfl) | ((first | apply Go.pcall | apply Go.spcall | apply Qg.pcall); (iterate 3 exact rfl); (first | exact t0 | exact t1 | exact t4 | exact t5)) | (exfalso; omega) | (((first | apply Go.iQ | apply Go.gQ | apply Go.sQ | apply Qg.gQ); exact rfl; (first | exact .d | exact .e | exact .n | ((fail_if_success exact bqt); (fail_if_success exact bqf); exact .b))) <;> intro _)
  first | refine .spcall rfl rfl rfl (NewV.pure himpl) ?_ | refine .pcall rfl rfl rfl (NewV.pure himpl) ?_
  have hee := eqInt64S_ok ws ws w1
  rw [beq_self_eq_true] at hee
  repeat' first | (apply Go.adm; exact rfl) | apply Go.qs | apply Qg.nil | ((first | apply Go.v2 | apply Go.v1); (first | exact leAdd | assumption); iterate 6 exact rfl) | ((first | apply Go.op | apply Go.sop | apply Qg.op); exact rfl; (first | exact aop_alloc | exact aop_new rfl rfl | exact aop_mksl rfl | exact aop_lenM rfl | exact aop_neB rfl rfl | exact rfl | exact aL rfl rfl rfl rfl rfl | exact aS rfl rfl rfl rfl rfl rfl rfl)) | ((first | apply Go.no | apply Go.sno | apply Qg.no); exact rfl) | ((first | apply Go.pcall | apply Go.spcall | apply Qg.pcall); (iterate 3 exact rfl); exact hee) | (exfalso; omega) | (((first | apply Go.iQ | apply Go.gQ | apply Go.sQ | apply Qg.gQ); exact rfl; (first | exact .d | exact .e | exact .n | ((fail_if_success exact bqt); (fail_if_success exact bqf); exact .b))) <;> intro _)
  first | refine Go.lcall rfl rfl rfl (hhc) (.int _ _) (.own (HasV.c hhr).lend (.same .nil)) ?_ | refine Go.slcall rfl rfl rfl (hhc) (.int _ _) (.own (HasV.c hhr).lend (.same .nil)) ?_
  repeat' first | (apply Go.adm; exact rfl) | apply Go.qs | apply Qg.nil | ((first | apply Go.v2 | apply Go.v1); (first | exact leAdd | assumption); iterate 6 exact rfl) | ((first | apply Go.op | apply Go.sop | apply Qg.op); exact rfl; (first | exact aop_alloc | exact aop_new rfl rfl | exact aop_mksl rfl | exact aop_lenM rfl | exact rfl | exact aL rfl rfl rfl rfl rfl | exact aS rfl rfl rfl rfl rfl rfl rfl)) | ((first | apply Go.no | apply Go.sno | apply Qg.no); exact rfl) | (exfalso; omega) | (((first | apply Go.iQ | apply Go.gQ | apply Go.sQ | apply Qg.gQ); exact rfl; (first | exact .d | exact .e | exact .n | ((fail_if_success exact bqt); (fail_if_success exact bqf); exact .b))) <;> intro _)
  exact .ret rfl ⟨hold, solid_end⟩
end Go.Proofs.YtcfpdongfdhgjaaGreat.Am

/- The abstract machine, part 27: a row's arguments as abstract values, and what a contract says of a call. -/
set_option linter.unusedVariables false
set_option linter.unusedSimpArgs false
namespace Go.Proofs.YtcfpdongfdhgjaaGreat.Am
open Go.RowKit Go.ChangeShapes Go.WideShapes

/-- A world of which nothing is ours. -/
def Cx.at (W : World) : Cx := ⟨fun _ _ => ⟨0, 0, 0, false⟩, fun _ _ => False, fun _ => False, W⟩
theorem Rl.at (W : World) : Rl (Cx.at W) (Store.none 0) :=
  ⟨fun _ _ h => h.elim, fun id v es hg => by simp [Store.none] at hg, fun b => ⟨fun h => h.elim, fun ⟨id, v, es, hg, _⟩ => by simp [Store.none] at hg⟩, fun id v es id' v' es' hg => by simp [Store.none] at hg, fun id v es hg => by simp [Store.none] at hg⟩
theorem rpv_bool {D : Cx} {b : Bool} {v : Value} (h : RpV D (.c (.bool b)) v) : v = .bool b := by
  cases h with
  | c h => cases h; rfl
theorem Pure.calls {P : Program} {f : Nat} {args : List AV} {b : Bool} (h : Pure P f args (.c (.bool b))) {W : World} {cargs : Array Value} (ha : ∃ hl : cargs.size = args.length, ∀ i (hi : i < args.length), RpV (Cx.at W) args[i] (cargs[i]'(by omega))) :
    Calls P f cargs W fun e w' => e = .returned (.bool b) ∧ Below W.heap.size W w' := by
  refine ((h.at_ (Store.none 0)).2 (Cx.at W) cargs (Rl.at W) ha).mono ?_
  rintro e w' ⟨D, σ', r, v, rfl, rfl, ⟨rfl, rfl⟩, hR, hv, hle⟩
  exact ⟨by rw [rpv_bool hv], ⟨hle.os, hle.tape, hle.output, hle.size, fun k hk => hle.keep k hk (fun h => h.elim)⟩⟩

section
variable {H : Type} {enc : TypeId × Value → H} {P : Program} {W : World}
/-- What the rows say of a value of a type, as abstract cells. -/
structure Opens (enc : TypeId × Value → H) (P : Program) (W : World) (t : TypeId) {α : Type} (e : α → List Ce) (good : α → Prop) : Prop where
  op : ∀ fuel cs x, DataW.trod enc P W 0 (fun _ => true) true fuel t cs = some x → (∀ n ∈ x.1.weights P t, n ≤ reachBytes) →
    ∃ a, good a ∧ ∃ hl : cs.length = (e a).length, ∀ i (hi : i < (e a).length), Rp (Cx.at W) (e a)[i] (cs[i]'(by omega))
theorem Opens.one {t : TypeId} {α : Type} {e : α → List Ce} {good : α → Prop} (h : ∀ fuel cs x, DataW.trod enc P W 0 (fun _ => true) true fuel t cs = some x → (∀ n ∈ x.1.weights P t, n ≤ reachBytes) → ∃ a y v, good a ∧ e a = [y] ∧ cs = [v] ∧ Rp (Cx.at W) y v) : Opens enc P W t e good := by
  constructor
  intro fuel cs x h1 h2
  obtain ⟨a, y, v, hg, he, rfl, hr⟩ := h fuel cs x h1 h2
  refine ⟨a, hg, by simp [he], fun i hi => ?_⟩
  have hi' : i = 0 := by rw [he] at hi; simpa using hi
  subst hi'
  simp only [he, List.getElem_cons_zero]
  exact hr
theorem Opens.iso {t : TypeId} {α β : Type} {e : β → List Ce} {good : β → Prop} (h : Opens enc P W t e good) (g : β → α) {e' : α → List Ce} {good' : α → Prop} (he : ∀ b, e' (g b) = e b) (hg : ∀ b, good b → good' (g b)) : Opens enc P W t e' good' := by
  constructor
  intro fuel cs x h1 h2
  obtain ⟨a, h3, hl, h4⟩ := h.op fuel cs x h1 h2
  refine ⟨g a, hg a h3, by rw [he]; exact hl, fun i hi => ?_⟩
  simp only [he]
  exact h4 i (by rw [he] at hi; exact hi)
theorem Opens.int {t : TypeId} {k : IntKind} (ht : P.underlying t = some (.int k)) : Opens enc P W t (fun n : Int => [.int k n]) (fun n => (Lit.int k n).wf = true) := by
  refine Opens.one fun fuel cs x h1 _ => ?_
  obtain ⟨n, rfl, rfl, hw⟩ := DataW.trod_int ht h1
  exact ⟨n, _, _, hw, rfl, rfl, .int k n⟩
theorem Opens.bool {t : TypeId} (ht : P.underlying t = some .bool) : Opens enc P W t (fun b : Bool => [.bool b]) (fun _ => True) := by
  refine Opens.one fun fuel cs x h1 _ => ?_
  obtain ⟨n, rfl, rfl⟩ := DataW.trod_bool ht h1
  exact ⟨n, _, _, trivial, rfl, rfl, .bool n⟩
theorem Opens.str {t : TypeId} (ht : P.underlying t = some .string) : Opens enc P W t (fun s : List UInt8 => [.str s]) (fun s => s.length ≤ 140737488351232) := by
  refine Opens.one fun fuel cs x h1 h2 => ?_
  obtain ⟨s, rfl, rfl, hs⟩ := DataW.trod_string ht h1
  refine ⟨s.data.toList, _, _, ?_, rfl, rfl, .str _⟩
  have := h2 s.data.toList.length (by simp [DataW.weights])
  exact this
theorem list_choice {α : Type} {p : Nat → α → Prop} : ∀ n, (∀ i, i < n → ∃ a, p i a) → ∃ l : List α, l.length = n ∧ ∀ i (hi : i < l.length), p i l[i]
  | 0, _ => ⟨[], rfl, fun i hi => by simp at hi⟩
  | n + 1, h => by
    obtain ⟨l, h1, h2⟩ := list_choice n fun i hi => h i (by omega)
    obtain ⟨a, ha⟩ := h n (by omega)
    refine ⟨l ++ [a], by simp [h1], fun i hi => ?_⟩
    by_cases e : i < l.length
    · rw [List.getElem_append_left e]; exact h2 i e
    · have : i = l.length := by simp at hi; omega
      subst this
      have e1 : (l ++ [a])[l.length]'hi = a := by rw [List.getElem_append_right (Nat.le_refl _)]; simp
      rw [e1, h1]
      exact ha
theorem weightsAll_mem {e : TypeId} : ∀ {l : List (DataW H)} {d : DataW H} {n : Nat}, d ∈ l → n ∈ d.weights P e → n ∈ DataW.weightsAll P e l
  | y :: r, d, n, h, hn => by
    simp only [DataW.weightsAll, List.mem_append]
    rcases List.mem_cons.1 h with rfl | h
    · exact .inl hn
    · exact .inr (weightsAll_mem h hn)
theorem add_add {a : Addr} (h : a.spot = none) (m j : Nat) : (a.add m).add j = ⟨a.block, a.off + (m + j), none⟩ := by
  obtain ⟨b, o, s⟩ := a
  subst h
  simp only [Addr.add]
  split <;> split <;> simp_all [Nat.add_assoc]
theorem spot_of_cell {w : World} {a : Addr} {v : Value} (h : w.cell? a = some v) : a.spot = none ∧ a.block < w.heap.size := by
  unfold World.cell? at h
  split at h
  · rename_i hb
    refine ⟨?_, ?_⟩
    · split at h
      · cases h
      · rename_i hs
        simpa using hs
    · exact (Array.getElem?_eq_some_iff.1 hb).1
  · cases h
theorem Opens.slice {t el : TypeId} {α : Type} {e : α → List Ce} {good : α → Prop} {s : Nat} (ht : P.underlying t = some (.slice el)) (h : Opens enc P W el e good) (hs : P.cellsOf el = s) (hs0 : 0 < s) (he : ∀ a, (e a).length = s) :
    Opens enc P W t (fun l : List α => [.fz (l.map e)]) (fun l => l.length * P.bytesOf el ≤ 140737488351232 ∧ ∀ a ∈ l, good a) := by
  refine Opens.one fun fuel cs x h1 h2 => ?_
  rcases DataW.trod_slice ht h1 with ⟨rfl, rfl⟩ | ⟨a, len, cap, elems, rest, n, _, rfl, rfl, hb, hl, hm, hlen, hel, hsp, hns⟩
  · exact ⟨[], _, _, ⟨by simp, by simp⟩, rfl, rfl, .fz0 _ _⟩
  rw [hs] at hel
  have each : ∀ i, i < len → ∃ y, good y ∧ ∀ j (hj : j < (e y).length), ∃ v, W.cell? ((a.add (i * s)).add j) = some v ∧ Rp (Cx.at W) (e y)[j] v := by
    intro i hi
    have hi' : i < elems.length := by omega
    have h3 := hel i hi
    rw [List.getElem?_eq_getElem hi', Option.bind_eq_some_iff] at h3
    obtain ⟨cs, hc, hd⟩ := h3
    obtain ⟨y, hy, hl, hr⟩ := h.op n cs _ hd (fun m hm => h2 m (by
      simp only [DataW.weights, ht]
      refine List.mem_cons_of_mem _ (List.mem_append_left _ (weightsAll_mem (d := elems[i].1) (List.mem_map_of_mem (List.getElem_mem hi')) hm))))
    obtain ⟨_, hcl, hcc⟩ := World.cells?_some hc
    refine ⟨y, hy, fun j hj => ⟨cs[j]'(by omega), ?_, hr j hj⟩⟩
    rw [hcc j (by rw [← he y]; exact hj), List.getElem?_eq_getElem]
  obtain ⟨l, hll, hl2⟩ := list_choice len each
  refine ⟨l, _, _, ⟨?_, fun y hy => ?_⟩, rfl, rfl, ?_⟩
  · have := h2 _ (by
      simp only [DataW.weights, ht]
      exact List.mem_cons_self)
    simp only [List.length_map] at this
    have h5 : l.length * P.bytesOf el ≤ (elems.length + rest.length) * P.bytesOf el := Nat.mul_le_mul_right _ (by omega)
    exact Nat.le_trans h5 this
  · obtain ⟨i, hi, rfl⟩ := List.mem_iff_getElem.1 hy
    exact (hl2 i hi).1
  · rcases Nat.eq_zero_or_pos len with h0 | h0
    · have hl0 : l = [] := List.eq_nil_of_length_eq_zero (by omega)
      subst hl0
      subst h0
      exact .fz0 _ _
    · obtain ⟨v0, hv0, _⟩ := (hl2 0 (by omega)).2 0 (by rw [he]; exact hs0)
      have hsp0 : a.spot = none ∧ a.block < W.heap.size := by
        have := spot_of_cell hv0
        simpa [Addr.add] using this
      obtain ⟨b, o, sp⟩ := a
      obtain ⟨rfl, hbl⟩ := hsp0
      have hlm : (l.map e).length = len := by simp [hll]
      have key := Rp.fz (C := Cx.at W) (l.map e) b o cap s (fun i j => (W.cell? ⟨b, o + (i * s + j), none⟩).getD .nilFunc) hbl (fun h => h.elim) (by omega) (fun i hi => by simp [he]) (fun i j hi hj => by
        rw [hlm] at hi
        obtain ⟨v, hv, _⟩ := (hl2 i (by omega)).2 j (by rw [he]; exact hj)
        rw [add_add rfl] at hv
        show W.cell? _ = _
        rw [hv]
        rfl) (fun i j hi hj => by
        rw [hlm] at hi
        have hj' : j < (e (l[i]'(by omega))).length := by simpa using hj
        obtain ⟨v, hv, hr⟩ := (hl2 i (by omega)).2 j hj'
        rw [add_add rfl] at hv
        simp only [hv, Option.getD_some, List.getElem_map]
        exact hr)
      rw [hlm] at key
      exact key

/-- .. of the fields of a struct, from one on. -/
structure OpensF (enc : TypeId × Value → H) (P : Program) (W : World) (fs : Array Field) (k off : Nat) {α : Type} (e : α → List Ce) (good : α → Prop) : Prop where
  op : ∀ (cs : List Value) (n : Nat) (xs : List (DataW H × List MemPlace)), xs.length = fs.size → (∀ (i : Nat) (f : Field), fs[i]? = some f → DataW.trod enc P W 0 (fun _ => true) true n f.type ((cs.drop f.offset).take (P.cellsOf f.type)) = xs[i]?) →
    (∀ (i : Nat) (f : Field) (x : DataW H × List MemPlace), fs[i]? = some f → xs[i]? = some x → ∀ m ∈ x.1.weights P f.type, m ≤ reachBytes) →
    ∃ a, good a ∧ ∀ i (hi : i < (e a).length), ∃ v, cs[off + i]? = some v ∧ Rp (Cx.at W) (e a)[i] v
theorem OpensF.nil {fs : Array Field} {k off : Nat} : OpensF enc P W fs k off (fun _ : Unit => []) (fun _ => True) :=
  ⟨fun cs n xs _ _ _ => ⟨(), trivial, fun i hi => by simp at hi⟩⟩
theorem OpensF.cons {fs : Array Field} {k off s : Nat} {f : Field} {α β : Type} {e : α → List Ce} {good : α → Prop} {e' : β → List Ce} {good' : β → Prop} (hf : fs[k]? = some f) (h : Opens enc P W f.type e good) (ho : f.offset = off) (he : ∀ a, (e a).length = s) (hr : OpensF enc P W fs (k + 1) (off + s) e' good') :
    OpensF enc P W fs k off (fun p : α × β => e p.1 ++ e' p.2) (fun p => good p.1 ∧ good' p.2) := by
  constructor
  intro cs n xs hxl hx hw
  obtain ⟨b, hb, hb2⟩ := hr.op cs n xs hxl hx hw
  have hk : k < xs.length := by rw [hxl]; exact (Array.getElem?_eq_some_iff.1 hf).1
  have h1 := hx k f hf
  rw [List.getElem?_eq_getElem hk] at h1
  obtain ⟨a, ha, hl, ha2⟩ := h.op n _ _ h1 (hw k f _ hf (List.getElem?_eq_getElem hk))
  refine ⟨(a, b), ⟨ha, hb⟩, fun i hi => ?_⟩
  by_cases c : i < (e a).length
  · refine ⟨_, ?_, by
      simp only [List.getElem_append_left c]
      exact ha2 i c⟩
    have h2 : ((cs.drop f.offset).take (P.cellsOf f.type))[i]? = some (((cs.drop f.offset).take (P.cellsOf f.type))[i]'(by omega)) := List.getElem?_eq_getElem _
    rw [List.getElem?_take] at h2
    split at h2
    · rw [List.getElem?_drop] at h2
      rw [← h2]
      congr 1
      omega
    · cases h2
  · have hi' : i - (e a).length < (e' b).length := by simp only [List.length_append] at hi; omega
    obtain ⟨v, h2, h3⟩ := hb2 (i - (e a).length) hi'
    refine ⟨v, ?_, ?_⟩
    · rw [← h2, he]
      congr 1
      have := he a
      omega
    · simp only [List.getElem_append_right (Nat.le_of_not_lt c)]
      exact h3
theorem Opens.struct {t : TypeId} {fs : Array Field} {α : Type} {e : α → List Ce} {good : α → Prop} {s : Nat} (ht : P.underlying t = some (.struct fs)) (h : OpensF enc P W fs 0 0 e good) (hs : P.cellsOf t = s) (he : ∀ a, (e a).length = s) : Opens enc P W t e good := by
  constructor
  intro fuel cs x h1 h2
  obtain ⟨xs, n, rfl, rfl, hl, hxl, hx⟩ := DataW.trod_struct ht h1
  obtain ⟨a, ha, ha2⟩ := h.op cs n xs hxl hx (fun i f y hf hy m hm => h2 m (by
    simp only [DataW.weights, ht]
    refine DataW.weights_mem_each (j := i) (t := f.type) (d := y.1) ?_ ?_ m hm
    · rw [List.getElem?_map, Array.getElem?_toList, hf]; rfl
    · rw [List.getElem?_map, hy]; rfl))
  refine ⟨a, ha, by rw [he, hl, hs], fun i hi => ?_⟩
  obtain ⟨v, h3, h4⟩ := ha2 i hi
  rw [Nat.zero_add] at h3
  obtain ⟨_, rfl⟩ := List.getElem?_eq_some_iff.1 h3
  exact h4
/-- An argument of a row. -/
theorem Opens.agg {t : TypeId} {fs : Array Field} {α : Type} {e : α → List Ce} {good : α → Prop} (h : Opens enc P W t e good) (ht : P.underlying t = some (.struct fs)) {r : Reach} {b0 : Nat} {v : Value} (hv : Value.okWide P W r b0 t v) {d : DataW H} {ps : List MemPlace} (hd : DataW.Trod enc P W 0 (fun _ => true) true t v d ps) (hw : ∀ n ∈ d.weights P t, n ≤ reachBytes) :
    ∃ a, good a ∧ RpV (Cx.at W) (.agg (e a)) v := by
  simp only [Value.okWide, ht] at hv
  obtain ⟨cs, rfl, _, _⟩ := hv
  obtain ⟨fuel, hf⟩ := hd
  obtain ⟨a, ha, hl, hr⟩ := h.op fuel _ _ hf hw
  refine ⟨a, ha, .agg (by simpa [Value.cells] using hl) fun i hi => ?_⟩
  have := hr i hi
  simpa [Value.cells] using this
theorem Opens.c {t : TypeId} {α : Type} {e : α → Ce} {good : α → Prop} (h : Opens enc P W t (fun a => [e a]) good) {v : Value} (hv : v.cells = #[v]) {d : DataW H} {ps : List MemPlace} (hd : DataW.Trod enc P W 0 (fun _ => true) true t v d ps) (hw : ∀ n ∈ d.weights P t, n ≤ reachBytes) :
    ∃ a, good a ∧ RpV (Cx.at W) (.c (e a)) v := by
  obtain ⟨fuel, hf⟩ := hd
  rw [hv] at hf
  obtain ⟨a, ha, hl, hr⟩ := h.op fuel _ _ hf hw
  exact ⟨a, ha, .c (hr 0 (by simp))⟩
theorem cells_slice {t el : TypeId} (ht : P.underlying t = some (.slice el)) {r : Reach} {b0 : Nat} {v : Value} (hv : Value.okWide P W r b0 t v) : v.cells = #[v] := by
  obtain ⟨a, len, cap, rfl⟩ := okWide_slice ht hv
  rfl
theorem cells_int {t : TypeId} {k : IntKind} (ht : P.underlying t = some (.int k)) {r : Reach} {b0 : Nat} {v : Value} (hv : Value.okWide P W r b0 t v) : v.cells = #[v] := by
  obtain ⟨n, rfl⟩ := okWide_int ht hv
  rfl
end
end Go.Proofs.YtcfpdongfdhgjaaGreat.Am

/- What the rows say of values and entries. -/
set_option linter.unusedVariables false
set_option linter.unusedSimpArgs false
namespace Go.Proofs.YtcfpdongfdhgjaaGreat.Am
open Go.RowKit Go.ChangeShapes Go.WideShapes

section
variable {H : Type} {enc : TypeId × Value → H} {W : World}
theorem openV : Opens enc Tryz.prog W 138 encV LenV := 
  (Opens.struct (s := 3) Tryz.underlying138 (.cons (s := 1) rfl (.int Tryz.underlying2) rfl (fun _ => rfl) (.cons (s := 1) rfl (.int Tryz.underlying2) rfl (fun _ => rfl) (.cons (s := 1) rfl (.str Tryz.underlying9) rfl (fun _ => rfl) .nil))) (by kernel_rfl) (fun _ => rfl)).iso (fun p => Val.mk p.1 p.2.1 p.2.2.1) (fun _ => rfl) fun p h => Nat.le_trans h.2.2.1 (by decide)
theorem openVs : Opens enc Tryz.prog W 55 (fun l : List Val => [.fz (l.map encV)]) (fun l => l.length ≤ 140737488351232 ∧ ∀ v ∈ l, LenV v) :=
  (Opens.slice (s := 3) Tryz.underlying55 openV (by kernel_rfl) (by decide) (fun _ => rfl)).iso id (fun _ => rfl) fun l h => ⟨Nat.le_trans (Nat.le_mul_of_pos_right _ (of_decide_eq_true (by kernel_rfl))) h.1, h.2⟩
end
end Go.Proofs.YtcfpdongfdhgjaaGreat.Am

/- The laws' helpers on types, printed by a program: Tok, Check, Unique, Fk, Col, Table, Term, Select, Trigger, Set, Row, Stmt. -/
set_option linter.unusedVariables false
set_option linter.unusedSimpArgs false
namespace Go.Proofs.YtcfpdongfdhgjaaGreat.Am
open Go.RowKit Go.ChangeShapes Go.WideShapes
section
variable {H : Type} {enc : TypeId × Value → H} {W : World}
theorem openIs : Opens enc Tryz.prog W 41 (fun l : List Int => [.fz (l.map encI)]) (fun l => l.length ≤ 140737488351232) :=
  (Opens.slice (s := 1) Tryz.underlying41 (.int Tryz.underlying2) (by kernel_rfl) (by decide) (fun _ => rfl)).iso id (fun _ => rfl) fun l h => Nat.le_trans (Nat.le_mul_of_pos_right _ (of_decide_eq_true (by kernel_rfl))) h.1
theorem openTok : Opens enc Tryz.prog W 140 encTok (bTok 1125899906842624) :=
  (Opens.struct (s := 5) Tryz.underlying140 (.cons (s := 1) rfl (.int Tryz.underlying2) rfl (fun _ => rfl) (.cons (s := 1) rfl (.int Tryz.underlying2) rfl (fun _ => rfl) (.cons (s := 3) rfl openV rfl (fun _ => rfl) .nil))) (by kernel_rfl) (fun _ => rfl)).iso (fun p => Tok.mk p.1 p.2.1 p.2.2.1) (fun _ => rfl) fun p h => h.2.2.1
theorem openToks : Opens enc Tryz.prog W 38 (fun l : List Tok => [.fz (l.map encTok)]) (fun l => l.length ≤ 140737488351232 ∧ ∀ v ∈ l, bTok 1125899906842624 v) :=
  (Opens.slice (s := 5) Tryz.underlying38 openTok (by kernel_rfl) (by decide) (fun _ => rfl)).iso id (fun _ => rfl) fun l h => ⟨Nat.le_trans (Nat.le_mul_of_pos_right _ (of_decide_eq_true (by kernel_rfl))) h.1, h.2⟩
theorem openChk : Opens enc Tryz.prog W 312 encChk (bChk 1125899906842624) :=
  (Opens.struct (s := 1) Tryz.underlying312 (.cons (s := 1) rfl openToks rfl (fun _ => rfl) .nil) (by kernel_rfl) (fun _ => rfl)).iso (fun p => Chk.mk p.1) (fun _ => rfl) fun p h => ⟨Nat.le_trans h.1.1 (by decide), h.1.2⟩
theorem openChks : Opens enc Tryz.prog W 110 (fun l : List Chk => [.fz (l.map encChk)]) (fun l => l.length ≤ 140737488351232 ∧ ∀ v ∈ l, bChk 1125899906842624 v) :=
  (Opens.slice (s := 1) Tryz.underlying110 openChk (by kernel_rfl) (by decide) (fun _ => rfl)).iso id (fun _ => rfl) fun l h => ⟨Nat.le_trans (Nat.le_mul_of_pos_right _ (of_decide_eq_true (by kernel_rfl))) h.1, h.2⟩
theorem openUniq : Opens enc Tryz.prog W 310 encUniq (bUniq 1125899906842624) :=
  (Opens.struct (s := 1) Tryz.underlying310 (.cons (s := 1) rfl openIs rfl (fun _ => rfl) .nil) (by kernel_rfl) (fun _ => rfl)).iso (fun p => Uniq.mk p.1) (fun _ => rfl) fun p h => Nat.le_trans h.1 (by decide)
theorem openUniqs : Opens enc Tryz.prog W 109 (fun l : List Uniq => [.fz (l.map encUniq)]) (fun l => l.length ≤ 140737488351232 ∧ ∀ v ∈ l, bUniq 1125899906842624 v) :=
  (Opens.slice (s := 1) Tryz.underlying109 openUniq (by kernel_rfl) (by decide) (fun _ => rfl)).iso id (fun _ => rfl) fun l h => ⟨Nat.le_trans (Nat.le_mul_of_pos_right _ (of_decide_eq_true (by kernel_rfl))) h.1, h.2⟩
theorem openFk : Opens enc Tryz.prog W 314 encFk (bFk 1125899906842624) :=
  (Opens.struct (s := 5) Tryz.underlying314 (.cons (s := 1) rfl openIs rfl (fun _ => rfl) (.cons (s := 1) rfl (.str Tryz.underlying9) rfl (fun _ => rfl) (.cons (s := 1) rfl (.int Tryz.underlying2) rfl (fun _ => rfl) (.cons (s := 1) rfl (.int Tryz.underlying2) rfl (fun _ => rfl) (.cons (s := 1) rfl (.bool Tryz.underlying4) rfl (fun _ => rfl) .nil))))) (by kernel_rfl) (fun _ => rfl)).iso (fun p => Fk.mk p.1 p.2.1 p.2.2.1 p.2.2.2.1 p.2.2.2.2.1) (fun _ => rfl) fun p h => ⟨Nat.le_trans h.1 (by decide), Nat.le_trans h.2.1 (by decide)⟩
theorem openFks : Opens enc Tryz.prog W 111 (fun l : List Fk => [.fz (l.map encFk)]) (fun l => l.length ≤ 140737488351232 ∧ ∀ v ∈ l, bFk 1125899906842624 v) :=
  (Opens.slice (s := 5) Tryz.underlying111 openFk (by kernel_rfl) (by decide) (fun _ => rfl)).iso id (fun _ => rfl) fun l h => ⟨Nat.le_trans (Nat.le_mul_of_pos_right _ (of_decide_eq_true (by kernel_rfl))) h.1, h.2⟩
theorem openCol : Opens enc Tryz.prog W 308 encCol (bCol 1125899906842624) :=
  (Opens.struct (s := 6) Tryz.underlying308 (.cons (s := 1) rfl (.str Tryz.underlying9) rfl (fun _ => rfl) (.cons (s := 1) rfl (.int Tryz.underlying2) rfl (fun _ => rfl) (.cons (s := 1) rfl (.bool Tryz.underlying4) rfl (fun _ => rfl) (.cons (s := 3) rfl openV rfl (fun _ => rfl) .nil)))) (by kernel_rfl) (fun _ => rfl)).iso (fun p => Col.mk p.1 p.2.1 p.2.2.1 p.2.2.2.1) (fun _ => rfl) fun p h => ⟨Nat.le_trans h.1 (by decide), h.2.2.2.1⟩
theorem openCols : Opens enc Tryz.prog W 108 (fun l : List Col => [.fz (l.map encCol)]) (fun l => l.length ≤ 140737488351232 ∧ ∀ v ∈ l, bCol 1125899906842624 v) :=
  (Opens.slice (s := 6) Tryz.underlying108 openCol (by kernel_rfl) (by decide) (fun _ => rfl)).iso id (fun _ => rfl) fun l h => ⟨Nat.le_trans (Nat.le_mul_of_pos_right _ (of_decide_eq_true (by kernel_rfl))) h.1, h.2⟩
theorem openTable : Opens enc Tryz.prog W 113 encTable (bTable 1125899906842624) :=
  (Opens.struct (s := 6) Tryz.underlying113 (.cons (s := 1) rfl (.str Tryz.underlying9) rfl (fun _ => rfl) (.cons (s := 1) rfl openCols rfl (fun _ => rfl) (.cons (s := 1) rfl openIs rfl (fun _ => rfl) (.cons (s := 1) rfl openUniqs rfl (fun _ => rfl) (.cons (s := 1) rfl openChks rfl (fun _ => rfl) (.cons (s := 1) rfl openFks rfl (fun _ => rfl) .nil)))))) (by kernel_rfl) (fun _ => rfl)).iso (fun p => Table.mk p.1 p.2.1 p.2.2.1 p.2.2.2.1 p.2.2.2.2.1 p.2.2.2.2.2.1) (fun _ => rfl) fun p h => ⟨Nat.le_trans h.1 (by decide), ⟨Nat.le_trans h.2.1.1 (by decide), h.2.1.2⟩, Nat.le_trans h.2.2.1 (by decide), ⟨Nat.le_trans h.2.2.2.1.1 (by decide), h.2.2.2.1.2⟩, ⟨Nat.le_trans h.2.2.2.2.1.1 (by decide), h.2.2.2.2.1.2⟩, ⟨Nat.le_trans h.2.2.2.2.2.1.1 (by decide), h.2.2.2.2.2.1.2⟩⟩
theorem openTables : Opens enc Tryz.prog W 22 (fun l : List Table => [.fz (l.map encTable)]) (fun l => l.length ≤ 140737488351232 ∧ ∀ v ∈ l, bTable 1125899906842624 v) :=
  (Opens.slice (s := 6) Tryz.underlying22 openTable (by kernel_rfl) (by decide) (fun _ => rfl)).iso id (fun _ => rfl) fun l h => ⟨Nat.le_trans (Nat.le_mul_of_pos_right _ (of_decide_eq_true (by kernel_rfl))) h.1, h.2⟩
theorem openTerm : Opens enc Tryz.prog W 291 encTerm (bTerm 1125899906842624) :=
  (Opens.struct (s := 1) Tryz.underlying291 (.cons (s := 1) rfl openToks rfl (fun _ => rfl) .nil) (by kernel_rfl) (fun _ => rfl)).iso (fun p => Term.mk p.1) (fun _ => rfl) fun p h => ⟨Nat.le_trans h.1.1 (by decide), h.1.2⟩
theorem openTerms : Opens enc Tryz.prog W 95 (fun l : List Term => [.fz (l.map encTerm)]) (fun l => l.length ≤ 140737488351232 ∧ ∀ v ∈ l, bTerm 1125899906842624 v) :=
  (Opens.slice (s := 1) Tryz.underlying95 openTerm (by kernel_rfl) (by decide) (fun _ => rfl)).iso id (fun _ => rfl) fun l h => ⟨Nat.le_trans (Nat.le_mul_of_pos_right _ (of_decide_eq_true (by kernel_rfl))) h.1, h.2⟩
theorem openTrigger : Opens enc Tryz.prog W 161 encTrigger (bTrigger 1125899906842624) :=
  (Opens.struct (s := 5) Tryz.underlying161 (.cons (s := 1) rfl (.str Tryz.underlying9) rfl (fun _ => rfl) (.cons (s := 1) rfl (.int Tryz.underlying2) rfl (fun _ => rfl) (.cons (s := 1) rfl openToks rfl (fun _ => rfl) (.cons (s := 1) rfl (.str Tryz.underlying9) rfl (fun _ => rfl) (.cons (s := 1) rfl openTerms rfl (fun _ => rfl) .nil))))) (by kernel_rfl) (fun _ => rfl)).iso (fun p => Trigger.mk p.1 p.2.1 p.2.2.1 p.2.2.2.1 p.2.2.2.2.1) (fun _ => rfl) fun p h => ⟨Nat.le_trans h.1 (by decide), ⟨Nat.le_trans h.2.2.1.1 (by decide), h.2.2.1.2⟩, Nat.le_trans h.2.2.2.1 (by decide), ⟨Nat.le_trans h.2.2.2.2.1.1 (by decide), h.2.2.2.2.1.2⟩⟩
theorem openTriggers : Opens enc Tryz.prog W 54 (fun l : List Trigger => [.fz (l.map encTrigger)]) (fun l => l.length ≤ 140737488351232 ∧ ∀ v ∈ l, bTrigger 1125899906842624 v) :=
  (Opens.slice (s := 5) Tryz.underlying54 openTrigger (by kernel_rfl) (by decide) (fun _ => rfl)).iso id (fun _ => rfl) fun l h => ⟨Nat.le_trans (Nat.le_mul_of_pos_right _ (of_decide_eq_true (by kernel_rfl))) h.1, h.2⟩
end
end Go.Proofs.YtcfpdongfdhgjaaGreat.Am

/- The laws' helpers on types, printed by a program: Data, Line, Save, Session. -/
set_option linter.unusedVariables false
set_option linter.unusedSimpArgs false
namespace Go.Proofs.YtcfpdongfdhgjaaGreat.Am
open Go.RowKit Go.ChangeShapes Go.WideShapes
section
variable {H : Type} {enc : TypeId × Value → H} {W : World}
end
end Go.Proofs.YtcfpdongfdhgjaaGreat.Am

/- The statement of the law FnExactFires: whatever its arguments are, it returns true, leaves what was there as it was, and ends. No condition. -/
namespace Go.Proofs.YtcfpdongfdhgjaaGreat.fnExactFires
open Go.ChangeShapes Go.WideShapes Go.ChangeAt Go.RowKit Go.Proofs.YtcfpdongfdhgjaaGreat.Am
open Go.ChangeMaps (open_string shut_string)
set_option linter.unusedVariables false
theorem own : ownKnob Tryz.prog.godebug = none := by kernel_rfl
theorem laidOut : laidOutB Tryz.prog = true := by kernel_rfl
set_option maxRecDepth 100000 in
theorem lifted (os : Os) (started : os.Started) (H : Type) (enc : TypeId × Value → H) :
    ReturnsInHanded {} Tryz.checked os 5 .any (Rows.fnExactFiresSpec.pre6 enc Tryz.prog Tryz.f5 Rows.fnExactFiresRow.domain false) (Rows.fnExactFiresSpec.post enc Tryz.prog Tryz.f5 false true false false) := by
  refine returnsInHanded_of_change_sized (C := Tryz.checked) own started (by kernel_rfl) Tryz.func5
    (ChangeSpec.witness6 (enc := enc) (C := Tryz.checked) false ⟨#[], #[.slice none 0 0, .slice none 0 0, .int .i64 0, .int .i64 0, .slice none 0 0, .slice none 0 0], []⟩ 8 (by kernel_rfl) (by kernel_rfl) (by kernel_rfl) (by kernel_rfl)) ?_
  intro W base args ds gs before hval0 hW hcnd hsz0 _
  have hval : ∀ (j : Nat) t v, Tryz.f5.params[j]? = some t → args[j]? = some v → Value.okWide Tryz.prog W .any base t v := hval0
  have hW' := hW
  obtain ⟨p, q, hA0, hV, rfl, hfz, hnd⟩ := hW
  have hA : DataW.TrodAll enc Tryz.prog W 0 (fun _ => true) true Tryz.f5.params.toList args.toList ds p := hA0
  rw [Tryz.params5] at hA hval
  have hsz : (DataW.weightsEach Tryz.prog (Tryz.f5.params.toList ++ Rows.fnExactFiresSpec.plain.varTypes Tryz.prog) (ds ++ gs)).all (· ≤ reachBytes) = true := hsz0
  rw [Tryz.params5] at hsz
  obtain ⟨v0, vs0, d0, ds0, p0, q0, hargs, rfl, rfl, h0, r0⟩ := trodAll_cons hA
  obtain ⟨v1, vs1, d1, ds1, p1, q1, rfl, rfl, rfl, h1, r1⟩ := trodAll_cons r0
  obtain ⟨v2, vs2, d2, ds2, p2, q2, rfl, rfl, rfl, h2, r2⟩ := trodAll_cons r1
  obtain ⟨v3, vs3, d3, ds3, p3, q3, rfl, rfl, rfl, h3, r3⟩ := trodAll_cons r2
  obtain ⟨v4, vs4, d4, ds4, p4, q4, rfl, rfl, rfl, h4, r4⟩ := trodAll_cons r3
  obtain ⟨v5, vs5, d5, ds5, p5, q5, rfl, rfl, rfl, h5, r5⟩ := trodAll_cons r4
  obtain ⟨rfl, rfl, rfl⟩ := trodAll_nil r5
  obtain rfl : args = #[v0, v1, v2, v3, v4, v5] := by cases args; simp_all
  obtain ⟨rfl, rfl⟩ := trodVars_none hV
  obtain ⟨a0, g0, e0⟩ := Opens.c openTables (cells_slice Tryz.underlying22 (hval 0 22 v0 rfl rfl)) h0 (fun n hn => of_decide_eq_true (List.all_eq_true.1 hsz _ (DataW.weights_mem_each (j := 0) (t := 22) rfl rfl n hn)))
  have k0 := h0
  have lt0 : ∀ x ∈ p0, x.block < W.heap.size := by obtain ⟨m, hm⟩ := k0; exact DataW.trod_lt m _ _ _ hm
  obtain ⟨a1, g1, e1⟩ := Opens.c openTriggers (cells_slice Tryz.underlying54 (hval 1 54 v1 rfl rfl)) h1 (fun n hn => of_decide_eq_true (List.all_eq_true.1 hsz _ (DataW.weights_mem_each (j := 1) (t := 54) rfl rfl n hn)))
  have k1 := h1
  have lt1 : ∀ x ∈ p1, x.block < W.heap.size := by obtain ⟨m, hm⟩ := k1; exact DataW.trod_lt m _ _ _ hm
  obtain ⟨a2, g2, e2⟩ := Opens.c (Opens.int Tryz.underlying2) (cells_int Tryz.underlying2 (hval 2 2 v2 rfl rfl)) h2 (fun n hn => of_decide_eq_true (List.all_eq_true.1 hsz _ (DataW.weights_mem_each (j := 2) (t := 2) rfl rfl n hn)))
  have k2 := h2
  have lt2 : ∀ x ∈ p2, x.block < W.heap.size := by obtain ⟨m, hm⟩ := k2; exact DataW.trod_lt m _ _ _ hm
  obtain ⟨a3, g3, e3⟩ := Opens.c (Opens.int Tryz.underlying2) (cells_int Tryz.underlying2 (hval 3 2 v3 rfl rfl)) h3 (fun n hn => of_decide_eq_true (List.all_eq_true.1 hsz _ (DataW.weights_mem_each (j := 3) (t := 2) rfl rfl n hn)))
  have k3 := h3
  have lt3 : ∀ x ∈ p3, x.block < W.heap.size := by obtain ⟨m, hm⟩ := k3; exact DataW.trod_lt m _ _ _ hm
  obtain ⟨a4, g4, e4⟩ := Opens.c openVs (cells_slice Tryz.underlying55 (hval 4 55 v4 rfl rfl)) h4 (fun n hn => of_decide_eq_true (List.all_eq_true.1 hsz _ (DataW.weights_mem_each (j := 4) (t := 55) rfl rfl n hn)))
  have k4 := h4
  have lt4 : ∀ x ∈ p4, x.block < W.heap.size := by obtain ⟨m, hm⟩ := k4; exact DataW.trod_lt m _ _ _ hm
  obtain ⟨a5, g5, e5⟩ := Opens.c openVs (cells_slice Tryz.underlying55 (hval 5 55 v5 rfl rfl)) h5 (fun n hn => of_decide_eq_true (List.all_eq_true.1 hsz _ (DataW.weights_mem_each (j := 5) (t := 55) rfl rfl n hn)))
  have k5 := h5
  have lt5 : ∀ x ∈ p5, x.block < W.heap.size := by obtain ⟨m, hm⟩ := k5; exact DataW.trod_lt m _ _ _ hm
  clear hA0 hval0 hsz0 hsz
  refine ((Fires_sound a0 a1 a2 a3 a4 a5 (Nat.le_trans g0.1 (by decide)) g0.2 (Nat.le_trans g1.1 (by decide)) g1.2 (Nat.le_trans g4.1 (by decide)) g4.2 (Nat.le_trans g5.1 (by decide)) g5.2).calls (W := W) ⟨rfl, fun i hi => ?_⟩).mono fun e W' ⟨he, bel⟩ => ?_
  · match i, hi with
    | 0, _ => exact e0
    | 1, _ => exact e1
    | 2, _ => exact e2
    | 3, _ => exact e3
    | 4, _ => exact e4
    | 5, _ => exact e5
  subst he
  exact ⟨_, rfl, _, _, _, [], _, [], hW', trodAll_mk1 (shut_bool Tryz.underlying4 _), (trodAll_cons_mk (Below.trod laidOut (by kernel_rfl) (of_decide_eq_true (by kernel_rfl)) k0 bel lt0) (trodAll_cons_mk (Below.trod laidOut (by kernel_rfl) (of_decide_eq_true (by kernel_rfl)) k1 bel lt1) (trodAll_cons_mk (Below.trod laidOut (by kernel_rfl) (of_decide_eq_true (by kernel_rfl)) k2 bel lt2) (trodAll_cons_mk (Below.trod laidOut (by kernel_rfl) (of_decide_eq_true (by kernel_rfl)) k3 bel lt3) (trodAll_cons_mk (Below.trod laidOut (by kernel_rfl) (of_decide_eq_true (by kernel_rfl)) k4 bel lt4) (trodAll_cons_mk (Below.trod laidOut (by kernel_rfl) (of_decide_eq_true (by kernel_rfl)) k5 bel lt5) trodAll_mk0)))))), rfl, bel.frame _, fun h => by cases h⟩
theorem spl {a b : Bool} (h : (a && b) = true) : a = true ∧ b = true := by cases a <;> cases b <;> simp_all
theorem and2 {a b : Bool} (h : a = true) (k : b = true) : (a && b) = true := by rw [h, k]; rfl
theorem facts0 : (Rows.fnExactFiresRow.wf (OpenSpec.ofChange Rows.fnExactFiresSpec) && laidOutB Tryz.pinned.checked.prog && mapsRowed Tryz.pinned.checked.prog && Tryz.f5.params.all (Tryz.pinned.checked.prog.readableRec ·) && namedTie Tryz.pinned.checked.prog Rows.fnExactFiresRow.named Rows.fnExactFiresSpec.vars && (Rows.fnExactFiresRow.stops == []) && (Tryz.pinned.checked.prog.stops == []) && (Rows.fnExactFiresRow.knobs == []) && (Tryz.pinned.checked.prog.stopKnobs == [])) = true := by kernel_rfl
theorem facts1 : ((Rows.fnExactFiresRow.inPlace == Tryz.pinned.checked.prog.inPlace 5) && (Rows.fnExactFiresRow.unfollowed == Tryz.pinned.checked.prog.unfollowed 5) && (Rows.fnExactFiresRow.recurses == Tryz.pinned.checked.prog.recurses 5) && (Rows.fnExactFiresRow.named == Tryz.pinned.checked.prog.varsNamed 5)) = true := by kernel_rfl
theorem facts2 : ((Rows.fnExactFiresRow.maps == (Tryz.f5.params.toList ++ Rows.fnExactFiresSpec.plain.varTypes Tryz.pinned.checked.prog).any (Tryz.pinned.checked.prog.mapsRec ·)) && (Rows.fnExactFiresRow.ifaces == (Tryz.f5.params.toList ++ Rows.fnExactFiresSpec.plain.varTypes Tryz.pinned.checked.prog).any (Tryz.pinned.checked.prog.ifacesRec ·)) && (Rows.fnExactFiresRow.mapsOut == Tryz.pinned.checked.prog.mapsAmong Tryz.f5.resultTypes.toList) && (Rows.fnExactFiresRow.loops == (Tryz.f5.params.toList ++ Rows.fnExactFiresSpec.plain.varTypes Tryz.pinned.checked.prog).any (Tryz.pinned.checked.prog.loopsFrom ·)) && (Rows.fnExactFiresRow.wideKeys == (Tryz.f5.params.toList ++ Rows.fnExactFiresSpec.plain.varTypes Tryz.pinned.checked.prog ++ Tryz.f5.resultTypes.toList).any (Tryz.pinned.checked.prog.wideKeysFrom ·)) && Rows.fnExactFiresSpec.vars.all (Tryz.pinned.checked.prog.varReadable ·)) = true := by kernel_rfl
theorem facts3 : (Tryz.f5.resultTypes.all (fun t => Tryz.pinned.checked.prog.readableRec t && decide (t < Tryz.pinned.checked.prog.types.size)) && (Rows.fnExactFiresRow.ifacesOut == Tryz.f5.resultTypes.toList.any (Tryz.pinned.checked.prog.ifacesRec ·)) && (Rows.fnExactFiresRow.loopsOut == Tryz.f5.resultTypes.toList.any (Tryz.pinned.checked.prog.loopsFrom ·)) && (Rows.fnExactFiresRow.plainKeys == Tryz.pinned.checked.prog.plainKeys) && Rows.fnExactFiresRow.shortTexts.isNone && (Tryz.pinned.checked.prog.make == some Rows.fnExactFiresRow.make) && (Rows.fnExactFiresRow.kinds == (if Rows.fnExactFiresRow.domain.isEmpty then [] else Tryz.f5.params.toList.map fun t => match Tryz.pinned.checked.prog.underlying t with | some (.int k) => some k | _ => none)) && (Rows.fnExactFiresRow.pinned == Rows.fnExactFiresRow.pinnedBy) && (Rows.fnExactFiresRow.veiled == (Tryz.f5.params.toList ++ Rows.fnExactFiresSpec.plain.varTypes Tryz.pinned.checked.prog ++ Tryz.f5.resultTypes.toList).any (Tryz.pinned.checked.prog.veiledRec ·)) && Rows.fnExactFiresRow.veiledFits Tryz.pinned.checked.prog Tryz.f5.params.toList (Tryz.f5.params.toList ++ Rows.fnExactFiresSpec.plain.varTypes Tryz.pinned.checked.prog ++ Tryz.f5.resultTypes.toList)) = true := by kernel_rfl
theorem facts4 : (Tryz.pinned.checked.prog.stopsHeard && Tryz.pinned.checked.prog.mayEnter && (Rows.fnExactFiresRow.lifted == Tryz.pinned.checked.prog.liftsFinal)) = true := by kernel_rfl
set_option maxRecDepth 100000 in
theorem closed : joinedFacts Tryz.pinned.checked.prog 5 Tryz.f5 Rows.fnExactFiresSpec Rows.fnExactFiresRow = true := by
  have g := facts0
  obtain ⟨g, p8⟩ := spl g
  obtain ⟨g, p7⟩ := spl g
  obtain ⟨g, p6⟩ := spl g
  obtain ⟨g, p5⟩ := spl g
  obtain ⟨g, p4⟩ := spl g
  obtain ⟨g, p3⟩ := spl g
  obtain ⟨g, p2⟩ := spl g
  obtain ⟨g, p1⟩ := spl g
  have p0 := g
  have g := facts1
  obtain ⟨g, p12⟩ := spl g
  obtain ⟨g, p11⟩ := spl g
  obtain ⟨g, p10⟩ := spl g
  have p9 := g
  have g := facts2
  obtain ⟨g, p18⟩ := spl g
  obtain ⟨g, p17⟩ := spl g
  obtain ⟨g, p16⟩ := spl g
  obtain ⟨g, p15⟩ := spl g
  obtain ⟨g, p14⟩ := spl g
  have p13 := g
  have g := facts3
  obtain ⟨g, p31⟩ := spl g
  obtain ⟨g, p30⟩ := spl g
  obtain ⟨g, p29⟩ := spl g
  obtain ⟨g, p28⟩ := spl g
  obtain ⟨g, p27⟩ := spl g
  obtain ⟨g, p23⟩ := spl g
  obtain ⟨g, p22⟩ := spl g
  obtain ⟨g, p21⟩ := spl g
  obtain ⟨g, p20⟩ := spl g
  have p19 := g
  have g := facts4
  obtain ⟨g, p26⟩ := spl g
  obtain ⟨g, p25⟩ := spl g
  have p24 := g
  exact (and2 (and2 (and2 (and2 (and2 (and2 (and2 (and2 (and2 (and2 (and2 (and2 (and2 (and2 (and2 (and2 (and2 (and2 (and2 (and2 (and2 (and2 (and2 (and2 (and2 (and2 (and2 (and2 (and2 (and2 (and2 p0 p1) p2) p3) p4) p5) p6) p7) p8) p9) p10) p11) p12) p13) p14) p15) p16) p17) p18) p19) p20) p21) p22) p23) p24) p25) p26) p27) p28) p29) p30) p31)
theorem over : Rows.fnExactFiresRow.holds Tryz.pinned (OpenSpec.ofChange Rows.fnExactFiresSpec) :=
  OpenClaim.holds_of_wide 5 Tryz.f5 rfl rfl rfl rfl rfl rfl rfl ⟨rfl, rfl, rfl, rfl, rfl⟩ rfl rfl rfl rfl rfl (by kernel_rfl) Tryz.func5 closed
    (of_decide_eq_true (by kernel_rfl)) (by unfold Func.isWrapper; first | (rw [if_pos (by decide +kernel)]; kernel_rfl) | (rw [if_neg (by decide +kernel)]; exact ⟨rfl, rfl⟩))
    (fun os started H enc _ => lifted os started H enc)
theorem proved : Rows.FnExactFiresSaid := over
end Go.Proofs.YtcfpdongfdhgjaaGreat.fnExactFires
namespace Go.Proofs.YtcfpdongfdhgjaaGreat
/-- The row, under a short name, for the claim. -/
theorem fnExactFires_holds : Rows.FnExactFiresSaid := fnExactFires.proved
#print axioms fnExactFires_holds
end Go.Proofs.YtcfpdongfdhgjaaGreat
