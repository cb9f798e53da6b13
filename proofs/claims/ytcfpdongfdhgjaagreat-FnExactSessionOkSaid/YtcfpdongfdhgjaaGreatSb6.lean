/- The statement of the law FnExactSessionOk: whatever its arguments are, it returns true, leaves what was there as it was, and ends. No condition. -/
import Derived.OpenShut
import Derived.Below
import Derived.Carry
import Derived.SizedLaws
import Derived.ChangeArms
import Derived.DataReads
import Derived.KernelRfl
import Derived.Test.YtcfpdongfdhgjaaGreatRows
import Derived.WalkKit
import Derived.ProofKit
import Derived.ShutString
import Derived.ChangeOld
import Derived.Test.YtcfpdongfdhgjaaGreatSb1
import Derived.Test.YtcfpdongfdhgjaaGreatSb2
import Derived.Test.YtcfpdongfdhgjaaGreatSb3
import Derived.Test.YtcfpdongfdhgjaaGreatSb4
import Derived.Test.YtcfpdongfdhgjaaGreatSb5
/- Rivals: rows with the same key. -/
set_option linter.unusedVariables false
set_option linter.unusedSimpArgs false
namespace Go.Proofs.YtcfpdongfdhgjaaGreat.Am

def encIs (cols : List Int) : List Ce := [.fz (cols.map encI)]
theorem old_encIs (n : Nat) (cols : List Int) : ∀ x ∈ encIs cols, Old n x := fun x hx => by
  rw [encIs, List.mem_singleton] at hx
  subst hx
  refine .fz _ fun i j hi hj => ?_
  exact ((flatIs _ (List.getElem_mem hi)).2 _ (List.getElem_mem hj)).old n
theorem frz_old {σ : Store} {l : List (Nat × List (List Ce))} {k v N : Nat} {ys junk : List (List Ce)} (hl : l[k]? = some (v, ys ++ junk)) (ho : ∀ e ∈ ys, ∀ x ∈ e, Old N x) (hN : N ≤ σ.next + k) : FrzV (E σ l) N (.c (vec (σ.next + k) v ys junk)) (.c (.fz ys)) := by
  refine .c (.sl _ _ _ _ _ (ys ++ junk) ys hN (by rw [E_at]; exact hl) (by simp) rfl (fun i hi => ?_) (fun i j hi hj => ?_))
  · simp only [Nat.zero_add]
    rw [List.getElem_append_left hi]
  · have e : (ys ++ junk)[0 + i]'(by simp; omega) = ys[i] := by
      simp only [Nat.zero_add]
      rw [List.getElem_append_left hi]
    simp only [e]
    exact .same _ (ho _ (List.getElem_mem _) _ (List.getElem_mem hj))
def rival (vals : List Val) (r : RowD) (cols : List Int) : Bool := wholeF cols vals && hasB cols (keyF cols vals) r.vals
def keysOf (t : Table) : List (List Int) := t.key :: t.uniques.map (·.cols)
def rivalsF (rows : List RowD) (keys : List (List Int)) (id : Int) (vals : List Val) : List Int := (rows.filter fun r => !(r.id == id) && keys.any (rival vals r)).map (·.id)
theorem rivalsF_take {rows : List RowD} {keys : List (List Int)} {id : Int} {vals : List Val} {i : Nat} (h : i < rows.length) : rivalsF (rows.take (i + 1)) keys id vals = rivalsF (rows.take i) keys id vals ++ if !(rows[i].id == id) && keys.any (rival vals rows[i]) then [rows[i].id] else [] := by
  rw [rivalsF, List.take_succ_eq_append_getElem h, List.filter_append, List.map_append, rivalsF]
  congr 1
  rw [List.filter_cons, List.filter_nil]
  split <;> rfl
theorem rivalsF_len {rows : List RowD} {keys : List (List Int)} {id : Int} {vals : List Val} : (rivalsF rows keys id vals).length ≤ rows.length := by rw [rivalsF, List.length_map]; exact List.length_filter_le _ _
theorem rivals1_ok (cols : List Int) (vals : List Val) (r : RowD) (hx : cols.length ≤ 34359738368) (h1 : InR cols vals.length) (h2 : InR cols r.vals.length) : Pure Tryz.prog 344 [.c (.fz (cols.map encI)), .c (.fp [.fz (vals.map encV)]), .c (.fp (encRowD r))] (.c (.bool (rival vals r cols))) := by
  refine Pure.run mixed c_impl_rivals_1_ok (Nat.le_of_ble_eq_true rfl) fun σ hS hA => ?_
  clear hS hA
  have c1 := keyOf_ok cols vals hx h1
  have c2 := has_ok cols r.vals (keyF cols vals) hx h2
  rw [rival]
  generalize keyF cols vals = ks at c1 c2 ⊢
  generalize hasB cols ks r.vals = b at c2 ⊢
  cases hw : wholeF cols vals
  · rw [hw] at c1
    repeat' first | (apply Go.adm; exact rfl) | apply Go.qs | apply Qg.nil | ((first | apply Go.v2 | apply Go.v1); (first | exact leAdd | assumption); iterate 6 exact rfl) | ((first | apply Go.op | apply Go.sop | apply Qg.op); exact rfl; (first | exact aop_alloc | exact aop_new rfl rfl | exact aop_mksl rfl | exact aop_lenM rfl | exact rfl | exact aL rfl rfl rfl rfl rfl | exact aS rfl rfl rfl rfl rfl rfl rfl)) | ((first | apply Go.no | apply Go.sno | apply Qg.no); exact rfl) | ((first | apply Go.pcall | apply Go.spcall | apply Qg.pcall); (iterate 3 exact rfl); exact c1) | (exfalso; omega) | (((first | apply Go.iQ | apply Go.gQ | apply Go.sQ | apply Qg.gQ); exact rfl; (first | exact .d | exact .e | exact .n | ((fail_if_success exact bqt); (fail_if_success exact bqf); exact .b))) <;> intro _)
    exact .ret rfl (.bool rfl)
  · rw [hw] at c1
    repeat' first | (apply Go.adm; exact rfl) | apply Go.qs | apply Qg.nil | ((first | apply Go.v2 | apply Go.v1); (first | exact leAdd | assumption); iterate 6 exact rfl) | ((first | apply Go.op | apply Go.sop | apply Qg.op); exact rfl; (first | exact aop_alloc | exact aop_new rfl rfl | exact aop_mksl rfl | exact aop_lenM rfl | exact rfl | exact aL rfl rfl rfl rfl rfl | exact aS rfl rfl rfl rfl rfl rfl rfl)) | ((first | apply Go.no | apply Go.sno | apply Qg.no); exact rfl) | ((first | apply Go.pcall | apply Go.spcall | apply Qg.pcall); (iterate 3 exact rfl); (first | exact c1 | exact c2)) | (exfalso; omega) | (((first | apply Go.iQ | apply Go.gQ | apply Go.sQ | apply Qg.gQ); exact rfl; (first | exact .d | exact .e | exact .n | ((fail_if_success exact bqt); (fail_if_success exact bqf); exact .b))) <;> intro _)
    exact .ret rfl (.bool rfl)
theorem rivals_ok (t : Table) (rows : List RowD) (id : Int) (vals : List Val) (hr : rows.length ≤ 1048576) (hu : t.uniques.length ≤ 3) (hx : ∀ k ∈ keysOf t, k.length ≤ 34359738368) (hv : ∀ k ∈ keysOf t, InR k vals.length) (hi : ∀ k ∈ keysOf t, ∀ r ∈ rows, InR k r.vals.length) :
    Pure Tryz.prog 299 [.agg (encTable t), .c (.fz (rows.map encRowD)), .c (.int .i64 id), .c (.fz (vals.map encV))] (.c (.fz ((rivalsF rows (keysOf t) id vals).map encI))) := by
  refine Pure.run mixed c_impl_rivals_ok (Nat.le_of_ble_eq_true rfl) fun σ hS hA => ?_
  clear hS hA
  repeat' first | (apply Go.adm; exact rfl) | apply Go.qs | apply Qg.nil | ((first | apply Go.v2 | apply Go.v1); (first | exact leAdd | assumption); iterate 6 exact rfl) | ((first | apply Go.op | apply Go.sop | apply Qg.op); exact rfl; (first | exact aop_alloc | exact aop_new rfl rfl | exact aop_mksl rfl | exact aop_lenM rfl | exact rfl | exact aL rfl rfl rfl rfl rfl | exact aS rfl rfl rfl rfl rfl rfl rfl)) | ((first | apply Go.no | apply Go.sno | apply Qg.no); exact rfl) | (exfalso; omega) | (((first | apply Go.iQ | apply Go.gQ | apply Go.sQ | apply Qg.gQ); exact rfl; (first | exact .d | exact .e | exact .n | ((fail_if_success exact bqt); (fail_if_success exact bqf); exact .b))) <;> intro _)
  refine Go.keep [1, 2, 7, 9, 10, 20, 21, 22] (Go.loops (I := fun m fr τ => ∃ (i : Nat) (k : Int) (v : Nat) (junk : List (List Ce)), m = t.uniques.length - i ∧ i ≤ t.uniques.length ∧ k = i ∧ Jk 1 junk ∧
    fr = [(1, .c (.fz (rows.map encRowD))), (2, .c (.int .i64 id)), (7, .c (.fp [.fz (vals.map encV)])), (9, .c (vec (σ.next + 0) 0 [] [])), (10, .c (vec (σ.next + 1) v ((t.key :: (t.uniques.take i).map (·.cols)).map encIs) junk)), (20, .c (.fz (t.uniques.map encUniq))), (21, .c (.int .i64 (t.uniques.length : Int))), (22, .c (.int .i64 k))] ∧
    τ = E σ [(0, []), (v, (t.key :: (t.uniques.take i).map (·.cols)).map encIs ++ junk)]) ?_ _ _ _ ⟨0, _, 0, [], rfl, Nat.zero_le _, rfl, Jk.nil, rfl, rfl⟩)
  rintro m fr τ ⟨i, k, v, junk, rfl, hile, hk, hj, rfl, rfl⟩ hrec
  by_cases hlt : i < t.uniques.length
  · have hn1 : ∀ e ∈ (t.key :: (t.uniques.take i).map (·.cols)).map encIs, e.length = 1 := fun e he => by
      obtain ⟨a, _, rfl⟩ := List.mem_map.1 he
      rfl
    have hbd : (((t.key :: (t.uniques.take i).map (·.cols)).map encIs).length + 1) * 24 ≤ 140737488355328 := by simp; omega
    have e1 : (t.key :: (t.uniques.take (i + 1)).map (·.cols)).map encIs = (t.key :: (t.uniques.take i).map (·.cols)).map encIs ++ [encIs t.uniques[i].cols] := by
      rw [List.take_succ_eq_append_getElem hlt, List.map_append, ← List.cons_append, List.map_append]; rfl
    repeat' first | (apply Go.adm; exact rfl) | apply Go.qs | apply Qg.nil | ((first | apply Go.v2 | apply Go.v1); (first | exact leAdd | assumption); iterate 6 exact rfl) | ((first | apply Go.op | apply Go.sop | apply Qg.op); exact rfl; (first | exact aop_alloc | exact aop_new rfl rfl | exact aop_mksl rfl | exact aop_lenM rfl | exact rfl | exact aL rfl rfl rfl rfl rfl | exact aS rfl rfl rfl rfl rfl rfl rfl | exact aop_iaddrM (enc := encUniq) rfl rfl hk hlt rfl)) | ((first | apply Go.no | apply Go.sno | apply Qg.no); exact rfl) | (apply Go.app1 (k := 1); exact rfl; exact rfl; exact rfl; exact rfl; exact rfl; exact hn1; exact hj; exact rfl; exact hbd; intro v' junk' hj') | (exfalso; omega) | (((first | apply Go.iQ | apply Go.gQ | apply Go.sQ | apply Qg.gQ); exact rfl; (first | exact .d | exact .e | exact .n | ((fail_if_success exact bqt); (fail_if_success exact bqf); exact .b))) <;> intro _)
    refine Go.keep [1, 2, 7, 9, 10, 20, 21, 22] (hrec _ _ _ (by omega) ⟨i + 1, _, v', junk', rfl, hlt, wrap_succ hk (by omega), hj', ?_, ?_⟩)
    · rw [e1]; rfl
    · rw [e1]; rfl
  · rw [List.take_of_length_le (by omega)]
    rw [← keysOf]
    clear hrec
    repeat' first | (apply Go.adm; exact rfl) | apply Go.qs | apply Qg.nil | ((first | apply Go.v2 | apply Go.v1); (first | exact leAdd | assumption); iterate 6 exact rfl) | ((first | apply Go.op | apply Go.sop | apply Qg.op); exact rfl; (first | exact aop_alloc | exact aop_new rfl rfl | exact aop_mksl rfl | exact aop_lenM rfl | exact rfl | exact aL rfl rfl rfl rfl rfl | exact aS rfl rfl rfl rfl rfl rfl rfl)) | ((first | apply Go.no | apply Go.sno | apply Qg.no); exact rfl) | (exfalso; omega) | (((first | apply Go.iQ | apply Go.gQ | apply Go.sQ | apply Qg.gQ); exact rfl; (first | exact .d | exact .e | exact .n | ((fail_if_success exact bqt); (fail_if_success exact bqf); exact .b))) <;> intro _)
    refine Go.keep [2, 7, 9, 10, 32, 33, 34] (Go.loops (I := fun m fr τ => ∃ (i : Nat) (k : Int) (w : Nat) (junkw : List (List Ce)) (ids : List Int), m = rows.length - i ∧ i ≤ rows.length ∧ k = i ∧ Jk 1 junkw ∧ ids = rivalsF (rows.take i) (keysOf t) id vals ∧
      fr = [(2, .c (.int .i64 id)), (7, .c (.fp [.fz (vals.map encV)])), (9, .c (vec (σ.next + 0) w (ids.map encI) junkw)), (10, .c (vec (σ.next + 1) v ((keysOf t).map encIs) junk)), (32, .c (.fz (rows.map encRowD))), (33, .c (.int .i64 (rows.length : Int))), (34, .c (.int .i64 k))] ∧
      τ = E σ [(w, ids.map encI ++ junkw), (v, (keysOf t).map encIs ++ junk)]) ?_ _ _ _ ⟨0, _, 0, [], [], rfl, Nat.zero_le _, rfl, Jk.nil, rfl, rfl, rfl⟩)
    rintro m fr τ ⟨i, k, w, junkw, ids, rfl, hile, hk, hjw, hids, rfl, rfl⟩ hrec
    by_cases hlt : i < rows.length
    · have cc := containsFuncA_ok mixed c_slices_ContainsFunc_int64_int64'_ok c_slices_IndexFunc_int64_int64'_ok encIs (fun u => .c (.fz (u.map encI))) (fun _ => rfl) (fun _ => rfl) (keysOf t) (rival vals rows[i]) 344 [] [.fp [.fz (vals.map encV)], .fp (encRowD rows[i])] (by simp [keysOf]; omega) (fun j hj _ => rivals1_ok _ vals rows[i] (hx _ (List.getElem_mem hj)) (hv _ (List.getElem_mem hj)) (hi _ (List.getElem_mem hj) _ (List.getElem_mem hlt)))
      have hn := rivalsF_take (keys := keysOf t) (id := id) (vals := vals) hlt
      rw [← hids] at hn
      have hl : (ids.map encI).length ≤ 1048576 := by rw [List.length_map, hids]; have := rivalsF_len (rows := rows.take i) (keys := keysOf t) (id := id) (vals := vals); rw [List.length_take] at this; omega
      have hbd : ((ids.map encI).length + 1) * 8 ≤ 140737488355328 := by omega
      have hz1 : ∀ e ∈ ids.map encI, e.length = 1 := fun e he => (flatIs e he).1
      have e1 : ids.map encI ++ [encI rows[i].id] = (ids ++ [rows[i].id]).map encI := by simp
      have hfz : FrzV (E σ [(w, ids.map encI ++ junkw), (v, (keysOf t).map encIs ++ junk)]) 0 (.c (vec (σ.next + 1) v ((keysOf t).map encIs) junk)) (.c (.fz ((keysOf t).map encIs))) := frz_old (k := 1) rfl (fun e he x hx => by obtain ⟨a, _, rfl⟩ := List.mem_map.1 he; exact old_encIs 0 a x hx) (Nat.zero_le _)
      generalize (keysOf t).any (rival vals rows[i]) = b at cc hn
      clear hi hv hx
      by_cases h0 : rows[i].id = id
      · rw [beq_iff_eq.2 h0, Bool.not_true, Bool.false_and, if_neg Bool.false_ne_true, List.append_nil] at hn
        repeat' first | (apply Go.adm; exact rfl) | apply Go.qs | apply Qg.nil | ((first | apply Go.v2 | apply Go.v1); (first | exact leAdd | assumption); iterate 6 exact rfl) | ((first | apply Go.op | apply Go.sop | apply Qg.op); exact rfl; (first | exact aop_alloc | exact aop_new rfl rfl | exact aop_mksl rfl | exact aop_lenM rfl | exact rfl | exact aL rfl rfl rfl rfl rfl | exact aS rfl rfl rfl rfl rfl rfl rfl | exact aop_iaddrM (enc := encRowD) rfl rfl hk hlt rfl)) | ((first | apply Go.no | apply Go.sno | apply Qg.no); exact rfl) | (exfalso; omega) | (((first | apply Go.iQ | apply Go.gQ | apply Go.sQ | apply Qg.gQ); exact rfl; (first | exact .d | exact .e | exact .n | ((fail_if_success exact bqt); (fail_if_success exact bqf); exact .b))) <;> intro _)
        all_goals first
          | exact Go.keep [2, 7, 9, 10, 32, 33, 34] (hrec _ _ _ (by omega) ⟨i + 1, _, w, junkw, ids, rfl, hlt, wrap_succ hk (by omega), hjw, hn.symm, rfl, rfl⟩)
          | (exfalso; simp_all; done)
      · rw [beq_eq_false_iff_ne.2 h0, Bool.not_false, Bool.true_and] at hn
        cases b
        · rw [if_neg Bool.false_ne_true, List.append_nil] at hn
          repeat' first | (apply Go.adm; exact rfl) | apply Go.qs | apply Qg.nil | ((first | apply Go.v2 | apply Go.v1); (first | exact leAdd | assumption); iterate 6 exact rfl) | ((first | apply Go.op | apply Go.sop | apply Qg.op); exact rfl; (first | exact aop_alloc | exact aop_new rfl rfl | exact aop_mksl rfl | exact aop_lenM rfl | exact rfl | exact aL rfl rfl rfl rfl rfl | exact aS rfl rfl rfl rfl rfl rfl rfl | exact aop_iaddrM (enc := encRowD) rfl rfl hk hlt rfl)) | ((first | apply Go.no | apply Go.sno | apply Qg.no); exact rfl) | (exfalso; omega) | (((first | apply Go.iQ | apply Go.gQ | apply Go.sQ | apply Qg.gQ); exact rfl; (first | exact .d | exact .e | exact .n | ((fail_if_success exact bqt); (fail_if_success exact bqf); exact .b))) <;> intro _)
          refine Go.lcall rfl rfl rfl cc (.bool _) (.own hfz (.same .nil)) ?_
          repeat' first | (apply Go.adm; exact rfl) | apply Go.qs | apply Qg.nil | ((first | apply Go.v2 | apply Go.v1); (first | exact leAdd | assumption); iterate 6 exact rfl) | ((first | apply Go.op | apply Go.sop | apply Qg.op); exact rfl; (first | exact aop_alloc | exact aop_new rfl rfl | exact aop_mksl rfl | exact aop_lenM rfl | exact rfl | exact aL rfl rfl rfl rfl rfl | exact aS rfl rfl rfl rfl rfl rfl rfl)) | ((first | apply Go.no | apply Go.sno | apply Qg.no); exact rfl) | (exfalso; omega) | (((first | apply Go.iQ | apply Go.gQ | apply Go.sQ | apply Qg.gQ); exact rfl; (first | exact .d | exact .e | exact .n | ((fail_if_success exact bqt); (fail_if_success exact bqf); exact .b))) <;> intro _)
          exact Go.keep [2, 7, 9, 10, 32, 33, 34] (hrec _ _ _ (by omega) ⟨i + 1, _, w, junkw, ids, rfl, hlt, wrap_succ hk (by omega), hjw, hn.symm, rfl, rfl⟩)
        · rw [if_pos rfl] at hn
          repeat' first | (apply Go.adm; exact rfl) | apply Go.qs | apply Qg.nil | ((first | apply Go.v2 | apply Go.v1); (first | exact leAdd | assumption); iterate 6 exact rfl) | ((first | apply Go.op | apply Go.sop | apply Qg.op); exact rfl; (first | exact aop_alloc | exact aop_new rfl rfl | exact aop_mksl rfl | exact aop_lenM rfl | exact rfl | exact aL rfl rfl rfl rfl rfl | exact aS rfl rfl rfl rfl rfl rfl rfl | exact aop_iaddrM (enc := encRowD) rfl rfl hk hlt rfl)) | ((first | apply Go.no | apply Go.sno | apply Qg.no); exact rfl) | (exfalso; omega) | (((first | apply Go.iQ | apply Go.gQ | apply Go.sQ | apply Qg.gQ); exact rfl; (first | exact .d | exact .e | exact .n | ((fail_if_success exact bqt); (fail_if_success exact bqf); exact .b))) <;> intro _)
          refine Go.lcall rfl rfl rfl cc (.bool _) (.own hfz (.same .nil)) ?_
          repeat' first | (apply Go.adm; exact rfl) | apply Go.qs | apply Qg.nil | ((first | apply Go.v2 | apply Go.v1); (first | exact leAdd | assumption); iterate 6 exact rfl) | ((first | apply Go.op | apply Go.sop | apply Qg.op); exact rfl; (first | exact aop_alloc | exact aop_new rfl rfl | exact aop_mksl rfl | exact aop_lenM rfl | exact rfl | exact aL rfl rfl rfl rfl rfl | exact aS rfl rfl rfl rfl rfl rfl rfl)) | ((first | apply Go.no | apply Go.sno | apply Qg.no); exact rfl) | (apply Go.app1 (k := 0); exact rfl; exact rfl; exact rfl; exact rfl; exact rfl; exact hz1; exact hjw; exact rfl; exact hbd; intro v' junk' hj') | (exfalso; omega) | (((first | apply Go.iQ | apply Go.gQ | apply Go.sQ | apply Qg.gQ); exact rfl; (first | exact .d | exact .e | exact .n | ((fail_if_success exact bqt); (fail_if_success exact bqf); exact .b))) <;> intro _)
          refine Go.keep [2, 7, 9, 10, 32, 33, 34] (hrec _ _ _ (by omega) ⟨i + 1, _, v', junk', ids ++ [rows[i].id], rfl, hlt, wrap_succ hk (by omega), hj', hn.symm, ?_, ?_⟩)
          · rw [← e1]; rfl
          · rw [← e1]; rfl
    · repeat' first | (apply Go.adm; exact rfl) | apply Go.qs | apply Qg.nil | ((first | apply Go.v2 | apply Go.v1); (first | exact leAdd | assumption); iterate 6 exact rfl) | ((first | apply Go.op | apply Go.sop | apply Qg.op); exact rfl; (first | exact aop_alloc | exact aop_new rfl rfl | exact aop_mksl rfl | exact aop_lenM rfl | exact rfl | exact aL rfl rfl rfl rfl rfl | exact aS rfl rfl rfl rfl rfl rfl rfl)) | ((first | apply Go.no | apply Go.sno | apply Qg.no); exact rfl) | (exfalso; omega) | (((first | apply Go.iQ | apply Go.gQ | apply Go.sQ | apply Qg.gQ); exact rfl; (first | exact .d | exact .e | exact .n | ((fail_if_success exact bqt); (fail_if_success exact bqf); exact .b))) <;> intro _)
      rw [List.take_of_length_le (by omega)] at hids
      rw [← hids]
      exact .ret rfl ⟨_, rfl, frz_old (k := 0) rfl (fun e he x hx => ((flatIs e he).2 x hx).old _) (Nat.le_refl _)⟩
def twiceF (rows : List RowD) (r : RowD) (cols : List Int) : Bool := wholeF cols r.vals && (foundF rows cols (keyF cols r.vals)).any fun id => !(id == r.id)
theorem l5Twice_ok (d : Data) (cols : List Int) (r : RowD) (hr : d.rows.length ≤ 1048576) (hx : cols.length ≤ 34359738368) (hv : InR cols r.vals.length) (hi : ∀ q ∈ d.rows, InR cols q.vals.length) : Pure Tryz.prog 340 [.agg (encData d), .c (.fz (cols.map encI)), .agg (encRowD r)] (.c (.bool (twiceF d.rows r cols))) := by
  refine Pure.run mixed c_spec_l5Twice_ok (Nat.le_of_ble_eq_true rfl) fun σ hS hA => ?_
  clear hS hA
  have c1 := l4Key_ok cols r.vals hx hv
  have c2 := l4Find_ok d cols (keyF cols r.vals) hr hx hi
  have hl := foundF_len (rows := d.rows) (cols := cols) (key := keyF cols r.vals)
  rw [twiceF]
  generalize foundF d.rows cols (keyF cols r.vals) = ids at c2 hl ⊢
  generalize keyF cols r.vals = ks at c1 c2
  cases hw : wholeF cols r.vals
  · rw [hw] at c1
    repeat' first | (apply Go.adm; exact rfl) | apply Go.qs | apply Qg.nil | ((first | apply Go.v2 | apply Go.v1); (first | exact leAdd | assumption); iterate 6 exact rfl) | ((first | apply Go.op | apply Go.sop | apply Qg.op); exact rfl; (first | exact aop_alloc | exact aop_new rfl rfl | exact aop_mksl rfl | exact aop_lenM rfl | exact rfl | exact aL rfl rfl rfl rfl rfl | exact aS rfl rfl rfl rfl rfl rfl rfl)) | ((first | apply Go.no | apply Go.sno | apply Qg.no); exact rfl) | ((first | apply Go.pcall | apply Go.spcall | apply Qg.pcall); (iterate 3 exact rfl); exact c1) | (exfalso; omega) | (((first | apply Go.iQ | apply Go.gQ | apply Go.sQ | apply Qg.gQ); exact rfl; (first | exact .d | exact .e | exact .n | ((fail_if_success exact bqt); (fail_if_success exact bqf); exact .b))) <;> intro _)
    exact .ret rfl (.bool rfl)
  rw [hw] at c1
  rw [Bool.true_and]
  repeat' first | (apply Go.adm; exact rfl) | apply Go.qs | apply Qg.nil | ((first | apply Go.v2 | apply Go.v1); (first | exact leAdd | assumption); iterate 6 exact rfl) | ((first | apply Go.op | apply Go.sop | apply Qg.op); exact rfl; (first | exact aop_alloc | exact aop_new rfl rfl | exact aop_mksl rfl | exact aop_lenM rfl | exact rfl | exact aL rfl rfl rfl rfl rfl | exact aS rfl rfl rfl rfl rfl rfl rfl)) | ((first | apply Go.no | apply Go.sno | apply Qg.no); exact rfl) | ((first | apply Go.pcall | apply Go.spcall | apply Qg.pcall); (iterate 3 exact rfl); (first | exact c1 | exact c2)) | (exfalso; omega) | (((first | apply Go.iQ | apply Go.gQ | apply Go.sQ | apply Qg.gQ); exact rfl; (first | exact .d | exact .e | exact .n | ((fail_if_success exact bqt); (fail_if_success exact bqf); exact .b))) <;> intro _)
  refine Go.keep [5, 9, 10] (Go.loops (I := fun m fr τ => ∃ (i : Nat) (k : Int), m = ids.length - i ∧ i ≤ ids.length ∧ k = i ∧ (ids.any fun id => !(id == r.id)) = ((ids.drop i).any fun id => !(id == r.id)) ∧
    fr = [(5, .c (.fp (encRowD r))), (9, .c (.fz (ids.map encI))), (10, .c (.int .i64 k))] ∧ τ = E σ []) ?_ _ _ _ ⟨0, _, rfl, Nat.zero_le _, rfl, rfl, rfl, rfl⟩)
  rintro m fr τ ⟨i, k, rfl, hile, hk, hs, rfl, rfl⟩ hrec
  by_cases hlt : i < ids.length
  · rw [List.drop_eq_getElem_cons hlt, List.any_cons] at hs
    by_cases h0 : ids[i] = r.id
    · rw [beq_iff_eq.2 h0, Bool.not_true, Bool.false_or] at hs
      repeat' first | (apply Go.adm; exact rfl) | apply Go.qs | apply Qg.nil | ((first | apply Go.v2 | apply Go.v1); (first | exact leAdd | assumption); iterate 6 exact rfl) | ((first | apply Go.op | apply Go.sop | apply Qg.op); exact rfl; (first | exact aop_alloc | exact aop_new rfl rfl | exact aop_mksl rfl | exact aop_lenM rfl | exact rfl | exact aL rfl rfl rfl rfl rfl | exact aS rfl rfl rfl rfl rfl rfl rfl | exact aop_iaddrM (enc := encI) rfl rfl hk hlt rfl)) | ((first | apply Go.no | apply Go.sno | apply Qg.no); exact rfl) | (exfalso; omega) | (((first | apply Go.iQ | apply Go.gQ | apply Go.sQ | apply Qg.gQ); exact rfl; (first | exact .d | exact .e | exact .n | ((fail_if_success exact bqt); (fail_if_success exact bqf); exact .b))) <;> intro _)
      all_goals first
        | exact Go.keep [5, 9, 10] (hrec _ _ _ (by omega) ⟨i + 1, _, rfl, hlt, wrap_succ hk (by omega), hs, rfl, rfl⟩)
        | (exfalso; simp_all; done)
    · rw [beq_eq_false_iff_ne.2 h0, Bool.not_false, Bool.true_or] at hs
      repeat' first | (apply Go.adm; exact rfl) | apply Go.qs | apply Qg.nil | ((first | apply Go.v2 | apply Go.v1); (first | exact leAdd | assumption); iterate 6 exact rfl) | ((first | apply Go.op | apply Go.sop | apply Qg.op); exact rfl; (first | exact aop_alloc | exact aop_new rfl rfl | exact aop_mksl rfl | exact aop_lenM rfl | exact rfl | exact aL rfl rfl rfl rfl rfl | exact aS rfl rfl rfl rfl rfl rfl rfl | exact aop_iaddrM (enc := encI) rfl rfl hk hlt rfl)) | ((first | apply Go.no | apply Go.sno | apply Qg.no); exact rfl) | (exfalso; omega) | (((first | apply Go.iQ | apply Go.gQ | apply Go.sQ | apply Qg.gQ); exact rfl; (first | exact .d | exact .e | exact .n | ((fail_if_success exact bqt); (fail_if_success exact bqf); exact .b))) <;> intro _)
      all_goals first
        | exact .ret rfl (.bool hs.symm)
        | (exfalso; simp_all; done)
  · repeat' first | (apply Go.adm; exact rfl) | apply Go.qs | apply Qg.nil | ((first | apply Go.v2 | apply Go.v1); (first | exact leAdd | assumption); iterate 6 exact rfl) | ((first | apply Go.op | apply Go.sop | apply Qg.op); exact rfl; (first | exact aop_alloc | exact aop_new rfl rfl | exact aop_mksl rfl | exact aop_lenM rfl | exact rfl | exact aL rfl rfl rfl rfl rfl | exact aS rfl rfl rfl rfl rfl rfl rfl)) | ((first | apply Go.no | apply Go.sno | apply Qg.no); exact rfl) | (exfalso; omega) | (((first | apply Go.iQ | apply Go.gQ | apply Go.sQ | apply Qg.gQ); exact rfl; (first | exact .d | exact .e | exact .n | ((fail_if_success exact bqt); (fail_if_success exact bqf); exact .b))) <;> intro _)
    rw [List.drop_eq_nil_of_le (by omega), List.any_nil] at hs
    exact .ret rfl (.bool hs.symm)
theorem l5Unique_ok (t : Table) (d : Data) (r : RowD) (hr : d.rows.length ≤ 1048576) (hu : t.uniques.length ≤ 3) (hx : ∀ k ∈ keysOf t, k.length ≤ 34359738368) (hv : ∀ k ∈ keysOf t, InR k r.vals.length) (hi : ∀ k ∈ keysOf t, ∀ r ∈ d.rows, InR k r.vals.length) :
    Pure Tryz.prog 295 [.agg (encTable t), .agg (encData d), .agg (encRowD r)] (.c (.bool (!((keysOf t).any (twiceF d.rows r))))) := by
  refine Pure.run mixed c_spec_l5Unique_ok (Nat.le_of_ble_eq_true rfl) fun σ hS hA => ?_
  clear hS hA
  have hk0 : t.key ∈ keysOf t := by simp [keysOf]
  have c1 := l5Twice_ok d t.key r hr (hx _ hk0) (hv _ hk0) (hi _ hk0)
  rw [keysOf, List.any_cons, List.any_map]
  cases hb : twiceF d.rows r t.key
  · rw [hb] at c1
    rw [Bool.false_or]
    repeat' first | (apply Go.adm; exact rfl) | apply Go.qs | apply Qg.nil | ((first | apply Go.v2 | apply Go.v1); (first | exact leAdd | assumption); iterate 6 exact rfl) | ((first | apply Go.op | apply Go.sop | apply Qg.op); exact rfl; (first | exact aop_alloc | exact aop_new rfl rfl | exact aop_mksl rfl | exact aop_lenM rfl | exact rfl | exact aL rfl rfl rfl rfl rfl | exact aS rfl rfl rfl rfl rfl rfl rfl)) | ((first | apply Go.no | apply Go.sno | apply Qg.no); exact rfl) | ((first | apply Go.pcall | apply Go.spcall | apply Qg.pcall); (iterate 3 exact rfl); exact c1) | (exfalso; omega) | (((first | apply Go.iQ | apply Go.gQ | apply Go.sQ | apply Qg.gQ); exact rfl; (first | exact .d | exact .e | exact .n | ((fail_if_success exact bqt); (fail_if_success exact bqf); exact .b))) <;> intro _)
    refine Go.keep [3, 4, 5, 7] (Go.loops (I := fun m fr τ => ∃ (i : Nat) (k : Int), m = t.uniques.length - i ∧ i ≤ t.uniques.length ∧ k = i ∧ (t.uniques.any (twiceF d.rows r ∘ (·.cols))) = ((t.uniques.drop i).any (twiceF d.rows r ∘ (·.cols))) ∧
      fr = [(3, .c (.fp (encTable t))), (4, .c (.fp (encData d))), (5, .c (.fp (encRowD r))), (7, .c (.int .i64 k))] ∧ τ = E σ []) ?_ _ _ _ ⟨0, _, rfl, Nat.zero_le _, rfl, rfl, rfl, rfl⟩)
    rintro m fr τ ⟨i, k, rfl, hile, hk, hs, rfl, rfl⟩ hrec
    by_cases hlt : i < t.uniques.length
    · have hki : t.uniques[i].cols ∈ keysOf t := by rw [keysOf]; exact List.mem_cons_of_mem _ (List.mem_map.2 ⟨_, List.getElem_mem hlt, rfl⟩)
      have c2 := l5Twice_ok d t.uniques[i].cols r hr (hx _ hki) (hv _ hki) (hi _ hki)
      rw [List.drop_eq_getElem_cons hlt, List.any_cons, Function.comp_apply] at hs
      cases hq : twiceF d.rows r t.uniques[i].cols
      · rw [hq] at c2 hs
        rw [Bool.false_or] at hs
        repeat' first | (apply Go.adm; exact rfl) | apply Go.qs | apply Qg.nil | ((first | apply Go.v2 | apply Go.v1); (first | exact leAdd | assumption); iterate 6 exact rfl) | ((first | apply Go.op | apply Go.sop | apply Qg.op); exact rfl; (first | exact aop_alloc | exact aop_new rfl rfl | exact aop_mksl rfl | exact aop_lenM rfl | exact rfl | exact aL rfl rfl rfl rfl rfl | exact aS rfl rfl rfl rfl rfl rfl rfl | exact aop_iaddrM (enc := encUniq) rfl rfl hk hlt rfl)) | ((first | apply Go.no | apply Go.sno | apply Qg.no); exact rfl) | ((first | apply Go.pcall | apply Go.spcall | apply Qg.pcall); (iterate 3 exact rfl); exact c2) | (exfalso; omega) | (((first | apply Go.iQ | apply Go.gQ | apply Go.sQ | apply Qg.gQ); exact rfl; (first | exact .d | exact .e | exact .n | ((fail_if_success exact bqt); (fail_if_success exact bqf); exact .b))) <;> intro _)
        exact Go.keep [3, 4, 5, 7] (hrec _ _ _ (by omega) ⟨i + 1, _, rfl, hlt, wrap_succ hk (by omega), hs, rfl, rfl⟩)
      · rw [hq] at c2 hs
        rw [Bool.true_or] at hs
        repeat' first | (apply Go.adm; exact rfl) | apply Go.qs | apply Qg.nil | ((first | apply Go.v2 | apply Go.v1); (first | exact leAdd | assumption); iterate 6 exact rfl) | ((first | apply Go.op | apply Go.sop | apply Qg.op); exact rfl; (first | exact aop_alloc | exact aop_new rfl rfl | exact aop_mksl rfl | exact aop_lenM rfl | exact rfl | exact aL rfl rfl rfl rfl rfl | exact aS rfl rfl rfl rfl rfl rfl rfl | exact aop_iaddrM (enc := encUniq) rfl rfl hk hlt rfl)) | ((first | apply Go.no | apply Go.sno | apply Qg.no); exact rfl) | ((first | apply Go.pcall | apply Go.spcall | apply Qg.pcall); (iterate 3 exact rfl); exact c2) | (exfalso; omega) | (((first | apply Go.iQ | apply Go.gQ | apply Go.sQ | apply Qg.gQ); exact rfl; (first | exact .d | exact .e | exact .n | ((fail_if_success exact bqt); (fail_if_success exact bqf); exact .b))) <;> intro _)
        exact .ret rfl (.bool (by rw [hs]; rfl))
    · repeat' first | (apply Go.adm; exact rfl) | apply Go.qs | apply Qg.nil | ((first | apply Go.v2 | apply Go.v1); (first | exact leAdd | assumption); iterate 6 exact rfl) | ((first | apply Go.op | apply Go.sop | apply Qg.op); exact rfl; (first | exact aop_alloc | exact aop_new rfl rfl | exact aop_mksl rfl | exact aop_lenM rfl | exact rfl | exact aL rfl rfl rfl rfl rfl | exact aS rfl rfl rfl rfl rfl rfl rfl)) | ((first | apply Go.no | apply Go.sno | apply Qg.no); exact rfl) | (exfalso; omega) | (((first | apply Go.iQ | apply Go.gQ | apply Go.sQ | apply Qg.gQ); exact rfl; (first | exact .d | exact .e | exact .n | ((fail_if_success exact bqt); (fail_if_success exact bqf); exact .b))) <;> intro _)
      rw [List.drop_eq_nil_of_le (by omega), List.any_nil] at hs
      exact .ret rfl (.bool (by rw [hs]; rfl))
  · rw [hb] at c1
    repeat' first | (apply Go.adm; exact rfl) | apply Go.qs | apply Qg.nil | ((first | apply Go.v2 | apply Go.v1); (first | exact leAdd | assumption); iterate 6 exact rfl) | ((first | apply Go.op | apply Go.sop | apply Qg.op); exact rfl; (first | exact aop_alloc | exact aop_new rfl rfl | exact aop_mksl rfl | exact aop_lenM rfl | exact rfl | exact aL rfl rfl rfl rfl rfl | exact aS rfl rfl rfl rfl rfl rfl rfl)) | ((first | apply Go.no | apply Go.sno | apply Qg.no); exact rfl) | ((first | apply Go.pcall | apply Go.spcall | apply Qg.pcall); (iterate 3 exact rfl); exact c1) | (exfalso; omega) | (((first | apply Go.iQ | apply Go.gQ | apply Go.sQ | apply Qg.gQ); exact rfl; (first | exact .d | exact .e | exact .n | ((fail_if_success exact bqt); (fail_if_success exact bqf); exact .b))) <;> intro _)
    exact .ret rfl (.bool rfl)
theorem rivals_twice (rows : List RowD) (keys : List (List Int)) (r : RowD) : ((rivalsF rows keys r.id r.vals).length = 0) ↔ (keys.any (twiceF rows r)) = false := by
  rw [List.length_eq_zero_iff, rivalsF, List.map_eq_nil_iff, List.filter_eq_nil_iff, List.any_eq_false]
  constructor
  · intro h k hk hq
    simp only [twiceF, Bool.and_eq_true, List.any_eq_true, foundF, List.mem_map, List.mem_filter] at hq
    obtain ⟨h1, id, ⟨q, ⟨hq1, hq2⟩, rfl⟩, h3⟩ := hq
    refine h q hq1 ?_
    rw [h3, Bool.true_and, List.any_eq_true]
    exact ⟨k, hk, by rw [rival, h1, hq2]; rfl⟩
  · intro h q hq hh
    simp only [Bool.and_eq_true, List.any_eq_true, rival] at hh
    obtain ⟨h1, k, hk, h2, h3⟩ := hh
    refine h k hk ?_
    simp only [twiceF, Bool.and_eq_true, List.any_eq_true, foundF, List.mem_map, List.mem_filter]
    exact ⟨h2, q.id, ⟨q, ⟨hq, h3⟩, rfl⟩, h1⟩
end Go.Proofs.YtcfpdongfdhgjaaGreat.Am

/- References that lead nowhere. -/
set_option linter.unusedVariables false
set_option linter.unusedSimpArgs false
namespace Go.Proofs.YtcfpdongfdhgjaaGreat.Am

def refAt (s : List Table) (f : Fk) : Int := idxA (fun u : Table => u.name == f.table) s 0
def keyAt (s : List Table) (n : Int) : List Int := match s[n.toNat]? with | some u => u.key | none => []
def lostF (s : List Table) (db : List Data) (f : Fk) (vals : List Val) : Bool := wholeF f.cols vals && (((foundF (rowsAt db (refAt s f)) (keyAt s (refAt s f)) (keyF f.cols vals)).length : Int) == 0)
structure FkR (s : List Table) (db : List Data) (vals : List Val) (f : Fk) (n : Nat) : Prop where
  lt : n < s.length
  lt2 : n < db.length
  idx : refAt s f = (n : Int)
  rows : db[n].rows.length ≤ 1048576
  key : s[n].key.length ≤ 34359738368
  cols : f.cols.length ≤ 34359738368
  own : InR f.cols vals.length
  far : ∀ r ∈ db[n].rows, InR s[n].key r.vals.length
theorem FkR.val {s : List Table} {db : List Data} {vals : List Val} {f : Fk} {n : Nat} (h : FkR s db vals f n) : lostF s db f vals = (wholeF f.cols vals && (((foundF (db[n]'h.lt2).rows (s[n]'h.lt).key (keyF f.cols vals)).length : Int) == 0)) := by
  rw [lostF, h.idx, rowsAt, keyAt, Int.toNat_natCast, List.getElem?_eq_getElem h.lt, List.getElem?_eq_getElem h.lt2]
theorem isLost_ok (s : List Table) (db : List Data) (f : Fk) (vals : List Val) (n : Nat) (hs : s.length ≤ 34359738368) (h : FkR s db vals f n) : Pure Tryz.prog 347 [.c (.fz (s.map encTable)), .c (.fz (db.map encData)), .agg (encFk f), .c (.fz (vals.map encV))] (.c (.bool (lostF s db f vals))) := by
  refine Pure.run mixed c_impl_isLost_ok (Nat.le_of_ble_eq_true rfl) fun σ hS hA => ?_
  clear hS hA
  have c1 := TableAt_ok s f.table hs
  have hidx : idxA (fun u : Table => u.name == f.table) s 0 = (n : Int) := h.idx
  rw [hidx] at c1
  have c2 := keyOf_ok f.cols vals h.cols h.own
  have hlt := h.lt
  have hlt2 := h.lt2
  have c3 := found_ok db[n].rows s[n].key (keyF f.cols vals) h.rows h.key h.far
  rw [h.val]
  generalize foundF db[n].rows s[n].key (keyF f.cols vals) = ids at c3 ⊢
  generalize keyF f.cols vals = ks at c2 c3
  cases hw : wholeF f.cols vals
  · rw [hw] at c2
    repeat' first | (apply Go.adm; exact rfl) | apply Go.qs | apply Qg.nil | ((first | apply Go.v2 | apply Go.v1); (first | exact leAdd | assumption); iterate 6 exact rfl) | ((first | apply Go.op | apply Go.sop | apply Qg.op); exact rfl; (first | exact aop_alloc | exact aop_new rfl rfl | exact aop_mksl rfl | exact aop_lenM rfl | exact rfl | exact aL rfl rfl rfl rfl rfl | exact aS rfl rfl rfl rfl rfl rfl rfl)) | ((first | apply Go.no | apply Go.sno | apply Qg.no); exact rfl) | ((first | apply Go.pcall | apply Go.spcall | apply Qg.pcall); (iterate 3 exact rfl); (first | exact c1 | exact c2)) | (exfalso; omega) | (((first | apply Go.iQ | apply Go.gQ | apply Go.sQ | apply Qg.gQ); exact rfl; (first | exact .d | exact .e | exact .n | ((fail_if_success exact bqt); (fail_if_success exact bqf); exact .b))) <;> intro _)
    exact .ret rfl (.bool rfl)
  · rw [hw] at c2
    repeat' first | (apply Go.adm; exact rfl) | apply Go.qs | apply Qg.nil | ((first | apply Go.v2 | apply Go.v1); (first | exact leAdd | assumption); iterate 6 exact rfl) | ((first | apply Go.op | apply Go.sop | apply Qg.op); exact rfl; (first | exact aop_alloc | exact aop_new rfl rfl | exact aop_mksl rfl | exact aop_lenM rfl | exact rfl | exact aL rfl rfl rfl rfl rfl | exact aS rfl rfl rfl rfl rfl rfl rfl | exact aop_iaddrM (enc := encTable) rfl rfl rfl hlt rfl | exact aop_iaddrM (enc := encData) rfl rfl rfl hlt2 rfl)) | ((first | apply Go.no | apply Go.sno | apply Qg.no); exact rfl) | ((first | apply Go.pcall | apply Go.spcall | apply Qg.pcall); (iterate 3 exact rfl); (first | exact c1 | exact c2 | exact c3)) | (exfalso; omega) | (((first | apply Go.iQ | apply Go.gQ | apply Go.sQ | apply Qg.gQ); exact rfl; (first | exact .d | exact .e | exact .n | ((fail_if_success exact bqt); (fail_if_success exact bqf); exact .b))) <;> intro _)
    exact .ret rfl (.bool rfl)
theorem l5Parent_ok (s : List Table) (db : List Data) (f : Fk) (vals : List Val) (n : Nat) (hs : s.length ≤ 34359738368) (h : FkR s db vals f n) : Pure Tryz.prog 341 [.c (.fz (s.map encTable)), .c (.fz (db.map encData)), .agg (encFk f), .c (.fz (vals.map encV))] (.c (.bool (!lostF s db f vals))) := by
  refine Pure.run mixed c_spec_l5Parent_ok (Nat.le_of_ble_eq_true rfl) fun σ hS hA => ?_
  clear hS hA
  have c1 := l3At_ok s f.table hs
  have hidx : idxA (fun u : Table => u.name == f.table) s 0 = (n : Int) := h.idx
  rw [hidx] at c1
  have c2 := l4Key_ok f.cols vals h.cols h.own
  have hlt := h.lt
  have hlt2 := h.lt2
  have c3 := l4Find_ok db[n] s[n].key (keyF f.cols vals) h.rows h.key h.far
  rw [h.val]
  generalize foundF db[n].rows s[n].key (keyF f.cols vals) = ids at c3 ⊢
  generalize keyF f.cols vals = ks at c2 c3
  cases hw : wholeF f.cols vals
  · rw [hw] at c2
    repeat' first | (apply Go.adm; exact rfl) | apply Go.qs | apply Qg.nil | ((first | apply Go.v2 | apply Go.v1); (first | exact leAdd | assumption); iterate 6 exact rfl) | ((first | apply Go.op | apply Go.sop | apply Qg.op); exact rfl; (first | exact aop_alloc | exact aop_new rfl rfl | exact aop_mksl rfl | exact aop_lenM rfl | exact rfl | exact aL rfl rfl rfl rfl rfl | exact aS rfl rfl rfl rfl rfl rfl rfl)) | ((first | apply Go.no | apply Go.sno | apply Qg.no); exact rfl) | ((first | apply Go.pcall | apply Go.spcall | apply Qg.pcall); (iterate 3 exact rfl); (first | exact c1 | exact c2)) | (exfalso; omega) | (((first | apply Go.iQ | apply Go.gQ | apply Go.sQ | apply Qg.gQ); exact rfl; (first | exact .d | exact .e | exact .n | ((fail_if_success exact bqt); (fail_if_success exact bqf); exact .b))) <;> intro _)
    exact .ret rfl (.bool rfl)
  · rw [hw] at c2
    repeat' first | (apply Go.adm; exact rfl) | apply Go.qs | apply Qg.nil | ((first | apply Go.v2 | apply Go.v1); (first | exact leAdd | assumption); iterate 6 exact rfl) | ((first | apply Go.op | apply Go.sop | apply Qg.op); exact rfl; (first | exact aop_alloc | exact aop_new rfl rfl | exact aop_mksl rfl | exact aop_lenM rfl | exact rfl | exact aL rfl rfl rfl rfl rfl | exact aS rfl rfl rfl rfl rfl rfl rfl | exact aop_iaddrM (enc := encTable) rfl rfl rfl hlt rfl | exact aop_iaddrM (enc := encData) rfl rfl rfl hlt2 rfl)) | ((first | apply Go.no | apply Go.sno | apply Qg.no); exact rfl) | ((first | apply Go.pcall | apply Go.spcall | apply Qg.pcall); (iterate 3 exact rfl); (first | exact c1 | exact c2 | exact c3)) | (exfalso; omega) | (((first | apply Go.iQ | apply Go.gQ | apply Go.sQ | apply Qg.gQ); exact rfl; (first | exact .d | exact .e | exact .n | ((fail_if_success exact bqt); (fail_if_success exact bqf); exact .b))) <;> intro _)
    refine .ret rfl (.bool ?_)
    rw [Bool.true_and]
    by_cases h0 : (ids.length : Int) = 0
    · rw [beq_iff_eq.2 h0]
      exact decide_eq_false (by omega)
    · rw [beq_eq_false_iff_ne.2 h0]
      exact decide_eq_true (by omega)
def lostBad (s : List Table) (db : List Data) (df : Bool) (vals : List Val) (f : Fk) : Bool := (df || !f.deferred) && lostF s db f vals
theorem isLostRow1_ok (s : List Table) (db : List Data) (f : Fk) (vals : List Val) (df : Bool) (n : Nat) (hs : s.length ≤ 34359738368) (h : FkR s db vals f n) : Pure Tryz.prog 346 [.agg (encFk f), .c (.fp [.bool df]), .c (.fp [.fz (s.map encTable)]), .c (.fp [.fz (db.map encData)]), .c (.fp [.fz (vals.map encV)])] (.c (.bool (lostBad s db df vals f))) := by
  refine Pure.run mixed c_impl_isLostRow_1_ok (Nat.le_of_ble_eq_true rfl) fun σ hS hA => ?_
  clear hS hA
  have c1 := isLost_ok s db f vals n hs h
  rw [lostBad]
  generalize lostF s db f vals = b at c1 ⊢
  cases df
  · cases hd : f.deferred
    · repeat' first | (apply Go.adm; exact rfl) | apply Go.qs | apply Qg.nil | ((first | apply Go.v2 | apply Go.v1); (first | exact leAdd | assumption); iterate 6 exact rfl) | ((first | apply Go.op | apply Go.sop | apply Qg.op); exact rfl; (first | exact aop_alloc | exact aop_new rfl rfl | exact aop_mksl rfl | exact aop_lenM rfl | exact rfl | exact aL rfl rfl rfl rfl rfl | exact aS rfl rfl rfl rfl rfl rfl rfl)) | ((first | apply Go.no | apply Go.sno | apply Qg.no); exact rfl) | ((first | apply Go.pcall | apply Go.spcall | apply Qg.pcall); (iterate 3 exact rfl); exact c1) | (exfalso; omega) | (((first | apply Go.iQ | apply Go.gQ | apply Go.sQ | apply Qg.gQ); exact rfl; (first | exact .d | exact .e | exact .n | ((fail_if_success exact bqt); (fail_if_success exact bqf); exact .b))) <;> intro _)
      all_goals first
        | exact .ret rfl (.bool rfl)
        | (exfalso; simp_all; done)
        | (refine .ret rfl (.bool ?_); simp_all; done)
    · repeat' first | (apply Go.adm; exact rfl) | apply Go.qs | apply Qg.nil | ((first | apply Go.v2 | apply Go.v1); (first | exact leAdd | assumption); iterate 6 exact rfl) | ((first | apply Go.op | apply Go.sop | apply Qg.op); exact rfl; (first | exact aop_alloc | exact aop_new rfl rfl | exact aop_mksl rfl | exact aop_lenM rfl | exact rfl | exact aL rfl rfl rfl rfl rfl | exact aS rfl rfl rfl rfl rfl rfl rfl)) | ((first | apply Go.no | apply Go.sno | apply Qg.no); exact rfl) | ((first | apply Go.pcall | apply Go.spcall | apply Qg.pcall); (iterate 3 exact rfl); exact c1) | (exfalso; omega) | (((first | apply Go.iQ | apply Go.gQ | apply Go.sQ | apply Qg.gQ); exact rfl; (first | exact .d | exact .e | exact .n | ((fail_if_success exact bqt); (fail_if_success exact bqf); exact .b))) <;> intro _)
      all_goals first
        | exact .ret rfl (.bool rfl)
        | (exfalso; simp_all; done)
        | (refine .ret rfl (.bool ?_); simp_all; done)
  · repeat' first | (apply Go.adm; exact rfl) | apply Go.qs | apply Qg.nil | ((first | apply Go.v2 | apply Go.v1); (first | exact leAdd | assumption); iterate 6 exact rfl) | ((first | apply Go.op | apply Go.sop | apply Qg.op); exact rfl; (first | exact aop_alloc | exact aop_new rfl rfl | exact aop_mksl rfl | exact aop_lenM rfl | exact rfl | exact aL rfl rfl rfl rfl rfl | exact aS rfl rfl rfl rfl rfl rfl rfl)) | ((first | apply Go.no | apply Go.sno | apply Qg.no); exact rfl) | ((first | apply Go.pcall | apply Go.spcall | apply Qg.pcall); (iterate 3 exact rfl); exact c1) | (exfalso; omega) | (((first | apply Go.iQ | apply Go.gQ | apply Go.sQ | apply Qg.gQ); exact rfl; (first | exact .d | exact .e | exact .n | ((fail_if_success exact bqt); (fail_if_success exact bqf); exact .b))) <;> intro _)
    all_goals first
      | exact .ret rfl (.bool rfl)
      | (exfalso; simp_all; done)
      | (refine .ret rfl (.bool ?_); simp_all; done)
theorem isLostRow_ok (s : List Table) (db : List Data) (t : Table) (vals : List Val) (df : Bool) (hs : s.length ≤ 34359738368) (hn : t.fks.length ≤ 34359738368) (h : ∀ f ∈ t.fks, ∃ n, FkR s db vals f n) : Pure Tryz.prog 300 [.c (.fz (s.map encTable)), .c (.fz (db.map encData)), .agg (encTable t), .c (.fz (vals.map encV)), .c (.bool df)] (.c (.bool (t.fks.any (lostBad s db df vals)))) := by
  refine Pure.run mixed c_impl_isLostRow_ok (Nat.le_of_ble_eq_true rfl) fun σ hS hA => ?_
  clear hS hA
  have cc := containsFuncA_ok mixed c_slices_ContainsFunc_Fk_ok c_slices_IndexFunc_Fk_ok encFk (fun u => .agg (encFk u)) (fun _ => rfl) (fun _ => rfl) t.fks (lostBad s db df vals) 346 [] [.fp [.bool df], .fp [.fz (s.map encTable)], .fp [.fz (db.map encData)], .fp [.fz (vals.map encV)]] hn (fun j hj _ => by
    obtain ⟨n, hq⟩ := h _ (List.getElem_mem hj)
    exact isLostRow1_ok s db _ vals df n hs hq)
  generalize t.fks.any (lostBad s db df vals) = b at cc ⊢
  repeat' first | (apply Go.adm; exact rfl) | apply Go.qs | apply Qg.nil | ((first | apply Go.v2 | apply Go.v1); (first | exact leAdd | assumption); iterate 6 exact rfl) | ((first | apply Go.op | apply Go.sop | apply Qg.op); exact rfl; (first | exact aop_alloc | exact aop_new rfl rfl | exact aop_mksl rfl | exact aop_lenM rfl | exact rfl | exact aL rfl rfl rfl rfl rfl | exact aS rfl rfl rfl rfl rfl rfl rfl)) | ((first | apply Go.no | apply Go.sno | apply Qg.no); exact rfl) | ((first | apply Go.pcall | apply Go.spcall | apply Qg.pcall); (iterate 3 exact rfl); exact cc) | (exfalso; omega) | (((first | apply Go.iQ | apply Go.gQ | apply Go.sQ | apply Qg.gQ); exact rfl; (first | exact .d | exact .e | exact .n | ((fail_if_success exact bqt); (fail_if_success exact bqf); exact .b))) <;> intro _)
  exact .ret rfl (.bool rfl)
theorem l5Refers_ok (s : List Table) (db : List Data) (q : Int) (m : Nat) (vals : List Val) (now : Bool) (hs : s.length ≤ 34359738368) (hq : q = (m : Int)) (hm : m < s.length) (hn : s[m].fks.length ≤ 3) (h : ∀ f ∈ s[m].fks, ∃ n, FkR s db vals f n) : Pure Tryz.prog 296 [.c (.fz (s.map encTable)), .c (.fz (db.map encData)), .c (.int .i64 q), .c (.fz (vals.map encV)), .c (.bool now)] (.c (.bool (!(s[m].fks.any (lostBad s db (!now) vals))))) := by
  refine Pure.run mixed c_spec_l5Refers_ok (Nat.le_of_ble_eq_true rfl) fun σ hS hA => ?_
  clear hS hA
  repeat' first | (apply Go.adm; exact rfl) | apply Go.qs | apply Qg.nil | ((first | apply Go.v2 | apply Go.v1); (first | exact leAdd | assumption); iterate 6 exact rfl) | ((first | apply Go.op | apply Go.sop | apply Qg.op); exact rfl; (first | exact aop_alloc | exact aop_new rfl rfl | exact aop_mksl rfl | exact aop_lenM rfl | exact rfl | exact aL rfl rfl rfl rfl rfl | exact aS rfl rfl rfl rfl rfl rfl rfl)) | ((first | apply Go.no | apply Go.sno | apply Qg.no); exact rfl) | (exfalso; omega) | (((first | apply Go.iQ | apply Go.gQ | apply Go.sQ | apply Qg.gQ); exact rfl; (first | exact .d | exact .e | exact .n | ((fail_if_success exact bqt); (fail_if_success exact bqf); exact .b))) <;> intro _)
  refine Go.keep [0, 1, 2, 3, 4, 11] (Go.loops (I := fun mm fr τ => ∃ (i : Nat) (k : Int), mm = s[m].fks.length - i ∧ i ≤ s[m].fks.length ∧ k = i ∧ s[m].fks.any (lostBad s db (!now) vals) = (s[m].fks.drop i).any (lostBad s db (!now) vals) ∧
    fr = [(0, .c (.fz (s.map encTable))), (1, .c (.fz (db.map encData))), (2, .c (.int .i64 q)), (3, .c (.fz (vals.map encV))), (4, .c (.bool now)), (11, .c (.int .i64 k))] ∧ τ = E σ []) ?_ _ _ _ ⟨0, _, rfl, Nat.zero_le _, rfl, rfl, rfl, rfl⟩)
  rintro mm fr τ ⟨i, k, rfl, hi, hk, hsq, rfl, rfl⟩ hrec
  by_cases hlt : i < s[m].fks.length
  · obtain ⟨n, hr⟩ := h _ (List.getElem_mem hlt)
    have c1 := l5Parent_ok s db s[m].fks[i] vals n hs hr
    rw [List.drop_eq_getElem_cons hlt, List.any_cons, lostBad] at hsq
    generalize lostF s db s[m].fks[i] vals = b at c1 hsq
    have skip : (s[m].fks.any (lostBad s db (!now) vals) = (s[m].fks.drop (i + 1)).any (lostBad s db (!now) vals)) → ∀ fr τ, fr = [(0, AV.c (.fz (s.map encTable))), (1, .c (.fz (db.map encData))), (2, .c (.int .i64 q)), (3, .c (.fz (vals.map encV))), (4, .c (.bool now)), (11, .c (.int .i64 (IntKind.i64.wrap (k + 1))))] → τ = E σ [] → _ := fun e fr τ h1 h2 => hrec (s[m].fks.length - (i + 1)) fr τ (by omega) ⟨i + 1, _, rfl, hlt, wrap_succ hk (by omega), e, h1, h2⟩
    clear hrec
    cases now <;> cases hd : s[m].fks[i].deferred <;> cases b
    all_goals
      repeat' first | (apply Go.adm; exact rfl) | apply Go.qs | apply Qg.nil | ((first | apply Go.v2 | apply Go.v1); (first | exact leAdd | assumption); iterate 6 exact rfl) | ((first | apply Go.op | apply Go.sop | apply Qg.op); exact rfl; (first | exact aop_alloc | exact aop_new rfl rfl | exact aop_mksl rfl | exact aop_lenM rfl | exact rfl | exact aL rfl rfl rfl rfl rfl | exact aS rfl rfl rfl rfl rfl rfl rfl | exact aop_iaddrM (enc := encTable) rfl rfl hq hm rfl | exact aop_iaddrM (enc := encFk) rfl rfl hk hlt rfl)) | ((first | apply Go.no | apply Go.sno | apply Qg.no); exact rfl) | ((first | apply Go.pcall | apply Go.spcall | apply Qg.pcall); (iterate 3 exact rfl); exact c1) | (exfalso; omega) | (((first | apply Go.iQ | apply Go.gQ | apply Go.sQ | apply Qg.gQ); exact rfl; (first | exact .d | exact .e | exact .n | ((fail_if_success exact bqt); (fail_if_success exact bqf); exact .b))) <;> intro _)
      all_goals first
        | (refine Go.keep [0, 1, 2, 3, 4, 11] (skip ?_ _ _ rfl rfl); simp_all; done)
        | (refine .ret rfl (.bool ?_); simp_all; done)
        | (exfalso; simp_all; done)
  · repeat' first | (apply Go.adm; exact rfl) | apply Go.qs | apply Qg.nil | ((first | apply Go.v2 | apply Go.v1); (first | exact leAdd | assumption); iterate 6 exact rfl) | ((first | apply Go.op | apply Go.sop | apply Qg.op); exact rfl; (first | exact aop_alloc | exact aop_new rfl rfl | exact aop_mksl rfl | exact aop_lenM rfl | exact rfl | exact aL rfl rfl rfl rfl rfl | exact aS rfl rfl rfl rfl rfl rfl rfl | exact aop_iaddrM (enc := encTable) rfl rfl hq hm rfl)) | ((first | apply Go.no | apply Go.sno | apply Qg.no); exact rfl) | (exfalso; omega) | (((first | apply Go.iQ | apply Go.gQ | apply Go.sQ | apply Qg.gQ); exact rfl; (first | exact .d | exact .e | exact .n | ((fail_if_success exact bqt); (fail_if_success exact bqf); exact .b))) <;> intro _)
    rw [List.drop_eq_nil_of_le (by omega), List.any_nil] at hsq
    exact .ret rfl (.bool (by rw [hsq]; rfl))
end Go.Proofs.YtcfpdongfdhgjaaGreat.Am

/- Flaws: what is true of the rows of a database. -/
set_option linter.unusedVariables false
set_option linter.unusedSimpArgs false
namespace Go.Proofs.YtcfpdongfdhgjaaGreat.Am

def rowBad2 (s : List Table) (db : List Data) (df : Bool) (t : Table) (rows : List RowD) (r : RowD) : Bool := nullAux t 0 r.vals || (t.checks.any (checkBad r.vals) || ((keysOf t).any (twiceF rows r) || t.fks.any (lostBad s db df r.vals)))
def dbBadAux (s : List Table) (db : List Data) (df : Bool) : List Table → List Data → Bool
  | t :: ts, d :: ds => d.rows.any (rowBad2 s db df t d.rows) || dbBadAux s db df ts ds
  | _, _ => false
def dbBad (s : List Table) (db : List Data) (df : Bool) : Bool := dbBadAux s db df s db
def soundF (s : List Table) (db : List Data) (df : Bool) : Bool := dbF s db && !dbBad s db df
structure RowR (s : List Table) (db : List Data) (t : Table) (r : RowD) : Prop where
  len : r.vals.length = t.cols.length
  are : areVals r.vals 16 = true
  fks : ∀ f ∈ t.fks, ∃ n, FkR s db r.vals f n
structure TabR (s : List Table) (db : List Data) (t : Table) (d : Data) : Prop where
  tab : TabOk t
  rows : d.rows.length ≤ 60
  row : ∀ r ∈ d.rows, RowR s db t r
  keys : ∀ k ∈ keysOf t, k.length ≤ 34359738368
  inr : ∀ k ∈ keysOf t, InR k t.cols.length
  chk : ∀ c ∈ t.checks, c.expr.length ≤ 34359738368
theorem db_tab {s : List Table} {db : List Data} (h : dbF s db = true) (hb : ∀ t ∈ s, bTable 34359738368 t) {i : Nat} (hi : i < s.length) (hi2 : i < db.length) : TabR s db s[i] db[i] := by
  obtain ⟨hs, hl, hrows⟩ := dbF_at h
  have hT := schemaF_tab hs
  have hrow := rowsF_mem (hrows i hi hi2)
  have hti := hT _ (List.getElem_mem hi)
  have hbi := hb _ (List.getElem_mem hi)
  have hkey : ∀ k ∈ keysOf s[i], k.length ≤ 34359738368 ∧ InR k s[i].cols.length := fun k hk => by
    rw [keysOf] at hk
    rcases List.mem_cons.1 hk with rfl | hk
    · exact ⟨hbi.2.2.1, hti.key⟩
    · obtain ⟨u, hu, rfl⟩ := List.mem_map.1 hk
      exact ⟨hbi.2.2.2.1.2 u hu, hti.uniq u hu⟩
  refine ⟨hti, hrow.1, fun r hr => ?_, fun k hk => (hkey k hk).1, fun k hk => (hkey k hk).2, fun c hc => (hbi.2.2.2.2.1.2 c hc).1⟩
  have hfit := (hrow.2 r hr).1
  refine ⟨(fitF_vals hfit).1, fitF_are hfit hti.cols8, fun f hf => ?_⟩
  have hmet : metF s s[i] f = true := by
    simp only [schemaF, Bool.and_eq_true, Bool.not_eq_true', List.any_eq_false, Bool.not_eq_true, Bool.not_eq_false'] at hs
    simpa using hs.2.2 _ (List.getElem_mem hi) f hf
  simp only [metF, Bool.and_eq_true] at hmet
  rcases idxA_at (p := fun u : Table => u.name == f.table) (l := s) (i := 0) (Int.le_refl _) with hx | ⟨n, hn, hx, hp⟩
  · exfalso
    have := any_idx (p := fun u : Table => u.name == f.table) (l := s)
    rw [hx, hmet.1] at this
    exact absurd this (by decide)
  · have hn2 : n < db.length := by omega
    have htn := hT _ (List.getElem_mem hn)
    have hrn := rowsF_mem (hrows n hn hn2)
    exact ⟨n, hn, hn2, by rw [refAt, hx]; omega, by omega, (hb _ (List.getElem_mem hn)).2.2.1, (hbi.2.2.2.2.2.2 f hf).1, by rw [(fitF_vals hfit).1]; exact hti.fk f hf, fun q hq => by rw [(fitF_vals (hrn.2 q hq).1).1]; exact htn.key⟩
theorem dbBadAux_drop {s : List Table} {db : List Data} {df : Bool} : ∀ {ts : List Table} {ds : List Data} {i : Nat} (hi : i < ts.length) (hi2 : i < ds.length), dbBadAux s db df (ts.drop i) (ds.drop i) = (ds[i].rows.any (rowBad2 s db df ts[i] ds[i].rows) || dbBadAux s db df (ts.drop (i + 1)) (ds.drop (i + 1))) := fun hi hi2 => by
  rw [List.drop_eq_getElem_cons hi, List.drop_eq_getElem_cons hi2, dbBadAux]
def Cl3 (fl : List (List Ce)) : Prop := ∀ e ∈ fl, e.length = 3 ∧ ∀ x ∈ e, Flat x
theorem Cl3.nil : Cl3 [] := fun e he => by cases he
theorem Cl3.snoc {fl : List (List Ce)} (h : Cl3 fl) (a b c : Int) : Cl3 (fl ++ [[.int .i64 a, .int .i64 b, .int .i64 c]]) := fun e he => by
  rcases List.mem_append.1 he with he | he
  · exact h e he
  · rw [List.mem_singleton.1 he]
    refine ⟨rfl, fun x hx => ?_⟩
    simp only [List.mem_cons, List.not_mem_nil, or_false] at hx
    rcases hx with rfl | rfl | rfl <;> exact .int _ _
theorem Cl3.len {fl : List (List Ce)} (h : Cl3 fl) : ∀ e ∈ fl, e.length = 3 := fun e he => (h e he).1
theorem Go.joinK {P : Program} {n0 nt : Nat} {rets : List RV} {R : AV → Store → Prop} {K K' : List AK} {fr : Fr} {σ : Store} (I : Fr → Store → Prop) (h2 : ∀ K, (∀ fr σ, I fr σ → Go P n0 nt rets R K fr σ) → Go P n0 nt rets R (K' ++ K) fr σ) (h1 : ∀ fr σ, I fr σ → Go P n0 nt rets R K fr σ) : Go P n0 nt rets R (K' ++ K) fr σ := h2 K h1
theorem empty_snoc {α : Type} {l : List α} {x : α} : (l ++ [x]).isEmpty = false := by cases l <;> rfl
end Go.Proofs.YtcfpdongfdhgjaaGreat.Am

/- Flaws: the program's. -/
set_option linter.unusedVariables false
set_option linter.unusedSimpArgs false
namespace Go.Proofs.YtcfpdongfdhgjaaGreat.Am

theorem flaws_ok (s : List Table) (db : List Data) (df : Bool) (h : dbF s db = true) (hb : ∀ t ∈ s, bTable 34359738368 t) (σ : Store) :
    Ok Tryz.prog 229 [.c (.fz (s.map encTable)), .c (.fz (db.map encData)), .c (.bool df)] σ (fun r τ => ∃ fl, Made σ 3 fl r τ ∧ fl.isEmpty = !dbBad s db df) := by
  refine Ok.run mixed c_impl_flaws_ok (Nat.le_of_ble_eq_true rfl) fun hS hA => ?_
  clear hS hA
  obtain ⟨hs, hl, hrows⟩ := dbF_at h
  have hs5 : s.length ≤ 5 := by
    simp only [schemaF, Bool.and_eq_true, decide_eq_true_eq] at hs
    omega
  have hsx : s.length ≤ 34359738368 := by omega
  clear hrows hs
  repeat' first | (apply Go.adm; exact rfl) | apply Go.qs | apply Qg.nil | ((first | apply Go.v2 | apply Go.v1); (first | exact leAdd | assumption); iterate 6 exact rfl) | ((first | apply Go.op | apply Go.sop | apply Qg.op); exact rfl; (first | exact aop_alloc | exact aop_new rfl rfl | exact aop_mksl rfl | exact aop_lenM rfl | exact rfl | exact aL rfl rfl rfl rfl rfl | exact aS rfl rfl rfl rfl rfl rfl rfl)) | ((first | apply Go.no | apply Go.sno | apply Qg.no); exact rfl) | (exfalso; omega) | (((first | apply Go.iQ | apply Go.gQ | apply Go.sQ | apply Qg.gQ); exact rfl; (first | exact .d | exact .e | exact .n | ((fail_if_success exact bqt); (fail_if_success exact bqf); exact .b))) <;> intro _)
  refine Go.keep [0, 1, 2, 7, 16, 17, 18] (Go.loops (I := fun m fr τ => ∃ (i : Nat) (k : Int) (v : Nat) (junk fl : List (List Ce)), m = db.length - i ∧ i ≤ db.length ∧ k = i ∧ Jk 3 junk ∧ Cl3 fl ∧ (fl.length ≤ 240 * i ∧ dbBad s db df = (!fl.isEmpty || dbBadAux s db df (s.drop i) (db.drop i))) ∧
    fr = [(0, .c (.fz (s.map encTable))), (1, .c (.fz (db.map encData))), (2, .c (.bool df)), (7, .c (vec (σ.next + 0) v fl junk)), (16, .c (.fz (db.map encData))), (17, .c (.int .i64 (db.length : Int))), (18, .c (.int .i64 k))] ∧ τ = E σ [(v, fl ++ junk)]) ?_ _ _ _ ⟨0, _, 0, [], [], rfl, Nat.zero_le _, rfl, Jk.nil, Cl3.nil, ⟨Nat.zero_le _, rfl⟩, rfl, rfl⟩)
  rintro m fr τ ⟨i, k, v, junk, fl, rfl, hi, hk, hj, hcl, ⟨hfl, hd⟩, rfl, rfl⟩ hrec
  by_cases hlt : i < db.length
  · have hlt2 : i < s.length := by omega
    have hT := db_tab h hb hlt2 hlt
    rw [dbBadAux_drop hlt2 hlt] at hd
    obtain ⟨rest, hrest⟩ : ∃ x, x = dbBadAux s db df (s.drop (i + 1)) (db.drop (i + 1)) := ⟨_, rfl⟩
    rw [← hrest] at hd
    repeat' first | (apply Go.adm; exact rfl) | apply Go.qs | apply Qg.nil | ((first | apply Go.v2 | apply Go.v1); (first | exact leAdd | assumption); iterate 6 exact rfl) | ((first | apply Go.op | apply Go.sop | apply Qg.op); exact rfl; (first | exact aop_alloc | exact aop_new rfl rfl | exact aop_mksl rfl | exact aop_lenM rfl | exact rfl | exact aL rfl rfl rfl rfl rfl | exact aS rfl rfl rfl rfl rfl rfl rfl | exact aop_iaddrM (enc := encData) rfl rfl hk hlt rfl | exact aop_iaddrM (enc := encTable) rfl rfl hk hlt2 rfl)) | ((first | apply Go.no | apply Go.sno | apply Qg.no); exact rfl) | (exfalso; omega) | (((first | apply Go.iQ | apply Go.gQ | apply Go.sQ | apply Qg.gQ); exact rfl; (first | exact .d | exact .e | exact .n | ((fail_if_success exact bqt); (fail_if_success exact bqf); exact .b))) <;> intro _)
    have hrec2 : ∀ (v : Nat) (junk fl : List (List Ce)), Jk 3 junk → Cl3 fl → fl.length ≤ 240 * (i + 1) → dbBad s db df = (!fl.isEmpty || rest) → ∀ fr τ, fr = [(0, AV.c (.fz (s.map encTable))), (1, .c (.fz (db.map encData))), (2, .c (.bool df)), (7, .c (vec (σ.next + 0) v fl junk)), (16, .c (.fz (db.map encData))), (17, .c (.int .i64 (db.length : Int))), (18, .c (.int .i64 (IntKind.i64.wrap (k + 1))))] → τ = E σ [(v, fl ++ junk)] → _ :=
      fun v junk fl a b c e fr τ h1 h2 => hrec (db.length - (i + 1)) fr τ (by omega) ⟨i + 1, _, v, junk, fl, rfl, hlt, wrap_succ hk (by omega), a, b, ⟨c, by rw [← hrest]; exact e⟩, h1, h2⟩
    clear hrec
    refine Go.keep [0, 1, 2, 7, 8, 9, 10, 16, 17, 18, 28, 29, 30] (Go.loops (I := fun m fr τ => ∃ (j : Nat) (kj : Int) (v : Nat) (junk fl : List (List Ce)), m = db[i].rows.length - j ∧ j ≤ db[i].rows.length ∧ kj = j ∧ Jk 3 junk ∧ Cl3 fl ∧ (fl.length ≤ 240 * i + 4 * j ∧ dbBad s db df = (!fl.isEmpty || ((db[i].rows.drop j).any (rowBad2 s db df s[i] db[i].rows) || rest))) ∧
      fr = [(0, .c (.fz (s.map encTable))), (1, .c (.fz (db.map encData))), (2, .c (.bool df)), (7, .c (vec (σ.next + 0) v fl junk)), (8, .c (.int .i64 k)), (9, .c (.fp (encData db[i]))), (10, .c (.fp (encTable s[i]))), (16, .c (.fz (db.map encData))), (17, .c (.int .i64 (db.length : Int))), (18, .c (.int .i64 k)), (28, .c (.fz (db[i].rows.map encRowD))), (29, .c (.int .i64 (db[i].rows.length : Int))), (30, .c (.int .i64 kj))] ∧ τ = E σ [(v, fl ++ junk)]) ?_ _ _ _ ⟨0, _, v, junk, fl, rfl, Nat.zero_le _, rfl, hj, hcl, ⟨by omega, hd⟩, rfl, rfl⟩)
    clear hd hfl hcl hj
    clear fl junk v
    have hr60 := hT.rows
    rintro m fr τ ⟨j, kj, v, junk, fl, rfl, hjl, hkj, hj, hcl, ⟨hfl, hd⟩, rfl, rfl⟩ hrecj
    by_cases hltj : j < db[i].rows.length
    · have hR := hT.row _ (List.getElem_mem hltj)
      rw [List.drop_eq_getElem_cons hltj, List.any_cons, rowBad2] at hd
      have c1 := hasNull_ok s[i] db[i].rows[j].vals hR.len hT.tab.cols8
      have c2 := isChecked_ok s[i] db[i].rows[j].vals (by have := hT.tab.chk3; omega) hT.chk (by have := hR.len; have := hT.tab.cols8; omega)
      have c3 := rivals_ok s[i] db[i].rows db[i].rows[j].id db[i].rows[j].vals (by omega) hT.tab.uniq3 hT.keys (fun k hk => by rw [hR.len]; exact hT.inr k hk) (fun k hk r hr => by rw [(hT.row r hr).len]; exact hT.inr k hk)
      have c4 := isLostRow_ok s db s[i] db[i].rows[j].vals df hsx (by have := hT.tab.fk3; omega) hR.fks
      have hrt := rivals_twice db[i].rows (keysOf s[i]) db[i].rows[j]
      generalize rivalsF db[i].rows (keysOf s[i]) db[i].rows[j].id db[i].rows[j].vals = rv at c3 hrt
      generalize nullAux s[i] 0 db[i].rows[j].vals = fa at c1 hd
      generalize s[i].checks.any (checkBad db[i].rows[j].vals) = fb at c2 hd
      generalize (keysOf s[i]).any (twiceF db[i].rows db[i].rows[j]) = fc at hrt hd
      generalize s[i].fks.any (lostBad s db df db[i].rows[j].vals) = fd at c4 hd
      obtain ⟨rest2, hrest2⟩ : ∃ x, x = (db[i].rows.drop (j + 1)).any (rowBad2 s db df s[i] db[i].rows) := ⟨_, rfl⟩
      rw [← hrest2] at hd
      have hcc : decide (0 < (rv.length : Int)) = fc := by
        cases fc
        · have := hrt.2 rfl
          exact decide_eq_false (by omega)
        · have : ¬ rv.length = 0 := fun e => absurd (hrt.1 e) (by decide)
          exact decide_eq_true (by omega)
      have hrecj2 : ∀ (v : Nat) (junk fl : List (List Ce)), Jk 3 junk → Cl3 fl → fl.length ≤ 240 * i + 4 * (j + 1) → dbBad s db df = (!fl.isEmpty || (rest2 || rest)) → ∀ fr τ, fr = [(0, AV.c (.fz (s.map encTable))), (1, .c (.fz (db.map encData))), (2, .c (.bool df)), (7, .c (vec (σ.next + 0) v fl junk)), (8, .c (.int .i64 k)), (9, .c (.fp (encData db[i]))), (10, .c (.fp (encTable s[i]))), (16, .c (.fz (db.map encData))), (17, .c (.int .i64 (db.length : Int))), (18, .c (.int .i64 k)), (28, .c (.fz (db[i].rows.map encRowD))), (29, .c (.int .i64 (db[i].rows.length : Int))), (30, .c (.int .i64 (IntKind.i64.wrap (kj + 1))))] → τ = E σ [(v, fl ++ junk)] → _ :=
        fun v junk fl a b c e fr τ h1 h2 => hrecj (db[i].rows.length - (j + 1)) fr τ (by omega) ⟨j + 1, _, v, junk, fl, rfl, hltj, wrap_succ hkj (by omega), a, b, ⟨c, by rw [← hrest2]; exact e⟩, h1, h2⟩
      clear hrecj hrec2 hrt hT hR
      repeat' first | (apply Go.adm; exact rfl) | apply Go.qs | apply Qg.nil | ((first | apply Go.v2 | apply Go.v1); (first | exact leAdd | assumption); iterate 6 exact rfl) | ((first | apply Go.op | apply Go.sop | apply Qg.op); exact rfl; (first | exact aop_alloc | exact aop_new rfl rfl | exact aop_mksl rfl | exact aop_lenM rfl | exact rfl | exact aL rfl rfl rfl rfl rfl | exact aS rfl rfl rfl rfl rfl rfl rfl | exact aop_iaddrM (enc := encRowD) rfl rfl hkj hltj rfl)) | ((first | apply Go.no | apply Go.sno | apply Qg.no); exact rfl) | ((first | apply Go.pcall | apply Go.spcall | apply Qg.pcall); (iterate 3 exact rfl); (first | exact c1 | exact c2 | exact c3 | exact c4)) | (exfalso; omega) | (((first | apply Go.iQ | apply Go.gQ | apply Go.sQ | apply Qg.gQ); exact rfl; (first | exact .d | exact .e | exact .n | ((fail_if_success exact bqt); (fail_if_success exact bqf); exact .b))) <;> intro _)
      rw [hcc, Bool.not_not]
      refine Go.keep [0, 1, 2, 7, 8, 9, 10, 12, 16, 17, 18, 28, 29, 30, 60, 61] (Go.loops (I := fun m fr τ => ∃ (q : Nat) (kq : Int) (v : Nat) (junk fl : List (List Ce)), m = 4 - q ∧ q ≤ 4 ∧ kq = q ∧ Jk 3 junk ∧ Cl3 fl ∧ (fl.length ≤ 240 * i + 4 * j + q ∧ dbBad s db df = (!fl.isEmpty || (([fa, fb, fc, fd].drop q).any id || (rest2 || rest)))) ∧
        fr = [(0, .c (.fz (s.map encTable))), (1, .c (.fz (db.map encData))), (2, .c (.bool df)), (7, .c (vec (σ.next + 0) v fl junk)), (8, .c (.int .i64 k)), (9, .c (.fp (encData db[i]))), (10, .c (.fp (encTable s[i]))), (12, .c (.fp (encRowD db[i].rows[j]))), (16, .c (.fz (db.map encData))), (17, .c (.int .i64 (db.length : Int))), (18, .c (.int .i64 k)), (28, .c (.fz (db[i].rows.map encRowD))), (29, .c (.int .i64 (db[i].rows.length : Int))), (30, .c (.int .i64 kj)), (60, .agg [.bool fa, .bool fb, .bool fc, .bool fd]), (61, .c (.int .i64 kq))] ∧ τ = E σ [(v, fl ++ junk)]) ?_ _ _ _ ⟨0, _, v, junk, fl, rfl, Nat.zero_le _, rfl, hj, hcl, ⟨by omega, ?_⟩, rfl, rfl⟩)
      · clear hd hfl hcl hj c1 c2 c3 c4 hcc
        clear fl junk v
        rintro m fr τ ⟨q, kq, v, junk, fl, rfl, hq, hkq, hj, hcl, ⟨hfl, hd⟩, rfl, rfl⟩ hrecq
        have hbd : (fl.length + 1) * 24 ≤ 140737488355328 := by omega
        have hl3 := hcl.len
        have fin : ∀ (v : Nat) (junk fl : List (List Ce)), Jk 3 junk → Cl3 fl → q < 4 → fl.length ≤ 240 * i + 4 * j + (q + 1) → dbBad s db df = (!fl.isEmpty || (([fa, fb, fc, fd].drop (q + 1)).any id || (rest2 || rest))) → ∀ fr τ, fr = [(0, AV.c (.fz (s.map encTable))), (1, .c (.fz (db.map encData))), (2, .c (.bool df)), (7, .c (vec (σ.next + 0) v fl junk)), (8, .c (.int .i64 k)), (9, .c (.fp (encData db[i]))), (10, .c (.fp (encTable s[i]))), (12, .c (.fp (encRowD db[i].rows[j]))), (16, .c (.fz (db.map encData))), (17, .c (.int .i64 (db.length : Int))), (18, .c (.int .i64 k)), (28, .c (.fz (db[i].rows.map encRowD))), (29, .c (.int .i64 (db[i].rows.length : Int))), (30, .c (.int .i64 kj)), (60, .agg [.bool fa, .bool fb, .bool fc, .bool fd]), (61, .c (.int .i64 (IntKind.i64.wrap (kq + 1))))] → τ = E σ [(v, fl ++ junk)] → _ :=
          fun v junk fl a b g c e fr τ h1 h2 => hrecq (4 - (q + 1)) fr τ (by omega) ⟨q + 1, _, v, junk, fl, rfl, by omega, wrap_succ hkq (by omega), a, b, ⟨c, e⟩, h1, h2⟩
        clear hrecq
        subst hkq
        obtain rfl | rfl | rfl | rfl | rfl : q = 0 ∨ q = 1 ∨ q = 2 ∨ q = 3 ∨ q = 4 := by omega
        · repeat' first | (apply Go.adm; exact rfl) | apply Go.qs | apply Qg.nil | ((first | apply Go.v2 | apply Go.v1); (first | exact leAdd | assumption); iterate 6 exact rfl) | ((first | apply Go.op | apply Go.sop | apply Qg.op); exact rfl; (first | exact aop_alloc | exact aop_new rfl rfl | exact aop_mksl rfl | exact aop_lenM rfl | exact rfl | exact aL rfl rfl rfl rfl rfl | exact aS rfl rfl rfl rfl rfl rfl rfl)) | ((first | apply Go.no | apply Go.sno | apply Qg.no); exact rfl) | (apply Go.app1; exact rfl; exact rfl; exact rfl; exact rfl; exact rfl; exact hl3; exact hj; exact rfl; exact hbd; intro v' junk' hj') | (exfalso; omega) | (((first | apply Go.iQ | apply Go.gQ | apply Go.sQ | apply Qg.gQ); exact rfl; (first | exact .d | exact .e | exact .n | ((fail_if_success exact bqt); (fail_if_success exact bqf); exact .b))) <;> intro _)
          all_goals first
            | (refine Go.keep [0, 1, 2, 7, 8, 9, 10, 12, 16, 17, 18, 28, 29, 30, 60, 61] (fin v' junk' (fl ++ [[.int .i64 (IntKind.i64.wrap (((0 : Nat) : Int) + 1)), .int .i64 k, .int .i64 db[i].rows[j].id]]) hj' (hcl.snoc _ _ _) (by omega) (by rw [List.length_append, List.length_singleton]; omega) ?_ _ _ rfl rfl); rw [hd, empty_snoc]; simp_all; done)
            | (refine Go.keep [0, 1, 2, 7, 8, 9, 10, 12, 16, 17, 18, 28, 29, 30, 60, 61] (fin v junk fl hj hcl (by omega) (by omega) ?_ _ _ rfl rfl); rw [hd]; simp_all; done)
        · repeat' first | (apply Go.adm; exact rfl) | apply Go.qs | apply Qg.nil | ((first | apply Go.v2 | apply Go.v1); (first | exact leAdd | assumption); iterate 6 exact rfl) | ((first | apply Go.op | apply Go.sop | apply Qg.op); exact rfl; (first | exact aop_alloc | exact aop_new rfl rfl | exact aop_mksl rfl | exact aop_lenM rfl | exact rfl | exact aL rfl rfl rfl rfl rfl | exact aS rfl rfl rfl rfl rfl rfl rfl)) | ((first | apply Go.no | apply Go.sno | apply Qg.no); exact rfl) | (apply Go.app1; exact rfl; exact rfl; exact rfl; exact rfl; exact rfl; exact hl3; exact hj; exact rfl; exact hbd; intro v' junk' hj') | (exfalso; omega) | (((first | apply Go.iQ | apply Go.gQ | apply Go.sQ | apply Qg.gQ); exact rfl; (first | exact .d | exact .e | exact .n | ((fail_if_success exact bqt); (fail_if_success exact bqf); exact .b))) <;> intro _)
          all_goals first
            | (refine Go.keep [0, 1, 2, 7, 8, 9, 10, 12, 16, 17, 18, 28, 29, 30, 60, 61] (fin v' junk' (fl ++ [[.int .i64 (IntKind.i64.wrap (((1 : Nat) : Int) + 1)), .int .i64 k, .int .i64 db[i].rows[j].id]]) hj' (hcl.snoc _ _ _) (by omega) (by rw [List.length_append, List.length_singleton]; omega) ?_ _ _ rfl rfl); rw [hd, empty_snoc]; simp_all; done)
            | (refine Go.keep [0, 1, 2, 7, 8, 9, 10, 12, 16, 17, 18, 28, 29, 30, 60, 61] (fin v junk fl hj hcl (by omega) (by omega) ?_ _ _ rfl rfl); rw [hd]; simp_all; done)
        · repeat' first | (apply Go.adm; exact rfl) | apply Go.qs | apply Qg.nil | ((first | apply Go.v2 | apply Go.v1); (first | exact leAdd | assumption); iterate 6 exact rfl) | ((first | apply Go.op | apply Go.sop | apply Qg.op); exact rfl; (first | exact aop_alloc | exact aop_new rfl rfl | exact aop_mksl rfl | exact aop_lenM rfl | exact rfl | exact aL rfl rfl rfl rfl rfl | exact aS rfl rfl rfl rfl rfl rfl rfl)) | ((first | apply Go.no | apply Go.sno | apply Qg.no); exact rfl) | (apply Go.app1; exact rfl; exact rfl; exact rfl; exact rfl; exact rfl; exact hl3; exact hj; exact rfl; exact hbd; intro v' junk' hj') | (exfalso; omega) | (((first | apply Go.iQ | apply Go.gQ | apply Go.sQ | apply Qg.gQ); exact rfl; (first | exact .d | exact .e | exact .n | ((fail_if_success exact bqt); (fail_if_success exact bqf); exact .b))) <;> intro _)
          all_goals first
            | (refine Go.keep [0, 1, 2, 7, 8, 9, 10, 12, 16, 17, 18, 28, 29, 30, 60, 61] (fin v' junk' (fl ++ [[.int .i64 (IntKind.i64.wrap (((2 : Nat) : Int) + 1)), .int .i64 k, .int .i64 db[i].rows[j].id]]) hj' (hcl.snoc _ _ _) (by omega) (by rw [List.length_append, List.length_singleton]; omega) ?_ _ _ rfl rfl); rw [hd, empty_snoc]; simp_all; done)
            | (refine Go.keep [0, 1, 2, 7, 8, 9, 10, 12, 16, 17, 18, 28, 29, 30, 60, 61] (fin v junk fl hj hcl (by omega) (by omega) ?_ _ _ rfl rfl); rw [hd]; simp_all; done)
        · repeat' first | (apply Go.adm; exact rfl) | apply Go.qs | apply Qg.nil | ((first | apply Go.v2 | apply Go.v1); (first | exact leAdd | assumption); iterate 6 exact rfl) | ((first | apply Go.op | apply Go.sop | apply Qg.op); exact rfl; (first | exact aop_alloc | exact aop_new rfl rfl | exact aop_mksl rfl | exact aop_lenM rfl | exact rfl | exact aL rfl rfl rfl rfl rfl | exact aS rfl rfl rfl rfl rfl rfl rfl)) | ((first | apply Go.no | apply Go.sno | apply Qg.no); exact rfl) | (apply Go.app1; exact rfl; exact rfl; exact rfl; exact rfl; exact rfl; exact hl3; exact hj; exact rfl; exact hbd; intro v' junk' hj') | (exfalso; omega) | (((first | apply Go.iQ | apply Go.gQ | apply Go.sQ | apply Qg.gQ); exact rfl; (first | exact .d | exact .e | exact .n | ((fail_if_success exact bqt); (fail_if_success exact bqf); exact .b))) <;> intro _)
          all_goals first
            | (refine Go.keep [0, 1, 2, 7, 8, 9, 10, 12, 16, 17, 18, 28, 29, 30, 60, 61] (fin v' junk' (fl ++ [[.int .i64 (IntKind.i64.wrap (((3 : Nat) : Int) + 1)), .int .i64 k, .int .i64 db[i].rows[j].id]]) hj' (hcl.snoc _ _ _) (by omega) (by rw [List.length_append, List.length_singleton]; omega) ?_ _ _ rfl rfl); rw [hd, empty_snoc]; simp_all; done)
            | (refine Go.keep [0, 1, 2, 7, 8, 9, 10, 12, 16, 17, 18, 28, 29, 30, 60, 61] (fin v junk fl hj hcl (by omega) (by omega) ?_ _ _ rfl rfl); rw [hd]; simp_all; done)
        · repeat' first | (apply Go.adm; exact rfl) | apply Go.qs | apply Qg.nil | ((first | apply Go.v2 | apply Go.v1); (first | exact leAdd | assumption); iterate 6 exact rfl) | ((first | apply Go.op | apply Go.sop | apply Qg.op); exact rfl; (first | exact aop_alloc | exact aop_new rfl rfl | exact aop_mksl rfl | exact aop_lenM rfl | exact rfl | exact aL rfl rfl rfl rfl rfl | exact aS rfl rfl rfl rfl rfl rfl rfl)) | ((first | apply Go.no | apply Go.sno | apply Qg.no); exact rfl) | (exfalso; omega) | (((first | apply Go.iQ | apply Go.gQ | apply Go.sQ | apply Qg.gQ); exact rfl; (first | exact .d | exact .e | exact .n | ((fail_if_success exact bqt); (fail_if_success exact bqf); exact .b))) <;> intro _)
          refine Go.keep [0, 1, 2, 7, 8, 9, 10, 16, 17, 18, 28, 29, 30] (hrecj2 v junk fl hj hcl (by omega) ?_ _ _ rfl rfl)
          rw [hd]
          rfl
      · rw [hd]
        simp only [List.drop_zero, List.any_cons, List.any_nil, id, Bool.or_false, Bool.or_assoc]
    · rw [List.drop_eq_nil_of_le (by omega), List.any_nil, Bool.false_or] at hd
      repeat' first | (apply Go.adm; exact rfl) | apply Go.qs | apply Qg.nil | ((first | apply Go.v2 | apply Go.v1); (first | exact leAdd | assumption); iterate 6 exact rfl) | ((first | apply Go.op | apply Go.sop | apply Qg.op); exact rfl; (first | exact aop_alloc | exact aop_new rfl rfl | exact aop_mksl rfl | exact aop_lenM rfl | exact rfl | exact aL rfl rfl rfl rfl rfl | exact aS rfl rfl rfl rfl rfl rfl rfl)) | ((first | apply Go.no | apply Go.sno | apply Qg.no); exact rfl) | (exfalso; omega) | (((first | apply Go.iQ | apply Go.gQ | apply Go.sQ | apply Qg.gQ); exact rfl; (first | exact .d | exact .e | exact .n | ((fail_if_success exact bqt); (fail_if_success exact bqf); exact .b))) <;> intro _)
      exact Go.keep [0, 1, 2, 7, 16, 17, 18] (hrec2 v junk fl hj hcl (by omega) hd _ _ rfl rfl)
  · repeat' first | (apply Go.adm; exact rfl) | apply Go.qs | apply Qg.nil | ((first | apply Go.v2 | apply Go.v1); (first | exact leAdd | assumption); iterate 6 exact rfl) | ((first | apply Go.op | apply Go.sop | apply Qg.op); exact rfl; (first | exact aop_alloc | exact aop_new rfl rfl | exact aop_mksl rfl | exact aop_lenM rfl | exact rfl | exact aL rfl rfl rfl rfl rfl | exact aS rfl rfl rfl rfl rfl rfl rfl)) | ((first | apply Go.no | apply Go.sno | apply Qg.no); exact rfl) | (exfalso; omega) | (((first | apply Go.iQ | apply Go.gQ | apply Go.sQ | apply Qg.gQ); exact rfl; (first | exact .d | exact .e | exact .n | ((fail_if_success exact bqt); (fail_if_success exact bqf); exact .b))) <;> intro _)
    rw [List.drop_eq_nil_of_le (by omega), List.drop_eq_nil_of_le (by omega), show dbBadAux s db df [] [] = false from rfl, Bool.or_false] at hd
    exact .ret rfl ⟨fl, ⟨v, junk, hj, rfl, rfl⟩, by rw [hd, Bool.not_not]⟩
end Go.Proofs.YtcfpdongfdhgjaaGreat.Am

/- Flaws: the reference's. -/
set_option linter.unusedVariables false
set_option linter.unusedSimpArgs false
namespace Go.Proofs.YtcfpdongfdhgjaaGreat.Am

theorem l5Flaws_ok (s : List Table) (db : List Data) (now : Bool) (h : dbF s db = true) (hb : ∀ t ∈ s, bTable 34359738368 t) (σ : Store) :
    Ok Tryz.prog 227 [.c (.fz (s.map encTable)), .c (.fz (db.map encData)), .c (.bool now)] σ (fun r τ => ∃ fl, Made σ 3 fl r τ ∧ fl.isEmpty = !dbBad s db (!now)) := by
  refine Ok.run mixed c_spec_l5Flaws_ok (Nat.le_of_ble_eq_true rfl) fun hS hA => ?_
  clear hS hA
  obtain ⟨hs, hl, hrows⟩ := dbF_at h
  have hs5 : s.length ≤ 5 := by
    simp only [schemaF, Bool.and_eq_true, decide_eq_true_eq] at hs
    omega
  have hsx : s.length ≤ 34359738368 := by omega
  clear hrows hs
  repeat' first | (apply Go.adm; exact rfl) | apply Go.qs | apply Qg.nil | ((first | apply Go.v2 | apply Go.v1); (first | exact leAdd | assumption); iterate 6 exact rfl) | ((first | apply Go.op | apply Go.sop | apply Qg.op); exact rfl; (first | exact aop_alloc | exact aop_new rfl rfl | exact aop_mksl rfl | exact aop_lenM rfl | exact rfl | exact aL rfl rfl rfl rfl rfl | exact aS rfl rfl rfl rfl rfl rfl rfl)) | ((first | apply Go.no | apply Go.sno | apply Qg.no); exact rfl) | (exfalso; omega) | (((first | apply Go.iQ | apply Go.gQ | apply Go.sQ | apply Qg.gQ); exact rfl; (first | exact .d | exact .e | exact .n | ((fail_if_success exact bqt); (fail_if_success exact bqf); exact .b))) <;> intro _)
  refine Go.keep [0, 1, 2, 7, 8] (Go.loops (I := fun m fr τ => ∃ (i : Nat) (k : Int) (v : Nat) (junk fl : List (List Ce)), m = s.length - i ∧ i ≤ s.length ∧ k = i ∧ Jk 3 junk ∧ Cl3 fl ∧ (fl.length ≤ 240 * i ∧ dbBad s db (!now) = (!fl.isEmpty || dbBadAux s db (!now) (s.drop i) (db.drop i))) ∧
    fr = [(0, .c (.fz (s.map encTable))), (1, .c (.fz (db.map encData))), (2, .c (.bool now)), (7, .c (vec (σ.next + 0) v fl junk)), (8, .c (.int .i64 k))] ∧ τ = E σ [(v, fl ++ junk)]) ?_ _ _ _ ⟨0, _, 0, [], [], rfl, Nat.zero_le _, rfl, Jk.nil, Cl3.nil, ⟨Nat.zero_le _, rfl⟩, rfl, rfl⟩)
  rintro m fr τ ⟨i, k, v, junk, fl, rfl, hi, hk, hj, hcl, ⟨hfl, hd⟩, rfl, rfl⟩ hrec
  by_cases hlt : i < s.length
  · have hlt2 : i < db.length := by omega
    have hT := db_tab h hb hlt hlt2
    rw [dbBadAux_drop hlt hlt2] at hd
    obtain ⟨rest, hrest⟩ : ∃ x, x = dbBadAux s db (!now) (s.drop (i + 1)) (db.drop (i + 1)) := ⟨_, rfl⟩
    rw [← hrest] at hd
    have hrec2 : ∀ (v : Nat) (junk fl : List (List Ce)), Jk 3 junk → Cl3 fl → fl.length ≤ 240 * (i + 1) → dbBad s db (!now) = (!fl.isEmpty || rest) → ∀ fr τ, fr = [(0, AV.c (.fz (s.map encTable))), (1, .c (.fz (db.map encData))), (2, .c (.bool now)), (7, .c (vec (σ.next + 0) v fl junk)), (8, .c (.int .i64 (IntKind.i64.wrap (k + 1))))] → τ = E σ [(v, fl ++ junk)] → _ :=
      fun v junk fl a b c e fr τ h1 h2 => hrec (s.length - (i + 1)) fr τ (by omega) ⟨i + 1, _, v, junk, fl, rfl, hlt, wrap_succ hk (by omega), a, b, ⟨c, by rw [← hrest]; exact e⟩, h1, h2⟩
    clear hrec
    repeat' first | (apply Go.adm; exact rfl) | apply Go.qs | apply Qg.nil | ((first | apply Go.v2 | apply Go.v1); (first | exact leAdd | assumption); iterate 6 exact rfl) | ((first | apply Go.op | apply Go.sop | apply Qg.op); exact rfl; (first | exact aop_alloc | exact aop_new rfl rfl | exact aop_mksl rfl | exact aop_lenM rfl | exact rfl | exact aL rfl rfl rfl rfl rfl | exact aS rfl rfl rfl rfl rfl rfl rfl)) | ((first | apply Go.no | apply Go.sno | apply Qg.no); exact rfl) | (exfalso; omega) | (((first | apply Go.iQ | apply Go.gQ | apply Go.sQ | apply Qg.gQ); exact rfl; (first | exact .d | exact .e | exact .n | ((fail_if_success exact bqt); (fail_if_success exact bqf); exact .b))) <;> intro _)
    refine Go.keep [0, 1, 2, 7, 8, 9] (Go.loops (I := fun m fr τ => ∃ (j : Nat) (kj : Int) (v : Nat) (junk fl : List (List Ce)), m = db[i].rows.length - j ∧ j ≤ db[i].rows.length ∧ kj = j ∧ Jk 3 junk ∧ Cl3 fl ∧ (fl.length ≤ 240 * i + 4 * j ∧ dbBad s db (!now) = (!fl.isEmpty || ((db[i].rows.drop j).any (rowBad2 s db (!now) s[i] db[i].rows) || rest))) ∧
      fr = [(0, .c (.fz (s.map encTable))), (1, .c (.fz (db.map encData))), (2, .c (.bool now)), (7, .c (vec (σ.next + 0) v fl junk)), (8, .c (.int .i64 k)), (9, .c (.int .i64 kj))] ∧ τ = E σ [(v, fl ++ junk)]) ?_ _ _ _ ⟨0, _, v, junk, fl, rfl, Nat.zero_le _, rfl, hj, hcl, ⟨by omega, hd⟩, rfl, rfl⟩)
    clear hd hfl hcl hj
    clear fl junk v
    have hr60 := hT.rows
    rintro m fr τ ⟨j, kj, v, junk, fl, rfl, hjl, hkj, hj, hcl, ⟨hfl, hd⟩, rfl, rfl⟩ hrecj
    by_cases hltj : j < db[i].rows.length
    · have hR := hT.row _ (List.getElem_mem hltj)
      rw [List.drop_eq_getElem_cons hltj, List.any_cons, rowBad2] at hd
      have c1 := l4Nulls_ok s[i] db[i].rows[j].vals hR.len hT.tab.cols8
      have c2 := l4Checks_ok s[i] db[i].rows[j].vals hT.tab.chk3 (by rw [hR.len]; exact hT.tab.chk) hR.are
      have c3 := l5Unique_ok s[i] db[i] db[i].rows[j] (by omega) hT.tab.uniq3 hT.keys (fun k hk => by rw [hR.len]; exact hT.inr k hk) (fun k hk r hr => by rw [(hT.row r hr).len]; exact hT.inr k hk)
      have c4 := l5Refers_ok s db k i db[i].rows[j].vals now hsx hk hlt hT.tab.fk3 hR.fks
      generalize nullAux s[i] 0 db[i].rows[j].vals = fa at c1 hd
      generalize s[i].checks.any (checkBad db[i].rows[j].vals) = fb at c2 hd
      generalize (keysOf s[i]).any (twiceF db[i].rows db[i].rows[j]) = fc at c3 hd
      generalize s[i].fks.any (lostBad s db (!now) db[i].rows[j].vals) = fd at c4 hd
      obtain ⟨rest2, hrest2⟩ : ∃ x, x = (db[i].rows.drop (j + 1)).any (rowBad2 s db (!now) s[i] db[i].rows) := ⟨_, rfl⟩
      rw [← hrest2] at hd
      have hrecj2 : ∀ (v : Nat) (junk fl : List (List Ce)), Jk 3 junk → Cl3 fl → fl.length ≤ 240 * i + 4 * (j + 1) → dbBad s db (!now) = (!fl.isEmpty || (rest2 || rest)) → ∀ fr τ, fr = [(0, AV.c (.fz (s.map encTable))), (1, .c (.fz (db.map encData))), (2, .c (.bool now)), (7, .c (vec (σ.next + 0) v fl junk)), (8, .c (.int .i64 k)), (9, .c (.int .i64 (IntKind.i64.wrap (kj + 1))))] → τ = E σ [(v, fl ++ junk)] → _ :=
        fun v junk fl a b c e fr τ h1 h2 => hrecj (db[i].rows.length - (j + 1)) fr τ (by omega) ⟨j + 1, _, v, junk, fl, rfl, hltj, wrap_succ hkj (by omega), a, b, ⟨c, by rw [← hrest2]; exact e⟩, h1, h2⟩
      clear hrecj hrec2 hT hR
      simp only [Bool.or_assoc] at hd
      repeat' first | apply Go.seq | apply Go.skip | apply Go.region | apply Go.nil | apply Go.block | apply Go.blk | apply Go.segs | (apply Go.exit; exact rfl) | (apply Go.cond true; exact rfl) | (apply Go.cond false; exact rfl) | apply Go.qs | apply Qg.nil | ((first | apply Go.v2 | apply Go.v1); (first | exact leAdd | assumption); iterate 6 exact rfl) | ((first | apply Go.op | apply Go.sop | apply Qg.op); exact rfl; (first | exact aop_alloc | exact aop_new rfl rfl | exact aop_mksl rfl | exact aop_lenM rfl | exact rfl | exact aL rfl rfl rfl rfl rfl | exact aS rfl rfl rfl rfl rfl rfl rfl | exact aop_iaddrM (enc := encTable) rfl rfl hk hlt rfl | exact aop_iaddrM (enc := encData) rfl rfl hk hlt2 rfl | exact aop_iaddrM (enc := encRowD) rfl rfl hkj hltj rfl)) | ((first | apply Go.no | apply Go.sno | apply Qg.no); exact rfl) | (exfalso; omega) | (((first | apply Go.iQ | apply Go.gQ | apply Go.sQ | apply Qg.gQ); exact rfl; (first | exact .d | exact .e | exact .n | ((fail_if_success exact bqt); (fail_if_success exact bqf); exact .b))) <;> intro _)
      refine Go.joinK (K' := [_, _]) (fun fr τ => ∃ (v : Nat) (junk fl : List (List Ce)), Jk 3 junk ∧ Cl3 fl ∧ (fl.length ≤ 240 * i + 4 * j + 1 ∧ dbBad s db (!now) = (!fl.isEmpty || (fb || (fc || (fd || (rest2 || rest)))))) ∧ fr = [(0, AV.c (.fz (s.map encTable))), (1, .c (.fz (db.map encData))), (2, .c (.bool now)), (7, .c (vec (σ.next + 0) v fl junk)), (8, .c (.int .i64 k)), (9, .c (.int .i64 kj)), (10, .c (.fp (encRowD db[i].rows[j])))] ∧ τ = E σ [(v, fl ++ junk)]) ?_ ?_
      · intro K hK
        simp only [List.cons_append, List.nil_append]
        have hbd : (fl.length + 1) * 24 ≤ 140737488355328 := by omega
        have hl3 := hcl.len
        cases fa
        · repeat' first | (apply Go.adm; exact rfl) | apply Go.qs | apply Qg.nil | ((first | apply Go.v2 | apply Go.v1); (first | exact leAdd | assumption); iterate 6 exact rfl) | ((first | apply Go.op | apply Go.sop | apply Qg.op); exact rfl; (first | exact aop_alloc | exact aop_new rfl rfl | exact aop_mksl rfl | exact aop_lenM rfl | exact rfl | exact aL rfl rfl rfl rfl rfl | exact aS rfl rfl rfl rfl rfl rfl rfl | exact aop_iaddrM (enc := encTable) rfl rfl hk hlt rfl | exact aop_iaddrM (enc := encData) rfl rfl hk hlt2 rfl | exact aop_iaddrM (enc := encRowD) rfl rfl hkj hltj rfl)) | ((first | apply Go.no | apply Go.sno | apply Qg.no); exact rfl) | ((first | apply Go.pcall | apply Go.spcall | apply Qg.pcall); (iterate 3 exact rfl); exact c1) | (exfalso; omega) | (((first | apply Go.iQ | apply Go.gQ | apply Go.sQ | apply Qg.gQ); exact rfl; (first | exact .d | exact .e | exact .n | ((fail_if_success exact bqt); (fail_if_success exact bqf); exact .b))) <;> intro _)
          exact Go.keep [0, 1, 2, 7, 8, 9, 10] (hK _ _ ⟨v, junk, fl, hj, hcl, ⟨by omega, by rw [hd, Bool.false_or]⟩, rfl, rfl⟩)
        · repeat' first | (apply Go.adm; exact rfl) | apply Go.qs | apply Qg.nil | ((first | apply Go.v2 | apply Go.v1); (first | exact leAdd | assumption); iterate 6 exact rfl) | ((first | apply Go.op | apply Go.sop | apply Qg.op); exact rfl; (first | exact aop_alloc | exact aop_new rfl rfl | exact aop_mksl rfl | exact aop_lenM rfl | exact rfl | exact aL rfl rfl rfl rfl rfl | exact aS rfl rfl rfl rfl rfl rfl rfl | exact aop_iaddrM (enc := encTable) rfl rfl hk hlt rfl | exact aop_iaddrM (enc := encData) rfl rfl hk hlt2 rfl | exact aop_iaddrM (enc := encRowD) rfl rfl hkj hltj rfl)) | ((first | apply Go.no | apply Go.sno | apply Qg.no); exact rfl) | (apply Go.app1; exact rfl; exact rfl; exact rfl; exact rfl; exact rfl; exact hl3; exact hj; exact rfl; exact hbd; intro v' junk' hj') | ((first | apply Go.pcall | apply Go.spcall | apply Qg.pcall); (iterate 3 exact rfl); exact c1) | (exfalso; omega) | (((first | apply Go.iQ | apply Go.gQ | apply Go.sQ | apply Qg.gQ); exact rfl; (first | exact .d | exact .e | exact .n | ((fail_if_success exact bqt); (fail_if_success exact bqf); exact .b))) <;> intro _)
          exact Go.keep [0, 1, 2, 7, 8, 9, 10] (hK _ _ ⟨v', junk', fl ++ [[.int .i64 1, .int .i64 k, .int .i64 db[i].rows[j].id]], hj', hcl.snoc _ _ _, ⟨by rw [List.length_append, List.length_singleton]; omega, by rw [empty_snoc, hd]; simp⟩, rfl, rfl⟩)
      clear hd hfl hcl hj c1
      clear fl junk v
      rintro fr τ ⟨v, junk, fl, hj, hcl, ⟨hfl, hd⟩, rfl, rfl⟩
      repeat' first | apply Go.seq | apply Go.skip | apply Go.region | apply Go.nil | apply Go.block | apply Go.blk | apply Go.segs | (apply Go.exit; exact rfl) | (apply Go.cond true; exact rfl) | (apply Go.cond false; exact rfl) | apply Go.qs | apply Qg.nil | ((first | apply Go.v2 | apply Go.v1); (first | exact leAdd | assumption); iterate 6 exact rfl) | ((first | apply Go.op | apply Go.sop | apply Qg.op); exact rfl; (first | exact aop_alloc | exact aop_new rfl rfl | exact aop_mksl rfl | exact aop_lenM rfl | exact rfl | exact aL rfl rfl rfl rfl rfl | exact aS rfl rfl rfl rfl rfl rfl rfl | exact aop_iaddrM (enc := encTable) rfl rfl hk hlt rfl | exact aop_iaddrM (enc := encData) rfl rfl hk hlt2 rfl | exact aop_iaddrM (enc := encRowD) rfl rfl hkj hltj rfl)) | ((first | apply Go.no | apply Go.sno | apply Qg.no); exact rfl) | (exfalso; omega) | (((first | apply Go.iQ | apply Go.gQ | apply Go.sQ | apply Qg.gQ); exact rfl; (first | exact .d | exact .e | exact .n | ((fail_if_success exact bqt); (fail_if_success exact bqf); exact .b))) <;> intro _)
      refine Go.joinK (K' := [_, _]) (fun fr τ => ∃ (v : Nat) (junk fl : List (List Ce)), Jk 3 junk ∧ Cl3 fl ∧ (fl.length ≤ 240 * i + 4 * j + 2 ∧ dbBad s db (!now) = (!fl.isEmpty || (fc || (fd || (rest2 || rest))))) ∧ fr = [(0, AV.c (.fz (s.map encTable))), (1, .c (.fz (db.map encData))), (2, .c (.bool now)), (7, .c (vec (σ.next + 0) v fl junk)), (8, .c (.int .i64 k)), (9, .c (.int .i64 kj)), (10, .c (.fp (encRowD db[i].rows[j])))] ∧ τ = E σ [(v, fl ++ junk)]) ?_ ?_
      · intro K hK
        simp only [List.cons_append, List.nil_append]
        have hbd : (fl.length + 1) * 24 ≤ 140737488355328 := by omega
        have hl3 := hcl.len
        cases fb
        · repeat' first | (apply Go.adm; exact rfl) | apply Go.qs | apply Qg.nil | ((first | apply Go.v2 | apply Go.v1); (first | exact leAdd | assumption); iterate 6 exact rfl) | ((first | apply Go.op | apply Go.sop | apply Qg.op); exact rfl; (first | exact aop_alloc | exact aop_new rfl rfl | exact aop_mksl rfl | exact aop_lenM rfl | exact rfl | exact aL rfl rfl rfl rfl rfl | exact aS rfl rfl rfl rfl rfl rfl rfl | exact aop_iaddrM (enc := encTable) rfl rfl hk hlt rfl | exact aop_iaddrM (enc := encData) rfl rfl hk hlt2 rfl | exact aop_iaddrM (enc := encRowD) rfl rfl hkj hltj rfl)) | ((first | apply Go.no | apply Go.sno | apply Qg.no); exact rfl) | ((first | apply Go.pcall | apply Go.spcall | apply Qg.pcall); (iterate 3 exact rfl); exact c2) | (exfalso; omega) | (((first | apply Go.iQ | apply Go.gQ | apply Go.sQ | apply Qg.gQ); exact rfl; (first | exact .d | exact .e | exact .n | ((fail_if_success exact bqt); (fail_if_success exact bqf); exact .b))) <;> intro _)
          exact Go.keep [0, 1, 2, 7, 8, 9, 10] (hK _ _ ⟨v, junk, fl, hj, hcl, ⟨by omega, by rw [hd, Bool.false_or]⟩, rfl, rfl⟩)
        · repeat' first | (apply Go.adm; exact rfl) | apply Go.qs | apply Qg.nil | ((first | apply Go.v2 | apply Go.v1); (first | exact leAdd | assumption); iterate 6 exact rfl) | ((first | apply Go.op | apply Go.sop | apply Qg.op); exact rfl; (first | exact aop_alloc | exact aop_new rfl rfl | exact aop_mksl rfl | exact aop_lenM rfl | exact rfl | exact aL rfl rfl rfl rfl rfl | exact aS rfl rfl rfl rfl rfl rfl rfl | exact aop_iaddrM (enc := encTable) rfl rfl hk hlt rfl | exact aop_iaddrM (enc := encData) rfl rfl hk hlt2 rfl | exact aop_iaddrM (enc := encRowD) rfl rfl hkj hltj rfl)) | ((first | apply Go.no | apply Go.sno | apply Qg.no); exact rfl) | (apply Go.app1; exact rfl; exact rfl; exact rfl; exact rfl; exact rfl; exact hl3; exact hj; exact rfl; exact hbd; intro v' junk' hj') | ((first | apply Go.pcall | apply Go.spcall | apply Qg.pcall); (iterate 3 exact rfl); exact c2) | (exfalso; omega) | (((first | apply Go.iQ | apply Go.gQ | apply Go.sQ | apply Qg.gQ); exact rfl; (first | exact .d | exact .e | exact .n | ((fail_if_success exact bqt); (fail_if_success exact bqf); exact .b))) <;> intro _)
          exact Go.keep [0, 1, 2, 7, 8, 9, 10] (hK _ _ ⟨v', junk', fl ++ [[.int .i64 2, .int .i64 k, .int .i64 db[i].rows[j].id]], hj', hcl.snoc _ _ _, ⟨by rw [List.length_append, List.length_singleton]; omega, by rw [empty_snoc, hd]; simp⟩, rfl, rfl⟩)
      clear hd hfl hcl hj c2
      clear fl junk v
      rintro fr τ ⟨v, junk, fl, hj, hcl, ⟨hfl, hd⟩, rfl, rfl⟩
      repeat' first | apply Go.seq | apply Go.skip | apply Go.region | apply Go.nil | apply Go.block | apply Go.blk | apply Go.segs | (apply Go.exit; exact rfl) | (apply Go.cond true; exact rfl) | (apply Go.cond false; exact rfl) | apply Go.qs | apply Qg.nil | ((first | apply Go.v2 | apply Go.v1); (first | exact leAdd | assumption); iterate 6 exact rfl) | ((first | apply Go.op | apply Go.sop | apply Qg.op); exact rfl; (first | exact aop_alloc | exact aop_new rfl rfl | exact aop_mksl rfl | exact aop_lenM rfl | exact rfl | exact aL rfl rfl rfl rfl rfl | exact aS rfl rfl rfl rfl rfl rfl rfl | exact aop_iaddrM (enc := encTable) rfl rfl hk hlt rfl | exact aop_iaddrM (enc := encData) rfl rfl hk hlt2 rfl | exact aop_iaddrM (enc := encRowD) rfl rfl hkj hltj rfl)) | ((first | apply Go.no | apply Go.sno | apply Qg.no); exact rfl) | (exfalso; omega) | (((first | apply Go.iQ | apply Go.gQ | apply Go.sQ | apply Qg.gQ); exact rfl; (first | exact .d | exact .e | exact .n | ((fail_if_success exact bqt); (fail_if_success exact bqf); exact .b))) <;> intro _)
      refine Go.joinK (K' := [_, _]) (fun fr τ => ∃ (v : Nat) (junk fl : List (List Ce)), Jk 3 junk ∧ Cl3 fl ∧ (fl.length ≤ 240 * i + 4 * j + 3 ∧ dbBad s db (!now) = (!fl.isEmpty || (fd || (rest2 || rest)))) ∧ fr = [(0, AV.c (.fz (s.map encTable))), (1, .c (.fz (db.map encData))), (2, .c (.bool now)), (7, .c (vec (σ.next + 0) v fl junk)), (8, .c (.int .i64 k)), (9, .c (.int .i64 kj)), (10, .c (.fp (encRowD db[i].rows[j])))] ∧ τ = E σ [(v, fl ++ junk)]) ?_ ?_
      · intro K hK
        simp only [List.cons_append, List.nil_append]
        have hbd : (fl.length + 1) * 24 ≤ 140737488355328 := by omega
        have hl3 := hcl.len
        cases fc
        · repeat' first | (apply Go.adm; exact rfl) | apply Go.qs | apply Qg.nil | ((first | apply Go.v2 | apply Go.v1); (first | exact leAdd | assumption); iterate 6 exact rfl) | ((first | apply Go.op | apply Go.sop | apply Qg.op); exact rfl; (first | exact aop_alloc | exact aop_new rfl rfl | exact aop_mksl rfl | exact aop_lenM rfl | exact rfl | exact aL rfl rfl rfl rfl rfl | exact aS rfl rfl rfl rfl rfl rfl rfl | exact aop_iaddrM (enc := encTable) rfl rfl hk hlt rfl | exact aop_iaddrM (enc := encData) rfl rfl hk hlt2 rfl | exact aop_iaddrM (enc := encRowD) rfl rfl hkj hltj rfl)) | ((first | apply Go.no | apply Go.sno | apply Qg.no); exact rfl) | ((first | apply Go.pcall | apply Go.spcall | apply Qg.pcall); (iterate 3 exact rfl); exact c3) | (exfalso; omega) | (((first | apply Go.iQ | apply Go.gQ | apply Go.sQ | apply Qg.gQ); exact rfl; (first | exact .d | exact .e | exact .n | ((fail_if_success exact bqt); (fail_if_success exact bqf); exact .b))) <;> intro _)
          exact Go.keep [0, 1, 2, 7, 8, 9, 10] (hK _ _ ⟨v, junk, fl, hj, hcl, ⟨by omega, by rw [hd, Bool.false_or]⟩, rfl, rfl⟩)
        · repeat' first | (apply Go.adm; exact rfl) | apply Go.qs | apply Qg.nil | ((first | apply Go.v2 | apply Go.v1); (first | exact leAdd | assumption); iterate 6 exact rfl) | ((first | apply Go.op | apply Go.sop | apply Qg.op); exact rfl; (first | exact aop_alloc | exact aop_new rfl rfl | exact aop_mksl rfl | exact aop_lenM rfl | exact rfl | exact aL rfl rfl rfl rfl rfl | exact aS rfl rfl rfl rfl rfl rfl rfl | exact aop_iaddrM (enc := encTable) rfl rfl hk hlt rfl | exact aop_iaddrM (enc := encData) rfl rfl hk hlt2 rfl | exact aop_iaddrM (enc := encRowD) rfl rfl hkj hltj rfl)) | ((first | apply Go.no | apply Go.sno | apply Qg.no); exact rfl) | (apply Go.app1; exact rfl; exact rfl; exact rfl; exact rfl; exact rfl; exact hl3; exact hj; exact rfl; exact hbd; intro v' junk' hj') | ((first | apply Go.pcall | apply Go.spcall | apply Qg.pcall); (iterate 3 exact rfl); exact c3) | (exfalso; omega) | (((first | apply Go.iQ | apply Go.gQ | apply Go.sQ | apply Qg.gQ); exact rfl; (first | exact .d | exact .e | exact .n | ((fail_if_success exact bqt); (fail_if_success exact bqf); exact .b))) <;> intro _)
          exact Go.keep [0, 1, 2, 7, 8, 9, 10] (hK _ _ ⟨v', junk', fl ++ [[.int .i64 3, .int .i64 k, .int .i64 db[i].rows[j].id]], hj', hcl.snoc _ _ _, ⟨by rw [List.length_append, List.length_singleton]; omega, by rw [empty_snoc, hd]; simp⟩, rfl, rfl⟩)
      clear hd hfl hcl hj c3
      clear fl junk v
      rintro fr τ ⟨v, junk, fl, hj, hcl, ⟨hfl, hd⟩, rfl, rfl⟩
      have hbd : (fl.length + 1) * 24 ≤ 140737488355328 := by omega
      have hl3 := hcl.len
      cases fd
      · repeat' first | (apply Go.adm; exact rfl) | apply Go.qs | apply Qg.nil | ((first | apply Go.v2 | apply Go.v1); (first | exact leAdd | assumption); iterate 6 exact rfl) | ((first | apply Go.op | apply Go.sop | apply Qg.op); exact rfl; (first | exact aop_alloc | exact aop_new rfl rfl | exact aop_mksl rfl | exact aop_lenM rfl | exact rfl | exact aL rfl rfl rfl rfl rfl | exact aS rfl rfl rfl rfl rfl rfl rfl | exact aop_iaddrM (enc := encTable) rfl rfl hk hlt rfl | exact aop_iaddrM (enc := encData) rfl rfl hk hlt2 rfl | exact aop_iaddrM (enc := encRowD) rfl rfl hkj hltj rfl)) | ((first | apply Go.no | apply Go.sno | apply Qg.no); exact rfl) | ((first | apply Go.pcall | apply Go.spcall | apply Qg.pcall); (iterate 3 exact rfl); exact c4) | (exfalso; omega) | (((first | apply Go.iQ | apply Go.gQ | apply Go.sQ | apply Qg.gQ); exact rfl; (first | exact .d | exact .e | exact .n | ((fail_if_success exact bqt); (fail_if_success exact bqf); exact .b))) <;> intro _)
        exact Go.keep [0, 1, 2, 7, 8, 9] (hrecj2 v junk fl hj hcl (by omega) (by rw [hd, Bool.false_or]) _ _ rfl rfl)
      · repeat' first | (apply Go.adm; exact rfl) | apply Go.qs | apply Qg.nil | ((first | apply Go.v2 | apply Go.v1); (first | exact leAdd | assumption); iterate 6 exact rfl) | ((first | apply Go.op | apply Go.sop | apply Qg.op); exact rfl; (first | exact aop_alloc | exact aop_new rfl rfl | exact aop_mksl rfl | exact aop_lenM rfl | exact rfl | exact aL rfl rfl rfl rfl rfl | exact aS rfl rfl rfl rfl rfl rfl rfl | exact aop_iaddrM (enc := encTable) rfl rfl hk hlt rfl | exact aop_iaddrM (enc := encData) rfl rfl hk hlt2 rfl | exact aop_iaddrM (enc := encRowD) rfl rfl hkj hltj rfl)) | ((first | apply Go.no | apply Go.sno | apply Qg.no); exact rfl) | (apply Go.app1; exact rfl; exact rfl; exact rfl; exact rfl; exact rfl; exact hl3; exact hj; exact rfl; exact hbd; intro v' junk' hj') | ((first | apply Go.pcall | apply Go.spcall | apply Qg.pcall); (iterate 3 exact rfl); exact c4) | (exfalso; omega) | (((first | apply Go.iQ | apply Go.gQ | apply Go.sQ | apply Qg.gQ); exact rfl; (first | exact .d | exact .e | exact .n | ((fail_if_success exact bqt); (fail_if_success exact bqf); exact .b))) <;> intro _)
        exact Go.keep [0, 1, 2, 7, 8, 9] (hrecj2 v' junk' (fl ++ [[.int .i64 4, .int .i64 k, .int .i64 db[i].rows[j].id]]) hj' (hcl.snoc _ _ _) (by rw [List.length_append, List.length_singleton]; omega) (by rw [empty_snoc, hd]; simp) _ _ rfl rfl)
    · rw [List.drop_eq_nil_of_le (by omega), List.any_nil, Bool.false_or] at hd
      repeat' first | (apply Go.adm; exact rfl) | apply Go.qs | apply Qg.nil | ((first | apply Go.v2 | apply Go.v1); (first | exact leAdd | assumption); iterate 6 exact rfl) | ((first | apply Go.op | apply Go.sop | apply Qg.op); exact rfl; (first | exact aop_alloc | exact aop_new rfl rfl | exact aop_mksl rfl | exact aop_lenM rfl | exact rfl | exact aL rfl rfl rfl rfl rfl | exact aS rfl rfl rfl rfl rfl rfl rfl | exact aop_iaddrM (enc := encData) rfl rfl hk hlt2 rfl)) | ((first | apply Go.no | apply Go.sno | apply Qg.no); exact rfl) | (exfalso; omega) | (((first | apply Go.iQ | apply Go.gQ | apply Go.sQ | apply Qg.gQ); exact rfl; (first | exact .d | exact .e | exact .n | ((fail_if_success exact bqt); (fail_if_success exact bqf); exact .b))) <;> intro _)
      exact Go.keep [0, 1, 2, 7, 8] (hrec2 v junk fl hj hcl (by omega) hd _ _ rfl rfl)
  · repeat' first | (apply Go.adm; exact rfl) | apply Go.qs | apply Qg.nil | ((first | apply Go.v2 | apply Go.v1); (first | exact leAdd | assumption); iterate 6 exact rfl) | ((first | apply Go.op | apply Go.sop | apply Qg.op); exact rfl; (first | exact aop_alloc | exact aop_new rfl rfl | exact aop_mksl rfl | exact aop_lenM rfl | exact rfl | exact aL rfl rfl rfl rfl rfl | exact aS rfl rfl rfl rfl rfl rfl rfl)) | ((first | apply Go.no | apply Go.sno | apply Qg.no); exact rfl) | (exfalso; omega) | (((first | apply Go.iQ | apply Go.gQ | apply Go.sQ | apply Qg.gQ); exact rfl; (first | exact .d | exact .e | exact .n | ((fail_if_success exact bqt); (fail_if_success exact bqf); exact .b))) <;> intro _)
    rw [List.drop_eq_nil_of_le (by omega), List.drop_eq_nil_of_le (by omega), show dbBadAux s db (!now) [] [] = false from rfl, Bool.or_false] at hd
    exact .ret rfl ⟨fl, ⟨v, junk, hj, rfl, rfl⟩, by rw [hd, Bool.not_not]⟩
end Go.Proofs.YtcfpdongfdhgjaaGreat.Am

/- Sound databases; sessions. -/
set_option linter.unusedVariables false
set_option linter.unusedSimpArgs false
namespace Go.Proofs.YtcfpdongfdhgjaaGreat.Am

theorem empty_len {α : Type} {l : List α} {b : Bool} (h : l.isEmpty = !b) : ((l.length : Int) == 0) = !b := by
  rw [← h]
  cases l
  · rfl
  · simp; omega
theorem Sound_ok (s : List Table) (db : List Data) (hx : s.length ≤ 34359738368) (hb : ∀ t ∈ s, bTable 34359738368 t) (hd : db.length ≤ 34359738368) (hdb : ∀ d ∈ db, bData 34359738368 d) : Pure Tryz.prog 141 [.c (.fz (s.map encTable)), .c (.fz (db.map encData))] (.c (.bool (soundF s db true))) := by
  refine Pure.run mixed c_impl_Sound_ok (Nat.le_of_ble_eq_true rfl) fun σ hS hA => ?_
  clear hS hA
  have c1 := DbOk_ok s db hx hb hd hdb
  rw [soundF]
  cases h : dbF s db
  · rw [h] at c1
    repeat' first | (apply Go.adm; exact rfl) | apply Go.qs | apply Qg.nil | ((first | apply Go.v2 | apply Go.v1); (first | exact leAdd | assumption); iterate 6 exact rfl) | ((first | apply Go.op | apply Go.sop | apply Qg.op); exact rfl; (first | exact aop_alloc | exact aop_new rfl rfl | exact aop_mksl rfl | exact aop_lenM rfl | exact rfl | exact aL rfl rfl rfl rfl rfl | exact aS rfl rfl rfl rfl rfl rfl rfl)) | ((first | apply Go.no | apply Go.sno | apply Qg.no); exact rfl) | ((first | apply Go.pcall | apply Go.spcall | apply Qg.pcall); (iterate 3 exact rfl); exact c1) | (exfalso; omega) | (((first | apply Go.iQ | apply Go.gQ | apply Go.sQ | apply Qg.gQ); exact rfl; (first | exact .d | exact .e | exact .n | ((fail_if_success exact bqt); (fail_if_success exact bqf); exact .b))) <;> intro _)
    exact .ret rfl (.bool rfl)
  · rw [h] at c1
    repeat' first | (apply Go.adm; exact rfl) | apply Go.qs | apply Qg.nil | ((first | apply Go.v2 | apply Go.v1); (first | exact leAdd | assumption); iterate 6 exact rfl) | ((first | apply Go.op | apply Go.sop | apply Qg.op); exact rfl; (first | exact aop_alloc | exact aop_new rfl rfl | exact aop_mksl rfl | exact aop_lenM rfl | exact rfl | exact aL rfl rfl rfl rfl rfl | exact aS rfl rfl rfl rfl rfl rfl rfl)) | ((first | apply Go.no | apply Go.sno | apply Qg.no); exact rfl) | ((first | apply Go.pcall | apply Go.spcall | apply Qg.pcall); (iterate 3 exact rfl); exact c1) | (exfalso; omega) | (((first | apply Go.iQ | apply Go.gQ | apply Go.sQ | apply Qg.gQ); exact rfl; (first | exact .d | exact .e | exact .n | ((fail_if_success exact bqt); (fail_if_success exact bqf); exact .b))) <;> intro _)
    refine Go.call _ rfl rfl rfl (flaws_ok s db true h hb _) ?_
    rintro r τ ⟨fl, ⟨v, junk, hj, rfl, rfl⟩, he⟩
    have he2 := empty_len he
    rw [E_E]
    repeat' first | (apply Go.adm; exact rfl) | apply Go.qs | apply Qg.nil | ((first | apply Go.v2 | apply Go.v1); (first | exact leAdd | assumption); iterate 6 exact rfl) | ((first | apply Go.op | apply Go.sop | apply Qg.op); exact rfl; (first | exact aop_alloc | exact aop_new rfl rfl | exact aop_mksl rfl | exact aop_lenM rfl | exact rfl | exact aL rfl rfl rfl rfl rfl | exact aS rfl rfl rfl rfl rfl rfl rfl)) | ((first | apply Go.no | apply Go.sno | apply Qg.no); exact rfl) | (exfalso; omega) | (((first | apply Go.iQ | apply Go.gQ | apply Go.sQ | apply Qg.gQ); exact rfl; (first | exact .d | exact .e | exact .n | ((fail_if_success exact bqt); (fail_if_success exact bqf); exact .b))) <;> intro _)
    exact .ret rfl (.bool (he2.trans rfl))
theorem SoundNow_ok (s : List Table) (db : List Data) (hx : s.length ≤ 34359738368) (hb : ∀ t ∈ s, bTable 34359738368 t) (hd : db.length ≤ 34359738368) (hdb : ∀ d ∈ db, bData 34359738368 d) : Pure Tryz.prog 140 [.c (.fz (s.map encTable)), .c (.fz (db.map encData))] (.c (.bool (soundF s db false))) := by
  refine Pure.run mixed c_impl_SoundNow_ok (Nat.le_of_ble_eq_true rfl) fun σ hS hA => ?_
  clear hS hA
  have c1 := DbOk_ok s db hx hb hd hdb
  rw [soundF]
  cases h : dbF s db
  · rw [h] at c1
    repeat' first | (apply Go.adm; exact rfl) | apply Go.qs | apply Qg.nil | ((first | apply Go.v2 | apply Go.v1); (first | exact leAdd | assumption); iterate 6 exact rfl) | ((first | apply Go.op | apply Go.sop | apply Qg.op); exact rfl; (first | exact aop_alloc | exact aop_new rfl rfl | exact aop_mksl rfl | exact aop_lenM rfl | exact rfl | exact aL rfl rfl rfl rfl rfl | exact aS rfl rfl rfl rfl rfl rfl rfl)) | ((first | apply Go.no | apply Go.sno | apply Qg.no); exact rfl) | ((first | apply Go.pcall | apply Go.spcall | apply Qg.pcall); (iterate 3 exact rfl); exact c1) | (exfalso; omega) | (((first | apply Go.iQ | apply Go.gQ | apply Go.sQ | apply Qg.gQ); exact rfl; (first | exact .d | exact .e | exact .n | ((fail_if_success exact bqt); (fail_if_success exact bqf); exact .b))) <;> intro _)
    exact .ret rfl (.bool rfl)
  · rw [h] at c1
    repeat' first | (apply Go.adm; exact rfl) | apply Go.qs | apply Qg.nil | ((first | apply Go.v2 | apply Go.v1); (first | exact leAdd | assumption); iterate 6 exact rfl) | ((first | apply Go.op | apply Go.sop | apply Qg.op); exact rfl; (first | exact aop_alloc | exact aop_new rfl rfl | exact aop_mksl rfl | exact aop_lenM rfl | exact rfl | exact aL rfl rfl rfl rfl rfl | exact aS rfl rfl rfl rfl rfl rfl rfl)) | ((first | apply Go.no | apply Go.sno | apply Qg.no); exact rfl) | ((first | apply Go.pcall | apply Go.spcall | apply Qg.pcall); (iterate 3 exact rfl); exact c1) | (exfalso; omega) | (((first | apply Go.iQ | apply Go.gQ | apply Go.sQ | apply Qg.gQ); exact rfl; (first | exact .d | exact .e | exact .n | ((fail_if_success exact bqt); (fail_if_success exact bqf); exact .b))) <;> intro _)
    refine Go.call _ rfl rfl rfl (flaws_ok s db false h hb _) ?_
    rintro r τ ⟨fl, ⟨v, junk, hj, rfl, rfl⟩, he⟩
    have he2 := empty_len he
    rw [E_E]
    repeat' first | (apply Go.adm; exact rfl) | apply Go.qs | apply Qg.nil | ((first | apply Go.v2 | apply Go.v1); (first | exact leAdd | assumption); iterate 6 exact rfl) | ((first | apply Go.op | apply Go.sop | apply Qg.op); exact rfl; (first | exact aop_alloc | exact aop_new rfl rfl | exact aop_mksl rfl | exact aop_lenM rfl | exact rfl | exact aL rfl rfl rfl rfl rfl | exact aS rfl rfl rfl rfl rfl rfl rfl)) | ((first | apply Go.no | apply Go.sno | apply Qg.no); exact rfl) | (exfalso; omega) | (((first | apply Go.iQ | apply Go.gQ | apply Go.sQ | apply Qg.gQ); exact rfl; (first | exact .d | exact .e | exact .n | ((fail_if_success exact bqt); (fail_if_success exact bqf); exact .b))) <;> intro _)
    exact .ret rfl (.bool (he2.trans rfl))
theorem sSound_ok (s : List Table) (db : List Data) (hx : s.length ≤ 34359738368) (hb : ∀ t ∈ s, bTable 34359738368 t) (hd : db.length ≤ 34359738368) (hdb : ∀ d ∈ db, bData 34359738368 d) : Pure Tryz.prog 137 [.c (.fz (s.map encTable)), .c (.fz (db.map encData))] (.c (.bool (soundF s db true))) := by
  refine Pure.run mixed c_spec_Sound_ok (Nat.le_of_ble_eq_true rfl) fun σ hS hA => ?_
  clear hS hA
  have c1 := sDbOk_ok s db hx hb hd hdb
  rw [soundF]
  cases h : dbF s db
  · rw [h] at c1
    repeat' first | (apply Go.adm; exact rfl) | apply Go.qs | apply Qg.nil | ((first | apply Go.v2 | apply Go.v1); (first | exact leAdd | assumption); iterate 6 exact rfl) | ((first | apply Go.op | apply Go.sop | apply Qg.op); exact rfl; (first | exact aop_alloc | exact aop_new rfl rfl | exact aop_mksl rfl | exact aop_lenM rfl | exact rfl | exact aL rfl rfl rfl rfl rfl | exact aS rfl rfl rfl rfl rfl rfl rfl)) | ((first | apply Go.no | apply Go.sno | apply Qg.no); exact rfl) | ((first | apply Go.pcall | apply Go.spcall | apply Qg.pcall); (iterate 3 exact rfl); exact c1) | (exfalso; omega) | (((first | apply Go.iQ | apply Go.gQ | apply Go.sQ | apply Qg.gQ); exact rfl; (first | exact .d | exact .e | exact .n | ((fail_if_success exact bqt); (fail_if_success exact bqf); exact .b))) <;> intro _)
    exact .ret rfl (.bool rfl)
  · rw [h] at c1
    repeat' first | (apply Go.adm; exact rfl) | apply Go.qs | apply Qg.nil | ((first | apply Go.v2 | apply Go.v1); (first | exact leAdd | assumption); iterate 6 exact rfl) | ((first | apply Go.op | apply Go.sop | apply Qg.op); exact rfl; (first | exact aop_alloc | exact aop_new rfl rfl | exact aop_mksl rfl | exact aop_lenM rfl | exact rfl | exact aL rfl rfl rfl rfl rfl | exact aS rfl rfl rfl rfl rfl rfl rfl)) | ((first | apply Go.no | apply Go.sno | apply Qg.no); exact rfl) | ((first | apply Go.pcall | apply Go.spcall | apply Qg.pcall); (iterate 3 exact rfl); exact c1) | (exfalso; omega) | (((first | apply Go.iQ | apply Go.gQ | apply Go.sQ | apply Qg.gQ); exact rfl; (first | exact .d | exact .e | exact .n | ((fail_if_success exact bqt); (fail_if_success exact bqf); exact .b))) <;> intro _)
    refine Go.call _ rfl rfl rfl (l5Flaws_ok s db false h hb _) ?_
    rintro r τ ⟨fl, ⟨v, junk, hj, rfl, rfl⟩, he⟩
    have he2 := empty_len he
    rw [E_E]
    repeat' first | (apply Go.adm; exact rfl) | apply Go.qs | apply Qg.nil | ((first | apply Go.v2 | apply Go.v1); (first | exact leAdd | assumption); iterate 6 exact rfl) | ((first | apply Go.op | apply Go.sop | apply Qg.op); exact rfl; (first | exact aop_alloc | exact aop_new rfl rfl | exact aop_mksl rfl | exact aop_lenM rfl | exact rfl | exact aL rfl rfl rfl rfl rfl | exact aS rfl rfl rfl rfl rfl rfl rfl)) | ((first | apply Go.no | apply Go.sno | apply Qg.no); exact rfl) | (exfalso; omega) | (((first | apply Go.iQ | apply Go.gQ | apply Go.sQ | apply Qg.gQ); exact rfl; (first | exact .d | exact .e | exact .n | ((fail_if_success exact bqt); (fail_if_success exact bqf); exact .b))) <;> intro _)
    exact .ret rfl (.bool (he2.trans rfl))
theorem sSoundNow_ok (s : List Table) (db : List Data) (hx : s.length ≤ 34359738368) (hb : ∀ t ∈ s, bTable 34359738368 t) (hd : db.length ≤ 34359738368) (hdb : ∀ d ∈ db, bData 34359738368 d) : Pure Tryz.prog 136 [.c (.fz (s.map encTable)), .c (.fz (db.map encData))] (.c (.bool (soundF s db false))) := by
  refine Pure.run mixed c_spec_SoundNow_ok (Nat.le_of_ble_eq_true rfl) fun σ hS hA => ?_
  clear hS hA
  have c1 := sDbOk_ok s db hx hb hd hdb
  rw [soundF]
  cases h : dbF s db
  · rw [h] at c1
    repeat' first | (apply Go.adm; exact rfl) | apply Go.qs | apply Qg.nil | ((first | apply Go.v2 | apply Go.v1); (first | exact leAdd | assumption); iterate 6 exact rfl) | ((first | apply Go.op | apply Go.sop | apply Qg.op); exact rfl; (first | exact aop_alloc | exact aop_new rfl rfl | exact aop_mksl rfl | exact aop_lenM rfl | exact rfl | exact aL rfl rfl rfl rfl rfl | exact aS rfl rfl rfl rfl rfl rfl rfl)) | ((first | apply Go.no | apply Go.sno | apply Qg.no); exact rfl) | ((first | apply Go.pcall | apply Go.spcall | apply Qg.pcall); (iterate 3 exact rfl); exact c1) | (exfalso; omega) | (((first | apply Go.iQ | apply Go.gQ | apply Go.sQ | apply Qg.gQ); exact rfl; (first | exact .d | exact .e | exact .n | ((fail_if_success exact bqt); (fail_if_success exact bqf); exact .b))) <;> intro _)
    exact .ret rfl (.bool rfl)
  · rw [h] at c1
    repeat' first | (apply Go.adm; exact rfl) | apply Go.qs | apply Qg.nil | ((first | apply Go.v2 | apply Go.v1); (first | exact leAdd | assumption); iterate 6 exact rfl) | ((first | apply Go.op | apply Go.sop | apply Qg.op); exact rfl; (first | exact aop_alloc | exact aop_new rfl rfl | exact aop_mksl rfl | exact aop_lenM rfl | exact rfl | exact aL rfl rfl rfl rfl rfl | exact aS rfl rfl rfl rfl rfl rfl rfl)) | ((first | apply Go.no | apply Go.sno | apply Qg.no); exact rfl) | ((first | apply Go.pcall | apply Go.spcall | apply Qg.pcall); (iterate 3 exact rfl); exact c1) | (exfalso; omega) | (((first | apply Go.iQ | apply Go.gQ | apply Go.sQ | apply Qg.gQ); exact rfl; (first | exact .d | exact .e | exact .n | ((fail_if_success exact bqt); (fail_if_success exact bqf); exact .b))) <;> intro _)
    refine Go.call _ rfl rfl rfl (l5Flaws_ok s db true h hb _) ?_
    rintro r τ ⟨fl, ⟨v, junk, hj, rfl, rfl⟩, he⟩
    have he2 := empty_len he
    rw [E_E]
    repeat' first | (apply Go.adm; exact rfl) | apply Go.qs | apply Qg.nil | ((first | apply Go.v2 | apply Go.v1); (first | exact leAdd | assumption); iterate 6 exact rfl) | ((first | apply Go.op | apply Go.sop | apply Qg.op); exact rfl; (first | exact aop_alloc | exact aop_new rfl rfl | exact aop_mksl rfl | exact aop_lenM rfl | exact rfl | exact aL rfl rfl rfl rfl rfl | exact aS rfl rfl rfl rfl rfl rfl rfl)) | ((first | apply Go.no | apply Go.sno | apply Qg.no); exact rfl) | (exfalso; omega) | (((first | apply Go.iQ | apply Go.gQ | apply Go.sQ | apply Qg.gQ); exact rfl; (first | exact .d | exact .e | exact .n | ((fail_if_success exact bqt); (fail_if_success exact bqf); exact .b))) <;> intro _)
    exact .ret rfl (.bool (he2.trans rfl))
def saveBad (s : List Table) (v : Save) : Bool := !isNameF v.name || !soundF s v.db false
def sessF (x : Session) : Bool := soundF x.schema x.db false && (decide (x.saves.length ≤ 8) &&
  (if x.isOpen then soundF x.schema x.start true && !(x.saves.any (saveBad x.schema)) else soundF x.schema x.db true && ((x.start.length : Int) == 0 && (x.saves.length : Int) == 0)))
theorem SessionOk1_ok (x : Session) (v : Save) (hx : bSession 34359738368 x) (hv : bSave 34359738368 v) : Pure Tryz.prog 143 [.agg (encSave v), .c (.fp (encSession x))] (.c (.bool (saveBad x.schema v))) := by
  refine Pure.run mixed c_impl_SessionOk_1_ok (Nat.le_of_ble_eq_true rfl) fun σ hS hA => ?_
  clear hS hA
  have c1 := isName_ok v.name hv.1
  have c2 := SoundNow_ok x.schema v.db hx.1.1 hx.1.2 hv.2.1 hv.2.2
  rw [saveBad]
  generalize soundF x.schema v.db false = b at c2 ⊢
  cases hn : isNameF v.name
  · rw [hn] at c1
    repeat' first | (apply Go.adm; exact rfl) | apply Go.qs | apply Qg.nil | ((first | apply Go.v2 | apply Go.v1); (first | exact leAdd | assumption); iterate 6 exact rfl) | ((first | apply Go.op | apply Go.sop | apply Qg.op); exact rfl; (first | exact aop_alloc | exact aop_new rfl rfl | exact aop_mksl rfl | exact aop_lenM rfl | exact rfl | exact aL rfl rfl rfl rfl rfl | exact aS rfl rfl rfl rfl rfl rfl rfl)) | ((first | apply Go.no | apply Go.sno | apply Qg.no); exact rfl) | ((first | apply Go.pcall | apply Go.spcall | apply Qg.pcall); (iterate 3 exact rfl); exact c1) | (exfalso; omega) | (((first | apply Go.iQ | apply Go.gQ | apply Go.sQ | apply Qg.gQ); exact rfl; (first | exact .d | exact .e | exact .n | ((fail_if_success exact bqt); (fail_if_success exact bqf); exact .b))) <;> intro _)
    exact .ret rfl (.bool rfl)
  · rw [hn] at c1
    repeat' first | (apply Go.adm; exact rfl) | apply Go.qs | apply Qg.nil | ((first | apply Go.v2 | apply Go.v1); (first | exact leAdd | assumption); iterate 6 exact rfl) | ((first | apply Go.op | apply Go.sop | apply Qg.op); exact rfl; (first | exact aop_alloc | exact aop_new rfl rfl | exact aop_mksl rfl | exact aop_lenM rfl | exact rfl | exact aL rfl rfl rfl rfl rfl | exact aS rfl rfl rfl rfl rfl rfl rfl)) | ((first | apply Go.no | apply Go.sno | apply Qg.no); exact rfl) | ((first | apply Go.pcall | apply Go.spcall | apply Qg.pcall); (iterate 3 exact rfl); (first | exact c1 | exact c2)) | (exfalso; omega) | (((first | apply Go.iQ | apply Go.gQ | apply Go.sQ | apply Qg.gQ); exact rfl; (first | exact .d | exact .e | exact .n | ((fail_if_success exact bqt); (fail_if_success exact bqf); exact .b))) <;> intro _)
    exact .ret rfl (.bool rfl)
theorem SessionOk_ok (x : Session) (hx : bSession 34359738368 x) : Pure Tryz.prog 62 [.agg (encSession x)] (.c (.bool (sessF x))) := by
  refine Pure.run mixed c_impl_SessionOk_ok (Nat.le_of_ble_eq_true rfl) fun σ hS hA => ?_
  clear hS hA
  obtain ⟨⟨hs1, hs2⟩, ⟨hd1, hd2⟩, ⟨ht1, ht2⟩, hv1, hv2⟩ := id hx
  have c1 := SoundNow_ok x.schema x.db hs1 hs2 hd1 hd2
  rw [sessF]
  cases h1 : soundF x.schema x.db false
  · rw [h1] at c1
    repeat' first | (apply Go.adm; exact rfl) | apply Go.qs | apply Qg.nil | ((first | apply Go.v2 | apply Go.v1); (first | exact leAdd | assumption); iterate 6 exact rfl) | ((first | apply Go.op | apply Go.sop | apply Qg.op); exact rfl; (first | exact aop_alloc | exact aop_new rfl rfl | exact aop_mksl rfl | exact aop_lenM rfl | exact rfl | exact aL rfl rfl rfl rfl rfl | exact aS rfl rfl rfl rfl rfl rfl rfl)) | ((first | apply Go.no | apply Go.sno | apply Qg.no); exact rfl) | ((first | apply Go.pcall | apply Go.spcall | apply Qg.pcall); (iterate 3 exact rfl); exact c1) | (exfalso; omega) | (((first | apply Go.iQ | apply Go.gQ | apply Go.sQ | apply Qg.gQ); exact rfl; (first | exact .d | exact .e | exact .n | ((fail_if_success exact bqt); (fail_if_success exact bqf); exact .b))) <;> intro _)
    exact .ret rfl (.bool rfl)
  rw [h1] at c1
  by_cases h8 : x.saves.length ≤ 8
  · rw [decide_eq_true h8, Bool.true_and, Bool.true_and]
    cases ho : x.isOpen
    · have c2 := Sound_ok x.schema x.db hs1 hs2 hd1 hd2
      rw [if_neg Bool.false_ne_true]
      cases h2 : soundF x.schema x.db true
      · rw [h2] at c2
        repeat' first | (apply Go.adm; exact rfl) | apply Go.qs | apply Qg.nil | ((first | apply Go.v2 | apply Go.v1); (first | exact leAdd | assumption); iterate 6 exact rfl) | ((first | apply Go.op | apply Go.sop | apply Qg.op); exact rfl; (first | exact aop_alloc | exact aop_new rfl rfl | exact aop_mksl rfl | exact aop_lenM rfl | exact rfl | exact aL rfl rfl rfl rfl rfl | exact aS rfl rfl rfl rfl rfl rfl rfl)) | ((first | apply Go.no | apply Go.sno | apply Qg.no); exact rfl) | ((first | apply Go.pcall | apply Go.spcall | apply Qg.pcall); (iterate 3 exact rfl); (first | exact c1 | exact c2)) | (exfalso; omega) | (((first | apply Go.iQ | apply Go.gQ | apply Go.sQ | apply Qg.gQ); exact rfl; (first | exact .d | exact .e | exact .n | ((fail_if_success exact bqt); (fail_if_success exact bqf); exact .b))) <;> intro _)
        all_goals first
          | exact .ret rfl (.bool rfl)
          | (exfalso; simp_all; done)
      · rw [h2] at c2
        by_cases h0 : (x.start.length : Int) = 0
        · rw [beq_iff_eq.2 h0]
          repeat' first | (apply Go.adm; exact rfl) | apply Go.qs | apply Qg.nil | ((first | apply Go.v2 | apply Go.v1); (first | exact leAdd | assumption); iterate 6 exact rfl) | ((first | apply Go.op | apply Go.sop | apply Qg.op); exact rfl; (first | exact aop_alloc | exact aop_new rfl rfl | exact aop_mksl rfl | exact aop_lenM rfl | exact rfl | exact aL rfl rfl rfl rfl rfl | exact aS rfl rfl rfl rfl rfl rfl rfl)) | ((first | apply Go.no | apply Go.sno | apply Qg.no); exact rfl) | ((first | apply Go.pcall | apply Go.spcall | apply Qg.pcall); (iterate 3 exact rfl); (first | exact c1 | exact c2)) | (exfalso; omega) | (((first | apply Go.iQ | apply Go.gQ | apply Go.sQ | apply Qg.gQ); exact rfl; (first | exact .d | exact .e | exact .n | ((fail_if_success exact bqt); (fail_if_success exact bqf); exact .b))) <;> intro _)
          all_goals first
            | exact .ret rfl (.bool rfl)
            | (exfalso; simp_all; done)
            | (refine .ret rfl (.bool ?_); simp_all; done)
        · rw [beq_eq_false_iff_ne.2 h0]
          repeat' first | (apply Go.adm; exact rfl) | apply Go.qs | apply Qg.nil | ((first | apply Go.v2 | apply Go.v1); (first | exact leAdd | assumption); iterate 6 exact rfl) | ((first | apply Go.op | apply Go.sop | apply Qg.op); exact rfl; (first | exact aop_alloc | exact aop_new rfl rfl | exact aop_mksl rfl | exact aop_lenM rfl | exact rfl | exact aL rfl rfl rfl rfl rfl | exact aS rfl rfl rfl rfl rfl rfl rfl)) | ((first | apply Go.no | apply Go.sno | apply Qg.no); exact rfl) | ((first | apply Go.pcall | apply Go.spcall | apply Qg.pcall); (iterate 3 exact rfl); (first | exact c1 | exact c2)) | (exfalso; omega) | (((first | apply Go.iQ | apply Go.gQ | apply Go.sQ | apply Qg.gQ); exact rfl; (first | exact .d | exact .e | exact .n | ((fail_if_success exact bqt); (fail_if_success exact bqf); exact .b))) <;> intro _)
          all_goals first
            | exact .ret rfl (.bool rfl)
            | (exfalso; simp_all; done)
            | (refine .ret rfl (.bool ?_); simp_all; done)
    · have c2 := Sound_ok x.schema x.start hs1 hs2 ht1 ht2
      have cc := containsFuncA_ok mixed c_slices_ContainsFunc_Save_ok c_slices_IndexFunc_Save_ok encSave (fun u => .agg (encSave u)) (fun _ => rfl) (fun _ => rfl) x.saves (saveBad x.schema) 143 [] [.fp (encSession x)] hv1 (fun j hj _ => SessionOk1_ok x _ hx (hv2 _ (List.getElem_mem hj)))
      rw [if_pos rfl]
      generalize x.saves.any (saveBad x.schema) = b at cc ⊢
      cases h2 : soundF x.schema x.start true
      · rw [h2] at c2
        repeat' first | (apply Go.adm; exact rfl) | apply Go.qs | apply Qg.nil | ((first | apply Go.v2 | apply Go.v1); (first | exact leAdd | assumption); iterate 6 exact rfl) | ((first | apply Go.op | apply Go.sop | apply Qg.op); exact rfl; (first | exact aop_alloc | exact aop_new rfl rfl | exact aop_mksl rfl | exact aop_lenM rfl | exact rfl | exact aL rfl rfl rfl rfl rfl | exact aS rfl rfl rfl rfl rfl rfl rfl)) | ((first | apply Go.no | apply Go.sno | apply Qg.no); exact rfl) | ((first | apply Go.pcall | apply Go.spcall | apply Qg.pcall); (iterate 3 exact rfl); (first | exact c1 | exact c2)) | (exfalso; omega) | (((first | apply Go.iQ | apply Go.gQ | apply Go.sQ | apply Qg.gQ); exact rfl; (first | exact .d | exact .e | exact .n | ((fail_if_success exact bqt); (fail_if_success exact bqf); exact .b))) <;> intro _)
        all_goals first
          | exact .ret rfl (.bool rfl)
          | (exfalso; simp_all; done)
      · rw [h2] at c2
        repeat' first | (apply Go.adm; exact rfl) | apply Go.qs | apply Qg.nil | ((first | apply Go.v2 | apply Go.v1); (first | exact leAdd | assumption); iterate 6 exact rfl) | ((first | apply Go.op | apply Go.sop | apply Qg.op); exact rfl; (first | exact aop_alloc | exact aop_new rfl rfl | exact aop_mksl rfl | exact aop_lenM rfl | exact rfl | exact aL rfl rfl rfl rfl rfl | exact aS rfl rfl rfl rfl rfl rfl rfl)) | ((first | apply Go.no | apply Go.sno | apply Qg.no); exact rfl) | ((first | apply Go.pcall | apply Go.spcall | apply Qg.pcall); (iterate 3 exact rfl); (first | exact c1 | exact c2 | exact cc)) | (exfalso; omega) | (((first | apply Go.iQ | apply Go.gQ | apply Go.sQ | apply Qg.gQ); exact rfl; (first | exact .d | exact .e | exact .n | ((fail_if_success exact bqt); (fail_if_success exact bqf); exact .b))) <;> intro _)
        all_goals first
          | exact .ret rfl (.bool rfl)
          | (exfalso; simp_all; done)
  · rw [decide_eq_false h8]
    repeat' first | (apply Go.adm; exact rfl) | apply Go.qs | apply Qg.nil | ((first | apply Go.v2 | apply Go.v1); (first | exact leAdd | assumption); iterate 6 exact rfl) | ((first | apply Go.op | apply Go.sop | apply Qg.op); exact rfl; (first | exact aop_alloc | exact aop_new rfl rfl | exact aop_mksl rfl | exact aop_lenM rfl | exact rfl | exact aL rfl rfl rfl rfl rfl | exact aS rfl rfl rfl rfl rfl rfl rfl)) | ((first | apply Go.no | apply Go.sno | apply Qg.no); exact rfl) | ((first | apply Go.pcall | apply Go.spcall | apply Qg.pcall); (iterate 3 exact rfl); exact c1) | (exfalso; omega) | (((first | apply Go.iQ | apply Go.gQ | apply Go.sQ | apply Qg.gQ); exact rfl; (first | exact .d | exact .e | exact .n | ((fail_if_success exact bqt); (fail_if_success exact bqf); exact .b))) <;> intro _)
    all_goals first
      | exact .ret rfl (.bool rfl)
      | (exfalso; omega)
theorem sSessionOk_ok (x : Session) (hx : bSession 34359738368 x) : Pure Tryz.prog 60 [.agg (encSession x)] (.c (.bool (sessF x))) := by
  refine Pure.run mixed c_spec_SessionOk_ok (Nat.le_of_ble_eq_true rfl) fun σ hS hA => ?_
  clear hS hA
  obtain ⟨⟨hs1, hs2⟩, ⟨hd1, hd2⟩, ⟨ht1, ht2⟩, hv1, hv2⟩ := id hx
  have c1 := sSoundNow_ok x.schema x.db hs1 hs2 hd1 hd2
  rw [sessF]
  cases h1 : soundF x.schema x.db false
  · rw [h1] at c1
    repeat' first | (apply Go.adm; exact rfl) | apply Go.qs | apply Qg.nil | ((first | apply Go.v2 | apply Go.v1); (first | exact leAdd | assumption); iterate 6 exact rfl) | ((first | apply Go.op | apply Go.sop | apply Qg.op); exact rfl; (first | exact aop_alloc | exact aop_new rfl rfl | exact aop_mksl rfl | exact aop_lenM rfl | exact rfl | exact aL rfl rfl rfl rfl rfl | exact aS rfl rfl rfl rfl rfl rfl rfl)) | ((first | apply Go.no | apply Go.sno | apply Qg.no); exact rfl) | ((first | apply Go.pcall | apply Go.spcall | apply Qg.pcall); (iterate 3 exact rfl); exact c1) | (exfalso; omega) | (((first | apply Go.iQ | apply Go.gQ | apply Go.sQ | apply Qg.gQ); exact rfl; (first | exact .d | exact .e | exact .n | ((fail_if_success exact bqt); (fail_if_success exact bqf); exact .b))) <;> intro _)
    exact .ret rfl (.bool rfl)
  rw [h1] at c1
  by_cases h8 : x.saves.length ≤ 8
  · rw [decide_eq_true h8, Bool.true_and, Bool.true_and]
    cases ho : x.isOpen
    · have c2 := sSound_ok x.schema x.db hs1 hs2 hd1 hd2
      rw [if_neg Bool.false_ne_true]
      have hsum : ((IntKind.i64.wrap ((x.start.length : Int) + (x.saves.length : Int))) == 0) = ((x.start.length : Int) == 0 && (x.saves.length : Int) == 0) := by
        rw [wrap64 (by omega) (by omega), Bool.eq_iff_iff]
        simp only [beq_iff_eq, Bool.and_eq_true]
        omega
      cases h2 : soundF x.schema x.db true
      · rw [h2] at c2
        repeat' first | (apply Go.adm; exact rfl) | apply Go.qs | apply Qg.nil | ((first | apply Go.v2 | apply Go.v1); (first | exact leAdd | assumption); iterate 6 exact rfl) | ((first | apply Go.op | apply Go.sop | apply Qg.op); exact rfl; (first | exact aop_alloc | exact aop_new rfl rfl | exact aop_mksl rfl | exact aop_lenM rfl | exact rfl | exact aL rfl rfl rfl rfl rfl | exact aS rfl rfl rfl rfl rfl rfl rfl)) | ((first | apply Go.no | apply Go.sno | apply Qg.no); exact rfl) | ((first | apply Go.pcall | apply Go.spcall | apply Qg.pcall); (iterate 3 exact rfl); (first | exact c1 | exact c2)) | (exfalso; omega) | (((first | apply Go.iQ | apply Go.gQ | apply Go.sQ | apply Qg.gQ); exact rfl; (first | exact .d | exact .e | exact .n | ((fail_if_success exact bqt); (fail_if_success exact bqf); exact .b))) <;> intro _)
        all_goals first
          | exact .ret rfl (.bool rfl)
          | (exfalso; simp_all; done)
      · rw [h2] at c2
        rw [← hsum]
        repeat' first | (apply Go.adm; exact rfl) | apply Go.qs | apply Qg.nil | ((first | apply Go.v2 | apply Go.v1); (first | exact leAdd | assumption); iterate 6 exact rfl) | ((first | apply Go.op | apply Go.sop | apply Qg.op); exact rfl; (first | exact aop_alloc | exact aop_new rfl rfl | exact aop_mksl rfl | exact aop_lenM rfl | exact rfl | exact aL rfl rfl rfl rfl rfl | exact aS rfl rfl rfl rfl rfl rfl rfl)) | ((first | apply Go.no | apply Go.sno | apply Qg.no); exact rfl) | ((first | apply Go.pcall | apply Go.spcall | apply Qg.pcall); (iterate 3 exact rfl); (first | exact c1 | exact c2)) | (exfalso; omega) | (((first | apply Go.iQ | apply Go.gQ | apply Go.sQ | apply Qg.gQ); exact rfl; (first | exact .d | exact .e | exact .n | ((fail_if_success exact bqt); (fail_if_success exact bqf); exact .b))) <;> intro _)
        all_goals first
          | exact .ret rfl (.bool rfl)
          | (exfalso; simp_all; done)
    · have c2 := sSound_ok x.schema x.start hs1 hs2 ht1 ht2
      rw [if_pos rfl]
      repeat' first | (apply Go.adm; exact rfl) | apply Go.qs | apply Qg.nil | ((first | apply Go.v2 | apply Go.v1); (first | exact leAdd | assumption); iterate 6 exact rfl) | ((first | apply Go.op | apply Go.sop | apply Qg.op); exact rfl; (first | exact aop_alloc | exact aop_new rfl rfl | exact aop_mksl rfl | exact aop_lenM rfl | exact rfl | exact aL rfl rfl rfl rfl rfl | exact aS rfl rfl rfl rfl rfl rfl rfl)) | ((first | apply Go.no | apply Go.sno | apply Qg.no); exact rfl) | ((first | apply Go.pcall | apply Go.spcall | apply Qg.pcall); (iterate 3 exact rfl); exact c1) | (exfalso; omega) | (((first | apply Go.iQ | apply Go.gQ | apply Go.sQ | apply Qg.gQ); exact rfl; (first | exact .d | exact .e | exact .n | ((fail_if_success exact bqt); (fail_if_success exact bqf); exact .b))) <;> intro _)
      all_goals first
        | (exfalso; simp_all; done)
        | skip
      refine Go.keep [1, 3] (Go.loops (I := fun m fr τ => ∃ (i : Nat) (k : Int), m = x.saves.length - i ∧ i ≤ x.saves.length ∧ k = i ∧ x.saves.any (saveBad x.schema) = (x.saves.drop i).any (saveBad x.schema) ∧
        fr = [(1, .c (.fp (encSession x))), (3, .c (.int .i64 k))] ∧ τ = E σ []) ?_ _ _ _ ⟨0, _, rfl, Nat.zero_le _, rfl, rfl, rfl, rfl⟩)
      rintro m fr τ ⟨i, k, rfl, hi, hk, hs, rfl, rfl⟩ hrec
      by_cases hlt : i < x.saves.length
      · have hv := hv2 _ (List.getElem_mem hlt)
        have c3 := l3Name_ok x.saves[i].name hv.1
        have c4 := sSoundNow_ok x.schema x.saves[i].db hs1 hs2 hv.2.1 hv.2.2
        rw [List.drop_eq_getElem_cons hlt, List.any_cons, saveBad] at hs
        generalize isNameF x.saves[i].name = bn at c3 hs
        generalize soundF x.schema x.saves[i].db false = bs at c4 hs
        cases bn
        · rw [Bool.not_false, Bool.true_or, Bool.true_or] at hs
          repeat' first | (apply Go.adm; exact rfl) | apply Go.qs | apply Qg.nil | ((first | apply Go.v2 | apply Go.v1); (first | exact leAdd | assumption); iterate 6 exact rfl) | ((first | apply Go.op | apply Go.sop | apply Qg.op); exact rfl; (first | exact aop_alloc | exact aop_new rfl rfl | exact aop_mksl rfl | exact aop_lenM rfl | exact rfl | exact aL rfl rfl rfl rfl rfl | exact aS rfl rfl rfl rfl rfl rfl rfl | exact aop_iaddrM (enc := encSave) rfl rfl hk hlt rfl)) | ((first | apply Go.no | apply Go.sno | apply Qg.no); exact rfl) | ((first | apply Go.pcall | apply Go.spcall | apply Qg.pcall); (iterate 3 exact rfl); exact c3) | (exfalso; omega) | (((first | apply Go.iQ | apply Go.gQ | apply Go.sQ | apply Qg.gQ); exact rfl; (first | exact .d | exact .e | exact .n | ((fail_if_success exact bqt); (fail_if_success exact bqf); exact .b))) <;> intro _)
          exact .ret rfl (.bool (by rw [hs]; simp))
        · cases bs
          · rw [Bool.not_false, Bool.or_true, Bool.true_or] at hs
            repeat' first | (apply Go.adm; exact rfl) | apply Go.qs | apply Qg.nil | ((first | apply Go.v2 | apply Go.v1); (first | exact leAdd | assumption); iterate 6 exact rfl) | ((first | apply Go.op | apply Go.sop | apply Qg.op); exact rfl; (first | exact aop_alloc | exact aop_new rfl rfl | exact aop_mksl rfl | exact aop_lenM rfl | exact rfl | exact aL rfl rfl rfl rfl rfl | exact aS rfl rfl rfl rfl rfl rfl rfl | exact aop_iaddrM (enc := encSave) rfl rfl hk hlt rfl)) | ((first | apply Go.no | apply Go.sno | apply Qg.no); exact rfl) | ((first | apply Go.pcall | apply Go.spcall | apply Qg.pcall); (iterate 3 exact rfl); (first | exact c3 | exact c4)) | (exfalso; omega) | (((first | apply Go.iQ | apply Go.gQ | apply Go.sQ | apply Qg.gQ); exact rfl; (first | exact .d | exact .e | exact .n | ((fail_if_success exact bqt); (fail_if_success exact bqf); exact .b))) <;> intro _)
            exact .ret rfl (.bool (by rw [hs]; simp))
          · rw [Bool.not_true, Bool.or_false, Bool.false_or] at hs
            repeat' first | (apply Go.adm; exact rfl) | apply Go.qs | apply Qg.nil | ((first | apply Go.v2 | apply Go.v1); (first | exact leAdd | assumption); iterate 6 exact rfl) | ((first | apply Go.op | apply Go.sop | apply Qg.op); exact rfl; (first | exact aop_alloc | exact aop_new rfl rfl | exact aop_mksl rfl | exact aop_lenM rfl | exact rfl | exact aL rfl rfl rfl rfl rfl | exact aS rfl rfl rfl rfl rfl rfl rfl | exact aop_iaddrM (enc := encSave) rfl rfl hk hlt rfl)) | ((first | apply Go.no | apply Go.sno | apply Qg.no); exact rfl) | ((first | apply Go.pcall | apply Go.spcall | apply Qg.pcall); (iterate 3 exact rfl); (first | exact c3 | exact c4)) | (exfalso; omega) | (((first | apply Go.iQ | apply Go.gQ | apply Go.sQ | apply Qg.gQ); exact rfl; (first | exact .d | exact .e | exact .n | ((fail_if_success exact bqt); (fail_if_success exact bqf); exact .b))) <;> intro _)
            exact Go.keep [1, 3] (hrec _ _ _ (by omega) ⟨i + 1, _, rfl, hlt, wrap_succ hk (by omega), hs, rfl, rfl⟩)
      · rw [List.drop_eq_nil_of_le (by omega), List.any_nil] at hs
        repeat' first | (apply Go.adm; exact rfl) | apply Go.qs | apply Qg.nil | ((first | apply Go.v2 | apply Go.v1); (first | exact leAdd | assumption); iterate 6 exact rfl) | ((first | apply Go.op | apply Go.sop | apply Qg.op); exact rfl; (first | exact aop_alloc | exact aop_new rfl rfl | exact aop_mksl rfl | exact aop_lenM rfl | exact rfl | exact aL rfl rfl rfl rfl rfl | exact aS rfl rfl rfl rfl rfl rfl rfl)) | ((first | apply Go.no | apply Go.sno | apply Qg.no); exact rfl) | ((first | apply Go.pcall | apply Go.spcall | apply Qg.pcall); (iterate 3 exact rfl); exact c2) | (exfalso; omega) | (((first | apply Go.iQ | apply Go.gQ | apply Go.sQ | apply Qg.gQ); exact rfl; (first | exact .d | exact .e | exact .n | ((fail_if_success exact bqt); (fail_if_success exact bqf); exact .b))) <;> intro _)
        exact .ret rfl (.bool (by rw [hs]; simp))
  · rw [decide_eq_false h8]
    repeat' first | (apply Go.adm; exact rfl) | apply Go.qs | apply Qg.nil | ((first | apply Go.v2 | apply Go.v1); (first | exact leAdd | assumption); iterate 6 exact rfl) | ((first | apply Go.op | apply Go.sop | apply Qg.op); exact rfl; (first | exact aop_alloc | exact aop_new rfl rfl | exact aop_mksl rfl | exact aop_lenM rfl | exact rfl | exact aL rfl rfl rfl rfl rfl | exact aS rfl rfl rfl rfl rfl rfl rfl)) | ((first | apply Go.no | apply Go.sno | apply Qg.no); exact rfl) | ((first | apply Go.pcall | apply Go.spcall | apply Qg.pcall); (iterate 3 exact rfl); exact c1) | (exfalso; omega) | (((first | apply Go.iQ | apply Go.gQ | apply Go.sQ | apply Qg.gQ); exact rfl; (first | exact .d | exact .e | exact .n | ((fail_if_success exact bqt); (fail_if_success exact bqf); exact .b))) <;> intro _)
    all_goals first
      | exact .ret rfl (.bool rfl)
      | (exfalso; omega)
end Go.Proofs.YtcfpdongfdhgjaaGreat.Am

/- The law FnExactSessionOk: its function returns true. -/
set_option linter.unusedVariables false
set_option linter.unusedSimpArgs false
namespace Go.Proofs.YtcfpdongfdhgjaaGreat.Am

theorem SessionOk_sound (q : Session) (hq : bSession 1125899906842624 q) : Pure Tryz.prog 9 [.agg (encSession q)] (.c (.bool true)) := by
  refine Pure.run mixed c_laws_FnExactSessionOk_ok (Nat.le_of_ble_eq_true rfl) fun σ hS hA => ?_
  clear hS hA
  repeat' first | (apply Go.adm; exact rfl) | apply Go.qs | apply Qg.nil | ((first | apply Go.v2 | apply Go.v1); (first | exact leAdd | assumption); iterate 6 exact rfl) | ((first | apply Go.op | apply Go.sop | apply Qg.op); exact rfl; (first | exact aop_alloc | exact aop_new rfl rfl | exact aop_mksl rfl | exact aop_lenM rfl | exact rfl | exact aL rfl rfl rfl rfl rfl | exact aS rfl rfl rfl rfl rfl rfl rfl)) | ((first | apply Go.no | apply Go.sno | apply Qg.no); exact rfl) | (exfalso; omega) | (((first | apply Go.iQ | apply Go.gQ | apply Go.sQ | apply Qg.gQ); exact rfl; (first | exact .d | exact .e | exact .n | ((fail_if_success exact bqt); (fail_if_success exact bqf); exact .b))) <;> intro _)
  refine .pcall rfl rfl rfl (szSession_ok q 1048576 hq (by decide) (by decide)) ?_
  have hq2 := fun (h : 0 ≤ zSession q 1048576) => bSession_of q 1048576 34359738368 (by decide) h (by decide)
  generalize zSession q 1048576 = b2 at hq2 ⊢
  repeat' first | (apply Go.adm; exact rfl) | apply Go.qs | apply Qg.nil | ((first | apply Go.v2 | apply Go.v1); (first | exact leAdd | assumption); iterate 6 exact rfl) | ((first | apply Go.op | apply Go.sop | apply Qg.op); exact rfl; (first | exact aop_alloc | exact aop_new rfl rfl | exact aop_mksl rfl | exact aop_lenM rfl | exact rfl | exact aL rfl rfl rfl rfl rfl | exact aS rfl rfl rfl rfl rfl rfl rfl)) | ((first | apply Go.no | apply Go.sno | apply Qg.no); exact rfl) | (exfalso; omega) | (((first | apply Go.iQ | apply Go.gQ | apply Go.sQ | apply Qg.gQ); exact rfl; (first | exact .d | exact .e | exact .n | ((fail_if_success exact bqt); (fail_if_success exact bqf); exact .b))) <;> intro _)
  · exact .ret rfl (.bool rfl)
  rename_i hn2
  have hq2 := hq2 (by omega)
  have c2 := NewL.pure (toSession_ok q hq2)
  have c3 := sSessionOk_ok q hq2
  have c4 := SessionOk_ok q hq2
  have c6 := eqSession_ok q q hq2
  rw [beq_self_eq_true] at c6
  generalize sessF q = B at c3 c4
  clear hq2 hq
  repeat' first | (apply Go.adm; exact rfl) | apply Go.qs | apply Qg.nil | ((first | apply Go.v2 | apply Go.v1); (first | exact leAdd | assumption); iterate 6 exact rfl) | ((first | apply Go.op | apply Go.sop | apply Qg.op); exact rfl; (first | exact aop_alloc | exact aop_new rfl rfl | exact aop_mksl rfl | exact aop_lenM rfl | exact aop_neB rfl rfl | exact rfl | exact aL rfl rfl rfl rfl rfl | exact aS rfl rfl rfl rfl rfl rfl rfl)) | ((first | apply Go.no | apply Go.sno | apply Qg.no); exact rfl) | ((first | apply Go.pcall | apply Go.spcall | apply Qg.pcall); (iterate 3 exact rfl); (first | exact c2 | exact c3 | exact c4 | exact c6)) | (exfalso; omega) | (((first | apply Go.iQ | apply Go.gQ | apply Go.sQ | apply Qg.gQ); exact rfl; (first | exact .d | exact .e | exact .n | ((fail_if_success exact bqt); (fail_if_success exact bqf); exact .b))) <;> intro _)
  all_goals first
    | exact .ret rfl (.bool rfl)
    | (exfalso; simp_all; done)
end Go.Proofs.YtcfpdongfdhgjaaGreat.Am

/- The abstract machine, part 27: a row's arguments as abstract values, and what a contract says of a call. -/
set_option linter.unusedVariables false
set_option linter.unusedSimpArgs false
namespace Go.Proofs.YtcfpdongfdhgjaaGreat.Am
open Go.RowKit Go.ChangeShapes Go.WideShapes

/-- A world of which nothing is ours. -/
def Cx.at (W : World) : Cx := ⟨fun _ _ => ⟨0, 0, 0, false⟩, fun _ _ => False, fun _ => False, W⟩
theorem Rl.at (W : World) : Rl (Cx.at W) (Store.none 0) :=
  ⟨fun _ _ h => h.elim, fun id v es hg => by simp [Store.none] at hg, fun b => ⟨fun h => h.elim, fun ⟨id, v, es, hg, _⟩ => by simp [Store.none] at hg⟩, fun id v es id' v' es' hg => by simp [Store.none] at hg, fun id v es hg => by simp [Store.none] at hg⟩
theorem rpv_bool {D : Cx} {b : Bool} {v : Value} (h : RpV D (.c (.bool b)) v) : v = .bool b := by
  cases h with
  | c h => cases h; rfl
theorem Pure.calls {P : Program} {f : Nat} {args : List AV} {b : Bool} (h : Pure P f args (.c (.bool b))) {W : World} {cargs : Array Value} (ha : ∃ hl : cargs.size = args.length, ∀ i (hi : i < args.length), RpV (Cx.at W) args[i] (cargs[i]'(by omega))) :
    Calls P f cargs W fun e w' => e = .returned (.bool b) ∧ Below W.heap.size W w' := by
  refine ((h.at_ (Store.none 0)).2 (Cx.at W) cargs (Rl.at W) ha).mono ?_
  rintro e w' ⟨D, σ', r, v, rfl, rfl, ⟨rfl, rfl⟩, hR, hv, hle⟩
  exact ⟨by rw [rpv_bool hv], ⟨hle.os, hle.tape, hle.output, hle.size, fun k hk => hle.keep k hk (fun h => h.elim)⟩⟩

section
variable {H : Type} {enc : TypeId × Value → H} {P : Program} {W : World}
/-- What the rows say of a value of a type, as abstract cells. -/
structure Opens (enc : TypeId × Value → H) (P : Program) (W : World) (t : TypeId) {α : Type} (e : α → List Ce) (good : α → Prop) : Prop where
  op : ∀ fuel cs x, DataW.trod enc P W 0 (fun _ => true) true fuel t cs = some x → (∀ n ∈ x.1.weights P t, n ≤ reachBytes) →
    ∃ a, good a ∧ ∃ hl : cs.length = (e a).length, ∀ i (hi : i < (e a).length), Rp (Cx.at W) (e a)[i] (cs[i]'(by omega))
theorem Opens.one {t : TypeId} {α : Type} {e : α → List Ce} {good : α → Prop} (h : ∀ fuel cs x, DataW.trod enc P W 0 (fun _ => true) true fuel t cs = some x → (∀ n ∈ x.1.weights P t, n ≤ reachBytes) → ∃ a y v, good a ∧ e a = [y] ∧ cs = [v] ∧ Rp (Cx.at W) y v) : Opens enc P W t e good := by
  constructor
  intro fuel cs x h1 h2
  obtain ⟨a, y, v, hg, he, rfl, hr⟩ := h fuel cs x h1 h2
  refine ⟨a, hg, by simp [he], fun i hi => ?_⟩
  have hi' : i = 0 := by rw [he] at hi; simpa using hi
  subst hi'
  simp only [he, List.getElem_cons_zero]
  exact hr
theorem Opens.iso {t : TypeId} {α β : Type} {e : β → List Ce} {good : β → Prop} (h : Opens enc P W t e good) (g : β → α) {e' : α → List Ce} {good' : α → Prop} (he : ∀ b, e' (g b) = e b) (hg : ∀ b, good b → good' (g b)) : Opens enc P W t e' good' := by
  constructor
  intro fuel cs x h1 h2
  obtain ⟨a, h3, hl, h4⟩ := h.op fuel cs x h1 h2
  refine ⟨g a, hg a h3, by rw [he]; exact hl, fun i hi => ?_⟩
  simp only [he]
  exact h4 i (by rw [he] at hi; exact hi)
theorem Opens.int {t : TypeId} {k : IntKind} (ht : P.underlying t = some (.int k)) : Opens enc P W t (fun n : Int => [.int k n]) (fun n => (Lit.int k n).wf = true) := by
  refine Opens.one fun fuel cs x h1 _ => ?_
  obtain ⟨n, rfl, rfl, hw⟩ := DataW.trod_int ht h1
  exact ⟨n, _, _, hw, rfl, rfl, .int k n⟩
theorem Opens.bool {t : TypeId} (ht : P.underlying t = some .bool) : Opens enc P W t (fun b : Bool => [.bool b]) (fun _ => True) := by
  refine Opens.one fun fuel cs x h1 _ => ?_
  obtain ⟨n, rfl, rfl⟩ := DataW.trod_bool ht h1
  exact ⟨n, _, _, trivial, rfl, rfl, .bool n⟩
theorem Opens.str {t : TypeId} (ht : P.underlying t = some .string) : Opens enc P W t (fun s : List UInt8 => [.str s]) (fun s => s.length ≤ 140737488351232) := by
  refine Opens.one fun fuel cs x h1 h2 => ?_
  obtain ⟨s, rfl, rfl, hs⟩ := DataW.trod_string ht h1
  refine ⟨s.data.toList, _, _, ?_, rfl, rfl, .str _⟩
  have := h2 s.data.toList.length (by simp [DataW.weights])
  exact this
theorem list_choice {α : Type} {p : Nat → α → Prop} : ∀ n, (∀ i, i < n → ∃ a, p i a) → ∃ l : List α, l.length = n ∧ ∀ i (hi : i < l.length), p i l[i]
  | 0, _ => ⟨[], rfl, fun i hi => by simp at hi⟩
  | n + 1, h => by
    obtain ⟨l, h1, h2⟩ := list_choice n fun i hi => h i (by omega)
    obtain ⟨a, ha⟩ := h n (by omega)
    refine ⟨l ++ [a], by simp [h1], fun i hi => ?_⟩
    by_cases e : i < l.length
    · rw [List.getElem_append_left e]; exact h2 i e
    · have : i = l.length := by simp at hi; omega
      subst this
      have e1 : (l ++ [a])[l.length]'hi = a := by rw [List.getElem_append_right (Nat.le_refl _)]; simp
      rw [e1, h1]
      exact ha
theorem weightsAll_mem {e : TypeId} : ∀ {l : List (DataW H)} {d : DataW H} {n : Nat}, d ∈ l → n ∈ d.weights P e → n ∈ DataW.weightsAll P e l
  | y :: r, d, n, h, hn => by
    simp only [DataW.weightsAll, List.mem_append]
    rcases List.mem_cons.1 h with rfl | h
    · exact .inl hn
    · exact .inr (weightsAll_mem h hn)
theorem add_add {a : Addr} (h : a.spot = none) (m j : Nat) : (a.add m).add j = ⟨a.block, a.off + (m + j), none⟩ := by
  obtain ⟨b, o, s⟩ := a
  subst h
  simp only [Addr.add]
  split <;> split <;> simp_all [Nat.add_assoc]
theorem spot_of_cell {w : World} {a : Addr} {v : Value} (h : w.cell? a = some v) : a.spot = none ∧ a.block < w.heap.size := by
  unfold World.cell? at h
  split at h
  · rename_i hb
    refine ⟨?_, ?_⟩
    · split at h
      · cases h
      · rename_i hs
        simpa using hs
    · exact (Array.getElem?_eq_some_iff.1 hb).1
  · cases h
theorem Opens.slice {t el : TypeId} {α : Type} {e : α → List Ce} {good : α → Prop} {s : Nat} (ht : P.underlying t = some (.slice el)) (h : Opens enc P W el e good) (hs : P.cellsOf el = s) (hs0 : 0 < s) (he : ∀ a, (e a).length = s) :
    Opens enc P W t (fun l : List α => [.fz (l.map e)]) (fun l => l.length * P.bytesOf el ≤ 140737488351232 ∧ ∀ a ∈ l, good a) := by
  refine Opens.one fun fuel cs x h1 h2 => ?_
  rcases DataW.trod_slice ht h1 with ⟨rfl, rfl⟩ | ⟨a, len, cap, elems, rest, n, _, rfl, rfl, hb, hl, hm, hlen, hel, hsp, hns⟩
  · exact ⟨[], _, _, ⟨by simp, by simp⟩, rfl, rfl, .fz0 _ _⟩
  rw [hs] at hel
  have each : ∀ i, i < len → ∃ y, good y ∧ ∀ j (hj : j < (e y).length), ∃ v, W.cell? ((a.add (i * s)).add j) = some v ∧ Rp (Cx.at W) (e y)[j] v := by
    intro i hi
    have hi' : i < elems.length := by omega
    have h3 := hel i hi
    rw [List.getElem?_eq_getElem hi', Option.bind_eq_some_iff] at h3
    obtain ⟨cs, hc, hd⟩ := h3
    obtain ⟨y, hy, hl, hr⟩ := h.op n cs _ hd (fun m hm => h2 m (by
      simp only [DataW.weights, ht]
      refine List.mem_cons_of_mem _ (List.mem_append_left _ (weightsAll_mem (d := elems[i].1) (List.mem_map_of_mem (List.getElem_mem hi')) hm))))
    obtain ⟨_, hcl, hcc⟩ := World.cells?_some hc
    refine ⟨y, hy, fun j hj => ⟨cs[j]'(by omega), ?_, hr j hj⟩⟩
    rw [hcc j (by rw [← he y]; exact hj), List.getElem?_eq_getElem]
  obtain ⟨l, hll, hl2⟩ := list_choice len each
  refine ⟨l, _, _, ⟨?_, fun y hy => ?_⟩, rfl, rfl, ?_⟩
  · have := h2 _ (by
      simp only [DataW.weights, ht]
      exact List.mem_cons_self)
    simp only [List.length_map] at this
    have h5 : l.length * P.bytesOf el ≤ (elems.length + rest.length) * P.bytesOf el := Nat.mul_le_mul_right _ (by omega)
    exact Nat.le_trans h5 this
  · obtain ⟨i, hi, rfl⟩ := List.mem_iff_getElem.1 hy
    exact (hl2 i hi).1
  · rcases Nat.eq_zero_or_pos len with h0 | h0
    · have hl0 : l = [] := List.eq_nil_of_length_eq_zero (by omega)
      subst hl0
      subst h0
      exact .fz0 _ _
    · obtain ⟨v0, hv0, _⟩ := (hl2 0 (by omega)).2 0 (by rw [he]; exact hs0)
      have hsp0 : a.spot = none ∧ a.block < W.heap.size := by
        have := spot_of_cell hv0
        simpa [Addr.add] using this
      obtain ⟨b, o, sp⟩ := a
      obtain ⟨rfl, hbl⟩ := hsp0
      have hlm : (l.map e).length = len := by simp [hll]
      have key := Rp.fz (C := Cx.at W) (l.map e) b o cap s (fun i j => (W.cell? ⟨b, o + (i * s + j), none⟩).getD .nilFunc) hbl (fun h => h.elim) (by omega) (fun i hi => by simp [he]) (fun i j hi hj => by
        rw [hlm] at hi
        obtain ⟨v, hv, _⟩ := (hl2 i (by omega)).2 j (by rw [he]; exact hj)
        rw [add_add rfl] at hv
        show W.cell? _ = _
        rw [hv]
        rfl) (fun i j hi hj => by
        rw [hlm] at hi
        have hj' : j < (e (l[i]'(by omega))).length := by simpa using hj
        obtain ⟨v, hv, hr⟩ := (hl2 i (by omega)).2 j hj'
        rw [add_add rfl] at hv
        simp only [hv, Option.getD_some, List.getElem_map]
        exact hr)
      rw [hlm] at key
      exact key

/-- .. of the fields of a struct, from one on. -/
structure OpensF (enc : TypeId × Value → H) (P : Program) (W : World) (fs : Array Field) (k off : Nat) {α : Type} (e : α → List Ce) (good : α → Prop) : Prop where
  op : ∀ (cs : List Value) (n : Nat) (xs : List (DataW H × List MemPlace)), xs.length = fs.size → (∀ (i : Nat) (f : Field), fs[i]? = some f → DataW.trod enc P W 0 (fun _ => true) true n f.type ((cs.drop f.offset).take (P.cellsOf f.type)) = xs[i]?) →
    (∀ (i : Nat) (f : Field) (x : DataW H × List MemPlace), fs[i]? = some f → xs[i]? = some x → ∀ m ∈ x.1.weights P f.type, m ≤ reachBytes) →
    ∃ a, good a ∧ ∀ i (hi : i < (e a).length), ∃ v, cs[off + i]? = some v ∧ Rp (Cx.at W) (e a)[i] v
theorem OpensF.nil {fs : Array Field} {k off : Nat} : OpensF enc P W fs k off (fun _ : Unit => []) (fun _ => True) :=
  ⟨fun cs n xs _ _ _ => ⟨(), trivial, fun i hi => by simp at hi⟩⟩
theorem OpensF.cons {fs : Array Field} {k off s : Nat} {f : Field} {α β : Type} {e : α → List Ce} {good : α → Prop} {e' : β → List Ce} {good' : β → Prop} (hf : fs[k]? = some f) (h : Opens enc P W f.type e good) (ho : f.offset = off) (he : ∀ a, (e a).length = s) (hr : OpensF enc P W fs (k + 1) (off + s) e' good') :
    OpensF enc P W fs k off (fun p : α × β => e p.1 ++ e' p.2) (fun p => good p.1 ∧ good' p.2) := by
  constructor
  intro cs n xs hxl hx hw
  obtain ⟨b, hb, hb2⟩ := hr.op cs n xs hxl hx hw
  have hk : k < xs.length := by rw [hxl]; exact (Array.getElem?_eq_some_iff.1 hf).1
  have h1 := hx k f hf
  rw [List.getElem?_eq_getElem hk] at h1
  obtain ⟨a, ha, hl, ha2⟩ := h.op n _ _ h1 (hw k f _ hf (List.getElem?_eq_getElem hk))
  refine ⟨(a, b), ⟨ha, hb⟩, fun i hi => ?_⟩
  by_cases c : i < (e a).length
  · refine ⟨_, ?_, by
      simp only [List.getElem_append_left c]
      exact ha2 i c⟩
    have h2 : ((cs.drop f.offset).take (P.cellsOf f.type))[i]? = some (((cs.drop f.offset).take (P.cellsOf f.type))[i]'(by omega)) := List.getElem?_eq_getElem _
    rw [List.getElem?_take] at h2
    split at h2
    · rw [List.getElem?_drop] at h2
      rw [← h2]
      congr 1
      omega
    · cases h2
  · have hi' : i - (e a).length < (e' b).length := by simp only [List.length_append] at hi; omega
    obtain ⟨v, h2, h3⟩ := hb2 (i - (e a).length) hi'
    refine ⟨v, ?_, ?_⟩
    · rw [← h2, he]
      congr 1
      have := he a
      omega
    · simp only [List.getElem_append_right (Nat.le_of_not_lt c)]
      exact h3
theorem Opens.struct {t : TypeId} {fs : Array Field} {α : Type} {e : α → List Ce} {good : α → Prop} {s : Nat} (ht : P.underlying t = some (.struct fs)) (h : OpensF enc P W fs 0 0 e good) (hs : P.cellsOf t = s) (he : ∀ a, (e a).length = s) : Opens enc P W t e good := by
  constructor
  intro fuel cs x h1 h2
  obtain ⟨xs, n, rfl, rfl, hl, hxl, hx⟩ := DataW.trod_struct ht h1
  obtain ⟨a, ha, ha2⟩ := h.op cs n xs hxl hx (fun i f y hf hy m hm => h2 m (by
    simp only [DataW.weights, ht]
    refine DataW.weights_mem_each (j := i) (t := f.type) (d := y.1) ?_ ?_ m hm
    · rw [List.getElem?_map, Array.getElem?_toList, hf]; rfl
    · rw [List.getElem?_map, hy]; rfl))
  refine ⟨a, ha, by rw [he, hl, hs], fun i hi => ?_⟩
  obtain ⟨v, h3, h4⟩ := ha2 i hi
  rw [Nat.zero_add] at h3
  obtain ⟨_, rfl⟩ := List.getElem?_eq_some_iff.1 h3
  exact h4
/-- An argument of a row. -/
theorem Opens.agg {t : TypeId} {fs : Array Field} {α : Type} {e : α → List Ce} {good : α → Prop} (h : Opens enc P W t e good) (ht : P.underlying t = some (.struct fs)) {r : Reach} {b0 : Nat} {v : Value} (hv : Value.okWide P W r b0 t v) {d : DataW H} {ps : List MemPlace} (hd : DataW.Trod enc P W 0 (fun _ => true) true t v d ps) (hw : ∀ n ∈ d.weights P t, n ≤ reachBytes) :
    ∃ a, good a ∧ RpV (Cx.at W) (.agg (e a)) v := by
  simp only [Value.okWide, ht] at hv
  obtain ⟨cs, rfl, _, _⟩ := hv
  obtain ⟨fuel, hf⟩ := hd
  obtain ⟨a, ha, hl, hr⟩ := h.op fuel _ _ hf hw
  refine ⟨a, ha, .agg (by simpa [Value.cells] using hl) fun i hi => ?_⟩
  have := hr i hi
  simpa [Value.cells] using this
theorem Opens.c {t : TypeId} {α : Type} {e : α → Ce} {good : α → Prop} (h : Opens enc P W t (fun a => [e a]) good) {v : Value} (hv : v.cells = #[v]) {d : DataW H} {ps : List MemPlace} (hd : DataW.Trod enc P W 0 (fun _ => true) true t v d ps) (hw : ∀ n ∈ d.weights P t, n ≤ reachBytes) :
    ∃ a, good a ∧ RpV (Cx.at W) (.c (e a)) v := by
  obtain ⟨fuel, hf⟩ := hd
  rw [hv] at hf
  obtain ⟨a, ha, hl, hr⟩ := h.op fuel _ _ hf hw
  exact ⟨a, ha, .c (hr 0 (by simp))⟩
end
end Go.Proofs.YtcfpdongfdhgjaaGreat.Am

/- What the rows say of values and entries. -/
set_option linter.unusedVariables false
set_option linter.unusedSimpArgs false
namespace Go.Proofs.YtcfpdongfdhgjaaGreat.Am
open Go.RowKit Go.ChangeShapes Go.WideShapes

section
variable {H : Type} {enc : TypeId × Value → H} {W : World}
theorem openV : Opens enc Tryz.prog W 138 encV LenV := 
  (Opens.struct (s := 3) Tryz.underlying138 (.cons (s := 1) rfl (.int Tryz.underlying2) rfl (fun _ => rfl) (.cons (s := 1) rfl (.int Tryz.underlying2) rfl (fun _ => rfl) (.cons (s := 1) rfl (.str Tryz.underlying9) rfl (fun _ => rfl) .nil))) (by kernel_rfl) (fun _ => rfl)).iso (fun p => Val.mk p.1 p.2.1 p.2.2.1) (fun _ => rfl) fun p h => Nat.le_trans h.2.2.1 (by decide)
theorem openVs : Opens enc Tryz.prog W 55 (fun l : List Val => [.fz (l.map encV)]) (fun l => l.length ≤ 140737488351232 ∧ ∀ v ∈ l, LenV v) :=
  (Opens.slice (s := 3) Tryz.underlying55 openV (by kernel_rfl) (by decide) (fun _ => rfl)).iso id (fun _ => rfl) fun l h => ⟨Nat.le_trans (Nat.le_mul_of_pos_right _ (of_decide_eq_true (by kernel_rfl))) h.1, h.2⟩
end
end Go.Proofs.YtcfpdongfdhgjaaGreat.Am

/- The laws' helpers on types, printed by a program: Tok, Check, Unique, Fk, Col, Table, Term, Select, Trigger, Set, Row, Stmt. -/
set_option linter.unusedVariables false
set_option linter.unusedSimpArgs false
namespace Go.Proofs.YtcfpdongfdhgjaaGreat.Am
open Go.RowKit Go.ChangeShapes Go.WideShapes
section
variable {H : Type} {enc : TypeId × Value → H} {W : World}
theorem openIs : Opens enc Tryz.prog W 41 (fun l : List Int => [.fz (l.map encI)]) (fun l => l.length ≤ 140737488351232) :=
  (Opens.slice (s := 1) Tryz.underlying41 (.int Tryz.underlying2) (by kernel_rfl) (by decide) (fun _ => rfl)).iso id (fun _ => rfl) fun l h => Nat.le_trans (Nat.le_mul_of_pos_right _ (of_decide_eq_true (by kernel_rfl))) h.1
theorem openTok : Opens enc Tryz.prog W 140 encTok (bTok 1125899906842624) :=
  (Opens.struct (s := 5) Tryz.underlying140 (.cons (s := 1) rfl (.int Tryz.underlying2) rfl (fun _ => rfl) (.cons (s := 1) rfl (.int Tryz.underlying2) rfl (fun _ => rfl) (.cons (s := 3) rfl openV rfl (fun _ => rfl) .nil))) (by kernel_rfl) (fun _ => rfl)).iso (fun p => Tok.mk p.1 p.2.1 p.2.2.1) (fun _ => rfl) fun p h => h.2.2.1
theorem openToks : Opens enc Tryz.prog W 38 (fun l : List Tok => [.fz (l.map encTok)]) (fun l => l.length ≤ 140737488351232 ∧ ∀ v ∈ l, bTok 1125899906842624 v) :=
  (Opens.slice (s := 5) Tryz.underlying38 openTok (by kernel_rfl) (by decide) (fun _ => rfl)).iso id (fun _ => rfl) fun l h => ⟨Nat.le_trans (Nat.le_mul_of_pos_right _ (of_decide_eq_true (by kernel_rfl))) h.1, h.2⟩
theorem openChk : Opens enc Tryz.prog W 312 encChk (bChk 1125899906842624) :=
  (Opens.struct (s := 1) Tryz.underlying312 (.cons (s := 1) rfl openToks rfl (fun _ => rfl) .nil) (by kernel_rfl) (fun _ => rfl)).iso (fun p => Chk.mk p.1) (fun _ => rfl) fun p h => ⟨Nat.le_trans h.1.1 (by decide), h.1.2⟩
theorem openChks : Opens enc Tryz.prog W 110 (fun l : List Chk => [.fz (l.map encChk)]) (fun l => l.length ≤ 140737488351232 ∧ ∀ v ∈ l, bChk 1125899906842624 v) :=
  (Opens.slice (s := 1) Tryz.underlying110 openChk (by kernel_rfl) (by decide) (fun _ => rfl)).iso id (fun _ => rfl) fun l h => ⟨Nat.le_trans (Nat.le_mul_of_pos_right _ (of_decide_eq_true (by kernel_rfl))) h.1, h.2⟩
theorem openUniq : Opens enc Tryz.prog W 310 encUniq (bUniq 1125899906842624) :=
  (Opens.struct (s := 1) Tryz.underlying310 (.cons (s := 1) rfl openIs rfl (fun _ => rfl) .nil) (by kernel_rfl) (fun _ => rfl)).iso (fun p => Uniq.mk p.1) (fun _ => rfl) fun p h => Nat.le_trans h.1 (by decide)
theorem openUniqs : Opens enc Tryz.prog W 109 (fun l : List Uniq => [.fz (l.map encUniq)]) (fun l => l.length ≤ 140737488351232 ∧ ∀ v ∈ l, bUniq 1125899906842624 v) :=
  (Opens.slice (s := 1) Tryz.underlying109 openUniq (by kernel_rfl) (by decide) (fun _ => rfl)).iso id (fun _ => rfl) fun l h => ⟨Nat.le_trans (Nat.le_mul_of_pos_right _ (of_decide_eq_true (by kernel_rfl))) h.1, h.2⟩
theorem openFk : Opens enc Tryz.prog W 314 encFk (bFk 1125899906842624) :=
  (Opens.struct (s := 5) Tryz.underlying314 (.cons (s := 1) rfl openIs rfl (fun _ => rfl) (.cons (s := 1) rfl (.str Tryz.underlying9) rfl (fun _ => rfl) (.cons (s := 1) rfl (.int Tryz.underlying2) rfl (fun _ => rfl) (.cons (s := 1) rfl (.int Tryz.underlying2) rfl (fun _ => rfl) (.cons (s := 1) rfl (.bool Tryz.underlying4) rfl (fun _ => rfl) .nil))))) (by kernel_rfl) (fun _ => rfl)).iso (fun p => Fk.mk p.1 p.2.1 p.2.2.1 p.2.2.2.1 p.2.2.2.2.1) (fun _ => rfl) fun p h => ⟨Nat.le_trans h.1 (by decide), Nat.le_trans h.2.1 (by decide)⟩
theorem openFks : Opens enc Tryz.prog W 111 (fun l : List Fk => [.fz (l.map encFk)]) (fun l => l.length ≤ 140737488351232 ∧ ∀ v ∈ l, bFk 1125899906842624 v) :=
  (Opens.slice (s := 5) Tryz.underlying111 openFk (by kernel_rfl) (by decide) (fun _ => rfl)).iso id (fun _ => rfl) fun l h => ⟨Nat.le_trans (Nat.le_mul_of_pos_right _ (of_decide_eq_true (by kernel_rfl))) h.1, h.2⟩
theorem openCol : Opens enc Tryz.prog W 308 encCol (bCol 1125899906842624) :=
  (Opens.struct (s := 6) Tryz.underlying308 (.cons (s := 1) rfl (.str Tryz.underlying9) rfl (fun _ => rfl) (.cons (s := 1) rfl (.int Tryz.underlying2) rfl (fun _ => rfl) (.cons (s := 1) rfl (.bool Tryz.underlying4) rfl (fun _ => rfl) (.cons (s := 3) rfl openV rfl (fun _ => rfl) .nil)))) (by kernel_rfl) (fun _ => rfl)).iso (fun p => Col.mk p.1 p.2.1 p.2.2.1 p.2.2.2.1) (fun _ => rfl) fun p h => ⟨Nat.le_trans h.1 (by decide), h.2.2.2.1⟩
theorem openCols : Opens enc Tryz.prog W 108 (fun l : List Col => [.fz (l.map encCol)]) (fun l => l.length ≤ 140737488351232 ∧ ∀ v ∈ l, bCol 1125899906842624 v) :=
  (Opens.slice (s := 6) Tryz.underlying108 openCol (by kernel_rfl) (by decide) (fun _ => rfl)).iso id (fun _ => rfl) fun l h => ⟨Nat.le_trans (Nat.le_mul_of_pos_right _ (of_decide_eq_true (by kernel_rfl))) h.1, h.2⟩
theorem openTable : Opens enc Tryz.prog W 113 encTable (bTable 1125899906842624) :=
  (Opens.struct (s := 6) Tryz.underlying113 (.cons (s := 1) rfl (.str Tryz.underlying9) rfl (fun _ => rfl) (.cons (s := 1) rfl openCols rfl (fun _ => rfl) (.cons (s := 1) rfl openIs rfl (fun _ => rfl) (.cons (s := 1) rfl openUniqs rfl (fun _ => rfl) (.cons (s := 1) rfl openChks rfl (fun _ => rfl) (.cons (s := 1) rfl openFks rfl (fun _ => rfl) .nil)))))) (by kernel_rfl) (fun _ => rfl)).iso (fun p => Table.mk p.1 p.2.1 p.2.2.1 p.2.2.2.1 p.2.2.2.2.1 p.2.2.2.2.2.1) (fun _ => rfl) fun p h => ⟨Nat.le_trans h.1 (by decide), ⟨Nat.le_trans h.2.1.1 (by decide), h.2.1.2⟩, Nat.le_trans h.2.2.1 (by decide), ⟨Nat.le_trans h.2.2.2.1.1 (by decide), h.2.2.2.1.2⟩, ⟨Nat.le_trans h.2.2.2.2.1.1 (by decide), h.2.2.2.2.1.2⟩, ⟨Nat.le_trans h.2.2.2.2.2.1.1 (by decide), h.2.2.2.2.2.1.2⟩⟩
theorem openTables : Opens enc Tryz.prog W 22 (fun l : List Table => [.fz (l.map encTable)]) (fun l => l.length ≤ 140737488351232 ∧ ∀ v ∈ l, bTable 1125899906842624 v) :=
  (Opens.slice (s := 6) Tryz.underlying22 openTable (by kernel_rfl) (by decide) (fun _ => rfl)).iso id (fun _ => rfl) fun l h => ⟨Nat.le_trans (Nat.le_mul_of_pos_right _ (of_decide_eq_true (by kernel_rfl))) h.1, h.2⟩
theorem openRowD : Opens enc Tryz.prog W 329 encRowD (bRowD 1125899906842624) :=
  (Opens.struct (s := 2) Tryz.underlying329 (.cons (s := 1) rfl (.int Tryz.underlying2) rfl (fun _ => rfl) (.cons (s := 1) rfl openVs rfl (fun _ => rfl) .nil)) (by kernel_rfl) (fun _ => rfl)).iso (fun p => RowD.mk p.1 p.2.1) (fun _ => rfl) fun p h => ⟨Nat.le_trans h.2.1.1 (by decide), h.2.1.2⟩
theorem openRowDs : Opens enc Tryz.prog W 133 (fun l : List RowD => [.fz (l.map encRowD)]) (fun l => l.length ≤ 140737488351232 ∧ ∀ v ∈ l, bRowD 1125899906842624 v) :=
  (Opens.slice (s := 2) Tryz.underlying133 openRowD (by kernel_rfl) (by decide) (fun _ => rfl)).iso id (fun _ => rfl) fun l h => ⟨Nat.le_trans (Nat.le_mul_of_pos_right _ (of_decide_eq_true (by kernel_rfl))) h.1, h.2⟩
end
end Go.Proofs.YtcfpdongfdhgjaaGreat.Am

/- The laws' helpers on types, printed by a program: Data, Line, Save, Session. -/
set_option linter.unusedVariables false
set_option linter.unusedSimpArgs false
namespace Go.Proofs.YtcfpdongfdhgjaaGreat.Am
open Go.RowKit Go.ChangeShapes Go.WideShapes
section
variable {H : Type} {enc : TypeId × Value → H} {W : World}
theorem openData : Opens enc Tryz.prog W 135 encData (bData 1125899906842624) :=
  (Opens.struct (s := 1) Tryz.underlying135 (.cons (s := 1) rfl openRowDs rfl (fun _ => rfl) .nil) (by kernel_rfl) (fun _ => rfl)).iso (fun p => Data.mk p.1) (fun _ => rfl) fun p h => ⟨Nat.le_trans h.1.1 (by decide), h.1.2⟩
theorem openDatas : Opens enc Tryz.prog W 37 (fun l : List Data => [.fz (l.map encData)]) (fun l => l.length ≤ 140737488351232 ∧ ∀ v ∈ l, bData 1125899906842624 v) :=
  (Opens.slice (s := 1) Tryz.underlying37 openData (by kernel_rfl) (by decide) (fun _ => rfl)).iso id (fun _ => rfl) fun l h => ⟨Nat.le_trans (Nat.le_mul_of_pos_right _ (of_decide_eq_true (by kernel_rfl))) h.1, h.2⟩
theorem openSave : Opens enc Tryz.prog W 279 encSave (bSave 1125899906842624) :=
  (Opens.struct (s := 2) Tryz.underlying279 (.cons (s := 1) rfl (.str Tryz.underlying9) rfl (fun _ => rfl) (.cons (s := 1) rfl openDatas rfl (fun _ => rfl) .nil)) (by kernel_rfl) (fun _ => rfl)).iso (fun p => Save.mk p.1 p.2.1) (fun _ => rfl) fun p h => ⟨Nat.le_trans h.1 (by decide), ⟨Nat.le_trans h.2.1.1 (by decide), h.2.1.2⟩⟩
theorem openSaves : Opens enc Tryz.prog W 86 (fun l : List Save => [.fz (l.map encSave)]) (fun l => l.length ≤ 140737488351232 ∧ ∀ v ∈ l, bSave 1125899906842624 v) :=
  (Opens.slice (s := 2) Tryz.underlying86 openSave (by kernel_rfl) (by decide) (fun _ => rfl)).iso id (fun _ => rfl) fun l h => ⟨Nat.le_trans (Nat.le_mul_of_pos_right _ (of_decide_eq_true (by kernel_rfl))) h.1, h.2⟩
theorem openSession : Opens enc Tryz.prog W 88 encSession (bSession 1125899906842624) :=
  (Opens.struct (s := 5) Tryz.underlying88 (.cons (s := 1) rfl openTables rfl (fun _ => rfl) (.cons (s := 1) rfl openDatas rfl (fun _ => rfl) (.cons (s := 1) rfl (.bool Tryz.underlying4) rfl (fun _ => rfl) (.cons (s := 1) rfl openDatas rfl (fun _ => rfl) (.cons (s := 1) rfl openSaves rfl (fun _ => rfl) .nil))))) (by kernel_rfl) (fun _ => rfl)).iso (fun p => Session.mk p.1 p.2.1 p.2.2.1 p.2.2.2.1 p.2.2.2.2.1) (fun _ => rfl) fun p h => ⟨⟨Nat.le_trans h.1.1 (by decide), h.1.2⟩, ⟨Nat.le_trans h.2.1.1 (by decide), h.2.1.2⟩, ⟨Nat.le_trans h.2.2.2.1.1 (by decide), h.2.2.2.1.2⟩, ⟨Nat.le_trans h.2.2.2.2.1.1 (by decide), h.2.2.2.2.1.2⟩⟩
end
end Go.Proofs.YtcfpdongfdhgjaaGreat.Am

/- The statement of the law FnExactSessionOk: whatever its arguments are, it returns true, leaves what was there as it was, and ends. No condition. -/
namespace Go.Proofs.YtcfpdongfdhgjaaGreat.fnExactSessionOk
open Go.ChangeShapes Go.WideShapes Go.ChangeAt Go.RowKit Go.Proofs.YtcfpdongfdhgjaaGreat.Am
open Go.ChangeMaps (open_string shut_string)
set_option linter.unusedVariables false
theorem own : ownKnob Tryz.prog.godebug = none := by kernel_rfl
theorem laidOut : laidOutB Tryz.prog = true := by kernel_rfl
set_option maxRecDepth 100000 in
theorem lifted (os : Os) (started : os.Started) (H : Type) (enc : TypeId × Value → H) :
    ReturnsInHanded {} Tryz.checked os 9 .any (Rows.fnExactSessionOkSpec.pre6 enc Tryz.prog Tryz.f9 Rows.fnExactSessionOkRow.domain false) (Rows.fnExactSessionOkSpec.post enc Tryz.prog Tryz.f9 false true false false) := by
  refine returnsInHanded_of_change_sized (C := Tryz.checked) own started (by kernel_rfl) Tryz.func9
    (ChangeSpec.witness6 (enc := enc) (C := Tryz.checked) false ⟨#[], #[.agg #[.slice none 0 0, .slice none 0 0, .bool false, .slice none 0 0, .slice none 0 0]], []⟩ 8 (by kernel_rfl) (by kernel_rfl) (by kernel_rfl) (by kernel_rfl)) ?_
  intro W base args ds gs before hval0 hW hcnd hsz0 _
  have hval : ∀ (j : Nat) t v, Tryz.f9.params[j]? = some t → args[j]? = some v → Value.okWide Tryz.prog W .any base t v := hval0
  have hW' := hW
  obtain ⟨p, q, hA0, hV, rfl, hfz, hnd⟩ := hW
  have hA : DataW.TrodAll enc Tryz.prog W 0 (fun _ => true) true Tryz.f9.params.toList args.toList ds p := hA0
  rw [Tryz.params9] at hA hval
  have hsz : (DataW.weightsEach Tryz.prog (Tryz.f9.params.toList ++ Rows.fnExactSessionOkSpec.plain.varTypes Tryz.prog) (ds ++ gs)).all (· ≤ reachBytes) = true := hsz0
  rw [Tryz.params9] at hsz
  obtain ⟨v0, vs0, d0, ds0, p0, q0, hargs, rfl, rfl, h0, r0⟩ := trodAll_cons hA
  obtain ⟨rfl, rfl, rfl⟩ := trodAll_nil r0
  obtain rfl : args = #[v0] := by cases args; simp_all
  obtain ⟨rfl, rfl⟩ := trodVars_none hV
  obtain ⟨a0, g0, e0⟩ := openSession.agg Tryz.underlying88 (hval 0 88 v0 rfl rfl) h0 (fun n hn => of_decide_eq_true (List.all_eq_true.1 hsz _ (DataW.weights_mem_each (j := 0) (t := 88) rfl rfl n hn)))
  have k0 := h0
  have lt0 : ∀ x ∈ p0, x.block < W.heap.size := by obtain ⟨m, hm⟩ := k0; exact DataW.trod_lt m _ _ _ hm
  clear hA0 hval0 hsz0 hsz
  refine ((SessionOk_sound a0 g0).calls (W := W) ⟨rfl, fun i hi => ?_⟩).mono fun e W' ⟨he, bel⟩ => ?_
  · match i, hi with
    | 0, _ => exact e0
  subst he
  exact ⟨_, rfl, _, _, _, [], _, [], hW', trodAll_mk1 (shut_bool Tryz.underlying4 _), (trodAll_cons_mk (Below.trod laidOut (by kernel_rfl) (of_decide_eq_true (by kernel_rfl)) k0 bel lt0) trodAll_mk0), rfl, bel.frame _, fun h => by cases h⟩
theorem spl {a b : Bool} (h : (a && b) = true) : a = true ∧ b = true := by cases a <;> cases b <;> simp_all
theorem and2 {a b : Bool} (h : a = true) (k : b = true) : (a && b) = true := by rw [h, k]; rfl
theorem facts0 : (Rows.fnExactSessionOkRow.wf (OpenSpec.ofChange Rows.fnExactSessionOkSpec) && laidOutB Tryz.pinned.checked.prog && mapsRowed Tryz.pinned.checked.prog && Tryz.f9.params.all (Tryz.pinned.checked.prog.readableRec ·) && namedTie Tryz.pinned.checked.prog Rows.fnExactSessionOkRow.named Rows.fnExactSessionOkSpec.vars && (Rows.fnExactSessionOkRow.stops == []) && (Tryz.pinned.checked.prog.stops == []) && (Rows.fnExactSessionOkRow.knobs == []) && (Tryz.pinned.checked.prog.stopKnobs == [])) = true := by kernel_rfl
theorem facts1 : ((Rows.fnExactSessionOkRow.inPlace == Tryz.pinned.checked.prog.inPlace 9) && (Rows.fnExactSessionOkRow.unfollowed == Tryz.pinned.checked.prog.unfollowed 9) && (Rows.fnExactSessionOkRow.recurses == Tryz.pinned.checked.prog.recurses 9) && (Rows.fnExactSessionOkRow.named == Tryz.pinned.checked.prog.varsNamed 9)) = true := by kernel_rfl
theorem facts2 : ((Rows.fnExactSessionOkRow.maps == (Tryz.f9.params.toList ++ Rows.fnExactSessionOkSpec.plain.varTypes Tryz.pinned.checked.prog).any (Tryz.pinned.checked.prog.mapsRec ·)) && (Rows.fnExactSessionOkRow.ifaces == (Tryz.f9.params.toList ++ Rows.fnExactSessionOkSpec.plain.varTypes Tryz.pinned.checked.prog).any (Tryz.pinned.checked.prog.ifacesRec ·)) && (Rows.fnExactSessionOkRow.mapsOut == Tryz.pinned.checked.prog.mapsAmong Tryz.f9.resultTypes.toList) && (Rows.fnExactSessionOkRow.loops == (Tryz.f9.params.toList ++ Rows.fnExactSessionOkSpec.plain.varTypes Tryz.pinned.checked.prog).any (Tryz.pinned.checked.prog.loopsFrom ·)) && (Rows.fnExactSessionOkRow.wideKeys == (Tryz.f9.params.toList ++ Rows.fnExactSessionOkSpec.plain.varTypes Tryz.pinned.checked.prog ++ Tryz.f9.resultTypes.toList).any (Tryz.pinned.checked.prog.wideKeysFrom ·)) && Rows.fnExactSessionOkSpec.vars.all (Tryz.pinned.checked.prog.varReadable ·)) = true := by kernel_rfl
theorem facts3 : (Tryz.f9.resultTypes.all (fun t => Tryz.pinned.checked.prog.readableRec t && decide (t < Tryz.pinned.checked.prog.types.size)) && (Rows.fnExactSessionOkRow.ifacesOut == Tryz.f9.resultTypes.toList.any (Tryz.pinned.checked.prog.ifacesRec ·)) && (Rows.fnExactSessionOkRow.loopsOut == Tryz.f9.resultTypes.toList.any (Tryz.pinned.checked.prog.loopsFrom ·)) && (Rows.fnExactSessionOkRow.plainKeys == Tryz.pinned.checked.prog.plainKeys) && Rows.fnExactSessionOkRow.shortTexts.isNone && (Tryz.pinned.checked.prog.make == some Rows.fnExactSessionOkRow.make) && (Rows.fnExactSessionOkRow.kinds == (if Rows.fnExactSessionOkRow.domain.isEmpty then [] else Tryz.f9.params.toList.map fun t => match Tryz.pinned.checked.prog.underlying t with | some (.int k) => some k | _ => none)) && (Rows.fnExactSessionOkRow.pinned == Rows.fnExactSessionOkRow.pinnedBy) && (Rows.fnExactSessionOkRow.veiled == (Tryz.f9.params.toList ++ Rows.fnExactSessionOkSpec.plain.varTypes Tryz.pinned.checked.prog ++ Tryz.f9.resultTypes.toList).any (Tryz.pinned.checked.prog.veiledRec ·)) && Rows.fnExactSessionOkRow.veiledFits Tryz.pinned.checked.prog Tryz.f9.params.toList (Tryz.f9.params.toList ++ Rows.fnExactSessionOkSpec.plain.varTypes Tryz.pinned.checked.prog ++ Tryz.f9.resultTypes.toList)) = true := by kernel_rfl
theorem facts4 : (Tryz.pinned.checked.prog.stopsHeard && Tryz.pinned.checked.prog.mayEnter && (Rows.fnExactSessionOkRow.lifted == Tryz.pinned.checked.prog.liftsFinal)) = true := by kernel_rfl
set_option maxRecDepth 100000 in
theorem closed : joinedFacts Tryz.pinned.checked.prog 9 Tryz.f9 Rows.fnExactSessionOkSpec Rows.fnExactSessionOkRow = true := by
  have g := facts0
  obtain ⟨g, p8⟩ := spl g
  obtain ⟨g, p7⟩ := spl g
  obtain ⟨g, p6⟩ := spl g
  obtain ⟨g, p5⟩ := spl g
  obtain ⟨g, p4⟩ := spl g
  obtain ⟨g, p3⟩ := spl g
  obtain ⟨g, p2⟩ := spl g
  obtain ⟨g, p1⟩ := spl g
  have p0 := g
  have g := facts1
  obtain ⟨g, p12⟩ := spl g
  obtain ⟨g, p11⟩ := spl g
  obtain ⟨g, p10⟩ := spl g
  have p9 := g
  have g := facts2
  obtain ⟨g, p18⟩ := spl g
  obtain ⟨g, p17⟩ := spl g
  obtain ⟨g, p16⟩ := spl g
  obtain ⟨g, p15⟩ := spl g
  obtain ⟨g, p14⟩ := spl g
  have p13 := g
  have g := facts3
  obtain ⟨g, p31⟩ := spl g
  obtain ⟨g, p30⟩ := spl g
  obtain ⟨g, p29⟩ := spl g
  obtain ⟨g, p28⟩ := spl g
  obtain ⟨g, p27⟩ := spl g
  obtain ⟨g, p23⟩ := spl g
  obtain ⟨g, p22⟩ := spl g
  obtain ⟨g, p21⟩ := spl g
  obtain ⟨g, p20⟩ := spl g
  have p19 := g
  have g := facts4
  obtain ⟨g, p26⟩ := spl g
  obtain ⟨g, p25⟩ := spl g
  have p24 := g
  exact (and2 (and2 (and2 (and2 (and2 (and2 (and2 (and2 (and2 (and2 (and2 (and2 (and2 (and2 (and2 (and2 (and2 (and2 (and2 (and2 (and2 (and2 (and2 (and2 (and2 (and2 (and2 (and2 (and2 (and2 (and2 p0 p1) p2) p3) p4) p5) p6) p7) p8) p9) p10) p11) p12) p13) p14) p15) p16) p17) p18) p19) p20) p21) p22) p23) p24) p25) p26) p27) p28) p29) p30) p31)
theorem over : Rows.fnExactSessionOkRow.holds Tryz.pinned (OpenSpec.ofChange Rows.fnExactSessionOkSpec) :=
  OpenClaim.holds_of_wide 9 Tryz.f9 rfl rfl rfl rfl rfl rfl rfl ⟨rfl, rfl, rfl, rfl, rfl⟩ rfl rfl rfl rfl rfl (by kernel_rfl) Tryz.func9 closed
    (of_decide_eq_true (by kernel_rfl)) (by unfold Func.isWrapper; first | (rw [if_pos (by decide +kernel)]; kernel_rfl) | (rw [if_neg (by decide +kernel)]; exact ⟨rfl, rfl⟩))
    (fun os started H enc _ => lifted os started H enc)
theorem proved : Rows.FnExactSessionOkSaid := over
end Go.Proofs.YtcfpdongfdhgjaaGreat.fnExactSessionOk
namespace Go.Proofs.YtcfpdongfdhgjaaGreat
/-- The row, under a short name, for the claim. -/
theorem fnExactSessionOk_holds : Rows.FnExactSessionOkSaid := fnExactSessionOk.proved
#print axioms fnExactSessionOk_holds
end Go.Proofs.YtcfpdongfdhgjaaGreat
