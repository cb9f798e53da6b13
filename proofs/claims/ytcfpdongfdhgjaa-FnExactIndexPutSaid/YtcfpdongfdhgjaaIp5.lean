/- The statement of the law FnExactIndexPut: whatever its arguments are, it returns true, leaves what was there as it was, and ends. No condition. -/
import Derived.OpenShut
import Derived.Below
import Derived.Carry
import Derived.SizedLaws
import Derived.ChangeArms
import Derived.DataReads
import Derived.KernelRfl
import Derived.Test.YtcfpdongfdhgjaaRows
import Derived.WalkKit
import Derived.ProofKit
import Derived.ShutString
import Derived.ChangeOld
import Derived.Test.YtcfpdongfdhgjaaIp1
import Derived.Test.YtcfpdongfdhgjaaIp2
import Derived.Test.YtcfpdongfdhgjaaIp3
import Derived.Test.YtcfpdongfdhgjaaIp4
/- The law FnExactIndexPut: its function returns true (the walk). -/
set_option linter.unusedVariables false
set_option linter.unusedSimpArgs false
namespace Go.Proofs.Ytcfpdongfdhgjaa.Am

theorem cntL_perm {α : Type} {c : α → Int} {a b : List α} (h : a.Perm b) : cntL c a = cntL c b := by
  induction h with
  | nil => rfl
  | cons x _ ih => simp only [cntL, ih]
  | swap x y l => simp only [cntL]; omega
  | trans _ _ ih1 ih2 => exact ih1.trans ih2
theorem PutF_size (l : List Entry) (e : Entry) : (PutF l e).1.length ≤ 120 ∧ (∀ q ∈ (PutF l e).1, q ∈ l ∨ q = e) ∧ cntL cntE (PutF l e).1 ≤ cntL cntE l + cntE e := by
  have h1 := cntL_nonneg cntE_nonneg l
  have h2 := cntE_nonneg e
  rw [PutF]
  split
  · rename_i h
    rw [Bool.and_eq_true] at h
    refine ⟨okEnts_few h.2, fun q hq => ?_, ?_⟩
    · rcases List.mem_append.1 ((putF_perm e l).mem_iff.1 hq) with h | h
      · exact .inl h
      · exact .inr (List.mem_singleton.1 h)
    · rw [cntL_perm (putF_perm e l), cntL_append]
      simp only [cntL]
      omega
  · exact ⟨by simp, fun q hq => by simp at hq, by simp only [cntL]; omega⟩
theorem IndexPut_sound (l : List Entry) (e : Entry) (hl : l.length ≤ 1125899906842624) (hle : ∀ e ∈ l, LenE e) (hlo : LenE e) : Pure Try.prog 3 [.c (.fz (l.map encE)), .agg (encE e)] (.c (.bool true)) := by
  refine Pure.run2 mixed c_laws_FnExactIndexPut_ok (Nat.le_of_ble_eq_true rfl) fun σ hS => ?_
  clear hS
  have hend : ∀ l', Ends σ (.c (.bool true)) (.c (.bool true)) (E σ l') := fun l' => ⟨fun id h => E_lt h, solid_end⟩
  have hz1 := szL_le szE_le l 1048576 (by decide)
  repeat' first | (apply Go.adm; exact rfl) | apply Go.qs | apply Qg.nil | ((first | apply Go.v2 | apply Go.v1); (first | exact leAdd | assumption); iterate 6 exact rfl) | ((first | apply Go.op | apply Go.sop | apply Qg.op); exact rfl; (first | exact aop_alloc | exact aop_new rfl rfl | exact aop_mksl rfl | exact aop_lenM rfl | exact rfl | exact aL rfl rfl rfl rfl rfl | exact aS rfl rfl rfl rfl rfl rfl rfl)) | ((first | apply Go.no | apply Go.sno | apply Qg.no); exact rfl) | ((first | apply Go.pcallI | apply Go.spcallI | apply Qg.pcallI); (iterate 3 exact rfl); exact szEntryS_ok l 1048576 hl hle (by decide) (by decide); intro _ _) | (exfalso; omega) | (((first | apply Go.iQ | apply Go.gQ | apply Go.sQ | apply Qg.gQ); exact rfl; (first | exact .d | exact .e | exact .n | ((fail_if_success exact bqt); (fail_if_success exact bqf); exact .b))) <;> intro _)
  · exact .ret rfl (hend _)
  rename_i b1 hb1 hn1
  have hmem := szL_mem szE_le (xs := l) (left := 1048576) (by decide) (by omega)
  have hcn := szL_cnt szE_le cntE_sz l 1048576 (by decide) (by omega)
  rw [hb1] at hz1 hcn
  clear hb1
  refine .pcall rfl rfl rfl (szEntry_ok e b1 hlo (by omega) (by omega)) ?_
  have hz2 := szE_le e b1 (by omega)
  have hc2 := cntE_sz e b1 (by omega)
  have hke0 : 0 ≤ szE e b1 → e.key.length ≤ 1048576 := by
    intro h3
    simp only [szE] at h3
    split at h3
    · omega
    · have := (szL_mem szV_le (xs := e.key) (left := b1) (by omega) h3).1
      omega
  generalize szE e b1 = b2 at hz2 hc2 hke0 ⊢
  repeat' first | (apply Go.adm; exact rfl) | apply Go.qs | apply Qg.nil | ((first | apply Go.v2 | apply Go.v1); (first | exact leAdd | assumption); iterate 6 exact rfl) | ((first | apply Go.op | apply Go.sop | apply Qg.op); exact rfl; (first | exact aop_alloc | exact aop_new rfl rfl | exact aop_mksl rfl | exact aop_lenM rfl | exact rfl | exact aL rfl rfl rfl rfl rfl | exact aS rfl rfl rfl rfl rfl rfl rfl)) | ((first | apply Go.no | apply Go.sno | apply Qg.no); exact rfl) | (exfalso; omega) | (((first | apply Go.iQ | apply Go.gQ | apply Go.sQ | apply Qg.gQ); exact rfl; (first | exact .d | exact .e | exact .n | ((fail_if_success exact bqt); (fail_if_success exact bqf); exact .b))) <;> intro _)
  · exact .ret rfl (hend _)
  rename_i hn2
  have hc2 := hc2 (by omega)
  have hke : e.key.length ≤ 34359738368 := by have := hke0 (by omega); omega
  have hlx : l.length ≤ 34359738368 := by omega
  have hkx : ∀ e ∈ l, e.key.length ≤ 34359738368 := by
    intro e he
    obtain ⟨q, h1, h2, h3⟩ := hmem.2 e he
    simp only [szE] at h3
    split at h3
    · omega
    · have := (szL_mem szV_le h1 h3).1
      omega
  clear hmem hke0 hz1 hz2 hl hle
  have himpl := IndexPut_ok l e hlx hkx hke
  have hspec := sIndexPut_ok l e hlx hkx hke
  obtain ⟨hwx, hwk, hwc⟩ := PutF_size l e
  have hwk : ∀ q ∈ (PutF l e).1, q.key.length ≤ 34359738368 := fun q hq => (hwk q hq).elim (hkx q) fun h => by rw [h]; exact hke
  have hwx : (PutF l e).1.length ≤ 34359738368 := by omega
  generalize (PutF l e).1 = ws at himpl hspec hwk hwx hwc
  generalize (PutF l e).2 = B at himpl hspec
  have hcl0 := cntL_nonneg cntE_nonneg l
  have hce0 := cntL_nonneg (c := fun _ : Val => 3) (fun _ => by decide) e.key
  have hcw0 := cntL_nonneg cntE_nonneg ws
  simp only [cntE] at hc2 hwc
  repeat' first | (apply Go.adm; exact rfl) | apply Go.qs | apply Qg.nil | ((first | apply Go.v2 | apply Go.v1); (first | exact leAdd | assumption); iterate 6 exact rfl) | ((first | apply Go.op | apply Go.sop | apply Qg.op); exact rfl; (first | exact aop_alloc | exact aop_new rfl rfl | exact aop_mksl rfl | exact aop_lenM rfl | exact rfl | exact aL rfl rfl rfl rfl rfl | exact aS rfl rfl rfl rfl rfl rfl rfl)) | ((first | apply Go.no | apply Go.sno | apply Qg.no); exact rfl) | ((first | apply Go.pcall | apply Go.spcall | apply Qg.pcall); (iterate 3 exact rfl); exact New.pure (toEntryS_ok l hlx hkx)) | (exfalso; omega) | (((first | apply Go.iQ | apply Go.gQ | apply Go.sQ | apply Qg.gQ); exact rfl; (first | exact .d | exact .e | exact .n | ((fail_if_success exact bqt); (fail_if_success exact bqf); exact .b))) <;> intro _)
  refine .spcall rfl rfl rfl (NewL.pure (toEntry_ok e hke)) ?_
  repeat' first | (apply Go.adm; exact rfl) | apply Go.qs | apply Qg.nil | ((first | apply Go.v2 | apply Go.v1); (first | exact leAdd | assumption); iterate 6 exact rfl) | ((first | apply Go.op | apply Go.sop | apply Qg.op); exact rfl; (first | exact aop_alloc | exact aop_new rfl rfl | exact aop_mksl rfl | exact aop_lenM rfl | exact rfl | exact aL rfl rfl rfl rfl rfl | exact aS rfl rfl rfl rfl rfl rfl rfl)) | ((first | apply Go.no | apply Go.sno | apply Qg.no); exact rfl) | (exfalso; omega) | (((first | apply Go.iQ | apply Go.gQ | apply Go.sQ | apply Qg.gQ); exact rfl; (first | exact .d | exact .e | exact .n | ((fail_if_success exact bqt); (fail_if_success exact bqf); exact .b))) <;> intro _)
  refine .spcall rfl rfl rfl hspec ?_
  repeat' first | (apply Go.adm; exact rfl) | apply Go.qs | apply Qg.nil | ((first | apply Go.v2 | apply Go.v1); (first | exact leAdd | assumption); iterate 6 exact rfl) | ((first | apply Go.op | apply Go.sop | apply Qg.op); exact rfl; (first | exact aop_alloc | exact aop_new rfl rfl | exact aop_mksl rfl | exact aop_lenM rfl | exact rfl | exact aL rfl rfl rfl rfl rfl | exact aS rfl rfl rfl rfl rfl rfl rfl)) | ((first | apply Go.no | apply Go.sno | apply Qg.no); exact rfl) | (exfalso; omega) | (((first | apply Go.iQ | apply Go.gQ | apply Go.sQ | apply Qg.gQ); exact rfl; (first | exact .d | exact .e | exact .n | ((fail_if_success exact bqt); (fail_if_success exact bqf); exact .b))) <;> intro _)
  refine .call _ rfl rfl rfl (toEntryS_ok l hlx hkx _) ?_
  rintro r σ1 ⟨x, l1, rfl, rfl, ht1, hh1⟩
  rw [E_E] at hh1 ⊢
  repeat' first | (apply Go.adm; exact rfl) | apply Go.qs | apply Qg.nil | ((first | apply Go.v2 | apply Go.v1); (first | exact leAdd | assumption); iterate 6 exact rfl) | ((first | apply Go.op | apply Go.sop | apply Qg.op); exact rfl; (first | exact aop_alloc | exact aop_new rfl rfl | exact aop_mksl rfl | exact aop_lenM rfl | exact rfl | exact aL rfl rfl rfl rfl rfl | exact aS rfl rfl rfl rfl rfl rfl rfl)) | ((first | apply Go.no | apply Go.sno | apply Qg.no); exact rfl) | (exfalso; omega) | (((first | apply Go.iQ | apply Go.gQ | apply Go.sQ | apply Qg.gQ); exact rfl; (first | exact .d | exact .e | exact .n | ((fail_if_success exact bqt); (fail_if_success exact bqf); exact .b))) <;> intro _)
  refine .call _ rfl rfl rfl (toEntry_ok e hke _) ?_
  rintro r σ2 ⟨xs1, l2, rfl, rfl, ht2, hh2⟩
  have hh1 := hh1.frame (fun a ha => (E_lt ha.2 : (E (E σ ([] ++ l1)) l2).get a = (E σ ([] ++ l1)).get a))
  rw [E_E] at hh1 hh2 ⊢
  obtain ⟨xk, S', rfl, -, -⟩ := entry_open hh2
  repeat' first | (apply Go.adm; exact rfl) | apply Go.qs | apply Qg.nil | ((first | apply Go.v2 | apply Go.v1); (first | exact leAdd | assumption); iterate 6 exact rfl) | ((first | apply Go.op | apply Go.sop | apply Qg.op); exact rfl; (first | exact aop_alloc | exact aop_new rfl rfl | exact aop_mksl rfl | exact aop_lenM rfl | exact rfl | exact aL rfl rfl rfl rfl rfl | exact aS rfl rfl rfl rfl rfl rfl rfl)) | ((first | apply Go.no | apply Go.sno | apply Qg.no); exact rfl) | (exfalso; omega) | (((first | apply Go.iQ | apply Go.gQ | apply Go.sQ | apply Qg.gQ); exact rfl; (first | exact .d | exact .e | exact .n | ((fail_if_success exact bqt); (fail_if_success exact bqf); exact .b))) <;> intro _)
  have hold : ∀ id, id < σ.next → (E σ ([] ++ l1 ++ l2)).get id = σ.get id := fun id h => E_lt h
  have hm1 : σ.next ≤ (E σ ([] ++ l1)).next := by rw [E_next]; omega
  have hm2 : (E σ ([] ++ l1)).next ≤ (E σ ([] ++ l1 ++ l2)).next := by rw [E_next, E_next]; simp
  generalize (E σ ([] ++ l1)).next = m1 at hh1 hh2 hm1 hm2
  have hh1 : Has (E σ ([] ++ l1 ++ l2)) (fun a => σ.next ≤ a ∧ a < m1) (.fz (l.map encE)) x := hh1
  generalize E σ ([] ++ l1 ++ l2) = τ2 at hh1 hh2 hold hm2 ⊢
  refine .call _ rfl rfl rfl (Lend.new (.own (HasV.c hh1).lend (.own (HasV.agg hh2).lend .nil)) himpl) ?_
  intro r τ3 hq3
  obtain ⟨g, rfl, hg3, hh3⟩ := newPair_open hq3
  have hh1 := hh1.frame fun a ha => hg3.lt (Nat.lt_of_lt_of_le ha.2 hm2)
  have hh2 := hh2.frame fun a ha => hg3.lt ha.2
  have hold : ∀ id, id < σ.next → τ3.get id = σ.get id := fun id h => (hg3.lt (by omega)).trans (hold id h)
  have hm3 := hg3.next
  generalize τ2.next = m2 at hh2 hh3 hm2 hm3
  clear hq3 hg3 ht1 ht2
  repeat' first | (apply Go.adm; exact rfl) | apply Go.qs | apply Qg.nil | ((first | apply Go.v2 | apply Go.v1); (first | exact leAdd | assumption); iterate 6 exact rfl) | ((first | apply Go.op | apply Go.sop | apply Qg.op); exact rfl; (first | exact aop_alloc | exact aop_new rfl rfl | exact aop_mksl rfl | exact aop_lenM rfl | exact rfl | exact aL rfl rfl rfl rfl rfl | exact aS rfl rfl rfl rfl rfl rfl rfl)) | ((first | apply Go.no | apply Go.sno | apply Qg.no); exact rfl) | (exfalso; omega) | (((first | apply Go.iQ | apply Go.gQ | apply Go.sQ | apply Qg.gQ); exact rfl; (first | exact .d | exact .e | exact .n | ((fail_if_success exact bqt); (fail_if_success exact bqf); exact .b))) <;> intro _)
  refine Go.lcall rfl rfl rfl (eqEntryS_ok ws ws hwx hwk) (.bool _) (.own (HasV.c hh3).lend (.same .nil)) ?_
  rw [beq_self_eq_true]
  repeat' first | (apply Go.adm; exact rfl) | apply Go.qs | apply Qg.nil | ((first | apply Go.v2 | apply Go.v1); (first | exact leAdd | assumption); iterate 6 exact rfl) | ((first | apply Go.op | apply Go.sop | apply Qg.op); exact rfl; (first | exact aop_alloc | exact aop_new rfl rfl | exact aop_mksl rfl | exact aop_lenM rfl | exact aop_neB rfl rfl | exact rfl | exact aL rfl rfl rfl rfl rfl | exact aS rfl rfl rfl rfl rfl rfl rfl)) | ((first | apply Go.no | apply Go.sno | apply Qg.no); exact rfl) | ((first | apply Go.pcall | apply Go.spcall | apply Qg.pcall); (iterate 3 exact rfl); exact New.pure (toEntryS_ok l hlx hkx)) | (exfalso; omega) | (((first | apply Go.iQ | apply Go.gQ | apply Go.sQ | apply Qg.gQ); exact rfl; (first | exact .d | exact .e | exact .n | ((fail_if_success exact bqt); (fail_if_success exact bqf); exact .b))) <;> intro _)
  refine Go.lcall rfl rfl rfl (eqEntryS_ok l l hlx hkx) (.bool _) (.own (HasV.c hh1).lend (.same .nil)) ?_
  rw [beq_self_eq_true]
  repeat' first | (apply Go.adm; exact rfl) | apply Go.qs | apply Qg.nil | ((first | apply Go.v2 | apply Go.v1); (first | exact leAdd | assumption); iterate 6 exact rfl) | ((first | apply Go.op | apply Go.sop | apply Qg.op); exact rfl; (first | exact aop_alloc | exact aop_new rfl rfl | exact aop_mksl rfl | exact aop_lenM rfl | exact rfl | exact aL rfl rfl rfl rfl rfl | exact aS rfl rfl rfl rfl rfl rfl rfl)) | ((first | apply Go.no | apply Go.sno | apply Qg.no); exact rfl) | ((first | apply Go.pcall | apply Go.spcall | apply Qg.pcall); (iterate 3 exact rfl); exact NewL.pure (toEntry_ok e hke)) | (exfalso; omega) | (((first | apply Go.iQ | apply Go.gQ | apply Go.sQ | apply Qg.gQ); exact rfl; (first | exact .d | exact .e | exact .n | ((fail_if_success exact bqt); (fail_if_success exact bqf); exact .b))) <;> intro _)
  refine Go.slcall rfl rfl rfl (eqEntry_ok e e hke) (.bool _) (.own (HasV.agg hh2).lend (.same .nil)) ?_
  rw [beq_self_eq_true]
  repeat' first | (apply Go.adm; exact rfl) | apply Go.qs | apply Qg.nil | ((first | apply Go.v2 | apply Go.v1); (first | exact leAdd | assumption); iterate 6 exact rfl) | ((first | apply Go.op | apply Go.sop | apply Qg.op); exact rfl; (first | exact aop_alloc | exact aop_new rfl rfl | exact aop_mksl rfl | exact aop_lenM rfl | exact rfl | exact aL rfl rfl rfl rfl rfl | exact aS rfl rfl rfl rfl rfl rfl rfl)) | ((first | apply Go.no | apply Go.sno | apply Qg.no); exact rfl) | (exfalso; omega) | (((first | apply Go.iQ | apply Go.gQ | apply Go.sQ | apply Qg.gQ); exact rfl; (first | exact .d | exact .e | exact .n | ((fail_if_success exact bqt); (fail_if_success exact bqf); exact .b))) <;> intro _)
  refine .call _ rfl rfl rfl ((markEntryS_ok l 1 hlx hkx (by decide) (by omega)).at_ _ _ _ hh1) ?_
  rintro r τ4 ⟨rfl, hnx4, hfr4, -⟩
  have hh2 := hh2.frame (fun a ha => hfr4 a fun h => by have := ha.1; have := h.2; omega)
  have hh3 := hh3.frame (fun a ha => hfr4 a fun h => by have := ha.1; have := h.2; omega)
  have hold : ∀ id, id < σ.next → τ4.get id = σ.get id := fun id h => (hfr4 id fun h' => by have := h'.1; omega).trans (hold id h)
  generalize hk2 : 1 + cntL cntE l = k2
  have hk2' : 1 ≤ k2 ∧ k2 ≤ 4194305 := by omega
  clear hfr4 hh1
  repeat' first | (apply Go.adm; exact rfl) | apply Go.qs | apply Qg.nil | ((first | apply Go.v2 | apply Go.v1); (first | exact leAdd | assumption); iterate 6 exact rfl) | ((first | apply Go.op | apply Go.sop | apply Qg.op); exact rfl; (first | exact aop_alloc | exact aop_new rfl rfl | exact aop_mksl rfl | exact aop_lenM rfl | exact rfl | exact aL rfl rfl rfl rfl rfl | exact aS rfl rfl rfl rfl rfl rfl rfl)) | ((first | apply Go.no | apply Go.sno | apply Qg.no); exact rfl) | (exfalso; omega) | (((first | apply Go.iQ | apply Go.gQ | apply Go.sQ | apply Qg.gQ); exact rfl; (first | exact .d | exact .e | exact .n | ((fail_if_success exact bqt); (fail_if_success exact bqf); exact .b))) <;> intro _)
  refine .call _ rfl rfl rfl ((markEntry_ok e k2 hke (by omega) (by omega)).at_ _ _ _ hh2) ?_
  rintro r τ5 ⟨rfl, hnx5, hfr5⟩
  have hh3 := hh3.frame (fun a ha => hfr5 a fun h => by have := ha.1; have := h.2; omega)
  have hold : ∀ id, id < σ.next → τ5.get id = σ.get id := fun id h => (hfr5 id fun h' => by have := h'.1; omega).trans (hold id h)
  generalize hk3 : k2 + cntL (fun _ => 3) e.key = k3
  have hk3' : 1 ≤ k3 := by omega
  clear hfr5 hh2 hk3
  repeat' first | (apply Go.adm; exact rfl) | apply Go.qs | apply Qg.nil | ((first | apply Go.v2 | apply Go.v1); (first | exact leAdd | assumption); iterate 6 exact rfl) | ((first | apply Go.op | apply Go.sop | apply Qg.op); exact rfl; (first | exact aop_alloc | exact aop_new rfl rfl | exact aop_mksl rfl | exact aop_lenM rfl | exact rfl | exact aL rfl rfl rfl rfl rfl | exact aS rfl rfl rfl rfl rfl rfl rfl)) | ((first | apply Go.no | apply Go.sno | apply Qg.no); exact rfl) | (exfalso; omega) | (((first | apply Go.iQ | apply Go.gQ | apply Go.sQ | apply Qg.gQ); exact rfl; (first | exact .d | exact .e | exact .n | ((fail_if_success exact bqt); (fail_if_success exact bqf); exact .b))) <;> intro _)
  refine Go.lcall rfl rfl rfl (eqEntryS_ok ws ws hwx hwk) (.bool _) (.own (HasV.c hh3).lend (.same .nil)) ?_
  rw [beq_self_eq_true]
  repeat' first | (apply Go.adm; exact rfl) | apply Go.qs | apply Qg.nil | ((first | apply Go.v2 | apply Go.v1); (first | exact leAdd | assumption); iterate 6 exact rfl) | ((first | apply Go.op | apply Go.sop | apply Qg.op); exact rfl; (first | exact aop_alloc | exact aop_new rfl rfl | exact aop_mksl rfl | exact aop_lenM rfl | exact aop_neB rfl rfl | exact rfl | exact aL rfl rfl rfl rfl rfl | exact aS rfl rfl rfl rfl rfl rfl rfl)) | ((first | apply Go.no | apply Go.sno | apply Qg.no); exact rfl) | (exfalso; omega) | (((first | apply Go.iQ | apply Go.gQ | apply Go.sQ | apply Qg.gQ); exact rfl; (first | exact .d | exact .e | exact .n | ((fail_if_success exact bqt); (fail_if_success exact bqf); exact .b))) <;> intro _)
  refine .call _ rfl rfl rfl ((markEntryS_ok ws 1 hwx hwk (by decide) (by omega)).at_ _ _ _ hh3) ?_
  rintro r τ6 ⟨rfl, hnx6, hfr6, hh3⟩
  have hold : ∀ id, id < σ.next → τ6.get id = σ.get id := fun id h => (hfr6 id fun h' => by have := h'.1; omega).trans (hold id h)
  have hheld := heldS_mark heldE_mark cntE_nonneg ws 1 (by decide)
  have hms : (markL markE cntE ws 1).length = ws.length := markL_length
  have hhc := heldEntryS_ok (markL markE cntE ws 1) 1 (by omega) (marked_keys hwk) (by decide) (by rw [marked_cnt]; omega)
  rw [hheld] at hhc
  generalize markL markE cntE ws 1 = ms at hh3 hhc hms
  generalize hk5 : 1 + cntL cntE ws = k5 at hhc ⊢
  have hk6 : 0 ≤ k5 := by omega
  clear hk5 hheld hfr6
  repeat' first | (apply Go.adm; exact rfl) | apply Go.qs | apply Qg.nil | ((first | apply Go.v2 | apply Go.v1); (first | exact leAdd | assumption); iterate 6 exact rfl) | ((first | apply Go.op | apply Go.sop | apply Qg.op); exact rfl; (first | exact aop_alloc | exact aop_new rfl rfl | exact aop_mksl rfl | exact aop_lenM rfl | exact rfl | exact aL rfl rfl rfl rfl rfl | exact aS rfl rfl rfl rfl rfl rfl rfl)) | ((first | apply Go.no | apply Go.sno | apply Qg.no); exact rfl) | (exfalso; omega) | (((first | apply Go.iQ | apply Go.gQ | apply Go.sQ | apply Qg.gQ); exact rfl; (first | exact .d | exact .e | exact .n | ((fail_if_success exact bqt); (fail_if_success exact bqf); exact .b))) <;> intro _)
  refine Go.lcall rfl rfl rfl hhc (.int _ _) (.own (HasV.c hh3).lend (.same .nil)) ?_
  repeat' first | (apply Go.adm; exact rfl) | apply Go.qs | apply Qg.nil | ((first | apply Go.v2 | apply Go.v1); (first | exact leAdd | assumption); iterate 6 exact rfl) | ((first | apply Go.op | apply Go.sop | apply Qg.op); exact rfl; (first | exact aop_alloc | exact aop_new rfl rfl | exact aop_mksl rfl | exact aop_lenM rfl | exact rfl | exact aL rfl rfl rfl rfl rfl | exact aS rfl rfl rfl rfl rfl rfl rfl)) | ((first | apply Go.no | apply Go.sno | apply Qg.no); exact rfl) | ((first | apply Go.pcall | apply Go.spcall | apply Qg.pcall); (iterate 3 exact rfl); exact New.pure (toEntryS_ok l hlx hkx)) | (exfalso; omega) | (((first | apply Go.iQ | apply Go.gQ | apply Go.sQ | apply Qg.gQ); exact rfl; (first | exact .d | exact .e | exact .n | ((fail_if_success exact bqt); (fail_if_success exact bqf); exact .b))) <;> intro _)
  refine .spcall rfl rfl rfl (NewL.pure (toEntry_ok e hke)) ?_
  repeat' first | (apply Go.adm; exact rfl) | apply Go.qs | apply Qg.nil | ((first | apply Go.v2 | apply Go.v1); (first | exact leAdd | assumption); iterate 6 exact rfl) | ((first | apply Go.op | apply Go.sop | apply Qg.op); exact rfl; (first | exact aop_alloc | exact aop_new rfl rfl | exact aop_mksl rfl | exact aop_lenM rfl | exact rfl | exact aL rfl rfl rfl rfl rfl | exact aS rfl rfl rfl rfl rfl rfl rfl)) | ((first | apply Go.no | apply Go.sno | apply Qg.no); exact rfl) | (exfalso; omega) | (((first | apply Go.iQ | apply Go.gQ | apply Go.sQ | apply Qg.gQ); exact rfl; (first | exact .d | exact .e | exact .n | ((fail_if_success exact bqt); (fail_if_success exact bqf); exact .b))) <;> intro _)
  refine .spcall rfl rfl rfl (NewV.pure himpl) ?_
  repeat' first | (apply Go.adm; exact rfl) | apply Go.qs | apply Qg.nil | ((first | apply Go.v2 | apply Go.v1); (first | exact leAdd | assumption); iterate 6 exact rfl) | ((first | apply Go.op | apply Go.sop | apply Qg.op); exact rfl; (first | exact aop_alloc | exact aop_new rfl rfl | exact aop_mksl rfl | exact aop_lenM rfl | exact aop_neB rfl rfl | exact rfl | exact aL rfl rfl rfl rfl rfl | exact aS rfl rfl rfl rfl rfl rfl rfl)) | ((first | apply Go.no | apply Go.sno | apply Qg.no); exact rfl) | ((first | apply Go.pcallB | apply Go.spcallB | apply Qg.pcallB); (iterate 3 exact rfl); exact eqEntryS_ok ws ws hwx hwk; intro _ _) | (exfalso; omega) | (((first | apply Go.iQ | apply Go.gQ | apply Go.sQ | apply Qg.gQ); exact rfl; (first | exact .d | exact .e | exact .n | ((fail_if_success exact bqt); (fail_if_success exact bqf); exact .b))) <;> intro _)
  · exfalso
    simp_all
  refine Go.lcall rfl rfl rfl hhc (.int _ _) (.own (HasV.c hh3).lend (.same .nil)) ?_
  repeat' first | (apply Go.adm; exact rfl) | apply Go.qs | apply Qg.nil | ((first | apply Go.v2 | apply Go.v1); (first | exact leAdd | assumption); iterate 6 exact rfl) | ((first | apply Go.op | apply Go.sop | apply Qg.op); exact rfl; (first | exact aop_alloc | exact aop_new rfl rfl | exact aop_mksl rfl | exact aop_lenM rfl | exact rfl | exact aL rfl rfl rfl rfl rfl | exact aS rfl rfl rfl rfl rfl rfl rfl)) | ((first | apply Go.no | apply Go.sno | apply Qg.no); exact rfl) | (exfalso; omega) | (((first | apply Go.iQ | apply Go.gQ | apply Go.sQ | apply Qg.gQ); exact rfl; (first | exact .d | exact .e | exact .n | ((fail_if_success exact bqt); (fail_if_success exact bqf); exact .b))) <;> intro _)
  exact .ret rfl ⟨hold, solid_end⟩
end Go.Proofs.Ytcfpdongfdhgjaa.Am

/- The abstract machine, part 27: a row's arguments as abstract values, and what a contract says of a call. -/
set_option linter.unusedVariables false
set_option linter.unusedSimpArgs false
namespace Go.Proofs.Ytcfpdongfdhgjaa.Am
open Go.RowKit Go.ChangeShapes Go.WideShapes

/-- A world of which nothing is ours. -/
def Cx.at (W : World) : Cx := ⟨fun _ _ => ⟨0, 0, 0, false⟩, fun _ _ => False, fun _ => False, W⟩
theorem Rl.at (W : World) : Rl (Cx.at W) (Store.none 0) :=
  ⟨fun _ _ h => h.elim, fun id v es hg => by simp [Store.none] at hg, fun b => ⟨fun h => h.elim, fun ⟨id, v, es, hg, _⟩ => by simp [Store.none] at hg⟩, fun id v es id' v' es' hg => by simp [Store.none] at hg, fun id v es hg => by simp [Store.none] at hg⟩
theorem rpv_bool {D : Cx} {b : Bool} {v : Value} (h : RpV D (.c (.bool b)) v) : v = .bool b := by
  cases h with
  | c h => cases h; rfl
theorem Pure.calls {P : Program} {f : Nat} {args : List AV} {b : Bool} (h : Pure P f args (.c (.bool b))) {W : World} {cargs : Array Value} (ha : ∃ hl : cargs.size = args.length, ∀ i (hi : i < args.length), RpV (Cx.at W) args[i] (cargs[i]'(by omega))) :
    Calls P f cargs W fun e w' => e = .returned (.bool b) ∧ Below W.heap.size W w' := by
  refine ((h.at_ (Store.none 0)).2 (Cx.at W) cargs (Rl.at W) ha).mono ?_
  rintro e w' ⟨D, σ', r, v, rfl, rfl, ⟨rfl, rfl⟩, hR, hv, hle⟩
  exact ⟨by rw [rpv_bool hv], ⟨hle.os, hle.tape, hle.output, hle.size, fun k hk => hle.keep k hk (fun h => h.elim)⟩⟩

section
variable {H : Type} {enc : TypeId × Value → H} {P : Program} {W : World}
/-- What the rows say of a value of a type, as abstract cells. -/
structure Opens (enc : TypeId × Value → H) (P : Program) (W : World) (t : TypeId) {α : Type} (e : α → List Ce) (good : α → Prop) : Prop where
  op : ∀ fuel cs x, DataW.trod enc P W 0 (fun _ => true) true fuel t cs = some x → (∀ n ∈ x.1.weights P t, n ≤ reachBytes) →
    ∃ a, good a ∧ ∃ hl : cs.length = (e a).length, ∀ i (hi : i < (e a).length), Rp (Cx.at W) (e a)[i] (cs[i]'(by omega))
theorem Opens.one {t : TypeId} {α : Type} {e : α → List Ce} {good : α → Prop} (h : ∀ fuel cs x, DataW.trod enc P W 0 (fun _ => true) true fuel t cs = some x → (∀ n ∈ x.1.weights P t, n ≤ reachBytes) → ∃ a y v, good a ∧ e a = [y] ∧ cs = [v] ∧ Rp (Cx.at W) y v) : Opens enc P W t e good := by
  constructor
  intro fuel cs x h1 h2
  obtain ⟨a, y, v, hg, he, rfl, hr⟩ := h fuel cs x h1 h2
  refine ⟨a, hg, by simp [he], fun i hi => ?_⟩
  have hi' : i = 0 := by rw [he] at hi; simpa using hi
  subst hi'
  simp only [he, List.getElem_cons_zero]
  exact hr
theorem Opens.iso {t : TypeId} {α β : Type} {e : β → List Ce} {good : β → Prop} (h : Opens enc P W t e good) (g : β → α) {e' : α → List Ce} {good' : α → Prop} (he : ∀ b, e' (g b) = e b) (hg : ∀ b, good b → good' (g b)) : Opens enc P W t e' good' := by
  constructor
  intro fuel cs x h1 h2
  obtain ⟨a, h3, hl, h4⟩ := h.op fuel cs x h1 h2
  refine ⟨g a, hg a h3, by rw [he]; exact hl, fun i hi => ?_⟩
  simp only [he]
  exact h4 i (by rw [he] at hi; exact hi)
theorem Opens.int {t : TypeId} {k : IntKind} (ht : P.underlying t = some (.int k)) : Opens enc P W t (fun n : Int => [.int k n]) (fun n => (Lit.int k n).wf = true) := by
  refine Opens.one fun fuel cs x h1 _ => ?_
  obtain ⟨n, rfl, rfl, hw⟩ := DataW.trod_int ht h1
  exact ⟨n, _, _, hw, rfl, rfl, .int k n⟩
theorem Opens.bool {t : TypeId} (ht : P.underlying t = some .bool) : Opens enc P W t (fun b : Bool => [.bool b]) (fun _ => True) := by
  refine Opens.one fun fuel cs x h1 _ => ?_
  obtain ⟨n, rfl, rfl⟩ := DataW.trod_bool ht h1
  exact ⟨n, _, _, trivial, rfl, rfl, .bool n⟩
theorem Opens.str {t : TypeId} (ht : P.underlying t = some .string) : Opens enc P W t (fun s : List UInt8 => [.str s]) (fun s => s.length ≤ 140737488351232) := by
  refine Opens.one fun fuel cs x h1 h2 => ?_
  obtain ⟨s, rfl, rfl, hs⟩ := DataW.trod_string ht h1
  refine ⟨s.data.toList, _, _, ?_, rfl, rfl, .str _⟩
  have := h2 s.data.toList.length (by simp [DataW.weights])
  exact this
theorem list_choice {α : Type} {p : Nat → α → Prop} : ∀ n, (∀ i, i < n → ∃ a, p i a) → ∃ l : List α, l.length = n ∧ ∀ i (hi : i < l.length), p i l[i]
  | 0, _ => ⟨[], rfl, fun i hi => by simp at hi⟩
  | n + 1, h => by
    obtain ⟨l, h1, h2⟩ := list_choice n fun i hi => h i (by omega)
    obtain ⟨a, ha⟩ := h n (by omega)
    refine ⟨l ++ [a], by simp [h1], fun i hi => ?_⟩
    by_cases e : i < l.length
    · rw [List.getElem_append_left e]; exact h2 i e
    · have : i = l.length := by simp at hi; omega
      subst this
      have e1 : (l ++ [a])[l.length]'hi = a := by rw [List.getElem_append_right (Nat.le_refl _)]; simp
      rw [e1, h1]
      exact ha
theorem weightsAll_mem {e : TypeId} : ∀ {l : List (DataW H)} {d : DataW H} {n : Nat}, d ∈ l → n ∈ d.weights P e → n ∈ DataW.weightsAll P e l
  | y :: r, d, n, h, hn => by
    simp only [DataW.weightsAll, List.mem_append]
    rcases List.mem_cons.1 h with rfl | h
    · exact .inl hn
    · exact .inr (weightsAll_mem h hn)
theorem add_add {a : Addr} (h : a.spot = none) (m j : Nat) : (a.add m).add j = ⟨a.block, a.off + (m + j), none⟩ := by
  obtain ⟨b, o, s⟩ := a
  subst h
  simp only [Addr.add]
  split <;> split <;> simp_all [Nat.add_assoc]
theorem spot_of_cell {w : World} {a : Addr} {v : Value} (h : w.cell? a = some v) : a.spot = none ∧ a.block < w.heap.size := by
  unfold World.cell? at h
  split at h
  · rename_i hb
    refine ⟨?_, ?_⟩
    · split at h
      · cases h
      · rename_i hs
        simpa using hs
    · exact (Array.getElem?_eq_some_iff.1 hb).1
  · cases h
theorem Opens.slice {t el : TypeId} {α : Type} {e : α → List Ce} {good : α → Prop} {s : Nat} (ht : P.underlying t = some (.slice el)) (h : Opens enc P W el e good) (hs : P.cellsOf el = s) (hs0 : 0 < s) (he : ∀ a, (e a).length = s) :
    Opens enc P W t (fun l : List α => [.fz (l.map e)]) (fun l => l.length * P.bytesOf el ≤ 140737488351232 ∧ ∀ a ∈ l, good a) := by
  refine Opens.one fun fuel cs x h1 h2 => ?_
  rcases DataW.trod_slice ht h1 with ⟨rfl, rfl⟩ | ⟨a, len, cap, elems, rest, n, _, rfl, rfl, hb, hl, hm, hlen, hel, hsp, hns⟩
  · exact ⟨[], _, _, ⟨by simp, by simp⟩, rfl, rfl, .fz0 _ _⟩
  rw [hs] at hel
  have each : ∀ i, i < len → ∃ y, good y ∧ ∀ j (hj : j < (e y).length), ∃ v, W.cell? ((a.add (i * s)).add j) = some v ∧ Rp (Cx.at W) (e y)[j] v := by
    intro i hi
    have hi' : i < elems.length := by omega
    have h3 := hel i hi
    rw [List.getElem?_eq_getElem hi', Option.bind_eq_some_iff] at h3
    obtain ⟨cs, hc, hd⟩ := h3
    obtain ⟨y, hy, hl, hr⟩ := h.op n cs _ hd (fun m hm => h2 m (by
      simp only [DataW.weights, ht]
      refine List.mem_cons_of_mem _ (List.mem_append_left _ (weightsAll_mem (d := elems[i].1) (List.mem_map_of_mem (List.getElem_mem hi')) hm))))
    obtain ⟨_, hcl, hcc⟩ := World.cells?_some hc
    refine ⟨y, hy, fun j hj => ⟨cs[j]'(by omega), ?_, hr j hj⟩⟩
    rw [hcc j (by rw [← he y]; exact hj), List.getElem?_eq_getElem]
  obtain ⟨l, hll, hl2⟩ := list_choice len each
  refine ⟨l, _, _, ⟨?_, fun y hy => ?_⟩, rfl, rfl, ?_⟩
  · have := h2 _ (by
      simp only [DataW.weights, ht]
      exact List.mem_cons_self)
    simp only [List.length_map] at this
    have h5 : l.length * P.bytesOf el ≤ (elems.length + rest.length) * P.bytesOf el := Nat.mul_le_mul_right _ (by omega)
    exact Nat.le_trans h5 this
  · obtain ⟨i, hi, rfl⟩ := List.mem_iff_getElem.1 hy
    exact (hl2 i hi).1
  · rcases Nat.eq_zero_or_pos len with h0 | h0
    · have hl0 : l = [] := List.eq_nil_of_length_eq_zero (by omega)
      subst hl0
      subst h0
      exact .fz0 _ _
    · obtain ⟨v0, hv0, _⟩ := (hl2 0 (by omega)).2 0 (by rw [he]; exact hs0)
      have hsp0 : a.spot = none ∧ a.block < W.heap.size := by
        have := spot_of_cell hv0
        simpa [Addr.add] using this
      obtain ⟨b, o, sp⟩ := a
      obtain ⟨rfl, hbl⟩ := hsp0
      have hlm : (l.map e).length = len := by simp [hll]
      have key := Rp.fz (C := Cx.at W) (l.map e) b o cap s (fun i j => (W.cell? ⟨b, o + (i * s + j), none⟩).getD .nilFunc) hbl (fun h => h.elim) (by omega) (fun i hi => by simp [he]) (fun i j hi hj => by
        rw [hlm] at hi
        obtain ⟨v, hv, _⟩ := (hl2 i (by omega)).2 j (by rw [he]; exact hj)
        rw [add_add rfl] at hv
        show W.cell? _ = _
        rw [hv]
        rfl) (fun i j hi hj => by
        rw [hlm] at hi
        have hj' : j < (e (l[i]'(by omega))).length := by simpa using hj
        obtain ⟨v, hv, hr⟩ := (hl2 i (by omega)).2 j hj'
        rw [add_add rfl] at hv
        simp only [hv, Option.getD_some, List.getElem_map]
        exact hr)
      rw [hlm] at key
      exact key

/-- .. of the fields of a struct, from one on. -/
structure OpensF (enc : TypeId × Value → H) (P : Program) (W : World) (fs : Array Field) (k off : Nat) {α : Type} (e : α → List Ce) (good : α → Prop) : Prop where
  op : ∀ (cs : List Value) (n : Nat) (xs : List (DataW H × List MemPlace)), xs.length = fs.size → (∀ (i : Nat) (f : Field), fs[i]? = some f → DataW.trod enc P W 0 (fun _ => true) true n f.type ((cs.drop f.offset).take (P.cellsOf f.type)) = xs[i]?) →
    (∀ (i : Nat) (f : Field) (x : DataW H × List MemPlace), fs[i]? = some f → xs[i]? = some x → ∀ m ∈ x.1.weights P f.type, m ≤ reachBytes) →
    ∃ a, good a ∧ ∀ i (hi : i < (e a).length), ∃ v, cs[off + i]? = some v ∧ Rp (Cx.at W) (e a)[i] v
theorem OpensF.nil {fs : Array Field} {k off : Nat} : OpensF enc P W fs k off (fun _ : Unit => []) (fun _ => True) :=
  ⟨fun cs n xs _ _ _ => ⟨(), trivial, fun i hi => by simp at hi⟩⟩
theorem OpensF.cons {fs : Array Field} {k off s : Nat} {f : Field} {α β : Type} {e : α → List Ce} {good : α → Prop} {e' : β → List Ce} {good' : β → Prop} (hf : fs[k]? = some f) (h : Opens enc P W f.type e good) (ho : f.offset = off) (he : ∀ a, (e a).length = s) (hr : OpensF enc P W fs (k + 1) (off + s) e' good') :
    OpensF enc P W fs k off (fun p : α × β => e p.1 ++ e' p.2) (fun p => good p.1 ∧ good' p.2) := by
  constructor
  intro cs n xs hxl hx hw
  obtain ⟨b, hb, hb2⟩ := hr.op cs n xs hxl hx hw
  have hk : k < xs.length := by rw [hxl]; exact (Array.getElem?_eq_some_iff.1 hf).1
  have h1 := hx k f hf
  rw [List.getElem?_eq_getElem hk] at h1
  obtain ⟨a, ha, hl, ha2⟩ := h.op n _ _ h1 (hw k f _ hf (List.getElem?_eq_getElem hk))
  refine ⟨(a, b), ⟨ha, hb⟩, fun i hi => ?_⟩
  by_cases c : i < (e a).length
  · refine ⟨_, ?_, by
      simp only [List.getElem_append_left c]
      exact ha2 i c⟩
    have h2 : ((cs.drop f.offset).take (P.cellsOf f.type))[i]? = some (((cs.drop f.offset).take (P.cellsOf f.type))[i]'(by omega)) := List.getElem?_eq_getElem _
    rw [List.getElem?_take] at h2
    split at h2
    · rw [List.getElem?_drop] at h2
      rw [← h2]
      congr 1
      omega
    · cases h2
  · have hi' : i - (e a).length < (e' b).length := by simp only [List.length_append] at hi; omega
    obtain ⟨v, h2, h3⟩ := hb2 (i - (e a).length) hi'
    refine ⟨v, ?_, ?_⟩
    · rw [← h2, he]
      congr 1
      have := he a
      omega
    · simp only [List.getElem_append_right (Nat.le_of_not_lt c)]
      exact h3
theorem Opens.struct {t : TypeId} {fs : Array Field} {α : Type} {e : α → List Ce} {good : α → Prop} {s : Nat} (ht : P.underlying t = some (.struct fs)) (h : OpensF enc P W fs 0 0 e good) (hs : P.cellsOf t = s) (he : ∀ a, (e a).length = s) : Opens enc P W t e good := by
  constructor
  intro fuel cs x h1 h2
  obtain ⟨xs, n, rfl, rfl, hl, hxl, hx⟩ := DataW.trod_struct ht h1
  obtain ⟨a, ha, ha2⟩ := h.op cs n xs hxl hx (fun i f y hf hy m hm => h2 m (by
    simp only [DataW.weights, ht]
    refine DataW.weights_mem_each (j := i) (t := f.type) (d := y.1) ?_ ?_ m hm
    · rw [List.getElem?_map, Array.getElem?_toList, hf]; rfl
    · rw [List.getElem?_map, hy]; rfl))
  refine ⟨a, ha, by rw [he, hl, hs], fun i hi => ?_⟩
  obtain ⟨v, h3, h4⟩ := ha2 i hi
  rw [Nat.zero_add] at h3
  obtain ⟨_, rfl⟩ := List.getElem?_eq_some_iff.1 h3
  exact h4
/-- An argument of a row. -/
theorem Opens.agg {t : TypeId} {fs : Array Field} {α : Type} {e : α → List Ce} {good : α → Prop} (h : Opens enc P W t e good) (ht : P.underlying t = some (.struct fs)) {r : Reach} {b0 : Nat} {v : Value} (hv : Value.okWide P W r b0 t v) {d : DataW H} {ps : List MemPlace} (hd : DataW.Trod enc P W 0 (fun _ => true) true t v d ps) (hw : ∀ n ∈ d.weights P t, n ≤ reachBytes) :
    ∃ a, good a ∧ RpV (Cx.at W) (.agg (e a)) v := by
  simp only [Value.okWide, ht] at hv
  obtain ⟨cs, rfl, _, _⟩ := hv
  obtain ⟨fuel, hf⟩ := hd
  obtain ⟨a, ha, hl, hr⟩ := h.op fuel _ _ hf hw
  refine ⟨a, ha, .agg (by simpa [Value.cells] using hl) fun i hi => ?_⟩
  have := hr i hi
  simpa [Value.cells] using this
theorem Opens.c {t : TypeId} {α : Type} {e : α → Ce} {good : α → Prop} (h : Opens enc P W t (fun a => [e a]) good) {v : Value} (hv : v.cells = #[v]) {d : DataW H} {ps : List MemPlace} (hd : DataW.Trod enc P W 0 (fun _ => true) true t v d ps) (hw : ∀ n ∈ d.weights P t, n ≤ reachBytes) :
    ∃ a, good a ∧ RpV (Cx.at W) (.c (e a)) v := by
  obtain ⟨fuel, hf⟩ := hd
  rw [hv] at hf
  obtain ⟨a, ha, hl, hr⟩ := h.op fuel _ _ hf hw
  exact ⟨a, ha, .c (hr 0 (by simp))⟩
theorem cells_slice {t el : TypeId} (ht : P.underlying t = some (.slice el)) {r : Reach} {b0 : Nat} {v : Value} (hv : Value.okWide P W r b0 t v) : v.cells = #[v] := by
  obtain ⟨a, len, cap, rfl⟩ := okWide_slice ht hv
  rfl
end
end Go.Proofs.Ytcfpdongfdhgjaa.Am

/- What the rows say of values and entries. -/
set_option linter.unusedVariables false
set_option linter.unusedSimpArgs false
namespace Go.Proofs.Ytcfpdongfdhgjaa.Am
open Go.RowKit Go.ChangeShapes Go.WideShapes

section
variable {H : Type} {enc : TypeId × Value → H} {W : World}
theorem openV : Opens enc Try.prog W 53 encV LenV := 
  (Opens.struct (s := 3) Try.underlying53 (.cons (s := 1) rfl (.int Try.underlying2) rfl (fun _ => rfl) (.cons (s := 1) rfl (.int Try.underlying2) rfl (fun _ => rfl) (.cons (s := 1) rfl (.str Try.underlying9) rfl (fun _ => rfl) .nil))) (by kernel_rfl) (fun _ => rfl)).iso (fun p => Val.mk p.1 p.2.1 p.2.2.1) (fun _ => rfl) fun p h => Nat.le_trans h.2.2.1 (by decide)
theorem openVs : Opens enc Try.prog W 23 (fun l : List Val => [.fz (l.map encV)]) (fun l => l.length ≤ 140737488351232 ∧ ∀ v ∈ l, LenV v) :=
  (Opens.slice (s := 3) Try.underlying23 openV (by kernel_rfl) (by decide) (fun _ => rfl)).iso id (fun _ => rfl) fun l h => ⟨Nat.le_trans (Nat.le_mul_of_pos_right _ (of_decide_eq_true (by kernel_rfl))) h.1, h.2⟩
theorem openE : Opens enc Try.prog W 25 encE LenE := 
  (Opens.struct (s := 2) Try.underlying25 (.cons (s := 1) rfl openVs rfl (fun _ => rfl) (.cons (s := 1) rfl (.int Try.underlying2) rfl (fun _ => rfl) .nil)) (by kernel_rfl) (fun _ => rfl)).iso (fun p => Entry.mk p.1 p.2.1) (fun _ => rfl) fun p h => ⟨Nat.le_trans h.1.1 (by decide), h.1.2⟩
theorem openEs : Opens enc Try.prog W 22 (fun l : List Entry => [.fz (l.map encE)]) (fun l => l.length ≤ 140737488351232 ∧ ∀ v ∈ l, LenE v) :=
  (Opens.slice (s := 2) Try.underlying22 openE (by kernel_rfl) (by decide) (fun _ => rfl)).iso id (fun _ => rfl) fun l h => ⟨Nat.le_trans (Nat.le_mul_of_pos_right _ (of_decide_eq_true (by kernel_rfl))) h.1, h.2⟩
end
end Go.Proofs.Ytcfpdongfdhgjaa.Am

/- The statement of the law FnExactIndexPut: whatever its arguments are, it returns true, leaves what was there as it was, and ends. No condition. -/
namespace Go.Proofs.Ytcfpdongfdhgjaa.fnExactIndexPut
open Go.ChangeShapes Go.WideShapes Go.ChangeAt Go.RowKit Go.Proofs.Ytcfpdongfdhgjaa.Am
open Go.ChangeMaps (open_string shut_string)
set_option linter.unusedVariables false
theorem own : ownKnob Try.prog.godebug = none := by kernel_rfl
theorem laidOut : laidOutB Try.prog = true := by kernel_rfl
set_option maxRecDepth 100000 in
theorem lifted (os : Os) (started : os.Started) (H : Type) (enc : TypeId × Value → H) :
    ReturnsInHanded {} Try.checked os 3 .any (Rows.fnExactIndexPutSpec.pre6 enc Try.prog Try.f3 Rows.fnExactIndexPutRow.domain false) (Rows.fnExactIndexPutSpec.post enc Try.prog Try.f3 false true false false) := by
  refine returnsInHanded_of_change_sized (C := Try.checked) own started (by kernel_rfl) Try.func3
    (ChangeSpec.witness6 (enc := enc) (C := Try.checked) false ⟨#[], #[.slice none 0 0, .agg #[.slice none 0 0, .int .i64 0]], []⟩ 8 (by kernel_rfl) (by kernel_rfl) (by kernel_rfl) (by kernel_rfl)) ?_
  intro W base args ds gs before hval0 hW hcnd hsz0 _
  have hval : ∀ (j : Nat) t v, Try.f3.params[j]? = some t → args[j]? = some v → Value.okWide Try.prog W .any base t v := hval0
  have hW' := hW
  obtain ⟨p, q, hA0, hV, rfl, hfz, hnd⟩ := hW
  have hA : DataW.TrodAll enc Try.prog W 0 (fun _ => true) true Try.f3.params.toList args.toList ds p := hA0
  rw [Try.params3] at hA hval
  have hsz : (DataW.weightsEach Try.prog (Try.f3.params.toList ++ Rows.fnExactIndexPutSpec.plain.varTypes Try.prog) (ds ++ gs)).all (· ≤ reachBytes) = true := hsz0
  rw [Try.params3] at hsz
  obtain ⟨v0, vs0, d0, ds0, p0, q0, hargs, rfl, rfl, h0, r0⟩ := trodAll_cons hA
  obtain ⟨v1, vs1, d1, ds1, p1, q1, rfl, rfl, rfl, h1, r1⟩ := trodAll_cons r0
  obtain ⟨rfl, rfl, rfl⟩ := trodAll_nil r1
  obtain rfl : args = #[v0, v1] := by cases args; simp_all
  obtain ⟨rfl, rfl⟩ := trodVars_none hV
  obtain ⟨a0, g0, e0⟩ := Opens.c openEs (cells_slice Try.underlying22 (hval 0 22 v0 rfl rfl)) h0 (fun n hn => of_decide_eq_true (List.all_eq_true.1 hsz _ (DataW.weights_mem_each (j := 0) (t := 22) rfl rfl n hn)))
  have k0 := h0
  have lt0 : ∀ x ∈ p0, x.block < W.heap.size := by obtain ⟨m, hm⟩ := k0; exact DataW.trod_lt m _ _ _ hm
  obtain ⟨a1, g1, e1⟩ := openE.agg Try.underlying25 (hval 1 25 v1 rfl rfl) h1 (fun n hn => of_decide_eq_true (List.all_eq_true.1 hsz _ (DataW.weights_mem_each (j := 1) (t := 25) rfl rfl n hn)))
  have k1 := h1
  have lt1 : ∀ x ∈ p1, x.block < W.heap.size := by obtain ⟨m, hm⟩ := k1; exact DataW.trod_lt m _ _ _ hm
  clear hA0 hval0 hsz0 hsz
  refine ((IndexPut_sound a0 a1 (Nat.le_trans g0.1 (by decide)) g0.2 g1).calls (W := W) ⟨rfl, fun i hi => ?_⟩).mono fun e W' ⟨he, bel⟩ => ?_
  · match i, hi with
    | 0, _ => exact e0
    | 1, _ => exact e1
  subst he
  exact ⟨_, rfl, _, _, _, [], _, [], hW', trodAll_mk1 (shut_bool Try.underlying4 _), (trodAll_cons_mk (Below.trod laidOut (by kernel_rfl) (of_decide_eq_true (by kernel_rfl)) k0 bel lt0) (trodAll_cons_mk (Below.trod laidOut (by kernel_rfl) (of_decide_eq_true (by kernel_rfl)) k1 bel lt1) trodAll_mk0)), rfl, bel.frame _, fun h => by cases h⟩
theorem over : Rows.fnExactIndexPutRow.holds Try.pinned (OpenSpec.ofChange Rows.fnExactIndexPutSpec) :=
  OpenClaim.holds_of_wide 3 Try.f3 rfl rfl rfl rfl rfl rfl rfl ⟨rfl, rfl, rfl, rfl, rfl⟩ rfl rfl rfl rfl rfl (by kernel_rfl) Try.func3 (by kernel_rfl)
    (of_decide_eq_true (by kernel_rfl)) (by unfold Func.isWrapper; first | (rw [if_pos (by decide +kernel)]; kernel_rfl) | (rw [if_neg (by decide +kernel)]; exact ⟨rfl, rfl⟩))
    (fun os started H enc _ => lifted os started H enc)
theorem proved : Rows.FnExactIndexPutSaid := over
end Go.Proofs.Ytcfpdongfdhgjaa.fnExactIndexPut
namespace Go.Proofs.Ytcfpdongfdhgjaa
/-- The row, under a short name, for the claim. -/
theorem fnExactIndexPut_holds : Rows.FnExactIndexPutSaid := fnExactIndexPut.proved
#print axioms fnExactIndexPut_holds
end Go.Proofs.Ytcfpdongfdhgjaa
