/- Joined texts: M3, M2, N0, D2, G1, H1, H2, F10, F11, Q1, Q2, Q3, Q4, Q5, Q6, Q7, Q8, Q9, Q10, H0, H3, J1, J2, J3, J4, H4, G2, G3, G4, H5, Y1, Y2, Y3, Y4, G5, G6, Y5, Y6, Y7, Y8, N1, H6, H8, H7, H9, M4, T1, T2, T3. -/
import Derived.KernelRfl
import Derived.Test.YtinbdedlmkjokaaGreatB1
import Derived.Test.YtinbdedlmkjokaaGreatB2
import Derived.Test.YtinbdedlmkjokaaGreatB3
import Derived.Test.YtinbdedlmkjokaaGreatB4
import Derived.Test.YtinbdedlmkjokaaGreatB5
/- The laws' helpers on types, printed by a program: Row, Data, Line. -/
set_option linter.unusedVariables false
set_option linter.unusedSimpArgs false
namespace Go.Proofs.YtinbdedlmkjokaaGreat.Am
def markRowD (a : RowD) (k : Int) : RowD := ⟨k, markL markV (fun _ => 3) a.vals (k + 1)⟩
def cntRowD (a : RowD) : Int := 1 + cntL (fun _ => 3) a.vals
theorem cntRowD_nonneg (a : RowD) : 0 ≤ cntRowD a := by
  have := cntL_nonneg (c := (fun _ => 3)) (fun _ => by decide) a.vals
  simp only [cntRowD]
  omega
theorem cntRowD_sz (a : RowD) (l : Int) (h : 0 ≤ l) (hs : 0 ≤ zRowD a l) : cntRowD a ≤ 8 * (l - zRowD a l) + 8 := by
  have := chain_cnt (fs := [(szL szV a.vals)]) (.cons (c := cntL (fun _ => 3) a.vals) (fun q h hs => szL_cnt8 szV_le szV_cnt a.vals q h hs) .nil) l h hs
  simp only [cntRowD]
  simp only [zRowD] at hs ⊢
  omega
theorem markRowDS_ok (xs : List RowD) (k : Int) (hx : xs.length ≤ 34359738368) (hb : ∀ a ∈ xs, bRowD 34359738368 a) (hk0 : 0 ≤ k) (hk : k + cntL cntRowD xs ≤ 34359738368) : Marks Tryz.prog 113 (.fz (xs.map encRowD)) (.fz ((markL markRowD cntRowD xs k).map encRowD)) k (k + cntL cntRowD xs) := by
  refine markS_ok mixed c_laws_markRowS_ok (Nat.le_of_ble_eq_true rfl) (Nat.le_of_ble_eq_true rfl) encRowD markRowD cntRowD cntRowD_nonneg xs k hx hk0 hk ?_
  intro n0 rets R K σ τ S x i ni ki ys hi fr hn0 hyl hni hki0 hki1 h0 h1 h5 hmem hh hnext
  have hi' : i < (ys.map encRowD).length := by simpa using hi
  have hyi : (ys.map encRowD)[i] = encRowD ys[i] := by simp
  have hb := hb _ hmem
  obtain ⟨id, v, c, rfl⟩ := hh.shape hi'
  have hh : Has τ S (.fz ((ys.map encRowD).set i (encRowD ys[i]))) (.sl id v 0 (ys.map encRowD).length c) := by rw [← hyi, List.set_getElem_self]; exact hh
  have hfr : ∀ a, ¬ S a → τ.get a = τ.get a := fun _ _ => rfl
  have hnx : τ.next = τ.next := rfl
  refine .same (look_three h0 h1 h5) ?_
  have hset : ∀ q, (ys.set i q).map encRowD = (ys.map encRowD).set i (encRowD q) := fun q => List.map_set
  have hc0 := cntL_nonneg (c := (fun _ => 3)) (fun _ => by decide) ys[i].vals
  simp only [cntRowD] at hki1
  obtain ⟨es0, e0, hg0, he0, hel0, hS0, hw0⟩ := hh.wr (j := 0) hi' (Nat.le_of_ble_eq_true rfl)
  have hel0 : e0.length = 2 := hel0
  obtain ⟨hh, hf0, hn0⟩ := hw0 (.int .i64 ki) (.int _ _)
  have hfr := fun a (ha : ¬ S a) => (hf0 a ha).trans (hfr a ha)
  have hnx := hn0.trans hnx
  repeat' first|(apply yA;exact rfl)|apply yB|apply yC|((first|apply yG|apply yH|apply yI);exact rfl;(first|exact rfl|exact aop_iaddrO rfl rfl hni hi' hg0 he0 hel0|exact aop_storeO rfl rfl hg0 he0 (by omega)))|(apply yN;exact rfl)
  obtain ⟨k0, hk0⟩ : ∃ z, ki + 1 = z := ⟨_, rfl⟩
  rw [show IntKind.i64.wrap (ki + 1) = k0 by rw [wrap64 (by omega) (by omega)]; exact hk0]
  obtain ⟨es1, e1, T1, hg1, he1, hel1, hTS1, hj1, hch1, hback1⟩ := hh.ch (j := 1) (y := .fz (ys[i].vals.map encV)) hi' (Nat.le_of_ble_eq_true rfl) rfl
  repeat' first|(apply yA;exact rfl)|apply yB|apply yC|((first|apply yG|apply yH|apply yI);exact rfl;(first|exact rfl|exact aop_iaddrO rfl rfl hni hi' hg1 he1 hel1|exact aop_loadO rfl hg1 he1 (show 0 + 1 < e1.length by omega)))|(apply yN;exact rfl)
  refine Go.call _ rfl rfl rfl ((markValS_ok ys[i].vals k0 hb.1 (by omega) (by omega)).at_ _ T1 _ hch1) ?_
  rintro r τ1 ⟨rfl, hn1, hf1, hhc1⟩
  have hh := hback1 τ1 _ hf1 hhc1
  have hfr := fun a (ha : ¬ S a) => (hf1 a (fun h => ha (hTS1 a h))).trans (hfr a ha)
  have hnx := hn1.trans hnx
  obtain ⟨k1, hk1⟩ : ∃ z, k0 + cntL (fun _ => 3) ys[i].vals = z := ⟨_, rfl⟩
  rw [hk1]
  clear hg1 he1 hel1 hch1 hback1 hf1 hn1 hhc1
  repeat' first|(apply yA;exact rfl)|apply yB|apply yC|((first|apply yG|apply yH|apply yI);exact rfl;(first|exact rfl))|(apply yN;exact rfl)
  have hkend : k1 = ki + cntRowD ys[i] := by simp only [cntRowD]; omega
  refine hnext _ _ rfl (congrArg (fun z => some (AV.c (Ce.int .i64 z))) hkend) rfl hnx hfr ?_
  rw [hset]
  subst hk0 hk1
  exact hh
def markData (a : Data) (k : Int) : Data := ⟨markL markRowD cntRowD a.rows (k)⟩
def cntData (a : Data) : Int := 0 + cntL cntRowD a.rows
theorem cntData_nonneg (a : Data) : 0 ≤ cntData a := by
  have := cntL_nonneg (c := cntRowD) cntRowD_nonneg a.rows
  simp only [cntData]
  omega
theorem cntData_sz (a : Data) (l : Int) (h : 0 ≤ l) (hs : 0 ≤ zData a l) : cntData a ≤ 8 * (l - zData a l) + 8 := by
  have := chain_cnt (fs := [(szL zRowD a.rows)]) (.cons (c := cntL cntRowD a.rows) (fun q h hs => szL_cnt8 zRowD_le cntRowD_sz a.rows q h hs) .nil) l h hs
  simp only [cntData]
  simp only [zData] at hs ⊢
  omega
theorem markDataS_ok (xs : List Data) (k : Int) (hx : xs.length ≤ 34359738368) (hb : ∀ a ∈ xs, bData 34359738368 a) (hk0 : 0 ≤ k) (hk : k + cntL cntData xs ≤ 34359738368) : Marks Tryz.prog 37 (.fz (xs.map encData)) (.fz ((markL markData cntData xs k).map encData)) k (k + cntL cntData xs) := by
  refine markS_ok mixed c_laws_markDataS_ok (Nat.le_of_ble_eq_true rfl) (Nat.le_of_ble_eq_true rfl) encData markData cntData cntData_nonneg xs k hx hk0 hk ?_
  intro n0 rets R K σ τ S x i ni ki ys hi fr hn0 hyl hni hki0 hki1 h0 h1 h5 hmem hh hnext
  have hi' : i < (ys.map encData).length := by simpa using hi
  have hyi : (ys.map encData)[i] = encData ys[i] := by simp
  have hb := hb _ hmem
  obtain ⟨id, v, c, rfl⟩ := hh.shape hi'
  have hh : Has τ S (.fz ((ys.map encData).set i (encData ys[i]))) (.sl id v 0 (ys.map encData).length c) := by rw [← hyi, List.set_getElem_self]; exact hh
  have hfr : ∀ a, ¬ S a → τ.get a = τ.get a := fun _ _ => rfl
  have hnx : τ.next = τ.next := rfl
  refine .same (look_three h0 h1 h5) ?_
  have hset : ∀ q, (ys.set i q).map encData = (ys.map encData).set i (encData q) := fun q => List.map_set
  have hc0 := cntL_nonneg (c := cntRowD) cntRowD_nonneg ys[i].rows
  simp only [cntData] at hki1
  obtain ⟨es0, e0, T0, hg0, he0, hel0, hTS0, hj0, hch0, hback0⟩ := hh.ch (j := 0) (y := .fz (ys[i].rows.map encRowD)) hi' (Nat.le_of_ble_eq_true rfl) rfl
  repeat' first|(apply yA;exact rfl)|apply yB|apply yC|((first|apply yG|apply yH|apply yI);exact rfl;(first|exact rfl|exact aop_iaddrO rfl rfl hni hi' hg0 he0 hel0|exact aop_loadO rfl hg0 he0 (show 0 + 0 < e0.length by omega)))|(apply yN;exact rfl)
  refine Go.call _ rfl rfl rfl ((markRowDS_ok ys[i].rows ki hb.1 hb.2 (by omega) (by omega)).at_ _ T0 _ hch0) ?_
  rintro r τ0 ⟨rfl, hn0, hf0, hhc0⟩
  have hh := hback0 τ0 _ hf0 hhc0
  have hfr := fun a (ha : ¬ S a) => (hf0 a (fun h => ha (hTS0 a h))).trans (hfr a ha)
  have hnx := hn0.trans hnx
  obtain ⟨k0, hk0⟩ : ∃ z, ki + cntL cntRowD ys[i].rows = z := ⟨_, rfl⟩
  rw [hk0]
  clear hg0 he0 hel0 hch0 hback0 hf0 hn0 hhc0
  repeat' first|(apply yA;exact rfl)|apply yB|apply yC|((first|apply yG|apply yH|apply yI);exact rfl;(first|exact rfl))|(apply yN;exact rfl)
  have hkend : k0 = ki + cntData ys[i] := by simp only [cntData]; omega
  refine hnext _ _ rfl (congrArg (fun z => some (AV.c (Ce.int .i64 z))) hkend) rfl hnx hfr ?_
  rw [hset]
  subst hk0
  exact hh
def markLine (a : Line) (k : Int) : Line := ⟨markL markV (fun _ => 3) a.vals (k)⟩
def cntLine (a : Line) : Int := 0 + cntL (fun _ => 3) a.vals
theorem cntLine_nonneg (a : Line) : 0 ≤ cntLine a := by
  have := cntL_nonneg (c := (fun _ => 3)) (fun _ => by decide) a.vals
  simp only [cntLine]
  omega
theorem markLineS_ok (xs : List Line) (k : Int) (hx : xs.length ≤ 34359738368) (hb : ∀ a ∈ xs, bLine 34359738368 a) (hk0 : 0 ≤ k) (hk : k + cntL cntLine xs ≤ 34359738368) : Marks Tryz.prog 39 (.fz (xs.map encLine)) (.fz ((markL markLine cntLine xs k).map encLine)) k (k + cntL cntLine xs) := by
  refine markS_ok mixed c_laws_markLineS_ok (Nat.le_of_ble_eq_true rfl) (Nat.le_of_ble_eq_true rfl) encLine markLine cntLine cntLine_nonneg xs k hx hk0 hk ?_
  intro n0 rets R K σ τ S x i ni ki ys hi fr hn0 hyl hni hki0 hki1 h0 h1 h5 hmem hh hnext
  have hi' : i < (ys.map encLine).length := by simpa using hi
  have hyi : (ys.map encLine)[i] = encLine ys[i] := by simp
  have hb := hb _ hmem
  obtain ⟨id, v, c, rfl⟩ := hh.shape hi'
  have hh : Has τ S (.fz ((ys.map encLine).set i (encLine ys[i]))) (.sl id v 0 (ys.map encLine).length c) := by rw [← hyi, List.set_getElem_self]; exact hh
  have hfr : ∀ a, ¬ S a → τ.get a = τ.get a := fun _ _ => rfl
  have hnx : τ.next = τ.next := rfl
  refine .same (look_three h0 h1 h5) ?_
  have hset : ∀ q, (ys.set i q).map encLine = (ys.map encLine).set i (encLine q) := fun q => List.map_set
  have hc0 := cntL_nonneg (c := (fun _ => 3)) (fun _ => by decide) ys[i].vals
  simp only [cntLine] at hki1
  obtain ⟨es0, e0, T0, hg0, he0, hel0, hTS0, hj0, hch0, hback0⟩ := hh.ch (j := 0) (y := .fz (ys[i].vals.map encV)) hi' (Nat.le_of_ble_eq_true rfl) rfl
  repeat' first|(apply yA;exact rfl)|apply yB|apply yC|((first|apply yG|apply yH|apply yI);exact rfl;(first|exact rfl|exact aop_iaddrO rfl rfl hni hi' hg0 he0 hel0|exact aop_loadO rfl hg0 he0 (show 0 + 0 < e0.length by omega)))|(apply yN;exact rfl)
  refine Go.call _ rfl rfl rfl ((markValS_ok ys[i].vals ki hb.1 (by omega) (by omega)).at_ _ T0 _ hch0) ?_
  rintro r τ0 ⟨rfl, hn0, hf0, hhc0⟩
  have hh := hback0 τ0 _ hf0 hhc0
  have hfr := fun a (ha : ¬ S a) => (hf0 a (fun h => ha (hTS0 a h))).trans (hfr a ha)
  have hnx := hn0.trans hnx
  obtain ⟨k0, hk0⟩ : ∃ z, ki + cntL (fun _ => 3) ys[i].vals = z := ⟨_, rfl⟩
  rw [hk0]
  clear hg0 he0 hel0 hch0 hback0 hf0 hn0 hhc0
  repeat' first|(apply yA;exact rfl)|apply yB|apply yC|((first|apply yG|apply yH|apply yI);exact rfl;(first|exact rfl))|(apply yN;exact rfl)
  have hkend : k0 = ki + cntLine ys[i] := by simp only [cntLine]; omega
  refine hnext _ _ rfl (congrArg (fun z => some (AV.c (Ce.int .i64 z))) hkend) rfl hnx hfr ?_
  rw [hset]
  subst hk0
  exact hh
end Go.Proofs.YtinbdedlmkjokaaGreat.Am

/- The laws' helpers on types, printed by a program: Table, Term, Trigger. -/
set_option linter.unusedVariables false
set_option linter.unusedSimpArgs false
namespace Go.Proofs.YtinbdedlmkjokaaGreat.Am
def markTable (a : Table) (k : Int) : Table := ⟨mText (k), markL markCol cntCol a.cols (k + 1), markL markI (fun _ => 1) a.key (k + 1 + cntL cntCol a.cols), markL markUniq cntUniq a.uniques (k + 1 + cntL cntCol a.cols + cntL (fun _ => 1) a.key), markL markChk cntChk a.checks (k + 1 + cntL cntCol a.cols + cntL (fun _ => 1) a.key + cntL cntUniq a.uniques), markL markFk cntFk a.fks (k + 1 + cntL cntCol a.cols + cntL (fun _ => 1) a.key + cntL cntUniq a.uniques + cntL cntChk a.checks)⟩
def cntTable (a : Table) : Int := 1 + cntL cntCol a.cols + cntL (fun _ => 1) a.key + cntL cntUniq a.uniques + cntL cntChk a.checks + cntL cntFk a.fks
theorem cntTable_nonneg (a : Table) : 0 ≤ cntTable a := by
  have := cntL_nonneg (c := cntCol) cntCol_nonneg a.cols
  have := cntL_nonneg (c := (fun _ => 1)) (fun _ => by decide) a.key
  have := cntL_nonneg (c := cntUniq) cntUniq_nonneg a.uniques
  have := cntL_nonneg (c := cntChk) cntChk_nonneg a.checks
  have := cntL_nonneg (c := cntFk) cntFk_nonneg a.fks
  simp only [cntTable]
  omega
theorem cntTable_sz (a : Table) (l : Int) (h : 0 ≤ l) (hs : 0 ≤ zTable a l) : cntTable a ≤ 8 * (l - zTable a l) + 8 := by
  have := chain_cnt (fs := [(fun l => l - a.name.length), (szL zCol a.cols), (zI a.key), (szL zUniq a.uniques), (szL zChk a.checks), (szL zFk a.fks)]) (.cons (c := 0) (cnt_str a.name) (.cons (c := cntL cntCol a.cols) (fun q h hs => szL_cnt8 zCol_le cntCol_sz a.cols q h hs) (.cons (c := cntL (fun _ => 1) a.key) (cnt_ints a.key) (.cons (c := cntL cntUniq a.uniques) (fun q h hs => szL_cnt8 zUniq_le cntUniq_sz a.uniques q h hs) (.cons (c := cntL cntChk a.checks) (fun q h hs => szL_cnt8 zChk_le cntChk_sz a.checks q h hs) (.cons (c := cntL cntFk a.fks) (fun q h hs => szL_cnt8 zFk_le cntFk_sz a.fks q h hs) .nil)))))) l h hs
  simp only [cntTable]
  simp only [zTable] at hs ⊢
  omega
theorem markTableS_ok (xs : List Table) (k : Int) (hx : xs.length ≤ 34359738368) (hb : ∀ a ∈ xs, bTable 34359738368 a) (hk0 : 0 ≤ k) (hk : k + cntL cntTable xs ≤ 34359738368) : Marks Tryz.prog 19 (.fz (xs.map encTable)) (.fz ((markL markTable cntTable xs k).map encTable)) k (k + cntL cntTable xs) := by
  refine markS_ok mixed c_laws_markTableS_ok (Nat.le_of_ble_eq_true rfl) (Nat.le_of_ble_eq_true rfl) encTable markTable cntTable cntTable_nonneg xs k hx hk0 hk ?_
  intro n0 rets R K σ τ S x i ni ki ys hi fr hn0 hyl hni hki0 hki1 h0 h1 h5 hmem hh hnext
  have hi' : i < (ys.map encTable).length := by simpa using hi
  have hyi : (ys.map encTable)[i] = encTable ys[i] := by simp
  have hb := hb _ hmem
  obtain ⟨id, v, c, rfl⟩ := hh.shape hi'
  have hh : Has τ S (.fz ((ys.map encTable).set i (encTable ys[i]))) (.sl id v 0 (ys.map encTable).length c) := by rw [← hyi, List.set_getElem_self]; exact hh
  have hfr : ∀ a, ¬ S a → τ.get a = τ.get a := fun _ _ => rfl
  have hnx : τ.next = τ.next := rfl
  refine .same (look_three h0 h1 h5) ?_
  have hset : ∀ q, (ys.set i q).map encTable = (ys.map encTable).set i (encTable q) := fun q => List.map_set
  have hc0 := cntL_nonneg (c := cntCol) cntCol_nonneg ys[i].cols
  have hc1 := cntL_nonneg (c := (fun _ => 1)) (fun _ => by decide) ys[i].key
  have hc2 := cntL_nonneg (c := cntUniq) cntUniq_nonneg ys[i].uniques
  have hc3 := cntL_nonneg (c := cntChk) cntChk_nonneg ys[i].checks
  have hc4 := cntL_nonneg (c := cntFk) cntFk_nonneg ys[i].fks
  simp only [cntTable] at hki1
  obtain ⟨es0, e0, hg0, he0, hel0, hS0, hw0⟩ := hh.wr (j := 0) hi' (Nat.le_of_ble_eq_true rfl)
  have hel0 : e0.length = 6 := hel0
  obtain ⟨hh, hf0, hn0⟩ := hw0 (.str (mText ki)) (.str _)
  have hfr := fun a (ha : ¬ S a) => (hf0 a ha).trans (hfr a ha)
  have hnx := hn0.trans hnx
  repeat' first|(apply yA;exact rfl)|apply yB|apply yC|((first|apply yG|apply yH|apply yI);exact rfl;(first|exact rfl|exact aop_iaddrO rfl rfl hni hi' hg0 he0 hel0|exact aop_storeO rfl rfl hg0 he0 (by omega)))|(apply yN;exact rfl)|((first|apply yQ|apply yR|apply yS);(iterate 3 exact rfl);exact markText_ok _ (by omega))
  obtain ⟨k0, hk0⟩ : ∃ z, ki + 1 = z := ⟨_, rfl⟩
  rw [show IntKind.i64.wrap (ki + 1) = k0 by rw [wrap64 (by omega) (by omega)]; exact hk0]
  obtain ⟨es1, e1, T1, hg1, he1, hel1, hTS1, hj1, hch1, hback1⟩ := hh.ch (j := 1) (y := .fz (ys[i].cols.map encCol)) hi' (Nat.le_of_ble_eq_true rfl) rfl
  repeat' first|(apply yA;exact rfl)|apply yB|apply yC|((first|apply yG|apply yH|apply yI);exact rfl;(first|exact rfl|exact aop_iaddrO rfl rfl hni hi' hg1 he1 hel1|exact aop_loadO rfl hg1 he1 (show 0 + 1 < e1.length by omega)))|(apply yN;exact rfl)
  refine Go.call _ rfl rfl rfl ((markColS_ok ys[i].cols k0 hb.2.1.1 hb.2.1.2 (by omega) (by omega)).at_ _ T1 _ hch1) ?_
  rintro r τ1 ⟨rfl, hn1, hf1, hhc1⟩
  have hh := hback1 τ1 _ hf1 hhc1
  have hfr := fun a (ha : ¬ S a) => (hf1 a (fun h => ha (hTS1 a h))).trans (hfr a ha)
  have hnx := hn1.trans hnx
  obtain ⟨k1, hk1⟩ : ∃ z, k0 + cntL cntCol ys[i].cols = z := ⟨_, rfl⟩
  rw [hk1]
  clear hg1 he1 hel1 hch1 hback1 hf1 hn1 hhc1
  obtain ⟨es2, e2, T2, hg2, he2, hel2, hTS2, hj2, hch2, hback2⟩ := hh.ch (j := 2) (y := .fz (ys[i].key.map encI)) hi' (Nat.le_of_ble_eq_true rfl) rfl
  repeat' first|(apply yA;exact rfl)|apply yB|apply yC|((first|apply yG|apply yH|apply yI);exact rfl;(first|exact rfl|exact aop_iaddrO rfl rfl hni hi' hg2 he2 hel2|exact aop_loadO rfl hg2 he2 (show 0 + 2 < e2.length by omega)))|(apply yN;exact rfl)
  refine Go.call _ rfl rfl rfl ((markInt64S_ok ys[i].key k1 hb.2.2.1  (by omega) (by omega)).at_ _ T2 _ hch2) ?_
  rintro r τ2 ⟨rfl, hn2, hf2, hhc2⟩
  have hh := hback2 τ2 _ hf2 hhc2
  have hfr := fun a (ha : ¬ S a) => (hf2 a (fun h => ha (hTS2 a h))).trans (hfr a ha)
  have hnx := hn2.trans hnx
  obtain ⟨k2, hk2⟩ : ∃ z, k1 + cntL (fun _ => 1) ys[i].key = z := ⟨_, rfl⟩
  rw [hk2]
  clear hg2 he2 hel2 hch2 hback2 hf2 hn2 hhc2
  obtain ⟨es3, e3, T3, hg3, he3, hel3, hTS3, hj3, hch3, hback3⟩ := hh.ch (j := 3) (y := .fz (ys[i].uniques.map encUniq)) hi' (Nat.le_of_ble_eq_true rfl) rfl
  repeat' first|(apply yA;exact rfl)|apply yB|apply yC|((first|apply yG|apply yH|apply yI);exact rfl;(first|exact rfl|exact aop_iaddrO rfl rfl hni hi' hg3 he3 hel3|exact aop_loadO rfl hg3 he3 (show 0 + 3 < e3.length by omega)))|(apply yN;exact rfl)
  refine Go.call _ rfl rfl rfl ((markUniqS_ok ys[i].uniques k2 hb.2.2.2.1.1 hb.2.2.2.1.2 (by omega) (by omega)).at_ _ T3 _ hch3) ?_
  rintro r τ3 ⟨rfl, hn3, hf3, hhc3⟩
  have hh := hback3 τ3 _ hf3 hhc3
  have hfr := fun a (ha : ¬ S a) => (hf3 a (fun h => ha (hTS3 a h))).trans (hfr a ha)
  have hnx := hn3.trans hnx
  obtain ⟨k3, hk3⟩ : ∃ z, k2 + cntL cntUniq ys[i].uniques = z := ⟨_, rfl⟩
  rw [hk3]
  clear hg3 he3 hel3 hch3 hback3 hf3 hn3 hhc3
  obtain ⟨es4, e4, T4, hg4, he4, hel4, hTS4, hj4, hch4, hback4⟩ := hh.ch (j := 4) (y := .fz (ys[i].checks.map encChk)) hi' (Nat.le_of_ble_eq_true rfl) rfl
  repeat' first|(apply yA;exact rfl)|apply yB|apply yC|((first|apply yG|apply yH|apply yI);exact rfl;(first|exact rfl|exact aop_iaddrO rfl rfl hni hi' hg4 he4 hel4|exact aop_loadO rfl hg4 he4 (show 0 + 4 < e4.length by omega)))|(apply yN;exact rfl)
  refine Go.call _ rfl rfl rfl ((markChkS_ok ys[i].checks k3 hb.2.2.2.2.1.1 hb.2.2.2.2.1.2 (by omega) (by omega)).at_ _ T4 _ hch4) ?_
  rintro r τ4 ⟨rfl, hn4, hf4, hhc4⟩
  have hh := hback4 τ4 _ hf4 hhc4
  have hfr := fun a (ha : ¬ S a) => (hf4 a (fun h => ha (hTS4 a h))).trans (hfr a ha)
  have hnx := hn4.trans hnx
  obtain ⟨k4, hk4⟩ : ∃ z, k3 + cntL cntChk ys[i].checks = z := ⟨_, rfl⟩
  rw [hk4]
  clear hg4 he4 hel4 hch4 hback4 hf4 hn4 hhc4
  obtain ⟨es5, e5, T5, hg5, he5, hel5, hTS5, hj5, hch5, hback5⟩ := hh.ch (j := 5) (y := .fz (ys[i].fks.map encFk)) hi' (Nat.le_of_ble_eq_true rfl) rfl
  repeat' first|(apply yA;exact rfl)|apply yB|apply yC|((first|apply yG|apply yH|apply yI);exact rfl;(first|exact rfl|exact aop_iaddrO rfl rfl hni hi' hg5 he5 hel5|exact aop_loadO rfl hg5 he5 (show 0 + 5 < e5.length by omega)))|(apply yN;exact rfl)
  refine Go.call _ rfl rfl rfl ((markFkS_ok ys[i].fks k4 hb.2.2.2.2.2.1 hb.2.2.2.2.2.2 (by omega) (by omega)).at_ _ T5 _ hch5) ?_
  rintro r τ5 ⟨rfl, hn5, hf5, hhc5⟩
  have hh := hback5 τ5 _ hf5 hhc5
  have hfr := fun a (ha : ¬ S a) => (hf5 a (fun h => ha (hTS5 a h))).trans (hfr a ha)
  have hnx := hn5.trans hnx
  obtain ⟨k5, hk5⟩ : ∃ z, k4 + cntL cntFk ys[i].fks = z := ⟨_, rfl⟩
  rw [hk5]
  clear hg5 he5 hel5 hch5 hback5 hf5 hn5 hhc5
  repeat' first|(apply yA;exact rfl)|apply yB|apply yC|((first|apply yG|apply yH|apply yI);exact rfl;(first|exact rfl))|(apply yN;exact rfl)
  have hkend : k5 = ki + cntTable ys[i] := by simp only [cntTable]; omega
  refine hnext _ _ rfl (congrArg (fun z => some (AV.c (Ce.int .i64 z))) hkend) rfl hnx hfr ?_
  rw [hset]
  subst hk0 hk1 hk2 hk3 hk4 hk5
  exact hh
def markTerm (a : Term) (k : Int) : Term := ⟨markL markTok cntTok a.expr (k)⟩
def cntTerm (a : Term) : Int := 0 + cntL cntTok a.expr
theorem cntTerm_nonneg (a : Term) : 0 ≤ cntTerm a := by
  have := cntL_nonneg (c := cntTok) cntTok_nonneg a.expr
  simp only [cntTerm]
  omega
theorem cntTerm_sz (a : Term) (l : Int) (h : 0 ≤ l) (hs : 0 ≤ zTerm a l) : cntTerm a ≤ 8 * (l - zTerm a l) + 8 := by
  have := chain_cnt (fs := [(szL zTok a.expr)]) (.cons (c := cntL cntTok a.expr) (fun q h hs => szL_cnt8 zTok_le cntTok_sz a.expr q h hs) .nil) l h hs
  simp only [cntTerm]
  simp only [zTerm] at hs ⊢
  omega
theorem markTermS_ok (xs : List Term) (k : Int) (hx : xs.length ≤ 34359738368) (hb : ∀ a ∈ xs, bTerm 34359738368 a) (hk0 : 0 ≤ k) (hk : k + cntL cntTerm xs ≤ 34359738368) : Marks Tryz.prog 114 (.fz (xs.map encTerm)) (.fz ((markL markTerm cntTerm xs k).map encTerm)) k (k + cntL cntTerm xs) := by
  refine markS_ok mixed c_laws_markTermS_ok (Nat.le_of_ble_eq_true rfl) (Nat.le_of_ble_eq_true rfl) encTerm markTerm cntTerm cntTerm_nonneg xs k hx hk0 hk ?_
  intro n0 rets R K σ τ S x i ni ki ys hi fr hn0 hyl hni hki0 hki1 h0 h1 h5 hmem hh hnext
  have hi' : i < (ys.map encTerm).length := by simpa using hi
  have hyi : (ys.map encTerm)[i] = encTerm ys[i] := by simp
  have hb := hb _ hmem
  obtain ⟨id, v, c, rfl⟩ := hh.shape hi'
  have hh : Has τ S (.fz ((ys.map encTerm).set i (encTerm ys[i]))) (.sl id v 0 (ys.map encTerm).length c) := by rw [← hyi, List.set_getElem_self]; exact hh
  have hfr : ∀ a, ¬ S a → τ.get a = τ.get a := fun _ _ => rfl
  have hnx : τ.next = τ.next := rfl
  refine .same (look_three h0 h1 h5) ?_
  have hset : ∀ q, (ys.set i q).map encTerm = (ys.map encTerm).set i (encTerm q) := fun q => List.map_set
  have hc0 := cntL_nonneg (c := cntTok) cntTok_nonneg ys[i].expr
  simp only [cntTerm] at hki1
  obtain ⟨es0, e0, T0, hg0, he0, hel0, hTS0, hj0, hch0, hback0⟩ := hh.ch (j := 0) (y := .fz (ys[i].expr.map encTok)) hi' (Nat.le_of_ble_eq_true rfl) rfl
  repeat' first|(apply yA;exact rfl)|apply yB|apply yC|((first|apply yG|apply yH|apply yI);exact rfl;(first|exact rfl|exact aop_iaddrO rfl rfl hni hi' hg0 he0 hel0|exact aop_loadO rfl hg0 he0 (show 0 + 0 < e0.length by omega)))|(apply yN;exact rfl)
  refine Go.call _ rfl rfl rfl ((markTokS_ok ys[i].expr ki hb.1 hb.2 (by omega) (by omega)).at_ _ T0 _ hch0) ?_
  rintro r τ0 ⟨rfl, hn0, hf0, hhc0⟩
  have hh := hback0 τ0 _ hf0 hhc0
  have hfr := fun a (ha : ¬ S a) => (hf0 a (fun h => ha (hTS0 a h))).trans (hfr a ha)
  have hnx := hn0.trans hnx
  obtain ⟨k0, hk0⟩ : ∃ z, ki + cntL cntTok ys[i].expr = z := ⟨_, rfl⟩
  rw [hk0]
  clear hg0 he0 hel0 hch0 hback0 hf0 hn0 hhc0
  repeat' first|(apply yA;exact rfl)|apply yB|apply yC|((first|apply yG|apply yH|apply yI);exact rfl;(first|exact rfl))|(apply yN;exact rfl)
  have hkend : k0 = ki + cntTerm ys[i] := by simp only [cntTerm]; omega
  refine hnext _ _ rfl (congrArg (fun z => some (AV.c (Ce.int .i64 z))) hkend) rfl hnx hfr ?_
  rw [hset]
  subst hk0
  exact hh
end Go.Proofs.YtinbdedlmkjokaaGreat.Am

/- What the laws with marks have in common. -/
set_option linter.unusedVariables false
set_option linter.unusedSimpArgs false
namespace Go.Proofs.YtinbdedlmkjokaaGreat.Am

theorem aop_neB {fr : Fr} {σ : Store} {x y : Opd} {b : Bool} (hx : x.ev fr = some (.c (.bool b))) (hy : y.ev fr = some (.c (.bool b))) : aop (.eq true false [.b] x y) fr σ = some (.c (.bool false), σ) := by
  cases b <;> simp [aop, hx, hy, eqKs, eqK]
theorem solid_end {σ : Store} {τ : Store} {b : Bool} : FrzV τ σ.next (.c (.bool b)) (.c (.bool b)) := .refl (by intro y hy; simp [AV.all] at hy; subst hy; exact .bool _)
theorem New.openC {σ τ : Store} {y : Ce} {r : AV} (h : New σ y r τ) : ∃ x, r = .c x ∧ Gr σ τ ∧ Has τ (fun a => σ.next ≤ a ∧ a < τ.next) y x := by
  obtain ⟨x, l, rfl, rfl, ht, hh⟩ := h
  exact ⟨x, rfl, ⟨l, rfl, ht⟩, hh⟩
theorem NewL.openC {σ τ : Store} {ys : List Ce} {r : AV} (h : NewL σ ys r τ) : ∃ xs, r = .agg xs ∧ Gr σ τ ∧ HasL τ (fun a => σ.next ≤ a ∧ a < τ.next) ys xs := by
  obtain ⟨x, l, rfl, rfl, ht, hh⟩ := h
  exact ⟨x, rfl, ⟨l, rfl, ht⟩, hh⟩
theorem has_flat {σ : Store} {S : Nat → Prop} {y x : Ce} (hf : Flat y) (h : Has σ S y x) : x = y := by
  cases hf <;> (cases h; rfl)
theorem hasV_flat {σ : Store} {S : Nat → Prop} {y : Ce} {x : AV} (hf : Flat y) (h : HasV σ S (.c y) x) : x = .c y := by
  cases h with
  | c h => rw [has_flat hf h]
theorem newtup_open {σ τ : Store} {ys : List AV} {r : AV} (h : NewV σ (.tup ys) r τ) : ∃ xs, ∃ U : Nat → Nat → Prop, ∃ hl : xs.length = ys.length, r = .tup xs ∧ Gr σ τ ∧ (∀ i a, U i a → σ.next ≤ a ∧ a < τ.next) ∧ ∀ i (hy : i < ys.length) (hx : i < xs.length), HasV τ (U i) ys[i] xs[i] := by
  obtain ⟨hg, hh⟩ := h
  generalize hy0 : AV.tup ys = y0 at hh
  cases hh with
  | c h => cases hy0
  | agg h => cases hy0
  | @tup S ys' xs U hl hU hd h =>
    injection hy0 with hy0
    subst hy0
    exact ⟨xs, U, hl, rfl, hg, fun i a ha => hU i a ha, h⟩
theorem new2_open {σ τ : Store} {y f : Ce} {r : AV} (hf : Flat f) (h : NewV σ (.tup [.c y, .c f]) r τ) : ∃ x, r = .tup [.c x, .c f] ∧ Gr σ τ ∧ Has τ (fun a => σ.next ≤ a ∧ a < τ.next) y x := by
  obtain ⟨xs, U, hl, rfl, hg, hU, h⟩ := newtup_open h
  match xs, hl with
  | [x1, x2], _ =>
    have h1 := h 0 (by simp) (by simp)
    have h2 := h 1 (by simp) (by simp)
    simp only [List.getElem_cons_zero, List.getElem_cons_succ] at h1 h2
    obtain rfl := hasV_flat hf h2
    cases h1 with
    | c h1 => exact ⟨_, rfl, hg, h1.mono fun a ha => hU 0 a ha⟩
theorem hv_flat {τ : Store} {S : Nat → Prop} {f : Ce} (h : Flat f) : HasV τ S (.c f) (.c f) := .c (.c h)
theorem newPair {σ τ : Store} {y x f : Ce} (hf : Flat f) (h : NewV σ (.c y) (.c x) τ) : NewV σ (.tup [.c y, .c f]) (.tup [.c x, .c f]) τ :=
  ⟨h.1, .pair h.2 (hv_flat (S := fun _ => False) hf) (fun _ h => h) (fun _ h => h.elim) (fun _ _ h => h)⟩
theorem newNil {σ τ : Store} (g : Gr σ τ) : NewV σ (.c (.fz [])) (.c .nils) τ := ⟨g, .c .nil⟩
theorem newVec {σ : Store} {v : Nat} {s : Nat} {ys junk : List (List Ce)} (hy : ∀ e ∈ ys, e.length = s ∧ ∀ x ∈ e, Flat x) (hj : Jk s junk) : NewV σ (.c (.fz ys)) (.c (vec (σ.next + 0) v ys junk)) (E σ [(v, ys ++ junk)]) :=
  (Made.new hy (r := .c (vec (σ.next + 0) v ys junk)) ⟨v, junk, hj, rfl, rfl⟩).v
theorem gr_flat {σ : Store} {v : Nat} {es : List (List Ce)} (h : ∀ e ∈ es, ∀ x ∈ e, Flat x) : Gr σ (E σ [(v, es)]) :=
  ⟨_, rfl, fun b hb e he x hx => by rw [List.mem_singleton.1 hb] at he; exact .flat (h e he x hx)⟩
theorem flat_two {s : Nat} {ys junk : List (List Ce)} (hy : ∀ e ∈ ys, e.length = s ∧ ∀ x ∈ e, Flat x) (hj : Jk s junk) : ∀ e ∈ ys ++ junk, ∀ x ∈ e, Flat x := fun e he => (List.mem_append.1 he).elim (fun h => (hy e h).2) fun h => (hj e h).2
end Go.Proofs.YtinbdedlmkjokaaGreat.Am

/- Rows that match: the program and its reference. -/
set_option linter.unusedVariables false
set_option linter.unusedSimpArgs false
namespace Go.Proofs.YtinbdedlmkjokaaGreat.Am

def isM (w : List Tok) (r : RowD) : Int := if 0 < w.length then truthI w r.vals else 1
def matchAux (w : List Tok) : List RowD → List Int → Option (List Int)
  | [], acc => some acc
  | r :: l, acc => if isM w r = -1 then none else matchAux w l (if isM w r = 1 then acc ++ [r.id] else acc)
def matchF (l : List RowD) (w : List Tok) : List Int × Bool := match matchAux w l [] with | some ids => (ids, true) | none => ([], false)
theorem flatIs {xs : List Int} : ∀ e ∈ xs.map encI, e.length = 1 ∧ ∀ x ∈ e, Flat x := flatI xs
theorem matching_ok (l : List RowD) (w : List Tok) (hx : l.length ≤ 1048576) (hb : ∀ r ∈ l, r.vals.length ≤ 34359738368) (hw : w.length ≤ 34359738368) (σ : Store) : Ok Tryz.prog 73 [.c (.fz (l.map encRowD)), .c (.fz (w.map encTok))] σ (NewV σ (.tup [.c (.fz ((matchF l w).1.map encI)), .c (.bool (matchF l w).2)])) := by
  refine Ok.run mixed c_impl_matching_ok (Nat.le_of_ble_eq_true rfl) fun hS hA => ?_
  clear hS hA
  repeat' first|refine yaG ?_|(exfalso;omega)|(refine yaS ?_ ?_<;>intro _)
  refine Go.keep [1, 6, 11, 12, 13] (Go.loops (I := fun m fr τ => ∃ (i : Nat) (k : Int) (ids : List Int) (v : Nat) (junk : List (List Ce)), m = l.length - i ∧ i ≤ l.length ∧ k = i ∧ Jk 1 junk ∧ (ids.length ≤ i ∧ matchAux w l [] = matchAux w (l.drop i) ids) ∧
    fr = [(1, .c (.fz (w.map encTok))), (6, .c (vec (σ.next + 0) v (ids.map encI) junk)), (11, .c (.fz (l.map encRowD))), (12, .c (.int .i64 (l.length : Int))), (13, .c (.int .i64 k))] ∧ τ = E σ [(v, ids.map encI ++ junk)]) ?_ _ _ _ ⟨0, _, [], 0, [], rfl, Nat.zero_le _, rfl, Jk.nil, ⟨Nat.zero_le _, rfl⟩, rfl, rfl⟩)
  rintro m fr τ ⟨i, k, ids, v, junk, rfl, hi, hk, hj, ⟨hil, hs⟩, rfl, rfl⟩ hrec
  by_cases hlt : i < l.length
  · have hv := hb _ (List.getElem_mem hlt)
    rw [List.drop_eq_getElem_cons hlt, matchAux, isM] at hs
    have hbd : ((ids.map encI).length + 1) * 8 ≤ 140737488355328 := by rw [List.length_map]; omega
    have c1 := Truth_ok w l[i].vals hw hv
    generalize hT : truthI w l[i].vals = T at c1 hs
    have hz1 : ∀ e ∈ ids.map encI, e.length = 1 := fun e he => (flatIs e he).1
    have e1 : ids.map encI ++ [encI l[i].id] = (ids ++ [l[i].id]).map encI := by simp
    by_cases h0 : 0 < w.length
    · rw [if_pos h0] at hs
      repeat' first|refine yaG ?_|((first|apply yG|apply yH|apply yI);exact rfl;(first|exact yX (enc := encRowD) rfl rfl hk hlt rfl))|(apply Go.app1;exact rfl;exact rfl;exact rfl;exact rfl;exact rfl;exact hz1;exact hj;exact rfl;exact hbd;intro v' junk' hj')|refine yaC (c1) ?_|(exfalso;omega)|(refine yaS ?_ ?_<;>intro _)
      · rename_i h1 h2
        rw [if_pos h2] at hs
        refine .ret rfl ?_
        rw [matchF, hs]
        exact newPair (.bool _) (newNil (gr_flat (flat_two flatIs hj)))
      · rename_i h1 h2 h3
        rw [if_neg h2, if_pos h3] at hs
        refine Go.keep [1, 6, 11, 12, 13] (hrec _ _ _ (by omega) ⟨i + 1, _, ids ++ [l[i].id], v', junk', rfl, hlt, wrap_succ hk (by omega), hj', ⟨by simp; omega, hs⟩, ?_, ?_⟩)
        · rw [← e1]; rfl
        · rw [← e1]; rfl
      · rename_i h1 h2 h3
        rw [if_neg h2, if_neg h3] at hs
        exact Go.keep [1, 6, 11, 12, 13] (hrec _ _ _ (by omega) ⟨i + 1, _, ids, v, junk, rfl, hlt, wrap_succ hk (by omega), hj, ⟨by omega, hs⟩, rfl, rfl⟩)
    · rw [if_neg h0] at hs
      repeat' first|refine yaG ?_|((first|apply yG|apply yH|apply yI);exact rfl;(first|exact yX (enc := encRowD) rfl rfl hk hlt rfl))|(apply Go.app1;exact rfl;exact rfl;exact rfl;exact rfl;exact rfl;exact hz1;exact hj;exact rfl;exact hbd;intro v' junk' hj')|(exfalso;omega)|(refine yaS ?_ ?_<;>intro _)
      rw [if_neg (by decide), if_pos rfl] at hs
      refine Go.keep [1, 6, 11, 12, 13] (hrec _ _ _ (by omega) ⟨i + 1, _, ids ++ [l[i].id], v', junk', rfl, hlt, wrap_succ hk (by omega), hj', ⟨by simp; omega, hs⟩, ?_, ?_⟩)
      · rw [← e1]; rfl
      · rw [← e1]; rfl
  · repeat' first|refine yaG ?_|(exfalso;omega)|(refine yaS ?_ ?_<;>intro _)
    refine .ret rfl ?_
    rw [List.drop_eq_nil_of_le (by omega), matchAux] at hs
    rw [matchF, hs]
    exact newPair (.bool _) (newVec flatIs hj)
theorem l7Matching_ok (d : Data) (w : List Tok) (hx : d.rows.length ≤ 1048576) (hw : w.length ≤ 34359738368) (hT : 0 < w.length → ∀ r ∈ d.rows, areVals r.vals 16 = true ∧ exprF w r.vals.length = true) (σ : Store) : Ok Tryz.prog 88 [.agg (encData d), .c (.fz (w.map encTok))] σ (NewV σ (.tup [.c (.fz ((matchF d.rows w).1.map encI)), .c (.bool (matchF d.rows w).2)])) := by
  refine Ok.run mixed c_spec_l7Matching_ok (Nat.le_of_ble_eq_true rfl) fun hS hA => ?_
  clear hS hA
  repeat' first|refine yaG ?_|(exfalso;omega)|(refine yaS ?_ ?_<;>intro _)
  refine Go.keep [1, 2, 6, 7] (Go.loops (I := fun m fr τ => ∃ (i : Nat) (k : Int) (ids : List Int) (v : Nat) (junk : List (List Ce)), m = d.rows.length - i ∧ i ≤ d.rows.length ∧ k = i ∧ Jk 1 junk ∧ (ids.length ≤ i ∧ matchAux w d.rows [] = matchAux w (d.rows.drop i) ids) ∧
    fr = [(1, .c (.fz (w.map encTok))), (2, .c (.fp (encData d))), (6, .c (vec (σ.next + 0) v (ids.map encI) junk)), (7, .c (.int .i64 k))] ∧ τ = E σ [(v, ids.map encI ++ junk)]) ?_ _ _ _ ⟨0, _, [], 0, [], rfl, Nat.zero_le _, rfl, Jk.nil, ⟨Nat.zero_le _, rfl⟩, rfl, rfl⟩)
  rintro m fr τ ⟨i, k, ids, v, junk, rfl, hi, hk, hj, ⟨hil, hs⟩, rfl, rfl⟩ hrec
  by_cases hlt : i < d.rows.length
  · rw [List.drop_eq_getElem_cons hlt, matchAux, isM] at hs
    have hbd : ((ids.map encI).length + 1) * 8 ≤ 140737488355328 := by rw [List.length_map]; omega
    have hz1 : ∀ e ∈ ids.map encI, e.length = 1 := fun e he => (flatIs e he).1
    have e1 : ids.map encI ++ [encI d.rows[i].id] = (ids ++ [d.rows[i].id]).map encI := by simp
    by_cases h0 : 0 < w.length
    · obtain ⟨q1, q2⟩ := hT h0 _ (List.getElem_mem hlt)
      have c1 := l2Truth_ok w d.rows[i].vals q1 q2
      have hTT : truthI w d.rows[i].vals = truthR w d.rows[i].vals := by rw [truthI, evalOk, q1, q2]; rfl
      have hr : -1 ≤ truthR w d.rows[i].vals := by
        rw [truthR]
        split
        · rw [truthV]
          split
          · decide
          · split
            · split <;> decide
            · decide
        · decide
      rw [if_pos h0, hTT] at hs
      generalize truthR w d.rows[i].vals = T at c1 hs hr
      repeat' first|refine yaG ?_|((first|apply yG|apply yH|apply yI);exact rfl;(first|exact yX (enc := encRowD) rfl rfl hk hlt rfl))|(apply Go.app1;exact rfl;exact rfl;exact rfl;exact rfl;exact rfl;exact hz1;exact hj;exact rfl;exact hbd;intro v' junk' hj')|refine yaC (c1) ?_|(exfalso;omega)|(refine yaS ?_ ?_<;>intro _)
      · rename_i h1 h2
        rw [if_pos (by omega)] at hs
        refine .ret rfl ?_
        rw [matchF, hs]
        exact newPair (.bool _) (newNil (gr_flat (flat_two flatIs hj)))
      · rename_i h1 h2 h3
        rw [if_neg (by omega), if_pos h3] at hs
        refine Go.keep [1, 2, 6, 7] (hrec _ _ _ (by omega) ⟨i + 1, _, ids ++ [d.rows[i].id], v', junk', rfl, hlt, wrap_succ hk (by omega), hj', ⟨by simp; omega, hs⟩, ?_, ?_⟩)
        · rw [← e1]; rfl
        · rw [← e1]; rfl
      · rename_i h1 h2 h3
        rw [if_neg (by omega), if_neg h3] at hs
        exact Go.keep [1, 2, 6, 7] (hrec _ _ _ (by omega) ⟨i + 1, _, ids, v, junk, rfl, hlt, wrap_succ hk (by omega), hj, ⟨by omega, hs⟩, rfl, rfl⟩)
    · rw [if_neg h0] at hs
      repeat' first|refine yaG ?_|((first|apply yG|apply yH|apply yI);exact rfl;(first|exact yX (enc := encRowD) rfl rfl hk hlt rfl))|(apply Go.app1;exact rfl;exact rfl;exact rfl;exact rfl;exact rfl;exact hz1;exact hj;exact rfl;exact hbd;intro v' junk' hj')|(exfalso;omega)|(refine yaS ?_ ?_<;>intro _)
      rw [if_neg (by decide), if_pos rfl] at hs
      refine Go.keep [1, 2, 6, 7] (hrec _ _ _ (by omega) ⟨i + 1, _, ids ++ [d.rows[i].id], v', junk', rfl, hlt, wrap_succ hk (by omega), hj', ⟨by simp; omega, hs⟩, ?_, ?_⟩)
      · rw [← e1]; rfl
      · rw [← e1]; rfl
  · repeat' first|refine yaG ?_|(exfalso;omega)|(refine yaS ?_ ?_<;>intro _)
    refine .ret rfl ?_
    rw [List.drop_eq_nil_of_le (by omega), matchAux] at hs
    rw [matchF, hs]
    exact newPair (.bool _) (newVec flatIs hj)
def rowsAt (db : List Data) (n : Int) : List RowD := match db[n.toNat]? with | some d => d.rows | none => []
theorem newNo {σ : Store} : NewV σ (.tup [.c (.fz []), .c (.bool false)]) (.tup [.c .nils, .c (.bool false)]) (E σ []) := newPair (.bool _) (newNil (Gr.start σ))
theorem whereF_some {w : List Tok} {n : Int} (h : whereF w n = true) (h0 : 0 < w.length) : exprF w n = true := by
  rw [whereF, beq_eq_false_iff_ne.2 (by omega), Bool.false_or] at h
  exact h
end Go.Proofs.YtinbdedlmkjokaaGreat.Am

/- Keys of rows; rows that have a key. -/
set_option linter.unusedVariables false
set_option linter.unusedSimpArgs false
namespace Go.Proofs.YtinbdedlmkjokaaGreat.Am

def valAt (vals : List Val) (c : Int) : Val := vals[c.toNat]?.getD vNull
def keyF (cols : List Int) (vals : List Val) : List Val := cols.map (valAt vals)
def wholeF (cols : List Int) (vals : List Val) : Bool := cols.all fun c => !((valAt vals c).k == 0)
def InR (cols : List Int) (n : Nat) : Prop := ∀ c ∈ cols, 0 ≤ c ∧ c < n
theorem valAt_eq {vals : List Val} {c : Int} (h : c.toNat < vals.length) : valAt vals c = vals[c.toNat] := by rw [valAt, List.getElem?_eq_getElem h]; rfl
theorem keyF_len (cols : List Int) (vals : List Val) : (keyF cols vals).length = cols.length := List.length_map _
theorem keyF_take {cols : List Int} {vals : List Val} {i : Nat} (h : i < cols.length) : keyF (cols.take (i + 1)) vals = keyF (cols.take i) vals ++ [valAt vals cols[i]] := by
  rw [List.take_succ_eq_append_getElem h, keyF, List.map_append]; rfl
theorem wholeF_take {cols : List Int} {vals : List Val} {i : Nat} (h : i < cols.length) : wholeF (cols.take (i + 1)) vals = (wholeF (cols.take i) vals && !((valAt vals cols[i]).k == 0)) := by
  rw [List.take_succ_eq_append_getElem h, wholeF, List.all_append, wholeF, List.all_cons, List.all_nil, Bool.and_true]
theorem keyOf_new (cols : List Int) (vals : List Val) (hx : cols.length ≤ 34359738368) (hi : InR cols vals.length) (σ : Store) : Ok Tryz.prog 80 [.c (.fz (cols.map encI)), .c (.fz (vals.map encV))] σ (NewV σ (.tup [.c (.fz ((keyF cols vals).map encV)), .c (.bool (wholeF cols vals))])) := by
  refine Ok.run mixed c_impl_keyOf_ok (Nat.le_of_ble_eq_true rfl) fun hS hA => ?_
  clear hS hA
  repeat' first|refine yaG ?_|(exfalso;omega)|(refine yaS ?_ ?_<;>intro _)
  refine Go.keep [1, 6, 7, 11, 12, 13] (Go.loops (I := fun m fr τ => ∃ (i : Nat) (k : Int) (v : Nat) (junk : List (List Ce)) (ks : List Val) (b : Bool), m = cols.length - i ∧ i ≤ cols.length ∧ k = i ∧ Jk 3 junk ∧ (ks = keyF (cols.take i) vals ∧ b = wholeF (cols.take i) vals) ∧
    fr = [(1, .c (.fz (vals.map encV))), (6, .c (vec (σ.next + 0) v (ks.map encV) junk)), (7, .c (.bool b)), (11, .c (.fz (cols.map encI))), (12, .c (.int .i64 (cols.length : Int))), (13, .c (.int .i64 k))] ∧ τ = E σ [(v, ks.map encV ++ junk)]) ?_ _ _ _ ⟨0, _, 0, [], [], true, rfl, Nat.zero_le _, rfl, Jk.nil, ⟨rfl, rfl⟩, rfl, rfl⟩)
  rintro m fr τ ⟨i, k, v, junk, ks, b, rfl, hile, hk, hj, ⟨hks, hb⟩, rfl, rfl⟩ hrec
  by_cases hlt : i < cols.length
  · obtain ⟨q1, q2⟩ := hi _ (List.getElem_mem hlt)
    have hc : cols[i] = (cols[i].toNat : Int) := by omega
    have hcl : cols[i].toNat < vals.length := by omega
    have hv := valAt_eq hcl
    have hkl : (ks.map encV).length = i := by rw [List.length_map, hks, keyF_len, List.length_take]; omega
    have hbd : ((ks.map encV).length + 1) * 32 ≤ 140737488355328 := by omega
    have e1 : ks.map encV ++ [encV vals[cols[i].toNat]] = (ks ++ [vals[cols[i].toNat]]).map encV := by simp
    have hk2 : ks ++ [vals[cols[i].toNat]] = keyF (cols.take (i + 1)) vals := by rw [keyF_take hlt, ← hks, hv]
    have hw2 := wholeF_take (vals := vals) hlt
    rw [← hb, hv] at hw2
    cases b
    · repeat' first|refine yaG ?_|((first|apply yG|apply yH|apply yI);exact rfl;(first|exact yX (enc := encI) rfl rfl hk hlt rfl|exact yX (enc := encV) rfl rfl hc hcl rfl))|(apply Go.app1;exact rfl;exact rfl;exact rfl;exact rfl;exact rfl;exact lens;exact hj;exact rfl;exact hbd;intro v' junk' hj')|(exfalso;omega)|(refine yaS ?_ ?_<;>intro _)
      refine Go.keep [1, 6, 7, 11, 12, 13] (hrec _ _ _ (by omega) ⟨i + 1, _, v', junk', ks ++ [vals[cols[i].toNat]], _, rfl, hlt, wrap_succ hk (by omega), hj', ⟨hk2, hw2.symm⟩, ?_, ?_⟩)
      · rw [← e1]; rfl
      · rw [← e1]; rfl
    · repeat' first|refine yaG ?_|((first|apply yG|apply yH|apply yI);exact rfl;(first|exact yX (enc := encI) rfl rfl hk hlt rfl|exact yX (enc := encV) rfl rfl hc hcl rfl))|(apply Go.app1;exact rfl;exact rfl;exact rfl;exact rfl;exact rfl;exact lens;exact hj;exact rfl;exact hbd;intro v' junk' hj')|(exfalso;omega)|(refine yaS ?_ ?_<;>intro _)
      refine Go.keep [1, 6, 7, 11, 12, 13] (hrec _ _ _ (by omega) ⟨i + 1, _, v', junk', ks ++ [vals[cols[i].toNat]], vals[cols[i].toNat].k != 0, rfl, hlt, wrap_succ hk (by omega), hj', ⟨hk2, hw2.symm⟩, ?_, ?_⟩)
      · rw [← e1]; rfl
      · rw [← e1]; rfl
  · repeat' first|refine yaG ?_|(exfalso;omega)|(refine yaS ?_ ?_<;>intro _)
    refine .ret rfl ?_
    rw [List.take_of_length_le (by omega)] at hks hb
    rw [← hks, ← hb]
    exact newPair (.bool _) (newVec clean_append hj)
theorem keyOf_ok (cols : List Int) (vals : List Val) (hx : cols.length ≤ 34359738368) (hi : InR cols vals.length) : Pure Tryz.prog 80 [.c (.fz (cols.map encI)), .c (.fz (vals.map encV))] (.tup [.c (.fz ((keyF cols vals).map encV)), .c (.bool (wholeF cols vals))]) := NewV.pure (keyOf_new cols vals hx hi)
end Go.Proofs.YtinbdedlmkjokaaGreat.Am

/- Queries: the order of rows. -/
set_option linter.unusedVariables false
set_option linter.unusedSimpArgs false
namespace Go.Proofs.YtinbdedlmkjokaaGreat.Am

def rowOrd (by_ : List Int) (r s : RowD) : Int := orI [orderOf (keyF by_ r.vals) (keyF by_ s.vals), cmpI r.id s.id]
theorem runSelect2_ok (q : Sel) (r s : RowD) (hb : q.by_.length ≤ 34359738368) (h1 : InR q.by_ r.vals.length) (h2 : InR q.by_ s.vals.length) : Pure Tryz.prog 79 [.agg (encRowD r), .agg (encRowD s), .c (.fp (encSel q))] (.c (.int .i64 (rowOrd q.by_ r s))) := by
  refine Pure.run mixed c_impl_RunSelect_2_ok (Nat.le_of_ble_eq_true rfl) fun σ hS hA => ?_
  clear hS hA
  have c1 := keyOf_ok q.by_ r.vals hb h1
  have c2 := keyOf_ok q.by_ s.vals hb h2
  have c3 := orderOf_ok (keyF q.by_ r.vals) (keyF q.by_ s.vals) (by rw [keyF_len]; exact hb) (by rw [keyF_len, keyF_len])
  repeat' first|refine yaG ?_|refine yaC (c1) ?_|refine yaC (c2) ?_|refine yaC (c3) ?_|((first|apply yQ|apply yR|apply yS);(iterate 3 exact rfl);exact Compare_ok _ _)|((first|apply yQ|apply yR|apply yS);(iterate 3 exact rfl);exact Or_ok [orderOf (keyF q.by_ r.vals) (keyF q.by_ s.vals), cmpI r.id s.id] (by simp))|(exfalso;omega)|(refine yaS ?_ ?_<;>intro _)
  exact .ret rfl (.int rfl)
end Go.Proofs.YtinbdedlmkjokaaGreat.Am

/- Queries: the reference's order of rows. -/
set_option linter.unusedVariables false
set_option linter.unusedSimpArgs false
namespace Go.Proofs.YtinbdedlmkjokaaGreat.Am

def lessBy (a b : List Val) : List Int → Bool
  | [] => false
  | c :: r => if l1Ord (valAt a c) (valAt b c) = 0 then lessBy a b r else decide (l1Ord (valAt a c) (valAt b c) < 0)
theorem l10Less_ok (by_ : List Int) (a b : List Val) (hx : by_.length ≤ 34359738368) (h1 : InR by_ a.length) (h2 : InR by_ b.length) : Pure Tryz.prog 90 [.c (.fz (by_.map encI)), .c (.fz (a.map encV)), .c (.fz (b.map encV))] (.c (.bool (lessBy a b by_))) := by
  refine Pure.run mixed c_spec_l10Less_ok (Nat.le_of_ble_eq_true rfl) fun σ hS hA => ?_
  clear hS hA
  repeat' first|refine yaG ?_|(exfalso;omega)|(refine yaS ?_ ?_<;>intro _)
  refine Go.keep [0, 1, 2, 7] (Go.loops (I := fun m fr τ => ∃ (i : Nat) (k : Int), m = by_.length - i ∧ i ≤ by_.length ∧ k = i ∧ lessBy a b by_ = lessBy a b (by_.drop i) ∧
    fr = [(0, .c (.fz (by_.map encI))), (1, .c (.fz (a.map encV))), (2, .c (.fz (b.map encV))), (7, .c (.int .i64 k))] ∧ τ = E σ []) ?_ _ _ _ ⟨0, _, rfl, Nat.zero_le _, rfl, rfl, rfl, rfl⟩)
  rintro m fr τ ⟨i, k, rfl, hi, hk, hs, rfl, rfl⟩ hrec
  by_cases hlt : i < by_.length
  · obtain ⟨q1, q2⟩ := h1 _ (List.getElem_mem hlt)
    obtain ⟨_, q3⟩ := h2 _ (List.getElem_mem hlt)
    have hc : by_[i] = (by_[i].toNat : Int) := by omega
    have ha : by_[i].toNat < a.length := by omega
    have hb : by_[i].toNat < b.length := by omega
    rw [List.drop_eq_getElem_cons hlt, lessBy, valAt_eq ha, valAt_eq hb] at hs
    have c1 := l1Order_ok a[by_[i].toNat] b[by_[i].toNat]
    generalize l1Ord a[by_[i].toNat] b[by_[i].toNat] = o at c1 hs
    by_cases h0 : o = 0
    · rw [if_pos h0] at hs
      repeat' first|refine yaG ?_|((first|apply yG|apply yH|apply yI);exact rfl;(first|exact yX (enc := encI) rfl rfl hk hlt rfl|exact yX (enc := encV) rfl rfl hc ha rfl|exact yX (enc := encV) rfl rfl hc hb rfl))|refine yaC (c1) ?_|(exfalso;omega)|(refine yaS ?_ ?_<;>intro _)
      all_goals first
        | exact Go.keep [0, 1, 2, 7] (hrec _ _ _ (by omega) ⟨i + 1, _, rfl, hlt, wrap_succ hk (by omega), hs, rfl, rfl⟩)
        | (exfalso; simp_all; done)
    · rw [if_neg h0] at hs
      repeat' first|refine yaG ?_|((first|apply yG|apply yH|apply yI);exact rfl;(first|exact yX (enc := encI) rfl rfl hk hlt rfl|exact yX (enc := encV) rfl rfl hc ha rfl|exact yX (enc := encV) rfl rfl hc hb rfl))|refine yaC (c1) ?_|(exfalso;omega)|(refine yaS ?_ ?_<;>intro _)
      all_goals first
        | exact .ret rfl (.bool hs.symm)
        | (exfalso; simp_all; done)
  · repeat' first|refine yaG ?_|(exfalso;omega)|(refine yaS ?_ ?_<;>intro _)
    rw [List.drop_eq_nil_of_le (by omega), lessBy] at hs
    exact .ret rfl (.bool hs.symm)
end Go.Proofs.YtinbdedlmkjokaaGreat.Am

/- Entries: copies of many, marks that are held. -/
set_option linter.unusedVariables false
set_option linter.unusedSimpArgs false
namespace Go.Proofs.YtinbdedlmkjokaaGreat.Am

def heldV (v : Val) (k : Int) : Int := if v.k = k ∧ v.n = k + 1 ∧ v.s = mText (k + 2) then k + 3 else -1
def heldS {α : Type} (h : α → Int → Int) : List α → Int → Int
  | [], k => k
  | a :: r, k => if h a k < 0 then -1 else heldS h r (h a k)
theorem heldS_mark {α : Type} {h : α → Int → Int} {m : α → Int → α} {c : α → Int} (hm : ∀ a k, 0 ≤ k → h (m a k) k = k + c a) (hc : ∀ a, 0 ≤ c a) : ∀ (xs : List α) (k : Int), 0 ≤ k → heldS h (markL m c xs k) k = k + cntL c xs
  | [], k, _ => by simp [markL, heldS, cntL]
  | a :: r, k, hk => by
    have := hc a
    have := hm a k hk
    simp only [markL, heldS, cntL]
    rw [if_neg (by omega), this, heldS_mark hm hc r _ (by omega)]
    omega
theorem heldV_mark (v : Val) (k : Int) (hk : 0 ≤ k) : heldV (markV v k) k = k + 3 := by simp [heldV, markV]
theorem heldValS_ok (xs : List Val) (k : Int) (hx : xs.length ≤ 34359738368) (hk0 : 0 ≤ k) (hk : k + cntL (fun _ => 3) xs ≤ 34359738368) : Pure Tryz.prog 117 [.c (.fz (xs.map encV)), .c (.int .i64 k)] (.c (.int .i64 (heldS heldV xs k))) := by
  refine Pure.run mixed c_laws_heldValS_ok (Nat.le_of_ble_eq_true rfl) fun σ hS hA => ?_
  clear hS hA
  rw [cnt3] at hk
  repeat' first|refine yaG ?_|(exfalso;omega)|(refine yaS ?_ ?_<;>intro _)
  refine Go.keep [0, 1, 5] (Go.loops (I := fun m fr τ => ∃ i : Nat, ∃ n l : Int, m = xs.length - i ∧ i ≤ xs.length ∧ n = i ∧ (l = k + 3 * i ∧ heldS heldV xs k = heldS heldV (xs.drop i) l) ∧
    fr = [(0, .c (.fz (xs.map encV))), (1, .c (.int .i64 l)), (5, .c (.int .i64 n))] ∧ τ = E σ []) ?_ _ _ _ ⟨0, _, _, rfl, Nat.zero_le _, rfl, ⟨by simp, rfl⟩, rfl, rfl⟩)
  rintro m fr τ ⟨i, n, l, rfl, hi, hn, ⟨hl, hsl⟩, rfl, rfl⟩ hrec
  by_cases hlt : i < xs.length
  · have hw1 : IntKind.i64.wrap (l + 1) = l + 1 := wrap64 (by omega) (by omega)
    have hw2 : IntKind.i64.wrap (l + 1 + 1) = l + 2 := by rw [wrap64 (by omega) (by omega)]; omega
    have hw3 : IntKind.i64.wrap (l + 2 + 1) = l + 3 := by rw [wrap64 (by omega) (by omega)]; omega
    have hdr := List.drop_eq_getElem_cons hlt
    have neg : ¬ (xs[i].k = l ∧ xs[i].n = l + 1 ∧ xs[i].s = mText (l + 2)) → heldS heldV xs k = -1 := fun h => by
      have hv : heldV xs[i] l = -1 := if_neg h
      rw [hsl, hdr, heldS, hv]
      rfl
    repeat' first|refine yaG ?_|((first|apply yG|apply yH|apply yI);exact rfl;(first|exact yX (enc := encV) rfl rfl hn hlt rfl))|(exfalso;omega)|(refine yaS ?_ ?_<;>intro _)
    · refine .ret rfl (.int ?_)
      rename_i h9
      exact (neg fun e => h9 e.1).symm
    · refine .ret rfl (.int ?_)
      rename_i h9
      rw [hw1] at h9
      exact (neg fun e => h9 e.2.1).symm
    rename_i h1 h2
    rw [hw1] at h2 ⊢
    rw [hw2]
    repeat' first|refine yaG ?_|((first|apply yG|apply yH|apply yI);exact rfl;(first|exact yX (enc := encV) rfl rfl hn hlt rfl))|((first|apply yQ|apply yR|apply yS);(iterate 3 exact rfl);exact markText_ok (l + 2) (by omega))|(exfalso;omega)|(refine yaS ?_ ?_<;>intro _)
    · refine .ret rfl (.int ?_)
      rename_i h9
      exact (neg fun e => by simp [e.2.2] at h9).symm
    · refine Go.keep [0, 1, 5] (hrec _ _ _ (by omega) ⟨i + 1, _, _, rfl, hlt, wrap_succ hn (by omega), ⟨hw3.trans (by omega), ?_⟩, rfl, rfl⟩)
      rename_i h3
      have hv : heldV xs[i] l = l + 3 := if_pos ⟨by simpa using h1, by simpa using h2, by simpa using h3⟩
      rw [hsl, hdr, heldS, hv, if_neg (by omega), hw3]
  · repeat' first|refine yaG ?_|(exfalso;omega)|(refine yaS ?_ ?_<;>intro _)
    refine .ret rfl (.int ?_)
    rw [hsl, List.drop_eq_nil_of_le (by omega)]
    rfl
end Go.Proofs.YtinbdedlmkjokaaGreat.Am

/- The order of entries; an index without one of its entries. Plain laws. -/
set_option linter.unusedVariables false
set_option linter.unusedSimpArgs false
namespace Go.Proofs.YtinbdedlmkjokaaGreat.Am

/-- A three-way order among those that are R. -/
structure Cmp {α : Type} (R : α → Prop) (c : α → α → Int) : Prop where
  refl : ∀ a, R a → c a a = 0
  eq : ∀ a b, R a → R b → c a b = 0 → a = b
  flip : ∀ a b, R a → R b → (c a b < 0 ↔ 0 < c b a)
  trans : ∀ a b d, R a → R b → R d → c a b < 0 → c b d < 0 → c a d < 0
theorem Cmp.lex {α β γ : Type} {R : γ → Prop} {f : γ → α} {g : γ → β} {c : α → α → Int} {d : β → β → Int} {Rα : α → Prop} {Rβ : β → Prop} (hc : Cmp Rα c) (hd : Cmp Rβ d) (h1 : ∀ x, R x → Rα (f x)) (h2 : ∀ x, R x → Rβ (g x)) (inj : ∀ x y, f x = f y → g x = g y → x = y) {e : γ → γ → Int} (he : ∀ x y, e x y = if c (f x) (f y) = 0 then d (g x) (g y) else c (f x) (f y)) : Cmp R e := by
  refine ⟨fun a ha => ?_, fun a b ha hb h => ?_, fun a b ha hb => ?_, fun a b x ha hb hx p q => ?_⟩
  · rw [he, hc.refl _ (h1 a ha), if_pos rfl, hd.refl _ (h2 a ha)]
  · rw [he] at h
    split at h
    · rename_i h0
      exact inj a b (hc.eq _ _ (h1 a ha) (h1 b hb) h0) (hd.eq _ _ (h2 a ha) (h2 b hb) h)
    · contradiction
  · have f1 := hc.flip _ _ (h1 a ha) (h1 b hb)
    have f2 := hc.flip _ _ (h1 b hb) (h1 a ha)
    have f3 := hd.flip _ _ (h2 a ha) (h2 b hb)
    rw [he, he]
    split <;> split <;> omega
  · rw [he] at p q ⊢
    split at p
    · rename_i e1
      have e1' := hc.eq _ _ (h1 a ha) (h1 b hb) e1
      rw [e1']
      split at q
      · rename_i e2
        rw [if_pos e2]
        exact hd.trans _ _ _ (h2 a ha) (h2 b hb) (h2 x hx) p q
      · rename_i e2
        rw [if_neg e2]
        exact q
    · rename_i e1
      split at q
      · rename_i e2
        have e2' := hc.eq _ _ (h1 b hb) (h1 x hx) e2
        rw [← e2', if_neg e1]
        exact p
      · have := hc.trans _ _ _ (h1 a ha) (h1 b hb) (h1 x hx) p q
        rw [if_neg (by omega)]
        exact this
theorem cmpI_cmp : Cmp (fun _ => True) cmpI := by
  refine ⟨fun a _ => ?_, fun a b _ _ h => ?_, fun a b _ _ => ?_, fun a b d _ _ _ h k => ?_⟩ <;> simp only [cmpI] at *
  · simp
  · split at h
    · omega
    · split at h <;> omega
  · split <;> split <;> (try split) <;> (try split) <;> omega
  · split at h <;> split at k <;> (try split at h) <;> (try split at k) <;> (try omega)
theorem bytesLt_trans : ∀ {a b d : List UInt8}, bytesLt a b = true → bytesLt b d = true → bytesLt a d = true
  | [], [], _, h, _ => by simp [bytesLt, Op.bytesLess] at h
  | [], _ :: _, [], _, k => by simp [bytesLt, Op.bytesLess] at k
  | [], _ :: _, _ :: _, _, _ => by simp [bytesLt, Op.bytesLess]
  | _ :: _, [], _, h, _ => by simp [bytesLt, Op.bytesLess] at h
  | _ :: _, _ :: _, [], _, k => by simp [bytesLt, Op.bytesLess] at k
  | x :: a, y :: b, z :: d, h, k => by
    have ih := @bytesLt_trans a b d
    simp only [bytesLt, Op.bytesLess, Bool.or_eq_true, Bool.and_eq_true, decide_eq_true_eq, beq_iff_eq] at h k ih ⊢
    rcases h with h | ⟨rfl, h⟩ <;> rcases k with k | ⟨rfl, k⟩
    · exact .inl (UInt8.lt_trans h k)
    · exact .inl h
    · exact .inl k
    · exact .inr ⟨rfl, ih h k⟩
theorem cmpS_cmp : Cmp (fun _ => True) cmpS := by
  refine ⟨fun a _ => ?_, fun a b _ _ h => ?_, fun a b _ _ => ?_, fun a b d _ _ _ h k => ?_⟩
  · simp [cmpS, bytesLt_irrefl]
  · simp only [cmpS] at h
    split at h
    · omega
    · split at h
      · rename_i h8; exact beq_iff_eq.1 h8
      · omega
  · have h1 := bytesLt_cases a b
    simp only [cmpS, h1]
    cases h2 : bytesLt a b <;> by_cases e : a = b
    · subst e; simp
    · have e' : ¬ b = a := fun h => e h.symm
      simp [e]
    · subst e; rw [bytesLt_irrefl] at h2; cases h2
    · have e' : ¬ b = a := fun h => e h.symm
      simp [e, e']
  · have key : ∀ {x y : List UInt8}, cmpS x y < 0 ↔ bytesLt x y = true := by
      intro x y
      simp only [cmpS]
      split
      · simp_all
      · split <;> simp_all
    rw [key] at *
    exact bytesLt_trans h k
theorem order_cmp : Cmp (fun _ : Val => True) order := by
  have h2 : Cmp (fun _ : Int × List UInt8 => True) (fun p q => if cmpI p.1 q.1 = 0 then cmpS p.2 q.2 else cmpI p.1 q.1) := Cmp.lex (f := Prod.fst) (g := Prod.snd) cmpI_cmp cmpS_cmp (fun _ _ => trivial) (fun _ _ => trivial) (fun _ _ h k => Prod.ext h k) (fun _ _ => rfl)
  refine Cmp.lex (f := Val.k) (g := fun v => (v.n, v.s)) cmpI_cmp h2 (fun _ _ => trivial) (fun _ _ => trivial) (fun x y h k => ?_) (fun x y => ?_)
  · obtain ⟨a, b, c⟩ := x
    obtain ⟨a', b', c'⟩ := y
    simp_all
  · simp only [order, orI]
    split
    · split
      · split <;> simp_all
      · rfl
    · rfl
theorem orderOf_cmp : ∀ n, Cmp (fun l : List Val => l.length = n) orderOf
  | 0 => ⟨fun a h => by rw [List.eq_nil_of_length_eq_zero h]; rfl, fun a b h k _ => by rw [List.eq_nil_of_length_eq_zero h, List.eq_nil_of_length_eq_zero k], fun a b h k => by rw [List.eq_nil_of_length_eq_zero h, List.eq_nil_of_length_eq_zero k]; simp [orderOf], fun a b d h k _ p => by rw [List.eq_nil_of_length_eq_zero h, List.eq_nil_of_length_eq_zero k] at p; simp [orderOf] at p⟩
  | n + 1 => by
    have ih := orderOf_cmp n
    have key : Cmp (fun p : Val × List Val => p.2.length = n) (fun p q => if order p.1 q.1 = 0 then orderOf p.2 q.2 else order p.1 q.1) := Cmp.lex (f := Prod.fst) (g := Prod.snd) order_cmp ih (fun _ _ => trivial) (fun _ h => h) (fun _ _ h k => Prod.ext h k) (fun _ _ => rfl)
    have cons : ∀ {a : List Val}, a.length = n + 1 → ∃ v r, a = v :: r ∧ r.length = n := by
      intro a h
      cases a with
      | nil => simp at h
      | cons v r => exact ⟨v, r, rfl, by simpa using h⟩
    refine ⟨fun a h => ?_, fun a b h k e => ?_, fun a b h k => ?_, fun a b d h k l p q => ?_⟩
    · obtain ⟨v, r, rfl, hr⟩ := cons h
      exact key.refl (v, r) hr
    · obtain ⟨v, r, rfl, hr⟩ := cons h
      obtain ⟨w, s, rfl, hs⟩ := cons k
      have := key.eq (v, r) (w, s) hr hs e
      injection this with h1 h2
      rw [h1, h2]
    · obtain ⟨v, r, rfl, hr⟩ := cons h
      obtain ⟨w, s, rfl, hs⟩ := cons k
      exact key.flip (v, r) (w, s) hr hs
    · obtain ⟨v, r, rfl, hr⟩ := cons h
      obtain ⟨w, s, rfl, hs⟩ := cons k
      obtain ⟨u, t, rfl, ht⟩ := cons l
      exact key.trans (v, r) (w, s) (u, t) hr hs ht p q
theorem entOrd_cmp (n : Nat) : Cmp (fun e : Entry => e.key.length = n) entOrd := by
  refine Cmp.lex (f := Entry.key) (g := Entry.id) (orderOf_cmp n) cmpI_cmp (fun _ h => h) (fun _ _ => trivial) (fun x y h k => ?_) (fun x y => ?_)
  · obtain ⟨a, b⟩ := x
    obtain ⟨a', b'⟩ := y
    simp_all
  · simp only [entOrd, orI]
    split
    · split <;> simp_all
    · rfl
/-- An index without an entry. -/
def without (l : List Entry) (e : Entry) : List Entry := l.filter fun x => !(x == e)
end Go.Proofs.YtinbdedlmkjokaaGreat.Am

/- Sorting in place, once for all element types: swaps, rotations. -/
set_option linter.unusedVariables false
set_option linter.unusedSimpArgs false
namespace Go.Proofs.YtinbdedlmkjokaaGreat.Am

/-- The store whose block id holds a list's elements. -/
structure Fam (α : Type) where
  σ : Store
  id : Nat
  v : Nat
  ce : α → List Ce
  junk : List (List Ce)
  two : ∀ x, (ce x).length = 2
def Fam.S {α : Type} (F : Fam α) (l : List α) : Store := F.σ.put F.id (F.v, l.map F.ce ++ F.junk)
section
variable {α : Type} {F : Fam α}
theorem Fam.get (l : List α) : (F.S l).get F.id = some (F.v, l.map F.ce ++ F.junk) := if_pos rfl
theorem Fam.put (l l' : List α) : (F.S l).put F.id (F.v, l'.map F.ce ++ F.junk) = F.S l' := by
  simp only [Fam.S, Store.put]
  congr 1
  funext a
  split <;> rfl
theorem aop_si {fr : Fr} {l : List α} {x y : Opd} {kd : IntKind} {z : Int} {m c i : Nat} (hx : x.ev fr = some (.c (.sl F.id F.v 0 m c))) (hy : y.ev fr = some (.c (.int kd z))) (hz : z = (i : Int)) (hm : m = l.length) (hi : i < l.length) :
    aop (.iaddr 2 x y) fr (F.S l) = some (.c (.ptr F.id F.v i 0), F.S l) := by
  have := aop_iaddrO (s := 2) hx hy hz (by omega) (F.get l) (e := F.ce l[i]) (by rw [Nat.zero_add, List.getElem?_append_left (by simpa using hi)]; simp [hi]) (F.two _)
  rw [Nat.zero_add] at this
  exact this
theorem aop_sl {fr : Fr} {l : List α} {a : Opd} {i : Nat} (ha : a.ev fr = some (.c (.ptr F.id F.v i 0))) (hi : i < l.length) : aop (.load true 2 a) fr (F.S l) = some (.agg (F.ce l[i]), F.S l) := by
  have he : (l.map F.ce ++ F.junk)[i]? = some (F.ce l[i]) := by rw [List.getElem?_append_left (by simpa using hi)]; simp [hi]
  have h2 := F.two l[i]
  simp only [aop, ha, Store.at_, F.get l, he, if_true, Option.bind_some, Nat.zero_le, List.drop_zero, takeA, h2, Nat.le_refl]
  have : (F.ce l[i]).take 2 = F.ce l[i] := List.take_of_length_le (by omega)
  rw [this]
  rfl
theorem aop_ss {fr : Fr} {l : List α} {a y : Opd} {i : Nat} {x : α} (ha : a.ev fr = some (.c (.ptr F.id F.v i 0))) (hy : y.ev fr = some (.agg (F.ce x))) (hi : i < l.length) : aop (.store 2 a y) fr (F.S l) = some (.un, F.S (l.set i x)) := by
  have he : (l.map F.ce ++ F.junk)[i]? = some (F.ce l[i]) := by rw [List.getElem?_append_left (by simpa using hi)]; simp [hi]
  have h2 := F.two l[i]
  have h3 := F.two x
  have hs : (l.map F.ce ++ F.junk).set i (splice (F.ce l[i]) 0 (F.ce x)) = (l.set i x).map F.ce ++ F.junk := by
    have : splice (F.ce l[i]) 0 (F.ce x) = F.ce x := by
      rw [splice, List.take_zero, List.nil_append, List.drop_eq_nil_of_le (by omega), List.append_nil]
    rw [this, List.set_append_left _ _ (by simpa using hi), List.map_set]
  have h4 : ∀ q : Store × AV, True := fun _ => trivial
  simp only [aop, ha, hy, AV.cells, Option.bind_some, F.get l, he, if_true, h2, h3, Nat.zero_add, Nat.le_refl, and_self, hs]
  rw [F.put]
end
def sw {α : Type} (l : List α) (i j : Nat) : List α := match l[i]?, l[j]? with
  | some x, some y => (l.set i y).set j x
  | _, _ => l
theorem sw_eq {α : Type} {l : List α} {i j : Nat} (hi : i < l.length) (hj : j < l.length) : sw l i j = (l.set i l[j]).set j l[i] := by
  rw [sw, List.getElem?_eq_getElem hi, List.getElem?_eq_getElem hj]
theorem sw_len {α : Type} {l : List α} {i j : Nat} : (sw l i j).length = l.length := by
  rw [sw]
  split <;> simp
/-- swapRange -/
def swR {α : Type} (a b : Nat) : Nat → Nat → List α → List α
  | 0, _, l => l
  | n + 1, i, l => swR a b n (i + 1) (sw l (a + i) (b + i))
theorem swR_len {α : Type} {a b : Nat} : ∀ {n i : Nat} {l : List α}, (swR a b n i l).length = l.length
  | 0, _, l => rfl
  | n + 1, i, l => by rw [swR, swR_len, sw_len]
theorem swapRange_ok {P : Program} (hm : P.follows .mixedOrders = true) {fz : List Nat} {n : Nat} (hc : compFn P fz n = some c_slices_swapRangeCmpFunc_Row) {α : Type} (F : Fam α) (l : List α) (a b k c : Nat) (za zb zk : Int) (ha : za = a) (hb : zb = b) (hk : zk = k) (f : Ce) (h1 : a + k ≤ l.length) (h2 : b + k ≤ l.length) (hx : l.length ≤ 34359738368) :
    Ok P n [.c (.sl F.id F.v 0 l.length c), .c (.int .i64 za), .c (.int .i64 zb), .c (.int .i64 zk), .c f] (F.S l) (fun r τ => r = .tup [] ∧ τ = F.S (swR a b k 0 l)) := by
  refine .of_go hm hc (Nat.le_of_ble_eq_true rfl) ?_
  repeat' first|refine yaG ?_|(exfalso;omega)|(refine yaS ?_ ?_<;>intro _)
  refine Go.keep [0, 1, 2, 3, 10] (Go.loops (I := fun m fr τ => ∃ (i : Nat) (z : Int) (q : List α), m = k - i ∧ i ≤ k ∧ z = i ∧ q.length = l.length ∧ swR a b k 0 l = swR a b (k - i) i q ∧
    fr = [(0, .c (.sl F.id F.v 0 l.length c)), (1, .c (.int .i64 za)), (2, .c (.int .i64 zb)), (3, .c (.int .i64 zk)), (10, .c (.int .i64 z))] ∧ τ = F.S q) ?_ _ _ _ ⟨0, _, l, rfl, Nat.zero_le _, rfl, rfl, rfl, rfl, rfl⟩)
  rintro m fr τ ⟨i, z, q, rfl, hi, hz, hql, hsw, rfl, rfl⟩ hrec
  by_cases hlt : i < k
  · have ei : IntKind.i64.wrap (za + z) = ((a + i : Nat) : Int) := by rw [wrap64 (by omega) (by omega)]; omega
    have ej : IntKind.i64.wrap (zb + z) = ((b + i : Nat) : Int) := by rw [wrap64 (by omega) (by omega)]; omega
    have hi1 : a + i < q.length := by omega
    have hj1 : b + i < q.length := by omega
    rw [show k - i = (k - (i + 1)) + 1 by omega, swR, sw_eq hi1 hj1] at hsw
    repeat' first|(apply yA;exact rfl)|apply yC|((first|apply yD|apply yE);(first|exact yF|assumption);iterate 6 exact rfl)|((first|apply yG|apply yH|apply yI);exact rfl;(first|exact yJ|exact yK rfl rfl|exact yL rfl|exact yM rfl|exact rfl|exact aL rfl rfl rfl rfl rfl|exact aS rfl rfl rfl rfl rfl rfl rfl))|((first|apply yN|apply yO|apply yP);exact rfl)|(exfalso;omega)|(((first|apply yT|apply yU|apply yV|apply yW);exact rfl;(first|exact .d|exact .e|exact .n|((fail_if_success exact bqt);(fail_if_success exact bqf);exact .b)))<;>intro _)
    refine Go.qw (fun F' τ => Go P (F.S l).next _ _ _ (.segs _ :: _) F' τ) ?_ fun _ _ h => h
    repeat' first|(apply Qw.op;exact rfl;exact fun _ => rfl)|(apply Qw.rd;exact rfl;exact rfl;first|exact aop_si rfl rfl ei hql.symm hi1|exact aop_si rfl rfl ej hql.symm hj1|exact aop_sl rfl hi1|exact aop_sl rfl hj1)|(apply Qw.wr;exact rfl;exact rfl;exact aop_ss rfl rfl hi1)|apply Qw.nil
    repeat' first|refine yaG ?_|((first|apply yG|apply yH|apply yI);exact rfl;(first|exact aop_si rfl rfl ej (by rw [List.length_set];exact hql.symm) (by rw [List.length_set];exact hj1)|exact aop_ss rfl rfl (by rw [List.length_set];exact hj1)))|(exfalso;omega)|(refine yaS ?_ ?_<;>intro _)
    refine Go.keep [0, 1, 2, 3, 10] (hrec _ _ _ (by omega) ⟨i + 1, _, _, rfl, hlt, wrap_succ hz (by omega), ?_, hsw, rfl, rfl⟩)
    simp [hql]
  · repeat' first|refine yaG ?_|(exfalso;omega)|(refine yaS ?_ ?_<;>intro _)
    rw [show k - i = 0 by omega, swR] at hsw
    exact .fin rfl ⟨rfl, by rw [hsw]⟩
end Go.Proofs.YtinbdedlmkjokaaGreat.Am

/- Sorting in place: rotations, insertion. -/
set_option linter.unusedVariables false
set_option linter.unusedSimpArgs false
namespace Go.Proofs.YtinbdedlmkjokaaGreat.Am

theorem sw_mem {α : Type} {l : List α} {i j : Nat} {x : α} (h : x ∈ sw l i j) : x ∈ l := by
  rw [sw] at h
  split at h
  · rename_i a b ha hb
    rcases List.mem_or_eq_of_mem_set h with h | rfl
    · rcases List.mem_or_eq_of_mem_set h with h | rfl
      · exact h
      · exact List.mem_of_getElem? hb
    · exact List.mem_of_getElem? ha
  · exact h
theorem swR_mem {α : Type} {a b : Nat} {x : α} : ∀ {n i : Nat} {l : List α}, x ∈ swR a b n i l → x ∈ l
  | 0, _, l, h => h
  | n + 1, i, l, h => sw_mem (swR_mem (by rwa [swR] at h))
def rot {α : Type} (m : Nat) : Nat → Nat → Nat → List α → List α
  | 0, _, _, l => l
  | n + 1, i, j, l => if i = j then swR (m - i) m i 0 l else if j < i then rot m n (i - j) j (swR (m - i) m j 0 l) else rot m n i (j - i) (swR (m - i) (m + j - i) i 0 l)
theorem rot_len {α : Type} {m : Nat} : ∀ {n i j : Nat} {l : List α}, (rot m n i j l).length = l.length
  | 0, _, _, l => rfl
  | n + 1, i, j, l => by
    rw [rot]
    split
    · exact swR_len
    · split
      · rw [rot_len, swR_len]
      · rw [rot_len, swR_len]
theorem rot_mem {α : Type} {m : Nat} {x : α} : ∀ {n i j : Nat} {l : List α}, x ∈ rot m n i j l → x ∈ l
  | 0, _, _, l, h => h
  | n + 1, i, j, l, h => by
    rw [rot] at h
    split at h
    · exact swR_mem h
    · split at h
      · exact swR_mem (rot_mem h)
      · exact swR_mem (rot_mem h)
def rotF {α : Type} (a m b : Nat) (l : List α) : List α := rot m (b - a) (m - a) (b - m) l
theorem rotate_ok {P : Program} (hm : P.follows .mixedOrders = true) {fz fz' : List Nat} {n : Nat} (hc : compFn P fz n = some c_slices_rotateCmpFunc_Row) (hc' : compFn P fz' 300 = some c_slices_swapRangeCmpFunc_Row) {α : Type} (F : Fam α) (l : List α) (a m b c : Nat) (za zm zb : Int) (ha : za = a) (hzm : zm = m) (hb : zb = b) (f : Ce) (h1 : a < m) (h2 : m < b) (h3 : b ≤ l.length) (hx : l.length ≤ 34359738368) :
    Ok P n [.c (.sl F.id F.v 0 l.length c), .c (.int .i64 za), .c (.int .i64 zm), .c (.int .i64 zb), .c f] (F.S l) (fun r τ => r = .tup [] ∧ τ = F.S (rotF a m b l)) := by
  refine .of_go hm hc (Nat.le_of_ble_eq_true rfl) ?_
  rw [rotF]
  have e1 : IntKind.i64.wrap (zm - za) = ((m - a : Nat) : Int) := by rw [wrap64 (by omega) (by omega)]; omega
  have e2 : IntKind.i64.wrap (zb - zm) = ((b - m : Nat) : Int) := by rw [wrap64 (by omega) (by omega)]; omega
  repeat' first|refine yaG ?_|(exfalso;omega)|(refine yaS ?_ ?_<;>intro _)
  refine Go.keep [0, 2, 4, 10, 11] (Go.loops (I := fun mm fr τ => ∃ (i j : Nat) (zi zj : Int) (q : List α), mm = i + j ∧ 1 ≤ i ∧ 1 ≤ j ∧ i ≤ m - a ∧ j ≤ b - m ∧ zi = i ∧ zj = j ∧ q.length = l.length ∧ (∃ k, i + j ≤ k ∧ rot m (b - a) (m - a) (b - m) l = rot m k i j q) ∧
    fr = [(0, .c (.sl F.id F.v 0 l.length c)), (2, .c (.int .i64 zm)), (4, .c f), (10, .c (.int .i64 zi)), (11, .c (.int .i64 zj))] ∧ τ = F.S q) ?_ _ _ _ ⟨m - a, b - m, _, _, l, rfl, by omega, by omega, Nat.le_refl _, Nat.le_refl _, e1, e2, rfl, ⟨b - a, by omega, rfl⟩, rfl, rfl⟩)
  rintro mm fr τ ⟨i, j, zi, zj, q, rfl, hi1, hj1, hi, hj, hzi, hzj, hql, ⟨k, hk, hr⟩, rfl, rfl⟩ hrec
  obtain ⟨k, rfl⟩ : ∃ k', k = k' + 1 := ⟨k - 1, by omega⟩
  rw [rot] at hr
  have e3 : IntKind.i64.wrap (zm - zi) = ((m - i : Nat) : Int) := by rw [wrap64 (by omega) (by omega)]; omega
  by_cases hij : i = j
  · subst hij
    have hzz : zi = zj := by omega
    subst hzz
    rw [if_pos rfl] at hr
    have cs := swapRange_ok hm hc' F q (m - i) m i c (IntKind.i64.wrap (zm - zi)) zm zi e3 hzm hzi f (by omega) (by omega) (by omega)
    rw [hql] at cs
    repeat' first|refine yaG ?_|(exfalso;omega)|(refine yaS ?_ ?_<;>intro _)
    all_goals first
      | (exfalso; omega)
      | skip
    refine .call _ rfl rfl rfl cs ?_
    rintro r τ ⟨rfl, rfl⟩
    repeat' first|refine yaG ?_|(exfalso;omega)|(refine yaS ?_ ?_<;>intro _)
    exact .fin rfl ⟨rfl, by rw [hr]⟩
  · rw [if_neg hij] at hr
    by_cases hlt : j < i
    · rw [if_pos hlt] at hr
      have cs := swapRange_ok hm hc' F q (m - i) m j c (IntKind.i64.wrap (zm - zi)) zm zj e3 hzm hzj f (by omega) (by omega) (by omega)
      rw [hql] at cs
      have e4 : IntKind.i64.wrap (zi - zj) = ((i - j : Nat) : Int) := by rw [wrap64 (by omega) (by omega)]; omega
      repeat' first|refine yaG ?_|(exfalso;omega)|(refine yaS ?_ ?_<;>intro _)
      refine .call _ rfl rfl rfl cs ?_
      rintro r τ ⟨rfl, rfl⟩
      repeat' first|refine yaG ?_|(exfalso;omega)|(refine yaS ?_ ?_<;>intro _)
      exact Go.keep [0, 2, 4, 10, 11] (hrec _ _ _ (by omega) ⟨i - j, j, _, _, _, rfl, by omega, hj1, by omega, hj, e4, hzj, by rw [swR_len]; exact hql, ⟨k, by omega, hr⟩, rfl, rfl⟩)
    · rw [if_neg hlt] at hr
      have e5 : IntKind.i64.wrap (IntKind.i64.wrap (zm + zj) - zi) = ((m + j - i : Nat) : Int) := by rw [wrap64 (n := zm + zj) (by omega) (by omega), wrap64 (by omega) (by omega)]; omega
      have cs := swapRange_ok hm hc' F q (m - i) (m + j - i) i c (IntKind.i64.wrap (zm - zi)) (IntKind.i64.wrap (IntKind.i64.wrap (zm + zj) - zi)) zi e3 e5 hzi f (by omega) (by omega) (by omega)
      rw [hql] at cs
      have e4 : IntKind.i64.wrap (zj - zi) = ((j - i : Nat) : Int) := by rw [wrap64 (by omega) (by omega)]; omega
      repeat' first|refine yaG ?_|(exfalso;omega)|(refine yaS ?_ ?_<;>intro _)
      refine .call _ rfl rfl rfl cs ?_
      rintro r τ ⟨rfl, rfl⟩
      repeat' first|refine yaG ?_|(exfalso;omega)|(refine yaS ?_ ?_<;>intro _)
      exact Go.keep [0, 2, 4, 10, 11] (hrec _ _ _ (by omega) ⟨i, j - i, _, _, _, rfl, hi1, by omega, hi, by omega, hzi, e4, by rw [swR_len]; exact hql, ⟨k, by omega, hr⟩, rfl, rfl⟩)
/-! ### Insertion -/
def ltA {α : Type} (c : α → α → Int) (l : List α) (i j : Nat) : Bool := match l[i]?, l[j]? with
  | some x, some y => decide (c x y < 0)
  | _, _ => false
theorem ltA_eq {α : Type} {c : α → α → Int} {l : List α} {i j : Nat} (hi : i < l.length) (hj : j < l.length) : ltA c l i j = decide (c l[i] l[j] < 0) := by
  rw [ltA, List.getElem?_eq_getElem hi, List.getElem?_eq_getElem hj]
def insIn {α : Type} (c : α → α → Int) (a : Nat) : Nat → List α → List α
  | 0, l => l
  | j + 1, l => if a < j + 1 ∧ ltA c l (j + 1) j = true then insIn c a j (sw l (j + 1) j) else l
def insOut {α : Type} (c : α → α → Int) (a : Nat) : Nat → Nat → List α → List α
  | 0, _, l => l
  | n + 1, i, l => insOut c a n (i + 1) (insIn c a i l)
theorem insIn_len {α : Type} {c : α → α → Int} {a : Nat} : ∀ {j : Nat} {l : List α}, (insIn c a j l).length = l.length
  | 0, l => rfl
  | j + 1, l => by
    rw [insIn]
    split
    · rw [insIn_len, sw_len]
    · rfl
theorem insIn_mem {α : Type} {c : α → α → Int} {a : Nat} {x : α} : ∀ {j : Nat} {l : List α}, x ∈ insIn c a j l → x ∈ l
  | 0, l, h => h
  | j + 1, l, h => by
    rw [insIn] at h
    split at h
    · exact sw_mem (insIn_mem h)
    · exact h
theorem insOut_len {α : Type} {c : α → α → Int} {a : Nat} : ∀ {n i : Nat} {l : List α}, (insOut c a n i l).length = l.length
  | 0, _, l => rfl
  | n + 1, i, l => by rw [insOut, insOut_len, insIn_len]
theorem insOut_mem {α : Type} {c : α → α → Int} {a : Nat} {x : α} : ∀ {n i : Nat} {l : List α}, x ∈ insOut c a n i l → x ∈ l
  | 0, _, l, h => h
  | n + 1, i, l, h => insIn_mem (insOut_mem (by rwa [insOut] at h))
def insF {α : Type} (c : α → α → Int) (a b : Nat) (l : List α) : List α := insOut c a (b - (a + 1)) (a + 1) l
/-- What the order's function does, while the elements are moved about. -/
def Cmps {α : Type} (P : Program) (F : Fam α) (D : α → Prop) (c : α → α → Int) (g : Nat) (pre cap : List Ce) : Prop :=
  ∀ (q : List α) (x y : α), D x → D y → Ok P g (pre.map .c ++ [.agg (F.ce x), .agg (F.ce y)] ++ cap.map .c) (F.S q) (fun r τ => r = .c (.int .i64 (c x y)) ∧ τ = F.S q)
theorem insertion_ok {P : Program} (hm : P.follows .mixedOrders = true) {fz : List Nat} {n : Nat} (hc : compFn P fz n = some c_slices_insertionSortCmpFunc_Row) {α : Type} (F : Fam α) (D : α → Prop) (co : α → α → Int) (g : Nat) (pre cap : List Ce) (hcmp : Cmps P F D co g pre cap) (l : List α) (a b c : Nat) (za zb : Int) (ha : za = a) (hb : zb = b) (hD : ∀ x ∈ l, D x) (h3 : b ≤ l.length) (hab : a ≤ b) (hx : l.length ≤ 34359738368) :
    Ok P n [.c (.sl F.id F.v 0 l.length c), .c (.int .i64 za), .c (.int .i64 zb), .c (.fn g pre cap)] (F.S l) (fun r τ => r = .tup [] ∧ τ = F.S (insF co a b l)) := by
  refine .of_go hm hc (Nat.le_of_ble_eq_true rfl) ?_
  rw [insF]
  have e1 : IntKind.i64.wrap (za + 1) = ((a + 1 : Nat) : Int) := by rw [wrap64 (by omega) (by omega)]; omega
  repeat' first|refine yaG ?_|(exfalso;omega)|(refine yaS ?_ ?_<;>intro _)
  refine Go.keep [0, 1, 2, 3, 8] (Go.loops (I := fun mm fr τ => ∃ (i : Nat) (z : Int) (q : List α), mm = b - i ∧ a + 1 ≤ i ∧ z = i ∧ q.length = l.length ∧ (∀ x ∈ q, D x) ∧ insOut co a (b - (a + 1)) (a + 1) l = insOut co a (b - i) i q ∧
    fr = [(0, .c (.sl F.id F.v 0 l.length c)), (1, .c (.int .i64 za)), (2, .c (.int .i64 zb)), (3, .c (.fn g pre cap)), (8, .c (.int .i64 z))] ∧ τ = F.S q) ?_ _ _ _ ⟨a + 1, _, l, rfl, Nat.le_refl _, e1, rfl, hD, rfl, rfl, rfl⟩)
  rintro mm fr τ ⟨i, z, q, rfl, hai, hz, hql, hqD, hr, rfl, rfl⟩ hrec
  by_cases hlt : i < b
  · rw [show b - i = (b - (i + 1)) + 1 by omega, insOut] at hr
    repeat' first|refine yaG ?_|(exfalso;omega)|(refine yaS ?_ ?_<;>intro _)
    refine Go.keep [0, 1, 2, 3, 8, 9] (Go.loops (I := fun mm fr τ => ∃ (j : Nat) (zj : Int) (u : List α), mm = j ∧ j ≤ i ∧ a ≤ j ∧ zj = j ∧ u.length = l.length ∧ (∀ x ∈ u, D x) ∧ insIn co a i q = insIn co a j u ∧
      fr = [(0, .c (.sl F.id F.v 0 l.length c)), (1, .c (.int .i64 za)), (2, .c (.int .i64 zb)), (3, .c (.fn g pre cap)), (8, .c (.int .i64 z)), (9, .c (.int .i64 zj))] ∧ τ = F.S u) ?_ _ _ _ ⟨i, _, q, rfl, Nat.le_refl _, by omega, hz, hql, hqD, rfl, rfl, rfl⟩)
    rintro mm fr τ ⟨j, zj, u, hmm, hji, haj, hzj, hul, huD, hin, rfl, rfl⟩ hrecj
    have out : ∀ fr τ, fr = [(0, AV.c (.sl F.id F.v 0 l.length c)), (1, .c (.int .i64 za)), (2, .c (.int .i64 zb)), (3, .c (.fn g pre cap)), (8, .c (.int .i64 (IntKind.i64.wrap (z + 1))))] → τ = F.S (insIn co a i q) → _ := fun fr τ p1 p2 =>
      hrec (b - (i + 1)) fr τ (by omega) ⟨i + 1, _, insIn co a i q, rfl, by omega, wrap_succ hz (by omega), by rw [insIn_len]; exact hql, fun x hx => hqD x (insIn_mem hx), hr, p1, p2⟩
    clear hrec
    by_cases hj : a < j
    · obtain ⟨j, rfl⟩ : ∃ j', j = j' + 1 := ⟨j - 1, by omega⟩
      rw [insIn] at hin
      have hj1 : j + 1 < u.length := by omega
      have hj0 : j < u.length := by omega
      have e2 : IntKind.i64.wrap (zj - 1) = (j : Int) := by rw [wrap64 (by omega) (by omega)]; omega
      have cc := hcmp u u[j + 1] u[j] (huD _ (List.getElem_mem hj1)) (huD _ (List.getElem_mem hj0))
      rw [ltA_eq hj1 hj0] at hin
      repeat' first|refine yaG ?_|((first|apply yG|apply yH|apply yI);exact rfl;(first|exact aop_si rfl rfl hzj hul.symm hj1|exact aop_si rfl rfl e2 hul.symm hj0|exact aop_sl rfl hj1|exact aop_sl rfl hj0))|(exfalso;omega)|(refine yaS ?_ ?_<;>intro _)
      refine Go.scall _ rfl rfl rfl cc ?_
      rintro r τ ⟨rfl, rfl⟩
      generalize hco : co u[j + 1] u[j] = o at hin
      by_cases ho : o < 0
      · rw [if_pos ⟨hj, decide_eq_true ho⟩, sw_eq hj1 hj0] at hin
        repeat' first|(apply yA;exact rfl)|apply yC|((first|apply yD|apply yE);(first|exact yF|assumption);iterate 6 exact rfl)|((first|apply yG|apply yH|apply yI);exact rfl;(first|exact yJ|exact yK rfl rfl|exact yL rfl|exact yM rfl|exact rfl|exact aL rfl rfl rfl rfl rfl|exact aS rfl rfl rfl rfl rfl rfl rfl))|((first|apply yN|apply yO|apply yP);exact rfl)|(exfalso;omega)|(((first|apply yT|apply yU|apply yV|apply yW);exact rfl;(first|exact .d|exact .e|exact .n|((fail_if_success exact bqt);(fail_if_success exact bqf);exact .b)))<;>intro _)
        all_goals first
          | (exfalso; omega)
          | skip
        refine Go.qw (fun F' τ => Go P (F.S l).next _ _ _ (.segs _ :: _) F' τ) ?_ fun _ _ h => h
        repeat' first|(apply Qw.op;exact rfl;exact fun _ => rfl)|(apply Qw.rd;exact rfl;exact rfl;first|exact aop_si rfl rfl hzj hul.symm hj1|exact aop_si rfl rfl e2 hul.symm hj0|exact aop_sl rfl hj1|exact aop_sl rfl hj0)|(apply Qw.wr;exact rfl;exact rfl;exact aop_ss rfl rfl hj1)|apply Qw.nil
        repeat' first|refine yaG ?_|((first|apply yG|apply yH|apply yI);exact rfl;(first|exact aop_si rfl rfl e2 (by rw [List.length_set];exact hul.symm) (by rw [List.length_set];exact hj0)|exact aop_ss rfl rfl (by rw [List.length_set];exact hj0)))|(exfalso;omega)|(refine yaS ?_ ?_<;>intro _)
        refine Go.keep [0, 1, 2, 3, 8, 9] (hrecj _ _ _ (by omega) ⟨j, _, _, rfl, by omega, by omega, e2, ?_, fun x hx => ?_, hin, rfl, rfl⟩)
        · simp [hul]
        · rw [← sw_eq hj1 hj0] at hx
          exact huD x (sw_mem hx)
      · rw [if_neg (by simp [ho])] at hin
        repeat' first|refine yaG ?_|(exfalso;omega)|(refine yaS ?_ ?_<;>intro _)
        all_goals first
          | (exfalso; omega)
          | skip
        exact Go.keep [0, 1, 2, 3, 8] (out _ _ rfl (by rw [hin]))
    · have hja : insIn co a j u = u := by
        cases j with
        | zero => rfl
        | succ j => rw [insIn, if_neg (fun h => hj h.1)]
      rw [hja] at hin
      repeat' first|refine yaG ?_|(exfalso;omega)|(refine yaS ?_ ?_<;>intro _)
      exact Go.keep [0, 1, 2, 3, 8] (out _ _ rfl (by rw [hin]))
  · repeat' first|refine yaG ?_|(exfalso;omega)|(refine yaS ?_ ?_<;>intro _)
    rw [show b - i = 0 by omega, insOut] at hr
    exact .fin rfl ⟨rfl, by rw [hr]⟩
end Go.Proofs.YtinbdedlmkjokaaGreat.Am

/- Sorting in place: merging. Plain part, and the three searches. -/
set_option linter.unusedVariables false
set_option linter.unusedSimpArgs false
namespace Go.Proofs.YtinbdedlmkjokaaGreat.Am

def bs (p : Nat → Bool) : Nat → Nat → Nat → Nat
  | 0, i, _ => i
  | n + 1, i, j => if i < j then (if p ((i + j) / 2) then bs p n ((i + j) / 2 + 1) j else bs p n i ((i + j) / 2)) else i
theorem bs_in {p : Nat → Bool} : ∀ {n i j : Nat}, i ≤ j → i ≤ bs p n i j ∧ bs p n i j ≤ j
  | 0, i, j, h => ⟨Nat.le_refl _, h⟩
  | n + 1, i, j, h => by
    rw [bs]
    split
    · split
      · have := bs_in (p := p) (n := n) (i := (i + j) / 2 + 1) (j := j) (by omega)
        omega
      · have := bs_in (p := p) (n := n) (i := i) (j := (i + j) / 2) (by omega)
        omega
    · omega
theorem bs_end {p : Nat → Bool} {n i j : Nat} (h : ¬ i < j) : bs p n i j = i := by
  cases n with
  | zero => rfl
  | succ n => rw [bs, if_neg h]
theorem half_eq {z : Int} {k : Nat} (hz : z = (k : Int)) (hk : k ≤ 1099511627776) : IntKind.i64.wrap ((IntKind.u64.wrap z).fdiv (2 ^ (min (1 : Int).toNat IntKind.u64.bits))) = ((k / 2 : Nat) : Int) := by
  have h1 : IntKind.u64.wrap z = (k : Int) := by
    rw [hz]
    simp only [IntKind.wrap]
    simp [IntKind.bits, IntKind.signed]
    omega
  rw [h1]
  have h2 : ((2 : Int) ^ (min (1 : Int).toNat IntKind.u64.bits)) = 2 := rfl
  rw [h2, Int.fdiv_eq_ediv_of_nonneg _ (by decide), wrap64 (by omega) (by omega)]
  omega
def shU {α : Type} : Nat → Nat → List α → List α
  | 0, _, l => l
  | n + 1, k, l => shU n (k + 1) (sw l k (k + 1))
def shD {α : Type} : Nat → Nat → List α → List α
  | 0, _, l => l
  | n + 1, k, l => shD n (k - 1) (sw l k (k - 1))
theorem shU_len {α : Type} : ∀ {n k : Nat} {l : List α}, (shU n k l).length = l.length
  | 0, _, l => rfl
  | n + 1, k, l => by rw [shU, shU_len, sw_len]
theorem shD_len {α : Type} : ∀ {n k : Nat} {l : List α}, (shD n k l).length = l.length
  | 0, _, l => rfl
  | n + 1, k, l => by rw [shD, shD_len, sw_len]
theorem shU_mem {α : Type} {x : α} : ∀ {n k : Nat} {l : List α}, x ∈ shU n k l → x ∈ l
  | 0, _, l, h => h
  | n + 1, k, l, h => sw_mem (shU_mem (by rwa [shU] at h))
theorem shD_mem {α : Type} {x : α} : ∀ {n k : Nat} {l : List α}, x ∈ shD n k l → x ∈ l
  | 0, _, l, h => h
  | n + 1, k, l, h => sw_mem (shD_mem (by rwa [shD] at h))
def symStart {α : Type} (c : α → α → Int) (a m b : Nat) (l : List α) : Nat :=
  if (a + b) / 2 < m then bs (fun h => !ltA c l ((a + b) / 2 + m - 1 - h) h) (b - m) ((a + b) / 2 + m - b) ((a + b) / 2)
  else bs (fun h => !ltA c l ((a + b) / 2 + m - 1 - h) h) (m - a) a m
def sym {α : Type} (c : α → α → Int) : Nat → Nat → Nat → Nat → List α → List α
  | 0, _, _, _, l => l
  | n + 1, a, m, b, l =>
    if m - a = 1 then shU (bs (fun h => ltA c l h a) (b - m) m b - 1 - a) a l
    else if b - m = 1 then shD (m - bs (fun h => !ltA c l m h) (m - a) a m) m l
    else
      let s := symStart c a m b l
      let e := (a + b) / 2 + m - s
      let l1 := if s < m ∧ m < e then rotF s m e l else l
      let l2 := if a < s ∧ s < (a + b) / 2 then sym c n a s ((a + b) / 2) l1 else l1
      if (a + b) / 2 < e ∧ e < b then sym c n ((a + b) / 2) e b l2 else l2
theorem sym_len {α : Type} {c : α → α → Int} : ∀ {n a m b : Nat} {l : List α}, (sym c n a m b l).length = l.length
  | 0, _, _, _, l => rfl
  | n + 1, a, m, b, l => by
    rw [sym]
    split
    · exact shU_len
    · split
      · exact shD_len
      · simp only
        have h1 : ∀ q : List α, (if symStart c a m b l < m ∧ m < (a + b) / 2 + m - symStart c a m b l then rotF (symStart c a m b l) m ((a + b) / 2 + m - symStart c a m b l) l else l) = q → q.length = l.length := fun q h => by
          rw [← h]
          split
          · exact rot_len
          · rfl
        generalize (if symStart c a m b l < m ∧ m < (a + b) / 2 + m - symStart c a m b l then rotF (symStart c a m b l) m ((a + b) / 2 + m - symStart c a m b l) l else l) = q at h1 ⊢
        have h1 := h1 q rfl
        split <;> split <;> simp only [sym_len, h1]
theorem sym_mem {α : Type} {c : α → α → Int} {x : α} : ∀ {n a m b : Nat} {l : List α}, x ∈ sym c n a m b l → x ∈ l
  | 0, _, _, _, l, h => h
  | n + 1, a, m, b, l, h => by
    rw [sym] at h
    split at h
    · exact shU_mem h
    · split at h
      · exact shD_mem h
      · simp only at h
        have h1 : ∀ q : List α, (if symStart c a m b l < m ∧ m < (a + b) / 2 + m - symStart c a m b l then rotF (symStart c a m b l) m ((a + b) / 2 + m - symStart c a m b l) l else l) = q → x ∈ q → x ∈ l := fun q h => by
          rw [← h]
          split
          · exact rot_mem
          · exact id
        generalize (if symStart c a m b l < m ∧ m < (a + b) / 2 + m - symStart c a m b l then rotF (symStart c a m b l) m ((a + b) / 2 + m - symStart c a m b l) l else l) = q at h1 h
        have h1 := h1 q rfl
        split at h <;> split at h
        · exact h1 (sym_mem (sym_mem h))
        · exact h1 (sym_mem h)
        · exact h1 (sym_mem h)
        · exact h1 h
end Go.Proofs.YtinbdedlmkjokaaGreat.Am

/- Sorting in place: merging, one element against many. -/
set_option linter.unusedVariables false
set_option linter.unusedSimpArgs false
namespace Go.Proofs.YtinbdedlmkjokaaGreat.Am

theorem symA_ok {P : Program} (hm : P.follows .mixedOrders = true) {fz : List Nat} {n : Nat} (hc : compFn P fz n = some c_slices_symMergeCmpFunc_Row) {α : Type} (F : Fam α) (D : α → Prop) (co : α → α → Int) (g : Nat) (pre cap : List Ce) (hcmp : Cmps P F D co g pre cap) (l : List α) (a m b c : Nat) (za zm zb : Int) (ha : za = a) (hzm : zm = m) (hb : zb = b) (hD : ∀ x ∈ l, D x) (h3 : b ≤ l.length) (hab : a < m) (hmb : m < b) (hx : l.length ≤ 34359738368) (h1 : m - a = 1) :
    Ok P n [.c (.sl F.id F.v 0 l.length c), .c (.int .i64 za), .c (.int .i64 zm), .c (.int .i64 zb), .c (.fn g pre cap)] (F.S l) (fun r τ => r = .tup [] ∧ τ = F.S (shU (bs (fun h => ltA co l h a) (b - m) m b - 1 - a) a l)) := by
  refine .of_go hm hc (Nat.le_of_ble_eq_true rfl) ?_
  have e1 : IntKind.i64.wrap (zm - za) = 1 := by rw [wrap64 (by omega) (by omega)]; omega
  have hal : a < l.length := by omega
  repeat' first|refine yaG ?_|(exfalso;omega)|(refine yaS ?_ ?_<;>intro _)
  all_goals first
    | (exfalso; omega)
    | skip
  obtain ⟨p, hp⟩ : ∃ p : Nat → Bool, p = fun h => ltA co l h a := ⟨_, rfl⟩
  rw [← hp]
  refine Go.keep [0, 1, 2, 3, 4, 10, 11] (Go.loops (I := fun mm fr τ => ∃ (i j : Nat) (zi zj : Int), mm = j - i ∧ m ≤ i ∧ i ≤ j ∧ j ≤ b ∧ zi = i ∧ zj = j ∧ (∃ k, j - i ≤ k ∧ bs p (b - m) m b = bs p k i j) ∧
    fr = [(0, .c (.sl F.id F.v 0 l.length c)), (1, .c (.int .i64 za)), (2, .c (.int .i64 zm)), (3, .c (.int .i64 zb)), (4, .c (.fn g pre cap)), (10, .c (.int .i64 zi)), (11, .c (.int .i64 zj))] ∧ τ = F.S l) ?_ _ _ _ ⟨m, b, _, _, rfl, Nat.le_refl _, by omega, Nat.le_refl _, hzm, hb, ⟨b - m, Nat.le_refl _, rfl⟩, rfl, rfl⟩)
  rintro mm fr τ ⟨i, j, zi, zj, hmm, hmi, hij, hjb, hzi, hzj, ⟨k, hk, hbs⟩, rfl, rfl⟩ hrec
  by_cases hlt : i < j
  · obtain ⟨k, rfl⟩ : ∃ k', k = k' + 1 := ⟨k - 1, by omega⟩
    rw [bs, if_pos hlt] at hbs
    have es : IntKind.i64.wrap (zi + zj) = ((i + j : Nat) : Int) := by rw [wrap64 (by omega) (by omega)]; omega
    have eh := half_eq es (by omega)
    have hh : (i + j) / 2 < l.length := by omega
    have hpv : p ((i + j) / 2) = decide (co l[(i + j) / 2] l[a] < 0) := by rw [hp]; exact ltA_eq hh hal
    have cc := hcmp l l[(i + j) / 2] l[a] (hD _ (List.getElem_mem hh)) (hD _ (List.getElem_mem hal))
    rw [hpv] at hbs
    generalize co l[(i + j) / 2] l[a] = o at cc hbs
    repeat' first|refine yaG ?_|((first|apply yG|apply yH|apply yI);exact rfl;(first|exact aop_si rfl rfl eh rfl hh|exact aop_si rfl rfl ha rfl hal|exact aop_sl rfl hh|exact aop_sl rfl hal))|(exfalso;omega)|(refine yaS ?_ ?_<;>intro _)
    refine Go.scall _ rfl rfl rfl cc ?_
    rintro r τ ⟨rfl, rfl⟩
    repeat' first|refine yaG ?_|(exfalso;omega)|(refine yaS ?_ ?_<;>intro _)
    · rename_i ho
      rw [if_pos (decide_eq_true ho)] at hbs
      exact Go.keep [0, 1, 2, 3, 4, 10, 11] (hrec _ _ _ (by omega) ⟨(i + j) / 2 + 1, j, _, _, rfl, by omega, by omega, hjb, wrap_succ eh (by omega), hzj, ⟨k, by omega, hbs⟩, rfl, rfl⟩)
    · rename_i ho
      rw [if_neg (by simp [ho])] at hbs
      exact Go.keep [0, 1, 2, 3, 4, 10, 11] (hrec _ _ _ (by omega) ⟨i, (i + j) / 2, _, _, rfl, hmi, by omega, by omega, hzi, eh, ⟨k, by omega, hbs⟩, rfl, rfl⟩)
  · rw [bs_end hlt] at hbs
    rw [hbs]
    clear hrec hbs hp
    have e2 : IntKind.i64.wrap (zi - 1) = ((i - 1 : Nat) : Int) := by rw [wrap64 (by omega) (by omega)]; omega
    repeat' first|refine yaG ?_|(exfalso;omega)|(refine yaS ?_ ?_<;>intro _)
    refine Go.keep [0, 10, 13] (Go.loops (I := fun mm fr τ => ∃ (k : Nat) (z : Int) (q : List α), mm = i - k ∧ k ≤ i - 1 ∧ z = k ∧ q.length = l.length ∧ shU (i - 1 - a) a l = shU (i - 1 - k) k q ∧
      fr = [(0, .c (.sl F.id F.v 0 l.length c)), (10, .c (.int .i64 zi)), (13, .c (.int .i64 z))] ∧ τ = F.S q) ?_ _ _ _ ⟨a, _, l, rfl, by omega, ha, rfl, rfl, rfl, rfl⟩)
    rintro mm fr τ ⟨k, z, q, hmm, hki, hz, hql, hsh, rfl, rfl⟩ hrec
    by_cases hk : k < i - 1
    · have hk0 : k < q.length := by omega
      have hk1 : k + 1 < q.length := by omega
      have e3 : IntKind.i64.wrap (z + 1) = ((k + 1 : Nat) : Int) := wrap_succ hz (by omega)
      rw [show i - 1 - k = (i - 1 - (k + 1)) + 1 by omega, shU, sw_eq hk0 hk1] at hsh
      repeat' first|(apply yA;exact rfl)|apply yC|((first|apply yD|apply yE);(first|exact yF|assumption);iterate 6 exact rfl)|((first|apply yG|apply yH|apply yI);exact rfl;(first|exact yJ|exact yK rfl rfl|exact yL rfl|exact yM rfl|exact rfl|exact aL rfl rfl rfl rfl rfl|exact aS rfl rfl rfl rfl rfl rfl rfl))|((first|apply yN|apply yO|apply yP);exact rfl)|(exfalso;omega)|(((first|apply yT|apply yU|apply yV|apply yW);exact rfl;(first|exact .d|exact .e|exact .n|((fail_if_success exact bqt);(fail_if_success exact bqf);exact .b)))<;>intro _)
      refine Go.qw (fun F' τ => Go P (F.S l).next _ _ _ (.segs _ :: _) F' τ) ?_ fun _ _ h => h
      repeat' first|(apply Qw.op;exact rfl;exact fun _ => rfl)|(apply Qw.rd;exact rfl;exact rfl;first|exact aop_si rfl rfl hz hql.symm hk0|exact aop_si rfl rfl e3 hql.symm hk1|exact aop_sl rfl hk0|exact aop_sl rfl hk1)|(apply Qw.wr;exact rfl;exact rfl;exact aop_ss rfl rfl hk0)|apply Qw.nil
      repeat' first|refine yaG ?_|((first|apply yG|apply yH|apply yI);exact rfl;(first|exact aop_si rfl rfl e3 (by rw [List.length_set];exact hql.symm) (by rw [List.length_set];exact hk1)|exact aop_ss rfl rfl (by rw [List.length_set];exact hk1)))|(exfalso;omega)|(refine yaS ?_ ?_<;>intro _)
      refine Go.keep [0, 10, 13] (hrec _ _ _ (by omega) ⟨k + 1, _, _, rfl, by omega, e3, ?_, hsh, rfl, rfl⟩)
      simp [hql]
    · repeat' first|refine yaG ?_|(exfalso;omega)|(refine yaS ?_ ?_<;>intro _)
      rw [show i - 1 - k = 0 by omega, shU] at hsh
      exact .ret rfl ⟨rfl, by rw [hsh]⟩
theorem symB_ok {P : Program} (hm : P.follows .mixedOrders = true) {fz : List Nat} {n : Nat} (hc : compFn P fz n = some c_slices_symMergeCmpFunc_Row) {α : Type} (F : Fam α) (D : α → Prop) (co : α → α → Int) (g : Nat) (pre cap : List Ce) (hcmp : Cmps P F D co g pre cap) (l : List α) (a m b c : Nat) (za zm zb : Int) (ha : za = a) (hzm : zm = m) (hb : zb = b) (hD : ∀ x ∈ l, D x) (h3 : b ≤ l.length) (hab : a < m) (hmb : m < b) (hx : l.length ≤ 34359738368) (h1 : ¬ m - a = 1) (h2 : b - m = 1) :
    Ok P n [.c (.sl F.id F.v 0 l.length c), .c (.int .i64 za), .c (.int .i64 zm), .c (.int .i64 zb), .c (.fn g pre cap)] (F.S l) (fun r τ => r = .tup [] ∧ τ = F.S (shD (m - bs (fun h => !ltA co l m h) (m - a) a m) m l)) := by
  refine .of_go hm hc (Nat.le_of_ble_eq_true rfl) ?_
  have e1 : ¬ IntKind.i64.wrap (zm - za) = 1 := by rw [wrap64 (by omega) (by omega)]; omega
  have e2 : IntKind.i64.wrap (zb - zm) = 1 := by rw [wrap64 (by omega) (by omega)]; omega
  have hml : m < l.length := by omega
  repeat' first|refine yaG ?_|(exfalso;omega)|(refine yaS ?_ ?_<;>intro _)
  all_goals first
    | (exfalso; omega)
    | skip
  obtain ⟨p, hp⟩ : ∃ p : Nat → Bool, p = fun h => !ltA co l m h := ⟨_, rfl⟩
  rw [← hp]
  refine Go.keep [0, 1, 2, 3, 4, 14, 15] (Go.loops (I := fun mm fr τ => ∃ (i j : Nat) (zi zj : Int), mm = j - i ∧ a ≤ i ∧ i ≤ j ∧ j ≤ m ∧ zi = i ∧ zj = j ∧ (∃ k, j - i ≤ k ∧ bs p (m - a) a m = bs p k i j) ∧
    fr = [(0, .c (.sl F.id F.v 0 l.length c)), (1, .c (.int .i64 za)), (2, .c (.int .i64 zm)), (3, .c (.int .i64 zb)), (4, .c (.fn g pre cap)), (14, .c (.int .i64 zi)), (15, .c (.int .i64 zj))] ∧ τ = F.S l) ?_ _ _ _ ⟨a, m, _, _, rfl, Nat.le_refl _, by omega, Nat.le_refl _, ha, hzm, ⟨m - a, Nat.le_refl _, rfl⟩, rfl, rfl⟩)
  rintro mm fr τ ⟨i, j, zi, zj, hmm, hmi, hij, hjb, hzi, hzj, ⟨k, hk, hbs⟩, rfl, rfl⟩ hrec
  by_cases hlt : i < j
  · obtain ⟨k, rfl⟩ : ∃ k', k = k' + 1 := ⟨k - 1, by omega⟩
    rw [bs, if_pos hlt] at hbs
    have es : IntKind.i64.wrap (zi + zj) = ((i + j : Nat) : Int) := by rw [wrap64 (by omega) (by omega)]; omega
    have eh := half_eq es (by omega)
    have hh : (i + j) / 2 < l.length := by omega
    have hpv : p ((i + j) / 2) = !decide (co l[m] l[(i + j) / 2] < 0) := by rw [hp]; exact congrArg _ (ltA_eq hml hh)
    have cc := hcmp l l[m] l[(i + j) / 2] (hD _ (List.getElem_mem hml)) (hD _ (List.getElem_mem hh))
    rw [hpv] at hbs
    generalize co l[m] l[(i + j) / 2] = o at cc hbs
    repeat' first|refine yaG ?_|((first|apply yG|apply yH|apply yI);exact rfl;(first|exact aop_si rfl rfl eh rfl hh|exact aop_si rfl rfl hzm rfl hml|exact aop_sl rfl hh|exact aop_sl rfl hml))|(exfalso;omega)|(refine yaS ?_ ?_<;>intro _)
    refine Go.scall _ rfl rfl rfl cc ?_
    rintro r τ ⟨rfl, rfl⟩
    by_cases ho : o < 0
    · rw [if_neg (by simp [ho])] at hbs
      repeat' first|refine yaG ?_|(exfalso;omega)|(refine yaS ?_ ?_<;>intro _)
      all_goals first
        | exact Go.keep [0, 1, 2, 3, 4, 14, 15] (hrec _ _ _ (by omega) ⟨i, (i + j) / 2, _, _, rfl, hmi, by omega, by omega, hzi, eh, ⟨k, by omega, hbs⟩, rfl, rfl⟩)
        | (exfalso; simp_all; done)
        | (exfalso; simp_all; omega)
    · rw [if_pos (by simp [ho])] at hbs
      repeat' first|refine yaG ?_|(exfalso;omega)|(refine yaS ?_ ?_<;>intro _)
      all_goals first
        | exact Go.keep [0, 1, 2, 3, 4, 14, 15] (hrec _ _ _ (by omega) ⟨(i + j) / 2 + 1, j, _, _, rfl, by omega, by omega, hjb, wrap_succ eh (by omega), hzj, ⟨k, by omega, hbs⟩, rfl, rfl⟩)
        | (exfalso; simp_all; done)
        | (exfalso; simp_all; omega)
  · rw [bs_end hlt] at hbs
    rw [hbs]
    clear hrec hbs hp
    repeat' first|refine yaG ?_|(exfalso;omega)|(refine yaS ?_ ?_<;>intro _)
    refine Go.keep [0, 14, 17] (Go.loops (I := fun mm fr τ => ∃ (k : Nat) (z : Int) (q : List α), mm = k - i ∧ i ≤ k ∧ k ≤ m ∧ z = k ∧ q.length = l.length ∧ shD (m - i) m l = shD (k - i) k q ∧
      fr = [(0, .c (.sl F.id F.v 0 l.length c)), (14, .c (.int .i64 zi)), (17, .c (.int .i64 z))] ∧ τ = F.S q) ?_ _ _ _ ⟨m, _, l, rfl, by omega, Nat.le_refl _, hzm, rfl, rfl, rfl, rfl⟩)
    rintro mm fr τ ⟨k, z, q, hmm, hki, hkm, hz, hql, hsh, rfl, rfl⟩ hrec
    by_cases hk : i < k
    · have hk0 : k < q.length := by omega
      have hk1 : k - 1 < q.length := by omega
      have e3 : IntKind.i64.wrap (z - 1) = ((k - 1 : Nat) : Int) := by rw [wrap64 (by omega) (by omega)]; omega
      rw [show k - i = (k - 1 - i) + 1 by omega, shD, sw_eq hk0 hk1] at hsh
      repeat' first|(apply yA;exact rfl)|apply yC|((first|apply yD|apply yE);(first|exact yF|assumption);iterate 6 exact rfl)|((first|apply yG|apply yH|apply yI);exact rfl;(first|exact yJ|exact yK rfl rfl|exact yL rfl|exact yM rfl|exact rfl|exact aL rfl rfl rfl rfl rfl|exact aS rfl rfl rfl rfl rfl rfl rfl))|((first|apply yN|apply yO|apply yP);exact rfl)|(exfalso;omega)|(((first|apply yT|apply yU|apply yV|apply yW);exact rfl;(first|exact .d|exact .e|exact .n|((fail_if_success exact bqt);(fail_if_success exact bqf);exact .b)))<;>intro _)
      refine Go.qw (fun F' τ => Go P (F.S l).next _ _ _ (.segs _ :: _) F' τ) ?_ fun _ _ h => h
      repeat' first|(apply Qw.op;exact rfl;exact fun _ => rfl)|(apply Qw.rd;exact rfl;exact rfl;first|exact aop_si rfl rfl hz hql.symm hk0|exact aop_si rfl rfl e3 hql.symm hk1|exact aop_sl rfl hk0|exact aop_sl rfl hk1)|(apply Qw.wr;exact rfl;exact rfl;exact aop_ss rfl rfl hk0)|apply Qw.nil
      repeat' first|refine yaG ?_|((first|apply yG|apply yH|apply yI);exact rfl;(first|exact aop_si rfl rfl e3 (by rw [List.length_set];exact hql.symm) (by rw [List.length_set];exact hk1)|exact aop_ss rfl rfl (by rw [List.length_set];exact hk1)))|(exfalso;omega)|(refine yaS ?_ ?_<;>intro _)
      refine Go.keep [0, 14, 17] (hrec _ _ _ (by omega) ⟨k - 1, _, _, rfl, by omega, by omega, e3, ?_, hsh, rfl, rfl⟩)
      simp [hql]
    · repeat' first|refine yaG ?_|(exfalso;omega)|(refine yaS ?_ ?_<;>intro _)
      rw [show k - i = 0 by omega, shD] at hsh
      exact .ret rfl ⟨rfl, by rw [hsh]⟩
end Go.Proofs.YtinbdedlmkjokaaGreat.Am

/- Sorting in place: merging, many against many; the whole sort. -/
set_option linter.unusedVariables false
set_option linter.unusedSimpArgs false
namespace Go.Proofs.YtinbdedlmkjokaaGreat.Am

set_option maxHeartbeats 4000000 in
theorem symC_ok {P : Program} (hm : P.follows .mixedOrders = true) {fz fz' fz'' : List Nat} (hc : compFn P fz 234 = some c_slices_symMergeCmpFunc_Row) (hc' : compFn P fz' 285 = some c_slices_rotateCmpFunc_Row) (hc'' : compFn P fz'' 300 = some c_slices_swapRangeCmpFunc_Row)
    {α : Type} (F : Fam α) (D : α → Prop) (co : α → α → Int) (g : Nat) (pre cap : List Ce) (hcmp : Cmps P F D co g pre cap) (N c d : Nat)
    (ih : ∀ (l : List α) (a m b : Nat) (za zm zb : Int), l.length = N → za = a → zm = m → zb = b → (∀ x ∈ l, D x) → b ≤ l.length → a < m → m < b → b - a ≤ d → Ok P 234 [.c (.sl F.id F.v 0 N c), .c (.int .i64 za), .c (.int .i64 zm), .c (.int .i64 zb), .c (.fn g pre cap)] (F.S l) (fun r τ => r = .tup [] ∧ τ = F.S (sym co d a m b l)))
    (l : List α) (a m b : Nat) (za zm zb : Int) (hN : l.length = N) (ha : za = a) (hzm : zm = m) (hb : zb = b) (hD : ∀ x ∈ l, D x) (h3 : b ≤ l.length) (hab : a < m) (hmb : m < b) (hd : b - a ≤ d + 1) (hx : l.length ≤ 34359738368) (h1 : ¬ m - a = 1) (h2 : ¬ b - m = 1) :
    Ok P 234 [.c (.sl F.id F.v 0 N c), .c (.int .i64 za), .c (.int .i64 zm), .c (.int .i64 zb), .c (.fn g pre cap)] (F.S l) (fun r τ => r = .tup [] ∧ τ = F.S (sym co (d + 1) a m b l)) := by
  refine .of_go hm hc (Nat.le_of_ble_eq_true rfl) ?_
  rw [sym, if_neg h1, if_neg h2]
  subst hN
  have e1 : ¬ IntKind.i64.wrap (zm - za) = 1 := by rw [wrap64 (by omega) (by omega)]; omega
  have e2 : ¬ IntKind.i64.wrap (zb - zm) = 1 := by rw [wrap64 (by omega) (by omega)]; omega
  have es : IntKind.i64.wrap (za + zb) = ((a + b : Nat) : Int) := by rw [wrap64 (by omega) (by omega)]; omega
  have emid := half_eq es (by omega)
  obtain ⟨zmid, hzmid⟩ : ∃ z, z = IntKind.i64.wrap ((IntKind.u64.wrap (IntKind.i64.wrap (za + zb))).fdiv (2 ^ (min (1 : Int).toNat IntKind.u64.bits))) := ⟨_, rfl⟩
  rw [← hzmid] at emid
  obtain ⟨mid, hmid⟩ : ∃ k, k = (a + b) / 2 := ⟨_, rfl⟩
  rw [← hmid] at emid
  have en : IntKind.i64.wrap (zmid + zm) = ((mid + m : Nat) : Int) := by rw [wrap64 (by omega) (by omega)]; omega
  have ep : IntKind.i64.wrap (IntKind.i64.wrap (zmid + zm) - 1) = ((mid + m - 1 : Nat) : Int) := by rw [en, wrap64 (by omega) (by omega)]; omega
  obtain ⟨p, hp⟩ : ∃ p : Nat → Bool, p = fun h => !ltA co l (mid + m - 1 - h) h := ⟨_, rfl⟩
  obtain ⟨s0, hs0⟩ : ∃ k, k = if mid < m then mid + m - b else a := ⟨_, rfl⟩
  obtain ⟨r0, hr0⟩ : ∃ k, k = if mid < m then mid else m := ⟨_, rfl⟩
  obtain ⟨f0, hf0⟩ : ∃ k, k = if mid < m then b - m else m - a := ⟨_, rfl⟩
  have hst : symStart co a m b l = bs p f0 s0 r0 := by
    rw [symStart, ← hmid, ← hp, hs0, hr0, hf0]
    split <;> rfl
  have hrange : s0 ≤ r0 ∧ r0 ≤ m ∧ r0 ≤ mid ∧ a ≤ s0 ∧ r0 - s0 ≤ f0 ∧ mid + m ≤ s0 + b := by
    rw [hs0, hr0, hf0]
    split <;> omega
  have hbi := bs_in (p := p) (n := f0) hrange.1
  have hes : IntKind.i64.wrap (IntKind.i64.wrap (zmid + zm) - zb) = ((mid + m - b : Nat) : Int) ∨ ¬ mid < m := by
    by_cases h : mid < m
    · left; rw [en, wrap64 (by omega) (by omega)]; omega
    · exact .inr h
  simp only [hst, ← hmid]
  rw [hzmid] at emid en ep hes
  by_cases hq : mid < m
  · have HS : IntKind.i64.wrap (IntKind.i64.wrap (IntKind.i64.wrap ((IntKind.u64.wrap (IntKind.i64.wrap (za + zb))).fdiv (2 ^ (min (1 : Int).toNat IntKind.u64.bits))) + zm) - zb) = (s0 : Int) := by
      rcases hes with h | h
      · rw [h, hs0, if_pos hq]
      · exact absurd hq h
    have HR : IntKind.i64.wrap ((IntKind.u64.wrap (IntKind.i64.wrap (za + zb))).fdiv (2 ^ (min (1 : Int).toNat IntKind.u64.bits))) = (r0 : Int) := by rw [emid, hr0, if_pos hq]
    have hlq : zm > IntKind.i64.wrap ((IntKind.u64.wrap (IntKind.i64.wrap (za + zb))).fdiv (2 ^ (min (1 : Int).toNat IntKind.u64.bits))) := by rw [emid]; omega
    repeat' first|refine yaG ?_|(exfalso;omega)|(refine yaS ?_ ?_<;>intro _)
    all_goals first
      | contradiction
      | skip
    refine Go.keep [0, 1, 2, 3, 4, 18, 19, 20, 21, 22] (Go.loops (I := fun mm fr τ => ∃ (i j : Nat) (zi zj zd zn zp : Int), mm = j - i ∧ s0 ≤ i ∧ i ≤ j ∧ j ≤ r0 ∧ zi = i ∧ zj = j ∧ zd = (mid : Nat) ∧ zn = ((mid + m : Nat) : Int) ∧ zp = ((mid + m - 1 : Nat) : Int) ∧ (∃ k, j - i ≤ k ∧ bs p f0 s0 r0 = bs p k i j) ∧
      fr = [(0, .c (.sl F.id F.v 0 l.length c)), (1, .c (.int .i64 za)), (2, .c (.int .i64 zm)), (3, .c (.int .i64 zb)), (4, .c (.fn g pre cap)), (18, .c (.int .i64 zd)), (19, .c (.int .i64 zn)), (20, .c (.int .i64 zi)), (21, .c (.int .i64 zj)), (22, .c (.int .i64 zp))] ∧ τ = F.S l) ?_ _ _ _ ⟨s0, r0, _, _, _, _, _, rfl, Nat.le_refl _, hrange.1, Nat.le_refl _, HS, HR, emid, en, ep, ⟨f0, hrange.2.2.2.2.1, rfl⟩, rfl, rfl⟩)
    clear emid en ep hes es hzmid
    clear zmid
    rintro mm fr τ ⟨i, j, zi, zj, zd, zn, zp, hmm, hsi, hij, hjr, hzi, hzj, hzd, hzn, hzp, ⟨k, hk, hbs⟩, rfl, rfl⟩ hrec
    by_cases hlt : i < j
    · obtain ⟨k, rfl⟩ : ∃ k', k = k' + 1 := ⟨k - 1, by omega⟩
      rw [bs, if_pos hlt] at hbs
      have es : IntKind.i64.wrap (zi + zj) = ((i + j : Nat) : Int) := by rw [wrap64 (by omega) (by omega)]; omega
      have eh := half_eq es (by omega)
      obtain ⟨h, hh0⟩ : ∃ h, h = (i + j) / 2 := ⟨_, rfl⟩
      rw [← hh0] at eh hbs
      have hh : h < l.length := by omega
      have hph : mid + m - 1 - h < l.length := by omega
      have ev : ∀ z : Int, z = (h : Int) → IntKind.i64.wrap (zp - z) = ((mid + m - 1 - h : Nat) : Int) := fun z hz => by rw [wrap64 (by omega) (by omega)]; omega
      have epc := ev _ eh
      have hpv : p h = !decide (co l[mid + m - 1 - h] l[h] < 0) := by rw [hp]; exact congrArg _ (ltA_eq hph hh)
      have cc := hcmp l l[mid + m - 1 - h] l[h] (hD _ (List.getElem_mem hph)) (hD _ (List.getElem_mem hh))
      rw [hpv] at hbs
      generalize co l[mid + m - 1 - h] l[h] = o at cc hbs
      repeat' first|refine yaG ?_|((first|apply yG|apply yH|apply yI);exact rfl;(first|exact aop_si rfl rfl eh rfl hh|exact aop_si rfl rfl epc rfl hph|exact aop_sl rfl hh|exact aop_sl rfl hph))|(exfalso;omega)|(refine yaS ?_ ?_<;>intro _)
      refine Go.scall _ rfl rfl rfl cc ?_
      rintro r τ ⟨rfl, rfl⟩
      have up : bs p f0 s0 r0 = bs p k (h + 1) j → ∀ fr τ, fr = [(0, AV.c (.sl F.id F.v 0 l.length c)), (1, .c (.int .i64 za)), (2, .c (.int .i64 zm)), (3, .c (.int .i64 zb)), (4, .c (.fn g pre cap)), (18, .c (.int .i64 zd)), (19, .c (.int .i64 zn)), (20, .c (.int .i64 (IntKind.i64.wrap (IntKind.i64.wrap ((IntKind.u64.wrap (IntKind.i64.wrap (zi + zj))).fdiv (2 ^ (min (1 : Int).toNat IntKind.u64.bits))) + 1)))), (21, .c (.int .i64 zj)), (22, .c (.int .i64 zp))] → τ = F.S l → _ := fun e fr τ p1 p2 => hrec (j - (h + 1)) fr τ (by omega) ⟨h + 1, j, _, _, _, _, _, rfl, by omega, by omega, hjr, wrap_succ eh (by omega), hzj, hzd, hzn, hzp, ⟨k, by omega, e⟩, p1, p2⟩
      have dn : bs p f0 s0 r0 = bs p k i h → ∀ fr τ, fr = [(0, AV.c (.sl F.id F.v 0 l.length c)), (1, .c (.int .i64 za)), (2, .c (.int .i64 zm)), (3, .c (.int .i64 zb)), (4, .c (.fn g pre cap)), (18, .c (.int .i64 zd)), (19, .c (.int .i64 zn)), (20, .c (.int .i64 zi)), (21, .c (.int .i64 (IntKind.i64.wrap ((IntKind.u64.wrap (IntKind.i64.wrap (zi + zj))).fdiv (2 ^ (min (1 : Int).toNat IntKind.u64.bits)))))), (22, .c (.int .i64 zp))] → τ = F.S l → _ := fun e fr τ p1 p2 => hrec (h - i) fr τ (by omega) ⟨i, h, _, _, _, _, _, rfl, hsi, by omega, by omega, hzi, eh, hzd, hzn, hzp, ⟨k, by omega, e⟩, p1, p2⟩
      clear hrec eh epc ev
      by_cases ho : o < 0
      · rw [if_neg (by simp [ho])] at hbs
        repeat' first|refine yaG ?_|(exfalso;omega)|(refine yaS ?_ ?_<;>intro _)
        all_goals first
          | exact Go.keep [0, 1, 2, 3, 4, 18, 19, 20, 21, 22] (dn hbs _ _ rfl rfl)
          | (exfalso; simp_all; done)
          | (exfalso; simp_all; omega)
      · rw [if_pos (by simp [ho])] at hbs
        repeat' first|refine yaG ?_|(exfalso;omega)|(refine yaS ?_ ?_<;>intro _)
        all_goals first
          | exact Go.keep [0, 1, 2, 3, 4, 18, 19, 20, 21, 22] (up hbs _ _ rfl rfl)
          | (exfalso; simp_all; done)
          | (exfalso; simp_all; omega)
    · rw [bs_end hlt] at hbs
      rw [hbs] at hbi ⊢
      clear hrec hbs hp hk hst hcmp
      obtain ⟨s, hs⟩ : ∃ s, s = i := ⟨_, rfl⟩
      rw [← hs] at hbi hzi ⊢
      obtain ⟨e, he⟩ : ∃ e, e = mid + m - s := ⟨_, rfl⟩
      rw [← he]
      have eend : IntKind.i64.wrap (zn - zi) = (e : Int) := by rw [wrap64 (by omega) (by omega)]; omega
      by_cases q1 : s < m ∧ m < e
      · rw [if_pos q1]
        have len1 : (rotF s m e l).length = l.length := rot_len
        have D1 : ∀ x ∈ rotF s m e l, D x := fun x hx => hD x (rot_mem hx)
        have cr := rotate_ok hm hc' hc'' F l s m e c zi zm (IntKind.i64.wrap (zn - zi)) hzi hzm eend (.fn g pre cap) q1.1 q1.2 (by omega) hx
        repeat' first|refine yaG ?_|(exfalso;omega)|(refine yaS ?_ ?_<;>intro _)
        all_goals first
          | (exfalso; omega)
          | skip
        refine .call _ rfl rfl rfl cr ?_
        rintro r τ ⟨rfl, rfl⟩
        generalize rotF s m e l = l1 at len1 D1 ⊢
        by_cases q2 : a < s ∧ s < mid
        · rw [if_pos q2]
          have c2 := ih l1 a s mid za zi zd len1 ha hzi hzd D1 (by omega) q2.1 q2.2 (by omega)
          have len2 : (sym co d a s mid l1).length = l.length := sym_len.trans len1
          have D2 : ∀ x ∈ sym co d a s mid l1, D x := fun x hx => D1 x (sym_mem hx)
          repeat' first|refine yaG ?_|(exfalso;omega)|(refine yaS ?_ ?_<;>intro _)
          all_goals first
            | (exfalso; omega)
            | skip
          refine .call _ rfl rfl rfl c2 ?_
          rintro r τ ⟨rfl, rfl⟩
          generalize sym co d a s mid l1 = l2 at len2 D2 ⊢
          by_cases q3 : mid < e ∧ e < b
          · rw [if_pos q3]
            have c3 := ih l2 mid e b zd (IntKind.i64.wrap (zn - zi)) zb len2 hzd eend hb D2 (by omega) q3.1 q3.2 (by omega)
            repeat' first|refine yaG ?_|(exfalso;omega)|(refine yaS ?_ ?_<;>intro _)
            all_goals first
              | (exfalso; omega)
              | skip
            refine .call _ rfl rfl rfl c3 ?_
            rintro r τ ⟨rfl, rfl⟩
            repeat' first|refine yaG ?_|(exfalso;omega)|(refine yaS ?_ ?_<;>intro _)
            exact .fin rfl ⟨rfl, rfl⟩
          · rw [if_neg q3]
            repeat' first|refine yaG ?_|(exfalso;omega)|(refine yaS ?_ ?_<;>intro _)
            all_goals first
              | (exfalso; omega)
              | exact .fin rfl ⟨rfl, rfl⟩
        · rw [if_neg q2]
          by_cases q3 : mid < e ∧ e < b
          · rw [if_pos q3]
            exfalso
            omega
          · rw [if_neg q3]
            repeat' first|refine yaG ?_|(exfalso;omega)|(refine yaS ?_ ?_<;>intro _)
            all_goals first
              | (exfalso; omega)
              | exact .fin rfl ⟨rfl, rfl⟩
      · rw [if_neg q1]
        have len1 : l.length = l.length := rfl
        by_cases q2 : a < s ∧ s < mid
        · rw [if_pos q2]
          exfalso
          omega
        · rw [if_neg q2]
          by_cases q3 : mid < e ∧ e < b
          · rw [if_pos q3]
            have c3 := ih l mid e b zd (IntKind.i64.wrap (zn - zi)) zb len1 hzd eend hb hD (by omega) q3.1 q3.2 (by omega)
            repeat' first|refine yaG ?_|(exfalso;omega)|(refine yaS ?_ ?_<;>intro _)
            all_goals first
              | (exfalso; omega)
              | skip
            refine .call _ rfl rfl rfl c3 ?_
            rintro r τ ⟨rfl, rfl⟩
            repeat' first|refine yaG ?_|(exfalso;omega)|(refine yaS ?_ ?_<;>intro _)
            exact .fin rfl ⟨rfl, rfl⟩
          · rw [if_neg q3]
            repeat' first|refine yaG ?_|(exfalso;omega)|(refine yaS ?_ ?_<;>intro _)
            all_goals first
              | (exfalso; omega)
              | exact .fin rfl ⟨rfl, rfl⟩
  · have HS : za = (s0 : Int) := by rw [hs0, if_neg hq]; exact ha
    have HR : zm = (r0 : Int) := by rw [hr0, if_neg hq]; exact hzm
    have hlq : ¬ zm > IntKind.i64.wrap ((IntKind.u64.wrap (IntKind.i64.wrap (za + zb))).fdiv (2 ^ (min (1 : Int).toNat IntKind.u64.bits))) := by rw [emid]; omega
    repeat' first|refine yaG ?_|(exfalso;omega)|(refine yaS ?_ ?_<;>intro _)
    all_goals first
      | contradiction
      | skip
    refine Go.keep [0, 1, 2, 3, 4, 18, 19, 20, 21, 22] (Go.loops (I := fun mm fr τ => ∃ (i j : Nat) (zi zj zd zn zp : Int), mm = j - i ∧ s0 ≤ i ∧ i ≤ j ∧ j ≤ r0 ∧ zi = i ∧ zj = j ∧ zd = (mid : Nat) ∧ zn = ((mid + m : Nat) : Int) ∧ zp = ((mid + m - 1 : Nat) : Int) ∧ (∃ k, j - i ≤ k ∧ bs p f0 s0 r0 = bs p k i j) ∧
      fr = [(0, .c (.sl F.id F.v 0 l.length c)), (1, .c (.int .i64 za)), (2, .c (.int .i64 zm)), (3, .c (.int .i64 zb)), (4, .c (.fn g pre cap)), (18, .c (.int .i64 zd)), (19, .c (.int .i64 zn)), (20, .c (.int .i64 zi)), (21, .c (.int .i64 zj)), (22, .c (.int .i64 zp))] ∧ τ = F.S l) ?_ _ _ _ ⟨s0, r0, _, _, _, _, _, rfl, Nat.le_refl _, hrange.1, Nat.le_refl _, HS, HR, emid, en, ep, ⟨f0, hrange.2.2.2.2.1, rfl⟩, rfl, rfl⟩)
    clear emid en ep hes es hzmid
    clear zmid
    rintro mm fr τ ⟨i, j, zi, zj, zd, zn, zp, hmm, hsi, hij, hjr, hzi, hzj, hzd, hzn, hzp, ⟨k, hk, hbs⟩, rfl, rfl⟩ hrec
    by_cases hlt : i < j
    · obtain ⟨k, rfl⟩ : ∃ k', k = k' + 1 := ⟨k - 1, by omega⟩
      rw [bs, if_pos hlt] at hbs
      have es : IntKind.i64.wrap (zi + zj) = ((i + j : Nat) : Int) := by rw [wrap64 (by omega) (by omega)]; omega
      have eh := half_eq es (by omega)
      obtain ⟨h, hh0⟩ : ∃ h, h = (i + j) / 2 := ⟨_, rfl⟩
      rw [← hh0] at eh hbs
      have hh : h < l.length := by omega
      have hph : mid + m - 1 - h < l.length := by omega
      have ev : ∀ z : Int, z = (h : Int) → IntKind.i64.wrap (zp - z) = ((mid + m - 1 - h : Nat) : Int) := fun z hz => by rw [wrap64 (by omega) (by omega)]; omega
      have epc := ev _ eh
      have hpv : p h = !decide (co l[mid + m - 1 - h] l[h] < 0) := by rw [hp]; exact congrArg _ (ltA_eq hph hh)
      have cc := hcmp l l[mid + m - 1 - h] l[h] (hD _ (List.getElem_mem hph)) (hD _ (List.getElem_mem hh))
      rw [hpv] at hbs
      generalize co l[mid + m - 1 - h] l[h] = o at cc hbs
      repeat' first|refine yaG ?_|((first|apply yG|apply yH|apply yI);exact rfl;(first|exact aop_si rfl rfl eh rfl hh|exact aop_si rfl rfl epc rfl hph|exact aop_sl rfl hh|exact aop_sl rfl hph))|(exfalso;omega)|(refine yaS ?_ ?_<;>intro _)
      refine Go.scall _ rfl rfl rfl cc ?_
      rintro r τ ⟨rfl, rfl⟩
      have up : bs p f0 s0 r0 = bs p k (h + 1) j → ∀ fr τ, fr = [(0, AV.c (.sl F.id F.v 0 l.length c)), (1, .c (.int .i64 za)), (2, .c (.int .i64 zm)), (3, .c (.int .i64 zb)), (4, .c (.fn g pre cap)), (18, .c (.int .i64 zd)), (19, .c (.int .i64 zn)), (20, .c (.int .i64 (IntKind.i64.wrap (IntKind.i64.wrap ((IntKind.u64.wrap (IntKind.i64.wrap (zi + zj))).fdiv (2 ^ (min (1 : Int).toNat IntKind.u64.bits))) + 1)))), (21, .c (.int .i64 zj)), (22, .c (.int .i64 zp))] → τ = F.S l → _ := fun e fr τ p1 p2 => hrec (j - (h + 1)) fr τ (by omega) ⟨h + 1, j, _, _, _, _, _, rfl, by omega, by omega, hjr, wrap_succ eh (by omega), hzj, hzd, hzn, hzp, ⟨k, by omega, e⟩, p1, p2⟩
      have dn : bs p f0 s0 r0 = bs p k i h → ∀ fr τ, fr = [(0, AV.c (.sl F.id F.v 0 l.length c)), (1, .c (.int .i64 za)), (2, .c (.int .i64 zm)), (3, .c (.int .i64 zb)), (4, .c (.fn g pre cap)), (18, .c (.int .i64 zd)), (19, .c (.int .i64 zn)), (20, .c (.int .i64 zi)), (21, .c (.int .i64 (IntKind.i64.wrap ((IntKind.u64.wrap (IntKind.i64.wrap (zi + zj))).fdiv (2 ^ (min (1 : Int).toNat IntKind.u64.bits)))))), (22, .c (.int .i64 zp))] → τ = F.S l → _ := fun e fr τ p1 p2 => hrec (h - i) fr τ (by omega) ⟨i, h, _, _, _, _, _, rfl, hsi, by omega, by omega, hzi, eh, hzd, hzn, hzp, ⟨k, by omega, e⟩, p1, p2⟩
      clear hrec eh epc ev
      by_cases ho : o < 0
      · rw [if_neg (by simp [ho])] at hbs
        repeat' first|refine yaG ?_|(exfalso;omega)|(refine yaS ?_ ?_<;>intro _)
        all_goals first
          | exact Go.keep [0, 1, 2, 3, 4, 18, 19, 20, 21, 22] (dn hbs _ _ rfl rfl)
          | (exfalso; simp_all; done)
          | (exfalso; simp_all; omega)
      · rw [if_pos (by simp [ho])] at hbs
        repeat' first|refine yaG ?_|(exfalso;omega)|(refine yaS ?_ ?_<;>intro _)
        all_goals first
          | exact Go.keep [0, 1, 2, 3, 4, 18, 19, 20, 21, 22] (up hbs _ _ rfl rfl)
          | (exfalso; simp_all; done)
          | (exfalso; simp_all; omega)
    · rw [bs_end hlt] at hbs
      rw [hbs] at hbi ⊢
      clear hrec hbs hp hk hst hcmp
      obtain ⟨s, hs⟩ : ∃ s, s = i := ⟨_, rfl⟩
      rw [← hs] at hbi hzi ⊢
      obtain ⟨e, he⟩ : ∃ e, e = mid + m - s := ⟨_, rfl⟩
      rw [← he]
      have eend : IntKind.i64.wrap (zn - zi) = (e : Int) := by rw [wrap64 (by omega) (by omega)]; omega
      by_cases q1 : s < m ∧ m < e
      · rw [if_pos q1]
        have len1 : (rotF s m e l).length = l.length := rot_len
        have D1 : ∀ x ∈ rotF s m e l, D x := fun x hx => hD x (rot_mem hx)
        have cr := rotate_ok hm hc' hc'' F l s m e c zi zm (IntKind.i64.wrap (zn - zi)) hzi hzm eend (.fn g pre cap) q1.1 q1.2 (by omega) hx
        repeat' first|refine yaG ?_|(exfalso;omega)|(refine yaS ?_ ?_<;>intro _)
        all_goals first
          | (exfalso; omega)
          | skip
        refine .call _ rfl rfl rfl cr ?_
        rintro r τ ⟨rfl, rfl⟩
        generalize rotF s m e l = l1 at len1 D1 ⊢
        by_cases q2 : a < s ∧ s < mid
        · rw [if_pos q2]
          have c2 := ih l1 a s mid za zi zd len1 ha hzi hzd D1 (by omega) q2.1 q2.2 (by omega)
          have len2 : (sym co d a s mid l1).length = l.length := sym_len.trans len1
          have D2 : ∀ x ∈ sym co d a s mid l1, D x := fun x hx => D1 x (sym_mem hx)
          repeat' first|refine yaG ?_|(exfalso;omega)|(refine yaS ?_ ?_<;>intro _)
          all_goals first
            | (exfalso; omega)
            | skip
          refine .call _ rfl rfl rfl c2 ?_
          rintro r τ ⟨rfl, rfl⟩
          generalize sym co d a s mid l1 = l2 at len2 D2 ⊢
          by_cases q3 : mid < e ∧ e < b
          · rw [if_pos q3]
            have c3 := ih l2 mid e b zd (IntKind.i64.wrap (zn - zi)) zb len2 hzd eend hb D2 (by omega) q3.1 q3.2 (by omega)
            repeat' first|refine yaG ?_|(exfalso;omega)|(refine yaS ?_ ?_<;>intro _)
            all_goals first
              | (exfalso; omega)
              | skip
            refine .call _ rfl rfl rfl c3 ?_
            rintro r τ ⟨rfl, rfl⟩
            repeat' first|refine yaG ?_|(exfalso;omega)|(refine yaS ?_ ?_<;>intro _)
            exact .fin rfl ⟨rfl, rfl⟩
          · rw [if_neg q3]
            repeat' first|refine yaG ?_|(exfalso;omega)|(refine yaS ?_ ?_<;>intro _)
            all_goals first
              | (exfalso; omega)
              | exact .fin rfl ⟨rfl, rfl⟩
        · rw [if_neg q2]
          by_cases q3 : mid < e ∧ e < b
          · rw [if_pos q3]
            have c3 := ih l1 mid e b zd (IntKind.i64.wrap (zn - zi)) zb len1 hzd eend hb D1 (by omega) q3.1 q3.2 (by omega)
            repeat' first|refine yaG ?_|(exfalso;omega)|(refine yaS ?_ ?_<;>intro _)
            all_goals first
              | (exfalso; omega)
              | skip
            refine .call _ rfl rfl rfl c3 ?_
            rintro r τ ⟨rfl, rfl⟩
            repeat' first|refine yaG ?_|(exfalso;omega)|(refine yaS ?_ ?_<;>intro _)
            exact .fin rfl ⟨rfl, rfl⟩
          · rw [if_neg q3]
            repeat' first|refine yaG ?_|(exfalso;omega)|(refine yaS ?_ ?_<;>intro _)
            all_goals first
              | (exfalso; omega)
              | exact .fin rfl ⟨rfl, rfl⟩
      · rw [if_neg q1]
        have len1 : l.length = l.length := rfl
        by_cases q2 : a < s ∧ s < mid
        · rw [if_pos q2]
          have c2 := ih l a s mid za zi zd len1 ha hzi hzd hD (by omega) q2.1 q2.2 (by omega)
          have len2 : (sym co d a s mid l).length = l.length := sym_len.trans len1
          have D2 : ∀ x ∈ sym co d a s mid l, D x := fun x hx => hD x (sym_mem hx)
          repeat' first|refine yaG ?_|(exfalso;omega)|(refine yaS ?_ ?_<;>intro _)
          all_goals first
            | (exfalso; omega)
            | skip
          refine .call _ rfl rfl rfl c2 ?_
          rintro r τ ⟨rfl, rfl⟩
          generalize sym co d a s mid l = l2 at len2 D2 ⊢
          by_cases q3 : mid < e ∧ e < b
          · rw [if_pos q3]
            exfalso
            omega
          · rw [if_neg q3]
            repeat' first|refine yaG ?_|(exfalso;omega)|(refine yaS ?_ ?_<;>intro _)
            all_goals first
              | (exfalso; omega)
              | exact .fin rfl ⟨rfl, rfl⟩
        · rw [if_neg q2]
          by_cases q3 : mid < e ∧ e < b
          · rw [if_pos q3]
            exfalso
            omega
          · rw [if_neg q3]
            repeat' first|refine yaG ?_|(exfalso;omega)|(refine yaS ?_ ?_<;>intro _)
            all_goals first
              | (exfalso; omega)
              | exact .fin rfl ⟨rfl, rfl⟩
end Go.Proofs.YtinbdedlmkjokaaGreat.Am

/- Sorting in place: the whole stable sort. -/
set_option linter.unusedVariables false
set_option linter.unusedSimpArgs false
namespace Go.Proofs.YtinbdedlmkjokaaGreat.Am

/-- The sort's functions, where they are. -/
structure Sorts (P : Program) : Prop where
  hm : P.follows .mixedOrders = true
  sym : ∃ fz, compFn P fz 234 = some c_slices_symMergeCmpFunc_Row
  rot : ∃ fz, compFn P fz 285 = some c_slices_rotateCmpFunc_Row
  swr : ∃ fz, compFn P fz 300 = some c_slices_swapRangeCmpFunc_Row
  ins : ∃ fz, compFn P fz 233 = some c_slices_insertionSortCmpFunc_Row
  stb : ∃ fz, compFn P fz 166 = some c_slices_stableCmpFunc_Row
theorem sym_ok {P : Program} (hs : Sorts P) {α : Type} (F : Fam α) (D : α → Prop) (co : α → α → Int) (g : Nat) (pre cap : List Ce) (hcmp : Cmps P F D co g pre cap) (N c : Nat) (hN : N ≤ 34359738368) :
    ∀ (d : Nat) (l : List α) (a m b : Nat) (za zm zb : Int), l.length = N → za = a → zm = m → zb = b → (∀ x ∈ l, D x) → b ≤ l.length → a < m → m < b → b - a ≤ d → Ok P 234 [.c (.sl F.id F.v 0 N c), .c (.int .i64 za), .c (.int .i64 zm), .c (.int .i64 zb), .c (.fn g pre cap)] (F.S l) (fun r τ => r = .tup [] ∧ τ = F.S (sym co d a m b l))
  | 0, l, a, m, b, za, zm, zb, h0, ha, hzm, hb, hD, h3, hab, hmb, hd => by omega
  | d + 1, l, a, m, b, za, zm, zb, h0, ha, hzm, hb, hD, h3, hab, hmb, hd => by
    obtain ⟨fz, hc⟩ := hs.sym
    obtain ⟨fz', hc'⟩ := hs.rot
    obtain ⟨fz'', hc''⟩ := hs.swr
    by_cases h1 : m - a = 1
    · have := symA_ok hs.hm hc F D co g pre cap hcmp l a m b c za zm zb ha hzm hb hD h3 hab hmb (by omega) h1
      rw [h0] at this
      rw [sym, if_pos h1]
      exact this
    · by_cases h2 : b - m = 1
      · have := symB_ok hs.hm hc F D co g pre cap hcmp l a m b c za zm zb ha hzm hb hD h3 hab hmb (by omega) h1 h2
        rw [h0] at this
        rw [sym, if_neg h1, if_pos h2]
        exact this
      · exact symC_ok hs.hm hc hc' hc'' F D co g pre cap hcmp N c d (sym_ok hs F D co g pre cap hcmp N c hN d) l a m b za zm zb h0 ha hzm hb hD h3 hab hmb (by omega) (by omega) h1 h2
def blk {α : Type} (c : α → α → Int) (n : Nat) : Nat → Nat → List α → List α
  | 0, _, l => l
  | k + 1, a, l => if a + 20 ≤ n then blk c n k (a + 20) (insF c a (a + 20) l) else insF c a n l
def mrg {α : Type} (c : α → α → Int) (n w : Nat) : Nat → Nat → List α → List α
  | 0, _, l => l
  | k + 1, a, l => if a + 2 * w ≤ n then mrg c n w k (a + 2 * w) (sym c (2 * w) a (a + w) (a + 2 * w) l) else if a + w < n then sym c (n - a) a (a + w) n l else l
def mrgs {α : Type} (c : α → α → Int) (n : Nat) : Nat → Nat → List α → List α
  | 0, _, l => l
  | k + 1, w, l => if w < n then mrgs c n k (2 * w) (mrg c n w (n + 1) 0 l) else l
def stableF {α : Type} (c : α → α → Int) (l : List α) : List α := mrgs c l.length (l.length + 1) 20 (blk c l.length (l.length + 1) 0 l)
theorem insF_len {α : Type} {c : α → α → Int} {a b : Nat} {l : List α} : (insF c a b l).length = l.length := insOut_len
theorem insF_mem {α : Type} {c : α → α → Int} {a b : Nat} {l : List α} {x : α} (h : x ∈ insF c a b l) : x ∈ l := insOut_mem h
theorem stable_ok {P : Program} (hs : Sorts P) {α : Type} (F : Fam α) (D : α → Prop) (co : α → α → Int) (g : Nat) (pre cap : List Ce) (hcmp : Cmps P F D co g pre cap) (l : List α) (c : Nat) (hD : ∀ x ∈ l, D x) (hx : l.length ≤ 34359738368) :
    Ok P 166 [.c (.sl F.id F.v 0 l.length c), .c (.int .i64 (l.length : Int)), .c (.fn g pre cap)] (F.S l) (fun r τ => r = .tup [] ∧ τ = F.S (stableF co l)) := by
  obtain ⟨fzs, hst⟩ := hs.stb
  obtain ⟨fzi, hins⟩ := hs.ins
  have hsym := sym_ok hs F D co g pre cap hcmp l.length c hx
  refine .of_go hs.hm hst (Nat.le_of_ble_eq_true rfl) ?_
  obtain ⟨n, hn⟩ : ∃ n, n = l.length := ⟨_, rfl⟩
  rw [stableF, ← hn]
  obtain ⟨res, hres⟩ : ∃ res, res = mrgs co n (n + 1) 20 (blk co n (n + 1) 0 l) := ⟨_, rfl⟩
  rw [← hres]
  rw [← hn] at hsym hx
  obtain ⟨bl, hbl0⟩ : ∃ x, x = blk co n (n + 1) 0 l := ⟨_, rfl⟩
  rw [← hbl0] at hres
  repeat' first|refine yaG ?_|(exfalso;omega)|(refine yaS ?_ ?_<;>intro _)
  refine Go.keep [0, 1, 2, 6, 7, 8] (Go.loops (I := fun mm fr τ => ∃ (a : Nat) (za zb : Int) (q : List α), mm = n - a ∧ a ≤ n ∧ za = a ∧ zb = ((a + 20 : Nat) : Int) ∧ q.length = n ∧ (∀ x ∈ q, D x) ∧ (∃ k, n - a < k ∧ bl = blk co n k a q) ∧
    fr = [(0, .c (.sl F.id F.v 0 n c)), (1, .c (.int .i64 (n : Int))), (2, .c (.fn g pre cap)), (6, .c (.int .i64 20)), (7, .c (.int .i64 za)), (8, .c (.int .i64 zb))] ∧ τ = F.S q) ?_ _ _ _ ⟨0, _, _, l, rfl, Nat.zero_le _, rfl, rfl, hn.symm, hD, ⟨n + 1, by omega, hbl0⟩, rfl, rfl⟩)
  rintro mm fr τ ⟨a, za, zb, q, hmm, han, hza, hzb, hql, hqD, ⟨k, hk, hbl⟩, rfl, rfl⟩ hrec
  obtain ⟨k, rfl⟩ : ∃ k', k = k' + 1 := ⟨k - 1, by omega⟩
  rw [blk] at hbl
  by_cases hlt : a + 20 ≤ n
  · rw [if_pos hlt] at hbl
    have ci := insertion_ok hs.hm hins F D co g pre cap hcmp q a (a + 20) c za zb hza hzb hqD (by omega) (by omega) (by omega)
    rw [hql] at ci
    have e1 : IntKind.i64.wrap (zb + 20) = ((a + 20 + 20 : Nat) : Int) := by rw [wrap64 (by omega) (by omega)]; omega
    repeat' first|refine yaG ?_|(exfalso;omega)|(refine yaS ?_ ?_<;>intro _)
    refine .call _ rfl rfl rfl ci ?_
    rintro r τ ⟨rfl, rfl⟩
    repeat' first|refine yaG ?_|(exfalso;omega)|(refine yaS ?_ ?_<;>intro _)
    exact Go.keep [0, 1, 2, 6, 7, 8] (hrec _ _ _ (by omega) ⟨a + 20, _, _, _, rfl, hlt, hzb, e1, by rw [insF_len]; exact hql, fun x hx => hqD x (insF_mem hx), ⟨k, by omega, hbl⟩, rfl, rfl⟩)
  · rw [if_neg hlt] at hbl
    have ci := insertion_ok hs.hm hins F D co g pre cap hcmp q a n c za n hza rfl hqD (by omega) han (by omega)
    rw [hql] at ci
    clear hrec
    repeat' first|refine yaG ?_|(exfalso;omega)|(refine yaS ?_ ?_<;>intro _)
    refine .call _ rfl rfl rfl ci ?_
    rintro r τ ⟨rfl, rfl⟩
    rw [hbl] at hres
    have hul : (insF co a n q).length = n := by rw [insF_len]; exact hql
    have huD : ∀ x ∈ insF co a n q, D x := fun x hx => hqD x (insF_mem hx)
    generalize insF co a n q = u at hul huD hres ⊢
    clear hbl hbl0 hqD hql hD ci hlt
    repeat' first|refine yaG ?_|(exfalso;omega)|(refine yaS ?_ ?_<;>intro _)
    refine Go.keep [0, 1, 2, 6] (Go.loops (I := fun mm fr τ => ∃ (w : Nat) (zw : Int) (q : List α), mm = n - w ∧ 20 ≤ w ∧ w ≤ 4 * 34359738368 ∧ zw = w ∧ q.length = n ∧ (∀ x ∈ q, D x) ∧ (∃ k, n - w < k ∧ res = mrgs co n k w q) ∧
      fr = [(0, .c (.sl F.id F.v 0 n c)), (1, .c (.int .i64 (n : Int))), (2, .c (.fn g pre cap)), (6, .c (.int .i64 zw))] ∧ τ = F.S q) ?_ _ _ _ ⟨20, _, u, rfl, Nat.le_refl _, by omega, rfl, hul, huD, ⟨n + 1, by omega, hres⟩, rfl, rfl⟩)
    clear hul huD hres
    clear u
    rintro mm fr τ ⟨w, zw, u, hmm, hw20, hwb, hzw, hul, huD, ⟨k, hk, hres⟩, rfl, rfl⟩ hrec
    obtain ⟨k, rfl⟩ : ∃ k', k = k' + 1 := ⟨k - 1, by omega⟩
    rw [mrgs] at hres
    by_cases hwn : w < n
    · rw [if_pos hwn] at hres
      have e2 : IntKind.i64.wrap (2 * zw) = ((2 * w : Nat) : Int) := by rw [wrap64 (by omega) (by omega)]; omega
      have e2' : IntKind.i64.wrap (zw * 2) = ((2 * w : Nat) : Int) := by rw [wrap64 (by omega) (by omega)]; omega
      obtain ⟨mg, hmg⟩ : ∃ x, x = mrg co n w (n + 1) 0 u := ⟨_, rfl⟩
      rw [← hmg] at hres
      have out : ∀ q : List α, q.length = n → (∀ x ∈ q, D x) → mg = q → ∀ fr τ, fr = [(0, AV.c (.sl F.id F.v 0 n c)), (1, .c (.int .i64 (n : Int))), (2, .c (.fn g pre cap)), (6, .c (.int .i64 (IntKind.i64.wrap (zw * 2))))] → τ = F.S q → _ := fun q p1 p2 p3 fr τ p4 p5 =>
        hrec (n - 2 * w) fr τ (by omega) ⟨2 * w, _, q, rfl, by omega, by omega, e2', p1, p2, ⟨k, by omega, by rw [← p3]; exact hres⟩, p4, p5⟩
      clear hrec hres
      repeat' first|refine yaG ?_|(exfalso;omega)|(refine yaS ?_ ?_<;>intro _)
      refine Go.keep [0, 1, 2, 6, 7, 8] (Go.loops (I := fun mm fr τ => ∃ (a : Nat) (za zb : Int) (q : List α), mm = n - a ∧ a ≤ n ∧ za = a ∧ zb = ((a + 2 * w : Nat) : Int) ∧ q.length = n ∧ (∀ x ∈ q, D x) ∧ (∃ k, n - a < k ∧ mg = mrg co n w k a q) ∧
        fr = [(0, .c (.sl F.id F.v 0 n c)), (1, .c (.int .i64 (n : Int))), (2, .c (.fn g pre cap)), (6, .c (.int .i64 zw)), (7, .c (.int .i64 za)), (8, .c (.int .i64 zb))] ∧ τ = F.S q) ?_ _ _ _ ⟨0, _, _, u, rfl, Nat.zero_le _, rfl, by rw [e2]; omega, hul, huD, ⟨n + 1, by omega, hmg⟩, rfl, rfl⟩)
      rintro mm fr τ ⟨a, za, zb, q, hmm, han, hza, hzb, hql, hqD, ⟨k, hk, hbl⟩, rfl, rfl⟩ hrec
      obtain ⟨k, rfl⟩ : ∃ k', k = k' + 1 := ⟨k - 1, by omega⟩
      rw [mrg] at hbl
      have ea : IntKind.i64.wrap (za + zw) = ((a + w : Nat) : Int) := by rw [wrap64 (by omega) (by omega)]; omega
      by_cases hlt : a + 2 * w ≤ n
      · rw [if_pos hlt] at hbl
        have ci := hsym (2 * w) q a (a + w) (a + 2 * w) za _ zb hql hza ea hzb hqD (by omega) (by omega) (by omega) (by omega)
        have e1 : IntKind.i64.wrap (zb + IntKind.i64.wrap (2 * zw)) = ((a + 2 * w + 2 * w : Nat) : Int) := by rw [e2, wrap64 (by omega) (by omega)]; omega
        repeat' first|refine yaG ?_|(exfalso;omega)|(refine yaS ?_ ?_<;>intro _)
        refine .call _ rfl rfl rfl ci ?_
        rintro r τ ⟨rfl, rfl⟩
        repeat' first|refine yaG ?_|(exfalso;omega)|(refine yaS ?_ ?_<;>intro _)
        exact Go.keep [0, 1, 2, 6, 7, 8] (hrec _ _ _ (by omega) ⟨a + 2 * w, _, _, _, rfl, hlt, hzb, e1, by rw [sym_len]; exact hql, fun x hx => hqD x (sym_mem hx), ⟨k, by omega, hbl⟩, rfl, rfl⟩)
      · rw [if_neg hlt] at hbl
        clear hrec
        by_cases ham : a + w < n
        · rw [if_pos ham] at hbl
          have ci := hsym (n - a) q a (a + w) n za _ n hql hza ea rfl hqD (by omega) (by omega) ham (by omega)
          repeat' first|refine yaG ?_|(exfalso;omega)|(refine yaS ?_ ?_<;>intro _)
          all_goals first
            | (exfalso; omega)
            | skip
          refine .call _ rfl rfl rfl ci ?_
          rintro r τ ⟨rfl, rfl⟩
          repeat' first|refine yaG ?_|(exfalso;omega)|(refine yaS ?_ ?_<;>intro _)
          exact Go.keep [0, 1, 2, 6] (out _ (by rw [sym_len]; exact hql) (fun x hx => hqD x (sym_mem hx)) hbl _ _ rfl rfl)
        · rw [if_neg ham] at hbl
          repeat' first|refine yaG ?_|(exfalso;omega)|(refine yaS ?_ ?_<;>intro _)
          all_goals first
            | (exfalso; omega)
            | exact Go.keep [0, 1, 2, 6] (out _ hql hqD hbl _ _ rfl rfl)
    · rw [if_neg hwn] at hres
      repeat' first|refine yaG ?_|(exfalso;omega)|(refine yaS ?_ ?_<;>intro _)
      exact .fin rfl ⟨rfl, by rw [hres]⟩
theorem sortStable_ok {P : Program} (hs : Sorts P) {fz : List Nat} {n : Nat} (hc : compFn P fz n = some c_slices_SortStableFunc_Row) {α : Type} (F : Fam α) (D : α → Prop) (co : α → α → Int) (g : Nat) (pre cap : List Ce) (hcmp : Cmps P F D co g pre cap) (l : List α) (c : Nat) (hD : ∀ x ∈ l, D x) (hx : l.length ≤ 34359738368) :
    Ok P n [.c (.sl F.id F.v 0 l.length c), .c (.fn g pre cap)] (F.S l) (fun r τ => r = .tup [] ∧ τ = F.S (stableF co l)) := by
  refine .of_go hs.hm hc (Nat.le_of_ble_eq_true rfl) ?_
  repeat' first|refine yaG ?_|(exfalso;omega)|(refine yaS ?_ ?_<;>intro _)
  refine .call _ rfl rfl rfl (stable_ok hs F D co g pre cap hcmp l c hD hx) ?_
  rintro r τ ⟨rfl, rfl⟩
  repeat' first|refine yaG ?_|(exfalso;omega)|(refine yaS ?_ ?_<;>intro _)
  exact .fin rfl ⟨rfl, rfl⟩
end Go.Proofs.YtinbdedlmkjokaaGreat.Am

/- The stable sort's plain law: swaps, rotations, shifts. -/
set_option linter.unusedVariables false
set_option linter.unusedSimpArgs false
namespace Go.Proofs.YtinbdedlmkjokaaGreat.Am

theorem sw_app {α : Type} {A B C : List α} {x y : α} : sw (A ++ x :: (B ++ y :: C)) A.length (A.length + 1 + B.length) = A ++ y :: (B ++ x :: C) := by
  have h1 : (A ++ x :: (B ++ y :: C))[A.length]? = some x := by simp
  have h2 : (A ++ x :: (B ++ y :: C))[A.length + 1 + B.length]? = some y := by
    rw [List.getElem?_append_right (by omega), show A.length + 1 + B.length - A.length = B.length + 1 by omega, List.getElem?_cons_succ]
    simp
  rw [sw, h1, h2]
  simp only
  rw [List.set_append_right _ _ (Nat.le_refl _), Nat.sub_self, List.set_cons_zero, List.set_append_right _ _ (by omega), show A.length + 1 + B.length - A.length = B.length + 1 by omega, List.set_cons_succ, List.set_append_right _ _ (Nat.le_refl _), Nat.sub_self, List.set_cons_zero]
theorem swR_app {α : Type} : ∀ {X Y A B C : List α} {i a b : Nat}, X.length = Y.length → a + i = A.length → b + i = A.length + X.length + B.length → swR a b X.length i (A ++ (X ++ (B ++ (Y ++ C)))) = A ++ (Y ++ (B ++ (X ++ C)))
  | [], [], A, B, C, i, a, b, _, _, _ => by simp [swR]
  | [], _ :: _, _, _, _, _, _, _, h, _, _ => by simp at h
  | _ :: _, [], _, _, _, _, _, _, h, _, _ => by simp at h
  | x :: X, y :: Y, A, B, C, i, a, b, h, ha, hb => by
    simp only [List.length_cons] at h hb ⊢
    rw [swR, ha, hb]
    have e1 : A ++ (x :: X ++ (B ++ (y :: Y ++ C))) = A ++ x :: ((X ++ B) ++ y :: (Y ++ C)) := by simp
    have e2 : A.length + (X.length + 1) + B.length = A.length + 1 + (X ++ B).length := by simp; omega
    rw [e1, e2, sw_app]
    have e3 : A ++ y :: ((X ++ B) ++ x :: (Y ++ C)) = (A ++ [y]) ++ (X ++ ((B ++ [x]) ++ (Y ++ C))) := by simp
    rw [e3, swR_app (X := X) (Y := Y) (A := A ++ [y]) (B := B ++ [x]) (by omega) (by simp; omega) (by simp; omega)]
    simp
theorem rot_app {α : Type} {m : Nat} : ∀ {n : Nat} {A I J C : List α}, 1 ≤ I.length → 1 ≤ J.length → I.length + J.length ≤ n + 1 → m = A.length + I.length → rot m n I.length J.length (A ++ (I ++ (J ++ C))) = A ++ (J ++ (I ++ C))
  | 0, A, I, J, C, h1, h2, h3, hm => by omega
  | n + 1, A, I, J, C, h1, h2, h3, hm => by
    rw [rot]
    split
    · rename_i e
      have := swR_app (X := I) (Y := J) (A := A) (B := []) (C := C) (i := 0) (a := m - I.length) (b := m) e (by omega) (by simp; omega)
      simpa using this
    · rename_i hne
      split
      · rename_i hlt
        obtain ⟨I1, I2, rfl, hl⟩ : ∃ I1 I2, I = I1 ++ I2 ∧ I1.length = J.length := ⟨I.take J.length, I.drop J.length, (List.take_append_drop _ _).symm, by simp; omega⟩
        simp only [List.length_append] at h1 h3 hm hlt hne ⊢
        have := swR_app (X := I1) (Y := J) (A := A) (B := I2) (C := C) (i := 0) (a := m - (I1.length + I2.length)) (b := m) hl (by omega) (by omega)
        rw [← hl, List.append_assoc, this]
        have ih := rot_app (m := m) (n := n) (A := A ++ J) (I := I2) (J := I1) (C := C) (by omega) (by omega) (by omega) (by simp; omega)
        rw [show I1.length + I2.length - I1.length = I2.length by omega]
        simpa using ih
      · obtain ⟨J1, J2, rfl, hl⟩ : ∃ J1 J2, J = J1 ++ J2 ∧ J2.length = I.length := ⟨J.take (J.length - I.length), J.drop (J.length - I.length), (List.take_append_drop _ _).symm, by simp; omega⟩
        rename_i hlt
        simp only [List.length_append] at h2 h3 hm hlt hne ⊢
        have := swR_app (X := I) (Y := J2) (A := A) (B := J1) (C := C) (i := 0) (a := m - I.length) (b := m + (J1.length + J2.length) - I.length) hl.symm (by omega) (by omega)
        rw [List.append_assoc J1, this]
        have ih := rot_app (m := m) (n := n) (A := A) (I := J2) (J := J1) (C := I ++ C) (by omega) (by omega) (by omega) (by omega)
        rw [show J1.length + J2.length - I.length = J1.length by omega, ← hl]
        rw [ih]
        simp
theorem rotF_app {α : Type} {A I J C : List α} (h1 : 1 ≤ I.length) (h2 : 1 ≤ J.length) : rotF A.length (A.length + I.length) (A.length + I.length + J.length) (A ++ (I ++ (J ++ C))) = A ++ (J ++ (I ++ C)) := by
  have := rot_app (m := A.length + I.length) (n := A.length + I.length + J.length - A.length) (A := A) (I := I) (J := J) (C := C) h1 h2 (by omega) rfl
  rw [rotF, show A.length + I.length - A.length = I.length by omega, show A.length + I.length + J.length - (A.length + I.length) = J.length by omega]
  exact this
theorem shU_app {α : Type} : ∀ {Y A C : List α} {x : α}, shU Y.length A.length (A ++ x :: (Y ++ C)) = A ++ (Y ++ x :: C)
  | [], A, C, x => by simp [shU]
  | y :: Y, A, C, x => by
    have h := sw_app (A := A) (B := []) (C := Y ++ C) (x := x) (y := y)
    simp only [List.nil_append, List.length_nil, Nat.add_zero] at h
    rw [List.length_cons, shU, List.cons_append, h]
    have ih := shU_app (Y := Y) (A := A ++ [y]) (C := C) (x := x)
    simpa using ih
theorem shD_app {α : Type} : ∀ {n : Nat} {Y A C : List α} {x : α}, Y.length = n → shD n (A.length + n) (A ++ (Y ++ x :: C)) = A ++ x :: (Y ++ C)
  | 0, Y, A, C, x, h => by rw [List.eq_nil_of_length_eq_zero h]; simp [shD]
  | n + 1, Y, A, C, x, h => by
    obtain ⟨Z, y, rfl⟩ : ∃ Z y, Y = Z ++ [y] := ⟨Y.dropLast, Y.getLast (by intro e; simp [e] at h), (List.dropLast_concat_getLast _).symm⟩
    have hz : Z.length = n := by simp at h; omega
    have h1 := sw_app (A := A ++ Z) (B := []) (C := C) (x := y) (y := x)
    simp only [List.nil_append, List.length_nil, Nat.add_zero, List.length_append] at h1
    have hsym : ∀ (l : List α) (i j : Nat), i < l.length → j < l.length → i ≠ j → sw l j i = sw l i j := fun l i j hi hj hij => by
      rw [sw_eq hj hi, sw_eq hi hj, List.set_comm _ _ (fun e => hij e.symm)]
    rw [shD, show A.length + (n + 1) - 1 = A.length + n by omega]
    have e1 : A ++ (Z ++ [y] ++ x :: C) = A ++ Z ++ y :: x :: C := by simp
    rw [e1, hsym _ (A.length + n) (A.length + (n + 1)) (by simp; omega) (by simp; omega) (by omega)]
    rw [show A.length + (n + 1) = A.length + Z.length + 1 by omega, show A.length + n = A.length + Z.length by omega, h1]
    have ih := shD_app (n := n) (Y := Z) (A := A) (C := y :: C) (x := x) hz
    rw [← hz] at ih
    rw [← hz]
    simpa using ih
end Go.Proofs.YtinbdedlmkjokaaGreat.Am

/- The stable sort's plain law: merging. -/
set_option linter.unusedVariables false
set_option linter.unusedSimpArgs false
namespace Go.Proofs.YtinbdedlmkjokaaGreat.Am

theorem bs_spec {p : Nat → Bool} : ∀ {n i j : Nat}, i ≤ j → j - i ≤ n → (∀ h h', i ≤ h' → h' < h → h < j → p h = true → p h' = true) → (∀ h, i ≤ h → h < bs p n i j → p h = true) ∧ (∀ h, bs p n i j ≤ h → h < j → p h = false)
  | 0, i, j, h, hn, hm => ⟨fun q h1 h2 => by simp only [bs] at h2; omega, fun q h1 h2 => by simp only [bs] at h1; omega⟩
  | n + 1, i, j, h, hn, hm => by
    rw [bs]
    split
    · rename_i hlt
      cases hp : p ((i + j) / 2)
      · rw [if_neg Bool.false_ne_true]
        obtain ⟨h1, h2⟩ := bs_spec (p := p) (n := n) (i := i) (j := (i + j) / 2) (by omega) (by omega) fun a b p1 p2 p3 => hm a b p1 p2 (by omega)
        refine ⟨h1, fun q q1 q2 => ?_⟩
        by_cases hq : q < (i + j) / 2
        · exact h2 q q1 hq
        · by_cases he : q = (i + j) / 2
          · rw [he]; exact hp
          · cases hpq : p q
            · rfl
            · rw [hm q ((i + j) / 2) (by omega) (by omega) q2 hpq] at hp
              cases hp
      · rw [if_pos rfl]
        obtain ⟨h1, h2⟩ := bs_spec (p := p) (n := n) (i := (i + j) / 2 + 1) (j := j) (by omega) (by omega) fun a b p1 p2 p3 => hm a b (by omega) p2 p3
        refine ⟨fun q q1 q2 => ?_, h2⟩
        by_cases hq : q < (i + j) / 2
        · exact hm ((i + j) / 2) q q1 hq (by omega) hp
        · by_cases he : q = (i + j) / 2
          · rw [he]; exact hp
          · exact h1 q (by omega) q2
    · exact ⟨fun q q1 q2 => by omega, fun q q1 q2 => by omega⟩
structure SOrd {α : Type} (R : α → α → Prop) : Prop where
  trans : ∀ x y z, R x y → R y z → R x z
  asymm : ∀ x y, R x y → ¬ R y x
def Cross {α : Type} (c : α → α → Int) (R : α → α → Prop) (x y : α) : Prop := (c y x < 0 ↔ R y x) ∧ (¬ c y x < 0 → R x y)
section
variable {α : Type} {c : α → α → Int} {R : α → α → Prop}
theorem Cross.neg (hR : SOrd R) {x y : α} (h : Cross c R x y) : ¬ c y x < 0 ↔ R x y := ⟨h.2, fun h1 h2 => hR.asymm _ _ h1 (h.1.1 h2)⟩
theorem pw_at {X : List α} (h : X.Pairwise R) {i j : Nat} (hij : i < j) (hj : j < X.length) : R (X[i]'(by omega)) X[j] := List.pairwise_iff_getElem.1 h i j (by omega) hj hij
theorem sym_one (hR : SOrd R) {A Y C : List α} {x : α} (hY : Y.Pairwise R) (hc : ∀ y ∈ Y, Cross c R x y) :
    ∃ Z, shU (bs (fun h => ltA c (A ++ x :: (Y ++ C)) h A.length) Y.length (A.length + 1) (A.length + 1 + Y.length) - 1 - A.length) A.length (A ++ x :: (Y ++ C)) = A ++ (Z ++ C) ∧ Z.Perm (x :: Y) ∧ Z.Pairwise R := by
  have hp : ∀ k (hk : k < Y.length), ltA c (A ++ x :: (Y ++ C)) (A.length + 1 + k) A.length = decide (c Y[k] x < 0) := fun k hk => by
    have h1 : (A ++ x :: (Y ++ C))[A.length + 1 + k]? = some Y[k] := by
      rw [List.getElem?_append_right (by omega), show A.length + 1 + k - A.length = k + 1 by omega, List.getElem?_cons_succ, List.getElem?_append_left hk, List.getElem?_eq_getElem hk]
    have h2 : (A ++ x :: (Y ++ C))[A.length]? = some x := by simp
    rw [ltA, h1, h2]
  obtain ⟨p, hpp⟩ : ∃ p : Nat → Bool, p = fun h => ltA c (A ++ x :: (Y ++ C)) h A.length := ⟨_, rfl⟩
  have hp2 : ∀ h (h1 : A.length + 1 ≤ h) (h2 : h < A.length + 1 + Y.length), p h = true ↔ R (Y[h - (A.length + 1)]'(by omega)) x := fun h h1 h2 => by
    have := hp (h - (A.length + 1)) (by omega)
    rw [show A.length + 1 + (h - (A.length + 1)) = h by omega] at this
    rw [hpp]
    show ltA c (A ++ x :: (Y ++ C)) h A.length = true ↔ _
    rw [this, decide_eq_true_iff]
    exact (hc _ (List.getElem_mem _)).1
  obtain ⟨b1, b2⟩ := bs_in (p := p) (n := Y.length) (i := A.length + 1) (j := A.length + 1 + Y.length) (by omega)
  obtain ⟨s1, s2⟩ := bs_spec (p := p) (n := Y.length) (i := A.length + 1) (j := A.length + 1 + Y.length) (by omega) (by omega) fun h h' q1 q2 q3 q4 => (hp2 h' q1 (by omega)).2 (hR.trans _ _ _ (pw_at hY (by omega) (by omega)) ((hp2 h (by omega) q3).1 q4))
  rw [← hpp]
  generalize bs p Y.length (A.length + 1) (A.length + 1 + Y.length) = s at b1 b2 s1 s2
  refine ⟨Y.take (s - (A.length + 1)) ++ x :: Y.drop (s - (A.length + 1)), ?_, ?_, ?_⟩
  · have hl : (Y.take (s - (A.length + 1))).length = s - 1 - A.length := by rw [List.length_take]; omega
    have := shU_app (Y := Y.take (s - (A.length + 1))) (A := A) (C := Y.drop (s - (A.length + 1)) ++ C) (x := x)
    rw [hl, ← List.append_assoc (Y.take _), List.take_append_drop] at this
    rw [this]
    simp
  · have := List.perm_middle (l₁ := Y.take (s - (A.length + 1))) (a := x) (l₂ := Y.drop (s - (A.length + 1)))
    rw [List.take_append_drop] at this
    exact this
  · have ht : ∀ y ∈ Y.take (s - (A.length + 1)), R y x := fun y hy => by
      obtain ⟨k, hk, rfl⟩ := List.getElem_of_mem hy
      rw [List.length_take] at hk
      rw [List.getElem_take]
      have := (hp2 (A.length + 1 + k) (by omega) (by omega)).1 (s1 _ (by omega) (by omega))
      simpa [show A.length + 1 + k - (A.length + 1) = k by omega] using this
    have hd : ∀ y ∈ Y.drop (s - (A.length + 1)), R x y := fun y hy => by
      obtain ⟨k, hk, rfl⟩ := List.getElem_of_mem hy
      rw [List.length_drop] at hk
      rw [List.getElem_drop]
      have hf := s2 (s + k) (by omega) (by omega)
      refine ((hc _ (List.getElem_mem _)).neg hR).1 fun h => ?_
      have := (hp2 (s + k) (by omega) (by omega)).2 (by
        have := (hc _ (List.getElem_mem _)).1.1 h
        simpa [show s + k - (A.length + 1) = s - (A.length + 1) + k by omega] using this)
      rw [this] at hf
      cases hf
    rw [List.pairwise_append, List.pairwise_cons]
    refine ⟨hY.sublist (List.take_sublist _ _), ⟨hd, hY.sublist (List.drop_sublist _ _)⟩, fun a ha b hb => ?_⟩
    rcases List.mem_cons.1 hb with rfl | hb
    · exact ht a ha
    · exact hR.trans _ _ _ (ht a ha) (hd b hb)
theorem sym_last (hR : SOrd R) {A X C : List α} {y : α} (hX : X.Pairwise R) (hc : ∀ x ∈ X, Cross c R x y) :
    ∃ Z, shD (A.length + X.length - bs (fun h => !ltA c (A ++ (X ++ y :: C)) (A.length + X.length) h) X.length A.length (A.length + X.length)) (A.length + X.length) (A ++ (X ++ y :: C)) = A ++ (Z ++ C) ∧ Z.Perm (X ++ [y]) ∧ Z.Pairwise R := by
  have hp : ∀ k (hk : k < X.length), ltA c (A ++ (X ++ y :: C)) (A.length + X.length) (A.length + k) = decide (c y X[k] < 0) := fun k hk => by
    have h1 : (A ++ (X ++ y :: C))[A.length + k]? = some X[k] := by
      rw [List.getElem?_append_right (by omega), show A.length + k - A.length = k by omega, List.getElem?_append_left hk, List.getElem?_eq_getElem hk]
    have h2 : (A ++ (X ++ y :: C))[A.length + X.length]? = some y := by
      rw [List.getElem?_append_right (by omega), show A.length + X.length - A.length = X.length by omega, List.getElem?_append_right (Nat.le_refl _), Nat.sub_self]
      rfl
    rw [ltA, h1, h2]
  obtain ⟨p, hpp⟩ : ∃ p : Nat → Bool, p = fun h => !ltA c (A ++ (X ++ y :: C)) (A.length + X.length) h := ⟨_, rfl⟩
  have hp2 : ∀ h (h1 : A.length ≤ h) (h2 : h < A.length + X.length), p h = true ↔ R (X[h - A.length]'(by omega)) y := fun h h1 h2 => by
    have := hp (h - A.length) (by omega)
    rw [show A.length + (h - A.length) = h by omega] at this
    rw [hpp]
    show (!ltA c (A ++ (X ++ y :: C)) (A.length + X.length) h) = true ↔ _
    rw [this, Bool.not_eq_true', decide_eq_false_iff_not]
    exact (hc _ (List.getElem_mem _)).neg hR
  obtain ⟨b1, b2⟩ := bs_in (p := p) (n := X.length) (i := A.length) (j := A.length + X.length) (by omega)
  obtain ⟨s1, s2⟩ := bs_spec (p := p) (n := X.length) (i := A.length) (j := A.length + X.length) (by omega) (by omega) fun h h' q1 q2 q3 q4 => (hp2 h' q1 (by omega)).2 (hR.trans _ _ _ (pw_at hX (by omega) (by omega)) ((hp2 h (by omega) q3).1 q4))
  rw [← hpp]
  generalize bs p X.length A.length (A.length + X.length) = s at b1 b2 s1 s2
  refine ⟨X.take (s - A.length) ++ y :: X.drop (s - A.length), ?_, ?_, ?_⟩
  · have hl : (X.drop (s - A.length)).length = A.length + X.length - s := by rw [List.length_drop]; omega
    have := shD_app (Y := X.drop (s - A.length)) (A := A ++ X.take (s - A.length)) (C := C) (x := y) hl
    rw [List.append_assoc, ← List.append_assoc (X.take _), List.take_append_drop] at this
    have hl2 : (A ++ X.take (s - A.length)).length + (A.length + X.length - s) = A.length + X.length := by rw [List.length_append, List.length_take]; omega
    rw [hl2] at this
    rw [this]
    simp
  · have := List.perm_middle (l₁ := X.take (s - A.length)) (a := y) (l₂ := X.drop (s - A.length))
    rw [List.take_append_drop] at this
    exact this.trans (List.perm_append_singleton y X).symm
  · have ht : ∀ x ∈ X.take (s - A.length), R x y := fun x hx => by
      obtain ⟨k, hk, rfl⟩ := List.getElem_of_mem hx
      rw [List.length_take] at hk
      rw [List.getElem_take]
      have := (hp2 (A.length + k) (by omega) (by omega)).1 (s1 _ (by omega) (by omega))
      simpa [show A.length + k - A.length = k by omega] using this
    have hd : ∀ x ∈ X.drop (s - A.length), R y x := fun x hx => by
      obtain ⟨k, hk, rfl⟩ := List.getElem_of_mem hx
      rw [List.length_drop] at hk
      rw [List.getElem_drop]
      have hf := s2 (s + k) (by omega) (by omega)
      have hcc := hc (X[s - A.length + k]'(by omega)) (List.getElem_mem _)
      refine Classical.byContradiction fun h => ?_
      have h3 : R X[s - A.length + k] y := hcc.2 fun h4 => h (hcc.1.1 h4)
      have := (hp2 (s + k) (by omega) (by omega)).2 (by simpa [show s + k - A.length = s - A.length + k by omega] using h3)
      rw [this] at hf
      cases hf
    rw [List.pairwise_append, List.pairwise_cons]
    refine ⟨hX.sublist (List.take_sublist _ _), ⟨hd, hX.sublist (List.drop_sublist _ _)⟩, fun a ha b hb => ?_⟩
    rcases List.mem_cons.1 hb with rfl | hb
    · exact ht a ha
    · exact hR.trans _ _ _ (ht a ha) (hd b hb)
end
end Go.Proofs.YtinbdedlmkjokaaGreat.Am

/- The stable sort's plain law: merging, whole. -/
set_option linter.unusedVariables false
set_option linter.unusedSimpArgs false
namespace Go.Proofs.YtinbdedlmkjokaaGreat.Am

section
variable {α : Type} {c : α → α → Int} {R : α → α → Prop}
theorem pw_le {X : List α} (h : X.Pairwise R) {i j : Nat} (hij : i ≤ j) (hj : j < X.length) : X[i]'(by omega) = X[j] ∨ R (X[i]'(by omega)) X[j] := by
  by_cases e : i = j
  · subst e; exact .inl rfl
  · exact .inr (pw_at h (by omega) hj)
theorem chain3 (hR : SOrd R) {x u v y : α} (h1 : x = u ∨ R x u) (h2 : R u v) (h3 : v = y ∨ R v y) : R x y := by
  rcases h1 with rfl | h1 <;> rcases h3 with rfl | h3
  · exact h2
  · exact hR.trans _ _ _ h2 h3
  · exact hR.trans _ _ _ h1 h2
  · exact hR.trans _ _ _ h1 (hR.trans _ _ _ h2 h3)
theorem nil_of_len {X : List α} (h : X.length = 0) : X = [] := List.eq_nil_of_length_eq_zero h
theorem sym_app (hR : SOrd R) : ∀ (n : Nat) {A X Y C : List α}, 1 ≤ X.length → 1 ≤ Y.length → X.length + Y.length ≤ n → X.Pairwise R → Y.Pairwise R → (∀ x ∈ X, ∀ y ∈ Y, Cross c R x y) →
    ∃ Z, sym c n A.length (A.length + X.length) (A.length + X.length + Y.length) (A ++ (X ++ (Y ++ C))) = A ++ (Z ++ C) ∧ Z.Perm (X ++ Y) ∧ Z.Pairwise R
  | 0, A, X, Y, C, hx, hy, hn, _, _, _ => by omega
  | n + 1, A, X, Y, C, hx, hy, hn, hX, hY, hc => by
    rw [sym]
    by_cases hx1 : X.length = 1
    · obtain ⟨x, rfl⟩ := List.length_eq_one_iff.1 hx1
      obtain ⟨Z, h1, h2, h3⟩ := sym_one (c := c) hR (A := A) (C := C) hY (hc x (by simp))
      simp only [List.length_singleton] at *
      rw [if_pos (by omega), show A.length + 1 + Y.length - (A.length + 1) = Y.length by omega]
      exact ⟨Z, h1, h2, h3⟩
    rw [if_neg (by omega)]
    by_cases hy1 : Y.length = 1
    · obtain ⟨y, rfl⟩ := List.length_eq_one_iff.1 hy1
      obtain ⟨Z, h1, h2, h3⟩ := sym_last (c := c) hR (A := A) (C := C) hX (fun x hx => hc x hx y (by simp))
      simp only [List.length_singleton] at *
      rw [if_pos (by omega), show A.length + X.length - A.length = X.length by omega]
      exact ⟨Z, h1, h2, h3⟩
    rw [if_neg (by omega)]
    obtain ⟨a, ha⟩ : ∃ a, a = A.length := ⟨_, rfl⟩
    obtain ⟨m, hm⟩ : ∃ m, m = A.length + X.length := ⟨_, rfl⟩
    obtain ⟨b, hb⟩ : ∃ b, b = A.length + X.length + Y.length := ⟨_, rfl⟩
    obtain ⟨l, hl⟩ : ∃ l, l = A ++ (X ++ (Y ++ C)) := ⟨_, rfl⟩
    rw [← hb, ← hm, ← ha, ← hl]
    obtain ⟨mid, hmid⟩ : ∃ k, k = (a + b) / 2 := ⟨_, rfl⟩
    obtain ⟨p, hp⟩ : ∃ p : Nat → Bool, p = fun h => !ltA c l (mid + m - 1 - h) h := ⟨_, rfl⟩
    obtain ⟨s0, hs0⟩ : ∃ k, k = if mid < m then mid + m - b else a := ⟨_, rfl⟩
    obtain ⟨r0, hr0⟩ : ∃ k, k = if mid < m then mid else m := ⟨_, rfl⟩
    obtain ⟨f0, hf0⟩ : ∃ k, k = if mid < m then b - m else m - a := ⟨_, rfl⟩
    have hst : symStart c a m b l = bs p f0 s0 r0 := by
      rw [symStart, ← hmid, ← hp, hs0, hr0, hf0]
      split <;> rfl
    have hrange : s0 ≤ r0 ∧ r0 ≤ m ∧ r0 ≤ mid ∧ a ≤ s0 ∧ r0 - s0 ≤ f0 ∧ mid + m ≤ s0 + b ∧ (r0 = m ∨ r0 = mid) ∧ (s0 = a ∨ mid + m = s0 + b) := by
      rw [hs0, hr0, hf0]
      split <;> omega
    clear hs0 hr0 hf0
    obtain ⟨r1, r2, r3, r4, r5, r6, r7, r8⟩ := hrange
    simp only [hst, ← hmid]
    have hlX : ∀ h (h1 : a ≤ h) (h2 : h < m), l[h]? = some (X[h - a]'(by omega)) := fun h h1 h2 => by
      rw [hl, List.getElem?_append_right (by omega), List.getElem?_append_left (by omega), ← ha, List.getElem?_eq_getElem (by omega)]
    have hlY : ∀ h (h1 : m ≤ h) (h2 : h < b), l[h]? = some (Y[h - m]'(by omega)) := fun h h1 h2 => by
      rw [hl, List.getElem?_append_right (by omega), List.getElem?_append_right (by omega), List.getElem?_append_left (by omega), List.getElem?_eq_getElem (by omega)]
      congr 2
      omega
    have hp2 : ∀ h (h1 : s0 ≤ h) (h2 : h < r0), p h = true ↔ R (X[h - a]'(by omega)) (Y[mid + m - 1 - h - m]'(by omega)) := fun h h1 h2 => by
      rw [hp]
      show (!ltA c l (mid + m - 1 - h) h) = true ↔ _
      rw [ltA, hlX h (by omega) (by omega), hlY (mid + m - 1 - h) (by omega) (by omega)]
      simp only [Bool.not_eq_true', decide_eq_false_iff_not]
      exact (hc _ (List.getElem_mem _) _ (List.getElem_mem _)).neg hR
    obtain ⟨b1, b2⟩ := bs_in (p := p) (n := f0) r1
    obtain ⟨s1, s2⟩ := bs_spec (p := p) (n := f0) r1 r5 fun h h' q1 q2 q3 q4 => (hp2 h' q1 (by omega)).2 (chain3 hR (.inr (pw_at hX (by omega) (by omega))) ((hp2 h (by omega) q3).1 q4) (pw_le hY (by omega) (by omega)))
    clear hst hp hlX hlY r5
    generalize bs p f0 s0 r0 = s at b1 b2 s1 s2 ⊢
    obtain ⟨e, he⟩ : ∃ e, e = mid + m - s := ⟨_, rfl⟩
    rw [← he]
    obtain ⟨X1, hX1⟩ : ∃ q, q = X.take (s - a) := ⟨_, rfl⟩
    obtain ⟨X2, hX2⟩ : ∃ q, q = X.drop (s - a) := ⟨_, rfl⟩
    obtain ⟨Y1, hY1⟩ : ∃ q, q = Y.take (e - m) := ⟨_, rfl⟩
    obtain ⟨Y2, hY2⟩ : ∃ q, q = Y.drop (e - m) := ⟨_, rfl⟩
    have lX1 : X1.length = s - a := by rw [hX1, List.length_take]; omega
    have lX2 : X2.length = m - s := by rw [hX2, List.length_drop]; omega
    have lY1 : Y1.length = e - m := by rw [hY1, List.length_take]; omega
    have lY2 : Y2.length = b - e := by rw [hY2, List.length_drop]; omega
    have eX : X1 ++ X2 = X := by rw [hX1, hX2, List.take_append_drop]
    have eY : Y1 ++ Y2 = Y := by rw [hY1, hY2, List.take_append_drop]
    -- what is ahead of what
    have cXY : ∀ x ∈ X1, ∀ y ∈ Y2, R x y := fun x hx y hy => by
      rw [hX1] at hx
      rw [hY2] at hy
      obtain ⟨i, hi, rfl⟩ := List.getElem_of_mem hx
      obtain ⟨k, hk, rfl⟩ := List.getElem_of_mem hy
      rw [List.length_take] at hi
      rw [List.length_drop] at hk
      rw [List.getElem_take, List.getElem_drop]
      have h1 := (hp2 (s - 1) (by omega) (by omega)).1 (s1 _ (by omega) (by omega))
      exact chain3 hR (pw_le hX (by omega) (by omega)) h1 (pw_le hY (by omega) (by omega))
    have cYX : ∀ y ∈ Y1, ∀ x ∈ X2, R y x := fun y hy x hx => by
      rw [hX2] at hx
      rw [hY1] at hy
      obtain ⟨i, hi, rfl⟩ := List.getElem_of_mem hx
      obtain ⟨k, hk, rfl⟩ := List.getElem_of_mem hy
      rw [List.length_drop] at hi
      rw [List.length_take] at hk
      rw [List.getElem_take, List.getElem_drop]
      have h1 := s2 s (Nat.le_refl _) (by omega)
      have hcc := hc (X[s - a]'(by omega)) (List.getElem_mem _) (Y[mid + m - 1 - s - m]'(by omega)) (List.getElem_mem _)
      have h2 : R (Y[mid + m - 1 - s - m]'(by omega)) (X[s - a]'(by omega)) := Classical.byContradiction fun h => by
        have h3 := hcc.2 fun h4 => h (hcc.1.1 h4)
        rw [(hp2 s b1 (by omega)).2 h3] at h1
        cases h1
      exact chain3 hR (pw_le hY (by omega) (by omega)) h2 (pw_le hX (by omega) (by omega))
    have pX := hX
    have pY := hY
    rw [← eX, List.pairwise_append] at pX
    rw [← eY, List.pairwise_append] at pY
    have hc2 : ∀ x ∈ X1 ++ X2, ∀ y ∈ Y1 ++ Y2, Cross c R x y := by rw [eX, eY]; exact hc
    have hl1 : (if s < m ∧ m < e then rotF s m e l else l) = A ++ (X1 ++ (Y1 ++ (X2 ++ (Y2 ++ C)))) := by
      have e0 : l = A ++ (X1 ++ (X2 ++ (Y1 ++ (Y2 ++ C)))) := by
        rw [hl, ← eX, ← eY]
        simp
      split
      · have := rotF_app (A := A ++ X1) (I := X2) (J := Y1) (C := Y2 ++ C) (by omega) (by omega)
        rw [List.length_append, lX1, lX2, lY1, ← ha, show a + (s - a) = s by omega, show s + (m - s) = m by omega, show m + (e - m) = e by omega] at this
        rw [e0]
        simpa using this
      · rw [e0]
        by_cases h0 : X2.length = 0
        · rw [nil_of_len h0]; simp
        · rw [nil_of_len (X := Y1) (by omega)]; simp
    rw [hl1]
    obtain ⟨Z1, z1, z2, z3⟩ : ∃ Z1, (if a < s ∧ s < mid then sym c n a s mid (A ++ (X1 ++ (Y1 ++ (X2 ++ (Y2 ++ C))))) else A ++ (X1 ++ (Y1 ++ (X2 ++ (Y2 ++ C))))) = A ++ (Z1 ++ (X2 ++ (Y2 ++ C))) ∧ Z1.Perm (X1 ++ Y1) ∧ Z1.Pairwise R := by
      split
      · obtain ⟨Z, h1, h2, h3⟩ := sym_app hR n (A := A) (X := X1) (Y := Y1) (C := X2 ++ (Y2 ++ C)) (by omega) (by omega) (by omega) pX.1 pY.1 (fun x hx y hy => hc2 x (List.mem_append_left _ hx) y (List.mem_append_left _ hy))
        rw [lX1, lY1, ← ha, show a + (s - a) = s by omega, show s + (e - m) = mid by omega] at h1
        exact ⟨Z, h1, h2, h3⟩
      · refine ⟨X1 ++ Y1, by simp, .refl _, ?_⟩
        by_cases h0 : X1.length = 0
        · rw [nil_of_len h0]; exact pY.1
        · rw [nil_of_len (X := Y1) (by omega), List.append_nil]; exact pX.1
    rw [z1]
    have lZ1 : Z1.length = mid - a := by rw [z2.length_eq, List.length_append]; omega
    obtain ⟨Z2, w1, w2, w3⟩ : ∃ Z2, (if mid < e ∧ e < b then sym c n mid e b (A ++ (Z1 ++ (X2 ++ (Y2 ++ C)))) else A ++ (Z1 ++ (X2 ++ (Y2 ++ C)))) = A ++ (Z1 ++ (Z2 ++ C)) ∧ Z2.Perm (X2 ++ Y2) ∧ Z2.Pairwise R := by
      split
      · obtain ⟨Z, h1, h2, h3⟩ := sym_app hR n (A := A ++ Z1) (X := X2) (Y := Y2) (C := C) (by omega) (by omega) (by omega) pX.2.1 pY.2.1 (fun x hx y hy => hc2 x (List.mem_append_right _ hx) y (List.mem_append_right _ hy))
        rw [List.length_append, lZ1, lX2, lY2, ← ha, show a + (mid - a) = mid by omega, show mid + (m - s) = e by omega, show e + (b - e) = b by omega] at h1
        refine ⟨Z, ?_, h2, h3⟩
        simpa using h1
      · refine ⟨X2 ++ Y2, by simp, .refl _, ?_⟩
        by_cases h0 : X2.length = 0
        · rw [nil_of_len h0]; exact pY.2.1
        · rw [nil_of_len (X := Y2) (by omega), List.append_nil]; exact pX.2.1
    rw [w1]
    refine ⟨Z1 ++ Z2, by simp, ?_, ?_⟩
    · refine (z2.append w2).trans ?_
      rw [← eX, ← eY, List.append_assoc, List.append_assoc]
      exact (List.perm_append_comm_assoc Y1 X2 Y2).append_left X1
    · rw [List.pairwise_append]
      refine ⟨z3, w3, fun x hx y hy => ?_⟩
      rcases List.mem_append.1 (z2.mem_iff.1 hx) with hx | hx <;> rcases List.mem_append.1 (w2.mem_iff.1 hy) with hy | hy
      · exact pX.2.2 x hx y hy
      · exact cXY x hx y hy
      · exact cYX x hx y hy
      · exact pY.2.2 x hx y hy
end
end Go.Proofs.YtinbdedlmkjokaaGreat.Am

/- The stable sort's plain law, whole. -/
set_option linter.unusedVariables false
set_option linter.unusedSimpArgs false
namespace Go.Proofs.YtinbdedlmkjokaaGreat.Am

section
variable {α : Type} {c : α → α → Int} {R : α → α → Prop}
theorem insIn_app (hR : SOrd R) : ∀ (n : Nat) {A S C : List α} {x : α}, S.length = n → S.Pairwise R → (∀ s ∈ S, Cross c R s x) → ∃ Z, insIn c A.length (A.length + n) (A ++ (S ++ x :: C)) = A ++ (Z ++ C) ∧ Z.Perm (S ++ [x]) ∧ Z.Pairwise R
  | 0, A, S, C, x, hn, hS, hc => by
    rw [nil_of_len hn]
    refine ⟨[x], ?_, by simp, by simp⟩
    have : insIn c A.length (A.length + 0) (A ++ ([] ++ x :: C)) = A ++ ([] ++ x :: C) := by
      generalize hj : A.length + 0 = j
      cases j with
      | zero => rfl
      | succ j => rw [insIn, if_neg (fun h => by omega)]
    rw [this]
    simp
  | n + 1, A, S, C, x, hn, hS, hc => by
    obtain ⟨T, s, rfl⟩ : ∃ T s, S = T ++ [s] := ⟨S.dropLast, S.getLast (by intro e; simp [e] at hn), (List.dropLast_concat_getLast _).symm⟩
    have hT : T.length = n := by simp at hn; omega
    rw [List.pairwise_append] at hS
    have hcs := hc s (by simp)
    have e1 : A ++ (T ++ [s] ++ x :: C) = (A ++ T) ++ s :: ([] ++ x :: C) := by simp
    have h1 : (A ++ (T ++ [s] ++ x :: C))[A.length + n]? = some s := by
      rw [e1, List.getElem?_append_right (by simp; omega)]
      simp [hT]
    have h2 : (A ++ (T ++ [s] ++ x :: C))[A.length + n + 1]? = some x := by
      rw [e1, List.getElem?_append_right (by simp; omega)]
      simp [hT]
    have hl : ltA c (A ++ (T ++ [s] ++ x :: C)) (A.length + n + 1) (A.length + n) = decide (c x s < 0) := by rw [ltA, h1, h2]
    rw [show A.length + (n + 1) = A.length + n + 1 by omega, insIn, hl]
    by_cases hlt : c x s < 0
    · rw [if_pos ⟨by omega, decide_eq_true hlt⟩]
      have hs : sw (A ++ (T ++ [s] ++ x :: C)) (A.length + n + 1) (A.length + n) = A ++ (T ++ x :: (s :: C)) := by
        have h3 := sw_app (A := A ++ T) (B := []) (C := C) (x := s) (y := x)
        have hsym : ∀ (l : List α) (i j : Nat), i < l.length → j < l.length → i ≠ j → sw l j i = sw l i j := fun l i j hi hj hij => by
          rw [sw_eq hj hi, sw_eq hi hj, List.set_comm _ _ (fun e => hij e.symm)]
        rw [e1, hsym _ (A.length + n) (A.length + n + 1) (by simp; omega) (by simp; omega) (by omega)]
        simp only [List.length_append, hT, List.length_nil, Nat.add_zero] at h3
        rw [h3]
        simp
      rw [hs]
      obtain ⟨Z, z1, z2, z3⟩ := insIn_app hR n (A := A) (S := T) (C := s :: C) (x := x) hT hS.1 (fun q hq => hc q (by simp [hq]))
      refine ⟨Z ++ [s], by rw [z1]; simp, ?_, ?_⟩
      · refine (z2.append_right [s]).trans ?_
        simp only [List.append_assoc]
        exact (List.perm_append_comm (l₁ := [x]) (l₂ := [s])).append_left T
      · rw [List.pairwise_append]
        refine ⟨z3, by simp, fun z hz q hq => ?_⟩
        rw [List.mem_singleton.1 hq]
        rcases List.mem_append.1 (z2.mem_iff.1 hz) with hz | hz
        · exact hS.2.2 z hz s (by simp)
        · rw [List.mem_singleton.1 hz]
          exact hcs.1.1 hlt
    · rw [if_neg (by simp [hlt])]
      have hsx : R s x := hcs.2 hlt
      refine ⟨T ++ [s] ++ [x], by simp, .refl _, ?_⟩
      rw [List.pairwise_append]
      refine ⟨by rw [List.pairwise_append]; exact hS, by simp, fun z hz q hq => ?_⟩
      rw [List.mem_singleton.1 hq]
      rcases List.mem_append.1 hz with hz | hz
      · exact hR.trans _ _ _ (hS.2.2 z hz s (by simp)) hsx
      · rw [List.mem_singleton.1 hz]
        exact hsx
theorem insOut_app (hR : SOrd R) : ∀ {T A S C : List α}, S.Pairwise R → T.Pairwise (Cross c R) → (∀ s ∈ S, ∀ t ∈ T, Cross c R s t) → ∃ Z, insOut c A.length T.length (A.length + S.length) (A ++ (S ++ (T ++ C))) = A ++ (Z ++ C) ∧ Z.Perm (S ++ T) ∧ Z.Pairwise R
  | [], A, S, C, hS, hT, hc => ⟨S, by simp [insOut], by simp, hS⟩
  | t :: T, A, S, C, hS, hT, hc => by
    rw [List.pairwise_cons] at hT
    obtain ⟨Z, z1, z2, z3⟩ := insIn_app (c := c) hR S.length (A := A) (S := S) (C := T ++ C) (x := t) rfl hS (fun s hs => hc s hs t (by simp))
    rw [List.length_cons, insOut, List.cons_append, z1]
    have hl : Z.length = S.length + 1 := by rw [z2.length_eq]; simp
    obtain ⟨W, w1, w2, w3⟩ := insOut_app hR (T := T) (A := A) (S := Z) (C := C) z3 hT.2 (fun s hs q hq => by
      rcases List.mem_append.1 (z2.mem_iff.1 hs) with hs | hs
      · exact hc s hs q (by simp [hq])
      · rw [List.mem_singleton.1 hs]; exact hT.1 q hq)
    rw [hl, ← Nat.add_assoc] at w1
    refine ⟨W, w1, w2.trans ?_, w3⟩
    refine (z2.append_right T).trans ?_
    simp
theorem insF_app (hR : SOrd R) {A X C : List α} (hX : X.Pairwise (Cross c R)) : ∃ Z, insF c A.length (A.length + X.length) (A ++ (X ++ C)) = A ++ (Z ++ C) ∧ Z.Perm X ∧ Z.Pairwise R := by
  cases X with
  | nil => exact ⟨[], by simp [insF, insOut], .refl _, .nil⟩
  | cons x T =>
    rw [List.pairwise_cons] at hX
    obtain ⟨Z, z1, z2, z3⟩ := insOut_app (c := c) hR (T := T) (A := A) (S := [x]) (C := C) (by simp) hX.2 (fun s hs t ht => by rw [List.mem_singleton.1 hs]; exact hX.1 t ht)
    refine ⟨Z, ?_, z2, z3⟩
    rw [insF, List.length_cons, show A.length + (T.length + 1) - (A.length + 1) = T.length by omega]
    exact z1
inductive Blocks (c : α → α → Int) (R : α → α → Prop) (w : Nat) : List α → Prop
  | last (X : List α) : X.length ≤ w → X.Pairwise R → Blocks c R w X
  | cons (X l : List α) : X.length = w → X.Pairwise R → (∀ x ∈ X, ∀ y ∈ l, Cross c R x y) → Blocks c R w l → Blocks c R w (X ++ l)
theorem Blocks.few {w : Nat} {l : List α} (h : Blocks c R w l) (hl : l.length ≤ w) : l.Pairwise R := by
  cases h with
  | last X h1 h2 => exact h2
  | cons X l h1 h2 h3 h4 =>
    rw [List.length_append] at hl
    rw [nil_of_len (X := l) (by omega), List.append_nil]
    exact h2
theorem Blocks.head {w : Nat} {l : List α} (h : Blocks c R w l) (hl : w < l.length) : ∃ X q, l = X ++ q ∧ X.length = w ∧ X.Pairwise R ∧ (∀ x ∈ X, ∀ y ∈ q, Cross c R x y) ∧ Blocks c R w q := by
  cases h with
  | last X h1 h2 => omega
  | cons X l h1 h2 h3 h4 => exact ⟨X, l, rfl, h1, h2, h3, h4⟩
theorem mrg_app (hR : SOrd R) {w : Nat} (hw : 1 ≤ w) {n : Nat} : ∀ (k : Nat) {A l : List α}, n = A.length + l.length → l.length < k → Blocks c R w l → ∃ q, mrg c n w k A.length (A ++ l) = A ++ q ∧ q.Perm l ∧ Blocks c R (2 * w) q
  | 0, A, l, hn, hk, hB => by omega
  | k + 1, A, l, hn, hk, hB => by
    rw [mrg]
    by_cases h2 : A.length + 2 * w ≤ n
    · rw [if_pos h2]
      obtain ⟨X, q, rfl, hX, pX, cX, hq⟩ := hB.head (by omega)
      rw [List.length_append] at hn hk
      obtain ⟨Y, u, rfl, hY, pY, hu, cY⟩ : ∃ Y u, q = Y ++ u ∧ Y.length = w ∧ Y.Pairwise R ∧ Blocks c R w u ∧ (∀ y ∈ Y, ∀ z ∈ u, Cross c R y z) := by
        by_cases hqw : q.length = w
        · exact ⟨q, [], by simp, hqw, hq.few (by omega), .last [] (by simp) .nil, fun y _ z hz => by simp at hz⟩
        · obtain ⟨Y, u, e, h1, h2, h3, h4⟩ := hq.head (by omega)
          exact ⟨Y, u, e, h1, h2, h4, h3⟩
      obtain ⟨Z, z1, z2, z3⟩ := sym_app (c := c) hR (2 * w) (A := A) (X := X) (Y := Y) (C := u) (by omega) (by omega) (by omega) pX pY (fun x hx y hy => cX x hx y (List.mem_append_left _ hy))
      rw [hX, hY, show A.length + w + w = A.length + 2 * w by omega] at z1
      rw [z1]
      have hZ : Z.length = 2 * w := by rw [z2.length_eq, List.length_append]; omega
      rw [List.length_append] at hn hk
      obtain ⟨v, v1, v2, v3⟩ := mrg_app hR hw (n := n) k (A := A ++ Z) (l := u) (by rw [List.length_append]; omega) (by omega) hu
      rw [List.length_append, hZ] at v1
      refine ⟨Z ++ v, by rw [← List.append_assoc, v1, List.append_assoc], ?_, ?_⟩
      · refine (z2.append v2).trans ?_
        simp
      · refine .cons Z v hZ z3 (fun x hx y hy => ?_) v3
        have hy := v2.mem_iff.1 hy
        rcases List.mem_append.1 (z2.mem_iff.1 hx) with hx | hx
        · exact cX x hx y (List.mem_append_right _ hy)
        · exact cY x hx y hy
    · rw [if_neg h2]
      by_cases h1 : A.length + w < n
      · rw [if_pos h1]
        obtain ⟨X, Y, rfl, hX, pX, cX, hq⟩ := hB.head (by omega)
        rw [List.length_append] at hn hk
        have pY := hq.few (by omega)
        obtain ⟨Z, z1, z2, z3⟩ := sym_app (c := c) hR (n - A.length) (A := A) (X := X) (Y := Y) (C := []) (by omega) (by omega) (by omega) pX pY cX
        rw [hX, show A.length + w + Y.length = n by omega, List.append_nil, List.append_nil] at z1
        refine ⟨Z, z1, z2, .last Z ?_ z3⟩
        rw [z2.length_eq, List.length_append]
        omega
      · rw [if_neg h1]
        exact ⟨l, rfl, .refl _, .last l (by omega) (hB.few (by omega))⟩
theorem mrgs_app (hR : SOrd R) {n : Nat} : ∀ (k : Nat) {w : Nat} {l : List α}, 1 ≤ w → n = l.length → n - w < k → Blocks c R w l → (mrgs c n k w l).Perm l ∧ (mrgs c n k w l).Pairwise R
  | 0, w, l, hw, hn, hk, hB => by omega
  | k + 1, w, l, hw, hn, hk, hB => by
    rw [mrgs]
    by_cases h : w < n
    · rw [if_pos h]
      obtain ⟨q, q1, q2, q3⟩ := mrg_app hR hw (n := n) (n + 1) (A := []) (l := l) (by simpa using hn) (by omega) hB
      simp only [List.length_nil, List.nil_append] at q1
      rw [q1]
      obtain ⟨h1, h2⟩ := mrgs_app hR (n := n) k (w := 2 * w) (l := q) (by omega) (by rw [q2.length_eq]; exact hn) (by omega) q3
      exact ⟨h1.trans q2, h2⟩
    · rw [if_neg h]
      exact ⟨.refl _, hB.few (by omega)⟩
theorem blk_app (hR : SOrd R) {n : Nat} : ∀ (k : Nat) {A X : List α}, n = A.length + X.length → X.length < k → X.Pairwise (Cross c R) → ∃ q, blk c n k A.length (A ++ X) = A ++ q ∧ q.Perm X ∧ Blocks c R 20 q
  | 0, A, X, hn, hk, hX => by omega
  | k + 1, A, X, hn, hk, hX => by
    rw [blk]
    by_cases h : A.length + 20 ≤ n
    · rw [if_pos h]
      obtain ⟨Y, u, rfl, hY⟩ : ∃ Y u, X = Y ++ u ∧ Y.length = 20 := ⟨X.take 20, X.drop 20, (List.take_append_drop _ _).symm, by rw [List.length_take]; omega⟩
      rw [List.length_append] at hn hk
      rw [List.pairwise_append] at hX
      obtain ⟨Z, z1, z2, z3⟩ := insF_app (c := c) hR (A := A) (X := Y) (C := u) hX.1
      rw [hY] at z1
      rw [z1]
      have hZ : Z.length = 20 := by rw [z2.length_eq]; exact hY
      obtain ⟨v, v1, v2, v3⟩ := blk_app hR (n := n) k (A := A ++ Z) (X := u) (by rw [List.length_append]; omega) (by omega) hX.2.1
      rw [List.length_append, hZ] at v1
      refine ⟨Z ++ v, by rw [← List.append_assoc, v1, List.append_assoc], z2.append v2, .cons Z v hZ z3 (fun x hx y hy => hX.2.2 x (z2.mem_iff.1 hx) y (v2.mem_iff.1 hy)) v3⟩
    · rw [if_neg h]
      obtain ⟨Z, z1, z2, z3⟩ := insF_app (c := c) hR (A := A) (X := X) (C := []) hX
      rw [← hn, List.append_nil, List.append_nil] at z1
      exact ⟨Z, z1, z2, .last Z (by rw [z2.length_eq]; omega) z3⟩
/-- The stable sort: the same elements, in order. -/
theorem stableF_spec (hR : SOrd R) {l : List α} (hl : l.Pairwise (Cross c R)) : (stableF c l).Perm l ∧ (stableF c l).Pairwise R := by
  obtain ⟨q, q1, q2, q3⟩ := blk_app hR (n := l.length) (l.length + 1) (A := []) (X := l) (by simp) (by omega) hl
  simp only [List.length_nil, List.nil_append] at q1
  rw [stableF, q1]
  obtain ⟨h1, h2⟩ := mrgs_app hR (n := l.length) (l.length + 1) (w := 20) (l := q) (by decide) q2.length_eq.symm (by omega) q3
  exact ⟨h1.trans q2, h2⟩
end
end Go.Proofs.YtinbdedlmkjokaaGreat.Am

/- Rows whose numbers rise. -/
set_option linter.unusedVariables false
set_option linter.unusedSimpArgs false
namespace Go.Proofs.YtinbdedlmkjokaaGreat.Am

def Rise (l : List RowD) : Prop := l.Pairwise fun a b => a.id < b.id
theorem rowsAux_rise {t : Table} : ∀ {l : List RowD} {p : Option Int}, rowsAux t p l = true → Rise l ∧ ∀ q, p = some q → ∀ r ∈ l, q < r.id
  | [], p, _ => ⟨.nil, fun q _ r hr => by simp at hr⟩
  | a :: l, p, h => by
    rw [rowsAux, Bool.and_eq_true] at h
    obtain ⟨h1, h2⟩ := rowsAux_rise h.2
    have h3 := h2 a.id rfl
    refine ⟨List.pairwise_cons.2 ⟨h3, h1⟩, fun q hq r hr => ?_⟩
    subst hq
    have h4 : q < a.id := by
      have := h.1
      simp only [rowOne, risesId, Bool.and_eq_true, decide_eq_true_eq] at this
      exact this.2.1
    rcases List.mem_cons.1 hr with rfl | hr
    · exact h4
    · exact Int.lt_trans h4 (h3 r hr)
theorem rowsF_rise {t : Table} {l : List RowD} (h : rowsF t l = true) : Rise l := by
  rw [rowsF, Bool.and_eq_true] at h
  exact (rowsAux_rise h.1).1
end Go.Proofs.YtinbdedlmkjokaaGreat.Am

/- Queries: rows that match, sorted. Plain laws. -/
set_option linter.unusedVariables false
set_option linter.unusedSimpArgs false
namespace Go.Proofs.YtinbdedlmkjokaaGreat.Am

def keptF (l : List RowD) (w : List Tok) : List RowD := l.filter fun r => decide (isM w r = 1)
theorem matchAux_ids {w : List Tok} : ∀ {l : List RowD} {acc ids : List Int}, matchAux w l acc = some ids → ids = acc ++ (keptF l w).map RowD.id
  | [], acc, ids, h => by injection h with h; subst h; simp [keptF]
  | r :: l, acc, ids, h => by
    rw [matchAux] at h
    split at h
    · cases h
    · rw [matchAux_ids h, keptF, keptF, List.filter_cons]
      split
      · rename_i h1
        simp [h1]
      · rename_i h1
        simp [h1]
theorem matchF_ids {l : List RowD} {w : List Tok} (h : (matchF l w).2 = true) : (matchF l w).1 = (keptF l w).map RowD.id := by
  rw [matchF] at h ⊢
  split at h
  · rename_i ids hm
    rw [matchAux_ids hm]
    simp
  · cases h
theorem Rise.inj {l : List RowD} (h : Rise l) {a b : RowD} (ha : a ∈ l) (hb : b ∈ l) (he : a.id = b.id) : a = b := by
  induction l with
  | nil => simp at ha
  | cons x r ih =>
    obtain ⟨h1, h2⟩ := List.pairwise_cons.1 h
    rcases List.mem_cons.1 ha with e1 | ha2 <;> rcases List.mem_cons.1 hb with e2 | hb2
    · rw [e1, e2]
    · have := h1 b hb2; rw [← e1] at this; omega
    · have := h1 a ha2; rw [← e2] at this; omega
    · exact ih h2 ha2 hb2
theorem Rise.kept {l : List RowD} (h : Rise l) (w : List Tok) : Rise (keptF l w) := List.Pairwise.sublist List.filter_sublist h
theorem pick_kept {l : List RowD} (h : Rise l) (w : List Tok) : l.filter (fun r => ((keptF l w).map RowD.id).contains r.id) = keptF l w := by
  refine List.filter_congr fun r hr => ?_
  by_cases h1 : isM w r = 1
  · have : r.id ∈ (keptF l w).map RowD.id := List.mem_map.2 ⟨r, List.mem_filter.2 ⟨hr, decide_eq_true h1⟩, rfl⟩
    rw [decide_eq_true h1, List.contains_iff_mem.2 this]
  · rw [decide_eq_false h1]
    refine Bool.eq_false_iff.2 fun hc => h1 ?_
    obtain ⟨q, hq, he⟩ := List.mem_map.1 (List.contains_iff_mem.1 hc)
    obtain ⟨hq1, hq2⟩ := List.mem_filter.1 hq
    rw [h.inj hr hq1 he.symm]
    exact of_decide_eq_true hq2
/-! ### the order -/
def rE (by_ : List Int) (r : RowD) : Entry := ⟨keyF by_ r.vals, r.id⟩
theorem rE_len (by_ : List Int) (r : RowD) : (rE by_ r).key.length = by_.length := keyF_len by_ r.vals
def RLt (by_ : List Int) (r s : RowD) : Prop := rowOrd by_ r s < 0
theorem RLt.ord (by_ : List Int) : SOrd (RLt by_) := by
  have hC := entOrd_cmp by_.length
  refine ⟨fun x y z h1 h2 => ?_, fun x y h1 h2 => ?_⟩
  · exact hC.trans _ _ _ (rE_len by_ x) (rE_len by_ y) (rE_len by_ z) h1 h2
  · have := (hC.flip _ _ (rE_len by_ x) (rE_len by_ y)).1 h1
    have h3 : entOrd (rE by_ y) (rE by_ x) < 0 := h2
    omega
theorem RLt.cross {by_ : List Int} {l : List RowD} (h : Rise l) : l.Pairwise (Cross (rowOrd by_) (RLt by_)) := by
  have hC := entOrd_cmp by_.length
  refine List.Pairwise.imp (fun {x y} hxy => ⟨Iff.rfl, fun h1 => ?_⟩) h
  have h2 : ¬ entOrd (rE by_ y) (rE by_ x) < 0 := h1
  have h3 : ¬ entOrd (rE by_ y) (rE by_ x) = 0 := fun h0 => by
    have := congrArg Entry.id (hC.eq _ _ (rE_len by_ y) (rE_len by_ x) h0)
    have : y.id = x.id := this
    omega
  exact (hC.flip _ _ (rE_len by_ x) (rE_len by_ y)).2 (by omega)
theorem sorted_unique {α : Type} {R : α → α → Prop} (hR : SOrd R) : ∀ {a b : List α}, a.Pairwise R → b.Pairwise R → a.Perm b → a = b
  | [], b, _, _, hp => (List.nil_perm.1 hp).symm
  | x :: r, [], _, _, hp => absurd hp.symm (fun h => by simpa using List.nil_perm.1 h)
  | x :: r, y :: t, ha, hb, hp => by
    have ha' := List.pairwise_cons.1 ha
    have hb' := List.pairwise_cons.1 hb
    have hxy : x = y := by
      have h1 : x ∈ y :: t := hp.mem_iff.1 (by simp)
      have h2 : y ∈ x :: r := hp.mem_iff.2 (by simp)
      rcases List.mem_cons.1 h1 with h1 | h1
      · exact h1
      · rcases List.mem_cons.1 h2 with h2 | h2
        · exact h2.symm
        · exact absurd (ha'.1 y h2) (hR.asymm _ _ (hb'.1 x h1))
    subst hxy
    rw [sorted_unique hR ha'.2 hb'.2 (List.Perm.cons_inv hp)]
/-! ### the reference inserts one by one -/
theorem okVal_at {a : List Val} (h : ∀ v ∈ a, okVal v = true) (c : Int) : okVal (valAt a c) = true := by
  rw [valAt]
  cases hc : a[c.toNat]? with
  | none => exact okVal_null
  | some v => exact h v (List.mem_of_getElem? hc)
theorem lessBy_eq {a b : List Val} (ha : ∀ v ∈ a, okVal v = true) (hb : ∀ v ∈ b, okVal v = true) : ∀ by_ : List Int, lessBy a b by_ = decide (orderOf (keyF by_ a) (keyF by_ b) < 0)
  | [] => by simp [lessBy, keyF, orderOf]
  | c :: r => by
    have ih := lessBy_eq ha hb r
    have h1 : keyF (c :: r) a = valAt a c :: keyF r a := rfl
    have h2 : keyF (c :: r) b = valAt b c :: keyF r b := rfl
    rw [lessBy, h1, h2, orderOf, l1Ord_order (okVal_at ha c) (okVal_at hb c), ih]
    split <;> simp_all
def insPos (by_ : List Int) (x : RowD) : List RowD → Nat
  | [] => 0
  | r :: l => if lessBy x.vals r.vals by_ then 0 else insPos by_ x l + 1
def insR (by_ : List Int) (x : RowD) (l : List RowD) : List RowD := l.take (insPos by_ x l) ++ x :: l.drop (insPos by_ x l)
theorem insPos_le (by_ : List Int) (x : RowD) : ∀ l : List RowD, insPos by_ x l ≤ l.length
  | [] => Nat.le_refl _
  | r :: l => by
    have := insPos_le by_ x l
    rw [insPos]
    split <;> simp <;> omega
theorem insR_perm (by_ : List Int) (x : RowD) (l : List RowD) : (insR by_ x l).Perm (l ++ [x]) := by
  have h := List.perm_middle (l₁ := l.take (insPos by_ x l)) (a := x) (l₂ := l.drop (insPos by_ x l))
  rw [List.take_append_drop] at h
  exact h.trans (List.perm_append_singleton x l).symm
def OkR (r : RowD) : Prop := ∀ v ∈ r.vals, okVal v = true
theorem insR_sorted {by_ : List Int} {x : RowD} (hx : OkR x) : ∀ {l : List RowD}, l.Pairwise (RLt by_) → (∀ r ∈ l, OkR r ∧ r.id < x.id) → (insR by_ x l).Pairwise (RLt by_)
  | [], _, _ => by simp [insR, insPos]
  | a :: r, hs, hn => by
    have hC := orderOf_cmp by_.length
    have hs' := List.pairwise_cons.1 hs
    obtain ⟨hoa, hia⟩ := hn a (by simp)
    have hl := lessBy_eq hx hoa by_
    have lx := keyF_len by_ x.vals
    have la := keyF_len by_ a.vals
    rw [insR, insPos]
    by_cases h : orderOf (keyF by_ x.vals) (keyF by_ a.vals) < 0
    · have h2 : lessBy x.vals a.vals by_ = true := by rw [hl]; exact decide_eq_true h
      rw [h2, if_pos rfl, List.take_zero, List.drop_zero, List.nil_append]
      have hxa : RLt by_ x a := by
        show orI [orderOf (keyF by_ x.vals) (keyF by_ a.vals), cmpI x.id a.id] < 0
        rw [orI, if_neg (by omega)]
        exact h
      refine List.pairwise_cons.2 ⟨fun q hq => ?_, hs⟩
      rcases List.mem_cons.1 hq with rfl | hq
      · exact hxa
      · exact (RLt.ord by_).trans _ _ _ hxa (hs'.1 q hq)
    · have h2 : lessBy x.vals a.vals by_ = false := by rw [hl]; exact decide_eq_false h
      rw [h2, if_neg (by decide), List.take_succ_cons, List.drop_succ_cons, List.cons_append]
      have ih := insR_sorted hx hs'.2 fun q hq => hn q (by simp [hq])
      have hax : RLt by_ a x := by
        show orI [orderOf (keyF by_ a.vals) (keyF by_ x.vals), cmpI a.id x.id] < 0
        by_cases h0 : orderOf (keyF by_ x.vals) (keyF by_ a.vals) = 0
        · rw [hC.eq _ _ lx la h0, hC.refl _ la, orI, if_pos rfl, orI]
          rw [cmpI, if_pos hia]
          decide
        · have h3 := (hC.flip _ _ la lx).2 (by omega)
          rw [orI, if_neg (by omega)]
          exact h3
      refine List.pairwise_cons.2 ⟨fun q hq => ?_, ih⟩
      have hq2 := (insR_perm by_ x r).mem_iff.1 hq
      rcases List.mem_append.1 hq2 with hq2 | hq2
      · exact hs'.1 q hq2
      · rw [List.mem_singleton.1 hq2]; exact hax
def insAll (by_ : List Int) : List RowD → List RowD → List RowD
  | [], acc => acc
  | x :: l, acc => insAll by_ l (insR by_ x acc)
theorem insAll_spec {by_ : List Int} : ∀ {l acc : List RowD}, Rise l → (∀ x ∈ l, OkR x) → acc.Pairwise (RLt by_) → (∀ a ∈ acc, OkR a ∧ ∀ x ∈ l, a.id < x.id) → (insAll by_ l acc).Perm (acc ++ l) ∧ (insAll by_ l acc).Pairwise (RLt by_)
  | [], acc, _, _, h, _ => by rw [insAll, List.append_nil]; exact ⟨.refl _, h⟩
  | x :: l, acc, h1, h2, h3, h4 => by
    have h1' := List.pairwise_cons.1 h1
    have hx := h2 x (by simp)
    have hp := insR_perm by_ x acc
    have hs := insR_sorted hx h3 fun r hr => ⟨(h4 r hr).1, (h4 r hr).2 x (by simp)⟩
    obtain ⟨p1, p2⟩ := insAll_spec (acc := insR by_ x acc) h1'.2 (fun y hy => h2 y (by simp [hy])) hs fun a ha => by
      rcases List.mem_append.1 (hp.mem_iff.1 ha) with ha | ha
      · exact ⟨(h4 a ha).1, fun y hy => (h4 a ha).2 y (by simp [hy])⟩
      · rw [List.mem_singleton.1 ha]; exact ⟨hx, h1'.1⟩
    refine ⟨?_, p2⟩
    rw [insAll]
    refine p1.trans ((hp.append_right l).trans ?_)
    simp
/-- The rows in order, as the reference makes them. -/
def sortedF (by_ : List Int) (K : List RowD) : List RowD := insAll by_ K []
theorem sortedF_spec {by_ : List Int} {K : List RowD} (h1 : Rise K) (h2 : ∀ x ∈ K, OkR x) : (sortedF by_ K).Perm K ∧ (sortedF by_ K).Pairwise (RLt by_) := by
  have := insAll_spec (by_ := by_) (l := K) (acc := []) h1 h2 .nil fun a ha => by simp at ha
  simpa [sortedF] using this
/-- The program's stable sort makes the same. -/
theorem stable_sorted {by_ : List Int} {K : List RowD} (h1 : Rise K) (h2 : ∀ x ∈ K, OkR x) : stableF (rowOrd by_) K = sortedF by_ K := by
  obtain ⟨p1, p2⟩ := stableF_spec (RLt.ord by_) (RLt.cross (by_ := by_) h1)
  obtain ⟨q1, q2⟩ := sortedF_spec (by_ := by_) h1 h2
  exact sorted_unique (RLt.ord by_) p2 q2 (p1.trans q1.symm)
/-! ### the lines that are told -/
def lineAux (vals : List Val) : List Term → List Val → Option (List Val)
  | [], acc => some acc
  | t :: l, acc => if (evalI t.expr vals).2 = true then lineAux vals l (acc ++ [(evalI t.expr vals).1]) else none
def linesAux (terms : List Term) : List RowD → List Line → Option (List Line)
  | [], acc => some acc
  | r :: l, acc => match lineAux r.vals terms [] with
    | some vs => linesAux terms l (acc ++ [⟨vs⟩])
    | none => none
def linesF (terms : List Term) (l : List RowD) : List Line × Bool := match linesAux terms l [] with | some ls => (ls, true) | none => ([], false)
def selRows (l : List RowD) (q : Sel) : List RowD := (sortedF q.by_ (keptF l q.wher)).take q.most.toNat
def runF (l : List RowD) (q : Sel) : List Line × Bool := if (matchF l q.wher).2 then linesF q.terms (selRows l q) else ([], false)
end Go.Proofs.YtinbdedlmkjokaaGreat.Am

/- Joined lines: rooms made, slices joined. -/
set_option linter.unusedVariables false
set_option linter.unusedSimpArgs false
namespace Go.Proofs.YtinbdedlmkjokaaGreat.Am

end Go.Proofs.YtinbdedlmkjokaaGreat.Am

/- Joined lines: the walk of both packages' loops. -/
set_option linter.unusedVariables false
set_option linter.unusedSimpArgs false
namespace Go.Proofs.YtinbdedlmkjokaaGreat.Am

theorem line_owned {τ : Store} {S : Nat → Prop} {k : Ce} {xk : Ce} (h : Has τ S k xk) : HasL τ S [k] [xk] :=
  (HasL.two h (HasL.nil (S := fun _ => False)) (fun _ _ h => h)).mono fun a ha => ha.elim id (fun h => h.elim)
end Go.Proofs.YtinbdedlmkjokaaGreat.Am

/- Joined lines: the reference's; what the results are like; marks held. -/
set_option linter.unusedVariables false
set_option linter.unusedSimpArgs false
namespace Go.Proofs.YtinbdedlmkjokaaGreat.Am

end Go.Proofs.YtinbdedlmkjokaaGreat.Am

/- Joined lines: what the results are like; marks held. -/
set_option linter.unusedVariables false
set_option linter.unusedSimpArgs false
namespace Go.Proofs.YtinbdedlmkjokaaGreat.Am

theorem cntL_le {α : Type} {c : α → Int} {B : Nat} : ∀ {l : List α}, (∀ x ∈ l, c x ≤ B) → cntL c l ≤ (B * l.length : Nat)
  | [], _ => by simp [cntL]
  | a :: l, h => by
    have h1 := h a (by simp)
    have h2 := cntL_le (c := c) (l := l) fun x hx => h x (by simp [hx])
    rw [cntL, List.length_cons, Nat.mul_add, Nat.mul_one]
    omega
/-! ### Marks of lines that are held -/
theorem heldS_or {α : Type} {h : α → Int → Int} {c : α → Int} (hh : ∀ a k, h a k = -1 ∨ h a k = k + c a) : ∀ (xs : List α) (k : Int), heldS h xs k = -1 ∨ heldS h xs k = k + cntL c xs
  | [], k => by simp [heldS, cntL]
  | a :: r, k => by
    simp only [heldS, cntL]
    split
    · exact .inl rfl
    · rename_i h0
      rcases hh a k with h1 | h1
      · omega
      · rw [h1]
        rcases heldS_or hh r (k + c a) with h2 | h2
        · exact .inl h2
        · right; rw [h2]; omega
theorem heldV_or (v : Val) (k : Int) : heldV v k = -1 ∨ heldV v k = k + 3 := by
  simp only [heldV]
  split
  · exact .inr rfl
  · exact .inl rfl
def heldLn (e : Line) (k : Int) : Int := heldS heldV e.vals k
theorem cntLn (e : Line) : cntLine e = cntL (fun _ => 3) e.vals := by rw [cntLine, Int.zero_add]
theorem heldLn_mark (e : Line) (k : Int) (hk : 0 ≤ k) : heldLn (markLine e k) k = k + cntLine e := by
  rw [cntLn]
  exact heldS_mark (c := fun _ => 3) heldV_mark (fun _ => by decide) e.vals k hk
theorem heldLineS_ok (xs : List Line) (k : Int) (hx : xs.length ≤ 34359738368) (hkl : ∀ e ∈ xs, e.vals.length ≤ 34359738368) (hk0 : 0 ≤ k) (hk : k + cntL cntLine xs ≤ 34359738368) : Pure Tryz.prog 40 [.c (.fz (xs.map encLine)), .c (.int .i64 k)] (.c (.int .i64 (heldS heldLn xs k))) := by
  refine Pure.run mixed c_laws_heldLineS_ok (Nat.le_of_ble_eq_true rfl) fun σ hS hA => ?_
  clear hS hA
  repeat' first|refine yaG ?_|(exfalso;omega)|(refine yaS ?_ ?_<;>intro _)
  refine Go.keep [0, 1, 5] (Go.loops (I := fun m fr τ => ∃ i : Nat, ∃ n l : Int, m = xs.length - i ∧ i ≤ xs.length ∧ n = i ∧ (0 ≤ l ∧ l + cntL cntLine (xs.drop i) ≤ 34359738368 ∧ heldS heldLn xs k = heldS heldLn (xs.drop i) l) ∧
    fr = [(0, .c (.fz (xs.map encLine))), (1, .c (.int .i64 l)), (5, .c (.int .i64 n))] ∧ τ = E σ []) ?_ _ _ _ ⟨0, _, _, rfl, Nat.zero_le _, rfl, ⟨hk0, by simpa using hk, rfl⟩, rfl, rfl⟩)
  rintro m fr τ ⟨i, n, l, rfl, hi, hn, ⟨hl0, hl, hsl⟩, rfl, rfl⟩ hrec
  by_cases hlt : i < xs.length
  · have hdr := List.drop_eq_getElem_cons hlt
    have hn0 := cntL_nonneg cntLine_nonneg (xs.drop (i + 1))
    have hn1 := cntL_nonneg (c := fun _ : Val => 3) (fun _ => by decide) xs[i].vals
    rw [hdr] at hl
    simp only [cntL, cntLn] at hl
    rw [hdr, heldS, heldLn] at hsl
    have hor := heldS_or (c := fun _ => 3) heldV_or xs[i].vals l
    have hc := heldValS_ok xs[i].vals l (hkl _ (List.getElem_mem hlt)) hl0 (by omega)
    have hl2 : cntL cntLine (xs.drop (i + 1)) + (l + cntL (fun _ => 3) xs[i].vals) ≤ 34359738368 := by omega
    generalize heldS heldV xs[i].vals l = l1 at hc hor hsl
    repeat' first|refine yaG ?_|((first|apply yG|apply yH|apply yI);exact rfl;(first|exact yX (enc := encLine) rfl rfl hn hlt rfl))|refine yaC (hc) ?_|(exfalso;omega)|(refine yaS ?_ ?_<;>intro _)
    · rename_i h1
      rw [if_pos h1] at hsl
      exact .ret rfl (.int hsl.symm)
    · rename_i h1
      rw [if_neg h1] at hsl
      exact Go.keep [0, 1, 5] (hrec _ _ _ (by omega) ⟨i + 1, _, _, rfl, hlt, wrap_succ hn (by omega), ⟨by omega, by omega, hsl⟩, rfl, rfl⟩)
  · repeat' first|refine yaG ?_|(exfalso;omega)|(refine yaS ?_ ?_<;>intro _)
    refine .ret rfl (.int ?_)
    rw [hsl, List.drop_eq_nil_of_le (by omega)]
    rfl
theorem heldLineS_at (ws : List Line) (w1 : ws.length ≤ 34359738368) (w2 : ∀ x ∈ ws, bLine 34359738368 x) (w3 : 1 + cntL cntLine ws ≤ 34359738368) : Pure Tryz.prog 40 [.c (.fz ((markL markLine cntLine ws 1).map encLine)), .c (.int .i64 1)] (.c (.int .i64 (1 + cntL cntLine ws))) := by
  have h1 : ∀ (ws : List Line) (k : Int), (∀ x ∈ ws, bLine 34359738368 x) → (∀ e ∈ markL markLine cntLine ws k, e.vals.length ≤ 34359738368) ∧ cntL cntLine (markL markLine cntLine ws k) = cntL cntLine ws := by
    intro ws
    induction ws with
    | nil => intro k _; exact ⟨fun e he => by simp [markL] at he, rfl⟩
    | cons a ws ih =>
      intro k h
      obtain ⟨i1, i2⟩ := ih (k + cntLine a) fun x hx => h x (by simp [hx])
      have hml : (markLine a k).vals.length = a.vals.length := markL_length
      refine ⟨fun e he => ?_, ?_⟩
      · rw [markL] at he
        rcases List.mem_cons.1 he with rfl | he
        · rw [hml]; exact (h a (by simp)).1
        · exact i1 e he
      · rw [markL, cntL, cntL, i2, cntLn, cntLn, cnt3, cnt3, hml]
  obtain ⟨h2, h3⟩ := h1 ws 1 w2
  have := heldLineS_ok (markL markLine cntLine ws 1) 1 (by rw [markL_length]; exact w1) h2 (by decide) (by rw [h3]; exact w3)
  rw [heldS_mark heldLn_mark cntLine_nonneg ws 1 (by decide)] at this
  exact this
theorem heldLineS_nn (ws : List Line) : 0 ≤ cntL cntLine ws := cntL_nonneg cntLine_nonneg ws
end Go.Proofs.YtinbdedlmkjokaaGreat.Am

/- Queries: what is told, plain facts. -/
set_option linter.unusedVariables false
set_option linter.unusedSimpArgs false
namespace Go.Proofs.YtinbdedlmkjokaaGreat.Am

theorem evalL_oks {row : List Val} (hr : Oks row) {n : Int} : ∀ {e : List Tok} {a : Int} {st q : List Val}, exprAux n a e = true → Oks st → evalL row e st = some q → Oks q
  | [], a, st, q, _, hs, h => by injection h with h; subst h; exact hs
  | t :: e, a, st, q, hx, hs, h => by
    obtain ⟨h1, h2, h3⟩ := exprAux_cons hx
    rw [evalL] at h
    split at h
    · rename_i hk
      exact evalL_oks hr h3 ((hs.take _).snoc (applyF_ok (fun h2 => tokOk_const h1 h2) (hs.drop _) hr hk)) h
    · cases h
theorem evalI_ok {e : List Tok} {row : List Val} (h : (evalI e row).2 = true) : okVal (evalI e row).1 = true := by
  rw [evalI] at h ⊢
  split at h
  · rename_i hk
    rw [if_pos hk]
    rw [evalOk, Bool.and_eq_true] at hk
    obtain ⟨hr, _⟩ := areVals_oks hk.1
    obtain ⟨_, he⟩ := exprF_aux hk.2
    rw [evalR] at h ⊢
    split at h
    · rename_i v r hq
      exact evalL_oks hr he (fun v hv => by simp at hv) hq v (by simp)
    · cases h
  · cases h
theorem okVal_len {v : Val} (h : okVal v = true) : v.s.length ≤ 34359738368 := by
  simp only [okVal, Bool.or_eq_true, Bool.and_eq_true, beq_iff_eq, decide_eq_true_eq] at h
  rcases h with (⟨_, h⟩ | ⟨_, h⟩) | ⟨_, h⟩
  · rw [h]; simp
  · rw [h]; simp
  · omega
theorem lineAux_ok {vals : List Val} : ∀ {l : List Term} {acc out : List Val}, lineAux vals l acc = some out → out.length = acc.length + l.length ∧ ((∀ v ∈ acc, okVal v = true) → ∀ v ∈ out, okVal v = true)
  | [], acc, out, h => by injection h with h; subst h; exact ⟨rfl, fun h => h⟩
  | t :: l, acc, out, h => by
    rw [lineAux] at h
    split at h
    · rename_i hk
      obtain ⟨h1, h2⟩ := lineAux_ok h
      refine ⟨by rw [h1]; simp; omega, fun ha => h2 fun v hv => ?_⟩
      rcases List.mem_append.1 hv with hv | hv
      · exact ha v hv
      · rw [List.mem_singleton.1 hv]; exact evalI_ok hk
    · cases h
theorem linesAux_ok {terms : List Term} : ∀ {l : List RowD} {acc out : List Line}, linesAux terms l acc = some out → out.length = acc.length + l.length ∧ ∀ x ∈ out, x ∈ acc ∨ (x.vals.length = terms.length ∧ ∀ v ∈ x.vals, okVal v = true)
  | [], acc, out, h => by injection h with h; subst h; exact ⟨rfl, fun x hx => .inl hx⟩
  | r :: l, acc, out, h => by
    rw [linesAux] at h
    split at h
    · rename_i vs hv
      obtain ⟨h1, h2⟩ := linesAux_ok h
      obtain ⟨h3, h4⟩ := lineAux_ok hv
      refine ⟨by rw [h1]; simp; omega, fun x hx => ?_⟩
      rcases h2 x hx with h5 | h5
      · rcases List.mem_append.1 h5 with h5 | h5
        · exact .inl h5
        · rw [List.mem_singleton.1 h5]
          exact .inr ⟨by rw [h3]; simp, h4 fun v hv => by simp at hv⟩
      · exact .inr h5
    · cases h
/-- Where the query's table lies. -/
def selPos (s : List Table) (q : Sel) : Int := idxA (fun u => u.name == q.table) s 0
def RunF (s : List Table) (db : List Data) (q : Sel) : List Line × Bool := if dbF s db && l10F s q then runF (rowsAt db (selPos s q)) q else ([], false)
/-- What is known of a query that is right. -/
structure SelAt (s : List Table) (q : Sel) (m : Nat) : Prop where
  pos : selPos s q = m
  lt : m < s.length
  tab : tabAt s q.table = some (s[m]'lt)
  terms : q.terms.length ≤ 8
  most0 : 0 ≤ q.most
  most : q.most ≤ 60
  each : ∀ t ∈ q.terms, exprF t.expr (s[m]'lt).cols.length = true
  wh : whereF q.wher (s[m]'lt).cols.length = true
  by_ : InR q.by_ (s[m]'lt).cols.length
theorem sel_at {s : List Table} {q : Sel} (h : l10F s q = true) : ∃ m, SelAt s q m := by
  rw [l10F] at h
  rcases idxA_at (p := fun u : Table => u.name == q.table) (l := s) (i := 0) (Int.le_refl _) with h0 | ⟨m, hm, h0, hp⟩
  · rw [tabAt_no h0] at h
    cases h
  · rw [Int.zero_add] at h0
    have ht := tabAt_yes h0 hm
    rw [ht] at h
    simp only [Bool.and_eq_true, selAt] at h
    obtain ⟨h1, h2, h3, h4, h5⟩ := h
    simp only [isIn, Bool.and_eq_true, decide_eq_true_eq] at h1 h2
    refine ⟨m, h0, hm, ht, by omega, h2.1, h2.2, fun t hq => ?_, h4, fun c hc => ?_⟩
    · rw [termsF, Bool.not_eq_true'] at h3
      have := List.any_eq_false.1 h3 t hq
      simpa using this
    · rw [byF] at h5
      rcases Bool.or_eq_true_iff.1 h5 with h6 | h6
      · have : q.by_.length = 0 := by
          have := beq_iff_eq.1 h6
          omega
        rw [List.eq_nil_of_length_eq_zero this] at hc
        cases hc
      · exact colsF_in h6 c hc
theorem RunSelect_fact (s : List Table) (db : List Data) (q : Sel) (hx : s.length ≤ 34359738368) (hb : ∀ t ∈ s, bTable 34359738368 t) (hd : db.length ≤ 34359738368) (hdb : ∀ d ∈ db, bData 34359738368 d) (hq : bSel 34359738368 q) :
    (RunF s db q).1.length ≤ 34359738368 ∧ (∀ x ∈ (RunF s db q).1, bLine 34359738368 x) ∧ 1 + cntL cntLine (RunF s db q).1 ≤ 34359738368 := by
  have h : (RunF s db q).1.length ≤ 60 ∧ ∀ x ∈ (RunF s db q).1, bLine 34359738368 x ∧ x.vals.length ≤ 8 := by
    rw [RunF]
    split
    · rename_i hk
      rw [Bool.and_eq_true] at hk
      obtain ⟨m, hS⟩ := sel_at hk.2
      rw [runF]
      split
      · rw [linesF]
        split
        · rename_i ls hl
          obtain ⟨h1, h2⟩ := linesAux_ok hl
          have h3 : (selRows (rowsAt db (selPos s q)) q).length ≤ 60 := by
            rw [selRows, List.length_take]
            have := hS.most
            omega
          refine ⟨by rw [h1]; simpa using h3, fun x hx => ?_⟩
          rcases h2 x hx with h4 | ⟨h4, h5⟩
          · cases h4
          · have := hS.terms
            exact ⟨⟨by omega, fun v hv => okVal_len (h5 v hv)⟩, by omega⟩
        · exact ⟨by simp, fun x hx => by simp at hx⟩
      · exact ⟨by simp, fun x hx => by simp at hx⟩
    · exact ⟨by simp, fun x hx => by simp at hx⟩
  have hc := cntL_le (c := cntLine) (B := 24) (l := (RunF s db q).1) fun x hx => by
    have := (h.2 x hx).2
    rw [cntLine, cnt3]
    omega
  exact ⟨by omega, fun x hx => (h.2 x hx).1, by omega⟩
end Go.Proofs.YtinbdedlmkjokaaGreat.Am

/- Rows that have a key. -/
set_option linter.unusedVariables false
set_option linter.unusedSimpArgs false
namespace Go.Proofs.YtinbdedlmkjokaaGreat.Am

end Go.Proofs.YtinbdedlmkjokaaGreat.Am

/- Rows' nulls and checks. -/
set_option linter.unusedVariables false
set_option linter.unusedSimpArgs false
namespace Go.Proofs.YtinbdedlmkjokaaGreat.Am

end Go.Proofs.YtinbdedlmkjokaaGreat.Am

/- Rivals: rows with the same key. -/
set_option linter.unusedVariables false
set_option linter.unusedSimpArgs false
namespace Go.Proofs.YtinbdedlmkjokaaGreat.Am

theorem frz_old {σ : Store} {l : List (Nat × List (List Ce))} {k v N : Nat} {ys junk : List (List Ce)} (hl : l[k]? = some (v, ys ++ junk)) (ho : ∀ e ∈ ys, ∀ x ∈ e, Old N x) (hN : N ≤ σ.next + k) : FrzV (E σ l) N (.c (vec (σ.next + k) v ys junk)) (.c (.fz ys)) := by
  refine .c (.sl _ _ _ _ _ (ys ++ junk) ys hN (by rw [E_at]; exact hl) (by simp) rfl (fun i hi => ?_) (fun i j hi hj => ?_))
  · simp only [Nat.zero_add]
    rw [List.getElem_append_left hi]
  · have e : (ys ++ junk)[0 + i]'(by simp; omega) = ys[i] := by
      simp only [Nat.zero_add]
      rw [List.getElem_append_left hi]
    simp only [e]
    exact .same _ (ho _ (List.getElem_mem _) _ (List.getElem_mem hj))
end Go.Proofs.YtinbdedlmkjokaaGreat.Am

/- Queries: rows that are left out, in place. -/
set_option linter.unusedVariables false
set_option linter.unusedSimpArgs false
namespace Go.Proofs.YtinbdedlmkjokaaGreat.Am

theorem oldRw {n : Nat} (l : List RowD) : ∀ e ∈ l.map encRowD, ∀ x ∈ e, Old n x := fun e he c hc => by
  obtain ⟨a, _, rfl⟩ := List.mem_map.1 he
  simp only [encRowD, List.mem_cons, List.not_mem_nil, or_false] at hc
  rcases hc with rfl | rfl
  · exact .int _ _
  · exact .fz _ fun i j hi hj => (flats _ (List.getElem_mem hi) _ (List.getElem_mem hj)).old _
theorem rwLen {l : List RowD} : ∀ e ∈ l.map encRowD, e.length = 2 := fun e he => by
  obtain ⟨a, _, rfl⟩ := List.mem_map.1 he
  rfl
theorem idxA_no {α : Type} {p : α → Bool} {l : List α} (h : idxA p l 0 = -1) : ∀ a ∈ l, p a = false := fun a ha => by
  have := any_idx (p := p) (l := l)
  rw [h] at this
  have h2 : l.any p = false := this.symm
  simpa using List.any_eq_false.1 h2 a ha
theorem idxA_first {α : Type} {p : α → Bool} : ∀ {l : List α} {i : Int} {n : Nat}, 0 ≤ i → idxA p l i = i + n → ∃ h : n < l.length, p l[n] = true ∧ ∀ j (hj : j < l.length), j < n → p l[j] = false
  | [], i, n, h0, h => by rw [idxA] at h; omega
  | a :: l, i, n, h0, h => by
    rw [idxA] at h
    split at h
    · rename_i hp
      have hn : n = 0 := by omega
      subst hn
      exact ⟨by simp, hp, fun j hj hlt => by omega⟩
    · rename_i hp
      cases n with
      | zero =>
        exfalso
        rcases idxA_at (p := p) (l := l) (i := i + 1) (by omega) with h1 | ⟨m, _, h1, _⟩ <;> omega
      | succ n =>
        obtain ⟨h1, h2, h3⟩ := idxA_first (p := p) (l := l) (i := i + 1) (n := n) (by omega) (by omega)
        refine ⟨by simp; omega, h2, fun j hj hlt => ?_⟩
        cases j with
        | zero => simpa using hp
        | succ j => exact h3 j (by simpa using hj) (by omega)
theorem filter1 {α : Type} (f : α → Bool) (a : α) : [a].filter f = if f a = true then [a] else [] := by
  rw [List.filter_cons]
  split <;> rfl
theorem aop_clearR {fr : Fr} {σ : Store} {l : List (Nat × List (List Ce))} {k v i n c : Nat} {z : List Ce} {x : Opd} {es : List (List Ce)} (hx : x.ev fr = some (.c (.sl (σ.next + k) v i n c))) (hl : l[k]? = some (v, es)) (hi : i + n ≤ es.length) (hs : ∀ e ∈ es, e.length = z.length) : aop (.clear z x) fr (E σ l) = some (.un, E σ (l.set k (v, splice es i (List.replicate n z)))) := by
  have hk : k < l.length := (List.getElem?_eq_some_iff.1 hl).1
  simp only [aop, hx, E_get hl]
  rw [if_pos ⟨trivial, hi, hs⟩, E_put hk]
def zRow : List Ce := [.int .i64 0, .nils]
theorem deleteRows_ok (l : List RowD) (junk : List (List Ce)) (v : Nat) (p : RowD → Bool) (g : Nat) (pre cap : List Ce) (hp : ∀ r ∈ l, Pure Tryz.prog g (pre.map .c ++ [.agg (encRowD r)] ++ cap.map .c) (.c (.bool (p r)))) (hx : l.length ≤ 34359738368) (hj : Jk 2 junk) (σ : Store) :
    Ok Tryz.prog 74 [.c (vec (σ.next + 0) v (l.map encRowD) junk), .c (.fn g pre cap)] (E σ [(v, l.map encRowD ++ junk)]) (fun r τ => ∃ k2, Jk 2 k2 ∧ r = .c (vec (σ.next + 0) v ((l.filter fun a => !p a).map encRowD) k2) ∧ τ = E σ [(v, (l.filter fun a => !p a).map encRowD ++ k2)]) := by
  refine Ok.run mixed c_slices_DeleteFunc_Row_ok (Nat.le_of_ble_eq_true rfl) fun hS hA => ?_
  clear hS hA
  rw [E_E, List.append_nil]
  have ci := indexFuncA_ok mixed c_slices_IndexFunc_Row_ok encRowD (fun a => .agg (encRowD a)) (fun _ => rfl) (fun _ => rfl) l p g pre cap hx (fun i hi _ => hp _ (List.getElem_mem hi))
  repeat' first|refine yaG ?_|(exfalso;omega)|(refine yaS ?_ ?_<;>intro _)
  refine Go.lcall rfl rfl rfl ci (.int _ _) (.own (frz_old (k := 0) rfl (oldRw _) (Nat.zero_le _)) (.same .nil)) ?_
  rcases idxA_at (p := p) (l := l) (i := 0) (Int.le_refl _) with h0 | ⟨n0, hn0, h0, hpn⟩
  · rw [h0]
    repeat' first|refine yaG ?_|(exfalso;omega)|(refine yaS ?_ ?_<;>intro _)
    have hf : (l.filter fun a => !p a) = l := List.filter_eq_self.2 fun a ha => by rw [idxA_no h0 a ha]; rfl
    rw [hf]
    exact .ret rfl ⟨junk, hj, rfl, rfl⟩
  · obtain ⟨_, hp1, hp2⟩ := idxA_first (Int.le_refl _) h0
    rw [Int.zero_add] at h0
    rw [h0]
    have hne : ¬ (n0 : Int) = -1 := by omega
    have e1 : IntKind.i64.wrap ((n0 : Int) + 1) = ((n0 + 1 : Nat) : Int) := by rw [wrap64 (by omega) (by omega)]; omega
    have hft : (l.take (n0 + 1)).filter (fun a => !p a) = l.take n0 := by
      rw [List.take_succ_eq_append_getElem hn0, List.filter_append, filter1, hp1]
      simp only [Bool.not_true, Bool.false_eq_true, if_false, List.append_nil]
      refine List.filter_eq_self.2 fun a ha => ?_
      obtain ⟨j, hj1, rfl⟩ := List.getElem_of_mem ha
      rw [List.length_take] at hj1
      rw [List.getElem_take, hp2 j (by omega) (by omega)]
      rfl
    repeat' first|refine yaG ?_|(exfalso;omega)|(refine yaS ?_ ?_<;>intro _)
    refine Go.keep [0, 1, 5, 6] (Go.loops (I := fun m fr τ => ∃ (i j : Nat) (zi zj : Int) (q : List RowD), m = l.length - j ∧ j ≤ l.length ∧ i < j ∧ zi = i ∧ zj = j ∧ q.length = l.length ∧ q.take i = (l.take j).filter (fun a => !p a) ∧ q.drop j = l.drop j ∧
      fr = [(0, .c (vec (σ.next + 0) v (l.map encRowD) junk)), (1, .c (.fn g pre cap)), (5, .c (.int .i64 zi)), (6, .c (.int .i64 zj))] ∧ τ = E σ [(v, q.map encRowD ++ junk)]) ?_ _ _ _ ⟨n0, n0 + 1, _, _, l, rfl, hn0, by omega, rfl, e1, rfl, hft.symm, rfl, rfl, rfl⟩)
    rintro m fr τ ⟨i, j, zi, zj, q, rfl, hjl, hij, hzi, hzj, hql, hqt, hqd, rfl, rfl⟩ hrec
    have hlm : (l.map encRowD).length = l.length := List.length_map _
    have hqm : (q.map encRowD).length = q.length := List.length_map _
    have hg : (E σ [(v, q.map encRowD ++ junk)]).get (σ.next + 0) = some (v, q.map encRowD ++ junk) := E_get (k := 0) rfl
    have hn0 : (E σ [(v, l.map encRowD ++ junk)]).next ≤ (E σ [(v, q.map encRowD ++ junk)]).next := Nat.le_refl _
    by_cases hlt : j < l.length
    · have hqj : q[j]'(by omega) = l[j] := by
        have := congrArg (fun x => x[0]?) hqd
        simp only [List.getElem?_drop, Nat.add_zero] at this
        rw [List.getElem?_eq_getElem hlt, List.getElem?_eq_getElem (by omega)] at this
        injection this
      have hev : (q.map encRowD ++ junk)[0 + j]? = some (encRowD l[j]) := by
        rw [Nat.zero_add, List.getElem?_append_left (by omega), List.getElem?_map, List.getElem?_eq_getElem (by omega), hqj]
        rfl
      have hevi : (q.map encRowD ++ junk)[0 + i]? = some (encRowD (q[i]'(by omega))) := by
        rw [Nat.zero_add, List.getElem?_append_left (by omega), List.getElem?_map, List.getElem?_eq_getElem (by omega)]
        rfl
      have hjm : j < (l.map encRowD).length := by omega
      have him : i < (l.map encRowD).length := by omega
      have cp := hp _ (List.getElem_mem hlt)
      have setQ : (q.map encRowD ++ junk).set (0 + i) (splice (encRowD (q[i]'(by omega))) 0 (encRowD l[j])) = (q.set i l[j]).map encRowD ++ junk := by
        have : splice (encRowD (q[i]'(by omega))) 0 (encRowD l[j]) = encRowD l[j] := by rw [splice, List.take_zero, List.nil_append, List.drop_eq_nil_of_le (by simp [encRowD]), List.append_nil]
        rw [this, Nat.zero_add, List.set_append_left _ _ (by omega), List.map_set]
      cases hpj : p l[j]
      · rw [hpj] at cp
        repeat' first|refine yaG ?_|((first|apply yG|apply yH|apply yI);exact rfl;(first|exact aop_iaddrO rfl rfl hzj hjm hg hev rfl|exact aop_iaddrO rfl rfl hzi him hg hevi rfl|exact aop_load (k := 0) rfl rfl hev (Nat.le_of_ble_eq_true rfl) rfl|exact aop_store (k := 0) rfl rfl rfl rfl hevi rfl (Nat.le_of_ble_eq_true rfl)))|refine yaC (cp) ?_|(exfalso;omega)|(refine yaS ?_ ?_<;>intro _)
        refine Go.keep [0, 1, 5, 6] (hrec _ _ _ (by omega) ⟨i + 1, j + 1, _, _, q.set i l[j], rfl, hlt, by omega, wrap_succ hzi (by omega), wrap_succ hzj (by omega), by rw [List.length_set]; exact hql, ?_, ?_, rfl, ?_⟩)
        · rw [List.take_succ_eq_append_getElem (by rw [List.length_set]; omega), List.take_set_of_le (Nat.le_refl _), List.getElem_set_self, hqt, List.take_succ_eq_append_getElem hlt, List.filter_append, filter1, hpj]
          rfl
        · rw [List.drop_set_of_lt (by omega), ← List.drop_drop, hqd, List.drop_drop]
        · rw [← setQ]
          rfl
      · rw [hpj] at cp
        repeat' first|refine yaG ?_|((first|apply yG|apply yH|apply yI);exact rfl;(first|exact aop_iaddrO rfl rfl hzj hjm hg hev rfl|exact aop_load (k := 0) rfl rfl hev (Nat.le_of_ble_eq_true rfl) rfl))|refine yaC (cp) ?_|(exfalso;omega)|(refine yaS ?_ ?_<;>intro _)
        refine Go.keep [0, 1, 5, 6] (hrec _ _ _ (by omega) ⟨i, j + 1, _, _, q, rfl, hlt, by omega, hzi, wrap_succ hzj (by omega), hql, ?_, ?_, rfl, rfl⟩)
        · rw [hqt, List.take_succ_eq_append_getElem hlt, List.filter_append, filter1, hpj]
          simp
        · rw [← List.drop_drop, hqd, List.drop_drop]
    · clear hrec
      have hj2 : j = l.length := by omega
      have hK : q.take i = l.filter fun a => !p a := by rw [hqt, List.take_of_length_le (by omega)]
      have hil : i ≤ (q.map encRowD).length := by omega
      have hvq : vec (σ.next + 0) v (l.map encRowD) junk = vec (σ.next + 0) v (q.map encRowD) junk := by rw [vec, vec, hlm, hqm, hql]
      have hal : ∀ e ∈ q.map encRowD ++ junk, e.length = 2 := fun e he => (List.mem_append.1 he).elim (rwLen e) fun h => (hj e h).1
      rw [hvq]
      have hcl : i + ((q.map encRowD).length - i) ≤ (q.map encRowD ++ junk).length := by rw [List.length_append]; omega
      have hsp : splice (q.map encRowD ++ junk) i (List.replicate ((q.map encRowD).length - i) zRow) = ((q.take i).map encRowD ++ List.replicate ((q.map encRowD).length - i) zRow) ++ junk := by
        rw [splice, List.take_append_of_le_length hil, List.length_replicate, List.drop_append, List.drop_eq_nil_of_le (by omega), show i + ((q.map encRowD).length - i) - (q.map encRowD).length = 0 by omega, List.drop_zero, List.nil_append, ← List.map_take]
      generalize hZ : List.replicate ((q.map encRowD).length - i) zRow = zs at hsp
      have hzs : ∀ e ∈ zs, e.length = 2 ∧ ∀ x ∈ e, Flat x := fun e he => by
        rw [← hZ] at he
        rw [List.eq_of_mem_replicate he]
        refine ⟨rfl, fun x hx => ?_⟩
        simp only [zRow, List.mem_cons, List.not_mem_nil, or_false] at hx
        rcases hx with rfl | rfl
        · exact .int _ _
        · exact .nils
      have hvz : vec (σ.next + 0) v (q.map encRowD) junk = vec (σ.next + 0) v ((q.take i).map encRowD ++ zs) junk := by
        have : ((q.take i).map encRowD ++ zs).length = (q.map encRowD).length := by rw [List.length_append, List.length_map, List.length_take, ← hZ, List.length_replicate]; omega
        rw [vec, vec, this]
      have hal2 : ∀ e ∈ ((q.take i).map encRowD ++ zs) ++ junk, e.length = 2 := fun e he => by
        rcases List.mem_append.1 he with he | he
        · rcases List.mem_append.1 he with he | he
          · exact rwLen e he
          · exact (hzs e he).1
        · exact (hj e he).1
      have hi3 : i ≤ ((q.take i).map encRowD ++ zs).length := by rw [List.length_append, List.length_map, List.length_take]; omega
      repeat' first|refine yaG ?_|((first|apply yG|apply yH|apply yI);exact rfl;(first|exact aop_drop (k := 0) rfl rfl hzi hil rfl hal))|(exfalso;omega)|(refine yaS ?_ ?_<;>intro _)
      refine Go.op rfl (aop_clearR (k := 0) (z := zRow) rfl rfl hcl (fun e he => hal e he)) ?_
      rw [hZ]
      simp only [List.set_cons_zero]
      rw [hsp, hvz]
      repeat' first|refine yaG ?_|((first|apply yG|apply yH|apply yI);exact rfl;(first|exact aop_take (k := 0) rfl rfl hzi hi3 rfl hal2))|(exfalso;omega)|(refine yaS ?_ ?_<;>intro _)
      refine .ret rfl ⟨zs ++ junk, fun e he => (List.mem_append.1 he).elim (hzs e) (hj e), ?_, ?_⟩
      · have e2 : ((q.take i).map encRowD ++ zs).take i = (l.filter fun a => !p a).map encRowD := by
          rw [List.take_left' (by rw [List.length_map, List.length_take]; omega), hK]
        have e3 : ((q.take i).map encRowD ++ zs).drop i = zs := List.drop_left' (by rw [List.length_map, List.length_take]; omega)
        rw [e2, e3]
      · rw [hK, List.append_assoc]
end Go.Proofs.YtinbdedlmkjokaaGreat.Am

/- The reader that draws: numbers. -/
set_option linter.unusedVariables false
set_option linter.unusedSimpArgs false
namespace Go.Proofs.YtinbdedlmkjokaaGreat.Am

theorem old_c {n : Nat} {k : IntKind} {z : Int} : ∀ y ∈ (AV.c (.int k z)).all, Old n y := fun y hy => by
  simp only [AV.all, List.mem_singleton] at hy
  subst hy
  exact .int _ _
theorem old_b {n : Nat} {b : Bool} : ∀ y ∈ (AV.c (.bool b)).all, Old n y := fun y hy => by
  simp only [AV.all, List.mem_singleton] at hy
  subst hy
  exact .bool _
/-! ### values and tokens -/
end Go.Proofs.YtinbdedlmkjokaaGreat.Am

/- The reader that draws: values, expressions, conditions, rows. -/
set_option linter.unusedVariables false
set_option linter.unusedSimpArgs false
namespace Go.Proofs.YtinbdedlmkjokaaGreat.Am

/-! ### expressions -/
end Go.Proofs.YtinbdedlmkjokaaGreat.Am

/- The reader that draws: expressions frozen, conditions, rows. -/
set_option linter.unusedVariables false
set_option linter.unusedSimpArgs false
namespace Go.Proofs.YtinbdedlmkjokaaGreat.Am

theorem Rd.old {σ : Store} {id v : Nat} {code : List UInt8} {p q : Nat} (hr : Rd σ id v code p) (hS : OldS σ) : OldS (Rd.go σ id v code q) := by
  intro a y hy
  by_cases e : a = id
  · subst e
    rw [show (Rd.go σ a v code q).get a = some (v, rdB code q) from if_pos rfl] at hy
    injection hy with hy
    subst hy
    refine ⟨hr.2.1, fun i j hi hj => ?_⟩
    have hold := (hS a _ hr.1).2
    have hi0 : i = 0 := by simp [rdB] at hi; omega
    subst hi0
    have hj2 : j = 0 ∨ j = 1 := by simp [rdB] at hj; omega
    rcases hj2 with rfl | rfl
    · exact hold 0 0 (by simp [rdB]) (by simp [rdB])
    · exact .int _ _
  · rw [show (Rd.go σ id v code q).get a = σ.get a from if_neg e] at hy
    exact hS a y hy
/-! ### a table's row -/
end Go.Proofs.YtinbdedlmkjokaaGreat.Am

/- The reader that draws: schemas. -/
set_option linter.unusedVariables false
set_option linter.unusedSimpArgs false
namespace Go.Proofs.YtinbdedlmkjokaaGreat.Am

/-- Where ways meet, what follows kept from sight. -/
theorem Go.meet {P : Program} {n0 nt : Nat} {rets : List RV} {R : AV → Store → Prop} {K K' : List AK} {fr : Fr} {σ : Store} (I : Fr → Store → Prop) (h2 : ∀ K, (∀ fr σ, I fr σ → Go P n0 nt rets R K fr σ) → Go P n0 nt rets R (K' ++ K) fr σ) (h1 : ∀ fr σ, I fr σ → Go P n0 nt rets R K fr σ) : Go P n0 nt rets R (K' ++ K) fr σ := h2 K h1
def OldL (n : Nat) (ys : List (List Ce)) : Prop := ∀ e ∈ ys, ∀ c ∈ e, Old n c
theorem oldL_flat {n : Nat} {ys : List (List Ce)} (h : ∀ e ∈ ys, ∀ x ∈ e, Flat x) : OldL n ys := fun e he c hc => (h e he c hc).old _
theorem old_fz1 {n : Nat} {ys : List (List Ce)} (h : OldL n ys) : Old n (.fz ys) := .fz _ fun i j hi hj => h _ (List.getElem_mem hi) _ (List.getElem_mem hj)
theorem oldInts {n : Nat} (l : List Int) : OldL n (l.map encI) := oldL_flat fun e he x hx => (flatI l e he).2 x hx
end Go.Proofs.YtinbdedlmkjokaaGreat.Am

/- References that lead nowhere. -/
set_option linter.unusedVariables false
set_option linter.unusedSimpArgs false
namespace Go.Proofs.YtinbdedlmkjokaaGreat.Am

end Go.Proofs.YtinbdedlmkjokaaGreat.Am

/- Flaws: what is true of the rows of a database. -/
set_option linter.unusedVariables false
set_option linter.unusedSimpArgs false
namespace Go.Proofs.YtinbdedlmkjokaaGreat.Am

end Go.Proofs.YtinbdedlmkjokaaGreat.Am

/- A row put in by the reference: parts. -/
set_option linter.unusedVariables false
set_option linter.unusedSimpArgs false
namespace Go.Proofs.YtinbdedlmkjokaaGreat.Am

theorem oldRows {n : Nat} (l : List RowD) : OldL n (l.map encRowD) := fun e he c hc => by
  obtain ⟨a, _, rfl⟩ := List.mem_map.1 he
  simp only [encRowD, List.mem_cons, List.not_mem_nil, or_false] at hc
  rcases hc with rfl | rfl
  · exact .int _ _
  · exact old_fz1 (oldL_flat flats)
theorem oldDatas {n : Nat} (l : List Data) : OldL n (l.map encData) := fun e he c hc => by
  obtain ⟨a, _, rfl⟩ := List.mem_map.1 he
  simp only [encData, List.mem_cons, List.not_mem_nil, or_false] at hc
  subst hc
  exact old_fz1 (oldRows _)
theorem Rise.last {l : List RowD} (h : Rise l) (h0 : 0 < l.length) {q : RowD} (hq : q ∈ l) : q.id ≤ l[l.length - 1].id := by
  obtain ⟨i, hi, rfl⟩ := List.getElem_of_mem hq
  by_cases e : i = l.length - 1
  · subst e; exact Int.le_refl _
  · exact Int.le_of_lt (List.pairwise_iff_getElem.1 h i (l.length - 1) hi (by omega) (by omega))
end Go.Proofs.YtinbdedlmkjokaaGreat.Am

/- A row put in by the reference: whole, told by existence. -/
set_option linter.unusedVariables false
set_option linter.unusedSimpArgs false
namespace Go.Proofs.YtinbdedlmkjokaaGreat.Am

/-! ### what stays right -/
end Go.Proofs.YtinbdedlmkjokaaGreat.Am

/- The reader that draws: databases and places. -/
set_option linter.unusedVariables false
set_option linter.unusedSimpArgs false
namespace Go.Proofs.YtinbdedlmkjokaaGreat.Am

end Go.Proofs.YtinbdedlmkjokaaGreat.Am

/- Drawn arguments: of Matching, of JoinOn. -/
set_option linter.unusedVariables false
set_option linter.unusedSimpArgs false
namespace Go.Proofs.YtinbdedlmkjokaaGreat.Am

end Go.Proofs.YtinbdedlmkjokaaGreat.Am

/- A slice that begins as nil; terms. -/
set_option linter.unusedVariables false
set_option linter.unusedSimpArgs false
namespace Go.Proofs.YtinbdedlmkjokaaGreat.Am

theorem aop_appNil {fr : Fr} {σ : Store} {l : List (Nat × List (List Ce))} {s bytes : Nat} {x y : Opd} {zs : List (List Ce)} (hx : x.ev fr = some (.c .nils)) (hy : y.ev fr = some (.c (.fz zs))) (hzs : ∀ e ∈ zs, e.length = s) (hb : zs.length * bytes ≤ 140737488355328) :
    aop (.app s bytes x y) fr (E σ l) = some (.c (vec (σ.next + l.length) 0 zs []), E σ (l ++ [(0, zs ++ [])])) := by
  have h : appA (E σ l) s bytes .nils zs = some (.sl (E σ l).next 0 0 zs.length zs.length, (E σ l).new (0, zs)) := by
    unfold appA
    rw [if_pos hzs]
    exact if_pos hb
  simp only [aop, hx, hy, Store.els, Option.bind_some, h, Option.map_some, E_new, E_next, vec, List.append_nil, List.length_nil, Nat.add_zero]
end Go.Proofs.YtinbdedlmkjokaaGreat.Am

/- Queries: the program's RunSelect. -/
set_option linter.unusedVariables false
set_option linter.unusedSimpArgs false
namespace Go.Proofs.YtinbdedlmkjokaaGreat.Am

theorem aop_cutFz {fr : Fr} {σ : Store} {s : Nat} {x hi : Opd} {kd : IntKind} {es : List (List Ce)} {z : Int} {n : Nat} (hx : x.ev fr = some (.c (.fz es))) (hy : hi.ev fr = some (.c (.int kd z))) (hz : z = (n : Int)) (hn : n ≤ es.length) (hs : ∀ e ∈ es, e.length = s) : aop (.slice s x none (some hi) none) fr σ = some (.c (.fz (es.take n)), σ) := by
  have : sliceA σ s (.fz es) none (some (.c (.int kd z))) none = some (.fz (es.take n)) := by
    subst hz
    simp only [sliceA, bound]
    rw [if_pos (by omega)]
    simp only [Int.toNat_natCast]
    rw [if_pos ⟨Nat.zero_le _, hn, hs⟩, List.drop_zero]
  simp only [aop, hx, evo, hy, Option.map_some, this]
theorem has_vec {σ : Store} {l : List (Nat × List (List Ce))} {k v s : Nat} {ys junk : List (List Ce)} {S : Nat → Prop} (hl : l[k]? = some (v, ys ++ junk)) (hy : ∀ e ∈ ys, e.length = s ∧ ∀ x ∈ e, Flat x) (hj : Jk s junk) (hS : S (σ.next + k)) : Has (E σ l) S (.fz ys) (vec (σ.next + k) v ys junk) :=
  .o ys (σ.next + k) v s ys junk (fun _ _ _ => False) (E_get hl) hS rfl (fun i hi => rfl) (fun e he => (List.mem_append.1 he).elim (fun h => (hy e h).1) fun h => (hj e h).1) (fun e he => (hj e he).2) (fun _ _ _ h => h.elim) (fun _ _ _ _ _ h => h.elim) fun i j hi hj => .c ((hy _ (List.getElem_mem hi)).2 _ (List.getElem_mem hj))
theorem runSelect1_ok (ids : List Int) (r : RowD) (hx : ids.length ≤ 34359738368) : Pure Tryz.prog 76 [.agg (encRowD r), .c (.fp [.fz (ids.map encI)])] (.c (.bool (!(ids.any fun a => r.id == a)))) := by
  refine Pure.run mixed c_impl_RunSelect_1_ok (Nat.le_of_ble_eq_true rfl) fun σ hS hA => ?_
  clear hS hA
  repeat' first|refine yaG ?_|refine yaC (containsInt_ok mixed c_slices_Contains_int64_int64_ok c_slices_Index_int64_int64_ok ids r.id hx) ?_|(exfalso;omega)|(refine yaS ?_ ?_<;>intro _)
  exact .ret rfl (.bool rfl)
theorem any_contains (ids : List Int) (n : Int) : (ids.any fun a => n == a) = ids.contains n := by
  induction ids with
  | nil => rfl
  | cons a r ih => rw [List.any_cons, ih, List.contains_cons]
theorem rowSorts : Sorts Tryz.prog := ⟨mixed, ⟨_, c_slices_symMergeCmpFunc_Row_ok⟩, ⟨_, c_slices_rotateCmpFunc_Row_ok⟩, ⟨_, c_slices_swapRangeCmpFunc_Row_ok⟩, ⟨_, c_slices_insertionSortCmpFunc_Row_ok⟩, ⟨_, c_slices_stableCmpFunc_Row_ok⟩⟩
/-- Rows sorted in place. -/
theorem sortRows_ok (q : Sel) (K : List RowD) (k2 : List (List Ce)) (v N : Nat) (hb : q.by_.length ≤ 34359738368) (hI : ∀ r ∈ K, InR q.by_ r.vals.length) (hx : K.length ≤ 34359738368) (σ : Store) :
    Ok Tryz.prog 78 [.c (vec (σ.next + 0) v (K.map encRowD) k2), .c (.fn 79 [] [.fp (encSel q)])] (E σ [(v, K.map encRowD ++ k2)]) (fun r τ => r = .tup [] ∧ τ = E σ [(v, (stableF (rowOrd q.by_) K).map encRowD ++ k2)]) := by
  let F : Fam RowD := ⟨E σ [(v, [])], σ.next + 0, v, encRowD, k2, fun _ => rfl⟩
  have hFS : ∀ l : List RowD, F.S l = E σ [(v, l.map encRowD ++ k2)] := fun l => E_put (by simp)
  have hcmp : Cmps Tryz.prog F (fun r => InR q.by_ r.vals.length) (rowOrd q.by_) 79 [] [.fp (encSel q)] := fun u x y hx hy => (runSelect2_ok q x y hb hx hy).at_ _
  have h := sortStable_ok rowSorts c_slices_SortStableFunc_Row_ok F (fun r => InR q.by_ r.vals.length) (rowOrd q.by_) _ [] [.fp (encSel q)] hcmp K (K.length + k2.length) hI hx
  rw [hFS, hFS] at h
  have e : vec (σ.next + 0) v (K.map encRowD) k2 = .sl (σ.next + 0) v 0 K.length (K.length + k2.length) := by rw [vec, List.length_map]
  rw [e]
  exact h
theorem clone_rows (l : List RowD) (hx : l.length ≤ 1048576) (σ : Store) : Ok Tryz.prog 75 [.c (.fz (l.map encRowD))] σ (Cloned σ 2 (l.map encRowD)) :=
  clone_ok mixed c_slices_Clone_Row_ok (l.map encRowD) rwLen (by rw [List.length_map]; omega) σ
/-! ### of no rows -/
theorem indexNil (f : Ce) : Pure Tryz.prog 164 [.c .nils, .c f] (.c (.int .i64 (-1))) := by
  refine Pure.run mixed c_slices_IndexFunc_Row_ok (Nat.le_of_ble_eq_true rfl) fun σ hS hA => ?_
  clear hS hA
  repeat' first|refine yaG ?_|(exfalso;omega)|(refine yaS ?_ ?_<;>intro _)
  apply Go.loop
  repeat' first|refine yaG ?_|(exfalso;omega)|(refine yaS ?_ ?_<;>intro _)
  exact .ret rfl (.int rfl)
theorem finNil {σ : Store} {l : List (Nat × List (List Ce))} : Fin σ (.c .nils) (.c .nils) (E σ l) := ⟨l, rfl, .c (.same _ .nils)⟩
theorem deleteNil (f : Ce) : Pure Tryz.prog 74 [.c .nils, .c f] (.c .nils) := by
  refine Pure.run mixed c_slices_DeleteFunc_Row_ok (Nat.le_of_ble_eq_true rfl) fun σ hS hA => ?_
  clear hS hA
  repeat' first|refine yaG ?_|refine yaC (indexNil f) ?_|(exfalso;omega)|(refine yaS ?_ ?_<;>intro _)
  exact .ret rfl finNil
theorem finTup0 {σ : Store} {l : List (Nat × List (List Ce))} : Fin σ (.tup []) (.tup []) (E σ l) := ⟨l, rfl, .tup rfl fun i hi => by simp at hi⟩
theorem insertNil (f : Ce) : Pure Tryz.prog 233 [.c .nils, .c (.int .i64 0), .c (.int .i64 0), .c f] (.tup []) := by
  refine Pure.run mixed c_slices_insertionSortCmpFunc_Row_ok (Nat.le_of_ble_eq_true rfl) fun σ hS hA => ?_
  clear hS hA
  repeat' first|refine yaG ?_|(exfalso;omega)|(refine yaS ?_ ?_<;>intro _)
  apply Go.loop
  repeat' first|refine yaG ?_|(exfalso;omega)|(refine yaS ?_ ?_<;>intro _)
  exact .fin rfl finTup0
theorem stableNil (f : Ce) : Pure Tryz.prog 166 [.c .nils, .c (.int .i64 0), .c f] (.tup []) := by
  refine Pure.run mixed c_slices_stableCmpFunc_Row_ok (Nat.le_of_ble_eq_true rfl) fun σ hS hA => ?_
  clear hS hA
  repeat' first|refine yaG ?_|(exfalso;omega)|(refine yaS ?_ ?_<;>intro _)
  apply Go.loop
  repeat' first|refine yaG ?_|refine yaC (insertNil f) ?_|(exfalso;omega)|(refine yaS ?_ ?_<;>intro _)
  apply Go.loop
  repeat' first|refine yaG ?_|(exfalso;omega)|(refine yaS ?_ ?_<;>intro _)
  exact .fin rfl finTup0
theorem sortNil (f : Ce) : Pure Tryz.prog 78 [.c .nils, .c f] (.tup []) := by
  refine Pure.run mixed c_slices_SortStableFunc_Row_ok (Nat.le_of_ble_eq_true rfl) fun σ hS hA => ?_
  clear hS hA
  repeat' first|refine yaG ?_|refine yaC (stableNil f) ?_|(exfalso;omega)|(refine yaS ?_ ?_<;>intro _)
  exact .fin rfl finTup0
/-! ### a line that grows -/
def LineSt (τ : Store) (vs : List Val) (xv : Ce) (ll : List (Nat × List (List Ce))) : Prop := (vs = [] ∧ xv = .nils ∧ ll = [(0, [[.nils]])]) ∨ ∃ v junk, Jk 3 junk ∧ xv = vec (τ.next + 1) v (vs.map encV) junk ∧ ll = [(0, [[vec (τ.next + 1) v (vs.map encV) junk]]), (v, vs.map encV ++ junk)]
theorem LineSt.gr {τ : Store} {vs : List Val} {xv : Ce} {ll : List (Nat × List (List Ce))} (h : LineSt τ vs xv ll) : Gr τ (E τ ll) := by
  refine ⟨ll, rfl, fun b hb e he x hx => ?_⟩
  rcases h with ⟨_, _, rfl⟩ | ⟨v, junk, hj, _, rfl⟩
  · rw [List.mem_singleton.1 hb] at he
    rw [List.mem_singleton.1 he] at hx
    rw [List.mem_singleton.1 hx]
    exact .flat .nils
  · rcases List.mem_cons.1 hb with rfl | hb
    · rw [List.mem_singleton.1 he] at hx
      rw [List.mem_singleton.1 hx]
      exact .sl _ _ _ _ _ (Nat.le_add_right _ _)
    · rw [List.mem_singleton.1 hb] at he
      rcases List.mem_append.1 he with he | he
      · exact .flat (flats e he x hx)
      · exact .flat ((hj e he).2 x hx)
theorem LineSt.has {τ : Store} {vs : List Val} {xv : Ce} {ll : List (Nat × List (List Ce))} (h : LineSt τ vs xv ll) : Has (E τ ll) (fun a => τ.next ≤ a ∧ a < (E τ ll).next) (.fz (vs.map encV)) xv := by
  rcases h with ⟨rfl, rfl, rfl⟩ | ⟨v, junk, hj, rfl, rfl⟩
  · exact .nil
  · exact has_vec (k := 1) rfl clean_append hj ⟨Nat.le_add_right _ _, by rw [E_next]; simp⟩
theorem LineSt.at0 {τ : Store} {vs : List Val} {xv : Ce} {ll : List (Nat × List (List Ce))} (h : LineSt τ vs xv ll) : ll[0]? = some (0, [[xv]]) := by
  rcases h with ⟨rfl, rfl, rfl⟩ | ⟨v, junk, hj, rfl, rfl⟩ <;> rfl
end Go.Proofs.YtinbdedlmkjokaaGreat.Am

/- Queries: the reference's RunSelect, its parts. -/
set_option linter.unusedVariables false
set_option linter.unusedSimpArgs false
namespace Go.Proofs.YtinbdedlmkjokaaGreat.Am

theorem l4At_ok (d : Data) (n : Int) (hx : d.rows.length ≤ 34359738368) : Pure Tryz.prog 89 [.agg (encData d), .c (.int .i64 n)] (.c (.int .i64 (idxA (fun r : RowD => r.id == n) d.rows 0))) := by
  refine Pure.run mixed c_spec_l4At_ok (Nat.le_of_ble_eq_true rfl) fun σ hS hA => ?_
  clear hS hA
  repeat' first|refine yaG ?_|(exfalso;omega)|(refine yaS ?_ ?_<;>intro _)
  refine Go.keep [1, 2, 5] (Go.loops (I := fun m fr τ => ∃ i : Nat, ∃ k : Int, m = d.rows.length - i ∧ i ≤ d.rows.length ∧ k = i ∧ idxA (fun r : RowD => r.id == n) d.rows 0 = idxA (fun r : RowD => r.id == n) (d.rows.drop i) k ∧
    fr = [(1, .c (.int .i64 n)), (2, .c (.fp (encData d))), (5, .c (.int .i64 k))] ∧ τ = E σ []) ?_ _ _ _ ⟨0, _, rfl, Nat.zero_le _, rfl, rfl, rfl, rfl⟩)
  rintro m fr τ ⟨i, k, rfl, hi, hn, hsl, rfl, rfl⟩ hrec
  by_cases hlt : i < d.rows.length
  · repeat' first|refine yaG ?_|((first|apply yG|apply yH|apply yI);exact rfl;(first|exact yX (enc := encRowD) rfl rfl hn hlt rfl))|(exfalso;omega)|(refine yaS ?_ ?_<;>intro _)
    · rename_i h
      refine .ret rfl (.int ?_)
      rw [hsl, List.drop_eq_getElem_cons hlt, idxA, if_pos (by rw [h]; simp)]
    · rename_i h
      refine Go.keep [1, 2, 5] (hrec _ _ _ (by omega) ⟨i + 1, _, rfl, hlt, wrap_succ hn (by omega), ?_, rfl, rfl⟩)
      rw [hsl, List.drop_eq_getElem_cons hlt, idxA, if_neg (by simpa using h), wrap64 (by omega) (by omega)]
  · repeat' first|refine yaG ?_|(exfalso;omega)|(refine yaS ?_ ?_<;>intro _)
    refine .ret rfl (.int ?_)
    rw [hsl, List.drop_eq_nil_of_le (by omega)]
    rfl
/-- A row is found by its number. -/
theorem at_row {l : List RowD} (h : Rise l) {r : RowD} (hr : r ∈ l) : ∃ (m : Nat) (hm : m < l.length), idxA (fun x : RowD => x.id == r.id) l 0 = (m : Int) ∧ l[m] = r := by
  rcases idxA_at (p := fun x : RowD => x.id == r.id) (l := l) (i := 0) (Int.le_refl _) with h0 | ⟨m, hm, h0, hp⟩
  · have := idxA_no h0 r hr
    simp at this
  · rw [Int.zero_add] at h0
    exact ⟨m, hm, h0, h.inj (List.getElem_mem hm) hr (beq_iff_eq.1 hp)⟩
/-- The place of insertion, from i on. -/
theorem insPos_at {by_ : List Int} {x : RowD} : ∀ {l : List RowD} {i : Nat} (hi : i < l.length), (∀ j (hj : j < l.length), j < i → lessBy x.vals l[j].vals by_ = false) → lessBy x.vals l[i].vals by_ = true → insPos by_ x l = i
  | [], i, hi, _, _ => by simp at hi
  | r :: l, 0, hi, _, h => by
    have h2 : lessBy x.vals r.vals by_ = true := h
    rw [insPos, if_pos h2]
  | r :: l, i + 1, hi, h0, h => by
    have h1 : lessBy x.vals r.vals by_ = false := h0 0 (Nat.zero_lt_succ _) (Nat.zero_lt_succ _)
    have h2 : ¬ lessBy x.vals r.vals by_ = true := by rw [h1]; decide
    rw [insPos, if_neg h2, insPos_at (l := l) (i := i) (Nat.lt_of_succ_lt_succ hi) (fun j hj hlt => h0 (j + 1) (Nat.succ_lt_succ hj) (Nat.succ_lt_succ hlt)) h]
theorem insPos_end {by_ : List Int} {x : RowD} : ∀ {l : List RowD}, (∀ j (hj : j < l.length), lessBy x.vals l[j].vals by_ = false) → insPos by_ x l = l.length
  | [], _ => rfl
  | r :: l, h0 => by
    have h1 : lessBy x.vals r.vals by_ = false := h0 0 (Nat.zero_lt_succ _)
    have h2 : ¬ lessBy x.vals r.vals by_ = true := by rw [h1]; decide
    rw [insPos, if_neg h2, insPos_end (l := l) (fun j hj => h0 (j + 1) (Nat.succ_lt_succ hj)), List.length_cons]
theorem aop_cutLo {fr : Fr} {σ : Store} {s : Nat} {x lo : Opd} {kd : IntKind} {es : List (List Ce)} {z : Int} {n : Nat} (hx : x.ev fr = some (.c (.fz es))) (hy : lo.ev fr = some (.c (.int kd z))) (hz : z = (n : Int)) (hn : n ≤ es.length) (hs : ∀ e ∈ es, e.length = s) : aop (.slice s x (some lo) none none) fr σ = some (.c (.fz (es.drop n)), σ) := by
  have : sliceA σ s (.fz es) (some (.c (.int kd z))) none none = some (.fz (es.drop n)) := by
    subst hz
    simp only [sliceA, bound]
    rw [if_pos (by omega)]
    simp only [Int.toNat_natCast]
    rw [if_pos ⟨hn, Nat.le_refl _, hs⟩, List.take_length]
  simp only [aop, hx, evo, hy, Option.map_some, this]
end Go.Proofs.YtinbdedlmkjokaaGreat.Am

/- Queries: the program's RunSelect, whole. -/
set_option linter.unusedVariables false
set_option linter.unusedSimpArgs false
namespace Go.Proofs.YtinbdedlmkjokaaGreat.Am

theorem l10F_schema {s : List Table} {db : List Data} {q : Sel} (h : dbF s db = true) : selectF s q = l10F s q := by rw [selectF, (dbF_at h).1, Bool.true_and]
theorem take_min {α : Type} (l : List α) (n : Nat) : l.take (min l.length n) = l.take n := by
  by_cases h : n ≤ l.length
  · rw [Nat.min_eq_right h]
  · rw [Nat.min_eq_left (by omega), List.take_of_length_le (Nat.le_refl _), List.take_of_length_le (by omega)]
theorem aop_cutRows {fr : Fr} {σ : Store} {x hi : Opd} {kd : IntKind} {l : List RowD} {z : Int} {n : Nat} (hx : x.ev fr = some (.c (.fz (l.map encRowD)))) (hy : hi.ev fr = some (.c (.int kd z))) (hz : z = (n : Int)) (hn : n ≤ l.length) : aop (.slice 2 x none (some hi) none) fr σ = some (.c (.fz ((l.take n).map encRowD)), σ) := by
  rw [List.map_take]
  exact aop_cutFz hx hy hz (by rw [List.length_map]; exact hn) rwLen
theorem aop_min {fr : Fr} {σ : Store} {x y : Opd} {k : IntKind} {a b : Int} (hx : x.ev fr = some (.c (.int k a))) (hy : y.ev fr = some (.c (.int k b))) : aop (.mm false x y) fr σ = some (.c (.int k (if b < a then b else a)), σ) := by
  simp only [aop, hx, hy]
  rfl
theorem min_at {n : Nat} {m : Int} (h : 0 ≤ m) : (if m < (n : Int) then m else (n : Int)) = ((min n m.toNat : Nat) : Int) := by
  split <;> omega
theorem frz_nilrows {σ : Store} {l : List (Nat × List (List Ce))} {n : Nat} : FrzV (E σ l) n (.c .nils) (.c (.fz [])) := .c .nil
theorem clone_nil {l : List RowD} (h : l.map encRowD = []) : l = [] := List.map_eq_nil_iff.1 h
set_option maxHeartbeats 4000000 in
theorem RunSelect_ok (s : List Table) (db : List Data) (q : Sel) (hx : s.length ≤ 34359738368) (hb : ∀ t ∈ s, bTable 34359738368 t) (hd : db.length ≤ 34359738368) (hdb : ∀ d ∈ db, bData 34359738368 d) (hq : bSel 34359738368 q) (σ : Store) :
    Ok Tryz.prog 23 [.c (.fz (s.map encTable)), .c (.fz (db.map encData)), .agg (encSel q)] σ (NewV σ (.tup [.c (.fz ((RunF s db q).1.map encLine)), .c (.bool (RunF s db q).2)])) := by
  refine Ok.run mixed c_impl_RunSelect_ok (Nat.le_of_ble_eq_true rfl) fun hS hA => ?_
  have hQ : ∀ n, σ.next ≤ n → ∀ y ∈ (AV.c (.fp (encSel q))).all, Old n y := fun n hn y hy => by
    simp only [AV.all, List.mem_singleton] at hy
    subst hy
    exact .fp _ fun j hj => (hA _ (by simp) _ (List.getElem_mem (l := (AV.agg (encSel q)).all) (n := j) hj)).mono hn
  clear hA
  have c1 := DbOk_ok s db hx hb hd hdb
  have c2 := SelectOk_ok s q hx hb hq
  rw [RunF]
  cases h1 : dbF s db
  · rw [h1] at c1
    repeat' first|refine yaG ?_|refine yaC (c1) ?_|(exfalso;omega)|(refine yaS ?_ ?_<;>intro _)
    exact .ret rfl newNo
  rw [h1] at c1
  rw [l10F_schema h1] at c2
  cases h2 : l10F s q
  · rw [h2] at c2
    repeat' first|refine yaG ?_|refine yaC (c1) ?_|refine yaC (c2) ?_|(exfalso;omega)|(refine yaS ?_ ?_<;>intro _)
    exact .ret rfl newNo
  rw [h2] at c2
  rw [show (true && true) = true from rfl, if_pos rfl]
  obtain ⟨m, hM⟩ := sel_at h2
  obtain ⟨hs, hl, hrows⟩ := dbF_at h1
  have hlt := hM.lt
  have hlt2 : m < db.length := by omega
  have hrf := hrows m hlt hlt2
  obtain ⟨hr1, hr2⟩ := rowsF_mem hrf
  have hra : rowsAt db (selPos s q) = db[m].rows := by rw [hM.pos, rowsAt, Int.toNat_natCast, List.getElem?_eq_getElem hlt2]
  rw [hra]
  have c3 := TableAt_ok s q.table hx
  rw [show idxA (fun t : Table => t.name == q.table) s 0 = (m : Int) from hM.pos] at c3
  have hbd := hdb _ (List.getElem_mem hlt2)
  have hwl := hq.2.2.1.1
  have c4 := NewV.pure (matching_ok db[m].rows q.wher (by omega) (fun r hr => (hbd.2 r hr).1) hwl)
  have hids := matchF_ids (l := db[m].rows) (w := q.wher)
  rw [runF]
  generalize matchF db[m].rows q.wher = M at c4 hids
  obtain ⟨ids, mb⟩ := M
  simp only at c4 hids
  have hz : ((m : Int) : Int) = ((m : Nat) : Int) := rfl
  cases mb
  · repeat' first|refine yaG ?_|((first|apply yG|apply yH|apply yI);exact rfl;(first|exact yX (enc := encData) rfl rfl hz hlt2 rfl))|refine yaC (c1) ?_|refine yaC (c2) ?_|refine yaC (c3) ?_|refine yaC (c4) ?_|(exfalso;omega)|(refine yaS ?_ ?_<;>intro _)
    exact .ret rfl newNo
  have hids := hids rfl
  rw [if_pos rfl]
  have hOk : ∀ x ∈ keptF db[m].rows q.wher, OkR x := fun x hx => (fitF_vals (hr2 x (List.mem_filter.1 hx).1).1).2
  have hRi : Rise (keptF db[m].rows q.wher) := (rowsF_rise hrf).kept _
  have hIn : ∀ r ∈ keptF db[m].rows q.wher, InR q.by_ r.vals.length := fun r hr => by rw [(fitF_vals (hr2 r (List.mem_filter.1 hr).1).1).1]; exact hM.by_
  have hKl : (keptF db[m].rows q.wher).length ≤ 60 := Nat.le_trans (List.length_filter_le _ _) hr1
  have hst := stable_sorted (by_ := q.by_) hRi hOk
  have hsp := (sortedF_spec (by_ := q.by_) hRi hOk).1
  have hSl : (sortedF q.by_ (keptF db[m].rows q.wher)).length ≤ 60 := by rw [hsp.length_eq]; exact hKl
  have hSv : ∀ r ∈ sortedF q.by_ (keptF db[m].rows q.wher), r.vals.length ≤ 8 := fun r hr => by
    rw [(fitF_vals (hr2 r (List.mem_filter.1 (hsp.mem_iff.1 hr)).1).1).1]
    exact (schemaF_cols hs _ (List.getElem_mem hlt)).2
  have hpick : (db[m].rows.filter fun a => !!(ids.any fun x => a.id == x)) = keptF db[m].rows q.wher := by
    rw [← pick_kept (rowsF_rise hrf) q.wher, ← hids]
    refine List.filter_congr fun a _ => ?_
    rw [Bool.not_not, any_contains]
  have hidl : ids.length ≤ 34359738368 := by rw [hids, List.length_map]; omega
  rw [selRows]
  repeat' first|refine yaG ?_|((first|apply yG|apply yH|apply yI);exact rfl;(first|exact yX (enc := encData) rfl rfl hz hlt2 rfl))|refine yaC (c1) ?_|refine yaC (c2) ?_|refine yaC (c3) ?_|refine yaC (c4) ?_|(exfalso;omega)|(refine yaS ?_ ?_<;>intro _)
  clear c1 c2 c3 c4
  generalize hK : keptF db[m].rows q.wher = Kp at *
  have hps : ∀ r ∈ db[m].rows, Pure Tryz.prog 76 (([] : List Ce).map .c ++ [.agg (encRowD r)] ++ [.fp [.fz (ids.map encI)]].map .c) (.c (.bool (!(ids.any fun a => r.id == a)))) := fun r _ => runSelect1_ok ids r hidl
  have cd := fun v junk (hj : Jk 2 junk) => deleteRows_ok db[m].rows junk v (fun a => !(ids.any fun x => a.id == x)) 76 [] [.fp [.fz (ids.map encI)]] hps (by omega) hj σ
  simp only [hpick] at cd
  refine Go.keep [5, 9, 46] ?_
  refine Go.meet (K' := [_]) (fun fr τ => (Kp = [] ∧ fr = [(5, .c (.fp (encSel q))), (8, .c .nils)] ∧ τ = E σ []) ∨ ∃ v k2, Jk 2 k2 ∧ fr = [(5, .c (.fp (encSel q))), (8, .c (vec (σ.next + 0) v (Kp.map encRowD) k2))] ∧ τ = E σ [(v, Kp.map encRowD ++ k2)]) (fun K hm => ?_) ?_
  · refine .call _ rfl rfl rfl (clone_rows db[m].rows (by omega) (E σ [])) ?_
    rintro r τ (⟨he, rfl, rfl⟩ | ⟨v, junk, hj, rfl, rfl⟩)
    · have hr0 : db[m].rows = [] := clone_nil he
      rw [E_E, List.nil_append]
      repeat' first|refine yaG ?_|((first|apply yQ|apply yR|apply yS);(iterate 3 exact rfl);exact deleteNil _)|(exfalso;omega)|(refine yaS ?_ ?_<;>intro _)
      refine Go.keep [5, 8] (hm _ _ (.inl ⟨?_, rfl, rfl⟩))
      rw [← hK, hr0]
      rfl
    · rw [E_E, List.nil_append]
      repeat' first|refine yaG ?_|(exfalso;omega)|(refine yaS ?_ ?_<;>intro _)
      refine .call _ rfl rfl rfl (cd v junk hj) ?_
      rintro r τ ⟨k2, hj2, rfl, rfl⟩
      repeat' first|refine yaG ?_|(exfalso;omega)|(refine yaS ?_ ?_<;>intro _)
      exact Go.keep [5, 8] (hm _ _ (.inr ⟨v, k2, hj2, rfl, rfl⟩))
  clear cd hps hpick hidl
  rintro fr τ hst1
  refine .seq ?_
  refine Go.meet (K' := [_]) (fun fr τ => fr = [(5, .c (.fp (encSel q))), (8, .c (.fz ((sortedF q.by_ Kp).map encRowD)))] ∧ τ = E σ []) (fun K hm => ?_) ?_
  · rcases hst1 with ⟨hK0, rfl, rfl⟩ | ⟨v, k2, hj2, rfl, rfl⟩
    · repeat' first|refine yaG ?_|((first|apply yQ|apply yR|apply yS);(iterate 3 exact rfl);exact sortNil _)|(exfalso;omega)|(refine yaS ?_ ?_<;>intro _)
      refine Go.freezeN (l := []) (m := []) (fr' := [(5, .c (.fp (encSel q))), (8, .c (.fz ((sortedF q.by_ Kp).map encRowD)))]) hS (fun b hb => by cases hb) (Nat.le_refl _) (.frz rfl (.refl (hQ _ (Nat.le_refl _))) (.frz rfl ?_ .nil)) (hm _ _ ⟨rfl, rfl⟩)
      rw [hK0]
      exact frz_nilrows
    · repeat' first|refine yaG ?_|(exfalso;omega)|(refine yaS ?_ ?_<;>intro _)
      refine .call _ rfl rfl rfl (sortRows_ok q Kp k2 v 0 hq.2.2.2 hIn (by omega) σ) ?_
      rintro r τ ⟨rfl, rfl⟩
      rw [hst]
      repeat' first|refine yaG ?_|(exfalso;omega)|(refine yaS ?_ ?_<;>intro _)
      refine Go.freezeN (l := []) (m := [(v, (sortedF q.by_ Kp).map encRowD ++ k2)]) (fr' := [(5, .c (.fp (encSel q))), (8, .c (.fz ((sortedF q.by_ Kp).map encRowD)))]) hS (fun b hb => by cases hb) (Nat.le_refl _) (.frz rfl (.refl (hQ _ (Nat.le_refl _))) (.frz rfl ?_ .nil)) (hm _ _ ⟨rfl, rfl⟩)
      have hvv : vec (σ.next + 0) v (Kp.map encRowD) k2 = vec (σ.next + 0) v ((sortedF q.by_ Kp).map encRowD) k2 := by rw [vec, vec, List.length_map, List.length_map, hsp.length_eq]
      rw [hvv]
      exact frz_old (k := 0) rfl (oldRw _) (Nat.le_refl _)
  clear hst1
  clear fr τ
  rintro fr τ ⟨rfl, rfl⟩
  generalize sortedF q.by_ Kp = S at *
  have hm0 := hM.most0
  have hmin := min_at (n := S.length) hm0
  have hlen : (if q.most < ((S.map encRowD).length : Int) then q.most else ((S.map encRowD).length : Int)) = ((min S.length q.most.toNat : Nat) : Int) := by rw [List.length_map]; exact hmin
  have hcl : min S.length q.most.toNat ≤ S.length := Nat.min_le_left _ _
  have hS2 : ∀ r ∈ S.take (min S.length q.most.toNat), r.vals.length ≤ 8 := fun r hr => hSv r (List.mem_of_mem_take hr)
  rw [← take_min S q.most.toNat]
  repeat' first|(apply yA;exact rfl)|apply yB|apply yC|((first|apply yD|apply yE);(first|exact yF|assumption);iterate 6 exact rfl)|((first|apply yG|apply yH|apply yI);exact rfl;(first|exact yJ|exact yK rfl rfl|exact yL rfl|exact yM rfl|exact aop_min rfl rfl|exact aop_cutRows rfl rfl hmin hcl|exact rfl|exact aL rfl rfl rfl rfl rfl|exact aS rfl rfl rfl rfl rfl rfl rfl))|((first|apply yN|apply yO|apply yP);exact rfl)|(exfalso;omega)|(((first|apply yT|apply yU|apply yV|apply yW);exact rfl;(first|exact .d|exact .e|exact .n|((fail_if_success exact bqt);(fail_if_success exact bqf);exact .b)))<;>intro _)
  have hL60 : (S.take (min S.length q.most.toNat)).length ≤ 60 := by rw [List.length_take]; omega
  generalize S.take (min S.length q.most.toNat) = L at *
  clear hmin hlen hcl
  refine Go.keep [5, 11, 60, 61, 62] (Go.loops (I := fun k fr τ => ∃ (i : Nat) (z : Int) (acc : List Line) (x : Ce), k = L.length - i ∧ i ≤ L.length ∧ z = i ∧ (acc.length = i ∧ linesAux q.terms L [] = linesAux q.terms (L.drop i) acc) ∧ Grow σ τ 1 (acc.map encLine) x ∧
    fr = [(5, .c (.fp (encSel q))), (11, .c x), (60, .c (.fz (L.map encRowD))), (61, .c (.int .i64 (L.length : Int))), (62, .c (.int .i64 z))]) ?_ _ _ _ ⟨0, _, [], _, rfl, Nat.zero_le _, rfl, ⟨rfl, rfl⟩, Grow.empty, rfl⟩)
  rintro k fr τ ⟨i, z, acc, x, rfl, hi, hz, ⟨hal, hj⟩, hG, rfl⟩ hrec
  have hle : σ.next ≤ τ.next := hG.gr.next
  by_cases hlt : i < L.length
  · have hv8 := hS2 _ (List.getElem_mem hlt)
    rw [List.drop_eq_getElem_cons hlt, linesAux] at hj
    refine .old fun _ hSτ => ?_
    rw [← E_nil hSτ]
    have hle1 : σ.next ≤ (E τ []).next := hle
    repeat' first|(apply yA;exact rfl)|apply yB|apply yC|(apply yE (s := 2);(first|exact yF|assumption);iterate 6 exact rfl)|((first|apply yG|apply yH|apply yI);exact rfl;(first|exact yJ|exact yK rfl rfl|exact yL rfl|exact yM rfl|exact rfl|exact aL rfl rfl rfl rfl rfl|exact aS rfl rfl rfl rfl rfl rfl rfl|exact yX (enc := encRowD) rfl rfl hz hlt rfl))|((first|apply yN|apply yO|apply yP);exact rfl)|(exfalso;omega)|(((first|apply yT|apply yU|apply yV|apply yW);exact rfl;(first|exact .d|exact .e|exact .n|((fail_if_success exact bqt);(fail_if_success exact bqf);exact .b)))<;>intro _)
    refine Go.keep [5, 11, 13, 14, 60, 61, 62, 68, 69, 70] (Go.loops (I := fun k fr ρ => ∃ (j : Nat) (w : Int) (vs : List Val) (xv : Ce) (ll : List (Nat × List (List Ce))), k = q.terms.length - j ∧ j ≤ q.terms.length ∧ w = j ∧ (vs.length = j ∧ lineAux L[i].vals q.terms [] = lineAux L[i].vals (q.terms.drop j) vs) ∧ LineSt τ vs xv ll ∧
      fr = [(5, .c (.fp (encSel q))), (11, .c x), (13, .c (.fp (encRowD L[i]))), (14, .c (.ptr (τ.next + 0) 0 0 0)), (60, .c (.fz (L.map encRowD))), (61, .c (.int .i64 (L.length : Int))), (62, .c (.int .i64 z)), (68, .c (.fz (q.terms.map encTerm))), (69, .c (.int .i64 (q.terms.length : Int))), (70, .c (.int .i64 w))] ∧ ρ = E τ ll) ?_ _ _ _ ⟨0, _, [], .nils, _, rfl, Nat.zero_le _, rfl, ⟨rfl, rfl⟩, .inl ⟨rfl, rfl, rfl⟩, rfl, rfl⟩)
    rintro k ρ0 ρ ⟨j, w, vs, xv, ll, rfl, hjl, hw, ⟨hvl, hln⟩, hLS, rfl, rfl⟩ hrecj
    have hle2 : σ.next ≤ (E τ ll).next := Nat.le_trans hle (Nat.le_add_right _ _)
    have htl := hM.terms
    by_cases hjt : j < q.terms.length
    · rw [List.drop_eq_getElem_cons hjt, lineAux] at hln
      have hte := hq.2.1.2 _ (List.getElem_mem hjt)
      have c5 := Eval_ok q.terms[j].expr L[i].vals hte.1 (by omega)
      generalize evalI q.terms[j].expr L[i].vals = ev at c5 hln
      obtain ⟨ev1, ev2⟩ := ev
      simp only at c5 hln
      cases ev2
      · rw [if_neg (by decide)] at hln
        clear hrecj hrec
        repeat' first|refine yaG ?_|((first|apply yG|apply yH|apply yI);exact rfl;(first|exact yX (enc := encTerm) rfl rfl hw hjt rfl))|refine yaC (c5) ?_|(exfalso;omega)|(refine yaS ?_ ?_<;>intro _)
        refine .ret rfl ?_
        rw [hln] at hj
        rw [linesF, hj]
        exact newPair (.bool _) (newNil (hG.later hLS.gr).1)
      · rw [if_pos rfl] at hln
        have hbd : ((vs.map encV).length + 1) * 32 ≤ 140737488355328 := by rw [List.length_map]; omega
        rcases hLS with ⟨rfl, rfl, rfl⟩ | ⟨v, junk, hjk, rfl, rfl⟩
        · repeat' first|(apply yA;exact rfl)|apply yB|apply yC|((first|apply yD|apply yE);(first|exact yF|assumption);iterate 6 exact rfl)|((first|apply yG|apply yH|apply yI);exact rfl;(first|exact yJ|exact yK rfl rfl|exact yL rfl|exact yM rfl|exact aop_appNil rfl rfl (fun e he => by rw [List.mem_singleton.1 he];rfl) (by simp)|exact rfl|exact aL rfl rfl rfl rfl rfl|exact aS rfl rfl rfl rfl rfl rfl rfl|exact yX (enc := encTerm) rfl rfl hw hjt rfl))|((first|apply yN|apply yO|apply yP);exact rfl)|((first|apply yQ|apply yR|apply yS);(iterate 3 exact rfl);exact c5)|(exfalso;omega)|(((first|apply yT|apply yU|apply yV|apply yW);exact rfl;(first|exact .d|exact .e|exact .n|((fail_if_success exact bqt);(fail_if_success exact bqf);exact .b)))<;>intro _)
          exact Go.keep [5, 11, 13, 14, 60, 61, 62, 68, 69, 70] (hrecj _ _ _ (by omega) ⟨j + 1, _, [] ++ [ev1], _, _, rfl, hjt, wrap_succ hw (by omega), ⟨by rw [List.length_append, hvl]; rfl, hln⟩, .inr ⟨0, [], Jk.nil, rfl, rfl⟩, rfl, rfl⟩)
        · repeat' first|refine yaG ?_|((first|apply yG|apply yH|apply yI);exact rfl;(first|exact yX (enc := encTerm) rfl rfl hw hjt rfl))|refine yaC (c5) ?_|(exfalso;omega)|(refine yaS ?_ ?_<;>intro _)
          refine Go.app1 (k := 1) (ys := vs.map encV) (junk := junk) (z := encV ev1) rfl rfl rfl rfl rfl lens hjk rfl hbd fun v' junk' hj' => ?_
          rw [show vs.map encV ++ [encV ev1] = (vs ++ [ev1]).map encV by simp]
          repeat' first|refine yaG ?_|(exfalso;omega)|(refine yaS ?_ ?_<;>intro _)
          exact Go.keep [5, 11, 13, 14, 60, 61, 62, 68, 69, 70] (hrecj _ _ _ (by omega) ⟨j + 1, _, vs ++ [ev1], _, _, rfl, hjt, wrap_succ hw (by omega), ⟨by rw [List.length_append, hvl]; rfl, hln⟩, .inr ⟨v', junk', hj', rfl, rfl⟩, rfl, rfl⟩)
    · clear hrecj
      rw [List.drop_eq_nil_of_le (by omega), lineAux] at hln
      rw [hln] at hj
      have hh := hLS.has
      have hG2 := hG.later hLS.gr
      repeat' first|refine yaG ?_|((first|apply yG|apply yH|apply yI);exact rfl;(first|exact aop_load (k := 0) rfl hLS.at0 rfl (Nat.le_of_ble_eq_true rfl) rfl))|(exfalso;omega)|(refine yaS ?_ ?_<;>intro _)
      refine Go.grow ?_ ?_ ?_ hG2 hle (Nat.le_add_right _ _) (line_owned hh) rfl ?_ fun x' τ3 hG3 => ?_
      · exact rfl
      · exact rfl
      · exact rfl
      · rw [List.length_map]
        omega
      repeat' first|refine yaG ?_|(exfalso;omega)|(refine yaS ?_ ?_<;>intro _)
      refine Go.keep [5, 11, 60, 61, 62] (hrec _ _ _ (by omega) ⟨i + 1, _, acc ++ [⟨vs⟩], x', rfl, hlt, wrap_succ hz (by omega), ⟨by rw [List.length_append, hal]; rfl, hj⟩, ?_, rfl⟩)
      rw [List.map_append]
      exact hG3
  · rw [List.drop_eq_nil_of_le (by omega), linesAux] at hj
    repeat' first|refine yaG ?_|(exfalso;omega)|(refine yaS ?_ ?_<;>intro _)
    refine .ret rfl ?_
    rw [linesF, hj]
    exact newPair (.bool _) hG.v
end Go.Proofs.YtinbdedlmkjokaaGreat.Am

/- Queries: the reference's RunSelect. -/
set_option linter.unusedVariables false
set_option linter.unusedSimpArgs false
namespace Go.Proofs.YtinbdedlmkjokaaGreat.Am

theorem frz_ptr0 {σ : Store} {l : List (Nat × List (List Ce))} {k v N : Nat} {e : List Ce} (hl : l[k]? = some (v, [e])) (ho : ∀ x ∈ e, Old N x) (hN : N ≤ σ.next + k) : FrzV (E σ l) N (.c (.ptr (σ.next + k) v 0 0)) (.c (.fp e)) :=
  .c (.ptr _ _ _ _ [e] e e hN (E_get hl) rfl rfl fun j hj => by
    simp only [Nat.zero_add]
    exact .same _ (ho _ (List.getElem_mem hj)))
theorem old_ids {n : Nat} {l : List Int} : ∀ y ∈ (AV.c (.fz (l.map encI))).all, Old n y := fun y hy => by
  rw [List.mem_singleton.1 hy]; exact old_fz1 (oldInts _)
theorem old_rows {n : Nat} {l : List RowD} : ∀ y ∈ (AV.c (.fz (l.map encRowD))).all, Old n y := fun y hy => by
  rw [List.mem_singleton.1 hy]; exact old_fz1 fun e he x hx => oldRw l e he x hx
theorem old_data {n : Nat} {d : Data} : ∀ y ∈ (AV.c (.fp (encData d))).all, Old n y := fun y hy => by
  rw [List.mem_singleton.1 hy]
  exact .fp _ fun j hj => oldDatas [d] _ (List.mem_singleton.2 rfl) _ (List.getElem_mem hj)
theorem old_row {n : Nat} {x : RowD} : ∀ y ∈ encRowD x, Old n y := oldRw [x] _ (List.mem_singleton.2 rfl)
theorem LineSt.olds {τ : Store} {vs : List Val} {xv : Ce} {ll : List (Nat × List (List Ce))} (h : LineSt τ vs xv ll) : ∀ b ∈ ll, ∀ e ∈ b.2, ∀ x ∈ e, Old (τ.next + ll.length) x := by
  intro b hb e he x hx
  rcases h with ⟨_, _, rfl⟩ | ⟨v, junk, hj, _, rfl⟩
  · rw [List.mem_singleton.1 hb] at he
    rw [List.mem_singleton.1 he] at hx
    rw [List.mem_singleton.1 hx]
    exact .nils
  · rcases List.mem_cons.1 hb with rfl | hb
    · rw [List.mem_singleton.1 he] at hx
      rw [List.mem_singleton.1 hx]
      exact .sl _ _ _ _ _ (Nat.lt_succ_self _)
    · rw [List.mem_singleton.1 hb] at he
      rcases List.mem_append.1 he with he | he
      · exact (flats e he x hx).old _
      · exact ((hj e he).2 x hx).old _
set_option maxHeartbeats 4000000 in
theorem sRunSelect_ok (s : List Table) (db : List Data) (q : Sel) (hx : s.length ≤ 34359738368) (hb : ∀ t ∈ s, bTable 34359738368 t) (hd : db.length ≤ 34359738368) (hdb : ∀ d ∈ db, bData 34359738368 d) (hq : bSel 34359738368 q) (σ : Store) :
    Ok Tryz.prog 24 [.c (.fz (s.map encTable)), .c (.fz (db.map encData)), .agg (encSel q)] σ (NewV σ (.tup [.c (.fz ((RunF s db q).1.map encLine)), .c (.bool (RunF s db q).2)])) := by
  refine Ok.run mixed c_spec_RunSelect_ok (Nat.le_of_ble_eq_true rfl) fun hS hA => ?_
  have hQ : ∀ n, σ.next ≤ n → ∀ y ∈ (AV.c (.fp (encSel q))).all, Old n y := fun n hn y hy => by
    simp only [AV.all, List.mem_singleton] at hy
    subst hy
    exact .fp _ fun j hj => (hA _ (by simp) _ (List.getElem_mem (l := (AV.agg (encSel q)).all) (n := j) hj)).mono hn
  clear hA
  have c1 := sDbOk_ok s db hx hb hd hdb
  rw [RunF]
  cases h1 : dbF s db
  · rw [h1] at c1
    repeat' first|refine yaG ?_|refine yaC (c1) ?_|(exfalso;omega)|(refine yaS ?_ ?_<;>intro _)
    exact .ret rfl newNo
  rw [h1] at c1
  have c2 := l10Ok_ok s q (dbF_at h1).1 hx hb hq
  cases h2 : l10F s q
  · rw [h2] at c2
    repeat' first|refine yaG ?_|refine yaC (c1) ?_|refine yaC (c2) ?_|(exfalso;omega)|(refine yaS ?_ ?_<;>intro _)
    exact .ret rfl newNo
  rw [h2] at c2
  rw [show (true && true) = true from rfl, if_pos rfl]
  obtain ⟨m, hM⟩ := sel_at h2
  obtain ⟨hs, hl, hrows⟩ := dbF_at h1
  have hlt := hM.lt
  have hlt2 : m < db.length := by omega
  have hrf := hrows m hlt hlt2
  obtain ⟨hr1, hr2⟩ := rowsF_mem hrf
  have hcl := schemaF_cols hs _ (List.getElem_mem hlt)
  have hra : rowsAt db (selPos s q) = db[m].rows := by rw [hM.pos, rowsAt, Int.toNat_natCast, List.getElem?_eq_getElem hlt2]
  rw [hra]
  have c3 := l3At_ok s q.table hx
  rw [show idxA (fun t : Table => t.name == q.table) s 0 = (m : Int) from hM.pos] at c3
  have hwl := hq.2.2.1.1
  have hrow : ∀ r ∈ db[m].rows, areVals r.vals 16 = true ∧ r.vals.length = s[m].cols.length ∧ OkR r := fun r hr => by
    obtain ⟨q1, _⟩ := hr2 r hr
    exact ⟨fitF_are q1 hcl.2, (fitF_vals q1).1, (fitF_vals q1).2⟩
  have c4 := NewV.pure (l7Matching_ok db[m] q.wher (by omega) hwl fun h0 r hr => ⟨(hrow r hr).1, by rw [(hrow r hr).2.1]; exact whereF_some hM.wh h0⟩)
  have hids := matchF_ids (l := db[m].rows) (w := q.wher)
  rw [runF]
  generalize matchF db[m].rows q.wher = M at c4 hids
  obtain ⟨ids, mb⟩ := M
  simp only at c4 hids
  have hz : ((m : Int) : Int) = ((m : Nat) : Int) := rfl
  cases mb
  · repeat' first|refine yaG ?_|((first|apply yG|apply yH|apply yI);exact rfl;(first|exact yX (enc := encData) rfl rfl hz hlt2 rfl))|refine yaC (c1) ?_|refine yaC (c2) ?_|refine yaC (c3) ?_|refine yaC (c4) ?_|(exfalso;omega)|(refine yaS ?_ ?_<;>intro _)
    exact .ret rfl newNo
  have hids := hids rfl
  rw [if_pos rfl]
  have hRr := rowsF_rise hrf
  have hKm : ∀ r ∈ keptF db[m].rows q.wher, r ∈ db[m].rows := fun r hr => (List.mem_filter.1 hr).1
  have hKl : (keptF db[m].rows q.wher).length ≤ 60 := Nat.le_trans (List.length_filter_le _ _) hr1
  rw [selRows]
  repeat' first|refine yaG ?_|((first|apply yG|apply yH|apply yI);exact rfl;(first|exact yX (enc := encData) rfl rfl hz hlt2 rfl))|refine yaC (c1) ?_|refine yaC (c2) ?_|refine yaC (c3) ?_|refine yaC (c4) ?_|(exfalso;omega)|(refine yaS ?_ ?_<;>intro _)
  clear c1 c2 c3 c4
  have hRi : Rise (keptF db[m].rows q.wher) := hRr.kept _
  have hOk : ∀ x ∈ keptF db[m].rows q.wher, OkR x := fun x hx => (hrow x (hKm x hx)).2.2
  generalize keptF db[m].rows q.wher = Kp at *
  have hin : ∀ r ∈ db[m].rows, InR q.by_ r.vals.length := fun r hr => by rw [(hrow r hr).2.1]; exact hM.by_
  have hte : ∀ t ∈ q.terms, ∀ r ∈ db[m].rows, exprF t.expr r.vals.length = true := fun t ht r hr => by rw [(hrow r hr).2.1]; exact hM.each t ht
  generalize db[m] = d at *
  refine Go.freezeN (l := []) (m := [(0, [])]) (fr' := [(5, .c (.fp (encSel q))), (8, .c (.fp (encData d))), (9, .c (.fz (ids.map encI))), (11, .c (.fz (([] : List RowD).map encRowD))), (12, .c (.int .i64 0))]) hS (fun b hb => by cases hb) (Nat.le_refl _)
    (.frz rfl (.refl (hQ _ (Nat.le_refl _))) (.frz rfl (.refl old_data) (.frz rfl (.refl old_ids) (.frz rfl (frz_old (k := 0) (v := 0) (ys := []) (junk := []) rfl (fun e he => by cases he) (Nat.le_refl _)) (.frz rfl (.refl old_c) .nil))))) ?_
  have hSs := sortedF_spec (by_ := q.by_) hRi hOk
  refine Go.meet (K' := [_, _]) (fun fr τ => fr = [(5, .c (.fp (encSel q))), (11, .c (.fz ((sortedF q.by_ Kp).map encRowD)))] ∧ τ = E σ []) (fun K hm => ?_) ?_
  · refine Go.loops (I := fun k fr τ => ∃ (i : Nat) (z : Int) (acc : List RowD), k = Kp.length - i ∧ i ≤ Kp.length ∧ z = i ∧ (sortedF q.by_ Kp = insAll q.by_ (Kp.drop i) acc ∧ acc.length = i ∧ ∀ r ∈ acc, r ∈ d.rows) ∧
      fr = [(5, .c (.fp (encSel q))), (8, .c (.fp (encData d))), (9, .c (.fz (ids.map encI))), (11, .c (.fz (acc.map encRowD))), (12, .c (.int .i64 z))] ∧ τ = E σ []) ?_ _ _ _ ⟨0, _, [], rfl, Nat.zero_le _, rfl, ⟨rfl, rfl, fun r hr => by cases hr⟩, rfl, rfl⟩
    rintro k fr τ ⟨i, z, acc, rfl, hi, hz, ⟨hso, hal, hac⟩, rfl, rfl⟩ hrec
    have hil : ids.length = Kp.length := by rw [hids, List.length_map]
    by_cases hlt : i < Kp.length
    · have hxm := hKm _ (List.getElem_mem hlt)
      obtain ⟨j, hj, hji, hjr⟩ := at_row hRr hxm
      have hii : i < ids.length := by omega
      have hid : ids[i] = Kp[i].id := by
        rw [List.getElem_of_eq hids hii, List.getElem_map]
      have c5 := l4At_ok d ids[i] (by omega)
      rw [show idxA (fun r : RowD => r.id == ids[i]) d.rows 0 = (j : Int) by rw [hid]; exact hji] at c5
      have hzj : (j : Int) = ((j : Nat) : Int) := rfl
      repeat' first|apply Go.seq|apply Go.skip|apply Go.region|apply Go.nil|apply Go.block|apply Go.blk|apply Go.segs|(apply Go.exit;exact rfl)|(apply Go.cond true;exact rfl)|(apply Go.cond false;exact rfl)|apply yB|apply yC|((first|apply yD|apply yE);(first|exact yF|assumption);iterate 6 exact rfl)|((first|apply yG|apply yH|apply yI);exact rfl;(first|exact yJ|exact yK rfl rfl|exact yL rfl|exact yM rfl|exact rfl|exact aL rfl rfl rfl rfl rfl|exact aS rfl rfl rfl rfl rfl rfl rfl))|((first|apply yN|apply yO|apply yP);exact rfl)|(exfalso;omega)|(((first|apply yT|apply yU|apply yV|apply yW);exact rfl;(first|exact .d|exact .e|exact .n|((fail_if_success exact bqt);(fail_if_success exact bqf);exact .b)))<;>intro _)
      apply Go.draw
      refine Go.qkd [] ?_
      repeat' first|(apply Qk.nil;show Go _ _ _ _ _ _ _ _)|(apply Qk.op;exact rfl;(first|(rintro _ ⟨_, rfl⟩;exact rfl)|(rintro _ ⟨_, rfl⟩;exact aop_load rfl rfl rfl (Nat.le_of_ble_eq_true rfl) rfl)|(rintro _ ⟨_, rfl⟩;exact yX (enc := encI) rfl rfl hz hii rfl)|(rintro _ ⟨_, rfl⟩;exact yX (enc := encRowD) rfl rfl hzj hj rfl)))|(apply Qk.no;exact rfl)|(apply Qk.pcall;(iterate 3 exact rfl);(first|exact c5))|(apply Qk.wop;exact rfl;exact rfl;(first|exact yJ|exact yL rfl|exact aop_store rfl rfl rfl rfl rfl rfl (Nat.le_of_ble_eq_true rfl));exact ⟨_, rfl⟩)
      repeat' first|apply Go.seq|apply Go.skip|apply Go.region|apply Go.nil|apply Go.blk|apply Go.segs|(apply Go.exit;exact rfl)|(apply Go.cond true;exact rfl)|(apply Go.cond false;exact rfl)|apply yB|apply yC|((first|apply yD|apply yE);(first|exact yF|assumption);iterate 6 exact rfl)|((first|apply yG|apply yH|apply yI);exact rfl;(first|exact yJ|exact yK rfl rfl|exact yL rfl|exact yM rfl|exact rfl|exact aL rfl rfl rfl rfl rfl|exact aS rfl rfl rfl rfl rfl rfl rfl))|((first|apply yN|apply yO|apply yP);exact rfl)|(exfalso;omega)|(((first|apply yT|apply yU|apply yV|apply yW);exact rfl;(first|exact .d|exact .e|exact .n|((fail_if_success exact bqt);(fail_if_success exact bqf);exact .b)))<;>intro _)
      rw [hjr]
      rw [List.drop_eq_getElem_cons hlt, insAll] at hso
      clear c5 hid hji hjr
      generalize Kp[i] = x at *
      refine Go.freezeN (l := []) (m := [(0, [encRowD x])]) (fr' := [(5, .c (.fp (encSel q))), (8, .c (.fp (encData d))), (9, .c (.fz (ids.map encI))), (11, .c (.fz (acc.map encRowD))), (12, .c (.int .i64 z)), (13, .c (.fp (encRowD x))), (14, .c (.int .i64 0))]) hS (fun b hb => by cases hb) (Nat.le_refl _)
        (.frz rfl (.refl (hQ _ (Nat.le_refl _))) (.frz rfl (.refl old_data) (.frz rfl (.refl old_ids) (.frz rfl (.refl old_rows) (.frz rfl (.refl old_c) (.frz rfl (frz_ptr0 (k := 0) (v := 0) rfl old_row (Nat.le_refl _)) (.frz rfl (.refl old_c) .nil))))))) ?_
      refine Go.meet (K' := [_]) (fun fr τ => ∃ w : Int, w = (insPos q.by_ x acc : Nat) ∧ fr = [(5, .c (.fp (encSel q))), (8, .c (.fp (encData d))), (9, .c (.fz (ids.map encI))), (11, .c (.fz (acc.map encRowD))), (12, .c (.int .i64 z)), (13, .c (.fp (encRowD x))), (14, .c (.int .i64 w))] ∧ τ = E σ []) (fun K hm => ?_) ?_
      · repeat' first|refine yaG ?_|(exfalso;omega)|(refine yaS ?_ ?_<;>intro _)
        refine Go.keep [5, 8, 9, 11, 12, 13, 14] (Go.loops (I := fun k fr τ => ∃ (n : Nat) (w : Int), k = acc.length - n ∧ n ≤ acc.length ∧ w = n ∧ (∀ j (hj : j < acc.length), j < n → lessBy x.vals acc[j].vals q.by_ = false) ∧
          fr = [(5, .c (.fp (encSel q))), (8, .c (.fp (encData d))), (9, .c (.fz (ids.map encI))), (11, .c (.fz (acc.map encRowD))), (12, .c (.int .i64 z)), (13, .c (.fp (encRowD x))), (14, .c (.int .i64 w))] ∧ τ = E σ []) ?_ _ _ _ ⟨0, _, rfl, Nat.zero_le _, rfl, fun j hj h => absurd h (Nat.not_lt_zero _), rfl, rfl⟩)
        rintro k fr τ ⟨n, w, rfl, hn, hw, hls, rfl, rfl⟩ hrec2
        by_cases hlt2 : n < acc.length
        · have c6 := l10Less_ok q.by_ x.vals acc[n].vals hq.2.2.2 (hin _ hxm) (hin _ (hac _ (List.getElem_mem hlt2)))
          cases hL : lessBy x.vals acc[n].vals q.by_
          · rw [hL] at c6
            repeat' first|refine yaG ?_|((first|apply yG|apply yH|apply yI);exact rfl;(first|exact yX (enc := encRowD) rfl rfl hw hlt2 rfl))|refine yaC (c6) ?_|(exfalso;omega)|(refine yaS ?_ ?_<;>intro _)
            refine Go.keep [5, 8, 9, 11, 12, 13, 14] (hrec2 _ _ _ (by omega) ⟨n + 1, _, rfl, hlt2, wrap_succ hw (by omega), fun j hj h => ?_, rfl, rfl⟩)
            by_cases e : j = n
            · subst e; exact hL
            · exact hls j hj (by omega)
          · rw [hL] at c6
            repeat' first|refine yaG ?_|((first|apply yG|apply yH|apply yI);exact rfl;(first|exact yX (enc := encRowD) rfl rfl hw hlt2 rfl))|refine yaC (c6) ?_|(exfalso;omega)|(refine yaS ?_ ?_<;>intro _)
            exact Go.keep [5, 8, 9, 11, 12, 13, 14] (hm _ _ ⟨w, by rw [insPos_at hlt2 hls hL]; exact hw, rfl, rfl⟩)
        · repeat' first|refine yaG ?_|(exfalso;omega)|(refine yaS ?_ ?_<;>intro _)
          exact Go.keep [5, 8, 9, 11, 12, 13, 14] (hm _ _ ⟨w, by rw [insPos_end fun j hj => hls j hj (by omega)]; omega, rfl, rfl⟩)
      · clear hm
        rintro fr τ ⟨w, hw, rfl, rfl⟩
        have hp := insPos_le q.by_ x acc
        have hperm := insR_perm q.by_ x acc
        have hR : (acc.map encRowD).take (insPos q.by_ x acc) ++ [encRowD x] ++ (acc.map encRowD).drop (insPos q.by_ x acc) = (insR q.by_ x acc).map encRowD := by simp [insR]
        generalize insPos q.by_ x acc = p at *
        have hpm : p ≤ (acc.map encRowD).length := by rw [List.length_map]; exact hp
        have htl : ∀ e ∈ (acc.map encRowD).take p, e.length = 2 := fun e he => rwLen e (List.mem_of_mem_take he)
        have hdl : ∀ e ∈ (acc.map encRowD).drop p, e.length = 2 := fun e he => rwLen e (List.mem_of_mem_drop he)
        have hb1 : (([] : List (List Ce)).length + ((acc.map encRowD).take p).length) * 32 ≤ 140737488355328 := by simp; omega
        have hb2 : (((acc.map encRowD).take p).length + 1) * 32 ≤ 140737488355328 := by simp; omega
        have hb3 : (((acc.map encRowD).take p ++ [encRowD x]).length + ((acc.map encRowD).drop p).length) * 32 ≤ 140737488355328 := by simp; omega
        repeat' first|refine yaG ?_|((first|apply yG|apply yH|apply yI);exact rfl;(first|exact aop_cutFz rfl rfl hw hpm rwLen))|(exfalso;omega)|(refine yaS ?_ ?_<;>intro _)
        refine Go.app (k := 0) (v := 0) (ys := []) (junk := []) (zs := (acc.map encRowD).take p) rfl rfl rfl rfl rfl (fun e he => by cases he) Jk.nil htl hb1 fun v1 j1 hj1 => ?_
        simp only [List.nil_append]
        repeat' first|refine yaG ?_|(exfalso;omega)|(refine yaS ?_ ?_<;>intro _)
        refine Go.app1 (k := 0) (ys := (acc.map encRowD).take p) (junk := j1) (z := encRowD x) rfl rfl rfl rfl rfl htl hj1 rfl hb2 fun v2 j2 hj2 => ?_
        repeat' first|refine yaG ?_|((first|apply yG|apply yH|apply yI);exact rfl;(first|exact aop_cutLo rfl rfl hw hpm rwLen))|(exfalso;omega)|(refine yaS ?_ ?_<;>intro _)
        refine Go.app (k := 0) (ys := (acc.map encRowD).take p ++ [encRowD x]) (junk := j2) (zs := (acc.map encRowD).drop p) rfl rfl rfl rfl rfl (fun e he => (List.mem_append.1 he).elim (htl e) fun h => by rw [List.mem_singleton.1 h]; rfl) hj2 hdl hb3 fun v3 j3 hj3 => ?_
        rw [hR]
        repeat' first|refine yaG ?_|(exfalso;omega)|(refine yaS ?_ ?_<;>intro _)
        refine Go.keep [5, 8, 9, 11, 12] ?_
        refine Go.freezeN (l := []) (m := [(v3, (insR q.by_ x acc).map encRowD ++ j3)]) (fr' := [(5, .c (.fp (encSel q))), (8, .c (.fp (encData d))), (9, .c (.fz (ids.map encI))), (11, .c (.fz ((insR q.by_ x acc).map encRowD))), (12, .c (.int .i64 (IntKind.i64.wrap (z + 1))))]) hS (fun b hb => by cases hb) (Nat.le_refl _)
          (.frz rfl (.refl (hQ _ (Nat.le_refl _))) (.frz rfl (.refl old_data) (.frz rfl (.refl old_ids) (.frz rfl (frz_old (k := 0) rfl (oldRw _) (Nat.le_refl _)) (.frz rfl (.refl old_c) .nil))))) ?_
        refine hrec _ _ _ (by omega) ⟨i + 1, _, insR q.by_ x acc, rfl, hlt, wrap_succ hz (by omega), ⟨hso, by rw [hperm.length_eq, List.length_append, hal]; rfl, fun r hr => ?_⟩, rfl, rfl⟩
        rcases List.mem_append.1 (hperm.mem_iff.1 hr) with hr | hr
        · exact hac r hr
        · rw [List.mem_singleton.1 hr]; exact hxm
    · clear hrec
      rw [List.drop_eq_nil_of_le (by omega), insAll] at hso
      repeat' first|refine yaG ?_|(exfalso;omega)|(refine yaS ?_ ?_<;>intro _)
      exact Go.keep [5, 11] (hm _ _ ⟨by rw [hso]; rfl, rfl⟩)
  · rintro fr τ ⟨rfl, rfl⟩
    have hSp : ∀ r ∈ sortedF q.by_ Kp, r ∈ d.rows := fun r hr => hKm _ (hSs.1.mem_iff.1 hr)
    have hSl : (sortedF q.by_ Kp).length ≤ 60 := by rw [hSs.1.length_eq]; exact hKl
    have hm0 := hM.most0
    have htl := hM.terms
    clear hSs hOk hRi
    generalize sortedF q.by_ Kp = S at *
    repeat' first|refine yaG ?_|(exfalso;omega)|(refine yaS ?_ ?_<;>intro _)
    refine Go.keep [5, 11, 16, 17] (Go.loops (I := fun k fr τ => ∃ (i : Nat) (z : Int) (acc : List Line) (x : Ce), k = S.length - i ∧ i ≤ S.length ∧ z = i ∧ (acc.length = i ∧ linesAux q.terms (S.take q.most.toNat) [] = linesAux q.terms ((S.take q.most.toNat).drop i) acc) ∧ Grow σ τ 1 (acc.map encLine) x ∧
      fr = [(5, .c (.fp (encSel q))), (11, .c (.fz (S.map encRowD))), (16, .c x), (17, .c (.int .i64 z))]) ?_ _ _ _ ⟨0, _, [], _, rfl, Nat.zero_le _, rfl, ⟨rfl, rfl⟩, Grow.empty, rfl⟩)
    rintro k fr τ ⟨i, z, acc, x, rfl, hi, hz, ⟨hal, hj⟩, hG, rfl⟩ hrec
    have hle : σ.next ≤ τ.next := hG.gr.next
    by_cases hlt : i < S.length
    · by_cases hmo : (i : Int) < q.most
      · have hti : i < (S.take q.most.toNat).length := by rw [List.length_take]; omega
        rw [List.drop_eq_getElem_cons hti, linesAux, List.getElem_take] at hj
        have hSi := hSp _ (List.getElem_mem hlt)
        obtain ⟨hr3, hr4, hr5⟩ := hrow _ hSi
        have hv16 : S[i].vals.length ≤ 16 := by rw [hr4]; omega
        refine .old fun ho hSτ => ?_
        have hxo : ∀ y ∈ (AV.c x).all, Old τ.next y := ho 16 _ rfl
        clear ho
        rw [← E_nil hSτ]
        repeat' first|refine yaN ?_|(exfalso;omega)|(refine yaS ?_ ?_<;>intro _)
        refine Go.keep [5, 11, 16, 17, 18, 19] (Go.loops (I := fun k fr ρ => ∃ (j : Nat) (w : Int) (vs : List Val) (xv : Ce) (ll : List (Nat × List (List Ce))), k = q.terms.length - j ∧ j ≤ q.terms.length ∧ w = j ∧ (vs.length = j ∧ lineAux S[i].vals q.terms [] = lineAux S[i].vals (q.terms.drop j) vs) ∧ LineSt τ vs xv ll ∧
          fr = [(5, .c (.fp (encSel q))), (11, .c (.fz (S.map encRowD))), (16, .c x), (17, .c (.int .i64 z)), (18, .c (.ptr (τ.next + 0) 0 0 0)), (19, .c (.int .i64 w))] ∧ ρ = E τ ll) ?_ _ _ _ ⟨0, _, [], .nils, _, rfl, Nat.zero_le _, rfl, ⟨rfl, rfl⟩, .inl ⟨rfl, rfl, rfl⟩, rfl, rfl⟩)
        rintro k ρ0 ρ ⟨j, w, vs, xv, ll, rfl, hjl, hw, ⟨hvl, hln⟩, hLS, rfl, rfl⟩ hrecj
        by_cases hjt : j < q.terms.length
        · rw [List.drop_eq_getElem_cons hjt, lineAux] at hln
          have hea := hte _ (List.getElem_mem hjt) _ hSi
          obtain ⟨hx24, hax⟩ := exprF_aux hea
          have c5 := l2Eval_ok q.terms[j].expr S[i].vals (by omega) hv16 hr5 hax
          have hER : evalI q.terms[j].expr S[i].vals = evalR q.terms[j].expr S[i].vals := by rw [evalI, if_pos (by rw [evalOk, hr3, hea]; rfl)]
          rw [hER] at hln
          generalize evalR q.terms[j].expr S[i].vals = ev at c5 hln
          obtain ⟨ev1, ev2⟩ := ev
          simp only at c5 hln
          repeat' first|apply Go.seq|apply Go.skip|apply Go.region|apply Go.nil|apply Go.block|apply Go.blk|apply Go.segs|(apply Go.exit;exact rfl)|(apply Go.cond true;exact rfl)|(apply Go.cond false;exact rfl)|apply yB|apply yC|((first|apply yD|apply yE);(first|exact yF|assumption);iterate 6 exact rfl)|((first|apply yG|apply yH|apply yI);exact rfl;(first|exact yJ|exact yK rfl rfl|exact yL rfl|exact yM rfl|exact rfl|exact aL rfl rfl rfl rfl rfl|exact aS rfl rfl rfl rfl rfl rfl rfl))|((first|apply yN|apply yO|apply yP);exact rfl)|(exfalso;omega)|(((first|apply yT|apply yU|apply yV|apply yW);exact rfl;(first|exact .d|exact .e|exact .n|((fail_if_success exact bqt);(fail_if_success exact bqf);exact .b)))<;>intro _)
          refine Go.meet (K' := [_]) (fun fr ρ => fr = [(5, .c (.fp (encSel q))), (11, .c (.fz (S.map encRowD))), (16, .c x), (17, .c (.int .i64 z)), (18, .c (.ptr (τ.next + 0) 0 0 0)), (19, .c (.int .i64 w)), (20, .c (.fp (encV ev1))), (21, .c (.bool ev2))] ∧ ρ = E τ ll) (fun K hm => ?_) ?_
          · have hold := hLS.olds
            clear hrecj hrec
            rcases hLS with ⟨rfl, rfl, rfl⟩ | ⟨v, junk, hjk, rfl, rfl⟩
            · apply Go.draw
              refine Go.qkd [(0, [[.nils]])] ?_
              repeat' first|(apply Qk.nil;show Go _ _ _ _ _ _ _ _)|(apply Qk.op;exact rfl;(first|(rintro _ ⟨_, rfl⟩;exact rfl)|(rintro _ ⟨_, rfl⟩;exact aop_load rfl rfl rfl (Nat.le_of_ble_eq_true rfl) rfl)|(rintro _ ⟨_, rfl⟩;exact yX (enc := encTerm) rfl rfl hw hjt rfl)|(rintro _ ⟨_, rfl⟩;exact yX (enc := encRowD) rfl rfl hz hlt rfl)))|(apply Qk.no;exact rfl)|(apply Qk.pcall;(iterate 3 exact rfl);(first|exact c5))|(apply Qk.wop;exact rfl;exact rfl;(first|exact yJ|exact yL rfl|exact aop_store rfl rfl rfl rfl rfl rfl (Nat.le_of_ble_eq_true rfl));exact ⟨_, rfl⟩)
              repeat' first|refine yaN ?_|(exfalso;omega)|(refine yaS ?_ ?_<;>intro _)
              refine Go.keep [5, 11, 16, 17, 18, 19, 20, 21] ?_
              exact Go.freezeN (σ := τ) (l := [(0, [[.nils]])]) (m := [(0, [encV ev1])]) (fr' := [(5, .c (.fp (encSel q))), (11, .c (.fz (S.map encRowD))), (16, .c x), (17, .c (.int .i64 z)), (18, .c (.ptr (τ.next + 0) 0 0 0)), (19, .c (.int .i64 w)), (20, .c (.fp (encV ev1))), (21, .c (.bool ev2))]) hSτ hold hle
                (.frz rfl (.refl (hQ _ (Nat.le_trans hle (Nat.le_add_right _ _)))) (.frz rfl (.refl old_rows) (.frz rfl (.refl fun y hy => (hxo y hy).mono (Nat.le_add_right _ _)) (.frz rfl (.refl old_c) (.frz rfl (.refl (old_ptr (Nat.lt_add_of_pos_right (Nat.zero_lt_succ _)))) (.frz rfl (.refl old_c) (.frz rfl (frz_ptr0 (k := 1) (v := 0) rfl (fun y hy => (encV_flat ev1 y hy).old _) (Nat.le_refl _)) (.frz rfl (.refl old_b) .nil)))))))) (hm _ _ ⟨rfl, rfl⟩)
            · apply Go.draw
              refine Go.qkd [(0, [[vec (τ.next + 1) v (vs.map encV) junk]]), (v, vs.map encV ++ junk)] ?_
              repeat' first|(apply Qk.nil;show Go _ _ _ _ _ _ _ _)|(apply Qk.op;exact rfl;(first|(rintro _ ⟨_, rfl⟩;exact rfl)|(rintro _ ⟨_, rfl⟩;exact aop_load rfl rfl rfl (Nat.le_of_ble_eq_true rfl) rfl)|(rintro _ ⟨_, rfl⟩;exact yX (enc := encTerm) rfl rfl hw hjt rfl)|(rintro _ ⟨_, rfl⟩;exact yX (enc := encRowD) rfl rfl hz hlt rfl)))|(apply Qk.no;exact rfl)|(apply Qk.pcall;(iterate 3 exact rfl);(first|exact c5))|(apply Qk.wop;exact rfl;exact rfl;(first|exact yJ|exact yL rfl|exact aop_store rfl rfl rfl rfl rfl rfl (Nat.le_of_ble_eq_true rfl));exact ⟨_, rfl⟩)
              repeat' first|refine yaN ?_|(exfalso;omega)|(refine yaS ?_ ?_<;>intro _)
              refine Go.keep [5, 11, 16, 17, 18, 19, 20, 21] ?_
              exact Go.freezeN (σ := τ) (l := [(0, [[vec (τ.next + 1) v (vs.map encV) junk]]), (v, vs.map encV ++ junk)]) (m := [(0, [encV ev1])]) (fr' := [(5, .c (.fp (encSel q))), (11, .c (.fz (S.map encRowD))), (16, .c x), (17, .c (.int .i64 z)), (18, .c (.ptr (τ.next + 0) 0 0 0)), (19, .c (.int .i64 w)), (20, .c (.fp (encV ev1))), (21, .c (.bool ev2))]) hSτ hold hle
                (.frz rfl (.refl (hQ _ (Nat.le_trans hle (Nat.le_add_right _ _)))) (.frz rfl (.refl old_rows) (.frz rfl (.refl fun y hy => (hxo y hy).mono (Nat.le_add_right _ _)) (.frz rfl (.refl old_c) (.frz rfl (.refl (old_ptr (Nat.lt_add_of_pos_right (Nat.zero_lt_succ _)))) (.frz rfl (.refl old_c) (.frz rfl (frz_ptr0 (k := 2) (v := 0) rfl (fun y hy => (encV_flat ev1 y hy).old _) (Nat.le_refl _)) (.frz rfl (.refl old_b) .nil)))))))) (hm _ _ ⟨rfl, rfl⟩)
          rintro fr ρ ⟨rfl, rfl⟩
          clear c5
          have hbd : ((vs.map encV).length + 1) * 32 ≤ 140737488355328 := by rw [List.length_map]; omega
          cases ev2
          · rw [if_neg (by decide)] at hln
            clear hrecj hrec
            repeat' first|refine yaG ?_|(exfalso;omega)|(refine yaS ?_ ?_<;>intro _)
            refine .ret rfl ?_
            rw [hln] at hj
            rw [linesF, hj]
            exact newPair (.bool _) (newNil (hG.later hLS.gr).1)
          · rw [if_pos rfl] at hln
            rcases hLS with ⟨rfl, rfl, rfl⟩ | ⟨v, junk, hjk, rfl, rfl⟩
            · repeat' first|(apply yA;exact rfl)|apply yB|apply yC|((first|apply yD|apply yE);(first|exact yF|assumption);iterate 6 exact rfl)|((first|apply yG|apply yH|apply yI);exact rfl;(first|exact yJ|exact yK rfl rfl|exact yL rfl|exact yM rfl|exact aop_appNil rfl rfl (fun e he => by rw [List.mem_singleton.1 he];rfl) (by simp)|exact rfl|exact aL rfl rfl rfl rfl rfl|exact aS rfl rfl rfl rfl rfl rfl rfl))|((first|apply yN|apply yO|apply yP);exact rfl)|(exfalso;omega)|(((first|apply yT|apply yU|apply yV|apply yW);exact rfl;(first|exact .d|exact .e|exact .n|((fail_if_success exact bqt);(fail_if_success exact bqf);exact .b)))<;>intro _)
              exact Go.keep [5, 11, 16, 17, 18, 19] (hrecj _ _ _ (by omega) ⟨j + 1, _, [] ++ [ev1], _, _, rfl, hjt, wrap_succ hw (by omega), ⟨by rw [List.length_append, hvl]; rfl, hln⟩, .inr ⟨0, [], Jk.nil, rfl, rfl⟩, rfl, rfl⟩)
            · repeat' first|refine yaG ?_|(exfalso;omega)|(refine yaS ?_ ?_<;>intro _)
              refine Go.app1 (k := 1) (ys := vs.map encV) (junk := junk) (z := encV ev1) rfl rfl rfl rfl rfl lens hjk rfl hbd fun v' junk' hj' => ?_
              rw [show vs.map encV ++ [encV ev1] = (vs ++ [ev1]).map encV by simp]
              repeat' first|refine yaG ?_|(exfalso;omega)|(refine yaS ?_ ?_<;>intro _)
              exact Go.keep [5, 11, 16, 17, 18, 19] (hrecj _ _ _ (by omega) ⟨j + 1, _, vs ++ [ev1], _, _, rfl, hjt, wrap_succ hw (by omega), ⟨by rw [List.length_append, hvl]; rfl, hln⟩, .inr ⟨v', junk', hj', rfl, rfl⟩, rfl, rfl⟩)
        · clear hrecj
          rw [List.drop_eq_nil_of_le (by omega), lineAux] at hln
          rw [hln] at hj
          have hh := hLS.has
          have hG2 := hG.later hLS.gr
          repeat' first|refine yaG ?_|((first|apply yG|apply yH|apply yI);exact rfl;(first|exact aop_load (k := 0) rfl hLS.at0 rfl (Nat.le_of_ble_eq_true rfl) rfl))|(exfalso;omega)|(refine yaS ?_ ?_<;>intro _)
          refine Go.grow ?_ ?_ ?_ hG2 hle (Nat.le_add_right _ _) (line_owned hh) rfl ?_ fun x' τ3 hG3 => ?_
          · exact rfl
          · exact rfl
          · exact rfl
          · rw [List.length_map]
            omega
          repeat' first|refine yaG ?_|(exfalso;omega)|(refine yaS ?_ ?_<;>intro _)
          refine Go.keep [5, 11, 16, 17] (hrec _ _ _ (by omega) ⟨i + 1, _, acc ++ [⟨vs⟩], x', rfl, hlt, wrap_succ hz (by omega), ⟨by rw [List.length_append, hal]; rfl, hj⟩, ?_, rfl⟩)
          rw [List.map_append]
          exact hG3
      · clear hrec
        rw [List.drop_eq_nil_of_le (by rw [List.length_take]; omega), linesAux] at hj
        repeat' first|refine yaG ?_|(exfalso;omega)|(refine yaS ?_ ?_<;>intro _)
        refine .ret rfl ?_
        rw [linesF, hj]
        exact newPair (.bool _) hG.v
    · clear hrec
      rw [List.drop_eq_nil_of_le (by rw [List.length_take]; omega), linesAux] at hj
      repeat' first|refine yaG ?_|(exfalso;omega)|(refine yaS ?_ ?_<;>intro _)
      refine .ret rfl ?_
      rw [linesF, hj]
      exact newPair (.bool _) hG.v
end Go.Proofs.YtinbdedlmkjokaaGreat.Am

/- The marks of a query. -/
set_option linter.unusedVariables false
set_option linter.unusedSimpArgs false
namespace Go.Proofs.YtinbdedlmkjokaaGreat.Am

structure MarksL (P : Program) (f : Nat) (ys : List Ce) (k k' : Int) : Prop where
  at_ : ∀ σ S xs, HasL σ S ys xs → Ok P f [.agg xs, .c (.int .i64 k)] σ (fun r σ' => r = .c (.int .i64 k') ∧ σ'.next = σ.next ∧ (∀ a, ¬ S a → σ'.get a = σ.get a))
theorem sel_open {τ : Store} {S : Nat → Prop} {a : Sel} {xs : List Ce} (h : HasL τ S (encSel a) xs) : ∃ x1 x2 x3 S1 S2 S3, xs = [.str a.table, x1, x2, x3, .int .i64 a.most] ∧ ((∀ i, S1 i → S i) ∧ (∀ i, S2 i → S i) ∧ (∀ i, S3 i → S i)) ∧ ((∀ i, S2 i → ¬ S1 i) ∧ (∀ i, S3 i → ¬ S1 i) ∧ (∀ i, S3 i → ¬ S2 i)) ∧
    Has τ S1 (.fz (a.terms.map encTerm)) x1 ∧ Has τ S2 (.fz (a.wher.map encTok)) x2 ∧ Has τ S3 (.fz (a.by_.map encI)) x3 := by
  obtain ⟨U, h1, h2, h3, h4⟩ := h
  match xs, h1 with
  | [y0, y1, y2, y3, y4], _ =>
    have k0 := h4 0 (by simp [encSel]) (by simp)
    have k1 := h4 1 (by simp [encSel]) (by simp)
    have k2 := h4 2 (by simp [encSel]) (by simp)
    have k3 := h4 3 (by simp [encSel]) (by simp)
    have k4 := h4 4 (by simp [encSel]) (by simp)
    simp only [encSel, List.getElem_cons_zero, List.getElem_cons_succ] at k0 k1 k2 k3 k4
    cases k0 with
    | c h0 =>
    cases k4 with
    | c h5 =>
    exact ⟨y1, y2, y3, U 1, U 2, U 3, rfl, ⟨h2 1, h2 2, h2 3⟩, ⟨fun i a b => absurd (h3 1 2 i b a) (by decide), fun i a b => absurd (h3 1 3 i b a) (by decide), fun i a b => absurd (h3 2 3 i b a) (by decide)⟩, k1, k2, k3⟩
def cntSel (a : Sel) : Int := 0 + cntL cntTerm a.terms + cntL cntTok a.wher + cntL (fun _ => 1) a.by_
theorem cntSel_nonneg (a : Sel) : 0 ≤ cntSel a := by
  have := cntL_nonneg (c := cntTerm) cntTerm_nonneg a.terms
  have := cntL_nonneg (c := cntTok) cntTok_nonneg a.wher
  have := cntL_nonneg (c := (fun _ => 1)) (fun _ => by decide) a.by_
  simp only [cntSel]
  omega
theorem cntSel_sz (a : Sel) (l : Int) (h : 0 ≤ l) (hs : 0 ≤ zSel a l) : cntSel a ≤ 8 * (l - zSel a l) + 8 := by
  have := chain_cnt (fs := [(fun l => l - a.table.length), (szL zTerm a.terms), (szL zTok a.wher), (zI a.by_)]) (.cons (c := 0) (cnt_str a.table) (.cons (c := cntL cntTerm a.terms) (fun q h hs => szL_cnt8 zTerm_le cntTerm_sz a.terms q h hs) (.cons (c := cntL cntTok a.wher) (fun q h hs => szL_cnt8 zTok_le cntTok_sz a.wher q h hs) (.cons (c := cntL (fun _ => 1) a.by_) (cnt_ints a.by_) .nil)))) l h hs
  simp only [cntSel]
  simp only [zSel] at hs ⊢
  omega
theorem markSel_ok (a : Sel) (k : Int) (hb : bSel 34359738368 a) (hk0 : 0 ≤ k) (hk : k + cntSel a ≤ 34359738368) : MarksL Tryz.prog 38 (encSel a) k (k + cntSel a) := by
  constructor
  intro σ S xs hh
  obtain ⟨x1, x2, x3, S1, S2, S3, rfl, ⟨s1, s2, s3⟩, ⟨d21, d31, d32⟩, g1, g2, g3⟩ := sel_open hh
  have n1 := cntL_nonneg (c := cntTerm) cntTerm_nonneg a.terms
  have n2 := cntL_nonneg (c := cntTok) cntTok_nonneg a.wher
  have n3 := cntL_nonneg (c := (fun _ => 1)) (fun _ => by decide) a.by_
  simp only [cntSel] at hk
  refine .old c_laws_markSelect_ok fun hS hA => .of_go mixed c_laws_markSelect_ok (Nat.le_of_ble_eq_true rfl) ?_
  clear hS hA
  repeat' first|refine yaG ?_|(exfalso;omega)|(refine yaS ?_ ?_<;>intro _)
  refine Go.call _ rfl rfl rfl ((markTermS_ok a.terms k hb.2.1.1 hb.2.1.2 hk0 (by omega)).at_ σ S1 _ g1) ?_
  rintro r τ1 ⟨rfl, hnx1, hf1, -⟩
  have g2 := g2.frame fun i hi => hf1 i (d21 i hi)
  have g3 := g3.frame fun i hi => hf1 i (d31 i hi)
  repeat' first|refine yaG ?_|(exfalso;omega)|(refine yaS ?_ ?_<;>intro _)
  refine Go.call _ rfl rfl rfl ((markTokS_ok a.wher (k + cntL cntTerm a.terms) hb.2.2.1.1 hb.2.2.1.2 (by omega) (by omega)).at_ τ1 S2 _ g2) ?_
  rintro r τ2 ⟨rfl, hnx2, hf2, -⟩
  have g3 := g3.frame fun i hi => hf2 i (d32 i hi)
  repeat' first|refine yaG ?_|(exfalso;omega)|(refine yaS ?_ ?_<;>intro _)
  refine Go.call _ rfl rfl rfl ((markInt64S_ok a.by_ (k + cntL cntTerm a.terms + cntL cntTok a.wher) hb.2.2.2 (by omega) (by omega)).at_ τ2 S3 _ g3) ?_
  rintro r τ3 ⟨rfl, hnx3, hf3, -⟩
  repeat' first|refine yaG ?_|(exfalso;omega)|(refine yaS ?_ ?_<;>intro _)
  refine .ret rfl ⟨?_, hnx3.trans (hnx2.trans hnx1), fun i hi => (hf3 i fun h => hi (s3 i h)).trans ((hf2 i fun h => hi (s2 i h)).trans (hf1 i fun h => hi (s1 i h)))⟩
  simp only [cntSel]
  congr 2
  omega
end Go.Proofs.YtinbdedlmkjokaaGreat.Am

/- What the rows say of values and entries. -/
set_option linter.unusedVariables false
set_option linter.unusedSimpArgs false
namespace Go.Proofs.YtinbdedlmkjokaaGreat.Am
open Go.RowKit Go.ChangeShapes Go.WideShapes

section
variable {H : Type} {enc : TypeId × Value → H} {W : World}
theorem openV : Opens enc Tryz.prog W 237 encV LenV := 
  (Opens.struct (s := 3) Tryz.underlying237 (.cons (s := 1) rfl (.int Tryz.underlying2) rfl (fun _ => rfl) (.cons (s := 1) rfl (.int Tryz.underlying2) rfl (fun _ => rfl) (.cons (s := 1) rfl (.str Tryz.underlying9) rfl (fun _ => rfl) .nil))) (by kernel_rfl) (fun _ => rfl)).iso (fun p => Val.mk p.1 p.2.1 p.2.2.1) (fun _ => rfl) fun p h => Nat.le_trans h.2.2.1 (by decide)
theorem openVs : Opens enc Tryz.prog W 289 (fun l : List Val => [.fz (l.map encV)]) (fun l => l.length ≤ 140737488351232 ∧ ∀ v ∈ l, LenV v) :=
  (Opens.slice (s := 3) Tryz.underlying289 openV (by kernel_rfl) (by decide) (fun _ => rfl)).iso id (fun _ => rfl) fun l h => ⟨Nat.le_trans (Nat.le_mul_of_pos_right _ (of_decide_eq_true (by kernel_rfl))) h.1, h.2⟩
end
end Go.Proofs.YtinbdedlmkjokaaGreat.Am

/- The laws' helpers on types, printed by a program: Tok, Check, Unique, Fk, Col, Table, Term, Select, Trigger, Set, Row, Stmt. -/
set_option linter.unusedVariables false
set_option linter.unusedSimpArgs false
namespace Go.Proofs.YtinbdedlmkjokaaGreat.Am
open Go.RowKit Go.ChangeShapes Go.WideShapes
section
variable {H : Type} {enc : TypeId × Value → H} {W : World}
theorem openIs : Opens enc Tryz.prog W 44 (fun l : List Int => [.fz (l.map encI)]) (fun l => l.length ≤ 140737488351232) :=
  (Opens.slice (s := 1) Tryz.underlying44 (.int Tryz.underlying2) (by kernel_rfl) (by decide) (fun _ => rfl)).iso id (fun _ => rfl) fun l h => Nat.le_trans (Nat.le_mul_of_pos_right _ (of_decide_eq_true (by kernel_rfl))) h.1
theorem openTok : Opens enc Tryz.prog W 239 encTok (bTok 1125899906842624) :=
  (Opens.struct (s := 5) Tryz.underlying239 (.cons (s := 1) rfl (.int Tryz.underlying2) rfl (fun _ => rfl) (.cons (s := 1) rfl (.int Tryz.underlying2) rfl (fun _ => rfl) (.cons (s := 3) rfl openV rfl (fun _ => rfl) .nil))) (by kernel_rfl) (fun _ => rfl)).iso (fun p => Tok.mk p.1 p.2.1 p.2.2.1) (fun _ => rfl) fun p h => h.2.2.1
theorem openToks : Opens enc Tryz.prog W 69 (fun l : List Tok => [.fz (l.map encTok)]) (fun l => l.length ≤ 140737488351232 ∧ ∀ v ∈ l, bTok 1125899906842624 v) :=
  (Opens.slice (s := 5) Tryz.underlying69 openTok (by kernel_rfl) (by decide) (fun _ => rfl)).iso id (fun _ => rfl) fun l h => ⟨Nat.le_trans (Nat.le_mul_of_pos_right _ (of_decide_eq_true (by kernel_rfl))) h.1, h.2⟩
theorem openChk : Opens enc Tryz.prog W 262 encChk (bChk 1125899906842624) :=
  (Opens.struct (s := 1) Tryz.underlying262 (.cons (s := 1) rfl openToks rfl (fun _ => rfl) .nil) (by kernel_rfl) (fun _ => rfl)).iso (fun p => Chk.mk p.1) (fun _ => rfl) fun p h => ⟨Nat.le_trans h.1.1 (by decide), h.1.2⟩
theorem openChks : Opens enc Tryz.prog W 96 (fun l : List Chk => [.fz (l.map encChk)]) (fun l => l.length ≤ 140737488351232 ∧ ∀ v ∈ l, bChk 1125899906842624 v) :=
  (Opens.slice (s := 1) Tryz.underlying96 openChk (by kernel_rfl) (by decide) (fun _ => rfl)).iso id (fun _ => rfl) fun l h => ⟨Nat.le_trans (Nat.le_mul_of_pos_right _ (of_decide_eq_true (by kernel_rfl))) h.1, h.2⟩
theorem openUniq : Opens enc Tryz.prog W 260 encUniq (bUniq 1125899906842624) :=
  (Opens.struct (s := 1) Tryz.underlying260 (.cons (s := 1) rfl openIs rfl (fun _ => rfl) .nil) (by kernel_rfl) (fun _ => rfl)).iso (fun p => Uniq.mk p.1) (fun _ => rfl) fun p h => Nat.le_trans h.1 (by decide)
theorem openUniqs : Opens enc Tryz.prog W 95 (fun l : List Uniq => [.fz (l.map encUniq)]) (fun l => l.length ≤ 140737488351232 ∧ ∀ v ∈ l, bUniq 1125899906842624 v) :=
  (Opens.slice (s := 1) Tryz.underlying95 openUniq (by kernel_rfl) (by decide) (fun _ => rfl)).iso id (fun _ => rfl) fun l h => ⟨Nat.le_trans (Nat.le_mul_of_pos_right _ (of_decide_eq_true (by kernel_rfl))) h.1, h.2⟩
theorem openFk : Opens enc Tryz.prog W 264 encFk (bFk 1125899906842624) :=
  (Opens.struct (s := 5) Tryz.underlying264 (.cons (s := 1) rfl openIs rfl (fun _ => rfl) (.cons (s := 1) rfl (.str Tryz.underlying9) rfl (fun _ => rfl) (.cons (s := 1) rfl (.int Tryz.underlying2) rfl (fun _ => rfl) (.cons (s := 1) rfl (.int Tryz.underlying2) rfl (fun _ => rfl) (.cons (s := 1) rfl (.bool Tryz.underlying4) rfl (fun _ => rfl) .nil))))) (by kernel_rfl) (fun _ => rfl)).iso (fun p => Fk.mk p.1 p.2.1 p.2.2.1 p.2.2.2.1 p.2.2.2.2.1) (fun _ => rfl) fun p h => ⟨Nat.le_trans h.1 (by decide), Nat.le_trans h.2.1 (by decide)⟩
theorem openFks : Opens enc Tryz.prog W 97 (fun l : List Fk => [.fz (l.map encFk)]) (fun l => l.length ≤ 140737488351232 ∧ ∀ v ∈ l, bFk 1125899906842624 v) :=
  (Opens.slice (s := 5) Tryz.underlying97 openFk (by kernel_rfl) (by decide) (fun _ => rfl)).iso id (fun _ => rfl) fun l h => ⟨Nat.le_trans (Nat.le_mul_of_pos_right _ (of_decide_eq_true (by kernel_rfl))) h.1, h.2⟩
theorem openCol : Opens enc Tryz.prog W 258 encCol (bCol 1125899906842624) :=
  (Opens.struct (s := 6) Tryz.underlying258 (.cons (s := 1) rfl (.str Tryz.underlying9) rfl (fun _ => rfl) (.cons (s := 1) rfl (.int Tryz.underlying2) rfl (fun _ => rfl) (.cons (s := 1) rfl (.bool Tryz.underlying4) rfl (fun _ => rfl) (.cons (s := 3) rfl openV rfl (fun _ => rfl) .nil)))) (by kernel_rfl) (fun _ => rfl)).iso (fun p => Col.mk p.1 p.2.1 p.2.2.1 p.2.2.2.1) (fun _ => rfl) fun p h => ⟨Nat.le_trans h.1 (by decide), h.2.2.2.1⟩
theorem openCols : Opens enc Tryz.prog W 94 (fun l : List Col => [.fz (l.map encCol)]) (fun l => l.length ≤ 140737488351232 ∧ ∀ v ∈ l, bCol 1125899906842624 v) :=
  (Opens.slice (s := 6) Tryz.underlying94 openCol (by kernel_rfl) (by decide) (fun _ => rfl)).iso id (fun _ => rfl) fun l h => ⟨Nat.le_trans (Nat.le_mul_of_pos_right _ (of_decide_eq_true (by kernel_rfl))) h.1, h.2⟩
theorem openTable : Opens enc Tryz.prog W 99 encTable (bTable 1125899906842624) :=
  (Opens.struct (s := 6) Tryz.underlying99 (.cons (s := 1) rfl (.str Tryz.underlying9) rfl (fun _ => rfl) (.cons (s := 1) rfl openCols rfl (fun _ => rfl) (.cons (s := 1) rfl openIs rfl (fun _ => rfl) (.cons (s := 1) rfl openUniqs rfl (fun _ => rfl) (.cons (s := 1) rfl openChks rfl (fun _ => rfl) (.cons (s := 1) rfl openFks rfl (fun _ => rfl) .nil)))))) (by kernel_rfl) (fun _ => rfl)).iso (fun p => Table.mk p.1 p.2.1 p.2.2.1 p.2.2.2.1 p.2.2.2.2.1 p.2.2.2.2.2.1) (fun _ => rfl) fun p h => ⟨Nat.le_trans h.1 (by decide), ⟨Nat.le_trans h.2.1.1 (by decide), h.2.1.2⟩, Nat.le_trans h.2.2.1 (by decide), ⟨Nat.le_trans h.2.2.2.1.1 (by decide), h.2.2.2.1.2⟩, ⟨Nat.le_trans h.2.2.2.2.1.1 (by decide), h.2.2.2.2.1.2⟩, ⟨Nat.le_trans h.2.2.2.2.2.1.1 (by decide), h.2.2.2.2.2.1.2⟩⟩
theorem openTables : Opens enc Tryz.prog W 35 (fun l : List Table => [.fz (l.map encTable)]) (fun l => l.length ≤ 140737488351232 ∧ ∀ v ∈ l, bTable 1125899906842624 v) :=
  (Opens.slice (s := 6) Tryz.underlying35 openTable (by kernel_rfl) (by decide) (fun _ => rfl)).iso id (fun _ => rfl) fun l h => ⟨Nat.le_trans (Nat.le_mul_of_pos_right _ (of_decide_eq_true (by kernel_rfl))) h.1, h.2⟩
theorem openTerm : Opens enc Tryz.prog W 235 encTerm (bTerm 1125899906842624) :=
  (Opens.struct (s := 1) Tryz.underlying235 (.cons (s := 1) rfl openToks rfl (fun _ => rfl) .nil) (by kernel_rfl) (fun _ => rfl)).iso (fun p => Term.mk p.1) (fun _ => rfl) fun p h => ⟨Nat.le_trans h.1.1 (by decide), h.1.2⟩
theorem openTerms : Opens enc Tryz.prog W 68 (fun l : List Term => [.fz (l.map encTerm)]) (fun l => l.length ≤ 140737488351232 ∧ ∀ v ∈ l, bTerm 1125899906842624 v) :=
  (Opens.slice (s := 1) Tryz.underlying68 openTerm (by kernel_rfl) (by decide) (fun _ => rfl)).iso id (fun _ => rfl) fun l h => ⟨Nat.le_trans (Nat.le_mul_of_pos_right _ (of_decide_eq_true (by kernel_rfl))) h.1, h.2⟩
theorem openSel : Opens enc Tryz.prog W 71 encSel (bSel 1125899906842624) :=
  (Opens.struct (s := 5) Tryz.underlying71 (.cons (s := 1) rfl (.str Tryz.underlying9) rfl (fun _ => rfl) (.cons (s := 1) rfl openTerms rfl (fun _ => rfl) (.cons (s := 1) rfl openToks rfl (fun _ => rfl) (.cons (s := 1) rfl openIs rfl (fun _ => rfl) (.cons (s := 1) rfl (.int Tryz.underlying2) rfl (fun _ => rfl) .nil))))) (by kernel_rfl) (fun _ => rfl)).iso (fun p => Sel.mk p.1 p.2.1 p.2.2.1 p.2.2.2.1 p.2.2.2.2.1) (fun _ => rfl) fun p h => ⟨Nat.le_trans h.1 (by decide), ⟨Nat.le_trans h.2.1.1 (by decide), h.2.1.2⟩, ⟨Nat.le_trans h.2.2.1.1 (by decide), h.2.2.1.2⟩, Nat.le_trans h.2.2.2.1 (by decide)⟩
theorem openRowD : Opens enc Tryz.prog W 291 encRowD (bRowD 1125899906842624) :=
  (Opens.struct (s := 2) Tryz.underlying291 (.cons (s := 1) rfl (.int Tryz.underlying2) rfl (fun _ => rfl) (.cons (s := 1) rfl openVs rfl (fun _ => rfl) .nil)) (by kernel_rfl) (fun _ => rfl)).iso (fun p => RowD.mk p.1 p.2.1) (fun _ => rfl) fun p h => ⟨Nat.le_trans h.2.1.1 (by decide), h.2.1.2⟩
theorem openRowDs : Opens enc Tryz.prog W 151 (fun l : List RowD => [.fz (l.map encRowD)]) (fun l => l.length ≤ 140737488351232 ∧ ∀ v ∈ l, bRowD 1125899906842624 v) :=
  (Opens.slice (s := 2) Tryz.underlying151 openRowD (by kernel_rfl) (by decide) (fun _ => rfl)).iso id (fun _ => rfl) fun l h => ⟨Nat.le_trans (Nat.le_mul_of_pos_right _ (of_decide_eq_true (by kernel_rfl))) h.1, h.2⟩
end
end Go.Proofs.YtinbdedlmkjokaaGreat.Am

/- The laws' helpers on types, printed by a program: Data, Line, Save, Session. -/
set_option linter.unusedVariables false
set_option linter.unusedSimpArgs false
namespace Go.Proofs.YtinbdedlmkjokaaGreat.Am
open Go.RowKit Go.ChangeShapes Go.WideShapes
section
variable {H : Type} {enc : TypeId × Value → H} {W : World}
theorem openData : Opens enc Tryz.prog W 153 encData (bData 1125899906842624) :=
  (Opens.struct (s := 1) Tryz.underlying153 (.cons (s := 1) rfl openRowDs rfl (fun _ => rfl) .nil) (by kernel_rfl) (fun _ => rfl)).iso (fun p => Data.mk p.1) (fun _ => rfl) fun p h => ⟨Nat.le_trans h.1.1 (by decide), h.1.2⟩
theorem openDatas : Opens enc Tryz.prog W 67 (fun l : List Data => [.fz (l.map encData)]) (fun l => l.length ≤ 140737488351232 ∧ ∀ v ∈ l, bData 1125899906842624 v) :=
  (Opens.slice (s := 1) Tryz.underlying67 openData (by kernel_rfl) (by decide) (fun _ => rfl)).iso id (fun _ => rfl) fun l h => ⟨Nat.le_trans (Nat.le_mul_of_pos_right _ (of_decide_eq_true (by kernel_rfl))) h.1, h.2⟩
end
end Go.Proofs.YtinbdedlmkjokaaGreat.Am
