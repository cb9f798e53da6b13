/- The statement of the law FnExactJoinOn: whatever its arguments are, it returns true, leaves what was there as it was, and ends. No condition. -/
import Derived.OpenShut
import Derived.Below
import Derived.Carry
import Derived.SizedLaws
import Derived.ChangeArms
import Derived.DataReads
import Derived.KernelRfl
import Derived.Test.YtcfpdongfdhgjaaGreatRows
import Derived.WalkKit
import Derived.ProofKit
import Derived.ShutString
import Derived.ChangeOld
import Derived.Test.YtcfpdongfdhgjaaGreatJb1
import Derived.Test.YtcfpdongfdhgjaaGreatJb2
import Derived.Test.YtcfpdongfdhgjaaGreatJb3
import Derived.Test.YtcfpdongfdhgjaaGreatJb4
import Derived.Test.YtcfpdongfdhgjaaGreatJb5
/- Joined lines: the walk of both packages' loops. -/
set_option linter.unusedVariables false
set_option linter.unusedSimpArgs false
namespace Go.Proofs.YtcfpdongfdhgjaaGreat.Am

def joinIn (w : List Tok) (a : List Val) : List RowD → List Line → Option (List Line)
  | [], acc => some acc
  | r :: l, acc => if truthI w (a ++ r.vals) = -1 then none else joinIn w a l (if truthI w (a ++ r.vals) = 1 then acc ++ [⟨a ++ r.vals⟩] else acc)
def joinOut (w : List Tok) (right : List RowD) : List RowD → List Line → Option (List Line)
  | [], acc => some acc
  | l :: ls, acc => match joinIn w l.vals right acc with
    | some q => joinOut w right ls q
    | none => none
theorem line_owned {τ : Store} {S : Nat → Prop} {k : Ce} {xk : Ce} (h : Has τ S k xk) : HasL τ S [k] [xk] :=
  (HasL.two h (HasL.nil (S := fun _ => False)) (fun _ _ h => h)).mono fun a ha => ha.elim id (fun h => h.elim)
theorem Grow.wider {σ τ ρ : Store} {s : Nat} {ys : List (List Ce)} {x : Ce} (h : Grow σ τ s ys x) (g : Gr τ ρ) : Grow σ ρ s ys x :=
  ⟨(h.later g).1, (h.later g).2.mono fun a ha => ⟨ha.1, by have := g.next; have := ha.2; omega⟩⟩
structure Fits (d : List RowD) : Prop where
  few : d.length ≤ 60
  low : ∀ r ∈ d, 1 ≤ r.vals.length
  high : ∀ r ∈ d, r.vals.length ≤ 8
def joinF (w : List Tok) (left right : List RowD) : List Line × Bool := match joinOut w right left [] with | some ls => (ls, true) | none => ([], false)
def JoinF (s : List Table) (db : List Data) (a b : Int) (w : List Tok) : List Line × Bool :=
  if dbF s db && (isIn a 0 (s.length - 1) && (isIn b 0 (s.length - 1) && exprF w (colsAt s a + colsAt s b : Nat))) then joinF w (rowsAt db a) (rowsAt db b) else ([], false)
theorem JoinOn_ok (s : List Table) (db : List Data) (a b : Int) (w : List Tok) (hx : s.length ≤ 34359738368) (hb : ∀ t ∈ s, bTable 34359738368 t) (hd : db.length ≤ 34359738368) (hdb : ∀ d ∈ db, bData 34359738368 d) (hw : w.length ≤ 34359738368) (hw2 : ∀ t ∈ w, bTok 34359738368 t) (σ : Store) :
    Ok Tryz.prog 45 [.c (.fz (s.map encTable)), .c (.fz (db.map encData)), .c (.int .i64 a), .c (.int .i64 b), .c (.fz (w.map encTok))] σ (NewV σ (.tup [.c (.fz ((JoinF s db a b w).1.map encLine)), .c (.bool (JoinF s db a b w).2)])) := by
  refine Ok.run mixed c_impl_JoinOn_ok (Nat.le_of_ble_eq_true rfl) fun hS hA => ?_
  clear hS hA
  have c1 := DbOk_ok s db hx hb hd hdb
  have c2 := isTable_ok s a hx
  have c2' := isTable_ok s b hx
  rw [JoinF]
  cases h1 : dbF s db
  · rw [h1] at c1
    repeat' first | (apply Go.adm; exact rfl) | apply Go.qs | apply Qg.nil | ((first | apply Go.v2 | apply Go.v1); (first | exact leAdd | assumption); iterate 6 exact rfl) | ((first | apply Go.op | apply Go.sop | apply Qg.op); exact rfl; (first | exact aop_alloc | exact aop_new rfl rfl | exact aop_mksl rfl | exact aop_lenM rfl | exact rfl | exact aL rfl rfl rfl rfl rfl | exact aS rfl rfl rfl rfl rfl rfl rfl)) | ((first | apply Go.no | apply Go.sno | apply Qg.no); exact rfl) | ((first | apply Go.pcall | apply Go.spcall | apply Qg.pcall); (iterate 3 exact rfl); exact c1) | (exfalso; omega) | (((first | apply Go.iQ | apply Go.gQ | apply Go.sQ | apply Qg.gQ); exact rfl; (first | exact .d | exact .e | exact .n | ((fail_if_success exact bqt); (fail_if_success exact bqf); exact .b))) <;> intro _)
    exact .ret rfl newNo
  rw [h1] at c1
  cases h2 : isIn a 0 (s.length - 1)
  · rw [h2] at c2
    repeat' first | (apply Go.adm; exact rfl) | apply Go.qs | apply Qg.nil | ((first | apply Go.v2 | apply Go.v1); (first | exact leAdd | assumption); iterate 6 exact rfl) | ((first | apply Go.op | apply Go.sop | apply Qg.op); exact rfl; (first | exact aop_alloc | exact aop_new rfl rfl | exact aop_mksl rfl | exact aop_lenM rfl | exact rfl | exact aL rfl rfl rfl rfl rfl | exact aS rfl rfl rfl rfl rfl rfl rfl)) | ((first | apply Go.no | apply Go.sno | apply Qg.no); exact rfl) | ((first | apply Go.pcall | apply Go.spcall | apply Qg.pcall); (iterate 3 exact rfl); (first | exact c1 | exact c2)) | (exfalso; omega) | (((first | apply Go.iQ | apply Go.gQ | apply Go.sQ | apply Qg.gQ); exact rfl; (first | exact .d | exact .e | exact .n | ((fail_if_success exact bqt); (fail_if_success exact bqf); exact .b))) <;> intro _)
    exact .ret rfl newNo
  rw [h2] at c2
  cases h2' : isIn b 0 (s.length - 1)
  · rw [h2'] at c2'
    repeat' first | (apply Go.adm; exact rfl) | apply Go.qs | apply Qg.nil | ((first | apply Go.v2 | apply Go.v1); (first | exact leAdd | assumption); iterate 6 exact rfl) | ((first | apply Go.op | apply Go.sop | apply Qg.op); exact rfl; (first | exact aop_alloc | exact aop_new rfl rfl | exact aop_mksl rfl | exact aop_lenM rfl | exact rfl | exact aL rfl rfl rfl rfl rfl | exact aS rfl rfl rfl rfl rfl rfl rfl)) | ((first | apply Go.no | apply Go.sno | apply Qg.no); exact rfl) | ((first | apply Go.pcall | apply Go.spcall | apply Qg.pcall); (iterate 3 exact rfl); (first | exact c1 | exact c2 | exact c2')) | (exfalso; omega) | (((first | apply Go.iQ | apply Go.gQ | apply Go.sQ | apply Qg.gQ); exact rfl; (first | exact .d | exact .e | exact .n | ((fail_if_success exact bqt); (fail_if_success exact bqf); exact .b))) <;> intro _)
    exact .ret rfl newNo
  rw [h2'] at c2'
  obtain ⟨hs, hl, hrows⟩ := dbF_at h1
  obtain ⟨h3, h4⟩ := isIn_at h2
  obtain ⟨h3', h4'⟩ := isIn_at h2'
  have hn : a = (a.toNat : Int) := by omega
  have hlt : a.toNat < s.length := by omega
  have hlt2 : a.toNat < db.length := by omega
  have hn' : b = (b.toNat : Int) := by omega
  have hlt' : b.toNat < s.length := by omega
  have hlt2' : b.toNat < db.length := by omega
  have hcl := schemaF_cols hs _ (List.getElem_mem hlt)
  have hcl' := schemaF_cols hs _ (List.getElem_mem hlt')
  have hr := rowsF_mem (hrows _ hlt hlt2)
  have hr' := rowsF_mem (hrows _ hlt' hlt2')
  have hca : colsAt s a = s[a.toNat].cols.length := by rw [colsAt, List.getElem?_eq_getElem hlt]
  have hra : rowsAt db a = db[a.toNat].rows := by rw [rowsAt, List.getElem?_eq_getElem hlt2]
  have hca' : colsAt s b = s[b.toNat].cols.length := by rw [colsAt, List.getElem?_eq_getElem hlt']
  have hra' : rowsAt db b = db[b.toNat].rows := by rw [rowsAt, List.getElem?_eq_getElem hlt2']
  have hsum : IntKind.i64.wrap ((s[a.toNat].cols.length : Int) + (s[b.toNat].cols.length : Int)) = ((s[a.toNat].cols.length + s[b.toNat].cols.length : Nat) : Int) := by rw [wrap64 (by omega) (by omega)]; omega
  have c3 := ExprOk_ok w (IntKind.i64.wrap ((s[a.toNat].cols.length : Int) + (s[b.toNat].cols.length : Int))) hw
  have hin : isIn ((s[a.toNat].cols.length + s[b.toNat].cols.length : Nat) : Int) 0 16 = true := by simp only [isIn, Bool.and_eq_true, decide_eq_true_eq]; omega
  rw [hsum, hin, Bool.and_true] at c3
  rw [← exprF] at c3
  rw [hca, hra, hca', hra']
  cases h5 : exprF w (s[a.toNat].cols.length + s[b.toNat].cols.length : Nat)
  · rw [h5, ← hsum] at c3
    repeat' first | (apply Go.adm; exact rfl) | apply Go.qs | apply Qg.nil | ((first | apply Go.v2 | apply Go.v1); (first | exact leAdd | assumption); iterate 6 exact rfl) | ((first | apply Go.op | apply Go.sop | apply Qg.op); exact rfl; (first | exact aop_alloc | exact aop_new rfl rfl | exact aop_mksl rfl | exact aop_lenM rfl | exact rfl | exact aL rfl rfl rfl rfl rfl | exact aS rfl rfl rfl rfl rfl rfl rfl | exact aop_iaddrM (enc := encTable) rfl rfl hn hlt rfl | exact aop_iaddrM (enc := encTable) rfl rfl hn' hlt' rfl)) | ((first | apply Go.no | apply Go.sno | apply Qg.no); exact rfl) | ((first | apply Go.pcall | apply Go.spcall | apply Qg.pcall); (iterate 3 exact rfl); (first | exact c1 | exact c2 | exact c2' | exact c3)) | (exfalso; omega) | (((first | apply Go.iQ | apply Go.gQ | apply Go.sQ | apply Qg.gQ); exact rfl; (first | exact .d | exact .e | exact .n | ((fail_if_success exact bqt); (fail_if_success exact bqf); exact .b))) <;> intro _)
    exact .ret rfl newNo
  rw [h5, ← hsum] at c3
  rw [show (true && (true && (true && true))) = true from rfl, if_pos rfl]
  have hL : Fits db[a.toNat].rows := ⟨hr.1, fun r hm => by have := (fitF_vals (hr.2 r hm).1).1; omega, fun r hm => by have := (fitF_vals (hr.2 r hm).1).1; omega⟩
  have hR : Fits db[b.toNat].rows := ⟨hr'.1, fun r hm => by have := (fitF_vals (hr'.2 r hm).1).1; omega, fun r hm => by have := (fitF_vals (hr'.2 r hm).1).1; omega⟩
  clear hra hra' hca hca' hrows hr hr'
  repeat' first | (apply Go.adm; exact rfl) | apply Go.qs | apply Qg.nil | ((first | apply Go.v2 | apply Go.v1); (first | exact leAdd | assumption); iterate 6 exact rfl) | ((first | apply Go.op | apply Go.sop | apply Qg.op); exact rfl; (first | exact aop_alloc | exact aop_new rfl rfl | exact aop_mksl rfl | exact aop_lenM rfl | exact rfl | exact aL rfl rfl rfl rfl rfl | exact aS rfl rfl rfl rfl rfl rfl rfl | exact aop_iaddrM (enc := encTable) rfl rfl hn hlt rfl | exact aop_iaddrM (enc := encTable) rfl rfl hn' hlt' rfl | exact aop_iaddrM (enc := encData) rfl rfl hn hlt2 rfl)) | ((first | apply Go.no | apply Go.sno | apply Qg.no); exact rfl) | ((first | apply Go.pcall | apply Go.spcall | apply Qg.pcall); (iterate 3 exact rfl); (first | exact c1 | exact c2 | exact c2' | exact c3)) | (exfalso; omega) | (((first | apply Go.iQ | apply Go.gQ | apply Go.sQ | apply Qg.gQ); exact rfl; (first | exact .d | exact .e | exact .n | ((fail_if_success exact bqt); (fail_if_success exact bqf); exact .b))) <;> intro _)
  clear c1 c2 c2' c3
  have hdr : aop (AOp.mv (Opd.k (.int .i64 0))) [] σ = some (.c (.int .i64 0), σ) := rfl
  clear hdr
  refine Go.keep [1, 3, 4, 12, 57, 58, 59] (Go.loops (I := fun m fr τ => ∃ (i : Nat) (k : Int) (acc : List Line) (x : Ce), m = db[a.toNat].rows.length - i ∧ i ≤ db[a.toNat].rows.length ∧ k = i ∧ (acc.length ≤ 60 * i ∧ joinOut w db[b.toNat].rows db[a.toNat].rows [] = joinOut w db[b.toNat].rows (db[a.toNat].rows.drop i) acc) ∧ Grow σ τ 1 (acc.map encLine) x ∧
    fr = [(1, .c (.fz (db.map encData))), (3, .c (.int .i64 b)), (4, .c (.fz (w.map encTok))), (12, .c x), (57, .c (.fz (db[a.toNat].rows.map encRowD))), (58, .c (.int .i64 (db[a.toNat].rows.length : Int))), (59, .c (.int .i64 k))]) ?_ _ _ _ ⟨0, _, [], _, rfl, Nat.zero_le _, rfl, ⟨Nat.zero_le _, rfl⟩, Grow.empty, rfl⟩)
  rintro m fr τ ⟨i, k, acc, x, rfl, hi, hk, ⟨hal, hj⟩, hG, rfl⟩ hrec
  have hle : σ.next ≤ τ.next := hG.gr.next
  by_cases hlti : i < db[a.toNat].rows.length
  · have hl1 := hL.low _ (List.getElem_mem hlti)
    have hl8 := hL.high _ (List.getElem_mem hlti)
    rw [List.drop_eq_getElem_cons hlti, joinOut] at hj
    repeat' first | (apply Go.adm; exact rfl) | apply Go.qs | apply Qg.nil | ((first | apply Go.v2 | apply Go.v1); (first | exact leAdd | assumption); iterate 6 exact rfl) | ((first | apply Go.op | apply Go.sop | apply Qg.op); exact rfl; (first | exact aop_alloc | exact aop_new rfl rfl | exact aop_mksl rfl | exact aop_lenM rfl | exact rfl | exact aL rfl rfl rfl rfl rfl | exact aS rfl rfl rfl rfl rfl rfl rfl | exact aop_iaddrM (enc := encRowD) rfl rfl hk hlti rfl | exact aop_iaddrM (enc := encData) rfl rfl hn' hlt2' rfl)) | ((first | apply Go.no | apply Go.sno | apply Qg.no); exact rfl) | (exfalso; omega) | (((first | apply Go.iQ | apply Go.gQ | apply Go.sQ | apply Qg.gQ); exact rfl; (first | exact .d | exact .e | exact .n | ((fail_if_success exact bqt); (fail_if_success exact bqf); exact .b))) <;> intro _)
    refine Go.keep [1, 3, 4, 12, 14, 57, 58, 59, 67, 68, 69] (Go.loops (I := fun m fr τ => ∃ (j : Nat) (kj : Int) (ac : List Line) (x : Ce), m = db[b.toNat].rows.length - j ∧ j ≤ db[b.toNat].rows.length ∧ kj = j ∧ (ac.length ≤ 60 * i + j ∧ joinIn w db[a.toNat].rows[i].vals db[b.toNat].rows acc = joinIn w db[a.toNat].rows[i].vals (db[b.toNat].rows.drop j) ac) ∧ Grow σ τ 1 (ac.map encLine) x ∧
      fr = [(1, .c (.fz (db.map encData))), (3, .c (.int .i64 b)), (4, .c (.fz (w.map encTok))), (12, .c x), (14, .c (.fp (encRowD db[a.toNat].rows[i]))), (57, .c (.fz (db[a.toNat].rows.map encRowD))), (58, .c (.int .i64 (db[a.toNat].rows.length : Int))), (59, .c (.int .i64 k)), (67, .c (.fz (db[b.toNat].rows.map encRowD))), (68, .c (.int .i64 (db[b.toNat].rows.length : Int))), (69, .c (.int .i64 kj))]) ?_ _ _ _ ⟨0, _, acc, _, rfl, Nat.zero_le _, rfl, ⟨hal, rfl⟩, hG, rfl⟩)
    clear hG hle
    clear x τ
    rintro m fr τ ⟨j, kj, ac, x, rfl, hjl, hkj, ⟨hacl, hin2⟩, hG, rfl⟩ hrecj
    have hle : σ.next ≤ τ.next := hG.gr.next
    have hRl := hR.few
    by_cases hltj : j < db[b.toNat].rows.length
    · have hr1 := hR.low _ (List.getElem_mem hltj)
      have hr8 := hR.high _ (List.getElem_mem hltj)
      rw [List.drop_eq_getElem_cons hltj, joinIn] at hin2
      have hfl : [db[a.toNat].rows[i].vals, db[b.toNat].rows[j].vals].flatten = db[a.toNat].rows[i].vals ++ db[b.toNat].rows[j].vals := by simp
      have hfl2 : (db[a.toNat].rows[i].vals ++ db[b.toNat].rows[j].vals).length ≤ 16 := by rw [List.length_append]; omega
      have hfl3 : 1 ≤ (db[a.toNat].rows[i].vals ++ db[b.toNat].rows[j].vals).length := by rw [List.length_append]; omega
      have cc := concatVals_ok [db[a.toNat].rows[i].vals, db[b.toNat].rows[j].vals] (by rw [hfl]; omega) (by simp) (by rw [hfl]; omega)
      rw [hfl] at cc
      have ct := Truth_ok w (db[a.toNat].rows[i].vals ++ db[b.toNat].rows[j].vals) hw (by omega)
      repeat' first | (apply Go.adm; exact rfl) | apply Go.qs | apply Qg.nil | ((first | apply Go.v2 | apply Go.v1); (first | exact leAdd | assumption); iterate 6 exact rfl) | ((first | apply Go.op | apply Go.sop | apply Qg.op); exact rfl; (first | exact aop_alloc | exact aop_new rfl rfl | exact aop_mksl rfl | exact aop_lenM rfl | exact rfl | exact aL rfl rfl rfl rfl rfl | exact aS rfl rfl rfl rfl rfl rfl rfl | exact aop_iaddrM (enc := encRowD) rfl rfl hkj hltj rfl)) | ((first | apply Go.no | apply Go.sno | apply Qg.no); exact rfl) | (exfalso; omega) | (((first | apply Go.iQ | apply Go.gQ | apply Go.sQ | apply Qg.gQ); exact rfl; (first | exact .d | exact .e | exact .n | ((fail_if_success exact bqt); (fail_if_success exact bqf); exact .b))) <;> intro _)
      refine .call _ rfl rfl rfl (cc τ) ?_
      rintro r τ2 ⟨hg2, hh2⟩
      clear cc
      generalize db[a.toNat].rows[i].vals ++ db[b.toNat].rows[j].vals = vs at ct hin2 hh2 hfl2 hfl3
      generalize truthI w vs = T at ct hin2
      cases hh2 with
      | c hh2 =>
      have hG2 := hG.later hg2
      have hn2 := hg2.next
      repeat' first | (apply Go.adm; exact rfl) | apply Go.qs | apply Qg.nil | ((first | apply Go.v2 | apply Go.v1); (first | exact leAdd | assumption); iterate 6 exact rfl) | ((first | apply Go.op | apply Go.sop | apply Qg.op); exact rfl; (first | exact aop_alloc | exact aop_new rfl rfl | exact aop_mksl rfl | exact aop_lenM rfl | exact rfl | exact aL rfl rfl rfl rfl rfl | exact aS rfl rfl rfl rfl rfl rfl rfl)) | ((first | apply Go.no | apply Go.sno | apply Qg.no); exact rfl) | (exfalso; omega) | (((first | apply Go.iQ | apply Go.gQ | apply Go.sQ | apply Qg.gQ); exact rfl; (first | exact .d | exact .e | exact .n | ((fail_if_success exact bqt); (fail_if_success exact bqf); exact .b))) <;> intro _)
      refine Go.lcall rfl rfl rfl ct (.int _ _) (.same (.own (HasV.c hh2).lend .nil)) ?_
      repeat' first | (apply Go.adm; exact rfl) | apply Go.qs | apply Qg.nil | ((first | apply Go.v2 | apply Go.v1); (first | exact leAdd | assumption); iterate 6 exact rfl) | ((first | apply Go.op | apply Go.sop | apply Qg.op); exact rfl; (first | exact aop_alloc | exact aop_new rfl rfl | exact aop_mksl rfl | exact aop_lenM rfl | exact rfl | exact aL rfl rfl rfl rfl rfl | exact aS rfl rfl rfl rfl rfl rfl rfl)) | ((first | apply Go.no | apply Go.sno | apply Qg.no); exact rfl) | (exfalso; omega) | (((first | apply Go.iQ | apply Go.gQ | apply Go.sQ | apply Qg.gQ); exact rfl; (first | exact .d | exact .e | exact .n | ((fail_if_success exact bqt); (fail_if_success exact bqf); exact .b))) <;> intro _)
      · rename_i h9
        rw [if_pos h9] at hin2
        rw [hin2] at hj
        refine .ret rfl ?_
        rw [joinF, hj]
        exact newPair (.bool _) (newNil hG2.1)
      · rename_i h9 h10
        rw [if_neg h9, if_pos h10] at hin2
        refine Go.grow ?_ ?_ ?_ hG2 hle hn2 (line_owned hh2) rfl ?_ fun x' τ3 hG3 => ?_
        · exact rfl
        · exact rfl
        · exact rfl
        · have := hL.few
          rw [List.length_map]
          omega
        repeat' first | (apply Go.adm; exact rfl) | apply Go.qs | apply Qg.nil | ((first | apply Go.v2 | apply Go.v1); (first | exact leAdd | assumption); iterate 6 exact rfl) | ((first | apply Go.op | apply Go.sop | apply Qg.op); exact rfl; (first | exact aop_alloc | exact aop_new rfl rfl | exact aop_mksl rfl | exact aop_lenM rfl | exact rfl | exact aL rfl rfl rfl rfl rfl | exact aS rfl rfl rfl rfl rfl rfl rfl)) | ((first | apply Go.no | apply Go.sno | apply Qg.no); exact rfl) | (exfalso; omega) | (((first | apply Go.iQ | apply Go.gQ | apply Go.sQ | apply Qg.gQ); exact rfl; (first | exact .d | exact .e | exact .n | ((fail_if_success exact bqt); (fail_if_success exact bqf); exact .b))) <;> intro _)
        refine Go.keep [1, 3, 4, 12, 14, 57, 58, 59, 67, 68, 69] (hrecj _ _ _ (by omega) ⟨j + 1, _, ac ++ [⟨vs⟩], x', rfl, hltj, wrap_succ hkj (by omega), ⟨by rw [List.length_append, List.length_singleton]; omega, hin2⟩, ?_, rfl⟩)
        rw [List.map_append]
        exact hG3
      · rename_i h9 h10
        rw [if_neg h9, if_neg h10] at hin2
        exact Go.keep [1, 3, 4, 12, 14, 57, 58, 59, 67, 68, 69] (hrecj _ _ _ (by omega) ⟨j + 1, _, ac, x, rfl, hltj, wrap_succ hkj (by omega), ⟨by omega, hin2⟩, hG.wider hg2, rfl⟩)
    · rw [List.drop_eq_nil_of_le (by omega), joinIn] at hin2
      rw [hin2] at hj
      repeat' first | (apply Go.adm; exact rfl) | apply Go.qs | apply Qg.nil | ((first | apply Go.v2 | apply Go.v1); (first | exact leAdd | assumption); iterate 6 exact rfl) | ((first | apply Go.op | apply Go.sop | apply Qg.op); exact rfl; (first | exact aop_alloc | exact aop_new rfl rfl | exact aop_mksl rfl | exact aop_lenM rfl | exact rfl | exact aL rfl rfl rfl rfl rfl | exact aS rfl rfl rfl rfl rfl rfl rfl)) | ((first | apply Go.no | apply Go.sno | apply Qg.no); exact rfl) | (exfalso; omega) | (((first | apply Go.iQ | apply Go.gQ | apply Go.sQ | apply Qg.gQ); exact rfl; (first | exact .d | exact .e | exact .n | ((fail_if_success exact bqt); (fail_if_success exact bqf); exact .b))) <;> intro _)
      have := hL.few
      exact Go.keep [1, 3, 4, 12, 57, 58, 59] (hrec _ _ _ (by omega) ⟨i + 1, _, ac, x, rfl, hlti, wrap_succ hk (by omega), ⟨by omega, hj⟩, hG, rfl⟩)
  · rw [List.drop_eq_nil_of_le (by omega), joinOut] at hj
    repeat' first | (apply Go.adm; exact rfl) | apply Go.qs | apply Qg.nil | ((first | apply Go.v2 | apply Go.v1); (first | exact leAdd | assumption); iterate 6 exact rfl) | ((first | apply Go.op | apply Go.sop | apply Qg.op); exact rfl; (first | exact aop_alloc | exact aop_new rfl rfl | exact aop_mksl rfl | exact aop_lenM rfl | exact rfl | exact aL rfl rfl rfl rfl rfl | exact aS rfl rfl rfl rfl rfl rfl rfl)) | ((first | apply Go.no | apply Go.sno | apply Qg.no); exact rfl) | (exfalso; omega) | (((first | apply Go.iQ | apply Go.gQ | apply Go.sQ | apply Qg.gQ); exact rfl; (first | exact .d | exact .e | exact .n | ((fail_if_success exact bqt); (fail_if_success exact bqf); exact .b))) <;> intro _)
    refine .ret rfl ?_
    rw [joinF, hj]
    exact newPair (.bool _) hG.v
end Go.Proofs.YtcfpdongfdhgjaaGreat.Am

/- Joined lines: the reference's; what the results are like; marks held. -/
set_option linter.unusedVariables false
set_option linter.unusedSimpArgs false
namespace Go.Proofs.YtcfpdongfdhgjaaGreat.Am

theorem l1CopyVals_mk (xs : List Val) (hx : xs.length ≤ 34359738368) : Makes Tryz.prog 116 [.c (.fz (xs.map encV))] 3 (xs.map encV) := by
  refine Makes.run mixed c_spec_l1CopyVals_ok (Nat.le_of_ble_eq_true rfl) fun σ hS hA => ?_
  clear hS hA
  repeat' first | (apply Go.adm; exact rfl) | apply Go.qs | apply Qg.nil | ((first | apply Go.v2 | apply Go.v1); (first | exact leAdd | assumption); iterate 6 exact rfl) | ((first | apply Go.op | apply Go.sop | apply Qg.op); exact rfl; (first | exact aop_alloc | exact aop_new rfl rfl | exact aop_mksl rfl | exact aop_lenM rfl | exact rfl | exact aL rfl rfl rfl rfl rfl | exact aS rfl rfl rfl rfl rfl rfl rfl)) | ((first | apply Go.no | apply Go.sno | apply Qg.no); exact rfl) | (exfalso; omega) | (((first | apply Go.iQ | apply Go.gQ | apply Go.sQ | apply Qg.gQ); exact rfl; (first | exact .d | exact .e | exact .n | ((fail_if_success exact bqt); (fail_if_success exact bqf); exact .b))) <;> intro _)
  refine Go.app (ys := []) (junk := []) (zs := xs.map encV) rfl rfl rfl rfl rfl (by simp) Jk.nil (fun e he => (clean_append e he).1) (by simp; omega) fun v junk hj => ?_
  repeat' first | (apply Go.adm; exact rfl) | apply Go.qs | apply Qg.nil | ((first | apply Go.v2 | apply Go.v1); (first | exact leAdd | assumption); iterate 6 exact rfl) | ((first | apply Go.op | apply Go.sop | apply Qg.op); exact rfl; (first | exact aop_alloc | exact aop_new rfl rfl | exact aop_mksl rfl | exact aop_lenM rfl | exact rfl | exact aL rfl rfl rfl rfl rfl | exact aS rfl rfl rfl rfl rfl rfl rfl)) | ((first | apply Go.no | apply Go.sno | apply Qg.no); exact rfl) | (exfalso; omega) | (((first | apply Go.iQ | apply Go.gQ | apply Go.sQ | apply Qg.gQ); exact rfl; (first | exact .d | exact .e | exact .n | ((fail_if_success exact bqt); (fail_if_success exact bqf); exact .b))) <;> intro _)
  exact .ret rfl ⟨v, junk, hj, rfl, rfl⟩
theorem truthR_ge (w : List Tok) (vs : List Val) : -1 ≤ truthR w vs := by
  rw [truthR]
  split
  · rw [truthV]
    split
    · decide
    · split
      · split <;> decide
      · decide
  · decide
theorem sJoinOn_ok (s : List Table) (db : List Data) (a b : Int) (w : List Tok) (hx : s.length ≤ 34359738368) (hb : ∀ t ∈ s, bTable 34359738368 t) (hd : db.length ≤ 34359738368) (hdb : ∀ d ∈ db, bData 34359738368 d) (hw : w.length ≤ 34359738368) (hw2 : ∀ t ∈ w, bTok 34359738368 t) (σ : Store) :
    Ok Tryz.prog 44 [.c (.fz (s.map encTable)), .c (.fz (db.map encData)), .c (.int .i64 a), .c (.int .i64 b), .c (.fz (w.map encTok))] σ (NewV σ (.tup [.c (.fz ((JoinF s db a b w).1.map encLine)), .c (.bool (JoinF s db a b w).2)])) := by
  refine Ok.run mixed c_spec_JoinOn_ok (Nat.le_of_ble_eq_true rfl) fun hS hA => ?_
  clear hS hA
  have c1 := l6Ok_ok s db a hx hb hd hdb
  have c2 := l1In_ok b 0 (IntKind.i64.wrap ((s.length : Int) - 1))
  have hwr : IntKind.i64.wrap ((s.length : Int) - 1) = s.length - 1 := wrap64 (by omega) (by omega)
  rw [JoinF, ← Bool.and_assoc]
  cases h1 : (dbF s db && isIn a 0 (s.length - 1))
  · rw [h1] at c1
    repeat' first | (apply Go.adm; exact rfl) | apply Go.qs | apply Qg.nil | ((first | apply Go.v2 | apply Go.v1); (first | exact leAdd | assumption); iterate 6 exact rfl) | ((first | apply Go.op | apply Go.sop | apply Qg.op); exact rfl; (first | exact aop_alloc | exact aop_new rfl rfl | exact aop_mksl rfl | exact aop_lenM rfl | exact rfl | exact aL rfl rfl rfl rfl rfl | exact aS rfl rfl rfl rfl rfl rfl rfl)) | ((first | apply Go.no | apply Go.sno | apply Qg.no); exact rfl) | ((first | apply Go.pcall | apply Go.spcall | apply Qg.pcall); (iterate 3 exact rfl); exact c1) | (exfalso; omega) | (((first | apply Go.iQ | apply Go.gQ | apply Go.sQ | apply Qg.gQ); exact rfl; (first | exact .d | exact .e | exact .n | ((fail_if_success exact bqt); (fail_if_success exact bqf); exact .b))) <;> intro _)
    exact .ret rfl newNo
  rw [h1] at c1
  rw [Bool.and_eq_true] at h1
  obtain ⟨h1, h2⟩ := h1
  cases h2' : isIn b 0 (s.length - 1)
  · rw [hwr, h2', ← hwr] at c2
    repeat' first | (apply Go.adm; exact rfl) | apply Go.qs | apply Qg.nil | ((first | apply Go.v2 | apply Go.v1); (first | exact leAdd | assumption); iterate 6 exact rfl) | ((first | apply Go.op | apply Go.sop | apply Qg.op); exact rfl; (first | exact aop_alloc | exact aop_new rfl rfl | exact aop_mksl rfl | exact aop_lenM rfl | exact rfl | exact aL rfl rfl rfl rfl rfl | exact aS rfl rfl rfl rfl rfl rfl rfl)) | ((first | apply Go.no | apply Go.sno | apply Qg.no); exact rfl) | ((first | apply Go.pcall | apply Go.spcall | apply Qg.pcall); (iterate 3 exact rfl); (first | exact c1 | exact c2)) | (exfalso; omega) | (((first | apply Go.iQ | apply Go.gQ | apply Go.sQ | apply Qg.gQ); exact rfl; (first | exact .d | exact .e | exact .n | ((fail_if_success exact bqt); (fail_if_success exact bqf); exact .b))) <;> intro _)
    exact .ret rfl newNo
  rw [hwr, h2', ← hwr] at c2
  obtain ⟨hs, hl, hrows⟩ := dbF_at h1
  obtain ⟨h3, h4⟩ := isIn_at h2
  obtain ⟨h3', h4'⟩ := isIn_at h2'
  have hn : a = (a.toNat : Int) := by omega
  have hlt : a.toNat < s.length := by omega
  have hlt2 : a.toNat < db.length := by omega
  have hn' : b = (b.toNat : Int) := by omega
  have hlt' : b.toNat < s.length := by omega
  have hlt2' : b.toNat < db.length := by omega
  have hcl := schemaF_cols hs _ (List.getElem_mem hlt)
  have hcl' := schemaF_cols hs _ (List.getElem_mem hlt')
  have hr := rowsF_mem (hrows _ hlt hlt2)
  have hr' := rowsF_mem (hrows _ hlt' hlt2')
  have hca : colsAt s a = s[a.toNat].cols.length := by rw [colsAt, List.getElem?_eq_getElem hlt]
  have hra : rowsAt db a = db[a.toNat].rows := by rw [rowsAt, List.getElem?_eq_getElem hlt2]
  have hca' : colsAt s b = s[b.toNat].cols.length := by rw [colsAt, List.getElem?_eq_getElem hlt']
  have hra' : rowsAt db b = db[b.toNat].rows := by rw [rowsAt, List.getElem?_eq_getElem hlt2']
  have hsum : IntKind.i64.wrap ((s[a.toNat].cols.length : Int) + (s[b.toNat].cols.length : Int)) = ((s[a.toNat].cols.length + s[b.toNat].cols.length : Nat) : Int) := by rw [wrap64 (by omega) (by omega)]; omega
  have c3 := l2Expr_ok w (IntKind.i64.wrap ((s[a.toNat].cols.length : Int) + (s[b.toNat].cols.length : Int))) hw (by omega) (by omega)
  rw [hsum] at c3
  rw [← exprF] at c3
  rw [hca, hra, hca', hra']
  cases h5 : exprF w (s[a.toNat].cols.length + s[b.toNat].cols.length : Nat)
  · rw [h5, ← hsum] at c3
    repeat' first | (apply Go.adm; exact rfl) | apply Go.qs | apply Qg.nil | ((first | apply Go.v2 | apply Go.v1); (first | exact leAdd | assumption); iterate 6 exact rfl) | ((first | apply Go.op | apply Go.sop | apply Qg.op); exact rfl; (first | exact aop_alloc | exact aop_new rfl rfl | exact aop_mksl rfl | exact aop_lenM rfl | exact rfl | exact aL rfl rfl rfl rfl rfl | exact aS rfl rfl rfl rfl rfl rfl rfl | exact aop_iaddrM (enc := encTable) rfl rfl hn hlt rfl | exact aop_iaddrM (enc := encTable) rfl rfl hn' hlt' rfl)) | ((first | apply Go.no | apply Go.sno | apply Qg.no); exact rfl) | ((first | apply Go.pcall | apply Go.spcall | apply Qg.pcall); (iterate 3 exact rfl); (first | exact c1 | exact c2 | exact c3)) | (exfalso; omega) | (((first | apply Go.iQ | apply Go.gQ | apply Go.sQ | apply Qg.gQ); exact rfl; (first | exact .d | exact .e | exact .n | ((fail_if_success exact bqt); (fail_if_success exact bqf); exact .b))) <;> intro _)
    exact .ret rfl newNo
  rw [h5, ← hsum] at c3
  rw [show (true && (true && true)) = true from rfl, if_pos rfl]
  have hLv : ∀ r ∈ db[a.toNat].rows, r.vals.length = s[a.toNat].cols.length ∧ ∀ v ∈ r.vals, okVal v = true := fun r hm => fitF_vals (hr.2 r hm).1
  have hRv : ∀ r ∈ db[b.toNat].rows, r.vals.length = s[b.toNat].cols.length ∧ ∀ v ∈ r.vals, okVal v = true := fun r hm => fitF_vals (hr'.2 r hm).1
  have hLf := hr.1
  have hRf := hr'.1
  clear hra hra' hca hca' hrows hr hr'
  repeat' first | (apply Go.adm; exact rfl) | apply Go.qs | apply Qg.nil | ((first | apply Go.v2 | apply Go.v1); (first | exact leAdd | assumption); iterate 6 exact rfl) | ((first | apply Go.op | apply Go.sop | apply Qg.op); exact rfl; (first | exact aop_alloc | exact aop_new rfl rfl | exact aop_mksl rfl | exact aop_lenM rfl | exact rfl | exact aL rfl rfl rfl rfl rfl | exact aS rfl rfl rfl rfl rfl rfl rfl | exact aop_iaddrM (enc := encTable) rfl rfl hn hlt rfl | exact aop_iaddrM (enc := encTable) rfl rfl hn' hlt' rfl)) | ((first | apply Go.no | apply Go.sno | apply Qg.no); exact rfl) | ((first | apply Go.pcall | apply Go.spcall | apply Qg.pcall); (iterate 3 exact rfl); (first | exact c1 | exact c2 | exact c3)) | (exfalso; omega) | (((first | apply Go.iQ | apply Go.gQ | apply Go.sQ | apply Qg.gQ); exact rfl; (first | exact .d | exact .e | exact .n | ((fail_if_success exact bqt); (fail_if_success exact bqf); exact .b))) <;> intro _)
  clear c1 c2 c3
  refine Go.keep [1, 2, 3, 4, 12, 13] (Go.loops (I := fun m fr τ => ∃ (i : Nat) (k : Int) (acc : List Line) (x : Ce), m = db[a.toNat].rows.length - i ∧ i ≤ db[a.toNat].rows.length ∧ k = i ∧ (acc.length ≤ 60 * i ∧ joinOut w db[b.toNat].rows db[a.toNat].rows [] = joinOut w db[b.toNat].rows (db[a.toNat].rows.drop i) acc) ∧ Grow σ τ 1 (acc.map encLine) x ∧
    fr = [(1, .c (.fz (db.map encData))), (2, .c (.int .i64 a)), (3, .c (.int .i64 b)), (4, .c (.fz (w.map encTok))), (12, .c x), (13, .c (.int .i64 k))]) ?_ _ _ _ ⟨0, _, [], _, rfl, Nat.zero_le _, rfl, ⟨Nat.zero_le _, rfl⟩, Grow.empty, rfl⟩)
  rintro m fr τ ⟨i, k, acc, x, rfl, hi, hk, ⟨hal, hj⟩, hG, rfl⟩ hrec
  have hle : σ.next ≤ τ.next := hG.gr.next
  by_cases hlti : i < db[a.toNat].rows.length
  · obtain ⟨hl1, hl2⟩ := hLv _ (List.getElem_mem hlti)
    rw [List.drop_eq_getElem_cons hlti, joinOut] at hj
    repeat' first | (apply Go.adm; exact rfl) | apply Go.qs | apply Qg.nil | ((first | apply Go.v2 | apply Go.v1); (first | exact leAdd | assumption); iterate 6 exact rfl) | ((first | apply Go.op | apply Go.sop | apply Qg.op); exact rfl; (first | exact aop_alloc | exact aop_new rfl rfl | exact aop_mksl rfl | exact aop_lenM rfl | exact rfl | exact aL rfl rfl rfl rfl rfl | exact aS rfl rfl rfl rfl rfl rfl rfl | exact aop_iaddrM (enc := encData) rfl rfl hn hlt2 rfl)) | ((first | apply Go.no | apply Go.sno | apply Qg.no); exact rfl) | (exfalso; omega) | (((first | apply Go.iQ | apply Go.gQ | apply Go.sQ | apply Qg.gQ); exact rfl; (first | exact .d | exact .e | exact .n | ((fail_if_success exact bqt); (fail_if_success exact bqf); exact .b))) <;> intro _)
    refine Go.keep [1, 2, 3, 4, 12, 13, 14] (Go.loops (I := fun m fr τ => ∃ (j : Nat) (kj : Int) (ac : List Line) (x : Ce), m = db[b.toNat].rows.length - j ∧ j ≤ db[b.toNat].rows.length ∧ kj = j ∧ (ac.length ≤ 60 * i + j ∧ joinIn w db[a.toNat].rows[i].vals db[b.toNat].rows acc = joinIn w db[a.toNat].rows[i].vals (db[b.toNat].rows.drop j) ac) ∧ Grow σ τ 1 (ac.map encLine) x ∧
      fr = [(1, .c (.fz (db.map encData))), (2, .c (.int .i64 a)), (3, .c (.int .i64 b)), (4, .c (.fz (w.map encTok))), (12, .c x), (13, .c (.int .i64 k)), (14, .c (.int .i64 kj))]) ?_ _ _ _ ⟨0, _, acc, _, rfl, Nat.zero_le _, rfl, ⟨hal, rfl⟩, hG, rfl⟩)
    clear hG hle
    clear x τ
    rintro m fr τ ⟨j, kj, ac, x, rfl, hjl, hkj, ⟨hacl, hin2⟩, hG, rfl⟩ hrecj
    have hle : σ.next ≤ τ.next := hG.gr.next
    by_cases hltj : j < db[b.toNat].rows.length
    · obtain ⟨hr1, hr2⟩ := hRv _ (List.getElem_mem hltj)
      rw [List.drop_eq_getElem_cons hltj, joinIn] at hin2
      have hlen : (db[a.toNat].rows[i].vals ++ db[b.toNat].rows[j].vals).length = s[a.toNat].cols.length + s[b.toNat].cols.length := by rw [List.length_append]; omega
      have q1 : areVals (db[a.toNat].rows[i].vals ++ db[b.toNat].rows[j].vals) 16 = true := by
        simp only [areVals, Bool.and_eq_true, decide_eq_true_eq, List.all_eq_true]
        refine ⟨by omega, fun v hv => ?_⟩
        rcases List.mem_append.1 hv with hv | hv
        · exact hl2 v hv
        · exact hr2 v hv
      have q2 : exprF w (db[a.toNat].rows[i].vals ++ db[b.toNat].rows[j].vals).length = true := by rw [hlen]; exact h5
      have ct := l2Truth_ok w (db[a.toNat].rows[i].vals ++ db[b.toNat].rows[j].vals) q1 q2
      have hTT : truthI w (db[a.toNat].rows[i].vals ++ db[b.toNat].rows[j].vals) = truthR w (db[a.toNat].rows[i].vals ++ db[b.toNat].rows[j].vals) := by rw [truthI, evalOk, q1, q2]; rfl
      have hge := truthR_ge w (db[a.toNat].rows[i].vals ++ db[b.toNat].rows[j].vals)
      rw [hTT] at hin2
      have hbd : ((db[a.toNat].rows[i].vals.map encV).length + (db[b.toNat].rows[j].vals.map encV).length) * 32 ≤ 140737488355328 := by rw [List.length_map, List.length_map]; omega
      have e1 : db[a.toNat].rows[i].vals.map encV ++ db[b.toNat].rows[j].vals.map encV = (db[a.toNat].rows[i].vals ++ db[b.toNat].rows[j].vals).map encV := by rw [List.map_append]
      have ccm := l1CopyVals_mk db[a.toNat].rows[i].vals (by omega)
      repeat' first | (apply Go.adm; exact rfl) | (apply Go.qd) | apply Qc.nil | (apply Qc.op; exact rfl; (first | exact fun _ => rfl | exact fun _ => aop_lenM rfl | exact fun _ => aop_iaddrM (enc := encData) rfl rfl hn hlt2 rfl | exact fun _ => aop_iaddrM (enc := encData) rfl rfl hn' hlt2' rfl | exact fun _ => aop_iaddrM (enc := encRowD) rfl rfl hk hlti rfl | exact fun _ => aop_iaddrM (enc := encRowD) rfl rfl hkj hltj rfl)) | (apply Qc.no; exact rfl) | ((first | apply Go.v2 | apply Go.v1); (first | exact leAdd | assumption); iterate 6 exact rfl) | ((first | apply Go.op | apply Go.sop); exact rfl; (first | exact aop_alloc | exact aop_new rfl rfl | exact aop_mksl rfl | exact aop_lenM rfl | exact rfl | exact aL rfl rfl rfl rfl rfl | exact aS rfl rfl rfl rfl rfl rfl rfl | exact aop_iaddrM (enc := encData) rfl rfl hn hlt2 rfl | exact aop_iaddrM (enc := encData) rfl rfl hn' hlt2' rfl | exact aop_iaddrM (enc := encRowD) rfl rfl hk hlti rfl | exact aop_iaddrM (enc := encRowD) rfl rfl hkj hltj rfl)) | ((first | apply Go.no | apply Go.sno); exact rfl) | (exfalso; omega) | (((first | apply Go.iQ | apply Go.gQ | apply Go.sQ | apply Qg.gQ); exact rfl; (first | exact .d | exact .e | exact .n | ((fail_if_success exact bqt); (fail_if_success exact bqf); exact .b))) <;> intro _)
      refine Qc.call _ rfl rfl rfl (ccm.at_ τ) ?_
      rintro r _ ⟨v, junk, hjk, rfl, rfl⟩
      repeat' first | (apply Go.adm; exact rfl) | (apply Go.qd) | apply Qc.nil | (apply Qc.op; exact rfl; (first | exact fun _ => rfl | exact fun _ => aop_lenM rfl | exact fun _ => aop_iaddrM (enc := encData) rfl rfl hn hlt2 rfl | exact fun _ => aop_iaddrM (enc := encData) rfl rfl hn' hlt2' rfl | exact fun _ => aop_iaddrM (enc := encRowD) rfl rfl hk hlti rfl | exact fun _ => aop_iaddrM (enc := encRowD) rfl rfl hkj hltj rfl)) | (apply Qc.no; exact rfl) | ((first | apply Go.v2 | apply Go.v1); (first | exact leAdd | assumption); iterate 6 exact rfl) | ((first | apply Go.op | apply Go.sop); exact rfl; (first | exact aop_alloc | exact aop_new rfl rfl | exact aop_mksl rfl | exact aop_lenM rfl | exact rfl | exact aL rfl rfl rfl rfl rfl | exact aS rfl rfl rfl rfl rfl rfl rfl | exact aop_iaddrM (enc := encData) rfl rfl hn hlt2 rfl | exact aop_iaddrM (enc := encData) rfl rfl hn' hlt2' rfl | exact aop_iaddrM (enc := encRowD) rfl rfl hk hlti rfl | exact aop_iaddrM (enc := encRowD) rfl rfl hkj hltj rfl)) | ((first | apply Go.no | apply Go.sno); exact rfl) | (exfalso; omega) | (((first | apply Go.iQ | apply Go.gQ | apply Go.sQ | apply Qg.gQ); exact rfl; (first | exact .d | exact .e | exact .n | ((fail_if_success exact bqt); (fail_if_success exact bqf); exact .b))) <;> intro _)
      refine Go.sapp rfl rfl rfl rfl rfl lens hjk lens hbd fun v' junk' hj' => ?_
      rw [e1]
      have hnv : NewV τ (.c (.fz ((db[a.toNat].rows[i].vals ++ db[b.toNat].rows[j].vals).map encV))) (.c (vec (τ.next + 0) v' ((db[a.toNat].rows[i].vals ++ db[b.toNat].rows[j].vals).map encV) junk')) (E τ [(v', (db[a.toNat].rows[i].vals ++ db[b.toNat].rows[j].vals).map encV ++ junk')]) := newVec clean_append hj'
      obtain ⟨hg2, hh2⟩ := hnv
      clear ccm e1 hbd
      generalize hE : (List.set [(v, db[a.toNat].rows[i].vals.map encV ++ junk)] 0 (v', (db[a.toNat].rows[i].vals ++ db[b.toNat].rows[j].vals).map encV ++ junk')) = ll
      have hE2 : ll = [(v', (db[a.toNat].rows[i].vals ++ db[b.toNat].rows[j].vals).map encV ++ junk')] := hE.symm
      rw [← hE2] at hg2 hh2
      clear hE hE2
      generalize E τ ll = τ2 at hg2 hh2 ⊢
      generalize vec (τ.next + 0) v' ((db[a.toNat].rows[i].vals ++ db[b.toNat].rows[j].vals).map encV) junk' = xc at hh2 ⊢
      generalize db[a.toNat].rows[i].vals ++ db[b.toNat].rows[j].vals = vs at ct hin2 hh2 hlen hge
      generalize truthR w vs = T at ct hin2 hge
      cases hh2 with
      | c hh2 =>
      have hG2 := hG.later hg2
      have hn2 := hg2.next
      repeat' first | (apply Go.adm; exact rfl) | apply Go.qs | apply Qg.nil | ((first | apply Go.v2 | apply Go.v1); (first | exact leAdd | assumption); iterate 6 exact rfl) | ((first | apply Go.op | apply Go.sop | apply Qg.op); exact rfl; (first | exact aop_alloc | exact aop_new rfl rfl | exact aop_mksl rfl | exact aop_lenM rfl | exact rfl | exact aL rfl rfl rfl rfl rfl | exact aS rfl rfl rfl rfl rfl rfl rfl)) | ((first | apply Go.no | apply Go.sno | apply Qg.no); exact rfl) | (exfalso; omega) | (((first | apply Go.iQ | apply Go.gQ | apply Go.sQ | apply Qg.gQ); exact rfl; (first | exact .d | exact .e | exact .n | ((fail_if_success exact bqt); (fail_if_success exact bqf); exact .b))) <;> intro _)
      refine Go.lcall rfl rfl rfl ct (.int _ _) (.same (.own (HasV.c hh2).lend .nil)) ?_
      repeat' first | (apply Go.adm; exact rfl) | apply Go.qs | apply Qg.nil | ((first | apply Go.v2 | apply Go.v1); (first | exact leAdd | assumption); iterate 6 exact rfl) | ((first | apply Go.op | apply Go.sop | apply Qg.op); exact rfl; (first | exact aop_alloc | exact aop_new rfl rfl | exact aop_mksl rfl | exact aop_lenM rfl | exact rfl | exact aL rfl rfl rfl rfl rfl | exact aS rfl rfl rfl rfl rfl rfl rfl)) | ((first | apply Go.no | apply Go.sno | apply Qg.no); exact rfl) | (exfalso; omega) | (((first | apply Go.iQ | apply Go.gQ | apply Go.sQ | apply Qg.gQ); exact rfl; (first | exact .d | exact .e | exact .n | ((fail_if_success exact bqt); (fail_if_success exact bqf); exact .b))) <;> intro _)
      · rename_i h9
        rw [if_pos (by omega)] at hin2
        rw [hin2] at hj
        refine .ret rfl ?_
        rw [joinF, hj]
        exact newPair (.bool _) (newNil hG2.1)
      · rename_i h9 h10
        rw [if_neg (by omega), if_pos h10] at hin2
        refine Go.grow ?_ ?_ ?_ hG2 hle hn2 (line_owned hh2) rfl ?_ fun x' τ3 hG3 => ?_
        · exact rfl
        · exact rfl
        · exact rfl
        · rw [List.length_map]
          omega
        repeat' first | (apply Go.adm; exact rfl) | apply Go.qs | apply Qg.nil | ((first | apply Go.v2 | apply Go.v1); (first | exact leAdd | assumption); iterate 6 exact rfl) | ((first | apply Go.op | apply Go.sop | apply Qg.op); exact rfl; (first | exact aop_alloc | exact aop_new rfl rfl | exact aop_mksl rfl | exact aop_lenM rfl | exact rfl | exact aL rfl rfl rfl rfl rfl | exact aS rfl rfl rfl rfl rfl rfl rfl)) | ((first | apply Go.no | apply Go.sno | apply Qg.no); exact rfl) | (exfalso; omega) | (((first | apply Go.iQ | apply Go.gQ | apply Go.sQ | apply Qg.gQ); exact rfl; (first | exact .d | exact .e | exact .n | ((fail_if_success exact bqt); (fail_if_success exact bqf); exact .b))) <;> intro _)
        refine Go.keep [1, 2, 3, 4, 12, 13, 14] (hrecj _ _ _ (by omega) ⟨j + 1, _, ac ++ [⟨vs⟩], x', rfl, hltj, wrap_succ hkj (by omega), ⟨by rw [List.length_append, List.length_singleton]; omega, hin2⟩, ?_, rfl⟩)
        rw [List.map_append]
        exact hG3
      · rename_i h9 h10
        rw [if_neg (by omega), if_neg h10] at hin2
        exact Go.keep [1, 2, 3, 4, 12, 13, 14] (hrecj _ _ _ (by omega) ⟨j + 1, _, ac, x, rfl, hltj, wrap_succ hkj (by omega), ⟨by omega, hin2⟩, hG.wider hg2, rfl⟩)
    · rw [List.drop_eq_nil_of_le (by omega), joinIn] at hin2
      rw [hin2] at hj
      repeat' first | (apply Go.adm; exact rfl) | apply Go.qs | apply Qg.nil | ((first | apply Go.v2 | apply Go.v1); (first | exact leAdd | assumption); iterate 6 exact rfl) | ((first | apply Go.op | apply Go.sop | apply Qg.op); exact rfl; (first | exact aop_alloc | exact aop_new rfl rfl | exact aop_mksl rfl | exact aop_lenM rfl | exact rfl | exact aL rfl rfl rfl rfl rfl | exact aS rfl rfl rfl rfl rfl rfl rfl | exact aop_iaddrM (enc := encData) rfl rfl hn' hlt2' rfl)) | ((first | apply Go.no | apply Go.sno | apply Qg.no); exact rfl) | (exfalso; omega) | (((first | apply Go.iQ | apply Go.gQ | apply Go.sQ | apply Qg.gQ); exact rfl; (first | exact .d | exact .e | exact .n | ((fail_if_success exact bqt); (fail_if_success exact bqf); exact .b))) <;> intro _)
      exact Go.keep [1, 2, 3, 4, 12, 13] (hrec _ _ _ (by omega) ⟨i + 1, _, ac, x, rfl, hlti, wrap_succ hk (by omega), ⟨by omega, hj⟩, hG, rfl⟩)
  · rw [List.drop_eq_nil_of_le (by omega), joinOut] at hj
    repeat' first | (apply Go.adm; exact rfl) | apply Go.qs | apply Qg.nil | ((first | apply Go.v2 | apply Go.v1); (first | exact leAdd | assumption); iterate 6 exact rfl) | ((first | apply Go.op | apply Go.sop | apply Qg.op); exact rfl; (first | exact aop_alloc | exact aop_new rfl rfl | exact aop_mksl rfl | exact aop_lenM rfl | exact rfl | exact aL rfl rfl rfl rfl rfl | exact aS rfl rfl rfl rfl rfl rfl rfl | exact aop_iaddrM (enc := encData) rfl rfl hn hlt2 rfl)) | ((first | apply Go.no | apply Go.sno | apply Qg.no); exact rfl) | (exfalso; omega) | (((first | apply Go.iQ | apply Go.gQ | apply Go.sQ | apply Qg.gQ); exact rfl; (first | exact .d | exact .e | exact .n | ((fail_if_success exact bqt); (fail_if_success exact bqf); exact .b))) <;> intro _)
    refine .ret rfl ?_
    rw [joinF, hj]
    exact newPair (.bool _) hG.v
end Go.Proofs.YtcfpdongfdhgjaaGreat.Am

/- Joined lines: what the results are like; marks held. -/
set_option linter.unusedVariables false
set_option linter.unusedSimpArgs false
namespace Go.Proofs.YtcfpdongfdhgjaaGreat.Am

theorem joinIn_mem {w : List Tok} {a : List Val} : ∀ {l : List RowD} {acc out : List Line}, joinIn w a l acc = some out → out.length ≤ acc.length + l.length ∧ ∀ x ∈ out, x ∈ acc ∨ ∃ r ∈ l, x = ⟨a ++ r.vals⟩
  | [], acc, out, h => by
    injection h with h
    subst h
    exact ⟨by simp, fun x hx => .inl hx⟩
  | r :: l, acc, out, h => by
    rw [joinIn] at h
    split at h
    · cases h
    · obtain ⟨h1, h2⟩ := joinIn_mem h
      split at h1
      · rename_i hc
        rw [if_pos hc] at h2
        rw [List.length_append, List.length_singleton] at h1
        refine ⟨by simp only [List.length_cons]; omega, fun x hx => ?_⟩
        rcases h2 x hx with h3 | ⟨q, hq, rfl⟩
        · rcases List.mem_append.1 h3 with h3 | h3
          · exact .inl h3
          · exact .inr ⟨r, by simp, List.mem_singleton.1 h3⟩
        · exact .inr ⟨q, by simp [hq], rfl⟩
      · rename_i hc
        rw [if_neg hc] at h2
        refine ⟨by simp only [List.length_cons]; omega, fun x hx => ?_⟩
        rcases h2 x hx with h3 | ⟨q, hq, rfl⟩
        · exact .inl h3
        · exact .inr ⟨q, by simp [hq], rfl⟩
theorem joinOut_mem {w : List Tok} {right : List RowD} (hr : right.length ≤ 60) : ∀ {l : List RowD} {acc out : List Line}, joinOut w right l acc = some out → out.length ≤ acc.length + 60 * l.length ∧ ∀ x ∈ out, x ∈ acc ∨ ∃ p ∈ l, ∃ r ∈ right, x = ⟨p.vals ++ r.vals⟩
  | [], acc, out, h => by
    injection h with h
    subst h
    exact ⟨by simp, fun x hx => .inl hx⟩
  | p :: l, acc, out, h => by
    rw [joinOut] at h
    split at h
    · rename_i q hq
      obtain ⟨h1, h2⟩ := joinIn_mem hq
      obtain ⟨h3, h4⟩ := joinOut_mem hr h
      refine ⟨by simp only [List.length_cons]; omega, fun x hx => ?_⟩
      rcases h4 x hx with h5 | ⟨u, hu, r, hr, rfl⟩
      · rcases h2 x h5 with h6 | ⟨r, hr, rfl⟩
        · exact .inl h6
        · exact .inr ⟨p, by simp, r, hr, rfl⟩
      · exact .inr ⟨u, by simp [hu], r, hr, rfl⟩
    · cases h
theorem cntL_le {α : Type} {c : α → Int} {B : Nat} : ∀ {l : List α}, (∀ x ∈ l, c x ≤ B) → cntL c l ≤ (B * l.length : Nat)
  | [], _ => by simp [cntL]
  | a :: l, h => by
    have h1 := h a (by simp)
    have h2 := cntL_le (c := c) (l := l) fun x hx => h x (by simp [hx])
    rw [cntL, List.length_cons, Nat.mul_add, Nat.mul_one]
    omega
theorem JoinOn_fact (s : List Table) (db : List Data) (a b : Int) (w : List Tok) (hx : s.length ≤ 34359738368) (hb : ∀ t ∈ s, bTable 34359738368 t) (hd : db.length ≤ 34359738368) (hdb : ∀ d ∈ db, bData 34359738368 d) (hw : w.length ≤ 34359738368) (hw2 : ∀ t ∈ w, bTok 34359738368 t) :
    (JoinF s db a b w).1.length ≤ 34359738368 ∧ (∀ x ∈ (JoinF s db a b w).1, bLine 34359738368 x) ∧ 1 + cntL cntLine (JoinF s db a b w).1 ≤ 34359738368 := by
  have h : (JoinF s db a b w).1.length ≤ 3600 ∧ ∀ x ∈ (JoinF s db a b w).1, bLine 34359738368 x ∧ x.vals.length ≤ 16 := by
    rw [JoinF]
    split
    · rename_i h
      simp only [Bool.and_eq_true] at h
      obtain ⟨h1, h2, h2', _⟩ := h
      obtain ⟨hs, hl, hrows⟩ := dbF_at h1
      obtain ⟨h3, h4⟩ := isIn_at h2
      obtain ⟨h3', h4'⟩ := isIn_at h2'
      have hlt2 : a.toNat < db.length := by omega
      have hlt2' : b.toNat < db.length := by omega
      have hcl := schemaF_cols hs _ (List.getElem_mem (show a.toNat < s.length by omega))
      have hcl' := schemaF_cols hs _ (List.getElem_mem (show b.toNat < s.length by omega))
      have hr := rowsF_mem (hrows a.toNat (by omega) hlt2)
      have hr' := rowsF_mem (hrows b.toNat (by omega) hlt2')
      have hB := (hdb _ (List.getElem_mem hlt2))
      have hB' := (hdb _ (List.getElem_mem hlt2'))
      rw [rowsAt, List.getElem?_eq_getElem hlt2, rowsAt, List.getElem?_eq_getElem hlt2', joinF]
      split
      · rename_i hm
        obtain ⟨k1, k2⟩ := joinOut_mem hr'.1 hm
        refine ⟨by simp at k1 ⊢; omega, fun x hx => ?_⟩
        rcases k2 x hx with h5 | ⟨p, hp, r, hrm, rfl⟩
        · cases h5
        · have e1 := (fitF_vals (hr.2 p hp).1).1
          have e2 := (fitF_vals (hr'.2 r hrm).1).1
          refine ⟨⟨by simp only [List.length_append]; omega, fun v hv => ?_⟩, by simp only [List.length_append]; omega⟩
          rcases List.mem_append.1 hv with hv | hv
          · exact (hB.2 p hp).2 v hv
          · exact (hB'.2 r hrm).2 v hv
      · exact ⟨by simp, fun x hx => by simp at hx⟩
    · exact ⟨by simp, fun x hx => by simp at hx⟩
  have hc := cntL_le (c := cntLine) (B := 48) (l := (JoinF s db a b w).1) fun x hx => by
    have := (h.2 x hx).2
    rw [cntLine, cnt3]
    omega
  exact ⟨by omega, fun x hx => (h.2 x hx).1, by omega⟩
/-! ### Marks of lines that are held -/
theorem heldS_or {α : Type} {h : α → Int → Int} {c : α → Int} (hh : ∀ a k, h a k = -1 ∨ h a k = k + c a) : ∀ (xs : List α) (k : Int), heldS h xs k = -1 ∨ heldS h xs k = k + cntL c xs
  | [], k => by simp [heldS, cntL]
  | a :: r, k => by
    simp only [heldS, cntL]
    split
    · exact .inl rfl
    · rename_i h0
      rcases hh a k with h1 | h1
      · omega
      · rw [h1]
        rcases heldS_or hh r (k + c a) with h2 | h2
        · exact .inl h2
        · right; rw [h2]; omega
theorem heldV_or (v : Val) (k : Int) : heldV v k = -1 ∨ heldV v k = k + 3 := by
  simp only [heldV]
  split
  · exact .inr rfl
  · exact .inl rfl
def heldLn (e : Line) (k : Int) : Int := heldS heldV e.vals k
theorem cntLn (e : Line) : cntLine e = cntL (fun _ => 3) e.vals := by rw [cntLine, Int.zero_add]
theorem heldLn_mark (e : Line) (k : Int) (hk : 0 ≤ k) : heldLn (markLine e k) k = k + cntLine e := by
  rw [cntLn]
  exact heldS_mark (c := fun _ => 3) heldV_mark (fun _ => by decide) e.vals k hk
theorem heldLineS_ok (xs : List Line) (k : Int) (hx : xs.length ≤ 34359738368) (hkl : ∀ e ∈ xs, e.vals.length ≤ 34359738368) (hk0 : 0 ≤ k) (hk : k + cntL cntLine xs ≤ 34359738368) : Pure Tryz.prog 48 [.c (.fz (xs.map encLine)), .c (.int .i64 k)] (.c (.int .i64 (heldS heldLn xs k))) := by
  refine Pure.run mixed c_laws_heldLineS_ok (Nat.le_of_ble_eq_true rfl) fun σ hS hA => ?_
  clear hS hA
  repeat' first | (apply Go.adm; exact rfl) | apply Go.qs | apply Qg.nil | ((first | apply Go.v2 | apply Go.v1); (first | exact leAdd | assumption); iterate 6 exact rfl) | ((first | apply Go.op | apply Go.sop | apply Qg.op); exact rfl; (first | exact aop_alloc | exact aop_new rfl rfl | exact aop_mksl rfl | exact aop_lenM rfl | exact rfl | exact aL rfl rfl rfl rfl rfl | exact aS rfl rfl rfl rfl rfl rfl rfl)) | ((first | apply Go.no | apply Go.sno | apply Qg.no); exact rfl) | (exfalso; omega) | (((first | apply Go.iQ | apply Go.gQ | apply Go.sQ | apply Qg.gQ); exact rfl; (first | exact .d | exact .e | exact .n | ((fail_if_success exact bqt); (fail_if_success exact bqf); exact .b))) <;> intro _)
  refine Go.keep [0, 1, 5] (Go.loops (I := fun m fr τ => ∃ i : Nat, ∃ n l : Int, m = xs.length - i ∧ i ≤ xs.length ∧ n = i ∧ (0 ≤ l ∧ l + cntL cntLine (xs.drop i) ≤ 34359738368 ∧ heldS heldLn xs k = heldS heldLn (xs.drop i) l) ∧
    fr = [(0, .c (.fz (xs.map encLine))), (1, .c (.int .i64 l)), (5, .c (.int .i64 n))] ∧ τ = E σ []) ?_ _ _ _ ⟨0, _, _, rfl, Nat.zero_le _, rfl, ⟨hk0, by simpa using hk, rfl⟩, rfl, rfl⟩)
  rintro m fr τ ⟨i, n, l, rfl, hi, hn, ⟨hl0, hl, hsl⟩, rfl, rfl⟩ hrec
  by_cases hlt : i < xs.length
  · have hdr := List.drop_eq_getElem_cons hlt
    have hn0 := cntL_nonneg cntLine_nonneg (xs.drop (i + 1))
    have hn1 := cntL_nonneg (c := fun _ : Val => 3) (fun _ => by decide) xs[i].vals
    rw [hdr] at hl
    simp only [cntL, cntLn] at hl
    rw [hdr, heldS, heldLn] at hsl
    have hor := heldS_or (c := fun _ => 3) heldV_or xs[i].vals l
    have hc := heldValS_ok xs[i].vals l (hkl _ (List.getElem_mem hlt)) hl0 (by omega)
    have hl2 : cntL cntLine (xs.drop (i + 1)) + (l + cntL (fun _ => 3) xs[i].vals) ≤ 34359738368 := by omega
    generalize heldS heldV xs[i].vals l = l1 at hc hor hsl
    repeat' first | (apply Go.adm; exact rfl) | apply Go.qs | apply Qg.nil | ((first | apply Go.v2 | apply Go.v1); (first | exact leAdd | assumption); iterate 6 exact rfl) | ((first | apply Go.op | apply Go.sop | apply Qg.op); exact rfl; (first | exact aop_alloc | exact aop_new rfl rfl | exact aop_mksl rfl | exact aop_lenM rfl | exact rfl | exact aL rfl rfl rfl rfl rfl | exact aS rfl rfl rfl rfl rfl rfl rfl | exact aop_iaddrM (enc := encLine) rfl rfl hn hlt rfl)) | ((first | apply Go.no | apply Go.sno | apply Qg.no); exact rfl) | ((first | apply Go.pcall | apply Go.spcall | apply Qg.pcall); (iterate 3 exact rfl); exact hc) | (exfalso; omega) | (((first | apply Go.iQ | apply Go.gQ | apply Go.sQ | apply Qg.gQ); exact rfl; (first | exact .d | exact .e | exact .n | ((fail_if_success exact bqt); (fail_if_success exact bqf); exact .b))) <;> intro _)
    · rename_i h1
      rw [if_pos h1] at hsl
      exact .ret rfl (.int hsl.symm)
    · rename_i h1
      rw [if_neg h1] at hsl
      exact Go.keep [0, 1, 5] (hrec _ _ _ (by omega) ⟨i + 1, _, _, rfl, hlt, wrap_succ hn (by omega), ⟨by omega, by omega, hsl⟩, rfl, rfl⟩)
  · repeat' first | (apply Go.adm; exact rfl) | apply Go.qs | apply Qg.nil | ((first | apply Go.v2 | apply Go.v1); (first | exact leAdd | assumption); iterate 6 exact rfl) | ((first | apply Go.op | apply Go.sop | apply Qg.op); exact rfl; (first | exact aop_alloc | exact aop_new rfl rfl | exact aop_mksl rfl | exact aop_lenM rfl | exact rfl | exact aL rfl rfl rfl rfl rfl | exact aS rfl rfl rfl rfl rfl rfl rfl)) | ((first | apply Go.no | apply Go.sno | apply Qg.no); exact rfl) | (exfalso; omega) | (((first | apply Go.iQ | apply Go.gQ | apply Go.sQ | apply Qg.gQ); exact rfl; (first | exact .d | exact .e | exact .n | ((fail_if_success exact bqt); (fail_if_success exact bqf); exact .b))) <;> intro _)
    refine .ret rfl (.int ?_)
    rw [hsl, List.drop_eq_nil_of_le (by omega)]
    rfl
theorem heldLineS_at (ws : List Line) (w1 : ws.length ≤ 34359738368) (w2 : ∀ x ∈ ws, bLine 34359738368 x) (w3 : 1 + cntL cntLine ws ≤ 34359738368) : Pure Tryz.prog 48 [.c (.fz ((markL markLine cntLine ws 1).map encLine)), .c (.int .i64 1)] (.c (.int .i64 (1 + cntL cntLine ws))) := by
  have h1 : ∀ (ws : List Line) (k : Int), (∀ x ∈ ws, bLine 34359738368 x) → (∀ e ∈ markL markLine cntLine ws k, e.vals.length ≤ 34359738368) ∧ cntL cntLine (markL markLine cntLine ws k) = cntL cntLine ws := by
    intro ws
    induction ws with
    | nil => intro k _; exact ⟨fun e he => by simp [markL] at he, rfl⟩
    | cons a ws ih =>
      intro k h
      obtain ⟨i1, i2⟩ := ih (k + cntLine a) fun x hx => h x (by simp [hx])
      have hml : (markLine a k).vals.length = a.vals.length := markL_length
      refine ⟨fun e he => ?_, ?_⟩
      · rw [markL] at he
        rcases List.mem_cons.1 he with rfl | he
        · rw [hml]; exact (h a (by simp)).1
        · exact i1 e he
      · rw [markL, cntL, cntL, i2, cntLn, cntLn, cnt3, cnt3, hml]
  obtain ⟨h2, h3⟩ := h1 ws 1 w2
  have := heldLineS_ok (markL markLine cntLine ws 1) 1 (by rw [markL_length]; exact w1) h2 (by decide) (by rw [h3]; exact w3)
  rw [heldS_mark heldLn_mark cntLine_nonneg ws 1 (by decide)] at this
  exact this
theorem heldLineS_nn (ws : List Line) : 0 ≤ cntL cntLine ws := cntL_nonneg cntLine_nonneg ws
end Go.Proofs.YtcfpdongfdhgjaaGreat.Am

/- The law FnExactJoinOn: its function returns true (the walk). Printed by a program. -/
set_option linter.unusedVariables false
set_option linter.unusedSimpArgs false
namespace Go.Proofs.YtcfpdongfdhgjaaGreat.Am

theorem JoinOn_sound (s : List Table) (db : List Data) (a : Int) (b : Int) (w : List Tok) (b0_1 : s.length ≤ 1125899906842624) (b0_2 : ∀ x ∈ s, bTable 1125899906842624 x) (b1_1 : db.length ≤ 1125899906842624) (b1_2 : ∀ x ∈ db, bData 1125899906842624 x) (b4_1 : w.length ≤ 1125899906842624) (b4_2 : ∀ x ∈ w, bTok 1125899906842624 x) : Pure Tryz.prog 6 [.c (.fz (s.map encTable)), .c (.fz (db.map encData)), .c (.int .i64 a), .c (.int .i64 b), .c (.fz (w.map encTok))] (.c (.bool true)) := by
  refine Pure.run2 mixed c_laws_FnExactJoinOn_ok (Nat.le_of_ble_eq_true rfl) fun σ hS => ?_
  clear hS
  have hend : ∀ τ : Store, (∀ id, id < σ.next → τ.get id = σ.get id) → Ends σ (.c (.bool true)) (.c (.bool true)) τ := fun τ h => ⟨h, solid_end⟩
  have hold : ∀ id, id < σ.next → (E σ []).get id = σ.get id := fun id h => E_lt h
  have hm0 : σ.next ≤ (E σ []).next := by rw [E_next]; omega
  generalize E σ [] = τ0 at hold hm0 ⊢
  repeat' first | (apply Go.adm; exact rfl) | apply Go.qs | apply Qg.nil | ((first | apply Go.v2 | apply Go.v1); (first | exact leAdd | assumption); iterate 6 exact rfl) | ((first | apply Go.op | apply Go.sop | apply Qg.op); exact rfl; (first | exact aop_alloc | exact aop_new rfl rfl | exact aop_mksl rfl | exact aop_lenM rfl | exact rfl | exact aL rfl rfl rfl rfl rfl | exact aS rfl rfl rfl rfl rfl rfl rfl)) | ((first | apply Go.no | apply Go.sno | apply Qg.no); exact rfl) | (exfalso; omega) | (((first | apply Go.iQ | apply Go.gQ | apply Go.sQ | apply Qg.gQ); exact rfl; (first | exact .d | exact .e | exact .n | ((fail_if_success exact bqt); (fail_if_success exact bqf); exact .b))) <;> intro _)
  have z0 := szL_le zTable_le s 1048576 (by omega)
  have f0 := fun (h : 0 ≤ szL zTable s 1048576) => list_of (N := 34359738368) zTable_le (fun a l N h0 h hl => bTable_of a l N h0 h hl) (xs := s) (l := 1048576) (by omega) h (by omega)
  have c0 := fun (h : 0 ≤ szL zTable s 1048576) => szL_cnt8 zTable_le cntTable_sz s 1048576 (by omega) h
  refine .pcall rfl rfl rfl (szTableS_ok s 1048576 b0_1 b0_2 (by omega) (by omega)) ?_
  generalize szL zTable s 1048576 = l0 at z0 f0 c0 ⊢
  repeat' first | (apply Go.adm; exact rfl) | apply Go.qs | apply Qg.nil | ((first | apply Go.v2 | apply Go.v1); (first | exact leAdd | assumption); iterate 6 exact rfl) | ((first | apply Go.op | apply Go.sop | apply Qg.op); exact rfl; (first | exact aop_alloc | exact aop_new rfl rfl | exact aop_mksl rfl | exact aop_lenM rfl | exact rfl | exact aL rfl rfl rfl rfl rfl | exact aS rfl rfl rfl rfl rfl rfl rfl)) | ((first | apply Go.no | apply Go.sno | apply Qg.no); exact rfl) | (exfalso; omega) | (((first | apply Go.iQ | apply Go.gQ | apply Go.sQ | apply Qg.gQ); exact rfl; (first | exact .d | exact .e | exact .n | ((fail_if_success exact bqt); (fail_if_success exact bqf); exact .b))) <;> intro _)
  · exact .ret rfl (hend _ hold)
  rename_i g0
  obtain ⟨h0_1, h0_2⟩ := f0 (by omega)
  have c0 := c0 (by omega)
  clear f0 b0_1 b0_2
  repeat' first | (apply Go.adm; exact rfl) | apply Go.qs | apply Qg.nil | ((first | apply Go.v2 | apply Go.v1); (first | exact leAdd | assumption); iterate 6 exact rfl) | ((first | apply Go.op | apply Go.sop | apply Qg.op); exact rfl; (first | exact aop_alloc | exact aop_new rfl rfl | exact aop_mksl rfl | exact aop_lenM rfl | exact rfl | exact aL rfl rfl rfl rfl rfl | exact aS rfl rfl rfl rfl rfl rfl rfl)) | ((first | apply Go.no | apply Go.sno | apply Qg.no); exact rfl) | (exfalso; omega) | (((first | apply Go.iQ | apply Go.gQ | apply Go.sQ | apply Qg.gQ); exact rfl; (first | exact .d | exact .e | exact .n | ((fail_if_success exact bqt); (fail_if_success exact bqf); exact .b))) <;> intro _)
  have z1 := szL_le zData_le db l0 (by omega)
  have f1 := fun (h : 0 ≤ szL zData db l0) => list_of (N := 34359738368) zData_le (fun a l N h0 h hl => bData_of a l N h0 h hl) (xs := db) (l := l0) (by omega) h (by omega)
  have c1 := fun (h : 0 ≤ szL zData db l0) => szL_cnt8 zData_le cntData_sz db l0 (by omega) h
  refine .pcall rfl rfl rfl (szDataS_ok db l0 b1_1 b1_2 (by omega) (by omega)) ?_
  generalize szL zData db l0 = l1 at z1 f1 c1 ⊢
  repeat' first | (apply Go.adm; exact rfl) | apply Go.qs | apply Qg.nil | ((first | apply Go.v2 | apply Go.v1); (first | exact leAdd | assumption); iterate 6 exact rfl) | ((first | apply Go.op | apply Go.sop | apply Qg.op); exact rfl; (first | exact aop_alloc | exact aop_new rfl rfl | exact aop_mksl rfl | exact aop_lenM rfl | exact rfl | exact aL rfl rfl rfl rfl rfl | exact aS rfl rfl rfl rfl rfl rfl rfl)) | ((first | apply Go.no | apply Go.sno | apply Qg.no); exact rfl) | (exfalso; omega) | (((first | apply Go.iQ | apply Go.gQ | apply Go.sQ | apply Qg.gQ); exact rfl; (first | exact .d | exact .e | exact .n | ((fail_if_success exact bqt); (fail_if_success exact bqf); exact .b))) <;> intro _)
  · exact .ret rfl (hend _ hold)
  rename_i g1
  obtain ⟨h1_1, h1_2⟩ := f1 (by omega)
  have c1 := c1 (by omega)
  clear f1 b1_1 b1_2
  repeat' first | (apply Go.adm; exact rfl) | apply Go.qs | apply Qg.nil | ((first | apply Go.v2 | apply Go.v1); (first | exact leAdd | assumption); iterate 6 exact rfl) | ((first | apply Go.op | apply Go.sop | apply Qg.op); exact rfl; (first | exact aop_alloc | exact aop_new rfl rfl | exact aop_mksl rfl | exact aop_lenM rfl | exact rfl | exact aL rfl rfl rfl rfl rfl | exact aS rfl rfl rfl rfl rfl rfl rfl)) | ((first | apply Go.no | apply Go.sno | apply Qg.no); exact rfl) | (exfalso; omega) | (((first | apply Go.iQ | apply Go.gQ | apply Go.sQ | apply Qg.gQ); exact rfl; (first | exact .d | exact .e | exact .n | ((fail_if_success exact bqt); (fail_if_success exact bqf); exact .b))) <;> intro _)
  have z4 := szL_le zTok_le w l1 (by omega)
  have f4 := fun (h : 0 ≤ szL zTok w l1) => list_of (N := 34359738368) zTok_le (fun a l N h0 h hl => bTok_of a l N h0 h hl) (xs := w) (l := l1) (by omega) h (by omega)
  have c4 := fun (h : 0 ≤ szL zTok w l1) => szL_cnt8 zTok_le cntTok_sz w l1 (by omega) h
  refine .pcall rfl rfl rfl (szTokS_ok w l1 b4_1 b4_2 (by omega) (by omega)) ?_
  generalize szL zTok w l1 = l4 at z4 f4 c4 ⊢
  repeat' first | (apply Go.adm; exact rfl) | apply Go.qs | apply Qg.nil | ((first | apply Go.v2 | apply Go.v1); (first | exact leAdd | assumption); iterate 6 exact rfl) | ((first | apply Go.op | apply Go.sop | apply Qg.op); exact rfl; (first | exact aop_alloc | exact aop_new rfl rfl | exact aop_mksl rfl | exact aop_lenM rfl | exact rfl | exact aL rfl rfl rfl rfl rfl | exact aS rfl rfl rfl rfl rfl rfl rfl)) | ((first | apply Go.no | apply Go.sno | apply Qg.no); exact rfl) | (exfalso; omega) | (((first | apply Go.iQ | apply Go.gQ | apply Go.sQ | apply Qg.gQ); exact rfl; (first | exact .d | exact .e | exact .n | ((fail_if_success exact bqt); (fail_if_success exact bqf); exact .b))) <;> intro _)
  · exact .ret rfl (hend _ hold)
  rename_i g4
  obtain ⟨h4_1, h4_2⟩ := f4 (by omega)
  have c4 := c4 (by omega)
  clear f4 b4_1 b4_2
  have cn0 := cntL_nonneg (c := cntTable) cntTable_nonneg s
  have cn1 := cntL_nonneg (c := cntData) cntData_nonneg db
  have cn4 := cntL_nonneg (c := cntTok) cntTok_nonneg w
  have himpl := JoinOn_ok s db a b w h0_1 h0_2 h1_1 h1_2 h4_1 h4_2
  have hspec := NewV.pure (sJoinOn_ok s db a b w h0_1 h0_2 h1_1 h1_2 h4_1 h4_2)
  have t0 := New.pure (toTableS_ok s h0_1 h0_2)
  have t1 := New.pure (toDataS_ok db h1_1 h1_2)
  have t4 := New.pure (toTokS_ok w h4_1 h4_2)
  obtain ⟨w1, w2, w3⟩ := JoinOn_fact s db a b w h0_1 h0_2 h1_1 h1_2 h4_1 h4_2
  generalize (JoinF s db a b w).1 = ws at himpl hspec w1 w2 w3
  generalize (JoinF s db a b w).2 = B1 at himpl hspec
  repeat' first | (apply Go.adm; exact rfl) | apply Go.qs | apply Qg.nil | ((first | apply Go.v2 | apply Go.v1); (first | exact leAdd | assumption); iterate 6 exact rfl) | ((first | apply Go.op | apply Go.sop | apply Qg.op); exact rfl; (first | exact aop_alloc | exact aop_new rfl rfl | exact aop_mksl rfl | exact aop_lenM rfl | exact rfl | exact aL rfl rfl rfl rfl rfl | exact aS rfl rfl rfl rfl rfl rfl rfl)) | ((first | apply Go.no | apply Go.sno | apply Qg.no); exact rfl) | ((first | apply Go.pcall | apply Go.spcall | apply Qg.pcall); (iterate 3 exact rfl); (first | exact t0 | exact t1 | exact t4)) | (exfalso; omega) | (((first | apply Go.iQ | apply Go.gQ | apply Go.sQ | apply Qg.gQ); exact rfl; (first | exact .d | exact .e | exact .n | ((fail_if_success exact bqt); (fail_if_success exact bqf); exact .b))) <;> intro _)
  first | refine .spcall rfl rfl rfl hspec ?_ | refine .pcall rfl rfl rfl hspec ?_
  repeat' first | (apply Go.adm; exact rfl) | apply Go.qs | apply Qg.nil | ((first | apply Go.v2 | apply Go.v1); (first | exact leAdd | assumption); iterate 6 exact rfl) | ((first | apply Go.op | apply Go.sop | apply Qg.op); exact rfl; (first | exact aop_alloc | exact aop_new rfl rfl | exact aop_mksl rfl | exact aop_lenM rfl | exact rfl | exact aL rfl rfl rfl rfl rfl | exact aS rfl rfl rfl rfl rfl rfl rfl)) | ((first | apply Go.no | apply Go.sno | apply Qg.no); exact rfl) | (exfalso; omega) | (((first | apply Go.iQ | apply Go.gQ | apply Go.sQ | apply Qg.gQ); exact rfl; (first | exact .d | exact .e | exact .n | ((fail_if_success exact bqt); (fail_if_success exact bqf); exact .b))) <;> intro _)
  first | refine .call _ rfl rfl rfl (toTableS_ok s h0_1 h0_2 _) ?_ | refine .scall _ rfl rfl rfl (toTableS_ok s h0_1 h0_2 _) ?_
  intro r τ1 hq
  obtain ⟨x0, rfl, gr, hh0⟩ := New.openC hq
  have hold : ∀ id, id < σ.next → τ1.get id = σ.get id := fun id h => (gr.lt (by omega)).trans (hold id h)
  have hm1 := gr.next
  generalize hmq0 : τ0.next = m0 at hm0 hm1 hh0
  clear hq gr hmq0
  repeat' first | (apply Go.adm; exact rfl) | apply Go.qs | apply Qg.nil | ((first | apply Go.v2 | apply Go.v1); (first | exact leAdd | assumption); iterate 6 exact rfl) | ((first | apply Go.op | apply Go.sop | apply Qg.op); exact rfl; (first | exact aop_alloc | exact aop_new rfl rfl | exact aop_mksl rfl | exact aop_lenM rfl | exact rfl | exact aL rfl rfl rfl rfl rfl | exact aS rfl rfl rfl rfl rfl rfl rfl)) | ((first | apply Go.no | apply Go.sno | apply Qg.no); exact rfl) | (exfalso; omega) | (((first | apply Go.iQ | apply Go.gQ | apply Go.sQ | apply Qg.gQ); exact rfl; (first | exact .d | exact .e | exact .n | ((fail_if_success exact bqt); (fail_if_success exact bqf); exact .b))) <;> intro _)
  first | refine .call _ rfl rfl rfl (toDataS_ok db h1_1 h1_2 _) ?_ | refine .scall _ rfl rfl rfl (toDataS_ok db h1_1 h1_2 _) ?_
  intro r τ2 hq
  obtain ⟨x1, rfl, gr, hh1⟩ := New.openC hq
  have hh0 := hh0.frame fun a ha => gr.lt (by have := ha.2; omega)
  have hold : ∀ id, id < σ.next → τ2.get id = σ.get id := fun id h => (gr.lt (by omega)).trans (hold id h)
  have hm2 := gr.next
  generalize hmq1 : τ1.next = m1 at hm1 hm2 hh1
  simp only [hmq1] at hh0
  clear hq gr hmq1
  repeat' first | (apply Go.adm; exact rfl) | apply Go.qs | apply Qg.nil | ((first | apply Go.v2 | apply Go.v1); (first | exact leAdd | assumption); iterate 6 exact rfl) | ((first | apply Go.op | apply Go.sop | apply Qg.op); exact rfl; (first | exact aop_alloc | exact aop_new rfl rfl | exact aop_mksl rfl | exact aop_lenM rfl | exact rfl | exact aL rfl rfl rfl rfl rfl | exact aS rfl rfl rfl rfl rfl rfl rfl)) | ((first | apply Go.no | apply Go.sno | apply Qg.no); exact rfl) | (exfalso; omega) | (((first | apply Go.iQ | apply Go.gQ | apply Go.sQ | apply Qg.gQ); exact rfl; (first | exact .d | exact .e | exact .n | ((fail_if_success exact bqt); (fail_if_success exact bqf); exact .b))) <;> intro _)
  first | refine .call _ rfl rfl rfl (toTokS_ok w h4_1 h4_2 _) ?_ | refine .scall _ rfl rfl rfl (toTokS_ok w h4_1 h4_2 _) ?_
  intro r τ3 hq
  obtain ⟨x4, rfl, gr, hh4⟩ := New.openC hq
  have hh0 := hh0.frame fun a ha => gr.lt (by have := ha.2; omega)
  have hh1 := hh1.frame fun a ha => gr.lt (by have := ha.2; omega)
  have hold : ∀ id, id < σ.next → τ3.get id = σ.get id := fun id h => (gr.lt (by omega)).trans (hold id h)
  have hm3 := gr.next
  generalize hmq2 : τ2.next = m2 at hm2 hm3 hh4
  simp only [hmq2] at hh1
  clear hq gr hmq2
  repeat' first | (apply Go.adm; exact rfl) | apply Go.qs | apply Qg.nil | ((first | apply Go.v2 | apply Go.v1); (first | exact leAdd | assumption); iterate 6 exact rfl) | ((first | apply Go.op | apply Go.sop | apply Qg.op); exact rfl; (first | exact aop_alloc | exact aop_new rfl rfl | exact aop_mksl rfl | exact aop_lenM rfl | exact rfl | exact aL rfl rfl rfl rfl rfl | exact aS rfl rfl rfl rfl rfl rfl rfl)) | ((first | apply Go.no | apply Go.sno | apply Qg.no); exact rfl) | (exfalso; omega) | (((first | apply Go.iQ | apply Go.gQ | apply Go.sQ | apply Qg.gQ); exact rfl; (first | exact .d | exact .e | exact .n | ((fail_if_success exact bqt); (fail_if_success exact bqf); exact .b))) <;> intro _)
  first | refine .call _ rfl rfl rfl (Lend.new (.own (HasV.c hh0).lend (.own (HasV.c hh1).lend (.same (.same (.own (HasV.c hh4).lend .nil))))) himpl) ?_ | refine .scall _ rfl rfl rfl (Lend.new (.own (HasV.c hh0).lend (.own (HasV.c hh1).lend (.same (.same (.own (HasV.c hh4).lend .nil))))) himpl) ?_
  intro r τr hq
  obtain ⟨g, rfl, gr, hhr⟩ := new2_open (.bool _) hq
  have hh0 := hh0.frame fun a ha => gr.lt (by have := ha.2; omega)
  have hh1 := hh1.frame fun a ha => gr.lt (by have := ha.2; omega)
  have hh4 := hh4.frame fun a ha => gr.lt (by have := ha.2; omega)
  have hold : ∀ id, id < σ.next → τr.get id = σ.get id := fun id h => (gr.lt (by omega)).trans (hold id h)
  have hmr := gr.next
  generalize hmq : τ3.next = m3 at hm3 hmr hhr
  simp only [hmq] at hh4
  clear hq gr hmq
  repeat' first | (apply Go.adm; exact rfl) | apply Go.qs | apply Qg.nil | ((first | apply Go.v2 | apply Go.v1); (first | exact leAdd | assumption); iterate 6 exact rfl) | ((first | apply Go.op | apply Go.sop | apply Qg.op); exact rfl; (first | exact aop_alloc | exact aop_new rfl rfl | exact aop_mksl rfl | exact aop_lenM rfl | exact rfl | exact aL rfl rfl rfl rfl rfl | exact aS rfl rfl rfl rfl rfl rfl rfl)) | ((first | apply Go.no | apply Go.sno | apply Qg.no); exact rfl) | (exfalso; omega) | (((first | apply Go.iQ | apply Go.gQ | apply Go.sQ | apply Qg.gQ); exact rfl; (first | exact .d | exact .e | exact .n | ((fail_if_success exact bqt); (fail_if_success exact bqf); exact .b))) <;> intro _)
  first | refine Go.lcall rfl rfl rfl (eqLineS_ok ws ws w1 w2) (.bool _) (.own (HasV.c hhr).lend (.same .nil)) ?_ | refine Go.slcall rfl rfl rfl (eqLineS_ok ws ws w1 w2) (.bool _) (.own (HasV.c hhr).lend (.same .nil)) ?_
  rw [beq_self_eq_true]
  repeat' first | (apply Go.adm; exact rfl) | apply Go.qs | apply Qg.nil | ((first | apply Go.v2 | apply Go.v1); (first | exact leAdd | assumption); iterate 6 exact rfl) | ((first | apply Go.op | apply Go.sop | apply Qg.op); exact rfl; (first | exact aop_alloc | exact aop_new rfl rfl | exact aop_mksl rfl | exact aop_lenM rfl | exact aop_neB rfl rfl | exact rfl | exact aL rfl rfl rfl rfl rfl | exact aS rfl rfl rfl rfl rfl rfl rfl)) | ((first | apply Go.no | apply Go.sno | apply Qg.no); exact rfl) | ((first | apply Go.pcall | apply Go.spcall | apply Qg.pcall); (iterate 3 exact rfl); exact t0) | (exfalso; omega) | (((first | apply Go.iQ | apply Go.gQ | apply Go.sQ | apply Qg.gQ); exact rfl; (first | exact .d | exact .e | exact .n | ((fail_if_success exact bqt); (fail_if_success exact bqf); exact .b))) <;> intro _)
  first | refine Go.lcall rfl rfl rfl (eqTableS_ok s s h0_1 h0_2) (.bool _) (.own (HasV.c hh0).lend (.same .nil)) ?_ | refine Go.slcall rfl rfl rfl (eqTableS_ok s s h0_1 h0_2) (.bool _) (.own (HasV.c hh0).lend (.same .nil)) ?_
  rw [beq_self_eq_true]
  repeat' first | (apply Go.adm; exact rfl) | apply Go.qs | apply Qg.nil | ((first | apply Go.v2 | apply Go.v1); (first | exact leAdd | assumption); iterate 6 exact rfl) | ((first | apply Go.op | apply Go.sop | apply Qg.op); exact rfl; (first | exact aop_alloc | exact aop_new rfl rfl | exact aop_mksl rfl | exact aop_lenM rfl | exact aop_neB rfl rfl | exact rfl | exact aL rfl rfl rfl rfl rfl | exact aS rfl rfl rfl rfl rfl rfl rfl)) | ((first | apply Go.no | apply Go.sno | apply Qg.no); exact rfl) | ((first | apply Go.pcall | apply Go.spcall | apply Qg.pcall); (iterate 3 exact rfl); exact t1) | (exfalso; omega) | (((first | apply Go.iQ | apply Go.gQ | apply Go.sQ | apply Qg.gQ); exact rfl; (first | exact .d | exact .e | exact .n | ((fail_if_success exact bqt); (fail_if_success exact bqf); exact .b))) <;> intro _)
  first | refine Go.lcall rfl rfl rfl (eqDataS_ok db db h1_1 h1_2) (.bool _) (.own (HasV.c hh1).lend (.same .nil)) ?_ | refine Go.slcall rfl rfl rfl (eqDataS_ok db db h1_1 h1_2) (.bool _) (.own (HasV.c hh1).lend (.same .nil)) ?_
  rw [beq_self_eq_true]
  repeat' first | (apply Go.adm; exact rfl) | apply Go.qs | apply Qg.nil | ((first | apply Go.v2 | apply Go.v1); (first | exact leAdd | assumption); iterate 6 exact rfl) | ((first | apply Go.op | apply Go.sop | apply Qg.op); exact rfl; (first | exact aop_alloc | exact aop_new rfl rfl | exact aop_mksl rfl | exact aop_lenM rfl | exact aop_neB rfl rfl | exact rfl | exact aL rfl rfl rfl rfl rfl | exact aS rfl rfl rfl rfl rfl rfl rfl)) | ((first | apply Go.no | apply Go.sno | apply Qg.no); exact rfl) | ((first | apply Go.pcall | apply Go.spcall | apply Qg.pcall); (iterate 3 exact rfl); exact t4) | (exfalso; omega) | (((first | apply Go.iQ | apply Go.gQ | apply Go.sQ | apply Qg.gQ); exact rfl; (first | exact .d | exact .e | exact .n | ((fail_if_success exact bqt); (fail_if_success exact bqf); exact .b))) <;> intro _)
  first | refine Go.lcall rfl rfl rfl (eqTokS_ok w w h4_1 h4_2) (.bool _) (.own (HasV.c hh4).lend (.same .nil)) ?_ | refine Go.slcall rfl rfl rfl (eqTokS_ok w w h4_1 h4_2) (.bool _) (.own (HasV.c hh4).lend (.same .nil)) ?_
  rw [beq_self_eq_true]
  repeat' first | (apply Go.adm; exact rfl) | apply Go.qs | apply Qg.nil | ((first | apply Go.v2 | apply Go.v1); (first | exact leAdd | assumption); iterate 6 exact rfl) | ((first | apply Go.op | apply Go.sop | apply Qg.op); exact rfl; (first | exact aop_alloc | exact aop_new rfl rfl | exact aop_mksl rfl | exact aop_lenM rfl | exact rfl | exact aL rfl rfl rfl rfl rfl | exact aS rfl rfl rfl rfl rfl rfl rfl)) | ((first | apply Go.no | apply Go.sno | apply Qg.no); exact rfl) | (exfalso; omega) | (((first | apply Go.iQ | apply Go.gQ | apply Go.sQ | apply Qg.gQ); exact rfl; (first | exact .d | exact .e | exact .n | ((fail_if_success exact bqt); (fail_if_success exact bqf); exact .b))) <;> intro _)
  refine .call _ rfl rfl rfl ((markTableS_ok s 1 h0_1 h0_2 (by omega) (by omega)).at_ _ _ _ hh0) ?_
  rintro r τm0 ⟨rfl, hnx, hfr, -⟩
  have hh1 := hh1.frame (fun a ha => hfr a fun h => by have := ha.1; have := h.2; omega)
  have hh4 := hh4.frame (fun a ha => hfr a fun h => by have := ha.1; have := h.2; omega)
  have hhr := hhr.frame (fun a ha => hfr a fun h => by have := ha.1; have := h.2; omega)
  have hold : ∀ id, id < σ.next → τm0.get id = σ.get id := fun id h => (hfr id fun h' => by have := h'.1; omega).trans (hold id h)
  obtain ⟨k1, hk1⟩ : ∃ z, 1 + cntL cntTable s = z := ⟨_, rfl⟩
  rw [hk1]
  have hkb1 : 1 ≤ k1 ∧ k1 ≤ 8388616 + 8 * 1 - 8 * l0 := by omega
  clear hfr hh0 hk1 hnx
  repeat' first | (apply Go.adm; exact rfl) | apply Go.qs | apply Qg.nil | ((first | apply Go.v2 | apply Go.v1); (first | exact leAdd | assumption); iterate 6 exact rfl) | ((first | apply Go.op | apply Go.sop | apply Qg.op); exact rfl; (first | exact aop_alloc | exact aop_new rfl rfl | exact aop_mksl rfl | exact aop_lenM rfl | exact rfl | exact aL rfl rfl rfl rfl rfl | exact aS rfl rfl rfl rfl rfl rfl rfl)) | ((first | apply Go.no | apply Go.sno | apply Qg.no); exact rfl) | (exfalso; omega) | (((first | apply Go.iQ | apply Go.gQ | apply Go.sQ | apply Qg.gQ); exact rfl; (first | exact .d | exact .e | exact .n | ((fail_if_success exact bqt); (fail_if_success exact bqf); exact .b))) <;> intro _)
  refine .call _ rfl rfl rfl ((markDataS_ok db k1 h1_1 h1_2 (by omega) (by omega)).at_ _ _ _ hh1) ?_
  rintro r τm1 ⟨rfl, hnx, hfr, -⟩
  have hh4 := hh4.frame (fun a ha => hfr a fun h => by have := ha.1; have := h.2; omega)
  have hhr := hhr.frame (fun a ha => hfr a fun h => by have := ha.1; have := h.2; omega)
  have hold : ∀ id, id < σ.next → τm1.get id = σ.get id := fun id h => (hfr id fun h' => by have := h'.1; omega).trans (hold id h)
  obtain ⟨k2, hk2⟩ : ∃ z, k1 + cntL cntData db = z := ⟨_, rfl⟩
  rw [hk2]
  have hkb2 : 1 ≤ k2 ∧ k2 ≤ 8388616 + 8 * 2 - 8 * l1 := by omega
  clear hfr hh1 hk2 hnx
  repeat' first | (apply Go.adm; exact rfl) | apply Go.qs | apply Qg.nil | ((first | apply Go.v2 | apply Go.v1); (first | exact leAdd | assumption); iterate 6 exact rfl) | ((first | apply Go.op | apply Go.sop | apply Qg.op); exact rfl; (first | exact aop_alloc | exact aop_new rfl rfl | exact aop_mksl rfl | exact aop_lenM rfl | exact rfl | exact aL rfl rfl rfl rfl rfl | exact aS rfl rfl rfl rfl rfl rfl rfl)) | ((first | apply Go.no | apply Go.sno | apply Qg.no); exact rfl) | (exfalso; omega) | (((first | apply Go.iQ | apply Go.gQ | apply Go.sQ | apply Qg.gQ); exact rfl; (first | exact .d | exact .e | exact .n | ((fail_if_success exact bqt); (fail_if_success exact bqf); exact .b))) <;> intro _)
  refine .call _ rfl rfl rfl ((markTokS_ok w k2 h4_1 h4_2 (by omega) (by omega)).at_ _ _ _ hh4) ?_
  rintro r τm2 ⟨rfl, hnx, hfr, -⟩
  have hhr := hhr.frame (fun a ha => hfr a fun h => by have := ha.1; have := h.2; omega)
  have hold : ∀ id, id < σ.next → τm2.get id = σ.get id := fun id h => (hfr id fun h' => by have := h'.1; omega).trans (hold id h)
  obtain ⟨k3, hk3⟩ : ∃ z, k2 + cntL cntTok w = z := ⟨_, rfl⟩
  rw [hk3]
  have hkb3 : 1 ≤ k3 ∧ k3 ≤ 8388616 + 8 * 3 - 8 * l4 := by omega
  clear hfr hh4 hk3 hnx
  repeat' first | (apply Go.adm; exact rfl) | apply Go.qs | apply Qg.nil | ((first | apply Go.v2 | apply Go.v1); (first | exact leAdd | assumption); iterate 6 exact rfl) | ((first | apply Go.op | apply Go.sop | apply Qg.op); exact rfl; (first | exact aop_alloc | exact aop_new rfl rfl | exact aop_mksl rfl | exact aop_lenM rfl | exact rfl | exact aL rfl rfl rfl rfl rfl | exact aS rfl rfl rfl rfl rfl rfl rfl)) | ((first | apply Go.no | apply Go.sno | apply Qg.no); exact rfl) | (exfalso; omega) | (((first | apply Go.iQ | apply Go.gQ | apply Go.sQ | apply Qg.gQ); exact rfl; (first | exact .d | exact .e | exact .n | ((fail_if_success exact bqt); (fail_if_success exact bqf); exact .b))) <;> intro _)
  first | refine Go.lcall rfl rfl rfl (eqLineS_ok ws ws w1 w2) (.bool _) (.own (HasV.c hhr).lend (.same .nil)) ?_ | refine Go.slcall rfl rfl rfl (eqLineS_ok ws ws w1 w2) (.bool _) (.own (HasV.c hhr).lend (.same .nil)) ?_
  rw [beq_self_eq_true]
  repeat' first | (apply Go.adm; exact rfl) | apply Go.qs | apply Qg.nil | ((first | apply Go.v2 | apply Go.v1); (first | exact leAdd | assumption); iterate 6 exact rfl) | ((first | apply Go.op | apply Go.sop | apply Qg.op); exact rfl; (first | exact aop_alloc | exact aop_new rfl rfl | exact aop_mksl rfl | exact aop_lenM rfl | exact aop_neB rfl rfl | exact rfl | exact aL rfl rfl rfl rfl rfl | exact aS rfl rfl rfl rfl rfl rfl rfl)) | ((first | apply Go.no | apply Go.sno | apply Qg.no); exact rfl) | (exfalso; omega) | (((first | apply Go.iQ | apply Go.gQ | apply Go.sQ | apply Qg.gQ); exact rfl; (first | exact .d | exact .e | exact .n | ((fail_if_success exact bqt); (fail_if_success exact bqf); exact .b))) <;> intro _)
  refine .call _ rfl rfl rfl ((markLineS_ok ws 1 w1 w2 (by omega) (by omega)).at_ _ _ _ hhr) ?_
  rintro r τw ⟨rfl, hnx, hfr, hhr⟩
  have hold : ∀ id, id < σ.next → τw.get id = σ.get id := fun id h => (hfr id fun h' => by have := h'.1; omega).trans (hold id h)
  have hhc := heldLineS_at ws w1 w2 w3
  generalize markL markLine cntLine ws 1 = ms at hhr hhc
  have w4 : 0 ≤ 1 + cntL cntLine ws := by have := heldLineS_nn ws; omega
  generalize 1 + cntL cntLine ws = k9 at hhc w4 ⊢
  clear hfr hnx
  repeat' first | (apply Go.adm; exact rfl) | apply Go.qs | apply Qg.nil | ((first | apply Go.v2 | apply Go.v1); (first | exact leAdd | assumption); iterate 6 exact rfl) | ((first | apply Go.op | apply Go.sop | apply Qg.op); exact rfl; (first | exact aop_alloc | exact aop_new rfl rfl | exact aop_mksl rfl | exact aop_lenM rfl | exact rfl | exact aL rfl rfl rfl rfl rfl | exact aS rfl rfl rfl rfl rfl rfl rfl)) | ((first | apply Go.no | apply Go.sno | apply Qg.no); exact rfl) | (exfalso; omega) | (((first | apply Go.iQ | apply Go.gQ | apply Go.sQ | apply Qg.gQ); exact rfl; (first | exact .d | exact .e | exact .n | ((fail_if_success exact bqt); (fail_if_success exact bqf); exact .b))) <;> intro _)
  first | refine Go.lcall rfl rfl rfl (hhc) (.int _ _) (.own (HasV.c hhr).lend (.same .nil)) ?_ | refine Go.slcall rfl rfl rfl (hhc) (.int _ _) (.own (HasV.c hhr).lend (.same .nil)) ?_
  repeat' first | (apply Go.adm; exact rfl) | apply Go.qs | apply Qg.nil | ((first | apply Go.v2 | apply Go.v1); (first | exact leAdd | assumption); iterate 6 exact rfl) | ((first | apply Go.op | apply Go.sop | apply Qg.op); exact rfl; (first | exact aop_alloc | exact aop_new rfl rfl | exact aop_mksl rfl | exact aop_lenM rfl | exact rfl | exact aL rfl rfl rfl rfl rfl | exact aS rfl rfl rfl rfl rfl rfl rfl)) | ((first | apply Go.no | apply Go.sno | apply Qg.no); exact rfl) | ((first | apply Go.pcall | apply Go.spcall | apply Qg.pcall); (iterate 3 exact rfl); (first | exact t0 | exact t1 | exact t4)) | (exfalso; omega) | (((first | apply Go.iQ | apply Go.gQ | apply Go.sQ | apply Qg.gQ); exact rfl; (first | exact .d | exact .e | exact .n | ((fail_if_success exact bqt); (fail_if_success exact bqf); exact .b))) <;> intro _)
  first | refine .spcall rfl rfl rfl (NewV.pure himpl) ?_ | refine .pcall rfl rfl rfl (NewV.pure himpl) ?_
  have hee := eqLineS_ok ws ws w1 w2
  rw [beq_self_eq_true] at hee
  repeat' first | (apply Go.adm; exact rfl) | apply Go.qs | apply Qg.nil | ((first | apply Go.v2 | apply Go.v1); (first | exact leAdd | assumption); iterate 6 exact rfl) | ((first | apply Go.op | apply Go.sop | apply Qg.op); exact rfl; (first | exact aop_alloc | exact aop_new rfl rfl | exact aop_mksl rfl | exact aop_lenM rfl | exact aop_neB rfl rfl | exact rfl | exact aL rfl rfl rfl rfl rfl | exact aS rfl rfl rfl rfl rfl rfl rfl)) | ((first | apply Go.no | apply Go.sno | apply Qg.no); exact rfl) | ((first | apply Go.pcall | apply Go.spcall | apply Qg.pcall); (iterate 3 exact rfl); exact hee) | (exfalso; omega) | (((first | apply Go.iQ | apply Go.gQ | apply Go.sQ | apply Qg.gQ); exact rfl; (first | exact .d | exact .e | exact .n | ((fail_if_success exact bqt); (fail_if_success exact bqf); exact .b))) <;> intro _)
  first | refine Go.lcall rfl rfl rfl (hhc) (.int _ _) (.own (HasV.c hhr).lend (.same .nil)) ?_ | refine Go.slcall rfl rfl rfl (hhc) (.int _ _) (.own (HasV.c hhr).lend (.same .nil)) ?_
  repeat' first | (apply Go.adm; exact rfl) | apply Go.qs | apply Qg.nil | ((first | apply Go.v2 | apply Go.v1); (first | exact leAdd | assumption); iterate 6 exact rfl) | ((first | apply Go.op | apply Go.sop | apply Qg.op); exact rfl; (first | exact aop_alloc | exact aop_new rfl rfl | exact aop_mksl rfl | exact aop_lenM rfl | exact rfl | exact aL rfl rfl rfl rfl rfl | exact aS rfl rfl rfl rfl rfl rfl rfl)) | ((first | apply Go.no | apply Go.sno | apply Qg.no); exact rfl) | (exfalso; omega) | (((first | apply Go.iQ | apply Go.gQ | apply Go.sQ | apply Qg.gQ); exact rfl; (first | exact .d | exact .e | exact .n | ((fail_if_success exact bqt); (fail_if_success exact bqf); exact .b))) <;> intro _)
  exact .ret rfl ⟨hold, solid_end⟩
end Go.Proofs.YtcfpdongfdhgjaaGreat.Am

/- The abstract machine, part 27: a row's arguments as abstract values, and what a contract says of a call. -/
set_option linter.unusedVariables false
set_option linter.unusedSimpArgs false
namespace Go.Proofs.YtcfpdongfdhgjaaGreat.Am
open Go.RowKit Go.ChangeShapes Go.WideShapes

/-- A world of which nothing is ours. -/
def Cx.at (W : World) : Cx := ⟨fun _ _ => ⟨0, 0, 0, false⟩, fun _ _ => False, fun _ => False, W⟩
theorem Rl.at (W : World) : Rl (Cx.at W) (Store.none 0) :=
  ⟨fun _ _ h => h.elim, fun id v es hg => by simp [Store.none] at hg, fun b => ⟨fun h => h.elim, fun ⟨id, v, es, hg, _⟩ => by simp [Store.none] at hg⟩, fun id v es id' v' es' hg => by simp [Store.none] at hg, fun id v es hg => by simp [Store.none] at hg⟩
theorem rpv_bool {D : Cx} {b : Bool} {v : Value} (h : RpV D (.c (.bool b)) v) : v = .bool b := by
  cases h with
  | c h => cases h; rfl
theorem Pure.calls {P : Program} {f : Nat} {args : List AV} {b : Bool} (h : Pure P f args (.c (.bool b))) {W : World} {cargs : Array Value} (ha : ∃ hl : cargs.size = args.length, ∀ i (hi : i < args.length), RpV (Cx.at W) args[i] (cargs[i]'(by omega))) :
    Calls P f cargs W fun e w' => e = .returned (.bool b) ∧ Below W.heap.size W w' := by
  refine ((h.at_ (Store.none 0)).2 (Cx.at W) cargs (Rl.at W) ha).mono ?_
  rintro e w' ⟨D, σ', r, v, rfl, rfl, ⟨rfl, rfl⟩, hR, hv, hle⟩
  exact ⟨by rw [rpv_bool hv], ⟨hle.os, hle.tape, hle.output, hle.size, fun k hk => hle.keep k hk (fun h => h.elim)⟩⟩

section
variable {H : Type} {enc : TypeId × Value → H} {P : Program} {W : World}
/-- What the rows say of a value of a type, as abstract cells. -/
structure Opens (enc : TypeId × Value → H) (P : Program) (W : World) (t : TypeId) {α : Type} (e : α → List Ce) (good : α → Prop) : Prop where
  op : ∀ fuel cs x, DataW.trod enc P W 0 (fun _ => true) true fuel t cs = some x → (∀ n ∈ x.1.weights P t, n ≤ reachBytes) →
    ∃ a, good a ∧ ∃ hl : cs.length = (e a).length, ∀ i (hi : i < (e a).length), Rp (Cx.at W) (e a)[i] (cs[i]'(by omega))
theorem Opens.one {t : TypeId} {α : Type} {e : α → List Ce} {good : α → Prop} (h : ∀ fuel cs x, DataW.trod enc P W 0 (fun _ => true) true fuel t cs = some x → (∀ n ∈ x.1.weights P t, n ≤ reachBytes) → ∃ a y v, good a ∧ e a = [y] ∧ cs = [v] ∧ Rp (Cx.at W) y v) : Opens enc P W t e good := by
  constructor
  intro fuel cs x h1 h2
  obtain ⟨a, y, v, hg, he, rfl, hr⟩ := h fuel cs x h1 h2
  refine ⟨a, hg, by simp [he], fun i hi => ?_⟩
  have hi' : i = 0 := by rw [he] at hi; simpa using hi
  subst hi'
  simp only [he, List.getElem_cons_zero]
  exact hr
theorem Opens.iso {t : TypeId} {α β : Type} {e : β → List Ce} {good : β → Prop} (h : Opens enc P W t e good) (g : β → α) {e' : α → List Ce} {good' : α → Prop} (he : ∀ b, e' (g b) = e b) (hg : ∀ b, good b → good' (g b)) : Opens enc P W t e' good' := by
  constructor
  intro fuel cs x h1 h2
  obtain ⟨a, h3, hl, h4⟩ := h.op fuel cs x h1 h2
  refine ⟨g a, hg a h3, by rw [he]; exact hl, fun i hi => ?_⟩
  simp only [he]
  exact h4 i (by rw [he] at hi; exact hi)
theorem Opens.int {t : TypeId} {k : IntKind} (ht : P.underlying t = some (.int k)) : Opens enc P W t (fun n : Int => [.int k n]) (fun n => (Lit.int k n).wf = true) := by
  refine Opens.one fun fuel cs x h1 _ => ?_
  obtain ⟨n, rfl, rfl, hw⟩ := DataW.trod_int ht h1
  exact ⟨n, _, _, hw, rfl, rfl, .int k n⟩
theorem Opens.bool {t : TypeId} (ht : P.underlying t = some .bool) : Opens enc P W t (fun b : Bool => [.bool b]) (fun _ => True) := by
  refine Opens.one fun fuel cs x h1 _ => ?_
  obtain ⟨n, rfl, rfl⟩ := DataW.trod_bool ht h1
  exact ⟨n, _, _, trivial, rfl, rfl, .bool n⟩
theorem Opens.str {t : TypeId} (ht : P.underlying t = some .string) : Opens enc P W t (fun s : List UInt8 => [.str s]) (fun s => s.length ≤ 140737488351232) := by
  refine Opens.one fun fuel cs x h1 h2 => ?_
  obtain ⟨s, rfl, rfl, hs⟩ := DataW.trod_string ht h1
  refine ⟨s.data.toList, _, _, ?_, rfl, rfl, .str _⟩
  have := h2 s.data.toList.length (by simp [DataW.weights])
  exact this
theorem list_choice {α : Type} {p : Nat → α → Prop} : ∀ n, (∀ i, i < n → ∃ a, p i a) → ∃ l : List α, l.length = n ∧ ∀ i (hi : i < l.length), p i l[i]
  | 0, _ => ⟨[], rfl, fun i hi => by simp at hi⟩
  | n + 1, h => by
    obtain ⟨l, h1, h2⟩ := list_choice n fun i hi => h i (by omega)
    obtain ⟨a, ha⟩ := h n (by omega)
    refine ⟨l ++ [a], by simp [h1], fun i hi => ?_⟩
    by_cases e : i < l.length
    · rw [List.getElem_append_left e]; exact h2 i e
    · have : i = l.length := by simp at hi; omega
      subst this
      have e1 : (l ++ [a])[l.length]'hi = a := by rw [List.getElem_append_right (Nat.le_refl _)]; simp
      rw [e1, h1]
      exact ha
theorem weightsAll_mem {e : TypeId} : ∀ {l : List (DataW H)} {d : DataW H} {n : Nat}, d ∈ l → n ∈ d.weights P e → n ∈ DataW.weightsAll P e l
  | y :: r, d, n, h, hn => by
    simp only [DataW.weightsAll, List.mem_append]
    rcases List.mem_cons.1 h with rfl | h
    · exact .inl hn
    · exact .inr (weightsAll_mem h hn)
theorem add_add {a : Addr} (h : a.spot = none) (m j : Nat) : (a.add m).add j = ⟨a.block, a.off + (m + j), none⟩ := by
  obtain ⟨b, o, s⟩ := a
  subst h
  simp only [Addr.add]
  split <;> split <;> simp_all [Nat.add_assoc]
theorem spot_of_cell {w : World} {a : Addr} {v : Value} (h : w.cell? a = some v) : a.spot = none ∧ a.block < w.heap.size := by
  unfold World.cell? at h
  split at h
  · rename_i hb
    refine ⟨?_, ?_⟩
    · split at h
      · cases h
      · rename_i hs
        simpa using hs
    · exact (Array.getElem?_eq_some_iff.1 hb).1
  · cases h
theorem Opens.slice {t el : TypeId} {α : Type} {e : α → List Ce} {good : α → Prop} {s : Nat} (ht : P.underlying t = some (.slice el)) (h : Opens enc P W el e good) (hs : P.cellsOf el = s) (hs0 : 0 < s) (he : ∀ a, (e a).length = s) :
    Opens enc P W t (fun l : List α => [.fz (l.map e)]) (fun l => l.length * P.bytesOf el ≤ 140737488351232 ∧ ∀ a ∈ l, good a) := by
  refine Opens.one fun fuel cs x h1 h2 => ?_
  rcases DataW.trod_slice ht h1 with ⟨rfl, rfl⟩ | ⟨a, len, cap, elems, rest, n, _, rfl, rfl, hb, hl, hm, hlen, hel, hsp, hns⟩
  · exact ⟨[], _, _, ⟨by simp, by simp⟩, rfl, rfl, .fz0 _ _⟩
  rw [hs] at hel
  have each : ∀ i, i < len → ∃ y, good y ∧ ∀ j (hj : j < (e y).length), ∃ v, W.cell? ((a.add (i * s)).add j) = some v ∧ Rp (Cx.at W) (e y)[j] v := by
    intro i hi
    have hi' : i < elems.length := by omega
    have h3 := hel i hi
    rw [List.getElem?_eq_getElem hi', Option.bind_eq_some_iff] at h3
    obtain ⟨cs, hc, hd⟩ := h3
    obtain ⟨y, hy, hl, hr⟩ := h.op n cs _ hd (fun m hm => h2 m (by
      simp only [DataW.weights, ht]
      refine List.mem_cons_of_mem _ (List.mem_append_left _ (weightsAll_mem (d := elems[i].1) (List.mem_map_of_mem (List.getElem_mem hi')) hm))))
    obtain ⟨_, hcl, hcc⟩ := World.cells?_some hc
    refine ⟨y, hy, fun j hj => ⟨cs[j]'(by omega), ?_, hr j hj⟩⟩
    rw [hcc j (by rw [← he y]; exact hj), List.getElem?_eq_getElem]
  obtain ⟨l, hll, hl2⟩ := list_choice len each
  refine ⟨l, _, _, ⟨?_, fun y hy => ?_⟩, rfl, rfl, ?_⟩
  · have := h2 _ (by
      simp only [DataW.weights, ht]
      exact List.mem_cons_self)
    simp only [List.length_map] at this
    have h5 : l.length * P.bytesOf el ≤ (elems.length + rest.length) * P.bytesOf el := Nat.mul_le_mul_right _ (by omega)
    exact Nat.le_trans h5 this
  · obtain ⟨i, hi, rfl⟩ := List.mem_iff_getElem.1 hy
    exact (hl2 i hi).1
  · rcases Nat.eq_zero_or_pos len with h0 | h0
    · have hl0 : l = [] := List.eq_nil_of_length_eq_zero (by omega)
      subst hl0
      subst h0
      exact .fz0 _ _
    · obtain ⟨v0, hv0, _⟩ := (hl2 0 (by omega)).2 0 (by rw [he]; exact hs0)
      have hsp0 : a.spot = none ∧ a.block < W.heap.size := by
        have := spot_of_cell hv0
        simpa [Addr.add] using this
      obtain ⟨b, o, sp⟩ := a
      obtain ⟨rfl, hbl⟩ := hsp0
      have hlm : (l.map e).length = len := by simp [hll]
      have key := Rp.fz (C := Cx.at W) (l.map e) b o cap s (fun i j => (W.cell? ⟨b, o + (i * s + j), none⟩).getD .nilFunc) hbl (fun h => h.elim) (by omega) (fun i hi => by simp [he]) (fun i j hi hj => by
        rw [hlm] at hi
        obtain ⟨v, hv, _⟩ := (hl2 i (by omega)).2 j (by rw [he]; exact hj)
        rw [add_add rfl] at hv
        show W.cell? _ = _
        rw [hv]
        rfl) (fun i j hi hj => by
        rw [hlm] at hi
        have hj' : j < (e (l[i]'(by omega))).length := by simpa using hj
        obtain ⟨v, hv, hr⟩ := (hl2 i (by omega)).2 j hj'
        rw [add_add rfl] at hv
        simp only [hv, Option.getD_some, List.getElem_map]
        exact hr)
      rw [hlm] at key
      exact key

/-- .. of the fields of a struct, from one on. -/
structure OpensF (enc : TypeId × Value → H) (P : Program) (W : World) (fs : Array Field) (k off : Nat) {α : Type} (e : α → List Ce) (good : α → Prop) : Prop where
  op : ∀ (cs : List Value) (n : Nat) (xs : List (DataW H × List MemPlace)), xs.length = fs.size → (∀ (i : Nat) (f : Field), fs[i]? = some f → DataW.trod enc P W 0 (fun _ => true) true n f.type ((cs.drop f.offset).take (P.cellsOf f.type)) = xs[i]?) →
    (∀ (i : Nat) (f : Field) (x : DataW H × List MemPlace), fs[i]? = some f → xs[i]? = some x → ∀ m ∈ x.1.weights P f.type, m ≤ reachBytes) →
    ∃ a, good a ∧ ∀ i (hi : i < (e a).length), ∃ v, cs[off + i]? = some v ∧ Rp (Cx.at W) (e a)[i] v
theorem OpensF.nil {fs : Array Field} {k off : Nat} : OpensF enc P W fs k off (fun _ : Unit => []) (fun _ => True) :=
  ⟨fun cs n xs _ _ _ => ⟨(), trivial, fun i hi => by simp at hi⟩⟩
theorem OpensF.cons {fs : Array Field} {k off s : Nat} {f : Field} {α β : Type} {e : α → List Ce} {good : α → Prop} {e' : β → List Ce} {good' : β → Prop} (hf : fs[k]? = some f) (h : Opens enc P W f.type e good) (ho : f.offset = off) (he : ∀ a, (e a).length = s) (hr : OpensF enc P W fs (k + 1) (off + s) e' good') :
    OpensF enc P W fs k off (fun p : α × β => e p.1 ++ e' p.2) (fun p => good p.1 ∧ good' p.2) := by
  constructor
  intro cs n xs hxl hx hw
  obtain ⟨b, hb, hb2⟩ := hr.op cs n xs hxl hx hw
  have hk : k < xs.length := by rw [hxl]; exact (Array.getElem?_eq_some_iff.1 hf).1
  have h1 := hx k f hf
  rw [List.getElem?_eq_getElem hk] at h1
  obtain ⟨a, ha, hl, ha2⟩ := h.op n _ _ h1 (hw k f _ hf (List.getElem?_eq_getElem hk))
  refine ⟨(a, b), ⟨ha, hb⟩, fun i hi => ?_⟩
  by_cases c : i < (e a).length
  · refine ⟨_, ?_, by
      simp only [List.getElem_append_left c]
      exact ha2 i c⟩
    have h2 : ((cs.drop f.offset).take (P.cellsOf f.type))[i]? = some (((cs.drop f.offset).take (P.cellsOf f.type))[i]'(by omega)) := List.getElem?_eq_getElem _
    rw [List.getElem?_take] at h2
    split at h2
    · rw [List.getElem?_drop] at h2
      rw [← h2]
      congr 1
      omega
    · cases h2
  · have hi' : i - (e a).length < (e' b).length := by simp only [List.length_append] at hi; omega
    obtain ⟨v, h2, h3⟩ := hb2 (i - (e a).length) hi'
    refine ⟨v, ?_, ?_⟩
    · rw [← h2, he]
      congr 1
      have := he a
      omega
    · simp only [List.getElem_append_right (Nat.le_of_not_lt c)]
      exact h3
theorem Opens.struct {t : TypeId} {fs : Array Field} {α : Type} {e : α → List Ce} {good : α → Prop} {s : Nat} (ht : P.underlying t = some (.struct fs)) (h : OpensF enc P W fs 0 0 e good) (hs : P.cellsOf t = s) (he : ∀ a, (e a).length = s) : Opens enc P W t e good := by
  constructor
  intro fuel cs x h1 h2
  obtain ⟨xs, n, rfl, rfl, hl, hxl, hx⟩ := DataW.trod_struct ht h1
  obtain ⟨a, ha, ha2⟩ := h.op cs n xs hxl hx (fun i f y hf hy m hm => h2 m (by
    simp only [DataW.weights, ht]
    refine DataW.weights_mem_each (j := i) (t := f.type) (d := y.1) ?_ ?_ m hm
    · rw [List.getElem?_map, Array.getElem?_toList, hf]; rfl
    · rw [List.getElem?_map, hy]; rfl))
  refine ⟨a, ha, by rw [he, hl, hs], fun i hi => ?_⟩
  obtain ⟨v, h3, h4⟩ := ha2 i hi
  rw [Nat.zero_add] at h3
  obtain ⟨_, rfl⟩ := List.getElem?_eq_some_iff.1 h3
  exact h4
/-- An argument of a row. -/
theorem Opens.agg {t : TypeId} {fs : Array Field} {α : Type} {e : α → List Ce} {good : α → Prop} (h : Opens enc P W t e good) (ht : P.underlying t = some (.struct fs)) {r : Reach} {b0 : Nat} {v : Value} (hv : Value.okWide P W r b0 t v) {d : DataW H} {ps : List MemPlace} (hd : DataW.Trod enc P W 0 (fun _ => true) true t v d ps) (hw : ∀ n ∈ d.weights P t, n ≤ reachBytes) :
    ∃ a, good a ∧ RpV (Cx.at W) (.agg (e a)) v := by
  simp only [Value.okWide, ht] at hv
  obtain ⟨cs, rfl, _, _⟩ := hv
  obtain ⟨fuel, hf⟩ := hd
  obtain ⟨a, ha, hl, hr⟩ := h.op fuel _ _ hf hw
  refine ⟨a, ha, .agg (by simpa [Value.cells] using hl) fun i hi => ?_⟩
  have := hr i hi
  simpa [Value.cells] using this
theorem Opens.c {t : TypeId} {α : Type} {e : α → Ce} {good : α → Prop} (h : Opens enc P W t (fun a => [e a]) good) {v : Value} (hv : v.cells = #[v]) {d : DataW H} {ps : List MemPlace} (hd : DataW.Trod enc P W 0 (fun _ => true) true t v d ps) (hw : ∀ n ∈ d.weights P t, n ≤ reachBytes) :
    ∃ a, good a ∧ RpV (Cx.at W) (.c (e a)) v := by
  obtain ⟨fuel, hf⟩ := hd
  rw [hv] at hf
  obtain ⟨a, ha, hl, hr⟩ := h.op fuel _ _ hf hw
  exact ⟨a, ha, .c (hr 0 (by simp))⟩
theorem cells_slice {t el : TypeId} (ht : P.underlying t = some (.slice el)) {r : Reach} {b0 : Nat} {v : Value} (hv : Value.okWide P W r b0 t v) : v.cells = #[v] := by
  obtain ⟨a, len, cap, rfl⟩ := okWide_slice ht hv
  rfl
theorem cells_int {t : TypeId} {k : IntKind} (ht : P.underlying t = some (.int k)) {r : Reach} {b0 : Nat} {v : Value} (hv : Value.okWide P W r b0 t v) : v.cells = #[v] := by
  obtain ⟨n, rfl⟩ := okWide_int ht hv
  rfl
end
end Go.Proofs.YtcfpdongfdhgjaaGreat.Am

/- What the rows say of values and entries. -/
set_option linter.unusedVariables false
set_option linter.unusedSimpArgs false
namespace Go.Proofs.YtcfpdongfdhgjaaGreat.Am
open Go.RowKit Go.ChangeShapes Go.WideShapes

section
variable {H : Type} {enc : TypeId × Value → H} {W : World}
theorem openV : Opens enc Tryz.prog W 138 encV LenV := 
  (Opens.struct (s := 3) Tryz.underlying138 (.cons (s := 1) rfl (.int Tryz.underlying2) rfl (fun _ => rfl) (.cons (s := 1) rfl (.int Tryz.underlying2) rfl (fun _ => rfl) (.cons (s := 1) rfl (.str Tryz.underlying9) rfl (fun _ => rfl) .nil))) (by kernel_rfl) (fun _ => rfl)).iso (fun p => Val.mk p.1 p.2.1 p.2.2.1) (fun _ => rfl) fun p h => Nat.le_trans h.2.2.1 (by decide)
theorem openVs : Opens enc Tryz.prog W 55 (fun l : List Val => [.fz (l.map encV)]) (fun l => l.length ≤ 140737488351232 ∧ ∀ v ∈ l, LenV v) :=
  (Opens.slice (s := 3) Tryz.underlying55 openV (by kernel_rfl) (by decide) (fun _ => rfl)).iso id (fun _ => rfl) fun l h => ⟨Nat.le_trans (Nat.le_mul_of_pos_right _ (of_decide_eq_true (by kernel_rfl))) h.1, h.2⟩
end
end Go.Proofs.YtcfpdongfdhgjaaGreat.Am

/- The laws' helpers on types, printed by a program: Tok, Check, Unique, Fk, Col, Table, Term, Select, Trigger, Set, Row, Stmt. -/
set_option linter.unusedVariables false
set_option linter.unusedSimpArgs false
namespace Go.Proofs.YtcfpdongfdhgjaaGreat.Am
open Go.RowKit Go.ChangeShapes Go.WideShapes
section
variable {H : Type} {enc : TypeId × Value → H} {W : World}
theorem openIs : Opens enc Tryz.prog W 41 (fun l : List Int => [.fz (l.map encI)]) (fun l => l.length ≤ 140737488351232) :=
  (Opens.slice (s := 1) Tryz.underlying41 (.int Tryz.underlying2) (by kernel_rfl) (by decide) (fun _ => rfl)).iso id (fun _ => rfl) fun l h => Nat.le_trans (Nat.le_mul_of_pos_right _ (of_decide_eq_true (by kernel_rfl))) h.1
theorem openTok : Opens enc Tryz.prog W 140 encTok (bTok 1125899906842624) :=
  (Opens.struct (s := 5) Tryz.underlying140 (.cons (s := 1) rfl (.int Tryz.underlying2) rfl (fun _ => rfl) (.cons (s := 1) rfl (.int Tryz.underlying2) rfl (fun _ => rfl) (.cons (s := 3) rfl openV rfl (fun _ => rfl) .nil))) (by kernel_rfl) (fun _ => rfl)).iso (fun p => Tok.mk p.1 p.2.1 p.2.2.1) (fun _ => rfl) fun p h => h.2.2.1
theorem openToks : Opens enc Tryz.prog W 38 (fun l : List Tok => [.fz (l.map encTok)]) (fun l => l.length ≤ 140737488351232 ∧ ∀ v ∈ l, bTok 1125899906842624 v) :=
  (Opens.slice (s := 5) Tryz.underlying38 openTok (by kernel_rfl) (by decide) (fun _ => rfl)).iso id (fun _ => rfl) fun l h => ⟨Nat.le_trans (Nat.le_mul_of_pos_right _ (of_decide_eq_true (by kernel_rfl))) h.1, h.2⟩
theorem openChk : Opens enc Tryz.prog W 312 encChk (bChk 1125899906842624) :=
  (Opens.struct (s := 1) Tryz.underlying312 (.cons (s := 1) rfl openToks rfl (fun _ => rfl) .nil) (by kernel_rfl) (fun _ => rfl)).iso (fun p => Chk.mk p.1) (fun _ => rfl) fun p h => ⟨Nat.le_trans h.1.1 (by decide), h.1.2⟩
theorem openChks : Opens enc Tryz.prog W 110 (fun l : List Chk => [.fz (l.map encChk)]) (fun l => l.length ≤ 140737488351232 ∧ ∀ v ∈ l, bChk 1125899906842624 v) :=
  (Opens.slice (s := 1) Tryz.underlying110 openChk (by kernel_rfl) (by decide) (fun _ => rfl)).iso id (fun _ => rfl) fun l h => ⟨Nat.le_trans (Nat.le_mul_of_pos_right _ (of_decide_eq_true (by kernel_rfl))) h.1, h.2⟩
theorem openUniq : Opens enc Tryz.prog W 310 encUniq (bUniq 1125899906842624) :=
  (Opens.struct (s := 1) Tryz.underlying310 (.cons (s := 1) rfl openIs rfl (fun _ => rfl) .nil) (by kernel_rfl) (fun _ => rfl)).iso (fun p => Uniq.mk p.1) (fun _ => rfl) fun p h => Nat.le_trans h.1 (by decide)
theorem openUniqs : Opens enc Tryz.prog W 109 (fun l : List Uniq => [.fz (l.map encUniq)]) (fun l => l.length ≤ 140737488351232 ∧ ∀ v ∈ l, bUniq 1125899906842624 v) :=
  (Opens.slice (s := 1) Tryz.underlying109 openUniq (by kernel_rfl) (by decide) (fun _ => rfl)).iso id (fun _ => rfl) fun l h => ⟨Nat.le_trans (Nat.le_mul_of_pos_right _ (of_decide_eq_true (by kernel_rfl))) h.1, h.2⟩
theorem openFk : Opens enc Tryz.prog W 314 encFk (bFk 1125899906842624) :=
  (Opens.struct (s := 5) Tryz.underlying314 (.cons (s := 1) rfl openIs rfl (fun _ => rfl) (.cons (s := 1) rfl (.str Tryz.underlying9) rfl (fun _ => rfl) (.cons (s := 1) rfl (.int Tryz.underlying2) rfl (fun _ => rfl) (.cons (s := 1) rfl (.int Tryz.underlying2) rfl (fun _ => rfl) (.cons (s := 1) rfl (.bool Tryz.underlying4) rfl (fun _ => rfl) .nil))))) (by kernel_rfl) (fun _ => rfl)).iso (fun p => Fk.mk p.1 p.2.1 p.2.2.1 p.2.2.2.1 p.2.2.2.2.1) (fun _ => rfl) fun p h => ⟨Nat.le_trans h.1 (by decide), Nat.le_trans h.2.1 (by decide)⟩
theorem openFks : Opens enc Tryz.prog W 111 (fun l : List Fk => [.fz (l.map encFk)]) (fun l => l.length ≤ 140737488351232 ∧ ∀ v ∈ l, bFk 1125899906842624 v) :=
  (Opens.slice (s := 5) Tryz.underlying111 openFk (by kernel_rfl) (by decide) (fun _ => rfl)).iso id (fun _ => rfl) fun l h => ⟨Nat.le_trans (Nat.le_mul_of_pos_right _ (of_decide_eq_true (by kernel_rfl))) h.1, h.2⟩
theorem openCol : Opens enc Tryz.prog W 308 encCol (bCol 1125899906842624) :=
  (Opens.struct (s := 6) Tryz.underlying308 (.cons (s := 1) rfl (.str Tryz.underlying9) rfl (fun _ => rfl) (.cons (s := 1) rfl (.int Tryz.underlying2) rfl (fun _ => rfl) (.cons (s := 1) rfl (.bool Tryz.underlying4) rfl (fun _ => rfl) (.cons (s := 3) rfl openV rfl (fun _ => rfl) .nil)))) (by kernel_rfl) (fun _ => rfl)).iso (fun p => Col.mk p.1 p.2.1 p.2.2.1 p.2.2.2.1) (fun _ => rfl) fun p h => ⟨Nat.le_trans h.1 (by decide), h.2.2.2.1⟩
theorem openCols : Opens enc Tryz.prog W 108 (fun l : List Col => [.fz (l.map encCol)]) (fun l => l.length ≤ 140737488351232 ∧ ∀ v ∈ l, bCol 1125899906842624 v) :=
  (Opens.slice (s := 6) Tryz.underlying108 openCol (by kernel_rfl) (by decide) (fun _ => rfl)).iso id (fun _ => rfl) fun l h => ⟨Nat.le_trans (Nat.le_mul_of_pos_right _ (of_decide_eq_true (by kernel_rfl))) h.1, h.2⟩
theorem openTable : Opens enc Tryz.prog W 113 encTable (bTable 1125899906842624) :=
  (Opens.struct (s := 6) Tryz.underlying113 (.cons (s := 1) rfl (.str Tryz.underlying9) rfl (fun _ => rfl) (.cons (s := 1) rfl openCols rfl (fun _ => rfl) (.cons (s := 1) rfl openIs rfl (fun _ => rfl) (.cons (s := 1) rfl openUniqs rfl (fun _ => rfl) (.cons (s := 1) rfl openChks rfl (fun _ => rfl) (.cons (s := 1) rfl openFks rfl (fun _ => rfl) .nil)))))) (by kernel_rfl) (fun _ => rfl)).iso (fun p => Table.mk p.1 p.2.1 p.2.2.1 p.2.2.2.1 p.2.2.2.2.1 p.2.2.2.2.2.1) (fun _ => rfl) fun p h => ⟨Nat.le_trans h.1 (by decide), ⟨Nat.le_trans h.2.1.1 (by decide), h.2.1.2⟩, Nat.le_trans h.2.2.1 (by decide), ⟨Nat.le_trans h.2.2.2.1.1 (by decide), h.2.2.2.1.2⟩, ⟨Nat.le_trans h.2.2.2.2.1.1 (by decide), h.2.2.2.2.1.2⟩, ⟨Nat.le_trans h.2.2.2.2.2.1.1 (by decide), h.2.2.2.2.2.1.2⟩⟩
theorem openTables : Opens enc Tryz.prog W 22 (fun l : List Table => [.fz (l.map encTable)]) (fun l => l.length ≤ 140737488351232 ∧ ∀ v ∈ l, bTable 1125899906842624 v) :=
  (Opens.slice (s := 6) Tryz.underlying22 openTable (by kernel_rfl) (by decide) (fun _ => rfl)).iso id (fun _ => rfl) fun l h => ⟨Nat.le_trans (Nat.le_mul_of_pos_right _ (of_decide_eq_true (by kernel_rfl))) h.1, h.2⟩
theorem openRowD : Opens enc Tryz.prog W 329 encRowD (bRowD 1125899906842624) :=
  (Opens.struct (s := 2) Tryz.underlying329 (.cons (s := 1) rfl (.int Tryz.underlying2) rfl (fun _ => rfl) (.cons (s := 1) rfl openVs rfl (fun _ => rfl) .nil)) (by kernel_rfl) (fun _ => rfl)).iso (fun p => RowD.mk p.1 p.2.1) (fun _ => rfl) fun p h => ⟨Nat.le_trans h.2.1.1 (by decide), h.2.1.2⟩
theorem openRowDs : Opens enc Tryz.prog W 133 (fun l : List RowD => [.fz (l.map encRowD)]) (fun l => l.length ≤ 140737488351232 ∧ ∀ v ∈ l, bRowD 1125899906842624 v) :=
  (Opens.slice (s := 2) Tryz.underlying133 openRowD (by kernel_rfl) (by decide) (fun _ => rfl)).iso id (fun _ => rfl) fun l h => ⟨Nat.le_trans (Nat.le_mul_of_pos_right _ (of_decide_eq_true (by kernel_rfl))) h.1, h.2⟩
end
end Go.Proofs.YtcfpdongfdhgjaaGreat.Am

/- The laws' helpers on types, printed by a program: Data, Line, Save, Session. -/
set_option linter.unusedVariables false
set_option linter.unusedSimpArgs false
namespace Go.Proofs.YtcfpdongfdhgjaaGreat.Am
open Go.RowKit Go.ChangeShapes Go.WideShapes
section
variable {H : Type} {enc : TypeId × Value → H} {W : World}
theorem openData : Opens enc Tryz.prog W 135 encData (bData 1125899906842624) :=
  (Opens.struct (s := 1) Tryz.underlying135 (.cons (s := 1) rfl openRowDs rfl (fun _ => rfl) .nil) (by kernel_rfl) (fun _ => rfl)).iso (fun p => Data.mk p.1) (fun _ => rfl) fun p h => ⟨Nat.le_trans h.1.1 (by decide), h.1.2⟩
theorem openDatas : Opens enc Tryz.prog W 37 (fun l : List Data => [.fz (l.map encData)]) (fun l => l.length ≤ 140737488351232 ∧ ∀ v ∈ l, bData 1125899906842624 v) :=
  (Opens.slice (s := 1) Tryz.underlying37 openData (by kernel_rfl) (by decide) (fun _ => rfl)).iso id (fun _ => rfl) fun l h => ⟨Nat.le_trans (Nat.le_mul_of_pos_right _ (of_decide_eq_true (by kernel_rfl))) h.1, h.2⟩
end
end Go.Proofs.YtcfpdongfdhgjaaGreat.Am

/- The statement of the law FnExactJoinOn: whatever its arguments are, it returns true, leaves what was there as it was, and ends. No condition. -/
namespace Go.Proofs.YtcfpdongfdhgjaaGreat.fnExactJoinOn
open Go.ChangeShapes Go.WideShapes Go.ChangeAt Go.RowKit Go.Proofs.YtcfpdongfdhgjaaGreat.Am
open Go.ChangeMaps (open_string shut_string)
set_option linter.unusedVariables false
theorem own : ownKnob Tryz.prog.godebug = none := by kernel_rfl
theorem laidOut : laidOutB Tryz.prog = true := by kernel_rfl
set_option maxRecDepth 100000 in
theorem lifted (os : Os) (started : os.Started) (H : Type) (enc : TypeId × Value → H) :
    ReturnsInHanded {} Tryz.checked os 6 .any (Rows.fnExactJoinOnSpec.pre6 enc Tryz.prog Tryz.f6 Rows.fnExactJoinOnRow.domain false) (Rows.fnExactJoinOnSpec.post enc Tryz.prog Tryz.f6 false true false false) := by
  refine returnsInHanded_of_change_sized (C := Tryz.checked) own started (by kernel_rfl) Tryz.func6
    (ChangeSpec.witness6 (enc := enc) (C := Tryz.checked) false ⟨#[], #[.slice none 0 0, .slice none 0 0, .int .i64 0, .int .i64 0, .slice none 0 0], []⟩ 8 (by kernel_rfl) (by kernel_rfl) (by kernel_rfl) (by kernel_rfl)) ?_
  intro W base args ds gs before hval0 hW hcnd hsz0 _
  have hval : ∀ (j : Nat) t v, Tryz.f6.params[j]? = some t → args[j]? = some v → Value.okWide Tryz.prog W .any base t v := hval0
  have hW' := hW
  obtain ⟨p, q, hA0, hV, rfl, hfz, hnd⟩ := hW
  have hA : DataW.TrodAll enc Tryz.prog W 0 (fun _ => true) true Tryz.f6.params.toList args.toList ds p := hA0
  rw [Tryz.params6] at hA hval
  have hsz : (DataW.weightsEach Tryz.prog (Tryz.f6.params.toList ++ Rows.fnExactJoinOnSpec.plain.varTypes Tryz.prog) (ds ++ gs)).all (· ≤ reachBytes) = true := hsz0
  rw [Tryz.params6] at hsz
  obtain ⟨v0, vs0, d0, ds0, p0, q0, hargs, rfl, rfl, h0, r0⟩ := trodAll_cons hA
  obtain ⟨v1, vs1, d1, ds1, p1, q1, rfl, rfl, rfl, h1, r1⟩ := trodAll_cons r0
  obtain ⟨v2, vs2, d2, ds2, p2, q2, rfl, rfl, rfl, h2, r2⟩ := trodAll_cons r1
  obtain ⟨v3, vs3, d3, ds3, p3, q3, rfl, rfl, rfl, h3, r3⟩ := trodAll_cons r2
  obtain ⟨v4, vs4, d4, ds4, p4, q4, rfl, rfl, rfl, h4, r4⟩ := trodAll_cons r3
  obtain ⟨rfl, rfl, rfl⟩ := trodAll_nil r4
  obtain rfl : args = #[v0, v1, v2, v3, v4] := by cases args; simp_all
  obtain ⟨rfl, rfl⟩ := trodVars_none hV
  obtain ⟨a0, g0, e0⟩ := Opens.c openTables (cells_slice Tryz.underlying22 (hval 0 22 v0 rfl rfl)) h0 (fun n hn => of_decide_eq_true (List.all_eq_true.1 hsz _ (DataW.weights_mem_each (j := 0) (t := 22) rfl rfl n hn)))
  have k0 := h0
  have lt0 : ∀ x ∈ p0, x.block < W.heap.size := by obtain ⟨m, hm⟩ := k0; exact DataW.trod_lt m _ _ _ hm
  obtain ⟨a1, g1, e1⟩ := Opens.c openDatas (cells_slice Tryz.underlying37 (hval 1 37 v1 rfl rfl)) h1 (fun n hn => of_decide_eq_true (List.all_eq_true.1 hsz _ (DataW.weights_mem_each (j := 1) (t := 37) rfl rfl n hn)))
  have k1 := h1
  have lt1 : ∀ x ∈ p1, x.block < W.heap.size := by obtain ⟨m, hm⟩ := k1; exact DataW.trod_lt m _ _ _ hm
  obtain ⟨a2, g2, e2⟩ := Opens.c (Opens.int Tryz.underlying2) (cells_int Tryz.underlying2 (hval 2 2 v2 rfl rfl)) h2 (fun n hn => of_decide_eq_true (List.all_eq_true.1 hsz _ (DataW.weights_mem_each (j := 2) (t := 2) rfl rfl n hn)))
  have k2 := h2
  have lt2 : ∀ x ∈ p2, x.block < W.heap.size := by obtain ⟨m, hm⟩ := k2; exact DataW.trod_lt m _ _ _ hm
  obtain ⟨a3, g3, e3⟩ := Opens.c (Opens.int Tryz.underlying2) (cells_int Tryz.underlying2 (hval 3 2 v3 rfl rfl)) h3 (fun n hn => of_decide_eq_true (List.all_eq_true.1 hsz _ (DataW.weights_mem_each (j := 3) (t := 2) rfl rfl n hn)))
  have k3 := h3
  have lt3 : ∀ x ∈ p3, x.block < W.heap.size := by obtain ⟨m, hm⟩ := k3; exact DataW.trod_lt m _ _ _ hm
  obtain ⟨a4, g4, e4⟩ := Opens.c openToks (cells_slice Tryz.underlying38 (hval 4 38 v4 rfl rfl)) h4 (fun n hn => of_decide_eq_true (List.all_eq_true.1 hsz _ (DataW.weights_mem_each (j := 4) (t := 38) rfl rfl n hn)))
  have k4 := h4
  have lt4 : ∀ x ∈ p4, x.block < W.heap.size := by obtain ⟨m, hm⟩ := k4; exact DataW.trod_lt m _ _ _ hm
  clear hA0 hval0 hsz0 hsz
  refine ((JoinOn_sound a0 a1 a2 a3 a4 (Nat.le_trans g0.1 (by decide)) g0.2 (Nat.le_trans g1.1 (by decide)) g1.2 (Nat.le_trans g4.1 (by decide)) g4.2).calls (W := W) ⟨rfl, fun i hi => ?_⟩).mono fun e W' ⟨he, bel⟩ => ?_
  · match i, hi with
    | 0, _ => exact e0
    | 1, _ => exact e1
    | 2, _ => exact e2
    | 3, _ => exact e3
    | 4, _ => exact e4
  subst he
  exact ⟨_, rfl, _, _, _, [], _, [], hW', trodAll_mk1 (shut_bool Tryz.underlying4 _), (trodAll_cons_mk (Below.trod laidOut (by kernel_rfl) (of_decide_eq_true (by kernel_rfl)) k0 bel lt0) (trodAll_cons_mk (Below.trod laidOut (by kernel_rfl) (of_decide_eq_true (by kernel_rfl)) k1 bel lt1) (trodAll_cons_mk (Below.trod laidOut (by kernel_rfl) (of_decide_eq_true (by kernel_rfl)) k2 bel lt2) (trodAll_cons_mk (Below.trod laidOut (by kernel_rfl) (of_decide_eq_true (by kernel_rfl)) k3 bel lt3) (trodAll_cons_mk (Below.trod laidOut (by kernel_rfl) (of_decide_eq_true (by kernel_rfl)) k4 bel lt4) trodAll_mk0))))), rfl, bel.frame _, fun h => by cases h⟩
theorem spl {a b : Bool} (h : (a && b) = true) : a = true ∧ b = true := by cases a <;> cases b <;> simp_all
theorem and2 {a b : Bool} (h : a = true) (k : b = true) : (a && b) = true := by rw [h, k]; rfl
theorem facts0 : (Rows.fnExactJoinOnRow.wf (OpenSpec.ofChange Rows.fnExactJoinOnSpec) && laidOutB Tryz.pinned.checked.prog && mapsRowed Tryz.pinned.checked.prog && Tryz.f6.params.all (Tryz.pinned.checked.prog.readableRec ·) && namedTie Tryz.pinned.checked.prog Rows.fnExactJoinOnRow.named Rows.fnExactJoinOnSpec.vars && (Rows.fnExactJoinOnRow.stops == []) && (Tryz.pinned.checked.prog.stops == []) && (Rows.fnExactJoinOnRow.knobs == []) && (Tryz.pinned.checked.prog.stopKnobs == [])) = true := by kernel_rfl
theorem facts1 : ((Rows.fnExactJoinOnRow.inPlace == Tryz.pinned.checked.prog.inPlace 6) && (Rows.fnExactJoinOnRow.unfollowed == Tryz.pinned.checked.prog.unfollowed 6) && (Rows.fnExactJoinOnRow.recurses == Tryz.pinned.checked.prog.recurses 6) && (Rows.fnExactJoinOnRow.named == Tryz.pinned.checked.prog.varsNamed 6)) = true := by kernel_rfl
theorem facts2 : ((Rows.fnExactJoinOnRow.maps == (Tryz.f6.params.toList ++ Rows.fnExactJoinOnSpec.plain.varTypes Tryz.pinned.checked.prog).any (Tryz.pinned.checked.prog.mapsRec ·)) && (Rows.fnExactJoinOnRow.ifaces == (Tryz.f6.params.toList ++ Rows.fnExactJoinOnSpec.plain.varTypes Tryz.pinned.checked.prog).any (Tryz.pinned.checked.prog.ifacesRec ·)) && (Rows.fnExactJoinOnRow.mapsOut == Tryz.pinned.checked.prog.mapsAmong Tryz.f6.resultTypes.toList) && (Rows.fnExactJoinOnRow.loops == (Tryz.f6.params.toList ++ Rows.fnExactJoinOnSpec.plain.varTypes Tryz.pinned.checked.prog).any (Tryz.pinned.checked.prog.loopsFrom ·)) && (Rows.fnExactJoinOnRow.wideKeys == (Tryz.f6.params.toList ++ Rows.fnExactJoinOnSpec.plain.varTypes Tryz.pinned.checked.prog ++ Tryz.f6.resultTypes.toList).any (Tryz.pinned.checked.prog.wideKeysFrom ·)) && Rows.fnExactJoinOnSpec.vars.all (Tryz.pinned.checked.prog.varReadable ·)) = true := by kernel_rfl
theorem facts3 : (Tryz.f6.resultTypes.all (fun t => Tryz.pinned.checked.prog.readableRec t && decide (t < Tryz.pinned.checked.prog.types.size)) && (Rows.fnExactJoinOnRow.ifacesOut == Tryz.f6.resultTypes.toList.any (Tryz.pinned.checked.prog.ifacesRec ·)) && (Rows.fnExactJoinOnRow.loopsOut == Tryz.f6.resultTypes.toList.any (Tryz.pinned.checked.prog.loopsFrom ·)) && (Rows.fnExactJoinOnRow.plainKeys == Tryz.pinned.checked.prog.plainKeys) && Rows.fnExactJoinOnRow.shortTexts.isNone && (Tryz.pinned.checked.prog.make == some Rows.fnExactJoinOnRow.make) && (Rows.fnExactJoinOnRow.kinds == (if Rows.fnExactJoinOnRow.domain.isEmpty then [] else Tryz.f6.params.toList.map fun t => match Tryz.pinned.checked.prog.underlying t with | some (.int k) => some k | _ => none)) && (Rows.fnExactJoinOnRow.pinned == Rows.fnExactJoinOnRow.pinnedBy) && (Rows.fnExactJoinOnRow.veiled == (Tryz.f6.params.toList ++ Rows.fnExactJoinOnSpec.plain.varTypes Tryz.pinned.checked.prog ++ Tryz.f6.resultTypes.toList).any (Tryz.pinned.checked.prog.veiledRec ·)) && Rows.fnExactJoinOnRow.veiledFits Tryz.pinned.checked.prog Tryz.f6.params.toList (Tryz.f6.params.toList ++ Rows.fnExactJoinOnSpec.plain.varTypes Tryz.pinned.checked.prog ++ Tryz.f6.resultTypes.toList)) = true := by kernel_rfl
theorem facts4 : (Tryz.pinned.checked.prog.stopsHeard && Tryz.pinned.checked.prog.mayEnter && (Rows.fnExactJoinOnRow.lifted == Tryz.pinned.checked.prog.liftsFinal)) = true := by kernel_rfl
set_option maxRecDepth 100000 in
theorem closed : joinedFacts Tryz.pinned.checked.prog 6 Tryz.f6 Rows.fnExactJoinOnSpec Rows.fnExactJoinOnRow = true := by
  have g := facts0
  obtain ⟨g, p8⟩ := spl g
  obtain ⟨g, p7⟩ := spl g
  obtain ⟨g, p6⟩ := spl g
  obtain ⟨g, p5⟩ := spl g
  obtain ⟨g, p4⟩ := spl g
  obtain ⟨g, p3⟩ := spl g
  obtain ⟨g, p2⟩ := spl g
  obtain ⟨g, p1⟩ := spl g
  have p0 := g
  have g := facts1
  obtain ⟨g, p12⟩ := spl g
  obtain ⟨g, p11⟩ := spl g
  obtain ⟨g, p10⟩ := spl g
  have p9 := g
  have g := facts2
  obtain ⟨g, p18⟩ := spl g
  obtain ⟨g, p17⟩ := spl g
  obtain ⟨g, p16⟩ := spl g
  obtain ⟨g, p15⟩ := spl g
  obtain ⟨g, p14⟩ := spl g
  have p13 := g
  have g := facts3
  obtain ⟨g, p31⟩ := spl g
  obtain ⟨g, p30⟩ := spl g
  obtain ⟨g, p29⟩ := spl g
  obtain ⟨g, p28⟩ := spl g
  obtain ⟨g, p27⟩ := spl g
  obtain ⟨g, p23⟩ := spl g
  obtain ⟨g, p22⟩ := spl g
  obtain ⟨g, p21⟩ := spl g
  obtain ⟨g, p20⟩ := spl g
  have p19 := g
  have g := facts4
  obtain ⟨g, p26⟩ := spl g
  obtain ⟨g, p25⟩ := spl g
  have p24 := g
  exact (and2 (and2 (and2 (and2 (and2 (and2 (and2 (and2 (and2 (and2 (and2 (and2 (and2 (and2 (and2 (and2 (and2 (and2 (and2 (and2 (and2 (and2 (and2 (and2 (and2 (and2 (and2 (and2 (and2 (and2 (and2 p0 p1) p2) p3) p4) p5) p6) p7) p8) p9) p10) p11) p12) p13) p14) p15) p16) p17) p18) p19) p20) p21) p22) p23) p24) p25) p26) p27) p28) p29) p30) p31)
theorem over : Rows.fnExactJoinOnRow.holds Tryz.pinned (OpenSpec.ofChange Rows.fnExactJoinOnSpec) :=
  OpenClaim.holds_of_wide 6 Tryz.f6 rfl rfl rfl rfl rfl rfl rfl ⟨rfl, rfl, rfl, rfl, rfl⟩ rfl rfl rfl rfl rfl (by kernel_rfl) Tryz.func6 closed
    (of_decide_eq_true (by kernel_rfl)) (by unfold Func.isWrapper; first | (rw [if_pos (by decide +kernel)]; kernel_rfl) | (rw [if_neg (by decide +kernel)]; exact ⟨rfl, rfl⟩))
    (fun os started H enc _ => lifted os started H enc)
theorem proved : Rows.FnExactJoinOnSaid := over
end Go.Proofs.YtcfpdongfdhgjaaGreat.fnExactJoinOn
namespace Go.Proofs.YtcfpdongfdhgjaaGreat
/-- The row, under a short name, for the claim. -/
theorem fnExactJoinOn_holds : Rows.FnExactJoinOnSaid := fnExactJoinOn.proved
#print axioms fnExactJoinOn_holds
end Go.Proofs.YtcfpdongfdhgjaaGreat
