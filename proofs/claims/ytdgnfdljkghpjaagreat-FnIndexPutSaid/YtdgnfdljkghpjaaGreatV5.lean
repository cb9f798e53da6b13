/- Joined texts: Y2, K3, Y3, Y4, S5, S6, S7, S9, K4, D1, M0, M1, M3, M2, N0, D2, G1, G2, G3, G4, G5, G6, J1, F10, J2, J3, H0, Y5, Y6, Y7, Y8, F11, F12, Q11, I1, N1, N2, I2, W0, Q1, Q2, Q3, Q4. -/
import Derived.Test.YtdgnfdljkghpjaaGreatV1
import Derived.Test.YtdgnfdljkghpjaaGreatV2
import Derived.Test.YtdgnfdljkghpjaaGreatV3
import Derived.Test.YtdgnfdljkghpjaaGreatV4
/- The reader that draws: values, expressions, conditions, rows. -/
set_option linter.unusedVariables false
set_option linter.unusedSimpArgs false
namespace Go.Proofs.YtdgnfdljkghpjaaGreat.Am

theorem finR_v {σ : Store} {id v : Nat} {code : List UInt8} {q : Nat} {l : List (Nat × List (List Ce))} (hq : q ≤ code.length) (w : Val) (hw : w.s.length ≤ 12) : FinR σ id v code AnyV (.agg (encV w)) (E (Rd.go σ id v code q) l) := .c hq ⟨w, hw, rfl⟩ (old_v w)
theorem below_lt {n : Int} (h : 1 < n) {r : AV} (hr : BelowR n r) : ∃ k : Nat, (k : Int) < n ∧ r = .c (.int .i64 (k : Int)) := by
  obtain ⟨k, h0, h1, rfl⟩ := hr
  exact ⟨k.toNat, by omega, by rw [Int.toNat_of_nonneg h0]⟩
theorem val_ok : Draws Tryz.prog 48 [] AnyV := by
  refine Draws.run mixed c_spec_l1Rd_val_ok (Nat.le_of_ble_eq_true rfl) fun σ id v code p hr hp hc hS => ?_
  clear hS
  repeat' first|refine yaG ?_|(exfalso;omega)|(refine yaS ?_ ?_<;>intro _)
  refine Go.drawn hr hp rfl rfl rfl (below_ok 12 (by decide) (by decide)) ?_
  intro r q hq hz
  obtain ⟨k, hk, rfl⟩ := below_lt (by decide) hz
  have hcase : k = 0 ∨ k = 1 ∨ k = 2 ∨ k = 3 ∨ k = 4 ∨ 5 ≤ k := by omega
  rcases hcase with rfl | rfl | rfl | rfl | rfl | h5
  · repeat' first|refine yaG ?_|(exfalso;omega)|(refine yaS ?_ ?_<;>intro _)
    exact .ret (retv_m rfl rfl rfl (Nat.zero_le _) rfl) (finR_v hq vNull (by decide))
  · repeat' first|refine yaG ?_|(exfalso;omega)|(refine yaS ?_ ?_<;>intro _)
    exact .ret (retv_m rfl rfl rfl (Nat.zero_le _) rfl) (finR_v hq vNull (by decide))
  all_goals repeat' first|refine yaG ?_|(exfalso;omega)|(refine yaS ?_ ?_<;>intro _)
  · refine Go.drawn hr hq rfl rfl rfl (below_ok 6 (by decide) (by decide)) ?_
    intro r q2 hq2 hz
    obtain ⟨m, hm, rfl⟩ := below_lt (by decide) hz
    have hm6 : m = 0 ∨ m = 1 ∨ m = 2 ∨ m = 3 ∨ m = 4 ∨ m = 5 := by omega
    rcases hm6 with rfl | rfl | rfl | rfl | rfl | rfl
    all_goals repeat' first|refine yaG ?_|((first|apply yQ|apply yR|apply yS);(iterate 3 exact rfl);exact l1Str_ok _)|(exfalso;omega)|(refine yaS ?_ ?_<;>intro _)
    all_goals exact .ret (retv_m rfl rfl rfl (Nat.zero_le _) rfl) (finR_v hq2 ⟨2, 0, _⟩ (by decide))
  · refine Go.drawn hr hq rfl rfl rfl (below_ok 6 (by decide) (by decide)) ?_
    intro r q2 hq2 hz
    obtain ⟨m, hm, rfl⟩ := below_lt (by decide) hz
    have hm6 : m = 0 ∨ m = 1 ∨ m = 2 ∨ m = 3 ∨ m = 4 ∨ m = 5 := by omega
    rcases hm6 with rfl | rfl | rfl | rfl | rfl | rfl
    all_goals repeat' first|refine yaG ?_|((first|apply yQ|apply yR|apply yS);(iterate 3 exact rfl);exact l1Str_ok _)|(exfalso;omega)|(refine yaS ?_ ?_<;>intro _)
    all_goals exact .ret (retv_m rfl rfl rfl (Nat.zero_le _) rfl) (finR_v hq2 ⟨2, 0, _⟩ (by decide))
  · refine Go.drawn hr hq rfl rfl rfl (below_ok 4 (by decide) (by decide)) ?_
    intro r q2 hq2 hz
    obtain ⟨m, hm, rfl⟩ := below_lt (by decide) hz
    have hm4 : m = 0 ∨ m = 1 ∨ m = 2 ∨ m = 3 := by omega
    rcases hm4 with rfl | rfl | rfl | rfl
    all_goals repeat' first|refine yaG ?_|((first|apply yQ|apply yR|apply yS);(iterate 3 exact rfl);exact l1Int_ok _)|(exfalso;omega)|(refine yaS ?_ ?_<;>intro _)
    all_goals exact .ret (retv_m rfl rfl rfl (Nat.zero_le _) rfl) (finR_v hq2 (vInt _) (by decide))
  · refine Go.drawn hr hq rfl rfl rfl (below_ok 5 (by decide) (by decide)) ?_
    intro r q2 hq2 hz
    obtain ⟨m, hm, rfl⟩ := below_lt (by decide) hz
    repeat' first|refine yaG ?_|((first|apply yQ|apply yR|apply yS);(iterate 3 exact rfl);exact l1Int_ok _)|(exfalso;omega)|(refine yaS ?_ ?_<;>intro _)
    exact .ret (retv_m rfl rfl rfl (Nat.zero_le _) rfl) (finR_v hq2 (vInt _) (by simp [vInt]))
/-! ### expressions -/
end Go.Proofs.YtdgnfdljkghpjaaGreat.Am

/- The laws' helpers on types, printed by a program: Set, Row, Stmt. -/
set_option linter.unusedVariables false
set_option linter.unusedSimpArgs false
namespace Go.Proofs.YtdgnfdljkghpjaaGreat.Am
structure RowD where
  id : Int
  vals : List Val
  deriving DecidableEq
def encRowD (a : RowD) : List Ce := [.int .i64 a.id, .fz (a.vals.map encV)]
def bRowD (N : Nat) (a : RowD) : Prop := (a.vals.length ≤ N ∧ ∀ x ∈ a.vals, bV N x)
end Go.Proofs.YtdgnfdljkghpjaaGreat.Am

/- The reader that draws: expressions frozen, conditions, rows. -/
set_option linter.unusedVariables false
set_option linter.unusedSimpArgs false
namespace Go.Proofs.YtdgnfdljkghpjaaGreat.Am

theorem Rd.old {σ : Store} {id v : Nat} {code : List UInt8} {p q : Nat} (hr : Rd σ id v code p) (hS : OldS σ) : OldS (Rd.go σ id v code q) := by
  intro a y hy
  by_cases e : a = id
  · subst e
    rw [show (Rd.go σ a v code q).get a = some (v, rdB code q) from if_pos rfl] at hy
    injection hy with hy
    subst hy
    refine ⟨hr.2.1, fun i j hi hj => ?_⟩
    have hold := (hS a _ hr.1).2
    have hi0 : i = 0 := by simp [rdB] at hi; omega
    subst hi0
    have hj2 : j = 0 ∨ j = 1 := by simp [rdB] at hj; omega
    rcases hj2 with rfl | rfl
    · exact hold 0 0 (by simp [rdB]) (by simp [rdB])
    · exact .int _ _
  · rw [show (Rd.go σ id v code q).get a = σ.get a from if_neg e] at hy
    exact hS a y hy
theorem flatTs {l : List Tok} : ∀ e ∈ l.map encTok, ∀ x ∈ e, Flat x := fun e he x hx => by
  obtain ⟨a, _, rfl⟩ := List.mem_map.1 he
  exact flatTok a x hx
/-! ### a table's row -/
/-- An owned slice of values, alone. -/
def OwnVs (σ : Store) (id v : Nat) (code : List UInt8) (N : Nat) (r : AV) (τ : Store) : Prop := ∃ (q : Nat) (vs : List Val) (u : Nat) (junk : List (List Ce)), q ≤ code.length ∧ vs.length = N ∧ (∀ w ∈ vs, bV 12 w) ∧ Jk 3 junk ∧ r = .c (vec (σ.next + 0) u (vs.map encV) junk) ∧ τ = E (Rd.go σ id v code q) [(u, vs.map encV ++ junk)]
theorem fit_own (t : Table) (hN : t.cols.length ≤ 60) (σ : Store) (id v : Nat) (code : List UInt8) (p : Nat) (hr : Rd σ id v code p) : Ok Tryz.prog 138 [.c (.ptr id v 0 0), .agg (encTable t)] σ (OwnVs σ id v code t.cols.length) := by
  refine Ok.run mixed c_spec_l1Rd_fit_ok (Nat.le_of_ble_eq_true rfl) fun hS hA => ?_
  have hp := hr.2.2.1
  have hT : ∀ n, σ.next ≤ n → ∀ y ∈ (AV.c (.fp (encTable t))).all, Old n y := fun n hn y hy => by
    simp only [AV.all, List.mem_singleton] at hy
    subst hy
    exact .fp _ fun j hj => (hA _ (by simp) _ (List.getElem_mem (l := (AV.agg (encTable t)).all) (n := j) hj)).mono hn
  clear hA
  rw [show E σ [] = E (Rd.go σ id v code p) [] by rw [hr.same]]
  repeat' first|refine yaG ?_|(exfalso;omega)|(refine yaS ?_ ?_<;>intro _)
  refine Go.keep [0, 3, 5, 6] (Go.loops (I := fun m fr τ => ∃ (i : Nat) (k : Int) (q u : Nat) (vs : List Val) (junk : List (List Ce)), m = t.cols.length - i ∧ i ≤ t.cols.length ∧ k = i ∧ q ≤ code.length ∧ Jk 3 junk ∧ (vs.length = i ∧ ∀ w ∈ vs, bV 12 w) ∧
    fr = [(0, .c (.ptr id v 0 0)), (3, .c (.fp (encTable t))), (5, .c (vec (σ.next + 0) u (vs.map encV) junk)), (6, .c (.int .i64 k))] ∧ τ = E (Rd.go σ id v code q) [(u, vs.map encV ++ junk)]) ?_ _ _ _ ⟨0, _, p, 0, [], [], rfl, Nat.zero_le _, rfl, hp, Jk.nil, ⟨rfl, fun w hw => by simp at hw⟩, rfl, rfl⟩)
  rintro m fr τ ⟨i, k, q, u, vs, junk, rfl, hi, hk, hq, hj, ⟨hl, hb⟩, rfl, rfl⟩ hrec
  by_cases hlt : i < t.cols.length
  · have fin := fun (w : Val) (q u' : Nat) (junk' : List (List Ce)) (hw : bV 12 w) (hq : q ≤ code.length) (hj' : Jk 3 junk') fr' σ' hfr hσ => hrec _ fr' σ' (by omega) ⟨i + 1, IntKind.i64.wrap (k + 1), q, u', vs ++ [w], junk', rfl, hlt, wrap_succ hk (by omega), hq, hj', ⟨by rw [List.length_append, List.length_singleton, hl], fun x hx => by
      rcases List.mem_append.1 hx with hx | hx
      · exact hb x hx
      · rw [List.mem_singleton.1 hx]; exact hw⟩, hfr, hσ⟩
    clear hrec
    have hbd : ((vs.map encV).length + 1) * 32 ≤ 140737488355328 := by rw [List.length_map]; omega
    have keepF : ∀ (n u' : Nat) (junk' : List (List Ce)) {w : Val}, Jk 3 junk' → ∀ b ∈ [(u', vs.map encV ++ [encV w] ++ junk')], ∀ e ∈ b.2, ∀ x ∈ e, Old n x := fun n u' junk' w hj' b hb2 e he x hx => by
      rw [List.mem_singleton.1 hb2] at he
      rcases List.mem_append.1 he with he | he
      · rcases List.mem_append.1 he with he | he
        · exact (flats e he x hx).old _
        · rw [List.mem_singleton.1 he] at hx; exact (encV_flat w x hx).old _
      · exact ((hj' e he).2 x hx).old _
    repeat' first|refine yaG ?_|(exfalso;omega)|(refine yaS ?_ ?_<;>intro _)
    refine Go.drawn hr hq rfl rfl rfl (below_ok 5 (by decide) (by decide)) ?_
    rintro _ q1 hq1 ⟨a, ha0, ha1, rfl⟩
    repeat' first|refine yaN ?_|((first|apply yG|apply yH|apply yI);exact rfl;(first|exact yX (enc := encCol) rfl rfl hk hlt rfl))|((first|apply yQ|apply yR|apply yS);(iterate 3 exact rfl);exact l1Int_ok _)|(exfalso;omega)|(refine yaS ?_ ?_<;>intro _)
    -- paths
    · refine Go.drawn hr hq1 rfl rfl rfl (below_ok 3 (by decide) (by decide)) ?_
      intro r q2 hq2 hz
      obtain ⟨m, hm, rfl⟩ := below_lt (by decide) hz
      have hm3 : m = 0 ∨ m = 1 ∨ m = 2 := by omega
      rcases hm3 with rfl | rfl | rfl
      · repeat' first|refine yaG ?_|((first|apply yQ|apply yR|apply yS);(iterate 3 exact rfl);exact l1Str_ok _)|(exfalso;omega)|(refine yaS ?_ ?_<;>intro _)
        refine Go.drawn hr hq2 rfl rfl rfl (once_ok 8 (by decide) (by decide)) ?_
        rintro _ q4 hq4 ⟨b5, rfl⟩
        cases b5
        · repeat' first|refine yaG ?_|(exfalso;omega)|(refine yaS ?_ ?_<;>intro _)
          refine Go.drawn hr hq4 rfl rfl rfl (once_ok 60 (by decide) (by decide)) ?_
          rintro _ q5 hq5 ⟨b6, rfl⟩
          cases b6
          · repeat' first|refine yaG ?_|(exfalso;omega)|(refine yaS ?_ ?_<;>intro _)
            refine Go.app1 (k := 0) (ys := vs.map encV) (junk := junk) (z := encV (⟨2, 0, []⟩ : Val)) rfl rfl rfl rfl rfl lens hj rfl hbd fun u' junk' hj' => ?_
            repeat' first|refine yaG ?_|(exfalso;omega)|(refine yaS ?_ ?_<;>intro _)
            refine Go.freezeN (l := [(u', vs.map encV ++ [encV (⟨2, 0, []⟩ : Val)] ++ junk')]) (m := [(0, [encV (⟨2, 0, []⟩ : Val)])]) (fr' := [(0, .c (.ptr id v 0 0)), (3, .c (.fp (encTable t))), (5, .c (vec (σ.next + 0) u' ((vs ++ [(⟨2, 0, []⟩ : Val)]).map encV) junk')), (6, .c (.int .i64 (IntKind.i64.wrap (k + 1))))]) (hr.old hS) (keepF _ _ _ hj') (Nat.le_refl _) (.frz rfl (.refl (old_ptr (Nat.lt_succ_of_lt hr.2.1))) (.frz rfl (.refl (hT _ (Nat.le_succ _))) (.frz (by rw [List.map_append]; rfl) (.refl (old_sl (Nat.lt_succ_self _))) (.frz rfl (.refl old_c) .nil)))) ?_
            exact fin (⟨2, 0, []⟩ : Val) q5 u' junk' (by simp [bV, vNull, vInt] <;> omega) hq5 hj' _ _ rfl (by rw [List.map_append]; rfl)
          · repeat' first|refine yaG ?_|(exfalso;omega)|(refine yaS ?_ ?_<;>intro _)
            refine Go.drawn hr hq5 rfl rfl rfl val_ok ?_
            rintro _ q6 hq6 ⟨w, hw, rfl⟩
            repeat' first|refine yaG ?_|(exfalso;omega)|(refine yaS ?_ ?_<;>intro _)
            refine Go.app1 (k := 0) (ys := vs.map encV) (junk := junk) (z := encV w) rfl rfl rfl rfl rfl lens hj rfl hbd fun u' junk' hj' => ?_
            repeat' first|refine yaG ?_|(exfalso;omega)|(refine yaS ?_ ?_<;>intro _)
            refine Go.freezeN (l := [(u', vs.map encV ++ [encV w] ++ junk')]) (m := [(0, [encV w])]) (fr' := [(0, .c (.ptr id v 0 0)), (3, .c (.fp (encTable t))), (5, .c (vec (σ.next + 0) u' ((vs ++ [w]).map encV) junk')), (6, .c (.int .i64 (IntKind.i64.wrap (k + 1))))]) (hr.old hS) (keepF _ _ _ hj') (Nat.le_refl _) (.frz rfl (.refl (old_ptr (Nat.lt_succ_of_lt hr.2.1))) (.frz rfl (.refl (hT _ (Nat.le_succ _))) (.frz (by rw [List.map_append]; rfl) (.refl (old_sl (Nat.lt_succ_self _))) (.frz rfl (.refl old_c) .nil)))) ?_
            exact fin w q6 u' junk' (by simp [bV, vNull, vInt] <;> omega) hq6 hj' _ _ rfl (by rw [List.map_append]; rfl)
        · repeat' first|refine yaG ?_|(exfalso;omega)|(refine yaS ?_ ?_<;>intro _)
          refine Go.drawn hr hq4 rfl rfl rfl (once_ok 60 (by decide) (by decide)) ?_
          rintro _ q5 hq5 ⟨b6, rfl⟩
          cases b6
          · repeat' first|refine yaG ?_|(exfalso;omega)|(refine yaS ?_ ?_<;>intro _)
            refine Go.app1 (k := 0) (ys := vs.map encV) (junk := junk) (z := encV vNull) rfl rfl rfl rfl rfl lens hj rfl hbd fun u' junk' hj' => ?_
            repeat' first|refine yaG ?_|(exfalso;omega)|(refine yaS ?_ ?_<;>intro _)
            refine Go.freezeN (l := [(u', vs.map encV ++ [encV vNull] ++ junk')]) (m := [(0, [encV vNull])]) (fr' := [(0, .c (.ptr id v 0 0)), (3, .c (.fp (encTable t))), (5, .c (vec (σ.next + 0) u' ((vs ++ [vNull]).map encV) junk')), (6, .c (.int .i64 (IntKind.i64.wrap (k + 1))))]) (hr.old hS) (keepF _ _ _ hj') (Nat.le_refl _) (.frz rfl (.refl (old_ptr (Nat.lt_succ_of_lt hr.2.1))) (.frz rfl (.refl (hT _ (Nat.le_succ _))) (.frz (by rw [List.map_append]; rfl) (.refl (old_sl (Nat.lt_succ_self _))) (.frz rfl (.refl old_c) .nil)))) ?_
            exact fin vNull q5 u' junk' (by simp [bV, vNull, vInt] <;> omega) hq5 hj' _ _ rfl (by rw [List.map_append]; rfl)
          · repeat' first|refine yaG ?_|(exfalso;omega)|(refine yaS ?_ ?_<;>intro _)
            refine Go.drawn hr hq5 rfl rfl rfl val_ok ?_
            rintro _ q6 hq6 ⟨w, hw, rfl⟩
            repeat' first|refine yaG ?_|(exfalso;omega)|(refine yaS ?_ ?_<;>intro _)
            refine Go.app1 (k := 0) (ys := vs.map encV) (junk := junk) (z := encV w) rfl rfl rfl rfl rfl lens hj rfl hbd fun u' junk' hj' => ?_
            repeat' first|refine yaG ?_|(exfalso;omega)|(refine yaS ?_ ?_<;>intro _)
            refine Go.freezeN (l := [(u', vs.map encV ++ [encV w] ++ junk')]) (m := [(0, [encV w])]) (fr' := [(0, .c (.ptr id v 0 0)), (3, .c (.fp (encTable t))), (5, .c (vec (σ.next + 0) u' ((vs ++ [w]).map encV) junk')), (6, .c (.int .i64 (IntKind.i64.wrap (k + 1))))]) (hr.old hS) (keepF _ _ _ hj') (Nat.le_refl _) (.frz rfl (.refl (old_ptr (Nat.lt_succ_of_lt hr.2.1))) (.frz rfl (.refl (hT _ (Nat.le_succ _))) (.frz (by rw [List.map_append]; rfl) (.refl (old_sl (Nat.lt_succ_self _))) (.frz rfl (.refl old_c) .nil)))) ?_
            exact fin w q6 u' junk' (by simp [bV, vNull, vInt] <;> omega) hq6 hj' _ _ rfl (by rw [List.map_append]; rfl)
      · repeat' first|refine yaG ?_|((first|apply yQ|apply yR|apply yS);(iterate 3 exact rfl);exact l1Str_ok _)|(exfalso;omega)|(refine yaS ?_ ?_<;>intro _)
        refine Go.drawn hr hq2 rfl rfl rfl (once_ok 8 (by decide) (by decide)) ?_
        rintro _ q4 hq4 ⟨b5, rfl⟩
        cases b5
        · repeat' first|refine yaG ?_|(exfalso;omega)|(refine yaS ?_ ?_<;>intro _)
          refine Go.drawn hr hq4 rfl rfl rfl (once_ok 60 (by decide) (by decide)) ?_
          rintro _ q5 hq5 ⟨b6, rfl⟩
          cases b6
          · repeat' first|refine yaG ?_|(exfalso;omega)|(refine yaS ?_ ?_<;>intro _)
            refine Go.app1 (k := 0) (ys := vs.map encV) (junk := junk) (z := encV (⟨2, 0, [97]⟩ : Val)) rfl rfl rfl rfl rfl lens hj rfl hbd fun u' junk' hj' => ?_
            repeat' first|refine yaG ?_|(exfalso;omega)|(refine yaS ?_ ?_<;>intro _)
            refine Go.freezeN (l := [(u', vs.map encV ++ [encV (⟨2, 0, [97]⟩ : Val)] ++ junk')]) (m := [(0, [encV (⟨2, 0, [97]⟩ : Val)])]) (fr' := [(0, .c (.ptr id v 0 0)), (3, .c (.fp (encTable t))), (5, .c (vec (σ.next + 0) u' ((vs ++ [(⟨2, 0, [97]⟩ : Val)]).map encV) junk')), (6, .c (.int .i64 (IntKind.i64.wrap (k + 1))))]) (hr.old hS) (keepF _ _ _ hj') (Nat.le_refl _) (.frz rfl (.refl (old_ptr (Nat.lt_succ_of_lt hr.2.1))) (.frz rfl (.refl (hT _ (Nat.le_succ _))) (.frz (by rw [List.map_append]; rfl) (.refl (old_sl (Nat.lt_succ_self _))) (.frz rfl (.refl old_c) .nil)))) ?_
            exact fin (⟨2, 0, [97]⟩ : Val) q5 u' junk' (by simp [bV, vNull, vInt] <;> omega) hq5 hj' _ _ rfl (by rw [List.map_append]; rfl)
          · repeat' first|refine yaG ?_|(exfalso;omega)|(refine yaS ?_ ?_<;>intro _)
            refine Go.drawn hr hq5 rfl rfl rfl val_ok ?_
            rintro _ q6 hq6 ⟨w, hw, rfl⟩
            repeat' first|refine yaG ?_|(exfalso;omega)|(refine yaS ?_ ?_<;>intro _)
            refine Go.app1 (k := 0) (ys := vs.map encV) (junk := junk) (z := encV w) rfl rfl rfl rfl rfl lens hj rfl hbd fun u' junk' hj' => ?_
            repeat' first|refine yaG ?_|(exfalso;omega)|(refine yaS ?_ ?_<;>intro _)
            refine Go.freezeN (l := [(u', vs.map encV ++ [encV w] ++ junk')]) (m := [(0, [encV w])]) (fr' := [(0, .c (.ptr id v 0 0)), (3, .c (.fp (encTable t))), (5, .c (vec (σ.next + 0) u' ((vs ++ [w]).map encV) junk')), (6, .c (.int .i64 (IntKind.i64.wrap (k + 1))))]) (hr.old hS) (keepF _ _ _ hj') (Nat.le_refl _) (.frz rfl (.refl (old_ptr (Nat.lt_succ_of_lt hr.2.1))) (.frz rfl (.refl (hT _ (Nat.le_succ _))) (.frz (by rw [List.map_append]; rfl) (.refl (old_sl (Nat.lt_succ_self _))) (.frz rfl (.refl old_c) .nil)))) ?_
            exact fin w q6 u' junk' (by simp [bV, vNull, vInt] <;> omega) hq6 hj' _ _ rfl (by rw [List.map_append]; rfl)
        · repeat' first|refine yaG ?_|(exfalso;omega)|(refine yaS ?_ ?_<;>intro _)
          refine Go.drawn hr hq4 rfl rfl rfl (once_ok 60 (by decide) (by decide)) ?_
          rintro _ q5 hq5 ⟨b6, rfl⟩
          cases b6
          · repeat' first|refine yaG ?_|(exfalso;omega)|(refine yaS ?_ ?_<;>intro _)
            refine Go.app1 (k := 0) (ys := vs.map encV) (junk := junk) (z := encV vNull) rfl rfl rfl rfl rfl lens hj rfl hbd fun u' junk' hj' => ?_
            repeat' first|refine yaG ?_|(exfalso;omega)|(refine yaS ?_ ?_<;>intro _)
            refine Go.freezeN (l := [(u', vs.map encV ++ [encV vNull] ++ junk')]) (m := [(0, [encV vNull])]) (fr' := [(0, .c (.ptr id v 0 0)), (3, .c (.fp (encTable t))), (5, .c (vec (σ.next + 0) u' ((vs ++ [vNull]).map encV) junk')), (6, .c (.int .i64 (IntKind.i64.wrap (k + 1))))]) (hr.old hS) (keepF _ _ _ hj') (Nat.le_refl _) (.frz rfl (.refl (old_ptr (Nat.lt_succ_of_lt hr.2.1))) (.frz rfl (.refl (hT _ (Nat.le_succ _))) (.frz (by rw [List.map_append]; rfl) (.refl (old_sl (Nat.lt_succ_self _))) (.frz rfl (.refl old_c) .nil)))) ?_
            exact fin vNull q5 u' junk' (by simp [bV, vNull, vInt] <;> omega) hq5 hj' _ _ rfl (by rw [List.map_append]; rfl)
          · repeat' first|refine yaG ?_|(exfalso;omega)|(refine yaS ?_ ?_<;>intro _)
            refine Go.drawn hr hq5 rfl rfl rfl val_ok ?_
            rintro _ q6 hq6 ⟨w, hw, rfl⟩
            repeat' first|refine yaG ?_|(exfalso;omega)|(refine yaS ?_ ?_<;>intro _)
            refine Go.app1 (k := 0) (ys := vs.map encV) (junk := junk) (z := encV w) rfl rfl rfl rfl rfl lens hj rfl hbd fun u' junk' hj' => ?_
            repeat' first|refine yaG ?_|(exfalso;omega)|(refine yaS ?_ ?_<;>intro _)
            refine Go.freezeN (l := [(u', vs.map encV ++ [encV w] ++ junk')]) (m := [(0, [encV w])]) (fr' := [(0, .c (.ptr id v 0 0)), (3, .c (.fp (encTable t))), (5, .c (vec (σ.next + 0) u' ((vs ++ [w]).map encV) junk')), (6, .c (.int .i64 (IntKind.i64.wrap (k + 1))))]) (hr.old hS) (keepF _ _ _ hj') (Nat.le_refl _) (.frz rfl (.refl (old_ptr (Nat.lt_succ_of_lt hr.2.1))) (.frz rfl (.refl (hT _ (Nat.le_succ _))) (.frz (by rw [List.map_append]; rfl) (.refl (old_sl (Nat.lt_succ_self _))) (.frz rfl (.refl old_c) .nil)))) ?_
            exact fin w q6 u' junk' (by simp [bV, vNull, vInt] <;> omega) hq6 hj' _ _ rfl (by rw [List.map_append]; rfl)
      · repeat' first|refine yaG ?_|((first|apply yQ|apply yR|apply yS);(iterate 3 exact rfl);exact l1Str_ok _)|(exfalso;omega)|(refine yaS ?_ ?_<;>intro _)
        refine Go.drawn hr hq2 rfl rfl rfl (once_ok 8 (by decide) (by decide)) ?_
        rintro _ q4 hq4 ⟨b5, rfl⟩
        cases b5
        · repeat' first|refine yaG ?_|(exfalso;omega)|(refine yaS ?_ ?_<;>intro _)
          refine Go.drawn hr hq4 rfl rfl rfl (once_ok 60 (by decide) (by decide)) ?_
          rintro _ q5 hq5 ⟨b6, rfl⟩
          cases b6
          · repeat' first|refine yaG ?_|(exfalso;omega)|(refine yaS ?_ ?_<;>intro _)
            refine Go.app1 (k := 0) (ys := vs.map encV) (junk := junk) (z := encV (⟨2, 0, [98]⟩ : Val)) rfl rfl rfl rfl rfl lens hj rfl hbd fun u' junk' hj' => ?_
            repeat' first|refine yaG ?_|(exfalso;omega)|(refine yaS ?_ ?_<;>intro _)
            refine Go.freezeN (l := [(u', vs.map encV ++ [encV (⟨2, 0, [98]⟩ : Val)] ++ junk')]) (m := [(0, [encV (⟨2, 0, [98]⟩ : Val)])]) (fr' := [(0, .c (.ptr id v 0 0)), (3, .c (.fp (encTable t))), (5, .c (vec (σ.next + 0) u' ((vs ++ [(⟨2, 0, [98]⟩ : Val)]).map encV) junk')), (6, .c (.int .i64 (IntKind.i64.wrap (k + 1))))]) (hr.old hS) (keepF _ _ _ hj') (Nat.le_refl _) (.frz rfl (.refl (old_ptr (Nat.lt_succ_of_lt hr.2.1))) (.frz rfl (.refl (hT _ (Nat.le_succ _))) (.frz (by rw [List.map_append]; rfl) (.refl (old_sl (Nat.lt_succ_self _))) (.frz rfl (.refl old_c) .nil)))) ?_
            exact fin (⟨2, 0, [98]⟩ : Val) q5 u' junk' (by simp [bV, vNull, vInt] <;> omega) hq5 hj' _ _ rfl (by rw [List.map_append]; rfl)
          · repeat' first|refine yaG ?_|(exfalso;omega)|(refine yaS ?_ ?_<;>intro _)
            refine Go.drawn hr hq5 rfl rfl rfl val_ok ?_
            rintro _ q6 hq6 ⟨w, hw, rfl⟩
            repeat' first|refine yaG ?_|(exfalso;omega)|(refine yaS ?_ ?_<;>intro _)
            refine Go.app1 (k := 0) (ys := vs.map encV) (junk := junk) (z := encV w) rfl rfl rfl rfl rfl lens hj rfl hbd fun u' junk' hj' => ?_
            repeat' first|refine yaG ?_|(exfalso;omega)|(refine yaS ?_ ?_<;>intro _)
            refine Go.freezeN (l := [(u', vs.map encV ++ [encV w] ++ junk')]) (m := [(0, [encV w])]) (fr' := [(0, .c (.ptr id v 0 0)), (3, .c (.fp (encTable t))), (5, .c (vec (σ.next + 0) u' ((vs ++ [w]).map encV) junk')), (6, .c (.int .i64 (IntKind.i64.wrap (k + 1))))]) (hr.old hS) (keepF _ _ _ hj') (Nat.le_refl _) (.frz rfl (.refl (old_ptr (Nat.lt_succ_of_lt hr.2.1))) (.frz rfl (.refl (hT _ (Nat.le_succ _))) (.frz (by rw [List.map_append]; rfl) (.refl (old_sl (Nat.lt_succ_self _))) (.frz rfl (.refl old_c) .nil)))) ?_
            exact fin w q6 u' junk' (by simp [bV, vNull, vInt] <;> omega) hq6 hj' _ _ rfl (by rw [List.map_append]; rfl)
        · repeat' first|refine yaG ?_|(exfalso;omega)|(refine yaS ?_ ?_<;>intro _)
          refine Go.drawn hr hq4 rfl rfl rfl (once_ok 60 (by decide) (by decide)) ?_
          rintro _ q5 hq5 ⟨b6, rfl⟩
          cases b6
          · repeat' first|refine yaG ?_|(exfalso;omega)|(refine yaS ?_ ?_<;>intro _)
            refine Go.app1 (k := 0) (ys := vs.map encV) (junk := junk) (z := encV vNull) rfl rfl rfl rfl rfl lens hj rfl hbd fun u' junk' hj' => ?_
            repeat' first|refine yaG ?_|(exfalso;omega)|(refine yaS ?_ ?_<;>intro _)
            refine Go.freezeN (l := [(u', vs.map encV ++ [encV vNull] ++ junk')]) (m := [(0, [encV vNull])]) (fr' := [(0, .c (.ptr id v 0 0)), (3, .c (.fp (encTable t))), (5, .c (vec (σ.next + 0) u' ((vs ++ [vNull]).map encV) junk')), (6, .c (.int .i64 (IntKind.i64.wrap (k + 1))))]) (hr.old hS) (keepF _ _ _ hj') (Nat.le_refl _) (.frz rfl (.refl (old_ptr (Nat.lt_succ_of_lt hr.2.1))) (.frz rfl (.refl (hT _ (Nat.le_succ _))) (.frz (by rw [List.map_append]; rfl) (.refl (old_sl (Nat.lt_succ_self _))) (.frz rfl (.refl old_c) .nil)))) ?_
            exact fin vNull q5 u' junk' (by simp [bV, vNull, vInt] <;> omega) hq5 hj' _ _ rfl (by rw [List.map_append]; rfl)
          · repeat' first|refine yaG ?_|(exfalso;omega)|(refine yaS ?_ ?_<;>intro _)
            refine Go.drawn hr hq5 rfl rfl rfl val_ok ?_
            rintro _ q6 hq6 ⟨w, hw, rfl⟩
            repeat' first|refine yaG ?_|(exfalso;omega)|(refine yaS ?_ ?_<;>intro _)
            refine Go.app1 (k := 0) (ys := vs.map encV) (junk := junk) (z := encV w) rfl rfl rfl rfl rfl lens hj rfl hbd fun u' junk' hj' => ?_
            repeat' first|refine yaG ?_|(exfalso;omega)|(refine yaS ?_ ?_<;>intro _)
            refine Go.freezeN (l := [(u', vs.map encV ++ [encV w] ++ junk')]) (m := [(0, [encV w])]) (fr' := [(0, .c (.ptr id v 0 0)), (3, .c (.fp (encTable t))), (5, .c (vec (σ.next + 0) u' ((vs ++ [w]).map encV) junk')), (6, .c (.int .i64 (IntKind.i64.wrap (k + 1))))]) (hr.old hS) (keepF _ _ _ hj') (Nat.le_refl _) (.frz rfl (.refl (old_ptr (Nat.lt_succ_of_lt hr.2.1))) (.frz rfl (.refl (hT _ (Nat.le_succ _))) (.frz (by rw [List.map_append]; rfl) (.refl (old_sl (Nat.lt_succ_self _))) (.frz rfl (.refl old_c) .nil)))) ?_
            exact fin w q6 u' junk' (by simp [bV, vNull, vInt] <;> omega) hq6 hj' _ _ rfl (by rw [List.map_append]; rfl)
    · have ht : True := trivial
      refine Go.drawn hr hq1 rfl rfl rfl (once_ok 8 (by decide) (by decide)) ?_
      rintro _ q4 hq4 ⟨b5, rfl⟩
      cases b5
      · repeat' first|refine yaG ?_|(exfalso;omega)|(refine yaS ?_ ?_<;>intro _)
        refine Go.drawn hr hq4 rfl rfl rfl (once_ok 60 (by decide) (by decide)) ?_
        rintro _ q5 hq5 ⟨b6, rfl⟩
        cases b6
        · repeat' first|refine yaG ?_|(exfalso;omega)|(refine yaS ?_ ?_<;>intro _)
          refine Go.app1 (k := 0) (ys := vs.map encV) (junk := junk) (z := encV (vInt a)) rfl rfl rfl rfl rfl lens hj rfl hbd fun u' junk' hj' => ?_
          repeat' first|refine yaG ?_|(exfalso;omega)|(refine yaS ?_ ?_<;>intro _)
          refine Go.freezeN (l := [(u', vs.map encV ++ [encV (vInt a)] ++ junk')]) (m := [(0, [encV (vInt a)])]) (fr' := [(0, .c (.ptr id v 0 0)), (3, .c (.fp (encTable t))), (5, .c (vec (σ.next + 0) u' ((vs ++ [(vInt a)]).map encV) junk')), (6, .c (.int .i64 (IntKind.i64.wrap (k + 1))))]) (hr.old hS) (keepF _ _ _ hj') (Nat.le_refl _) (.frz rfl (.refl (old_ptr (Nat.lt_succ_of_lt hr.2.1))) (.frz rfl (.refl (hT _ (Nat.le_succ _))) (.frz (by rw [List.map_append]; rfl) (.refl (old_sl (Nat.lt_succ_self _))) (.frz rfl (.refl old_c) .nil)))) ?_
          exact fin (vInt a) q5 u' junk' (by simp [bV, vNull, vInt] <;> omega) hq5 hj' _ _ rfl (by rw [List.map_append]; rfl)
        · repeat' first|refine yaG ?_|(exfalso;omega)|(refine yaS ?_ ?_<;>intro _)
          refine Go.drawn hr hq5 rfl rfl rfl val_ok ?_
          rintro _ q6 hq6 ⟨w, hw, rfl⟩
          repeat' first|refine yaG ?_|(exfalso;omega)|(refine yaS ?_ ?_<;>intro _)
          refine Go.app1 (k := 0) (ys := vs.map encV) (junk := junk) (z := encV w) rfl rfl rfl rfl rfl lens hj rfl hbd fun u' junk' hj' => ?_
          repeat' first|refine yaG ?_|(exfalso;omega)|(refine yaS ?_ ?_<;>intro _)
          refine Go.freezeN (l := [(u', vs.map encV ++ [encV w] ++ junk')]) (m := [(0, [encV w])]) (fr' := [(0, .c (.ptr id v 0 0)), (3, .c (.fp (encTable t))), (5, .c (vec (σ.next + 0) u' ((vs ++ [w]).map encV) junk')), (6, .c (.int .i64 (IntKind.i64.wrap (k + 1))))]) (hr.old hS) (keepF _ _ _ hj') (Nat.le_refl _) (.frz rfl (.refl (old_ptr (Nat.lt_succ_of_lt hr.2.1))) (.frz rfl (.refl (hT _ (Nat.le_succ _))) (.frz (by rw [List.map_append]; rfl) (.refl (old_sl (Nat.lt_succ_self _))) (.frz rfl (.refl old_c) .nil)))) ?_
          exact fin w q6 u' junk' (by simp [bV, vNull, vInt] <;> omega) hq6 hj' _ _ rfl (by rw [List.map_append]; rfl)
      · repeat' first|refine yaG ?_|(exfalso;omega)|(refine yaS ?_ ?_<;>intro _)
        refine Go.drawn hr hq4 rfl rfl rfl (once_ok 60 (by decide) (by decide)) ?_
        rintro _ q5 hq5 ⟨b6, rfl⟩
        cases b6
        · repeat' first|refine yaG ?_|(exfalso;omega)|(refine yaS ?_ ?_<;>intro _)
          refine Go.app1 (k := 0) (ys := vs.map encV) (junk := junk) (z := encV vNull) rfl rfl rfl rfl rfl lens hj rfl hbd fun u' junk' hj' => ?_
          repeat' first|refine yaG ?_|(exfalso;omega)|(refine yaS ?_ ?_<;>intro _)
          refine Go.freezeN (l := [(u', vs.map encV ++ [encV vNull] ++ junk')]) (m := [(0, [encV vNull])]) (fr' := [(0, .c (.ptr id v 0 0)), (3, .c (.fp (encTable t))), (5, .c (vec (σ.next + 0) u' ((vs ++ [vNull]).map encV) junk')), (6, .c (.int .i64 (IntKind.i64.wrap (k + 1))))]) (hr.old hS) (keepF _ _ _ hj') (Nat.le_refl _) (.frz rfl (.refl (old_ptr (Nat.lt_succ_of_lt hr.2.1))) (.frz rfl (.refl (hT _ (Nat.le_succ _))) (.frz (by rw [List.map_append]; rfl) (.refl (old_sl (Nat.lt_succ_self _))) (.frz rfl (.refl old_c) .nil)))) ?_
          exact fin vNull q5 u' junk' (by simp [bV, vNull, vInt] <;> omega) hq5 hj' _ _ rfl (by rw [List.map_append]; rfl)
        · repeat' first|refine yaG ?_|(exfalso;omega)|(refine yaS ?_ ?_<;>intro _)
          refine Go.drawn hr hq5 rfl rfl rfl val_ok ?_
          rintro _ q6 hq6 ⟨w, hw, rfl⟩
          repeat' first|refine yaG ?_|(exfalso;omega)|(refine yaS ?_ ?_<;>intro _)
          refine Go.app1 (k := 0) (ys := vs.map encV) (junk := junk) (z := encV w) rfl rfl rfl rfl rfl lens hj rfl hbd fun u' junk' hj' => ?_
          repeat' first|refine yaG ?_|(exfalso;omega)|(refine yaS ?_ ?_<;>intro _)
          refine Go.freezeN (l := [(u', vs.map encV ++ [encV w] ++ junk')]) (m := [(0, [encV w])]) (fr' := [(0, .c (.ptr id v 0 0)), (3, .c (.fp (encTable t))), (5, .c (vec (σ.next + 0) u' ((vs ++ [w]).map encV) junk')), (6, .c (.int .i64 (IntKind.i64.wrap (k + 1))))]) (hr.old hS) (keepF _ _ _ hj') (Nat.le_refl _) (.frz rfl (.refl (old_ptr (Nat.lt_succ_of_lt hr.2.1))) (.frz rfl (.refl (hT _ (Nat.le_succ _))) (.frz (by rw [List.map_append]; rfl) (.refl (old_sl (Nat.lt_succ_self _))) (.frz rfl (.refl old_c) .nil)))) ?_
          exact fin w q6 u' junk' (by simp [bV, vNull, vInt] <;> omega) hq6 hj' _ _ rfl (by rw [List.map_append]; rfl)
  · repeat' first|refine yaG ?_|(exfalso;omega)|(refine yaS ?_ ?_<;>intro _)
    exact .ret rfl ⟨q, vs, u, junk, hq, by omega, hb, hj, rfl, rfl⟩
end Go.Proofs.YtdgnfdljkghpjaaGreat.Am

/- The reader that draws: schemas. -/
set_option linter.unusedVariables false
set_option linter.unusedSimpArgs false
namespace Go.Proofs.YtdgnfdljkghpjaaGreat.Am

/-- Where ways meet, what follows kept from sight. -/
theorem Go.meet {P : Program} {n0 nt : Nat} {rets : List RV} {R : AV → Store → Prop} {K K' : List AK} {fr : Fr} {σ : Store} (I : Fr → Store → Prop) (h2 : ∀ K, (∀ fr σ, I fr σ → Go P n0 nt rets R K fr σ) → Go P n0 nt rets R (K' ++ K) fr σ) (h1 : ∀ fr σ, I fr σ → Go P n0 nt rets R K fr σ) : Go P n0 nt rets R (K' ++ K) fr σ := h2 K h1
/-- A cell that is a frozen slice's, or a nil one's. -/
def NF (x : Ce) (ys : List (List Ce)) : Prop := x = .fz ys ∨ (x = .nils ∧ ys = [])
def OldL (n : Nat) (ys : List (List Ce)) : Prop := ∀ e ∈ ys, ∀ c ∈ e, Old n c
theorem NF.frz {τ : Store} {n : Nat} {x : Ce} {ys : List (List Ce)} (h : NF x ys) (ho : OldL n ys) : Frz τ n x (.fz ys) := by
  rcases h with rfl | ⟨rfl, rfl⟩
  · exact .same _ (.fz _ fun i j hi hj => ho _ (List.getElem_mem hi) _ (List.getElem_mem hj))
  · exact .nil
theorem NF.old {n : Nat} {x : Ce} {ys : List (List Ce)} (h : NF x ys) (ho : OldL n ys) : Old n x := by
  rcases h with rfl | ⟨rfl, rfl⟩
  · exact .fz _ fun i j hi hj => ho _ (List.getElem_mem hi) _ (List.getElem_mem hj)
  · exact .nils
theorem oldL_flat {n : Nat} {ys : List (List Ce)} (h : ∀ e ∈ ys, ∀ x ∈ e, Flat x) : OldL n ys := fun e he c hc => (h e he c hc).old _
theorem old_fz1 {n : Nat} {ys : List (List Ce)} (h : OldL n ys) : Old n (.fz ys) := .fz _ fun i j hi hj => h _ (List.getElem_mem hi) _ (List.getElem_mem hj)
theorem oldCols {n : Nat} (l : List Col) : OldL n (l.map encCol) := oldL_flat fun e he x hx => by
  obtain ⟨a, _, rfl⟩ := List.mem_map.1 he
  exact flatCol a x hx
theorem oldInts {n : Nat} (l : List Int) : OldL n (l.map encI) := oldL_flat fun e he x hx => (flatI l e he).2 x hx
theorem oldUniqs {n : Nat} (l : List Uniq) : OldL n (l.map encUniq) := fun e he c hc => by
  obtain ⟨a, _, rfl⟩ := List.mem_map.1 he
  simp only [encUniq, List.mem_cons, List.not_mem_nil, or_false] at hc
  subst hc
  exact old_fz1 (oldInts _)
theorem oldChks {n : Nat} (l : List Chk) : OldL n (l.map encChk) := fun e he c hc => by
  obtain ⟨a, _, rfl⟩ := List.mem_map.1 he
  simp only [encChk, List.mem_cons, List.not_mem_nil, or_false] at hc
  subst hc
  exact old_fz1 (oldL_flat flatTs)
theorem oldFks {n : Nat} (l : List Fk) : OldL n (l.map encFk) := fun e he c hc => by
  obtain ⟨a, _, rfl⟩ := List.mem_map.1 he
  simp only [encFk, List.mem_cons, List.not_mem_nil, or_false] at hc
  rcases hc with rfl | rfl | rfl | rfl | rfl
  · exact old_fz1 (oldInts _)
  all_goals constructor
/-- The cells of a table that is frozen but for nil slices. -/
structure TabC (e : List Ce) (t : Table) : Prop where
  has : ∃ x2 x3 x4 x5, e = [.str t.name, .fz (t.cols.map encCol), x2, x3, x4, x5] ∧ NF x2 (t.key.map encI) ∧ NF x3 (t.uniques.map encUniq) ∧ NF x4 (t.checks.map encChk) ∧ NF x5 (t.fks.map encFk)
/-- What a drawn table is like. -/
structure SmallT (t : Table) : Prop where
  b : bTable 12 t
  lo : 2 ≤ t.cols.length
  hi : t.cols.length ≤ 3
def SchD (s : List Table) : Prop := 1 ≤ s.length ∧ s.length ≤ 3 ∧ ∀ t ∈ s, SmallT t
def Schemas (r : AV) : Prop := ∃ s : List Table, SchD s ∧ r = .c (.fz (s.map encTable))
/-- The rest of a drawn schema, with its cells. -/
def Rest (ps : List (List Ce × Table)) : Prop := ∀ p ∈ ps, TabC p.1 p.2 ∧ SmallT p.2
def colK : Col := ⟨[107], 1, true, vNull⟩
def colT : Col := ⟨[116], 2, false, vNull⟩
def colN : Col := ⟨[110], 1, false, vInt 1⟩
/-- The first table's cells, its columns owned. -/
def headC (nm : List UInt8) (id : Nat) (x2 x3 x4 : Ce) : List Ce := [.str nm, .sl id 0 0 3 3, x2, x3, x4, .nils]
structure Head (x3 x4 : Ce) (us : List Uniq) (ks : List Chk) : Prop where
  u : NF x3 (us.map encUniq)
  k : NF x4 (ks.map encChk)
  bu : us.length ≤ 12 ∧ ∀ x ∈ us, bUniq 12 x
  bk : ks.length ≤ 12 ∧ ∀ x ∈ ks, bChk 12 x
/-- What is made is a schema. -/
theorem schema_frz {σ : Store} {u : Nat} {nm : List UInt8} {x2 x3 x4 : Ce} {c0 c1 c2 : Col} {key : List Int} {us : List Uniq} {ks : List Chk} {ps : List (List Ce × Table)} {junk pb : List (List Ce)} {vb : Nat}
    (hnm : nm.length ≤ 12) (hk : key.length ≤ 12) (h2 : NF x2 (key.map encI)) (hH : Head x3 x4 us ks) (hb : bCol 12 c0 ∧ bCol 12 c1 ∧ bCol 12 c2) (hR : Rest ps) (hp : ps.length ≤ 2) :
    ∃ s : List Table, SchD s ∧ FrzV (E σ [(0, [encCol c0, encCol c1, encCol c2]), (vb, pb), (u, headC nm (σ.next + 0) x2 x3 x4 :: ps.map Prod.fst ++ junk)]) σ.next (.c (vec (σ.next + 2) u (headC nm (σ.next + 0) x2 x3 x4 :: ps.map Prod.fst) junk)) (.c (.fz (s.map encTable))) := by
  obtain ⟨p, hpdef⟩ : ∃ p : Table, p = ⟨nm, [c0, c1, c2], key, us, ks, []⟩ := ⟨_, rfl⟩
  have hsp : SmallT p := by
    subst hpdef
    refine ⟨⟨hnm, ⟨by simp, fun x hx => ?_⟩, hk, hH.bu, hH.bk, by simp, fun x hx => by simp at hx⟩, by simp, by simp⟩
    simp only [List.mem_cons, List.not_mem_nil, or_false] at hx
    rcases hx with rfl | rfl | rfl
    · exact hb.1
    · exact hb.2.1
    · exact hb.2.2
  refine ⟨p :: ps.map Prod.snd, ⟨by simp, by simp; omega, fun t ht => ?_⟩, ?_⟩
  · rcases List.mem_cons.1 ht with rfl | ht
    · exact hsp
    · obtain ⟨q, hq, rfl⟩ := List.mem_map.1 ht
      exact (hR q hq).2
  · have hlen : (headC nm (σ.next + 0) x2 x3 x4 :: ps.map Prod.fst).length = ps.length + 1 := by simp
    have hcell : ∀ (q : List Ce × Table), q ∈ ps → q.1.length = 6 ∧ ∀ j (h1 : j < q.1.length) (h2 : j < (encTable q.2).length), Frz (E σ [(0, [encCol c0, encCol c1, encCol c2]), (vb, pb), (u, headC nm (σ.next + 0) x2 x3 x4 :: ps.map Prod.fst ++ junk)]) σ.next q.1[j] (encTable q.2)[j] := fun q hq => by
      obtain ⟨y2, y3, y4, y5, he, k2, k3, k4, k5⟩ := (hR q hq).1.has
      refine ⟨by rw [he]; rfl, ?_⟩
      generalize q.1 = e at he
      subst he
      intro j h1 h2
      have hj : j = 0 ∨ j = 1 ∨ j = 2 ∨ j = 3 ∨ j = 4 ∨ j = 5 := by simp at h1; omega
      rcases hj with rfl | rfl | rfl | rfl | rfl | rfl
      · exact .same _ (.str _)
      · exact .same _ (old_fz1 (oldCols _))
      · exact k2.frz (oldInts _)
      · exact k3.frz (oldUniqs _)
      · exact k4.frz (oldChks _)
      · exact k5.frz (oldFks _)
    have hcols : Frz (E σ [(0, [encCol c0, encCol c1, encCol c2]), (vb, pb), (u, headC nm (σ.next + 0) x2 x3 x4 :: ps.map Prod.fst ++ junk)]) σ.next (.sl (σ.next + 0) 0 0 3 3) (.fz ([c0, c1, c2].map encCol)) := by
      have := frz_drop (σ := σ) (l := [(0, [encCol c0, encCol c1, encCol c2]), (vb, pb), (u, headC nm (σ.next + 0) x2 x3 x4 :: ps.map Prod.fst ++ junk)]) (k := 0) (v := 0) (n := 0) (c := 3) (N := σ.next) (ys := [c0, c1, c2].map encCol) (junk := []) rfl (fun e he x hx => by
        obtain ⟨a, _, rfl⟩ := List.mem_map.1 he
        exact flatCol a x hx) (Nat.zero_le _) (Nat.le_refl _)
      cases this with
      | c h => exact h
    have hhead : ∀ j (h1 : j < (headC nm (σ.next + 0) x2 x3 x4).length) (h2 : j < (encTable p).length), Frz (E σ [(0, [encCol c0, encCol c1, encCol c2]), (vb, pb), (u, headC nm (σ.next + 0) x2 x3 x4 :: ps.map Prod.fst ++ junk)]) σ.next (headC nm (σ.next + 0) x2 x3 x4)[j] (encTable p)[j] := by
      subst hpdef
      intro j h1 h2'
      have hj : j = 0 ∨ j = 1 ∨ j = 2 ∨ j = 3 ∨ j = 4 ∨ j = 5 := by simp [headC] at h1; omega
      rcases hj with rfl | rfl | rfl | rfl | rfl | rfl
      · exact .same _ (.str _)
      · exact hcols
      · exact h2.frz (oldInts _)
      · exact hH.u.frz (oldUniqs _)
      · exact hH.k.frz (oldChks _)
      · exact .nil
    refine .c (.sl _ _ _ _ _ (headC nm (σ.next + 0) x2 x3 x4 :: ps.map Prod.fst ++ junk) _ (Nat.le_add_right _ _) (E_get (k := 2) rfl) (by rw [List.length_append]; omega) (by simp) (fun i hi => ?_) (fun i j hi hj => ?_))
    · cases i with
      | zero => rfl
      | succ i =>
        have hi2 : i < ps.length := by rw [hlen] at hi; omega
        simp only [Nat.zero_add, List.cons_append, List.map_cons, List.getElem_cons_succ, List.map_map, List.getElem_map]
        rw [List.getElem_append_left (by simpa using hi2), List.getElem_map, (hcell _ (List.getElem_mem hi2)).1]
        rfl
    · cases i with
      | zero => exact hhead j hj hj
      | succ i =>
        have hi2 : i < ps.length := by rw [hlen] at hi; omega
        have hz := hcell _ (List.getElem_mem hi2)
        simp only [Nat.zero_add, List.cons_append, List.map_cons, List.getElem_cons_succ, List.map_map, List.getElem_map]
        have e1 : (ps.map Prod.fst ++ junk)[i]'(by simp; omega) = ps[i].1 := by rw [List.getElem_append_left (by simpa using hi2), List.getElem_map]
        simp only [e1]
        exact hz.2 j (by rw [hz.1]; have h6 : j < (encTable ps[i].2).length := (by simpa using hj); exact h6) _
theorem schema_ok : Draws Tryz.prog 76 [] Schemas := by
  refine Draws.run mixed c_spec_l1Rd_schema_ok (Nat.le_of_ble_eq_true rfl) fun σ id v code p hr hp hc hS => ?_
  clear hS
  repeat' first|refine yaN ?_|((first|apply yQ|apply yR|apply yS);(iterate 3 exact rfl);exact l1Int_ok _)|(exfalso;omega)|(refine yaS ?_ ?_<;>intro _)
  refine Go.meet (K' := [_, _]) (fun fr τ => ∃ (q : Nat) (x3 : Ce) (us : List Uniq), q ≤ code.length ∧ (NF x3 (us.map encUniq) ∧ us.length ≤ 12 ∧ ∀ x ∈ us, bUniq 12 x) ∧ fr = [(0, .c (.ptr id v 0 0)), (3, .c (.ptr (σ.next + 1) 0 0 0))] ∧
    τ = E (Rd.go σ id v code q) [(0, [encCol colK, encCol colT, encCol colN]), (0, [headC [112] (σ.next + 0) (.fz ([0].map encI)) x3 .nils])]) (fun K h => ?_) ?_
  · refine Go.drawn hr hp rfl rfl rfl (once_ok 2 (by decide) (by decide)) ?_
    rintro _ q hq ⟨b, rfl⟩
    cases b
    · repeat' first|refine yaN ?_|(exfalso;omega)|(refine yaS ?_ ?_<;>intro _)
      exact Go.keep [0, 3] (h _ _ ⟨q, .nils, [], hq, ⟨.inr ⟨rfl, rfl⟩, by decide, fun x hx => by simp at hx⟩, rfl, rfl⟩)
    · repeat' first|refine yaN ?_|(exfalso;omega)|(refine yaS ?_ ?_<;>intro _)
      exact Go.keep [0, 3] (h _ _ ⟨q, _, [⟨[2]⟩], hq, ⟨.inl rfl, by decide, fun x hx => by rw [List.mem_singleton.1 hx]; simp [bUniq]⟩, rfl, rfl⟩)
  rintro fr τ ⟨q, x3, us, hq, h3, rfl, rfl⟩
  clear hp
  repeat' first|refine yaN ?_|(exfalso;omega)|(refine yaS ?_ ?_<;>intro _)
  refine Go.meet (K' := [_, _]) (fun fr τ => ∃ (q : Nat) (x4 : Ce) (ks : List Chk), q ≤ code.length ∧ (NF x4 (ks.map encChk) ∧ ks.length ≤ 12 ∧ ∀ x ∈ ks, bChk 12 x) ∧ fr = [(0, .c (.ptr id v 0 0)), (3, .c (.ptr (σ.next + 1) 0 0 0))] ∧
    τ = E (Rd.go σ id v code q) [(0, [encCol colK, encCol colT, encCol colN]), (0, [headC [112] (σ.next + 0) (.fz ([0].map encI)) x3 x4])]) (fun K h => ?_) ?_
  · refine Go.drawn hr hq rfl rfl rfl (once_ok 2 (by decide) (by decide)) ?_
    rintro _ q2 hq2 ⟨b, rfl⟩
    cases b
    · repeat' first|refine yaN ?_|(exfalso;omega)|(refine yaS ?_ ?_<;>intro _)
      exact Go.keep [0, 3] (h _ _ ⟨q2, .nils, [], hq2, ⟨.inr ⟨rfl, rfl⟩, by decide, fun x hx => by simp at hx⟩, rfl, rfl⟩)
    · repeat' first|refine yaN ?_|((first|apply yQ|apply yR|apply yS);(iterate 3 exact rfl);exact l1Int_ok _)|((first|apply yQ|apply yR|apply yS);(iterate 3 exact rfl);exact l2Col_ok _)|((first|apply yQ|apply yR|apply yS);(iterate 3 exact rfl);exact l2Const_ok _)|(exfalso;omega)|(refine yaS ?_ ?_<;>intro _)
      exact Go.keep [0, 3] (h _ _ ⟨q2, _, [⟨[tCol 0, tConst (vInt 4), ⟨4, 0, vNull⟩]⟩], hq2, ⟨.inl rfl, by decide, fun x hx => by
        rw [List.mem_singleton.1 hx]
        refine ⟨by decide, fun t ht => ?_⟩
        simp only [List.mem_cons, List.not_mem_nil, or_false] at ht
        rcases ht with rfl | rfl | rfl <;> exact Nat.zero_le _⟩, rfl, rfl⟩)
  rintro fr τ ⟨q2, x4, ks, hq2, h4, rfl, rfl⟩
  have hH : Head x3 x4 us ks := ⟨h3.1, h4.1, h3.2, h4.2⟩
  clear hq h3 h4
  repeat' first|refine yaN ?_|(exfalso;omega)|(refine yaS ?_ ?_<;>intro _)
  refine Go.meet (K' := [_, _]) (fun fr τ => ∃ (q u : Nat) (ps : List (List Ce × Table)) (junk : List (List Ce)), q ≤ code.length ∧ Rest ps ∧ ps.length ≤ 1 ∧ Jk 6 junk ∧ fr = [(0, .c (.ptr id v 0 0)), (4, .c (vec (σ.next + 2) u (headC [112] (σ.next + 0) (.fz ([0].map encI)) x3 x4 :: ps.map Prod.fst) junk))] ∧
    τ = E (Rd.go σ id v code q) [(0, [encCol colK, encCol colT, encCol colN]), (0, [headC [112] (σ.next + 0) (.fz ([0].map encI)) x3 x4]), (u, headC [112] (σ.next + 0) (.fz ([0].map encI)) x3 x4 :: ps.map Prod.fst ++ junk)]) (fun K h => ?_) ?_
  · refine Go.drawn hr hq2 rfl rfl rfl (once_ok 4 (by decide) (by decide)) ?_
    rintro _ q3 hq3 ⟨b, rfl⟩
    cases b
    · repeat' first|refine yaG ?_|(exfalso;omega)|(refine yaS ?_ ?_<;>intro _)
      refine Go.drawn hr hq3 rfl rfl rfl (once_ok 4 (by decide) (by decide)) ?_
      rintro _ q4 hq4 ⟨b1, rfl⟩
      repeat' first|refine yaG ?_|(exfalso;omega)|(refine yaS ?_ ?_<;>intro _)
      refine Go.drawn hr hq4 rfl rfl rfl action_ok ?_
      rintro _ q5 hq5 ⟨a1, ha0, ha1, rfl⟩
      repeat' first|refine yaG ?_|(exfalso;omega)|(refine yaS ?_ ?_<;>intro _)
      refine Go.drawn hr hq5 rfl rfl rfl action_ok ?_
      rintro _ q6 hq6 ⟨a2, ha2, ha3, rfl⟩
      repeat' first|refine yaG ?_|(exfalso;omega)|(refine yaS ?_ ?_<;>intro _)
      refine Go.drawn hr hq6 rfl rfl rfl (once_ok 4 (by decide) (by decide)) ?_
      rintro _ q7 hq7 ⟨b2, rfl⟩
      repeat' first|refine yaG ?_|(exfalso;omega)|(refine yaS ?_ ?_<;>intro _)
      refine Go.app1 (k := 2) (ys := [headC [112] (σ.next + 0) (.fz ([0].map encI)) x3 x4]) (junk := []) (z := [.str [99], .fz ([colK, ⟨[112], 1, b1, vNull⟩].map encCol), .fz ([0].map encI), .nils, .nils, .fz ([⟨[1], [112], a1, a2, b2⟩].map encFk)]) rfl rfl rfl rfl rfl (fun e he => by rw [List.mem_singleton.1 he]; rfl) Jk.nil rfl (by simp) fun u' junk' hj' => ?_
      repeat' first|refine yaG ?_|(exfalso;omega)|(refine yaS ?_ ?_<;>intro _)
      refine Go.keep [0, 4] (h _ _ ⟨q7, u', [([.str [99], .fz ([colK, ⟨[112], 1, b1, vNull⟩].map encCol), .fz ([0].map encI), .nils, .nils, .fz ([⟨[1], [112], a1, a2, b2⟩].map encFk)], ⟨[99], [colK, ⟨[112], 1, b1, vNull⟩], [0], [], [], [⟨[1], [112], a1, a2, b2⟩]⟩)], junk', hq7, fun p hp => ?_, by simp, hj', rfl, rfl⟩)
      rw [List.mem_singleton.1 hp]
      exact ⟨⟨⟨_, _, _, _, rfl, .inl rfl, .inr ⟨rfl, rfl⟩, .inr ⟨rfl, rfl⟩, .inl rfl⟩⟩, ⟨⟨by simp, ⟨by simp, fun x hx => by
        simp only [List.mem_cons, List.not_mem_nil, or_false] at hx
        rcases hx with rfl | rfl <;> simp [bCol, bV, colK, vNull]⟩, by simp, ⟨by simp, fun x hx => by simp at hx⟩, ⟨by simp, fun x hx => by simp at hx⟩, by simp, fun x hx => by rw [List.mem_singleton.1 hx]; simp [bFk]⟩, by simp, by simp⟩⟩
    · repeat' first|refine yaG ?_|(exfalso;omega)|(refine yaS ?_ ?_<;>intro _)
      exact Go.keep [0, 4] (h _ _ ⟨q3, 0, [], [], hq3, fun p hp => by simp at hp, by simp, Jk.nil, rfl, rfl⟩)
  rintro fr τ ⟨q3, u, ps, junk, hq3, hps, hpl, hj, rfl, rfl⟩
  clear hq2
  have hlen : ∀ e ∈ headC [112] (σ.next + 0) (.fz ([0].map encI)) x3 x4 :: ps.map Prod.fst, e.length = 6 := fun e he => by
    rcases List.mem_cons.1 he with rfl | he
    · rfl
    · obtain ⟨p, hp, rfl⟩ := List.mem_map.1 he
      obtain ⟨_, _, _, _, h1, _⟩ := (hps p hp).1.has
      rw [h1]
      rfl
  repeat' first|refine yaG ?_|(exfalso;omega)|(refine yaS ?_ ?_<;>intro _)
  refine Go.meet (K' := [_, _]) (fun fr τ => ∃ (q u : Nat) (ps : List (List Ce × Table)) (junk : List (List Ce)), q ≤ code.length ∧ Rest ps ∧ ps.length ≤ 2 ∧ Jk 6 junk ∧ fr = [(0, .c (.ptr id v 0 0)), (4, .c (vec (σ.next + 2) u (headC [112] (σ.next + 0) (.fz ([0].map encI)) x3 x4 :: ps.map Prod.fst) junk))] ∧
    τ = E (Rd.go σ id v code q) [(0, [encCol colK, encCol colT, encCol colN]), (0, [headC [112] (σ.next + 0) (.fz ([0].map encI)) x3 x4]), (u, headC [112] (σ.next + 0) (.fz ([0].map encI)) x3 x4 :: ps.map Prod.fst ++ junk)]) (fun K h => ?_) ?_
  · refine Go.drawn hr hq3 rfl rfl rfl (once_ok 3 (by decide) (by decide)) ?_
    rintro _ q4 hq4 ⟨b, rfl⟩
    cases b
    · repeat' first|refine yaG ?_|(exfalso;omega)|(refine yaS ?_ ?_<;>intro _)
      exact Go.keep [0, 4] (h _ _ ⟨q4, u, ps, junk, hq4, hps, by omega, hj, rfl, rfl⟩)
    · repeat' first|refine yaG ?_|(exfalso;omega)|(refine yaS ?_ ?_<;>intro _)
      refine Go.drawn hr hq4 rfl rfl rfl action_ok ?_
      rintro _ q5 hq5 ⟨a1, ha0, ha1, rfl⟩
      repeat' first|refine yaG ?_|(exfalso;omega)|(refine yaS ?_ ?_<;>intro _)
      refine Go.drawn hr hq5 rfl rfl rfl action_ok ?_
      rintro _ q6 hq6 ⟨a2, ha2, ha3, rfl⟩
      repeat' first|refine yaG ?_|(exfalso;omega)|(refine yaS ?_ ?_<;>intro _)
      refine Go.app1 (k := 2) (ys := headC [112] (σ.next + 0) (.fz ([0].map encI)) x3 x4 :: ps.map Prod.fst) (junk := junk) (z := [.str [116, 114, 101, 101], .fz ([colK, ⟨[117, 112], 1, false, vNull⟩].map encCol), .fz ([0].map encI), .nils, .nils, .fz ([⟨[1], [116, 114, 101, 101], a1, a2, false⟩].map encFk)]) rfl rfl rfl rfl rfl hlen hj rfl (by simp; omega) fun u' junk' hj' => ?_
      repeat' first|refine yaG ?_|(exfalso;omega)|(refine yaS ?_ ?_<;>intro _)
      refine Go.keep [0, 4] (h _ _ ⟨q6, u', ps ++ [([.str [116, 114, 101, 101], .fz ([colK, ⟨[117, 112], 1, false, vNull⟩].map encCol), .fz ([0].map encI), .nils, .nils, .fz ([⟨[1], [116, 114, 101, 101], a1, a2, false⟩].map encFk)], ⟨[116, 114, 101, 101], [colK, ⟨[117, 112], 1, false, vNull⟩], [0], [], [], [⟨[1], [116, 114, 101, 101], a1, a2, false⟩]⟩)], junk', hq6, fun p hp => ?_, by simp; omega, hj', by rw [List.map_append]; rfl, by rw [List.map_append]; rfl⟩)
      rcases List.mem_append.1 hp with hp | hp
      · exact hps p hp
      rw [List.mem_singleton.1 hp]
      exact ⟨⟨⟨_, _, _, _, rfl, .inl rfl, .inr ⟨rfl, rfl⟩, .inr ⟨rfl, rfl⟩, .inl rfl⟩⟩, ⟨⟨by simp, ⟨by simp, fun x hx => by
        simp only [List.mem_cons, List.not_mem_nil, or_false] at hx
        rcases hx with rfl | rfl <;> simp [bCol, bV, colK, vNull]⟩, by simp, ⟨by simp, fun x hx => by simp at hx⟩, ⟨by simp, fun x hx => by simp at hx⟩, by simp, fun x hx => by rw [List.mem_singleton.1 hx]; simp [bFk]⟩, by simp, by simp⟩⟩
  clear hps hpl hj hlen hq3
  clear u ps junk
  rintro fr τ ⟨q4, u, ps, junk, hq4, hps, hpl, hj, rfl, rfl⟩
  repeat' first|refine yaG ?_|(exfalso;omega)|(refine yaS ?_ ?_<;>intro _)
  refine Go.drawn hr hq4 rfl rfl rfl (below_ok 40 (by decide) (by decide)) ?_
  intro r q5 hq5 hz
  obtain ⟨k, hk, rfl⟩ := below_lt (by decide) hz
  have hcb : bCol 12 colK ∧ bCol 12 colT ∧ bCol 12 colN := ⟨by simp [bCol, bV, colK, vNull], by simp [bCol, bV, colT, vNull], by simp [bCol, bV, colN, vInt]⟩
  have hget : ∀ q : Nat, (E (Rd.go σ id v code q) [(0, [encCol colK, encCol colT, encCol colN]), (0, [headC [112] (σ.next + 0) (.fz ([0].map encI)) x3 x4]), (u, headC [112] (σ.next + 0) (.fz ([0].map encI)) x3 x4 :: ps.map Prod.fst ++ junk)]).get (σ.next + 2) = some (u, headC [112] (σ.next + 0) (.fz ([0].map encI)) x3 x4 :: ps.map Prod.fst ++ junk) := fun q => E_get (σ := Rd.go σ id v code q) (k := 2) rfl
  have hpos : 0 < (headC [112] (σ.next + 0) (.fz ([0].map encI)) x3 x4 :: ps.map Prod.fst).length := by simp
  by_cases h37 : (k : Int) = 37
  · repeat' first|refine yaG ?_|((first|apply yG|apply yH|apply yI);exact rfl;(first|exact aop_iaddrO rfl rfl (show (0 : Int) = ((0 : Nat) : Int) from rfl) hpos (hget _) rfl rfl))|(exfalso;omega)|(refine yaS ?_ ?_<;>intro _)
    obtain ⟨s, hs1, hs2⟩ := schema_frz (σ := Rd.go σ id v code q5) (u := u) (nm := [112]) (key := []) (x2 := .nils) (ps := ps) (junk := junk) (vb := 0) (pb := [headC [112] (σ.next + 0) (.fz ([0].map encI)) x3 x4]) (by decide) (by decide) (.inr ⟨rfl, rfl⟩) hH hcb hps hpl
    exact .ret rfl (.f hq5 ⟨s, hs1, rfl⟩ hs2)
  by_cases h38 : (k : Int) = 38
  · repeat' first|refine yaG ?_|((first|apply yG|apply yH|apply yI);exact rfl;(first|exact aop_iaddrO rfl rfl (show (0 : Int) = ((0 : Nat) : Int) from rfl) hpos (hget _) rfl rfl))|(exfalso;omega)|(refine yaS ?_ ?_<;>intro _)
    obtain ⟨s, hs1, hs2⟩ := schema_frz (σ := Rd.go σ id v code q5) (u := u) (nm := [99]) (key := [0]) (x2 := .fz ([0].map encI)) (ps := ps) (junk := junk) (vb := 0) (pb := [headC [112] (σ.next + 0) (.fz ([0].map encI)) x3 x4]) (by decide) (by decide) (.inl rfl) hH hcb hps hpl
    exact .ret rfl (.f hq5 ⟨s, hs1, rfl⟩ hs2)
  by_cases h39 : (k : Int) = 39
  · repeat' first|apply Go.seq|apply Go.skip|apply Go.region|apply Go.nil|apply Go.block|apply Go.blk|apply Go.segs|(apply Go.exit;exact rfl)|(apply Go.cond true;exact rfl)|(apply Go.cond false;exact rfl)|apply yB|apply yC|((first|apply yD|apply yE);(first|exact yF|assumption);iterate 6 exact rfl)|((first|apply yG|apply yH|apply yI);exact rfl;(first|exact yJ|exact yK rfl rfl|exact yL rfl|exact yM rfl|exact rfl|exact aL rfl rfl rfl rfl rfl|exact aS rfl rfl rfl rfl rfl rfl rfl))|((first|apply yN|apply yO|apply yP);exact rfl)|(exfalso;omega)|(((first|apply yT|apply yU|apply yV|apply yW);exact rfl;(first|exact .d|exact .e|exact .n|((fail_if_success exact bqt);(fail_if_success exact bqf);exact .b)))<;>intro _)
    apply Go.draw
    refine Go.qr [(0, [encCol colK, encCol colT, encCol colN]), (0, [headC [112] (σ.next + 0) (.fz ([0].map encI)) x3 x4]), (u, headC [112] (σ.next + 0) (.fz ([0].map encI)) x3 x4 :: ps.map Prod.fst ++ junk)] rfl ?_
    repeat' first|(apply Qx.op;exact rfl;(first|exact fun _ _ _ => rfl|exact aop_iaddrI (k := 2) rfl rfl (show (0 : Int) = ((0 : Nat) : Int) from rfl) hpos rfl rfl rfl|exact aop_loadI rfl rfl rfl rfl rfl))
    refine Qx.drawn hr hq5 rfl rfl rfl (off_ok 1 2 (by decide) (by decide) (by decide) (by decide)) ?_
    rintro _ q6 hq6 ⟨n, rfl⟩
    refine .nil ?_
    repeat' first|refine yaG ?_|((first|apply yG|apply yH|apply yI);exact rfl;(first|exact aop_iaddrO rfl rfl (show (0 : Int) = ((0 : Nat) : Int) from rfl) (show 0 < 3 by decide) (E_get (k := 0) rfl) rfl rfl))|(exfalso;omega)|(refine yaS ?_ ?_<;>intro _)
    obtain ⟨s, hs1, hs2⟩ := schema_frz (σ := Rd.go σ id v code q6) (u := u) (nm := [112]) (key := [0]) (x2 := .fz ([0].map encI)) (c0 := ⟨[107], n, true, vNull⟩) (ps := ps) (junk := junk) (vb := 0) (pb := [headC [112] (σ.next + 0) (.fz ([0].map encI)) x3 x4]) (by decide) (by decide) (.inl rfl) hH ⟨by simp [bCol, bV, vNull], hcb.2⟩ hps hpl
    exact .ret rfl (.f hq6 ⟨s, hs1, rfl⟩ hs2)
  · repeat' first|refine yaG ?_|(exfalso;omega)|(refine yaS ?_ ?_<;>intro _)
    obtain ⟨s, hs1, hs2⟩ := schema_frz (σ := Rd.go σ id v code q5) (u := u) (nm := [112]) (key := [0]) (x2 := .fz ([0].map encI)) (ps := ps) (junk := junk) (vb := 0) (pb := [headC [112] (σ.next + 0) (.fz ([0].map encI)) x3 x4]) (by decide) (by decide) (.inl rfl) hH hcb hps hpl
    exact .ret rfl (.f hq5 ⟨s, hs1, rfl⟩ hs2)
end Go.Proofs.YtdgnfdljkghpjaaGreat.Am

/- Schemas, as the program sees them. -/
set_option linter.unusedVariables false
set_option linter.unusedSimpArgs false
namespace Go.Proofs.YtdgnfdljkghpjaaGreat.Am

theorem idxA_at {α : Type} {p : α → Bool} : ∀ {l : List α} {i : Int}, 0 ≤ i → idxA p l i = -1 ∨ ∃ n : Nat, ∃ h : n < l.length, idxA p l i = i + n ∧ p l[n] = true
  | [], i, h => .inl rfl
  | a :: r, i, h => by
    simp only [idxA]
    split
    · exact .inr ⟨0, by simp, by simp, by assumption⟩
    · rcases idxA_at (p := p) (l := r) (i := i + 1) (by omega) with h1 | ⟨n, hn, h1, h2⟩
      · exact .inl h1
      · exact .inr ⟨n + 1, by simpa using hn, by omega, by simpa using h2⟩
def kindAt (t : Table) (c : Int) : Int := match t.cols[c.toNat]? with | some x => x.kind | none => 0
def kindsEq (u t : Table) : List Int → List Int → Bool
  | a :: r, c :: q => kindAt u a == kindAt t c && kindsEq u t r q
  | _, _ => true
def metAt (u t : Table) (f : Fk) : Bool := decide (u.key.length = f.cols.length) && kindsEq u t u.key f.cols
def metF (s : List Table) (t : Table) (f : Fk) : Bool := s.any (fun u => u.name == f.table) && (match s[(idxA (fun u => u.name == f.table) s 0).toNat]? with | some u => metAt u t f | none => false)
theorem kindAt_at {t : Table} {c : Int} {n : Nat} (h : c = n) (hn : n < t.cols.length) : kindAt t c = t.cols[n].kind := by
  simp [kindAt, h, hn]
theorem metF_no {s : List Table} {t : Table} {f : Fk} (h : idxA (fun u => u.name == f.table) s 0 = -1) : metF s t f = false := by
  have := any_idx (p := fun u : Table => u.name == f.table) (l := s)
  rw [h] at this
  rw [metF, ← this]
  rfl
theorem metF_yes {s : List Table} {t : Table} {f : Fk} {n : Nat} (h : idxA (fun u => u.name == f.table) s 0 = n) (hn : n < s.length) : metF s t f = metAt s[n] t f := by
  have := any_idx (p := fun u : Table => u.name == f.table) (l := s)
  rw [h] at this
  rw [metF, ← this, h, decide_eq_true (by omega)]
  simp [hn]
def namesAux : List Table → List Table → Bool
  | _, [] => true
  | pre, t :: r => tableF t && !(pre.any fun u => u.name == t.name) && namesAux (pre ++ [t]) r
def schemaF (s : List Table) : Bool := decide ((s.length : Int) ≤ 5) && (namesAux [] s && !(s.any fun t => t.fks.any fun f => !metF s t f))
theorem namesAux_ok : ∀ {l pre : List Table}, namesAux pre l = true → ∀ t ∈ l, tableF t = true
  | [], _, _, t, h => by simp at h
  | a :: r, pre, h, t, ht => by
    simp only [namesAux, Bool.and_eq_true] at h
    rcases List.mem_cons.1 ht with rfl | ht
    · exact h.1.1
    · exact namesAux_ok h.2 t ht
theorem tableF_key {t : Table} (h : tableF t = true) : ∀ c ∈ t.key, 0 ≤ c ∧ c < t.cols.length := colsF_in (tableF_iff.1 h).2.2.1
theorem tableF_fk {t : Table} (h : tableF t = true) {f : Fk} (hf : f ∈ t.fks) : ∀ c ∈ f.cols, 0 ≤ c ∧ c < t.cols.length := by
  have h1 := (tableF_iff.1 h).2.2.2.2.2.2.2.2.2.2
  rw [List.any_eq_false] at h1
  have := h1 f hf
  simp only [Bool.not_eq_true', Bool.not_eq_false, isFkF, Bool.and_eq_true] at this
  exact colsF_in this.1
theorem encTable_len {l : List Table} : ∀ e ∈ l.map encTable, e.length = 6 := fun e he => by
  obtain ⟨t, _, rfl⟩ := List.mem_map.1 he
  rfl
end Go.Proofs.YtdgnfdljkghpjaaGreat.Am

/- Schemas, as the reference sees them. -/
set_option linter.unusedVariables false
set_option linter.unusedSimpArgs false
namespace Go.Proofs.YtdgnfdljkghpjaaGreat.Am

theorem schemaF_not {s : List Table} (h : schemaF s = true → False) : schemaF s = false := by
  cases c : schemaF s
  · rfl
  · exact (h c).elim
theorem schemaF_iff {s : List Table} : schemaF s = true ↔ (s.length : Int) ≤ 5 ∧ namesAux [] s = true ∧ (s.any fun t => t.fks.any fun f => !metF s t f) = false := by
  simp only [schemaF, Bool.and_eq_true, decide_eq_true_eq, Bool.not_eq_true']
theorem sSchemaOk_ok (s : List Table) (hx : s.length ≤ 34359738368) (hb : ∀ t ∈ s, bTable 34359738368 t) : Pure Tryz.prog 177 [.c (.fz (s.map encTable))] (.c (.bool (schemaF s))) := by
  refine Pure.run mixed c_spec_SchemaOk_ok (Nat.le_of_ble_eq_true rfl) fun σ hS hA => ?_
  clear hS hA
  repeat' first|refine yaG ?_|(exfalso;omega)|(refine yaS ?_ ?_<;>intro _)
  refine Go.keep [0, 3] (Go.loops (I := fun m fr τ => ∃ i : Nat, ∃ k : Int, m = s.length - i ∧ i ≤ s.length ∧ k = i ∧ namesAux [] s = namesAux (s.take i) (s.drop i) ∧
    fr = [(0, .c (.fz (s.map encTable))), (3, .c (.int .i64 k))] ∧ τ = E σ []) ?_ _ _ _ ⟨0, _, rfl, Nat.zero_le _, rfl, rfl, rfl, rfl⟩)
  rintro m fr τ ⟨i, k, rfl, hi, hk, hsl, rfl, rfl⟩ hrec
  by_cases hlt : i < s.length
  · have hd := List.drop_eq_getElem_cons hlt
    have htk : (s.map encTable).take i = (s.take i).map encTable := List.map_take.symm
    have hstep : namesAux [] s = (tableF s[i] && !((s.take i).any fun d => d.name == s[i].name) && namesAux (s.take (i + 1)) (s.drop (i + 1))) := by
      rw [hsl, hd, namesAux, List.take_succ_eq_append_getElem hlt]
    have neg : (tableF s[i] = false ∨ ((s.take i).any fun d => d.name == s[i].name) = true) → schemaF s = false := by
      rintro (h | h)
      · rw [schemaF, hstep, h]; simp
      · rw [schemaF, hstep, h]; simp
    have hany := any_idx (p := fun d : Table => d.name == s[i].name) (l := s.take i)
    repeat' first|refine yaG ?_|((first|apply yG|apply yH|apply yI);exact rfl;(first|exact yX (enc := encTable) rfl rfl hk hlt rfl|exact aop_sliceF (n := i) rfl rfl hk (by simp;omega) encTable_len))|((first|apply Go.pcallB|apply Go.spcallB|apply Qg.pcallB);(iterate 3 exact rfl);exact sTableOk_ok s[i] (hb _ (List.getElem_mem hlt));intro _ _)|(exfalso;omega)|(refine yaS ?_ ?_<;>intro _)
    · rename_i c p q
      exact .ret rfl (.bool (neg (.inl (nbT p q))).symm)
    rename_i c p q
    rw [htk]
    repeat' first|refine yaG ?_|((first|apply Go.pcallI|apply Go.spcallI|apply Qg.pcallI);(iterate 3 exact rfl);exact l3At_ok (s.take i) s[i].name (by simp;omega);intro _ _)|(exfalso;omega)|(refine yaS ?_ ?_<;>intro _)
    · rename_i z hz hz2
      refine .ret rfl (.bool (neg (.inr ?_)).symm)
      rw [← hany, hz]
      simpa using hz2
    · rename_i z hz hz2
      refine Go.keep [0, 3] (hrec _ _ _ (by omega) ⟨i + 1, _, rfl, hlt, wrap_succ hk (by omega), ?_, rfl, rfl⟩)
      rw [hstep, nbF p q, ← hany, hz, decide_eq_false (by omega)]
      rfl
  have hfin : namesAux [] s = true := by
    rw [hsl, List.drop_eq_nil_of_le (by omega)]
    rfl
  have hok := namesAux_ok hfin
  clear hrec hsl
  repeat' first|refine yaG ?_|(exfalso;omega)|(refine yaS ?_ ?_<;>intro _)
  clear hlt hk hi
  -- the references
  refine Go.keep [0, 4] (Go.loops (I := fun m fr τ => ∃ i : Nat, ∃ k : Int, m = s.length - i ∧ i ≤ s.length ∧ k = i ∧ (∀ j (hj : j < s.length), j < i → (!(s[j].fks.any fun f => !metF s s[j] f)) = true) ∧
    fr = [(0, .c (.fz (s.map encTable))), (4, .c (.int .i64 k))] ∧ τ = E σ []) ?_ _ _ _ ⟨0, _, rfl, Nat.zero_le _, rfl, fun j _ h => absurd h (by omega), rfl, rfl⟩)
  rintro m fr τ ⟨i, k, rfl, hi, hk, hall, rfl, rfl⟩ hrec
  by_cases hlt : i < s.length
  · have hmem := List.getElem_mem hlt
    have hti := hok _ hmem
    have b6 := (hb _ hmem).2.2.2.2.2
    repeat' first|refine yaG ?_|(exfalso;omega)|(refine yaS ?_ ?_<;>intro _)
    refine Go.keep [0, 4, 5] (Go.loops (I := fun m fr τ => ∃ i2 : Nat, ∃ k2 : Int, m = s[i].fks.length - i2 ∧ i2 ≤ s[i].fks.length ∧ k2 = i2 ∧ (∀ j (hj : j < s[i].fks.length), j < i2 → metF s s[i] s[i].fks[j] = true) ∧
      fr = [(0, .c (.fz (s.map encTable))), (4, .c (.int .i64 k)), (5, .c (.int .i64 k2))] ∧ τ = E σ []) ?_ _ _ _ ⟨0, _, rfl, Nat.zero_le _, rfl, fun j _ h => absurd h (by omega), rfl, rfl⟩)
    rintro m fr τ ⟨i2, k2, rfl, hi2, hk2, hall2, rfl, rfl⟩ hrec2
    by_cases hlt2 : i2 < s[i].fks.length
    · have hfm := List.getElem_mem hlt2
      have hf := tableF_fk hti hfm
      have hf0 := (b6.2 _ hfm).1
      have neg : metF s s[i] s[i].fks[i2] = false → schemaF s = false := fun h => schemaF_not fun hh => by
        have h2 := (schemaF_iff.1 hh).2.2
        rw [List.any_eq_false] at h2
        exact h2 _ hmem (List.any_eq_true.2 ⟨_, hfm, by rw [h]; rfl⟩)
      repeat' first|refine yaG ?_|((first|apply yG|apply yH|apply yI);exact rfl;(first|exact yX (enc := encTable) rfl rfl hk hlt rfl|exact yX (enc := encFk) rfl rfl hk2 hlt2 rfl))|(exfalso;omega)|(refine yaS ?_ ?_<;>intro _)
      refine .pcall rfl rfl rfl (l3At_ok s s[i].fks[i2].table hx) ?_
      rcases idxA_at (p := fun u : Table => u.name == s[i].fks[i2].table) (l := s) (i := 0) (Int.le_refl _) with hq | ⟨n, hn, hq, hp⟩
      · have hm := metF_no (t := s[i]) hq
        rw [hq]
        repeat' first|refine yaG ?_|(exfalso;omega)|(refine yaS ?_ ?_<;>intro _)
        exact .ret rfl (.bool (neg hm).symm)
      rw [Int.zero_add] at hq
      have hm := metF_yes (t := s[i]) hq hn
      have hsk := tableF_key (hok _ (List.getElem_mem hn))
      rw [hq]
      have hnz : ¬ ((n : Int) < 0) := by omega
      repeat' first|refine yaG ?_|((first|apply yG|apply yH|apply yI);exact rfl;(first|exact yX (enc := encTable) rfl rfl rfl hn rfl))|(exfalso;omega)|(refine yaS ?_ ?_<;>intro _)
      · rename_i h
        refine .ret rfl (.bool (neg ?_).symm)
        rw [hm, metAt, decide_eq_false (by omega)]
        rfl
      rename_i hlen
      refine Go.keep [0, 4, 5, 6, 7, 8] (Go.loops (I := fun m fr τ => ∃ i3 : Nat, ∃ k3 : Int, m = s[i].fks[i2].cols.length - i3 ∧ i3 ≤ s[i].fks[i2].cols.length ∧ k3 = i3 ∧ kindsEq s[n] s[i] s[n].key s[i].fks[i2].cols = kindsEq s[n] s[i] (s[n].key.drop i3) (s[i].fks[i2].cols.drop i3) ∧
        fr = [(0, .c (.fz (s.map encTable))), (4, .c (.int .i64 k)), (5, .c (.int .i64 k2)), (6, .c (.fp (encFk s[i].fks[i2]))), (7, .c (.int .i64 (n : Int))), (8, .c (.int .i64 k3))] ∧ τ = E σ []) ?_ _ _ _ ⟨0, _, rfl, Nat.zero_le _, rfl, rfl, rfl, rfl⟩)
      rintro m fr τ ⟨i3, k3, rfl, hi3, hk3, hsl, rfl, rfl⟩ hrec3
      by_cases hlt3 : i3 < s[i].fks[i2].cols.length
      · have hlt4 : i3 < s[n].key.length := by omega
        have h1 := hsk _ (List.getElem_mem hlt4)
        have h2 := hf _ (List.getElem_mem hlt3)
        obtain ⟨a, ha⟩ : ∃ a : Nat, s[n].key[i3] = a := ⟨s[n].key[i3].toNat, by omega⟩
        obtain ⟨c, hc⟩ : ∃ c : Nat, s[i].fks[i2].cols[i3] = c := ⟨s[i].fks[i2].cols[i3].toNat, by omega⟩
        have ha2 : a < s[n].cols.length := by omega
        have hc2 : c < s[i].cols.length := by omega
        have e1 := kindAt_at ha ha2
        have e2 := kindAt_at hc hc2
        have hstep : kindsEq s[n] s[i] s[n].key s[i].fks[i2].cols = (s[n].cols[a].kind == s[i].cols[c].kind && kindsEq s[n] s[i] (s[n].key.drop (i3 + 1)) (s[i].fks[i2].cols.drop (i3 + 1))) := by
          rw [hsl, List.drop_eq_getElem_cons hlt3, List.drop_eq_getElem_cons hlt4, kindsEq, e1, e2]
        repeat' first|refine yaG ?_|((first|apply yG|apply yH|apply yI);exact rfl;(first|exact yX (enc := encTable) rfl rfl hk hlt rfl|exact yX (enc := encI) rfl rfl hk3 hlt3 rfl|exact yX (enc := encTable) rfl rfl rfl hn rfl|exact yX (enc := encI) rfl rfl hk3 hlt4 rfl|exact yX (enc := encCol) rfl rfl ha ha2 rfl|exact yX (enc := encCol) rfl rfl hc hc2 rfl))|(exfalso;omega)|(refine yaS ?_ ?_<;>intro _)
        · rename_i h
          refine .ret rfl (.bool (neg ?_).symm)
          rw [hm, metAt, hstep, beq_eq_false_iff_ne.2 fun e => h e.symm]
          simp
        · rename_i h
          refine Go.keep [0, 4, 5, 6, 7, 8] (hrec3 _ _ _ (by omega) ⟨i3 + 1, _, rfl, hlt3, wrap_succ hk3 (by omega), ?_, rfl, rfl⟩)
          rw [hstep, h]
          simp
      · have hmt : metF s s[i] s[i].fks[i2] = true := by
          rw [hm, metAt, hsl, List.drop_eq_nil_of_le (by omega), decide_eq_true (by omega)]
          cases s[n].key.drop i3 <;> rfl
        clear hrec3
        repeat' first|refine yaG ?_|(exfalso;omega)|(refine yaS ?_ ?_<;>intro _)
        exact Go.keep [0, 4, 5] (hrec2 _ _ _ (by omega) ⟨i2 + 1, _, rfl, hlt2, wrap_succ hk2 (by omega), upto (p := fun f => metF s s[i] f) hall2 hlt2 hmt, rfl, rfl⟩)
    · have hany := any_none (p := fun f => metF s s[i] f) (l := s[i].fks) fun j hj => hall2 j hj (by omega)
      clear hrec2
      repeat' first|refine yaG ?_|((first|apply yG|apply yH|apply yI);exact rfl;(first|exact yX (enc := encTable) rfl rfl hk hlt rfl))|(exfalso;omega)|(refine yaS ?_ ?_<;>intro _)
      exact Go.keep [0, 4] (hrec _ _ _ (by omega) ⟨i + 1, _, rfl, hlt, wrap_succ hk (by omega), upto (p := fun t : Table => !(t.fks.any fun f => !metF s t f)) hall hlt (by rw [hany]; rfl), rfl, rfl⟩)
  · have hany := any_none (p := fun t : Table => !(t.fks.any fun f => !metF s t f)) (l := s) fun j hj => hall j hj (by omega)
    clear hrec
    repeat' first|refine yaG ?_|(exfalso;omega)|(refine yaS ?_ ?_<;>intro _)
    refine .ret rfl (.bool ?_)
    simp only [Bool.not_not] at hany
    rw [schemaF, hfin, hany]
    simp
end Go.Proofs.YtdgnfdljkghpjaaGreat.Am

/- Queries: the program and its reference. -/
set_option linter.unusedVariables false
set_option linter.unusedSimpArgs false
namespace Go.Proofs.YtdgnfdljkghpjaaGreat.Am

theorem schemaF_cols {s : List Table} (h : schemaF s = true) : ∀ t ∈ s, 1 ≤ t.cols.length ∧ t.cols.length ≤ 8 := fun t ht => by
  have := (tableF_iff.1 (namesAux_ok (schemaF_iff.1 h).2.1 t ht)).2.1
  simp only [isIn, Bool.and_eq_true, decide_eq_true_eq] at this
  omega
end Go.Proofs.YtdgnfdljkghpjaaGreat.Am

/- Statements: the program and its reference. -/
set_option linter.unusedVariables false
set_option linter.unusedSimpArgs false
namespace Go.Proofs.YtdgnfdljkghpjaaGreat.Am

def fitAux (t : Table) : Nat → List Val → Bool
  | _, [] => true
  | i, v :: r => isOfF v (kindAt t i) && fitAux t (i + 1) r
def fitF (t : Table) (vals : List Val) : Bool := decide ((vals.length : Int) = t.cols.length) && fitAux t 0 vals
theorem l4Kinds_ok (t : Table) (vals : List Val) (hx : vals.length ≤ 34359738368) : Pure Tryz.prog 178 [.agg (encTable t), .c (.fz (vals.map encV))] (.c (.bool (fitF t vals))) := by
  refine Pure.run mixed c_spec_l4Kinds_ok (Nat.le_of_ble_eq_true rfl) fun σ hS hA => ?_
  clear hS hA
  repeat' first|refine yaG ?_|(exfalso;omega)|(refine yaS ?_ ?_<;>intro _)
  · rename_i h
    refine .ret rfl (.bool ?_)
    rw [fitF, decide_eq_false h]
    rfl
  rename_i hlen
  have hlen : (vals.length : Int) = t.cols.length := by omega
  refine Go.keep [1, 2, 5] (Go.loops (I := fun m fr τ => ∃ i : Nat, ∃ k : Int, m = vals.length - i ∧ i ≤ vals.length ∧ k = i ∧ fitAux t 0 vals = fitAux t i (vals.drop i) ∧
    fr = [(1, .c (.fz (vals.map encV))), (2, .c (.fp (encTable t))), (5, .c (.int .i64 k))] ∧ τ = E σ []) ?_ _ _ _ ⟨0, _, rfl, Nat.zero_le _, rfl, rfl, rfl, rfl⟩)
  rintro m fr τ ⟨i, k, rfl, hi, hk, hsl, rfl, rfl⟩ hrec
  by_cases hlt : i < vals.length
  · have hd := List.drop_eq_getElem_cons hlt
    have hlc : i < t.cols.length := by omega
    have hka : kindAt t i = t.cols[i].kind := kindAt_at rfl hlc
    rw [hd, fitAux, hka] at hsl
    repeat' first|refine yaG ?_|((first|apply yG|apply yH|apply yI);exact rfl;(first|exact yX (enc := encV) rfl rfl hk hlt rfl|exact yX (enc := encCol) rfl rfl hk hlc rfl))|((first|apply Go.pcallB|apply Go.spcallB|apply Qg.pcallB);(iterate 3 exact rfl);exact sValOk_ok vals[i];intro _ _)|(exfalso;omega)|(refine yaS ?_ ?_<;>intro _)
    all_goals first
      | (refine .ret rfl (.bool ?_); rw [fitF, hsl, isOfF]; clear hrec hsl; simp_all; done)
      | (refine Go.keep [1, 2, 5] (hrec _ _ _ (by omega) ⟨i + 1, _, rfl, hlt, wrap_succ hk (by omega), ?_, rfl, rfl⟩); rw [hsl, isOfF]; clear hrec hsl; simp_all; done)
  · repeat' first|refine yaG ?_|(exfalso;omega)|(refine yaS ?_ ?_<;>intro _)
    refine .ret rfl (.bool ?_)
    rw [fitF, hsl, List.drop_eq_nil_of_le (by omega), decide_eq_true hlen]
    rfl
end Go.Proofs.YtdgnfdljkghpjaaGreat.Am

/- The laws' helpers on types, printed by a program: Data, Line, Save, Session. -/
set_option linter.unusedVariables false
set_option linter.unusedSimpArgs false
namespace Go.Proofs.YtdgnfdljkghpjaaGreat.Am
structure Data where
  rows : List RowD
  deriving DecidableEq
def encData (a : Data) : List Ce := [.fz (a.rows.map encRowD)]
def bData (N : Nat) (a : Data) : Prop := (a.rows.length ≤ N ∧ ∀ x ∈ a.rows, bRowD N x)
end Go.Proofs.YtdgnfdljkghpjaaGreat.Am

/- Databases: which are right, by the program and its reference. -/
set_option linter.unusedVariables false
set_option linter.unusedSimpArgs false
namespace Go.Proofs.YtdgnfdljkghpjaaGreat.Am

def risesId (p : Option Int) (n : Int) : Bool := match p with | none => true | some q => decide (q < n)
def rowOne (t : Table) (p : Option Int) (r : RowD) : Bool := isIn r.id 1 1000000000 && (risesId p r.id && fitF t r.vals)
def rowsAux (t : Table) : Option Int → List RowD → Bool
  | _, [] => true
  | p, r :: l => rowOne t p r && rowsAux t (some r.id) l
def rowsF (t : Table) (l : List RowD) : Bool := rowsAux t none l && decide ((l.length : Int) ≤ 60)
def dbAux : List Table → List Data → Bool
  | t :: s, d :: db => rowsF t d.rows && dbAux s db
  | _, _ => true
def dbF (s : List Table) (db : List Data) : Bool := schemaF s && (decide ((db.length : Int) = s.length) && dbAux s db)
theorem l4Db_ok (s : List Table) (db : List Data) (hx : s.length ≤ 34359738368) (hd : db.length ≤ 34359738368) (hdb : ∀ d ∈ db, bData 34359738368 d) : Pure Tryz.prog 199 [.c (.fz (s.map encTable)), .c (.fz (db.map encData))] (.c (.bool (decide ((db.length : Int) = s.length) && dbAux s db))) := by
  refine Pure.run mixed c_spec_l4Db_ok (Nat.le_of_ble_eq_true rfl) fun σ hS hA => ?_
  clear hS hA
  repeat' first|refine yaG ?_|(exfalso;omega)|(refine yaS ?_ ?_<;>intro _)
  · rename_i h
    refine .ret rfl (.bool ?_)
    rw [decide_eq_false h]
    rfl
  rename_i hl
  have hl : (db.length : Int) = s.length := by omega
  refine Go.keep [0, 1, 5] (Go.loops (I := fun m fr τ => ∃ (i : Nat) (k : Int), m = db.length - i ∧ i ≤ db.length ∧ k = i ∧ dbAux s db = dbAux (s.drop i) (db.drop i) ∧
    fr = [(0, .c (.fz (s.map encTable))), (1, .c (.fz (db.map encData))), (5, .c (.int .i64 k))] ∧ τ = E σ []) ?_ _ _ _ ⟨0, _, rfl, Nat.zero_le _, rfl, rfl, rfl, rfl⟩)
  rintro m fr τ ⟨i, k, rfl, hi, hk, hsl, rfl, rfl⟩ hrec
  by_cases hlt : i < db.length
  · have hlt2 : i < s.length := by omega
    have hbd := hdb _ (List.getElem_mem hlt)
    rw [List.drop_eq_getElem_cons hlt, List.drop_eq_getElem_cons hlt2, dbAux, rowsF] at hsl
    obtain ⟨l, hle⟩ : ∃ l, db[i].rows = l := ⟨_, rfl⟩
    have hrl : l.length ≤ 34359738368 := by rw [← hle]; exact hbd.1
    have hrv : ∀ r ∈ l, r.vals.length ≤ 34359738368 := by rw [← hle]; exact fun r hr => (hbd.2 r hr).1
    repeat' first|refine yaG ?_|((first|apply yG|apply yH|apply yI);exact rfl;(first|exact yX (enc := encData) rfl rfl hk hlt rfl))|(exfalso;omega)|(refine yaS ?_ ?_<;>intro _)
    rw [hle] at hsl ⊢
    refine Go.keep [0, 1, 5, 6, 7] (Go.loops (I := fun m fr τ => ∃ (j : Nat) (q : Int) (p : Option Int), m = l.length - j ∧ j ≤ l.length ∧ q = j ∧ (rowsAux s[i] none l = rowsAux s[i] p (l.drop j) ∧ ((j = 0 ∧ p = none) ∨ ∃ a, ∃ ha : a < l.length, j = a + 1 ∧ p = some l[a].id)) ∧
      fr = [(0, .c (.fz (s.map encTable))), (1, .c (.fz (db.map encData))), (5, .c (.int .i64 k)), (6, .c (.fz (l.map encRowD))), (7, .c (.int .i64 q))] ∧ τ = E σ []) ?_ _ _ _ ⟨0, _, none, rfl, Nat.zero_le _, rfl, ⟨rfl, .inl ⟨rfl, rfl⟩⟩, rfl, rfl⟩)
    rintro m fr τ ⟨j, q, p, rfl, hj, hq, ⟨hs2, hp⟩, rfl, rfl⟩ hrec2
    by_cases hlj : j < l.length
    · have hv := hrv _ (List.getElem_mem hlj)
      rw [List.drop_eq_getElem_cons hlj, rowsAux] at hs2
      clear hrec
      rcases hp with ⟨rfl, rfl⟩ | ⟨a, ha, rfl, rfl⟩
      · repeat' first|refine yaG ?_|((first|apply yG|apply yH|apply yI);exact rfl;(first|exact yX (enc := encRowD) rfl rfl hq hlj rfl|exact yX (enc := encTable) rfl rfl hk hlt2 rfl))|((first|apply Go.pcallB|apply Go.spcallB|apply Qg.pcallB);(iterate 3 exact rfl);(first|exact l1In_ok _ _ _|exact l4Kinds_ok s[i] l[0].vals hv);intro _ _)|(exfalso;omega)|(refine yaS ?_ ?_<;>intro _)
        all_goals first
          | (refine .ret rfl (.bool ?_); clear hrec2; rw [hsl, hs2, rowOne, risesId]; clear hs2 hsl; simp_all; done)
          | (refine Go.keep [0, 1, 5, 6, 7] (hrec2 _ _ _ (by omega) ⟨0 + 1, _, some l[0].id, rfl, hlj, wrap_succ hq (by omega), ⟨?_, .inr ⟨0, hlj, rfl, rfl⟩⟩, rfl, rfl⟩); clear hrec2; rw [hs2, rowOne, risesId]; clear hs2 hsl; simp_all; done)
      · repeat' first|refine yaG ?_|((first|apply yG|apply yH|apply yI);exact rfl;(first|exact yX (enc := encRowD) rfl rfl hq hlj rfl|exact yX (enc := encRowD) rfl rfl (wrap_pred hq (by omega)) ha rfl|exact yX (enc := encTable) rfl rfl hk hlt2 rfl))|((first|apply Go.pcallB|apply Go.spcallB|apply Qg.pcallB);(iterate 3 exact rfl);(first|exact l1In_ok _ _ _|exact l4Kinds_ok s[i] l[a + 1].vals hv);intro _ _)|(exfalso;omega)|(refine yaS ?_ ?_<;>intro _)
        all_goals first
          | (refine .ret rfl (.bool ?_); clear hrec2; rw [hsl, hs2, rowOne, risesId]; clear hs2 hsl; (simp_all <;> intros <;> omega); done)
          | (refine Go.keep [0, 1, 5, 6, 7] (hrec2 _ _ _ (by omega) ⟨a + 1 + 1, _, some l[a + 1].id, rfl, hlj, wrap_succ hq (by omega), ⟨?_, .inr ⟨a + 1, hlj, rfl, rfl⟩⟩, rfl, rfl⟩); clear hrec2; rw [hs2, rowOne, risesId]; clear hs2 hsl; (simp_all <;> intros <;> omega); done)
    · clear hrec2
      rw [List.drop_eq_nil_of_le (by omega), rowsAux] at hs2
      repeat' first|refine yaG ?_|(exfalso;omega)|(refine yaS ?_ ?_<;>intro _)
      · rename_i h
        refine .ret rfl (.bool ?_)
        rw [hsl, hs2, decide_eq_false (p := (l.length : Int) ≤ 60) (by omega)]
        simp
      · rename_i h
        refine Go.keep [0, 1, 5] (hrec _ _ _ (by omega) ⟨i + 1, _, rfl, hlt, wrap_succ hk (by omega), ?_, rfl, rfl⟩)
        rw [hsl, hs2, decide_eq_true (p := (l.length : Int) ≤ 60) (by omega)]
        rfl
  · repeat' first|refine yaG ?_|(exfalso;omega)|(refine yaS ?_ ?_<;>intro _)
    refine .ret rfl (.bool ?_)
    rw [hsl, decide_eq_true hl, show db.drop i = [] from List.drop_eq_nil_of_le (by omega)]
    cases List.drop i s <;> rfl
theorem sDbOk_ok (s : List Table) (db : List Data) (hx : s.length ≤ 34359738368) (hb : ∀ t ∈ s, bTable 34359738368 t) (hd : db.length ≤ 34359738368) (hdb : ∀ d ∈ db, bData 34359738368 d) : Pure Tryz.prog 146 [.c (.fz (s.map encTable)), .c (.fz (db.map encData))] (.c (.bool (dbF s db))) := by
  refine Pure.run mixed c_spec_DbOk_ok (Nat.le_of_ble_eq_true rfl) fun σ hS hA => ?_
  clear hS hA
  have c1 := sSchemaOk_ok s hx hb
  have c2 := l4Db_ok s db hx hd hdb
  rw [dbF]
  generalize (decide ((db.length : Int) = s.length) && dbAux s db) = B at c2 ⊢
  cases hs : schemaF s
  · rw [hs] at c1
    repeat' first|refine yaG ?_|refine yaC (c1) ?_|(exfalso;omega)|(refine yaS ?_ ?_<;>intro _)
    exact .ret rfl (.bool rfl)
  · rw [hs] at c1
    repeat' first|refine yaG ?_|refine yaC (c1) ?_|refine yaC (c2) ?_|(exfalso;omega)|(refine yaS ?_ ?_<;>intro _)
    exact .ret rfl (.bool rfl)
theorem l6Ok_ok (s : List Table) (db : List Data) (n : Int) (hx : s.length ≤ 34359738368) (hb : ∀ t ∈ s, bTable 34359738368 t) (hd : db.length ≤ 34359738368) (hdb : ∀ d ∈ db, bData 34359738368 d) : Pure Tryz.prog 83 [.c (.fz (s.map encTable)), .c (.fz (db.map encData)), .c (.int .i64 n)] (.c (.bool (dbF s db && isIn n 0 (s.length - 1)))) := by
  refine Pure.run mixed c_spec_l6Ok_ok (Nat.le_of_ble_eq_true rfl) fun σ hS hA => ?_
  clear hS hA
  have c1 := sDbOk_ok s db hx hb hd hdb
  have hw : IntKind.i64.wrap ((s.length : Int) - 1) = s.length - 1 := wrap64 (by omega) (by omega)
  cases hs : dbF s db
  · rw [hs] at c1
    repeat' first|refine yaG ?_|refine yaC (c1) ?_|(exfalso;omega)|(refine yaS ?_ ?_<;>intro _)
    exact .ret rfl (.bool rfl)
  · rw [hs] at c1
    repeat' first|refine yaG ?_|refine yaC (c1) ?_|((first|apply yQ|apply yR|apply yS);(iterate 3 exact rfl);exact l1In_ok _ _ _)|(exfalso;omega)|(refine yaS ?_ ?_<;>intro _)
    refine .ret rfl (.bool ?_)
    rw [hw]
    rfl
/-- What a right database is like. -/
theorem dbF_at {s : List Table} {db : List Data} (h : dbF s db = true) : schemaF s = true ∧ db.length = s.length ∧ ∀ i (hi : i < s.length) (hi2 : i < db.length), rowsF s[i] db[i].rows = true := by
  simp only [dbF, Bool.and_eq_true, decide_eq_true_eq] at h
  obtain ⟨h1, h2, h3⟩ := h
  refine ⟨h1, by omega, ?_⟩
  clear h1 h2
  induction s generalizing db with
  | nil => intro i hi; simp at hi
  | cons t s ih =>
    cases db with
    | nil => intro i _ hi; simp at hi
    | cons d db =>
      rw [dbAux, Bool.and_eq_true] at h3
      intro i hi hi2
      cases i with
      | zero => exact h3.1
      | succ i => exact ih h3.2 i (by simpa using hi) (by simpa using hi2)
theorem rowsAux_mem {t : Table} : ∀ {l : List RowD} {p : Option Int}, rowsAux t p l = true → ∀ r ∈ l, fitF t r.vals = true ∧ isIn r.id 1 1000000000 = true
  | [], _, _, r, hr => by simp at hr
  | a :: l, p, h, r, hr => by
    simp only [rowsAux, rowOne, Bool.and_eq_true] at h
    rcases List.mem_cons.1 hr with rfl | hr
    · exact ⟨h.1.2.2, h.1.1⟩
    · exact rowsAux_mem h.2 r hr
theorem rowsF_mem {t : Table} {l : List RowD} (h : rowsF t l = true) : l.length ≤ 60 ∧ ∀ r ∈ l, fitF t r.vals = true ∧ isIn r.id 1 1000000000 = true := by
  simp only [rowsF, Bool.and_eq_true, decide_eq_true_eq] at h
  exact ⟨by omega, rowsAux_mem h.1⟩
theorem fitAux_ok {t : Table} : ∀ {l : List Val} {i : Nat}, fitAux t i l = true → ∀ v ∈ l, okVal v = true
  | [], _, _, v, hv => by simp at hv
  | a :: l, i, h, v, hv => by
    simp only [fitAux, isOfF, Bool.and_eq_true] at h
    rcases List.mem_cons.1 hv with rfl | hv
    · exact h.1.1
    · exact fitAux_ok h.2 v hv
theorem fitF_vals {t : Table} {l : List Val} (h : fitF t l = true) : l.length = t.cols.length ∧ ∀ v ∈ l, okVal v = true := by
  simp only [fitF, Bool.and_eq_true, decide_eq_true_eq] at h
  exact ⟨by omega, fitAux_ok h.2⟩
theorem fitF_are {t : Table} {l : List Val} (h : fitF t l = true) (hc : t.cols.length ≤ 8) : areVals l 16 = true := by
  obtain ⟨h1, h2⟩ := fitF_vals h
  simp only [areVals, Bool.and_eq_true, decide_eq_true_eq, List.all_eq_true]
  exact ⟨by omega, h2⟩
end Go.Proofs.YtdgnfdljkghpjaaGreat.Am

/- Marks by fields, and how many marks a value takes. -/
set_option linter.unusedVariables false
set_option linter.unusedSimpArgs false
namespace Go.Proofs.YtdgnfdljkghpjaaGreat.Am

/-- One cell of one element is written. -/
theorem Has.wr {σ : Store} {S : Nat → Prop} {zs : List (List Ce)} {e : List Ce} {id v n c i j : Nat} (h : Has σ S (.fz (zs.set i e)) (.sl id v 0 n c)) (hi : i < zs.length) (hj : j < e.length) :
    ∃ (es : List (List Ce)) (e' : List Ce), σ.get id = some (v, es) ∧ es[0 + i]? = some e' ∧ e'.length = e.length ∧ S id ∧
      ∀ z, Flat z → Has (σ.put id (v, es.set (0 + i) (splice e' (0 + j) [z]))) S (.fz (zs.set i (e.set j z))) (.sl id v 0 n c) ∧
        (∀ a, ¬ S a → (σ.put id (v, es.set (0 + i) (splice e' (0 + j) [z]))).get a = σ.get a) ∧ (σ.put id (v, es.set (0 + i) (splice e' (0 + j) [z]))).next = σ.next := by
  have hi' : i < (zs.set i e).length := by simpa using hi
  have hii : (zs.set i e)[i] = e := by simp
  obtain ⟨id1, v1, c1, es, e', hx, hg, he, hel, hS, hw⟩ := h.write (i := i) (j := j) hi' (by rw [hii]; exact hj)
  obtain ⟨rfl, rfl, -⟩ := sl_inj hx
  refine ⟨es, e', hg, he, by rw [hel, hii], hS, fun z hz => ⟨?_, fun a ha => put_off hS a ha, rfl⟩⟩
  have := hw z hz
  rw [List.set_set, hii] at this
  exact this
end Go.Proofs.YtdgnfdljkghpjaaGreat.Am

/- The laws' helpers on types, printed by a program: Tok, Check, Unique, Fk, Col. -/
set_option linter.unusedVariables false
set_option linter.unusedSimpArgs false
namespace Go.Proofs.YtdgnfdljkghpjaaGreat.Am
end Go.Proofs.YtdgnfdljkghpjaaGreat.Am

/- The laws' helpers on types, printed by a program: Row, Data, Line. -/
set_option linter.unusedVariables false
set_option linter.unusedSimpArgs false
namespace Go.Proofs.YtdgnfdljkghpjaaGreat.Am
end Go.Proofs.YtdgnfdljkghpjaaGreat.Am

/- The laws' helpers on types, printed by a program: Table, Term, Trigger. -/
set_option linter.unusedVariables false
set_option linter.unusedSimpArgs false
namespace Go.Proofs.YtdgnfdljkghpjaaGreat.Am
end Go.Proofs.YtdgnfdljkghpjaaGreat.Am

/- What the laws with marks have in common. -/
set_option linter.unusedVariables false
set_option linter.unusedSimpArgs false
namespace Go.Proofs.YtdgnfdljkghpjaaGreat.Am

theorem hv_flat {τ : Store} {S : Nat → Prop} {f : Ce} (h : Flat f) : HasV τ S (.c f) (.c f) := .c (.c h)
theorem newPair {σ τ : Store} {y x f : Ce} (hf : Flat f) (h : NewV σ (.c y) (.c x) τ) : NewV σ (.tup [.c y, .c f]) (.tup [.c x, .c f]) τ :=
  ⟨h.1, .pair h.2 (hv_flat (S := fun _ => False) hf) (fun _ h => h) (fun _ h => h.elim) (fun _ _ h => h)⟩
theorem newVec {σ : Store} {v : Nat} {s : Nat} {ys junk : List (List Ce)} (hy : ∀ e ∈ ys, e.length = s ∧ ∀ x ∈ e, Flat x) (hj : Jk s junk) : NewV σ (.c (.fz ys)) (.c (vec (σ.next + 0) v ys junk)) (E σ [(v, ys ++ junk)]) :=
  (Made.new hy (r := .c (vec (σ.next + 0) v ys junk)) ⟨v, junk, hj, rfl, rfl⟩).v
end Go.Proofs.YtdgnfdljkghpjaaGreat.Am

/- Rows that match: the program and its reference. -/
set_option linter.unusedVariables false
set_option linter.unusedSimpArgs false
namespace Go.Proofs.YtdgnfdljkghpjaaGreat.Am

theorem flatIs {xs : List Int} : ∀ e ∈ xs.map encI, e.length = 1 ∧ ∀ x ∈ e, Flat x := flatI xs
def rowsAt (db : List Data) (n : Int) : List RowD := match db[n.toNat]? with | some d => d.rows | none => []
theorem isIn_at {n m : Int} (h : isIn n 0 (m - 1) = true) : 0 ≤ n ∧ n < m := by
  simp only [isIn, Bool.and_eq_true, decide_eq_true_eq] at h
  omega
end Go.Proofs.YtdgnfdljkghpjaaGreat.Am

/- Keys of rows; rows that have a key. -/
set_option linter.unusedVariables false
set_option linter.unusedSimpArgs false
namespace Go.Proofs.YtdgnfdljkghpjaaGreat.Am

def valAt (vals : List Val) (c : Int) : Val := vals[c.toNat]?.getD vNull
def keyF (cols : List Int) (vals : List Val) : List Val := cols.map (valAt vals)
def wholeF (cols : List Int) (vals : List Val) : Bool := cols.all fun c => !((valAt vals c).k == 0)
def InR (cols : List Int) (n : Nat) : Prop := ∀ c ∈ cols, 0 ≤ c ∧ c < n
theorem valAt_eq {vals : List Val} {c : Int} (h : c.toNat < vals.length) : valAt vals c = vals[c.toNat] := by rw [valAt, List.getElem?_eq_getElem h]; rfl
theorem keyF_len (cols : List Int) (vals : List Val) : (keyF cols vals).length = cols.length := List.length_map _
theorem keyF_take {cols : List Int} {vals : List Val} {i : Nat} (h : i < cols.length) : keyF (cols.take (i + 1)) vals = keyF (cols.take i) vals ++ [valAt vals cols[i]] := by
  rw [List.take_succ_eq_append_getElem h, keyF, List.map_append]; rfl
theorem wholeF_take {cols : List Int} {vals : List Val} {i : Nat} (h : i < cols.length) : wholeF (cols.take (i + 1)) vals = (wholeF (cols.take i) vals && !((valAt vals cols[i]).k == 0)) := by
  rw [List.take_succ_eq_append_getElem h, wholeF, List.all_append, wholeF, List.all_cons, List.all_nil, Bool.and_true]
theorem l4Key_new (cols : List Int) (vals : List Val) (hx : cols.length ≤ 34359738368) (hi : InR cols vals.length) (σ : Store) : Ok Tryz.prog 148 [.c (.fz (cols.map encI)), .c (.fz (vals.map encV))] σ (NewV σ (.tup [.c (.fz ((keyF cols vals).map encV)), .c (.bool (wholeF cols vals))])) := by
  refine Ok.run mixed c_spec_l4Key_ok (Nat.le_of_ble_eq_true rfl) fun hS hA => ?_
  clear hS hA
  repeat' first|refine yaG ?_|(exfalso;omega)|(refine yaS ?_ ?_<;>intro _)
  refine Go.keep [0, 1, 6, 7, 8] (Go.loops (I := fun m fr τ => ∃ (i : Nat) (k : Int) (v : Nat) (junk : List (List Ce)) (ks : List Val) (b : Bool), m = cols.length - i ∧ i ≤ cols.length ∧ k = i ∧ Jk 3 junk ∧ (ks = keyF (cols.take i) vals ∧ b = wholeF (cols.take i) vals) ∧
    fr = [(0, .c (.fz (cols.map encI))), (1, .c (.fz (vals.map encV))), (6, .c (vec (σ.next + 0) v (ks.map encV) junk)), (7, .c (.bool b)), (8, .c (.int .i64 k))] ∧ τ = E σ [(v, ks.map encV ++ junk)]) ?_ _ _ _ ⟨0, _, 0, [], [], true, rfl, Nat.zero_le _, rfl, Jk.nil, ⟨rfl, rfl⟩, rfl, rfl⟩)
  rintro m fr τ ⟨i, k, v, junk, ks, b, rfl, hile, hk, hj, ⟨hks, hb⟩, rfl, rfl⟩ hrec
  by_cases hlt : i < cols.length
  · obtain ⟨q1, q2⟩ := hi _ (List.getElem_mem hlt)
    have hc : cols[i] = (cols[i].toNat : Int) := by omega
    have hcl : cols[i].toNat < vals.length := by omega
    have hv := valAt_eq hcl
    have hkl : (ks.map encV).length = i := by rw [List.length_map, hks, keyF_len, List.length_take]; omega
    have hbd : ((ks.map encV).length + 1) * 32 ≤ 140737488355328 := by omega
    have e1 : ks.map encV ++ [encV vals[cols[i].toNat]] = (ks ++ [vals[cols[i].toNat]]).map encV := by simp
    have hk2 : ks ++ [vals[cols[i].toNat]] = keyF (cols.take (i + 1)) vals := by rw [keyF_take hlt, ← hks, hv]
    have hw2 := wholeF_take (vals := vals) hlt
    rw [← hb, hv] at hw2
    cases b
    · repeat' first|refine yaG ?_|((first|apply yG|apply yH|apply yI);exact rfl;(first|exact yX (enc := encI) rfl rfl hk hlt rfl|exact yX (enc := encV) rfl rfl hc hcl rfl))|(apply Go.app1;exact rfl;exact rfl;exact rfl;exact rfl;exact rfl;exact lens;exact hj;exact rfl;exact hbd;intro v' junk' hj')|(exfalso;omega)|(refine yaS ?_ ?_<;>intro _)
      refine Go.keep [0, 1, 6, 7, 8] (hrec _ _ _ (by omega) ⟨i + 1, _, v', junk', ks ++ [vals[cols[i].toNat]], _, rfl, hlt, wrap_succ hk (by omega), hj', ⟨hk2, hw2.symm⟩, ?_, ?_⟩)
      · rw [← e1]; rfl
      · rw [← e1]; rfl
    · repeat' first|refine yaG ?_|((first|apply yG|apply yH|apply yI);exact rfl;(first|exact yX (enc := encI) rfl rfl hk hlt rfl|exact yX (enc := encV) rfl rfl hc hcl rfl))|(apply Go.app1;exact rfl;exact rfl;exact rfl;exact rfl;exact rfl;exact lens;exact hj;exact rfl;exact hbd;intro v' junk' hj')|(exfalso;omega)|(refine yaS ?_ ?_<;>intro _)
      refine Go.keep [0, 1, 6, 7, 8] (hrec _ _ _ (by omega) ⟨i + 1, _, v', junk', ks ++ [vals[cols[i].toNat]], vals[cols[i].toNat].k != 0, rfl, hlt, wrap_succ hk (by omega), hj', ⟨hk2, hw2.symm⟩, ?_, ?_⟩)
      · rw [← e1]; rfl
      · rw [← e1]; rfl
  · repeat' first|refine yaG ?_|(exfalso;omega)|(refine yaS ?_ ?_<;>intro _)
    refine .ret rfl ?_
    rw [List.take_of_length_le (by omega)] at hks hb
    rw [← hks, ← hb]
    exact newPair (.bool _) (newVec clean_append hj)
theorem l4Key_ok (cols : List Int) (vals : List Val) (hx : cols.length ≤ 34359738368) (hi : InR cols vals.length) : Pure Tryz.prog 148 [.c (.fz (cols.map encI)), .c (.fz (vals.map encV))] (.tup [.c (.fz ((keyF cols vals).map encV)), .c (.bool (wholeF cols vals))]) := NewV.pure (l4Key_new cols vals hx hi)
end Go.Proofs.YtdgnfdljkghpjaaGreat.Am

/- Rows that have a key. -/
set_option linter.unusedVariables false
set_option linter.unusedSimpArgs false
namespace Go.Proofs.YtdgnfdljkghpjaaGreat.Am

def hasB (cols : List Int) (key vals : List Val) : Bool := wholeF cols vals && (keyF cols vals == key)
def foundF (rows : List RowD) (cols : List Int) (key : List Val) : List Int := (rows.filter fun r => hasB cols key r.vals).map (·.id)
theorem foundF_take {rows : List RowD} {cols : List Int} {key : List Val} {i : Nat} (h : i < rows.length) : foundF (rows.take (i + 1)) cols key = foundF (rows.take i) cols key ++ if hasB cols key rows[i].vals then [rows[i].id] else [] := by
  rw [foundF, List.take_succ_eq_append_getElem h, List.filter_append, List.map_append, foundF]
  congr 1
  rw [List.filter_cons, List.filter_nil]
  split <;> rfl
theorem foundF_len {rows : List RowD} {cols : List Int} {key : List Val} : (foundF rows cols key).length ≤ rows.length := by rw [foundF, List.length_map]; exact List.length_filter_le _ _
theorem l4Find_ok (d : Data) (cols : List Int) (key : List Val) (hr : d.rows.length ≤ 1048576) (hx : cols.length ≤ 34359738368) (hi : ∀ r ∈ d.rows, InR cols r.vals.length) : Pure Tryz.prog 259 [.agg (encData d), .c (.fz (cols.map encI)), .c (.fz (key.map encV))] (.c (.fz ((foundF d.rows cols key).map encI))) := by
  refine NewV.pure fun σ => Ok.run mixed c_spec_l4Find_ok (Nat.le_of_ble_eq_true rfl) fun hS hA => ?_
  clear hS hA
  repeat' first|refine yaG ?_|(exfalso;omega)|(refine yaS ?_ ?_<;>intro _)
  refine Go.keep [1, 2, 3, 7, 8] (Go.loops (I := fun m fr τ => ∃ (i : Nat) (k : Int) (v : Nat) (junk : List (List Ce)) (ids : List Int), m = d.rows.length - i ∧ i ≤ d.rows.length ∧ k = i ∧ Jk 1 junk ∧ ids = foundF (d.rows.take i) cols key ∧
    fr = [(1, .c (.fz (cols.map encI))), (2, .c (.fz (key.map encV))), (3, .c (.fp (encData d))), (7, .c (vec (σ.next + 0) v (ids.map encI) junk)), (8, .c (.int .i64 k))] ∧ τ = E σ [(v, ids.map encI ++ junk)]) ?_ _ _ _ ⟨0, _, 0, [], [], rfl, Nat.zero_le _, rfl, Jk.nil, rfl, rfl, rfl⟩)
  rintro m fr τ ⟨i, k, v, junk, ids, rfl, hile, hk, hj, hids, rfl, rfl⟩ hrec
  by_cases hlt : i < d.rows.length
  · have c1 := l4Key_ok cols d.rows[i].vals hx (hi _ (List.getElem_mem hlt))
    have c2 := l1SameVals_ok (keyF cols d.rows[i].vals) key (by rw [keyF_len]; exact hx)
    have hn := foundF_take (cols := cols) (key := key) hlt
    rw [← hids, hasB] at hn
    have hl : (ids.map encI).length ≤ 1048576 := by rw [List.length_map, hids]; have := foundF_len (rows := d.rows.take i) (cols := cols) (key := key); rw [List.length_take] at this; omega
    have hbd : ((ids.map encI).length + 1) * 8 ≤ 140737488355328 := by omega
    have hz1 : ∀ e ∈ ids.map encI, e.length = 1 := fun e he => (flatIs e he).1
    have e1 : ids.map encI ++ [encI d.rows[i].id] = (ids ++ [d.rows[i].id]).map encI := by simp
    clear hi
    generalize keyF cols d.rows[i].vals = ks at c1 c2 hn
    generalize (ks == key) = q at c2 hn
    cases hb : wholeF cols d.rows[i].vals
    · rw [hb] at c1 hn
      rw [Bool.false_and, if_neg Bool.false_ne_true, List.append_nil] at hn
      repeat' first|refine yaG ?_|((first|apply yG|apply yH|apply yI);exact rfl;(first|exact yX (enc := encRowD) rfl rfl hk hlt rfl))|refine yaC (c1) ?_|(exfalso;omega)|(refine yaS ?_ ?_<;>intro _)
      exact Go.keep [1, 2, 3, 7, 8] (hrec _ _ _ (by omega) ⟨i + 1, _, v, junk, ids, rfl, hlt, wrap_succ hk (by omega), hj, hn.symm, rfl, rfl⟩)
    · cases q
      · rw [hb] at c1 hn
        rw [Bool.and_false, if_neg Bool.false_ne_true, List.append_nil] at hn
        repeat' first|refine yaG ?_|((first|apply yG|apply yH|apply yI);exact rfl;(first|exact yX (enc := encRowD) rfl rfl hk hlt rfl))|refine yaC (c1) ?_|refine yaC (c2) ?_|(exfalso;omega)|(refine yaS ?_ ?_<;>intro _)
        exact Go.keep [1, 2, 3, 7, 8] (hrec _ _ _ (by omega) ⟨i + 1, _, v, junk, ids, rfl, hlt, wrap_succ hk (by omega), hj, hn.symm, rfl, rfl⟩)
      · rw [hb] at c1 hn
        rw [Bool.and_true, if_pos rfl] at hn
        repeat' first|refine yaG ?_|((first|apply yG|apply yH|apply yI);exact rfl;(first|exact yX (enc := encRowD) rfl rfl hk hlt rfl))|(apply Go.app1;exact rfl;exact rfl;exact rfl;exact rfl;exact rfl;exact hz1;exact hj;exact rfl;exact hbd;intro v' junk' hj')|refine yaC (c1) ?_|refine yaC (c2) ?_|(exfalso;omega)|(refine yaS ?_ ?_<;>intro _)
        refine Go.keep [1, 2, 3, 7, 8] (hrec _ _ _ (by omega) ⟨i + 1, _, v', junk', ids ++ [d.rows[i].id], rfl, hlt, wrap_succ hk (by omega), hj', hn.symm, ?_, ?_⟩)
        · rw [← e1]; rfl
        · rw [← e1]; rfl
  · repeat' first|refine yaG ?_|(exfalso;omega)|(refine yaS ?_ ?_<;>intro _)
    refine .ret rfl ?_
    rw [List.take_of_length_le (by omega)] at hids
    rw [← hids]
    exact newVec flatIs hj
end Go.Proofs.YtdgnfdljkghpjaaGreat.Am

/- Rows' nulls and checks. -/
set_option linter.unusedVariables false
set_option linter.unusedSimpArgs false
namespace Go.Proofs.YtdgnfdljkghpjaaGreat.Am

structure TabOk (t : Table) : Prop where
  cols0 : 1 ≤ t.cols.length
  cols8 : t.cols.length ≤ 8
  key : InR t.key t.cols.length
  uniq : ∀ u ∈ t.uniques, InR u.cols t.cols.length
  chk : ∀ c ∈ t.checks, exprF c.expr t.cols.length = true
  fk : ∀ f ∈ t.fks, InR f.cols t.cols.length
  uniq3 : t.uniques.length ≤ 3
  chk3 : t.checks.length ≤ 3
  fk3 : t.fks.length ≤ 3
theorem tableF_facts {t : Table} (h : tableF t = true) : TabOk t := by
  simp only [tableF, Bool.and_eq_true, decide_eq_true_eq, Bool.not_eq_true', List.any_eq_false, Bool.not_eq_false', Bool.not_eq_true] at h
  obtain ⟨h1, h2, h3, h4, h5, h6, h7, h8, h9, h10⟩ := h
  have hc := areColsF_len h2
  exact ⟨hc.1, hc.2, colsF_in h3, fun u hu => colsF_in (by simpa using h8 u hu), fun c hc => by simpa using h9 c hc, fun f hf => by
    have : isFkF f t.cols.length = true := by simpa using h10 f hf
    simp only [isFkF, Bool.and_eq_true] at this
    exact colsF_in this.1, by omega, by omega, by omega⟩
theorem schemaF_tab {s : List Table} (h : schemaF s = true) : ∀ t ∈ s, TabOk t := fun t ht => by
  simp only [schemaF, Bool.and_eq_true] at h
  exact tableF_facts (namesAux_ok h.2.1 t ht)
def nullAux (t : Table) : Nat → List Val → Bool
  | _, [] => false
  | i, v :: l => (notNullAt t i && v.k == 0) || nullAux t (i + 1) l
theorem l4Nulls_ok (t : Table) (vals : List Val) (hl : vals.length = t.cols.length) (hc : t.cols.length ≤ 8) : Pure Tryz.prog 241 [.agg (encTable t), .c (.fz (vals.map encV))] (.c (.bool (!nullAux t 0 vals))) := by
  refine Pure.run mixed c_spec_l4Nulls_ok (Nat.le_of_ble_eq_true rfl) fun σ hS hA => ?_
  clear hS hA
  repeat' first|refine yaG ?_|(exfalso;omega)|(refine yaS ?_ ?_<;>intro _)
  refine Go.keep [1, 2, 5] (Go.loops (I := fun m fr τ => ∃ (i : Nat) (k : Int), m = vals.length - i ∧ i ≤ vals.length ∧ k = i ∧ nullAux t 0 vals = nullAux t i (vals.drop i) ∧
    fr = [(1, .c (.fz (vals.map encV))), (2, .c (.fp (encTable t))), (5, .c (.int .i64 k))] ∧ τ = E σ []) ?_ _ _ _ ⟨0, _, rfl, Nat.zero_le _, rfl, rfl, rfl, rfl⟩)
  rintro m fr τ ⟨i, k, rfl, hi, hk, hs, rfl, rfl⟩ hrec
  by_cases hlt : i < vals.length
  · have hlc : i < t.cols.length := by omega
    have hnn : notNullAt t i = t.cols[i].notNull := by rw [notNullAt, Int.toNat_natCast, List.getElem?_eq_getElem hlc]
    rw [List.drop_eq_getElem_cons hlt, nullAux, hnn] at hs
    cases hb : t.cols[i].notNull
    · rw [hb, Bool.false_and, Bool.false_or] at hs
      repeat' first|refine yaG ?_|((first|apply yG|apply yH|apply yI);exact rfl;(first|exact yX (enc := encV) rfl rfl hk hlt rfl|exact yX (enc := encCol) rfl rfl hk hlc rfl))|(exfalso;omega)|(refine yaS ?_ ?_<;>intro _)
      all_goals first
        | exact Go.keep [1, 2, 5] (hrec _ _ _ (by omega) ⟨i + 1, _, rfl, hlt, wrap_succ hk (by omega), hs, rfl, rfl⟩)
        | (exfalso; simp_all; done)
    · by_cases h0 : vals[i].k = 0
      · rw [hb, h0] at hs
        repeat' first|refine yaG ?_|((first|apply yG|apply yH|apply yI);exact rfl;(first|exact yX (enc := encV) rfl rfl hk hlt rfl|exact yX (enc := encCol) rfl rfl hk hlc rfl))|(exfalso;omega)|(refine yaS ?_ ?_<;>intro _)
        all_goals first
          | exact .ret rfl (.bool (by rw [hs]; rfl))
          | (exfalso; simp_all; done)
      · rw [hb, beq_eq_false_iff_ne.2 h0, Bool.and_false, Bool.false_or] at hs
        repeat' first|refine yaG ?_|((first|apply yG|apply yH|apply yI);exact rfl;(first|exact yX (enc := encV) rfl rfl hk hlt rfl|exact yX (enc := encCol) rfl rfl hk hlc rfl))|(exfalso;omega)|(refine yaS ?_ ?_<;>intro _)
        all_goals first
          | exact Go.keep [1, 2, 5] (hrec _ _ _ (by omega) ⟨i + 1, _, rfl, hlt, wrap_succ hk (by omega), hs, rfl, rfl⟩)
          | (exfalso; simp_all; done)
  · repeat' first|refine yaG ?_|(exfalso;omega)|(refine yaS ?_ ?_<;>intro _)
    rw [List.drop_eq_nil_of_le (by omega), nullAux] at hs
    exact .ret rfl (.bool (by rw [hs]; rfl))
def checkBad (vals : List Val) (x : Chk) : Bool := decide (truthI x.expr vals < 1)
theorem l4Checks_ok (t : Table) (vals : List Val) (hn : t.checks.length ≤ 3) (hx : ∀ c ∈ t.checks, exprF c.expr vals.length = true) (hv : areVals vals 16 = true) : Pure Tryz.prog 242 [.agg (encTable t), .c (.fz (vals.map encV))] (.c (.bool (!(t.checks.any (checkBad vals))))) := by
  refine Pure.run mixed c_spec_l4Checks_ok (Nat.le_of_ble_eq_true rfl) fun σ hS hA => ?_
  clear hS hA
  repeat' first|refine yaG ?_|(exfalso;omega)|(refine yaS ?_ ?_<;>intro _)
  refine Go.keep [1, 2, 5] (Go.loops (I := fun m fr τ => ∃ (i : Nat) (k : Int), m = t.checks.length - i ∧ i ≤ t.checks.length ∧ k = i ∧ t.checks.any (checkBad vals) = (t.checks.drop i).any (checkBad vals) ∧
    fr = [(1, .c (.fz (vals.map encV))), (2, .c (.fp (encTable t))), (5, .c (.int .i64 k))] ∧ τ = E σ []) ?_ _ _ _ ⟨0, _, rfl, Nat.zero_le _, rfl, rfl, rfl, rfl⟩)
  rintro m fr τ ⟨i, k, rfl, hi, hk, hs, rfl, rfl⟩ hrec
  by_cases hlt : i < t.checks.length
  · have hex := hx _ (List.getElem_mem hlt)
    have c1 := l2Truth_ok t.checks[i].expr vals hv hex
    have hTT : truthI t.checks[i].expr vals = truthR t.checks[i].expr vals := by rw [truthI, evalOk, hv, hex]; rfl
    rw [List.drop_eq_getElem_cons hlt, List.any_cons, checkBad, hTT] at hs
    generalize truthR t.checks[i].expr vals = T at c1 hs
    by_cases h1 : T < 1
    · rw [decide_eq_true h1, Bool.true_or] at hs
      repeat' first|refine yaG ?_|((first|apply yG|apply yH|apply yI);exact rfl;(first|exact yX (enc := encChk) rfl rfl hk hlt rfl))|refine yaC (c1) ?_|(exfalso;omega)|(refine yaS ?_ ?_<;>intro _)
      all_goals first
        | exact .ret rfl (.bool (by rw [hs]; rfl))
        | (exfalso; omega)
    · rw [decide_eq_false h1, Bool.false_or] at hs
      repeat' first|refine yaG ?_|((first|apply yG|apply yH|apply yI);exact rfl;(first|exact yX (enc := encChk) rfl rfl hk hlt rfl))|refine yaC (c1) ?_|(exfalso;omega)|(refine yaS ?_ ?_<;>intro _)
      all_goals first
        | exact Go.keep [1, 2, 5] (hrec _ _ _ (by omega) ⟨i + 1, _, rfl, hlt, wrap_succ hk (by omega), hs, rfl, rfl⟩)
        | (exfalso; omega)
  · repeat' first|refine yaG ?_|(exfalso;omega)|(refine yaS ?_ ?_<;>intro _)
    rw [List.drop_eq_nil_of_le (by omega), List.any_nil] at hs
    exact .ret rfl (.bool (by rw [hs]; rfl))
end Go.Proofs.YtdgnfdljkghpjaaGreat.Am

/- Rivals: rows with the same key. -/
set_option linter.unusedVariables false
set_option linter.unusedSimpArgs false
namespace Go.Proofs.YtdgnfdljkghpjaaGreat.Am

theorem frz_old {σ : Store} {l : List (Nat × List (List Ce))} {k v N : Nat} {ys junk : List (List Ce)} (hl : l[k]? = some (v, ys ++ junk)) (ho : ∀ e ∈ ys, ∀ x ∈ e, Old N x) (hN : N ≤ σ.next + k) : FrzV (E σ l) N (.c (vec (σ.next + k) v ys junk)) (.c (.fz ys)) := by
  refine .c (.sl _ _ _ _ _ (ys ++ junk) ys hN (by rw [E_at]; exact hl) (by simp) rfl (fun i hi => ?_) (fun i j hi hj => ?_))
  · simp only [Nat.zero_add]
    rw [List.getElem_append_left hi]
  · have e : (ys ++ junk)[0 + i]'(by simp; omega) = ys[i] := by
      simp only [Nat.zero_add]
      rw [List.getElem_append_left hi]
    simp only [e]
    exact .same _ (ho _ (List.getElem_mem _) _ (List.getElem_mem hj))
def keysOf (t : Table) : List (List Int) := t.key :: t.uniques.map (·.cols)
def twiceF (rows : List RowD) (r : RowD) (cols : List Int) : Bool := wholeF cols r.vals && (foundF rows cols (keyF cols r.vals)).any fun id => !(id == r.id)
theorem l5Twice_ok (d : Data) (cols : List Int) (r : RowD) (hr : d.rows.length ≤ 1048576) (hx : cols.length ≤ 34359738368) (hv : InR cols r.vals.length) (hi : ∀ q ∈ d.rows, InR cols q.vals.length) : Pure Tryz.prog 263 [.agg (encData d), .c (.fz (cols.map encI)), .agg (encRowD r)] (.c (.bool (twiceF d.rows r cols))) := by
  refine Pure.run mixed c_spec_l5Twice_ok (Nat.le_of_ble_eq_true rfl) fun σ hS hA => ?_
  clear hS hA
  have c1 := l4Key_ok cols r.vals hx hv
  have c2 := l4Find_ok d cols (keyF cols r.vals) hr hx hi
  have hl := foundF_len (rows := d.rows) (cols := cols) (key := keyF cols r.vals)
  rw [twiceF]
  generalize foundF d.rows cols (keyF cols r.vals) = ids at c2 hl ⊢
  generalize keyF cols r.vals = ks at c1 c2
  cases hw : wholeF cols r.vals
  · rw [hw] at c1
    repeat' first|refine yaG ?_|refine yaC (c1) ?_|(exfalso;omega)|(refine yaS ?_ ?_<;>intro _)
    exact .ret rfl (.bool rfl)
  rw [hw] at c1
  rw [Bool.true_and]
  repeat' first|refine yaG ?_|refine yaC (c1) ?_|refine yaC (c2) ?_|(exfalso;omega)|(refine yaS ?_ ?_<;>intro _)
  refine Go.keep [5, 9, 10] (Go.loops (I := fun m fr τ => ∃ (i : Nat) (k : Int), m = ids.length - i ∧ i ≤ ids.length ∧ k = i ∧ (ids.any fun id => !(id == r.id)) = ((ids.drop i).any fun id => !(id == r.id)) ∧
    fr = [(5, .c (.fp (encRowD r))), (9, .c (.fz (ids.map encI))), (10, .c (.int .i64 k))] ∧ τ = E σ []) ?_ _ _ _ ⟨0, _, rfl, Nat.zero_le _, rfl, rfl, rfl, rfl⟩)
  rintro m fr τ ⟨i, k, rfl, hile, hk, hs, rfl, rfl⟩ hrec
  by_cases hlt : i < ids.length
  · rw [List.drop_eq_getElem_cons hlt, List.any_cons] at hs
    by_cases h0 : ids[i] = r.id
    · rw [beq_iff_eq.2 h0, Bool.not_true, Bool.false_or] at hs
      repeat' first|refine yaG ?_|((first|apply yG|apply yH|apply yI);exact rfl;(first|exact yX (enc := encI) rfl rfl hk hlt rfl))|(exfalso;omega)|(refine yaS ?_ ?_<;>intro _)
      all_goals first
        | exact Go.keep [5, 9, 10] (hrec _ _ _ (by omega) ⟨i + 1, _, rfl, hlt, wrap_succ hk (by omega), hs, rfl, rfl⟩)
        | (exfalso; simp_all; done)
    · rw [beq_eq_false_iff_ne.2 h0, Bool.not_false, Bool.true_or] at hs
      repeat' first|refine yaG ?_|((first|apply yG|apply yH|apply yI);exact rfl;(first|exact yX (enc := encI) rfl rfl hk hlt rfl))|(exfalso;omega)|(refine yaS ?_ ?_<;>intro _)
      all_goals first
        | exact .ret rfl (.bool hs.symm)
        | (exfalso; simp_all; done)
  · repeat' first|refine yaG ?_|(exfalso;omega)|(refine yaS ?_ ?_<;>intro _)
    rw [List.drop_eq_nil_of_le (by omega), List.any_nil] at hs
    exact .ret rfl (.bool hs.symm)
theorem l5Unique_ok (t : Table) (d : Data) (r : RowD) (hr : d.rows.length ≤ 1048576) (hu : t.uniques.length ≤ 3) (hx : ∀ k ∈ keysOf t, k.length ≤ 34359738368) (hv : ∀ k ∈ keysOf t, InR k r.vals.length) (hi : ∀ k ∈ keysOf t, ∀ r ∈ d.rows, InR k r.vals.length) :
    Pure Tryz.prog 256 [.agg (encTable t), .agg (encData d), .agg (encRowD r)] (.c (.bool (!((keysOf t).any (twiceF d.rows r))))) := by
  refine Pure.run mixed c_spec_l5Unique_ok (Nat.le_of_ble_eq_true rfl) fun σ hS hA => ?_
  clear hS hA
  have hk0 : t.key ∈ keysOf t := by simp [keysOf]
  have c1 := l5Twice_ok d t.key r hr (hx _ hk0) (hv _ hk0) (hi _ hk0)
  rw [keysOf, List.any_cons, List.any_map]
  cases hb : twiceF d.rows r t.key
  · rw [hb] at c1
    rw [Bool.false_or]
    repeat' first|refine yaG ?_|refine yaC (c1) ?_|(exfalso;omega)|(refine yaS ?_ ?_<;>intro _)
    refine Go.keep [3, 4, 5, 7] (Go.loops (I := fun m fr τ => ∃ (i : Nat) (k : Int), m = t.uniques.length - i ∧ i ≤ t.uniques.length ∧ k = i ∧ (t.uniques.any (twiceF d.rows r ∘ (·.cols))) = ((t.uniques.drop i).any (twiceF d.rows r ∘ (·.cols))) ∧
      fr = [(3, .c (.fp (encTable t))), (4, .c (.fp (encData d))), (5, .c (.fp (encRowD r))), (7, .c (.int .i64 k))] ∧ τ = E σ []) ?_ _ _ _ ⟨0, _, rfl, Nat.zero_le _, rfl, rfl, rfl, rfl⟩)
    rintro m fr τ ⟨i, k, rfl, hile, hk, hs, rfl, rfl⟩ hrec
    by_cases hlt : i < t.uniques.length
    · have hki : t.uniques[i].cols ∈ keysOf t := by rw [keysOf]; exact List.mem_cons_of_mem _ (List.mem_map.2 ⟨_, List.getElem_mem hlt, rfl⟩)
      have c2 := l5Twice_ok d t.uniques[i].cols r hr (hx _ hki) (hv _ hki) (hi _ hki)
      rw [List.drop_eq_getElem_cons hlt, List.any_cons, Function.comp_apply] at hs
      cases hq : twiceF d.rows r t.uniques[i].cols
      · rw [hq] at c2 hs
        rw [Bool.false_or] at hs
        repeat' first|refine yaG ?_|((first|apply yG|apply yH|apply yI);exact rfl;(first|exact yX (enc := encUniq) rfl rfl hk hlt rfl))|refine yaC (c2) ?_|(exfalso;omega)|(refine yaS ?_ ?_<;>intro _)
        exact Go.keep [3, 4, 5, 7] (hrec _ _ _ (by omega) ⟨i + 1, _, rfl, hlt, wrap_succ hk (by omega), hs, rfl, rfl⟩)
      · rw [hq] at c2 hs
        rw [Bool.true_or] at hs
        repeat' first|refine yaG ?_|((first|apply yG|apply yH|apply yI);exact rfl;(first|exact yX (enc := encUniq) rfl rfl hk hlt rfl))|refine yaC (c2) ?_|(exfalso;omega)|(refine yaS ?_ ?_<;>intro _)
        exact .ret rfl (.bool (by rw [hs]; rfl))
    · repeat' first|refine yaG ?_|(exfalso;omega)|(refine yaS ?_ ?_<;>intro _)
      rw [List.drop_eq_nil_of_le (by omega), List.any_nil] at hs
      exact .ret rfl (.bool (by rw [hs]; rfl))
  · rw [hb] at c1
    repeat' first|refine yaG ?_|refine yaC (c1) ?_|(exfalso;omega)|(refine yaS ?_ ?_<;>intro _)
    exact .ret rfl (.bool rfl)
end Go.Proofs.YtdgnfdljkghpjaaGreat.Am

/- References that lead nowhere. -/
set_option linter.unusedVariables false
set_option linter.unusedSimpArgs false
namespace Go.Proofs.YtdgnfdljkghpjaaGreat.Am

def refAt (s : List Table) (f : Fk) : Int := idxA (fun u : Table => u.name == f.table) s 0
def keyAt (s : List Table) (n : Int) : List Int := match s[n.toNat]? with | some u => u.key | none => []
def lostF (s : List Table) (db : List Data) (f : Fk) (vals : List Val) : Bool := wholeF f.cols vals && (((foundF (rowsAt db (refAt s f)) (keyAt s (refAt s f)) (keyF f.cols vals)).length : Int) == 0)
structure FkR (s : List Table) (db : List Data) (vals : List Val) (f : Fk) (n : Nat) : Prop where
  lt : n < s.length
  lt2 : n < db.length
  idx : refAt s f = (n : Int)
  rows : db[n].rows.length ≤ 1048576
  key : s[n].key.length ≤ 34359738368
  cols : f.cols.length ≤ 34359738368
  own : InR f.cols vals.length
  far : ∀ r ∈ db[n].rows, InR s[n].key r.vals.length
theorem FkR.val {s : List Table} {db : List Data} {vals : List Val} {f : Fk} {n : Nat} (h : FkR s db vals f n) : lostF s db f vals = (wholeF f.cols vals && (((foundF (db[n]'h.lt2).rows (s[n]'h.lt).key (keyF f.cols vals)).length : Int) == 0)) := by
  rw [lostF, h.idx, rowsAt, keyAt, Int.toNat_natCast, List.getElem?_eq_getElem h.lt, List.getElem?_eq_getElem h.lt2]
theorem l5Parent_ok (s : List Table) (db : List Data) (f : Fk) (vals : List Val) (n : Nat) (hs : s.length ≤ 34359738368) (h : FkR s db vals f n) : Pure Tryz.prog 246 [.c (.fz (s.map encTable)), .c (.fz (db.map encData)), .agg (encFk f), .c (.fz (vals.map encV))] (.c (.bool (!lostF s db f vals))) := by
  refine Pure.run mixed c_spec_l5Parent_ok (Nat.le_of_ble_eq_true rfl) fun σ hS hA => ?_
  clear hS hA
  have c1 := l3At_ok s f.table hs
  have hidx : idxA (fun u : Table => u.name == f.table) s 0 = (n : Int) := h.idx
  rw [hidx] at c1
  have c2 := l4Key_ok f.cols vals h.cols h.own
  have hlt := h.lt
  have hlt2 := h.lt2
  have c3 := l4Find_ok db[n] s[n].key (keyF f.cols vals) h.rows h.key h.far
  rw [h.val]
  generalize foundF db[n].rows s[n].key (keyF f.cols vals) = ids at c3 ⊢
  generalize keyF f.cols vals = ks at c2 c3
  cases hw : wholeF f.cols vals
  · rw [hw] at c2
    repeat' first|refine yaG ?_|refine yaC (c1) ?_|refine yaC (c2) ?_|(exfalso;omega)|(refine yaS ?_ ?_<;>intro _)
    exact .ret rfl (.bool rfl)
  · rw [hw] at c2
    repeat' first|refine yaG ?_|((first|apply yG|apply yH|apply yI);exact rfl;(first|exact yX (enc := encTable) rfl rfl rfl hlt rfl|exact yX (enc := encData) rfl rfl rfl hlt2 rfl))|refine yaC (c1) ?_|refine yaC (c2) ?_|refine yaC (c3) ?_|(exfalso;omega)|(refine yaS ?_ ?_<;>intro _)
    refine .ret rfl (.bool ?_)
    rw [Bool.true_and]
    by_cases h0 : (ids.length : Int) = 0
    · rw [beq_iff_eq.2 h0]
      exact decide_eq_false (by omega)
    · rw [beq_eq_false_iff_ne.2 h0]
      exact decide_eq_true (by omega)
def lostBad (s : List Table) (db : List Data) (df : Bool) (vals : List Val) (f : Fk) : Bool := (df || !f.deferred) && lostF s db f vals
theorem l5Refers_ok (s : List Table) (db : List Data) (q : Int) (m : Nat) (vals : List Val) (now : Bool) (hs : s.length ≤ 34359738368) (hq : q = (m : Int)) (hm : m < s.length) (hn : s[m].fks.length ≤ 3) (h : ∀ f ∈ s[m].fks, ∃ n, FkR s db vals f n) : Pure Tryz.prog 213 [.c (.fz (s.map encTable)), .c (.fz (db.map encData)), .c (.int .i64 q), .c (.fz (vals.map encV)), .c (.bool now)] (.c (.bool (!(s[m].fks.any (lostBad s db (!now) vals))))) := by
  refine Pure.run mixed c_spec_l5Refers_ok (Nat.le_of_ble_eq_true rfl) fun σ hS hA => ?_
  clear hS hA
  repeat' first|refine yaG ?_|(exfalso;omega)|(refine yaS ?_ ?_<;>intro _)
  refine Go.keep [0, 1, 2, 3, 4, 11] (Go.loops (I := fun mm fr τ => ∃ (i : Nat) (k : Int), mm = s[m].fks.length - i ∧ i ≤ s[m].fks.length ∧ k = i ∧ s[m].fks.any (lostBad s db (!now) vals) = (s[m].fks.drop i).any (lostBad s db (!now) vals) ∧
    fr = [(0, .c (.fz (s.map encTable))), (1, .c (.fz (db.map encData))), (2, .c (.int .i64 q)), (3, .c (.fz (vals.map encV))), (4, .c (.bool now)), (11, .c (.int .i64 k))] ∧ τ = E σ []) ?_ _ _ _ ⟨0, _, rfl, Nat.zero_le _, rfl, rfl, rfl, rfl⟩)
  rintro mm fr τ ⟨i, k, rfl, hi, hk, hsq, rfl, rfl⟩ hrec
  by_cases hlt : i < s[m].fks.length
  · obtain ⟨n, hr⟩ := h _ (List.getElem_mem hlt)
    have c1 := l5Parent_ok s db s[m].fks[i] vals n hs hr
    rw [List.drop_eq_getElem_cons hlt, List.any_cons, lostBad] at hsq
    generalize lostF s db s[m].fks[i] vals = b at c1 hsq
    have skip : (s[m].fks.any (lostBad s db (!now) vals) = (s[m].fks.drop (i + 1)).any (lostBad s db (!now) vals)) → ∀ fr τ, fr = [(0, AV.c (.fz (s.map encTable))), (1, .c (.fz (db.map encData))), (2, .c (.int .i64 q)), (3, .c (.fz (vals.map encV))), (4, .c (.bool now)), (11, .c (.int .i64 (IntKind.i64.wrap (k + 1))))] → τ = E σ [] → _ := fun e fr τ h1 h2 => hrec (s[m].fks.length - (i + 1)) fr τ (by omega) ⟨i + 1, _, rfl, hlt, wrap_succ hk (by omega), e, h1, h2⟩
    clear hrec
    cases now <;> cases hd : s[m].fks[i].deferred <;> cases b
    all_goals
      repeat' first|refine yaG ?_|((first|apply yG|apply yH|apply yI);exact rfl;(first|exact yX (enc := encTable) rfl rfl hq hm rfl|exact yX (enc := encFk) rfl rfl hk hlt rfl))|refine yaC (c1) ?_|(exfalso;omega)|(refine yaS ?_ ?_<;>intro _)
      all_goals first
        | (refine Go.keep [0, 1, 2, 3, 4, 11] (skip ?_ _ _ rfl rfl); simp_all; done)
        | (refine .ret rfl (.bool ?_); simp_all; done)
        | (exfalso; simp_all; done)
  · repeat' first|refine yaG ?_|((first|apply yG|apply yH|apply yI);exact rfl;(first|exact yX (enc := encTable) rfl rfl hq hm rfl))|(exfalso;omega)|(refine yaS ?_ ?_<;>intro _)
    rw [List.drop_eq_nil_of_le (by omega), List.any_nil] at hsq
    exact .ret rfl (.bool (by rw [hsq]; rfl))
end Go.Proofs.YtdgnfdljkghpjaaGreat.Am

/- Flaws: what is true of the rows of a database. -/
set_option linter.unusedVariables false
set_option linter.unusedSimpArgs false
namespace Go.Proofs.YtdgnfdljkghpjaaGreat.Am

structure RowR (s : List Table) (db : List Data) (t : Table) (r : RowD) : Prop where
  len : r.vals.length = t.cols.length
  are : areVals r.vals 16 = true
  fks : ∀ f ∈ t.fks, ∃ n, FkR s db r.vals f n
structure TabR (s : List Table) (db : List Data) (t : Table) (d : Data) : Prop where
  tab : TabOk t
  rows : d.rows.length ≤ 60
  row : ∀ r ∈ d.rows, RowR s db t r
  keys : ∀ k ∈ keysOf t, k.length ≤ 34359738368
  inr : ∀ k ∈ keysOf t, InR k t.cols.length
  chk : ∀ c ∈ t.checks, c.expr.length ≤ 34359738368
theorem db_tab {s : List Table} {db : List Data} (h : dbF s db = true) (hb : ∀ t ∈ s, bTable 34359738368 t) {i : Nat} (hi : i < s.length) (hi2 : i < db.length) : TabR s db s[i] db[i] := by
  obtain ⟨hs, hl, hrows⟩ := dbF_at h
  have hT := schemaF_tab hs
  have hrow := rowsF_mem (hrows i hi hi2)
  have hti := hT _ (List.getElem_mem hi)
  have hbi := hb _ (List.getElem_mem hi)
  have hkey : ∀ k ∈ keysOf s[i], k.length ≤ 34359738368 ∧ InR k s[i].cols.length := fun k hk => by
    rw [keysOf] at hk
    rcases List.mem_cons.1 hk with rfl | hk
    · exact ⟨hbi.2.2.1, hti.key⟩
    · obtain ⟨u, hu, rfl⟩ := List.mem_map.1 hk
      exact ⟨hbi.2.2.2.1.2 u hu, hti.uniq u hu⟩
  refine ⟨hti, hrow.1, fun r hr => ?_, fun k hk => (hkey k hk).1, fun k hk => (hkey k hk).2, fun c hc => (hbi.2.2.2.2.1.2 c hc).1⟩
  have hfit := (hrow.2 r hr).1
  refine ⟨(fitF_vals hfit).1, fitF_are hfit hti.cols8, fun f hf => ?_⟩
  have hmet : metF s s[i] f = true := by
    simp only [schemaF, Bool.and_eq_true, Bool.not_eq_true', List.any_eq_false, Bool.not_eq_true, Bool.not_eq_false'] at hs
    simpa using hs.2.2 _ (List.getElem_mem hi) f hf
  simp only [metF, Bool.and_eq_true] at hmet
  rcases idxA_at (p := fun u : Table => u.name == f.table) (l := s) (i := 0) (Int.le_refl _) with hx | ⟨n, hn, hx, hp⟩
  · exfalso
    have := any_idx (p := fun u : Table => u.name == f.table) (l := s)
    rw [hx, hmet.1] at this
    exact absurd this (by decide)
  · have hn2 : n < db.length := by omega
    have htn := hT _ (List.getElem_mem hn)
    have hrn := rowsF_mem (hrows n hn hn2)
    exact ⟨n, hn, hn2, by rw [refAt, hx]; omega, by omega, (hb _ (List.getElem_mem hn)).2.2.1, (hbi.2.2.2.2.2.2 f hf).1, by rw [(fitF_vals hfit).1]; exact hti.fk f hf, fun q hq => by rw [(fitF_vals (hrn.2 q hq).1).1]; exact htn.key⟩
end Go.Proofs.YtdgnfdljkghpjaaGreat.Am

/- Joined lines: rooms made, slices joined. -/
set_option linter.unusedVariables false
set_option linter.unusedSimpArgs false
namespace Go.Proofs.YtdgnfdljkghpjaaGreat.Am

end Go.Proofs.YtdgnfdljkghpjaaGreat.Am

/- Entries: copies of many, marks that are held. -/
set_option linter.unusedVariables false
set_option linter.unusedSimpArgs false
namespace Go.Proofs.YtdgnfdljkghpjaaGreat.Am

theorem entry_owned {τ : Store} {S : Nat → Prop} {k : Ce} {xk : Ce} {n : Int} (h : Has τ S k xk) : HasL τ S [k, .int .i64 n] [xk, .int .i64 n] :=
  (HasL.two h (HasL.flat (S := fun _ => False) (xs := [.int .i64 n]) (fun x hx => by simp at hx; subst hx; exact .int _ _)) (fun _ _ h => h)).mono fun a ha => ha.elim id (fun h => h.elim)
theorem take_succ_map {α β : Type} {f : α → β} {l : List α} {i : Nat} (h : i < l.length) : (l.take (i + 1)).map f = (l.take i).map f ++ [f l[i]] := by
  rw [List.take_succ_eq_append_getElem h, List.map_append]
  rfl
theorem copiedEntries_ok (l : List Entry) (hx : l.length ≤ 34359738368) (hk : ∀ e ∈ l, e.key.length ≤ 34359738368) (σ : Store) : Ok Tryz.prog 53 [.c (.fz (l.map encE))] σ (NewV σ (.c (.fz (l.map encE)))) := by
  refine Ok.run mixed c_impl_copiedEntries_ok (Nat.le_of_ble_eq_true rfl) fun hS hA => ?_
  clear hS hA
  repeat' first|refine yaG ?_|(exfalso;omega)|(refine yaS ?_ ?_<;>intro _)
  refine Go.keep [3, 7, 8, 9] (Go.loops (I := fun m fr τ => ∃ i : Nat, ∃ n : Int, ∃ x : Ce, m = l.length - i ∧ i ≤ l.length ∧ n = i ∧ Grow σ τ 2 ((l.take i).map encE) x ∧
    fr = [(3, .c x), (7, .c (.fz (l.map encE))), (8, .c (.int .i64 (l.length : Int))), (9, .c (.int .i64 n))]) ?_ _ _ _ ⟨0, _, _, rfl, Nat.zero_le _, rfl, Grow.empty, rfl⟩)
  rintro m fr τ ⟨i, n, x, rfl, hi, hn, hG, rfl⟩ hrec
  have hle : σ.next ≤ τ.next := hG.gr.next
  by_cases hlt : i < l.length
  · repeat' first|(apply yA;exact rfl)|(apply Go.qd)|apply Qc.nil|(apply Qc.op;exact rfl;(first|exact fun _ => rfl|exact fun _ => yM rfl|exact fun _ => yX (enc := encE) rfl rfl hn hlt rfl))|(apply Qc.no;exact rfl)|((first|apply yD|apply yE);(first|exact yF|assumption);iterate 6 exact rfl)|((first|apply yG|apply yH);exact rfl;(first|exact yJ|exact yK rfl rfl|exact yL rfl|exact yM rfl|exact rfl|exact aL rfl rfl rfl rfl rfl|exact aS rfl rfl rfl rfl rfl rfl rfl|exact yX (enc := encE) rfl rfl hn hlt rfl))|((first|apply yN|apply yO);exact rfl)|(exfalso;omega)|(((first|apply yT|apply yU|apply yV|apply yW);exact rfl;(first|exact .d|exact .e|exact .n|((fail_if_success exact bqt);(fail_if_success exact bqf);exact .b)))<;>intro _)
    refine Qc.call _ rfl rfl rfl (cloneVals_ok l[i].key (hk _ (List.getElem_mem hlt)) τ) ?_
    rintro r τ2 ⟨hg2, hh2⟩
    cases hh2 with
    | c hh2 =>
    repeat' first|(apply yA;exact rfl)|(apply Go.qd)|apply Qc.nil|(apply Qc.op;exact rfl;(first|exact fun _ => rfl|exact fun _ => yM rfl))|(apply Qc.no;exact rfl)|((first|apply yD|apply yE);(first|exact yF|assumption);iterate 6 exact rfl)|((first|apply yG|apply yH);exact rfl;(first|exact yJ|exact yK rfl rfl|exact yL rfl|exact yM rfl|exact rfl|exact aL rfl rfl rfl rfl rfl|exact aS rfl rfl rfl rfl rfl rfl rfl))|((first|apply yN|apply yO);exact rfl)|(exfalso;omega)|(((first|apply yT|apply yU|apply yV|apply yW);exact rfl;(first|exact .d|exact .e|exact .n|((fail_if_success exact bqt);(fail_if_success exact bqf);exact .b)))<;>intro _)
    refine Go.sgrow ?_ ?_ ?_ (hG.later hg2) hle hg2.next (entry_owned (n := l[i].id) hh2) rfl ?_ fun x' τ3 hG3 => ?_
    · exact rfl
    · exact rfl
    · exact rfl
    · simp
      omega
    repeat' first|(apply yA;exact rfl)|(apply Go.qd)|apply Qc.nil|(apply Qc.op;exact rfl;(first|exact fun _ => rfl|exact fun _ => yM rfl))|(apply Qc.no;exact rfl)|((first|apply yD|apply yE);(first|exact yF|assumption);iterate 6 exact rfl)|((first|apply yG|apply yH);exact rfl;(first|exact yJ|exact yK rfl rfl|exact yL rfl|exact yM rfl|exact rfl|exact aL rfl rfl rfl rfl rfl|exact aS rfl rfl rfl rfl rfl rfl rfl))|((first|apply yN|apply yO);exact rfl)|(exfalso;omega)|(((first|apply yT|apply yU|apply yV|apply yW);exact rfl;(first|exact .d|exact .e|exact .n|((fail_if_success exact bqt);(fail_if_success exact bqf);exact .b)))<;>intro _)
    refine Go.keep [3, 7, 8, 9] (hrec _ _ _ (by omega) ⟨i + 1, _, x', rfl, hlt, wrap_succ hn (by omega), ?_, rfl⟩)
    rw [take_succ_map hlt]
    exact hG3
  · repeat' first|refine yaG ?_|(exfalso;omega)|(refine yaS ?_ ?_<;>intro _)
    refine .ret rfl ?_
    rw [List.take_of_length_le (by omega)] at hG
    exact hG.v
theorem l11Copy_ok (l : List Entry) (hx : l.length ≤ 34359738368) (hk : ∀ e ∈ l, e.key.length ≤ 34359738368) (σ : Store) : Ok Tryz.prog 59 [.c (.fz (l.map encE))] σ (NewV σ (.c (.fz (l.map encE)))) := by
  refine Ok.run mixed c_spec_l11Copy_ok (Nat.le_of_ble_eq_true rfl) fun hS hA => ?_
  clear hS hA
  repeat' first|refine yaG ?_|(exfalso;omega)|(refine yaS ?_ ?_<;>intro _)
  refine Go.keep [0, 3, 4] (Go.loops (I := fun m fr τ => ∃ i : Nat, ∃ n : Int, ∃ x : Ce, m = l.length - i ∧ i ≤ l.length ∧ n = i ∧ Grow σ τ 2 ((l.take i).map encE) x ∧
    fr = [(0, .c (.fz (l.map encE))), (3, .c x), (4, .c (.int .i64 n))]) ?_ _ _ _ ⟨0, _, _, rfl, Nat.zero_le _, rfl, Grow.empty, rfl⟩)
  rintro m fr τ ⟨i, n, x, rfl, hi, hn, hG, rfl⟩ hrec
  have hle : σ.next ≤ τ.next := hG.gr.next
  by_cases hlt : i < l.length
  · repeat' first|(apply yA;exact rfl)|(apply Go.qd)|apply Qc.nil|(apply Qc.op;exact rfl;(first|exact fun _ => rfl|exact fun _ => yM rfl|exact fun _ => yX (enc := encE) rfl rfl hn hlt rfl))|(apply Qc.no;exact rfl)|((first|apply yD|apply yE);(first|exact yF|assumption);iterate 6 exact rfl)|((first|apply yG|apply yH);exact rfl;(first|exact yJ|exact yK rfl rfl|exact yL rfl|exact yM rfl|exact rfl|exact aL rfl rfl rfl rfl rfl|exact aS rfl rfl rfl rfl rfl rfl rfl|exact yX (enc := encE) rfl rfl hn hlt rfl))|((first|apply yN|apply yO);exact rfl)|(exfalso;omega)|(((first|apply yT|apply yU|apply yV|apply yW);exact rfl;(first|exact .d|exact .e|exact .n|((fail_if_success exact bqt);(fail_if_success exact bqf);exact .b)))<;>intro _)
    refine Qc.call _ rfl rfl rfl (l1CopyVals_ok l[i].key (hk _ (List.getElem_mem hlt)) τ) ?_
    rintro r τ2 ⟨hg2, hh2⟩
    cases hh2 with
    | c hh2 =>
    repeat' first|(apply yA;exact rfl)|(apply Go.qd)|apply Qc.nil|(apply Qc.op;exact rfl;(first|exact fun _ => rfl|exact fun _ => yM rfl|exact fun _ => yX (enc := encE) rfl rfl hn hlt rfl))|(apply Qc.no;exact rfl)|((first|apply yD|apply yE);(first|exact yF|assumption);iterate 6 exact rfl)|((first|apply yG|apply yH);exact rfl;(first|exact yJ|exact yK rfl rfl|exact yL rfl|exact yM rfl|exact rfl|exact aL rfl rfl rfl rfl rfl|exact aS rfl rfl rfl rfl rfl rfl rfl|exact yX (enc := encE) rfl rfl hn hlt rfl))|((first|apply yN|apply yO);exact rfl)|(exfalso;omega)|(((first|apply yT|apply yU|apply yV|apply yW);exact rfl;(first|exact .d|exact .e|exact .n|((fail_if_success exact bqt);(fail_if_success exact bqf);exact .b)))<;>intro _)
    refine Go.sgrow ?_ ?_ ?_ (hG.later hg2) hle hg2.next (entry_owned (n := l[i].id) hh2) rfl ?_ fun x' τ3 hG3 => ?_
    · exact rfl
    · exact rfl
    · exact rfl
    · simp
      omega
    repeat' first|(apply yA;exact rfl)|(apply Go.qd)|apply Qc.nil|(apply Qc.op;exact rfl;(first|exact fun _ => rfl|exact fun _ => yM rfl))|(apply Qc.no;exact rfl)|((first|apply yD|apply yE);(first|exact yF|assumption);iterate 6 exact rfl)|((first|apply yG|apply yH);exact rfl;(first|exact yJ|exact yK rfl rfl|exact yL rfl|exact yM rfl|exact rfl|exact aL rfl rfl rfl rfl rfl|exact aS rfl rfl rfl rfl rfl rfl rfl))|((first|apply yN|apply yO);exact rfl)|(exfalso;omega)|(((first|apply yT|apply yU|apply yV|apply yW);exact rfl;(first|exact .d|exact .e|exact .n|((fail_if_success exact bqt);(fail_if_success exact bqf);exact .b)))<;>intro _)
    refine Go.keep [0, 3, 4] (hrec _ _ _ (by omega) ⟨i + 1, _, x', rfl, hlt, wrap_succ hn (by omega), ?_, rfl⟩)
    rw [take_succ_map hlt]
    exact hG3
  · repeat' first|refine yaG ?_|(exfalso;omega)|(refine yaS ?_ ?_<;>intro _)
    refine .ret rfl ?_
    rw [List.take_of_length_le (by omega)] at hG
    exact hG.v

end Go.Proofs.YtdgnfdljkghpjaaGreat.Am

/- Joined lines: the walk of both packages' loops. -/
set_option linter.unusedVariables false
set_option linter.unusedSimpArgs false
namespace Go.Proofs.YtdgnfdljkghpjaaGreat.Am

end Go.Proofs.YtdgnfdljkghpjaaGreat.Am

/- Joined lines: the reference's; what the results are like; marks held. -/
set_option linter.unusedVariables false
set_option linter.unusedSimpArgs false
namespace Go.Proofs.YtdgnfdljkghpjaaGreat.Am

theorem l1CopyVals_mk (xs : List Val) (hx : xs.length ≤ 34359738368) : Makes Tryz.prog 60 [.c (.fz (xs.map encV))] 3 (xs.map encV) := by
  refine Makes.run mixed c_spec_l1CopyVals_ok (Nat.le_of_ble_eq_true rfl) fun σ hS hA => ?_
  clear hS hA
  repeat' first|refine yaG ?_|(exfalso;omega)|(refine yaS ?_ ?_<;>intro _)
  refine Go.app (ys := []) (junk := []) (zs := xs.map encV) rfl rfl rfl rfl rfl (by simp) Jk.nil (fun e he => (clean_append e he).1) (by simp; omega) fun v junk hj => ?_
  repeat' first|refine yaG ?_|(exfalso;omega)|(refine yaS ?_ ?_<;>intro _)
  exact .ret rfl ⟨v, junk, hj, rfl, rfl⟩
end Go.Proofs.YtdgnfdljkghpjaaGreat.Am

/- Rows whose numbers rise. -/
set_option linter.unusedVariables false
set_option linter.unusedSimpArgs false
namespace Go.Proofs.YtdgnfdljkghpjaaGreat.Am

def Rise (l : List RowD) : Prop := l.Pairwise fun a b => a.id < b.id
theorem rowsAux_rise {t : Table} : ∀ {l : List RowD} {p : Option Int}, rowsAux t p l = true → Rise l ∧ ∀ q, p = some q → ∀ r ∈ l, q < r.id
  | [], p, _ => ⟨.nil, fun q _ r hr => by simp at hr⟩
  | a :: l, p, h => by
    rw [rowsAux, Bool.and_eq_true] at h
    obtain ⟨h1, h2⟩ := rowsAux_rise h.2
    have h3 := h2 a.id rfl
    refine ⟨List.pairwise_cons.2 ⟨h3, h1⟩, fun q hq r hr => ?_⟩
    subst hq
    have h4 : q < a.id := by
      have := h.1
      simp only [rowOne, risesId, Bool.and_eq_true, decide_eq_true_eq] at this
      exact this.2.1
    rcases List.mem_cons.1 hr with rfl | hr
    · exact h4
    · exact Int.lt_trans h4 (h3 r hr)
theorem rowsF_rise {t : Table} {l : List RowD} (h : rowsF t l = true) : Rise l := by
  rw [rowsF, Bool.and_eq_true] at h
  exact (rowsAux_rise h.1).1
end Go.Proofs.YtdgnfdljkghpjaaGreat.Am

/- A row put in by the reference: parts. -/
set_option linter.unusedVariables false
set_option linter.unusedSimpArgs false
namespace Go.Proofs.YtdgnfdljkghpjaaGreat.Am

theorem oldRows {n : Nat} (l : List RowD) : OldL n (l.map encRowD) := fun e he c hc => by
  obtain ⟨a, _, rfl⟩ := List.mem_map.1 he
  simp only [encRowD, List.mem_cons, List.not_mem_nil, or_false] at hc
  rcases hc with rfl | rfl
  · exact .int _ _
  · exact old_fz1 (oldL_flat flats)
theorem oldDatas {n : Nat} (l : List Data) : OldL n (l.map encData) := fun e he c hc => by
  obtain ⟨a, _, rfl⟩ := List.mem_map.1 he
  simp only [encData, List.mem_cons, List.not_mem_nil, or_false] at hc
  subst hc
  exact old_fz1 (oldRows _)
theorem rowD_len {l : List RowD} : ∀ e ∈ l.map encRowD, e.length = 2 := fun e he => by
  obtain ⟨a, _, rfl⟩ := List.mem_map.1 he
  rfl
theorem data_len {l : List Data} : ∀ e ∈ l.map encData, e.length = 1 := fun e he => by
  obtain ⟨a, _, rfl⟩ := List.mem_map.1 he
  rfl
theorem Go.stold {P : Program} {n0 nt : Nat} {rets : List RV} {R : AV → Store → Prop} {K : List AK} {fr : Fr} {σ : Store} {d : Option Nat} {f : Opd} {args : List Opd} {g : Option (Nat × Bool)} {rest : List (List AOper)} {n : Nat} {pre cap : List Ce} {vs : List AV} {Z : AV → Prop} (hw : wants fr g = some true) (hf : f.ev fr = some (.c (.fn n pre cap))) (ha : evs fr args = some vs)
    (hp : Told P n (pre.map .c ++ vs ++ cap.map .c) Z) (h : ∀ r, Z r → Go P n0 nt rets R (.segs rest :: K) (putA fr d r) σ) : Go P n0 nt rets R (.segs ([⟨d, .call f args, g⟩] :: rest) :: K) fr σ :=
  .scall _ hw hf ha (hp.at_ σ) (by rintro r' σ' ⟨hz, rfl⟩; exact h r' hz)
theorem l1CopyVals_pure (xs : List Val) (hx : xs.length ≤ 34359738368) : Pure Tryz.prog 60 [.c (.fz (xs.map encV))] (.c (.fz (xs.map encV))) :=
  NewV.pure fun σ => ((l1CopyVals_mk xs hx).at_ σ).mono fun r τ ⟨v, junk, hj, h1, h2⟩ => by
    subst h1 h2
    exact newVec clean_append hj
theorem l6Able_ok (t : Table) (vals : List Val) (hl : vals.length = t.cols.length) (hT : TabOk t) (hv : areVals vals 16 = true) : Told Tryz.prog 208 [.agg (encTable t), .c (.fz (vals.map encV))] AnyI := by
  refine Told.run mixed c_spec_l6Able_ok (Nat.le_of_ble_eq_true rfl) fun σ hS => ?_
  clear hS
  have c1 := l4Nulls_ok t vals hl hT.cols8
  have c2 := l4Checks_ok t vals hT.chk3 (fun c hc => by rw [hl]; exact hT.chk c hc) hv
  generalize (!nullAux t 0 vals) = B1 at c1
  generalize (!(t.checks.any (checkBad vals))) = B2 at c2
  cases B1
  · repeat' first|refine yaG ?_|refine yaC (c1) ?_|(exfalso;omega)|(refine yaS ?_ ?_<;>intro _)
    exact .ret rfl ⟨_, ⟨_, rfl⟩, .int rfl⟩
  cases B2
  · repeat' first|refine yaG ?_|refine yaC (c1) ?_|refine yaC (c2) ?_|(exfalso;omega)|(refine yaS ?_ ?_<;>intro _)
    exact .ret rfl ⟨_, ⟨_, rfl⟩, .int rfl⟩
  · repeat' first|refine yaG ?_|refine yaC (c1) ?_|refine yaC (c2) ?_|(exfalso;omega)|(refine yaS ?_ ?_<;>intro _)
    exact .ret rfl ⟨_, ⟨_, rfl⟩, .int rfl⟩
theorem Rise.last {l : List RowD} (h : Rise l) (h0 : 0 < l.length) {q : RowD} (hq : q ∈ l) : q.id ≤ l[l.length - 1].id := by
  obtain ⟨i, hi, rfl⟩ := List.getElem_of_mem hq
  by_cases e : i = l.length - 1
  · subst e; exact Int.le_refl _
  · exact Int.le_of_lt (List.pairwise_iff_getElem.1 h i (l.length - 1) hi (by omega) (by omega))
theorem l6Next_ok (d : Data) (hr : Rise d.rows) (hn : d.rows.length ≤ 60) (hid : ∀ r ∈ d.rows, 1 ≤ r.id ∧ r.id ≤ 1000000000) : Told Tryz.prog 209 [.agg (encData d)] (fun r => ∃ k : Int, 1 ≤ k ∧ k ≤ 1000000001 ∧ (∀ q ∈ d.rows, q.id < k) ∧ r = .c (.int .i64 k)) := by
  refine Told.run mixed c_spec_l6Next_ok (Nat.le_of_ble_eq_true rfl) fun σ hS => ?_
  clear hS
  by_cases h0 : 0 < d.rows.length
  · have h1 : IntKind.i64.wrap ((d.rows.length : Int) - 1) = ((d.rows.length - 1 : Nat) : Int) := by rw [wrap64 (by omega) (by omega)]; omega
    have hlt : d.rows.length - 1 < d.rows.length := by omega
    have hne : ¬ (d.rows.length : Int) = 0 := by omega
    have hi := hid _ (List.getElem_mem hlt)
    repeat' first|refine yaG ?_|((first|apply yG|apply yH|apply yI);exact rfl;(first|exact yX (enc := encRowD) rfl rfl h1 hlt rfl))|(exfalso;omega)|(refine yaS ?_ ?_<;>intro _)
    refine .ret rfl ⟨_, ⟨d.rows[d.rows.length - 1].id + 1, by omega, by omega, fun q hq => ?_, rfl⟩, .int (wrap64 (by omega) (by omega))⟩
    have := hr.last h0 hq
    omega
  · have he : (d.rows.length : Int) = 0 := by omega
    repeat' first|refine yaG ?_|(exfalso;omega)|(refine yaS ?_ ?_<;>intro _)
    refine .ret rfl ⟨_, ⟨1, by omega, by omega, fun q hq => ?_, rfl⟩, .int rfl⟩
    rw [List.eq_nil_of_length_eq_zero (show d.rows.length = 0 by omega)] at hq
    cases hq
/-- What the keys of a table are like, for the rows of some data and another one. -/
structure KeysR (t : Table) (d : Data) (x : RowD) : Prop where
  uniq : t.uniques.length ≤ 3
  len : ∀ k ∈ keysOf t, k.length ≤ 34359738368
  own : ∀ k ∈ keysOf t, InR k x.vals.length
  far : ∀ k ∈ keysOf t, ∀ r ∈ d.rows, InR k r.vals.length
def IdsT (n : Nat) (r : AV) : Prop := ∃ ids : List Int, ids.length ≤ n ∧ r = .c (.fz (ids.map encI))
theorem flatIs2 {xs : List Int} : ∀ e ∈ xs.map encI, ∀ x ∈ e, Flat x := fun e he => (flatIs e he).2
theorem l6Rivals_ok (t : Table) (d : Data) (x : RowD) (hd : d.rows.length ≤ 60) (hK : KeysR t d x) : Told Tryz.prog 243 [.agg (encTable t), .agg (encData d), .agg (encRowD x)] (IdsT 60) := by
  refine Told.run mixed c_spec_l6Rivals_ok (Nat.le_of_ble_eq_true rfl) fun σ hS => ?_
  clear hS
  repeat' first|refine yaG ?_|(exfalso;omega)|(refine yaS ?_ ?_<;>intro _)
  refine Go.keep [3, 4, 5, 7, 8] (Go.loops (I := fun m fr τ => ∃ (i : Nat) (k : Int) (ids : List Int) (v : Nat) (junk : List (List Ce)), m = d.rows.length - i ∧ i ≤ d.rows.length ∧ k = i ∧ Jk 1 junk ∧ ids.length ≤ i ∧
    fr = [(3, .c (.fp (encTable t))), (4, .c (.fp (encData d))), (5, .c (.fp (encRowD x))), (7, .c (vec (σ.next + 0) v (ids.map encI) junk)), (8, .c (.int .i64 k))] ∧ τ = E σ [(v, ids.map encI ++ junk)]) ?_ _ _ _ ⟨0, _, [], 0, [], rfl, Nat.zero_le _, rfl, Jk.nil, Nat.zero_le _, rfl, rfl⟩)
  rintro m fr τ ⟨i, k, ids, v, junk, rfl, hi, hk, hj, hil, rfl, rfl⟩ hrec
  by_cases hlt : i < d.rows.length
  · have hbd : ((ids.map encI).length + 1) * 8 ≤ 140737488355328 := by rw [List.length_map]; omega
    have hz1 : ∀ e ∈ ids.map encI, e.length = 1 := fun e he => (flatIs e he).1
    have e1 : ids.map encI ++ [encI d.rows[i].id] = (ids ++ [d.rows[i].id]).map encI := by simp
    have c1 := l5Unique_ok t ⟨[d.rows[i]]⟩ x (by simp) hK.uniq hK.len hK.own (fun k hk r hr => by
      have hr2 : r = d.rows[i] := by simpa using hr
      rw [hr2]
      exact hK.far k hk _ (List.getElem_mem hlt))
    generalize (!((keysOf t).any (twiceF (Data.rows ⟨[d.rows[i]]⟩) x))) = B at c1
    by_cases h0 : d.rows[i].id = x.id
    · repeat' first|refine yaG ?_|((first|apply yG|apply yH|apply yI);exact rfl;(first|exact yX (enc := encRowD) rfl rfl hk hlt rfl))|(exfalso;omega)|(refine yaS ?_ ?_<;>intro _)
      exact Go.keep [3, 4, 5, 7, 8] (hrec _ _ _ (by omega) ⟨i + 1, _, ids, v, junk, rfl, hlt, wrap_succ hk (by omega), hj, by omega, rfl, rfl⟩)
    · cases B
      · repeat' first|refine yaG ?_|((first|apply yG|apply yH|apply yI);exact rfl;(first|exact yX (enc := encRowD) rfl rfl hk hlt rfl))|(apply Go.app1;exact rfl;exact rfl;exact rfl;exact rfl;exact rfl;exact hz1;exact hj;exact rfl;exact hbd;intro v' junk' hj')|refine yaC (c1) ?_|(exfalso;omega)|(refine yaS ?_ ?_<;>intro _)
        refine Go.keep [3, 4, 5, 7, 8] (hrec _ _ _ (by omega) ⟨i + 1, _, ids ++ [d.rows[i].id], v', junk', rfl, hlt, wrap_succ hk (by omega), hj', by simp; omega, ?_, ?_⟩)
        · rw [← e1]; rfl
        · rw [← e1]; rfl
      · repeat' first|refine yaG ?_|((first|apply yG|apply yH|apply yI);exact rfl;(first|exact yX (enc := encRowD) rfl rfl hk hlt rfl))|refine yaC (c1) ?_|(exfalso;omega)|(refine yaS ?_ ?_<;>intro _)
        exact Go.keep [3, 4, 5, 7, 8] (hrec _ _ _ (by omega) ⟨i + 1, _, ids, v, junk, rfl, hlt, wrap_succ hk (by omega), hj, by omega, rfl, rfl⟩)
  · repeat' first|refine yaG ?_|(exfalso;omega)|(refine yaS ?_ ?_<;>intro _)
    exact .ret rfl ⟨_, ⟨ids, by omega, rfl⟩, _, rfl, frz_drop (n := 0) (k := 0) rfl flatIs2 (Nat.zero_le _) (Nat.le_refl _)⟩
theorem l6Clear_ok (s : List Table) (db : List Data) (q : Int) (n : Nat) (x : RowD) (hq : q = (n : Int)) (hn : n < s.length) (hn2 : n < db.length) (hd : db[n].rows.length ≤ 60) (hK : KeysR s[n] db[n] x) : Told Tryz.prog 210 [.c (.fz (s.map encTable)), .c (.fz (db.map encData)), .c (.int .i64 q), .agg (encRowD x), .c (.bool false), .c (.int .i64 0)] (fun r => r = .tup [.c (.fz (db.map encData)), .c (.int .i64 0)] ∨ r = .tup [.c .nils, .c (.int .i64 4)]) := by
  refine Told.run mixed c_spec_l6Clear_ok (Nat.le_of_ble_eq_true rfl) fun σ hS => ?_
  clear hS
  repeat' first|refine yaG ?_|((first|apply yG|apply yH|apply yI);exact rfl;(first|exact yX (enc := encTable) rfl rfl hq hn rfl|exact yX (enc := encData) rfl rfl hq hn2 rfl))|(exfalso;omega)|(refine yaS ?_ ?_<;>intro _)
  refine Go.stold rfl rfl rfl (l6Rivals_ok s[n] db[n] x hd hK) ?_
  rintro _ ⟨ids, hl, rfl⟩
  by_cases h0 : 0 < ids.length
  · repeat' first|refine yaG ?_|(exfalso;omega)|(refine yaS ?_ ?_<;>intro _)
    exact .ret rfl ⟨_, .inr rfl, _, rfl, .tup rfl fun i hi => by
      have : i = 0 ∨ i = 1 := by simp at hi; omega
      rcases this with rfl | rfl
      · exact .c (.same _ .nils)
      · exact .c (.same _ (.int _ _))⟩
  · have he : (ids.length : Int) = 0 := by omega
    repeat' first|refine yaG ?_|(exfalso;omega)|(refine yaS ?_ ?_<;>intro _)
    apply Go.loop
    repeat' first|refine yaG ?_|(exfalso;omega)|(refine yaS ?_ ?_<;>intro _)
    exact .ret rfl ⟨_, .inl rfl, _, rfl, .tup rfl fun i hi => by
      have : i = 0 ∨ i = 1 := by simp at hi; omega
      rcases this with rfl | rfl
      · exact .c (.same _ (old_fz1 (oldDatas _)))
      · exact .c (.same _ (.int _ _))⟩
theorem l4Put_ok (d : Data) (x : RowD) (hd : d.rows.length ≤ 60) (hx : ∀ q ∈ d.rows, q.id < x.id) : Pure Tryz.prog 212 [.agg (encData d), .agg (encRowD x)] (.agg (encData ⟨d.rows ++ [x]⟩)) := by
  refine Pure.run mixed c_spec_l4Put_ok (Nat.le_of_ble_eq_true rfl) fun σ hS hA => ?_
  clear hS hA
  repeat' first|refine yaG ?_|(exfalso;omega)|(refine yaS ?_ ?_<;>intro _)
  refine Go.keep [2, 3, 4, 5, 6, 7] (Go.loops (I := fun m fr τ => ∃ (i : Nat) (k : Int) (v : Nat) (junk : List (List Ce)), m = d.rows.length - i ∧ i ≤ d.rows.length ∧ k = i ∧ Jk 2 junk ∧
    fr = [(2, .c (.fp (encData d))), (3, .c (.fp (encRowD x))), (4, .c (.ptr (σ.next + 0) 0 0 0)), (5, .c (vec (σ.next + 1) v ((d.rows.take i).map encRowD) junk)), (6, .c (.bool false)), (7, .c (.int .i64 k))] ∧ τ = E σ [(0, [[.nils]]), (v, (d.rows.take i).map encRowD ++ junk)]) ?_ _ _ _ ⟨0, _, 0, [], rfl, Nat.zero_le _, rfl, Jk.nil, rfl, rfl⟩)
  rintro m fr τ ⟨i, k, v, junk, rfl, hi, hk, hj, rfl, rfl⟩ hrec
  have hbd : (((d.rows.take i).map encRowD).length + 1) * 32 ≤ 140737488355328 := by rw [List.length_map, List.length_take]; omega
  by_cases hlt : i < d.rows.length
  · have hid := hx _ (List.getElem_mem hlt)
    have e1 : (d.rows.take i).map encRowD ++ [encRowD d.rows[i]] = (d.rows.take (i + 1)).map encRowD := by rw [List.take_succ_eq_append_getElem hlt, List.map_append]; rfl
    have hng : ¬ d.rows[i].id ≥ x.id := by omega
    have hne : ¬ d.rows[i].id = x.id := by omega
    repeat' first|refine yaG ?_|((first|apply yG|apply yH|apply yI);exact rfl;(first|exact yX (enc := encRowD) rfl rfl hk hlt rfl))|(apply Go.app1;exact rfl;exact rfl;exact rfl;exact rfl;exact rfl;exact rowD_len;exact hj;exact rfl;exact hbd;intro v' junk' hj')|(exfalso;omega)|(refine yaS ?_ ?_<;>intro _)
    all_goals first
      | (exfalso; omega)
      | skip
    refine Go.keep [2, 3, 4, 5, 6, 7] (hrec _ _ _ (by omega) ⟨i + 1, _, v', junk', rfl, hlt, wrap_succ hk (by omega), hj', ?_, ?_⟩)
    · rw [← e1]; rfl
    · rw [← e1]; rfl
  · repeat' first|refine yaG ?_|(apply Go.app1;exact rfl;exact rfl;exact rfl;exact rfl;exact rfl;exact rowD_len;exact hj;exact rfl;exact hbd;intro v' junk' hj')|(exfalso;omega)|(refine yaS ?_ ?_<;>intro _)
    refine .ret (retv_m rfl rfl rfl (Nat.zero_le _) rfl) ⟨_, rfl, .agg rfl fun j hj0 => ?_⟩
    have hj1 : j = 0 := by simp at hj0; omega
    subst hj1
    have e1 : (d.rows.take i).map encRowD ++ [encRowD x] = (d.rows ++ [x]).map encRowD := by rw [List.take_of_length_le (by omega), List.map_append]; rfl
    have hz : FrzV (E σ [(0, [[vec (σ.next + 1) v' ((d.rows.take i).map encRowD ++ [encRowD x]) junk']]), (v', (d.rows.take i).map encRowD ++ [encRowD x] ++ junk')]) σ.next (.c (vec (σ.next + 1) v' ((d.rows.take i).map encRowD ++ [encRowD x]) junk')) (.c (.fz ((d.rows.take i).map encRowD ++ [encRowD x]))) :=
      frz_old (k := 1) rfl (by rw [e1]; exact oldRows _) (Nat.le_add_right _ _)
    cases hz with
    | c h =>
      have h2 : Frz (E σ [(0, [[vec (σ.next + 1) v' ((d.rows.take i).map encRowD ++ [encRowD x]) junk']]), (v', (d.rows.take i).map encRowD ++ [encRowD x] ++ junk')]) σ.next (vec (σ.next + 1) v' ((d.rows.take i).map encRowD ++ [encRowD x]) junk') (.fz ((d.rows ++ [x]).map encRowD)) := by
        rw [← e1]
        exact h
      exact h2
end Go.Proofs.YtdgnfdljkghpjaaGreat.Am

/- A row put in by the reference: whole, told by existence. -/
set_option linter.unusedVariables false
set_option linter.unusedSimpArgs false
namespace Go.Proofs.YtdgnfdljkghpjaaGreat.Am

theorem splice1 (e : List Ce) (x : Ce) (h : e.length = 1) : splice e 0 [x] = [x] := by
  rw [splice, List.take_zero, List.nil_append, List.drop_eq_nil_of_le (by simp; omega), List.append_nil]
theorem set_left {α : Type} {l m : List α} {i : Nat} {x : α} (h : i < l.length) : (l ++ m).set i x = l.set i x ++ m := List.set_append_left _ _ h
theorem l4With_ok (db : List Data) (q : Int) (n : Nat) (d : Data) (hq : q = (n : Int)) (hn : n < db.length) (hd : db.length ≤ 60) : Pure Tryz.prog 211 [.c (.fz (db.map encData)), .c (.int .i64 q), .agg (encData d)] (.c (.fz ((db.set n d).map encData))) := by
  refine Pure.run mixed c_spec_l4With_ok (Nat.le_of_ble_eq_true rfl) fun σ hS hA => ?_
  clear hS hA
  repeat' first|refine yaG ?_|(exfalso;omega)|(refine yaS ?_ ?_<;>intro _)
  refine Go.app (k := 0) (ys := []) (junk := []) (zs := db.map encData) rfl rfl rfl rfl rfl (fun e he => by cases he) Jk.nil data_len (by simp; omega) fun v junk hj => ?_
  have hn2 : n < (db.map encData).length := by simpa using hn
  have hg : (E σ [(v, [] ++ db.map encData ++ junk)]).get (σ.next + 0) = some (v, [] ++ db.map encData ++ junk) := E_get (k := 0) rfl
  have he : ([] ++ db.map encData ++ junk)[0 + n]? = some (encData db[n]) := by
    rw [List.nil_append, Nat.zero_add, List.getElem?_append_left hn2]
    simp [hn]
  have he2 : ([] ++ db.map encData ++ junk)[0 + n]? = some (encData db[n]) := he
  repeat' first|refine yaG ?_|((first|apply yG|apply yH|apply yI);exact rfl;(first|exact aop_iaddrO rfl rfl hq (by simpa using hn2) hg he rfl|exact aop_store (k := 0) rfl rfl rfl rfl he2 rfl (Nat.le_of_ble_eq_true rfl)))|(exfalso;omega)|(refine yaS ?_ ?_<;>intro _)
  refine .ret rfl ⟨_, rfl, ?_⟩
  have e1 : ([] ++ db.map encData ++ junk).set (0 + n) (splice (encData db[n]) 0 (encData d)) = (db.set n d).map encData ++ junk := by
    rw [List.nil_append, Nat.zero_add, show splice (encData db[n]) 0 (encData d) = encData d from splice1 _ _ rfl, set_left hn2, List.map_set]
  have hz := frz_old (σ := σ) (l := [(v, (db.set n d).map encData ++ junk)]) (k := 0) (N := σ.next) (v := v) (ys := (db.set n d).map encData) (junk := junk) rfl (oldDatas _) (Nat.le_refl _)
  rw [← e1] at hz
  have e2 : vec (σ.next + 0) v ((db.set n d).map encData) junk = vec (σ.next + 0) v ([] ++ db.map encData) junk := by simp [vec]
  rw [e2] at hz
  exact hz
def outC (db : List Data) (i : Nat) : List (List Ce) := (db.take i).map encData ++ List.replicate (db.length - i) [.nils]
theorem outC_at {db : List Data} {i : Nat} (h : i < db.length) : (outC db i)[0 + i]? = some [.nils] := by
  rw [outC, Nat.zero_add, List.getElem?_append_right (by rw [List.length_map, List.length_take]; omega), List.getElem?_replicate, if_pos (by rw [List.length_map, List.length_take]; omega)]
theorem outC_set {db : List Data} {i : Nat} (h : i < db.length) : (outC db i).set (0 + i) (encData db[i]) = outC db (i + 1) := by
  have e1 : db.length - i = (db.length - (i + 1)) + 1 := by omega
  have e2 : i - (db.take i).length = 0 := by rw [List.length_take]; omega
  rw [outC, outC, Nat.zero_add, List.set_append_right _ _ (by simp; omega), List.length_map, e2, e1, List.replicate_succ, List.set_cons_zero, List.take_succ_eq_append_getElem h, List.map_append, List.append_assoc]
  rfl
theorem l4Copy_ok (db : List Data) (hd : db.length ≤ 60) (hr : ∀ d ∈ db, d.rows.length ≤ 60 ∧ ∀ r ∈ d.rows, r.vals.length ≤ 34359738368) : Pure Tryz.prog 180 [.c (.fz (db.map encData))] (.c (.fz (db.map encData))) := by
  refine Pure.run mixed c_spec_l4Copy_ok (Nat.le_of_ble_eq_true rfl) fun σ hS hA => ?_
  clear hA
  have hmk : 24 * db.length ≤ 140737488355328 := by omega
  repeat' first|refine yaG ?_|((first|apply yG|apply yH|apply yI);exact rfl;(first|exact aop_mkslice rfl rfl hmk))|(exfalso;omega)|(refine yaS ?_ ?_<;>intro _)
  refine Go.keep [0, 3, 4] (Go.loops (I := fun m fr τ => ∃ (i : Nat) (k : Int), m = db.length - i ∧ i ≤ db.length ∧ k = i ∧
    fr = [(0, .c (.fz (db.map encData))), (3, .c (.sl (σ.next + 0) 0 0 db.length db.length)), (4, .c (.int .i64 k))] ∧ τ = E σ [(0, outC db i)]) ?_ _ _ _ ⟨0, _, rfl, Nat.zero_le _, rfl, rfl, by rw [outC]; simp⟩)
  rintro m fr τ ⟨i, k, rfl, hi, hk, rfl, rfl⟩ hrec
  by_cases hlt : i < db.length
  · obtain ⟨hr1, hr2⟩ := hr _ (List.getElem_mem hlt)
    repeat' first|refine yaG ?_|(exfalso;omega)|(refine yaS ?_ ?_<;>intro _)
    refine Go.keep [0, 3, 4, 5, 6] (Go.loops (I := fun m fr τ => ∃ (j : Nat) (kj : Int) (v : Nat) (junk : List (List Ce)), m = db[i].rows.length - j ∧ j ≤ db[i].rows.length ∧ kj = j ∧ Jk 2 junk ∧
      fr = [(0, .c (.fz (db.map encData))), (3, .c (.sl (σ.next + 0) 0 0 db.length db.length)), (4, .c (.int .i64 k)), (5, .c (vec (σ.next + 1) v ((db[i].rows.take j).map encRowD) junk)), (6, .c (.int .i64 kj))] ∧ τ = E σ [(0, outC db i), (v, (db[i].rows.take j).map encRowD ++ junk)]) ?_ _ _ _ ⟨0, _, 0, [], rfl, Nat.zero_le _, rfl, Jk.nil, rfl, rfl⟩)
    rintro m fr τ ⟨j, kj, v, junk, rfl, hj, hkj, hjk, rfl, rfl⟩ hrecj
    by_cases hltj : j < db[i].rows.length
    · have hbd : (((db[i].rows.take j).map encRowD).length + 1) * 32 ≤ 140737488355328 := by rw [List.length_map, List.length_take]; omega
      have e1 : (db[i].rows.take j).map encRowD ++ [encRowD db[i].rows[j]] = (db[i].rows.take (j + 1)).map encRowD := by rw [List.take_succ_eq_append_getElem hltj, List.map_append]; rfl
      have cc := l1CopyVals_pure db[i].rows[j].vals (hr2 _ (List.getElem_mem hltj))
      repeat' first|refine yaG ?_|((first|apply yG|apply yH|apply yI);exact rfl;(first|exact yX (enc := encData) rfl rfl hk hlt rfl|exact yX (enc := encRowD) rfl rfl hkj hltj rfl))|(apply Go.sapp1;exact rfl;exact rfl;exact rfl;exact rfl;exact rfl;exact rowD_len;exact hjk;exact rfl;exact hbd;intro v' junk' hj')|refine yaC (cc) ?_|(exfalso;omega)|(refine yaS ?_ ?_<;>intro _)
      refine Go.keep [0, 3, 4, 5, 6] (hrecj _ _ _ (by omega) ⟨j + 1, _, v', junk', rfl, hltj, wrap_succ hkj (by omega), hj', ?_, ?_⟩)
      · rw [← e1]; rfl
      · rw [← e1]; rfl
    · clear hrecj
      repeat' first|refine yaG ?_|((first|apply yG|apply yH|apply yI);exact rfl;(first|exact yX (enc := encData) rfl rfl hk hlt rfl))|(exfalso;omega)|(refine yaS ?_ ?_<;>intro _)
      have e1 : db[i].rows.take j = db[i].rows := List.take_of_length_le (by omega)
      rw [e1]
      refine Go.freezeN (l := [(0, outC db i)]) (m := [(v, db[i].rows.map encRowD ++ junk)]) (fr' := [(0, .c (.fz (db.map encData))), (3, .c (.sl (σ.next + 0) 0 0 db.length db.length)), (4, .c (.int .i64 k)), (50, .c (.sl (σ.next + 0) 0 0 db.length db.length)), (51, .c (.int .i64 k)), (53, .agg [.fz (db[i].rows.map encRowD)])]) hS (fun b hb e he x hx => ?_) (Nat.le_refl _) (.frz rfl (.refl fun y hy => ?_) (.frz rfl (.refl (old_sl (Nat.lt_succ_self _))) (.frz rfl (.refl old_c) (.frz rfl (.refl (old_sl (Nat.lt_succ_self _))) (.frz rfl (.refl old_c) (.frz rfl (.agg rfl fun j hj0 => ?_) .nil)))))) ?_
      · rw [List.mem_singleton.1 hb] at he
        rcases List.mem_append.1 he with he | he
        · exact oldDatas _ e he x hx
        · rw [List.eq_of_mem_replicate he] at hx
          rw [List.mem_singleton.1 hx]
          exact .nils
      · rw [List.mem_singleton.1 hy]
        exact old_fz1 (oldDatas _)
      · have hz : FrzV (E σ ([(0, outC db i)] ++ [(v, db[i].rows.map encRowD ++ junk)])) (σ.next + [(0, outC db i)].length) (.c (vec (σ.next + 1) v (db[i].rows.map encRowD) junk)) (.c (.fz (db[i].rows.map encRowD))) := frz_old (k := 1) rfl (oldRows _) (Nat.le_refl _)
        have hj1 : j = 0 := by have hj9 : j < 1 := hj0; omega
        subst hj1
        cases hz with
        | c h => exact h
      have he := outC_at hlt
      have hg : (E σ [(0, outC db i)]).get (σ.next + 0) = some (0, outC db i) := E_get (k := 0) rfl
      repeat' first|refine yaG ?_|((first|apply yG|apply yH|apply yI);exact rfl;(first|exact aop_iaddrO rfl rfl hk hlt hg he rfl|exact aop_store (k := 0) rfl rfl rfl rfl he rfl (Nat.le_of_ble_eq_true rfl)))|(exfalso;omega)|(refine yaS ?_ ?_<;>intro _)
      refine Go.keep [0, 3, 4] (hrec _ _ _ (by omega) ⟨i + 1, _, rfl, hlt, wrap_succ hk (by omega), rfl, ?_⟩)
      rw [← outC_set hlt]
      rfl
  · repeat' first|refine yaG ?_|(exfalso;omega)|(refine yaS ?_ ?_<;>intro _)
    refine .ret rfl ⟨_, rfl, ?_⟩
    have e1 : outC db i = db.map encData ++ [] := by rw [outC, List.take_of_length_le (by omega), show db.length - i = 0 by omega]; rfl
    have hz := frz_old (σ := σ) (l := [(0, db.map encData ++ [])]) (k := 0) (N := σ.next) (v := 0) (ys := db.map encData) (junk := []) rfl (oldDatas _) (Nat.le_refl _)
    rw [← e1] at hz
    have e2 : vec (σ.next + 0) 0 (db.map encData) [] = .sl (σ.next + 0) 0 0 db.length db.length := by simp [vec]
    rw [e2] at hz
    exact hz
theorem DbNew_ok (s : List Table) (hx : s.length ≤ 34359738368) (hb : ∀ t ∈ s, bTable 34359738368 t) : Pure Tryz.prog 137 [.c (.fz (s.map encTable))] (.tup [.c (.fz ((if schemaF s then List.replicate s.length (⟨[]⟩ : Data) else []).map encData)), .c (.bool (schemaF s))]) := by
  refine Pure.run mixed c_spec_DbNew_ok (Nat.le_of_ble_eq_true rfl) fun σ hS hA => ?_
  clear hS hA
  have c1 := sSchemaOk_ok s hx hb
  cases h : schemaF s
  · rw [h] at c1
    repeat' first|refine yaG ?_|refine yaC (c1) ?_|(exfalso;omega)|(refine yaS ?_ ?_<;>intro _)
    exact .ret rfl ⟨_, rfl, .tup rfl fun i hi => by
      have : i = 0 ∨ i = 1 := by simp at hi; omega
      rcases this with rfl | rfl
      · exact .c .nil
      · exact .c (.same _ (.bool _))⟩
  · rw [h] at c1
    have h5 : s.length ≤ 5 := by
      simp only [schemaF, Bool.and_eq_true, decide_eq_true_eq] at h
      omega
    have hmk : 24 * s.length ≤ 140737488355328 := by omega
    repeat' first|refine yaG ?_|((first|apply yG|apply yH|apply yI);exact rfl;(first|exact aop_mkslice rfl rfl hmk))|refine yaC (c1) ?_|(exfalso;omega)|(refine yaS ?_ ?_<;>intro _)
    refine .ret rfl ⟨_, rfl, .tup rfl fun i hi => ?_⟩
    have : i = 0 ∨ i = 1 := by simp at hi; omega
    rcases this with rfl | rfl
    · have e1 : (List.replicate s.length (⟨[]⟩ : Data)).map encData = List.replicate s.length [.fz []] := by rw [List.map_replicate]; rfl
      refine .c (.sl _ _ _ _ _ (List.replicate s.length [.nils]) _ (Nat.le_add_right _ _) (E_get (k := 0) rfl) (by simp) (by simp) (fun k hk => ?_) (fun k j hk hj => ?_))
      · simp only [if_true, e1, List.getElem_replicate]
        rfl
      · have hj0 : j = 0 := by
          simp only [if_true, e1, List.getElem_replicate] at hj
          simpa using hj
        subst hj0
        simp only [if_true, e1, List.getElem_replicate]
        exact .nil
    · exact .c (.same _ (.bool _))
/-! ### what stays right -/
theorem rowsAux_snoc {t : Table} {x : RowD} (h1 : isIn x.id 1 1000000000 = true) (h2 : fitF t x.vals = true) : ∀ {l : List RowD} {p : Option Int}, rowsAux t p l = true → (∀ q ∈ l, q.id < x.id) → (∀ q, p = some q → q < x.id) → rowsAux t p (l ++ [x]) = true
  | [], p, _, _, h => by
    have h3 : risesId p x.id = true := by
      cases p with
      | none => rfl
      | some q => exact decide_eq_true (h q rfl)
    simp [rowsAux, rowOne, h1, h2, h3]
  | a :: l, p, h, hl, hp => by
    rw [rowsAux, Bool.and_eq_true] at h
    rw [List.cons_append, rowsAux, h.1, rowsAux_snoc h1 h2 h.2 (fun q hq => hl q (by simp [hq])) fun q hq => by injection hq with hq; rw [← hq]; exact hl a (by simp)]
    rfl
theorem dbAux_of : ∀ {s : List Table} {db : List Data}, (∀ i (hi : i < s.length) (hi2 : i < db.length), rowsF s[i] db[i].rows = true) → dbAux s db = true
  | [], _, _ => by simp [dbAux]
  | _ :: _, [], _ => by simp [dbAux]
  | t :: s, d :: db, h => by
    rw [dbAux, show rowsF t d.rows = true from h 0 (by simp) (by simp), dbAux_of fun i hi hi2 => h (i + 1) (by simp; omega) (by simp; omega)]
    rfl
theorem dbF_put {s : List Table} {db : List Data} (h : dbF s db = true) {n : Nat} (hn : n < s.length) (hn2 : n < db.length) {x : RowD} (h1 : isIn x.id 1 1000000000 = true) (h2 : fitF s[n] x.vals = true) (h3 : ∀ q ∈ db[n].rows, q.id < x.id) (h4 : db[n].rows.length < 60) : dbF s (db.set n ⟨db[n].rows ++ [x]⟩) = true := by
  obtain ⟨hs, hl, hrows⟩ := dbF_at h
  rw [dbF, hs, List.length_set, decide_eq_true (by omega), Bool.true_and, Bool.true_and]
  refine dbAux_of fun i hi hi2 => ?_
  rw [List.getElem_set]
  split
  · rename_i e
    subst e
    have hr := hrows n hn hn2
    rw [rowsF, Bool.and_eq_true] at hr ⊢
    exact ⟨rowsAux_snoc h1 h2 hr.1 h3 (fun q hq => nomatch hq), by rw [List.length_append, List.length_singleton]; exact decide_eq_true (by omega)⟩
  · exact hrows i hi _
theorem dbF_b {s : List Table} {db : List Data} (h : dbF s db = true) : db.length ≤ 5 ∧ (∀ d ∈ db, bData 34359738368 d) ∧ ∀ d ∈ db, d.rows.length ≤ 60 ∧ ∀ r ∈ d.rows, 1 ≤ r.vals.length ∧ r.vals.length ≤ 8 ∧ ∀ w ∈ r.vals, bV 12 w := by
  obtain ⟨hs, hl, hrows⟩ := dbF_at h
  have h5 : s.length ≤ 5 := by
    have := hs
    simp only [schemaF, Bool.and_eq_true, decide_eq_true_eq] at this
    omega
  have key : ∀ d ∈ db, d.rows.length ≤ 60 ∧ ∀ r ∈ d.rows, 1 ≤ r.vals.length ∧ r.vals.length ≤ 8 ∧ ∀ w ∈ r.vals, bV 12 w := fun d hd => by
    obtain ⟨i, hi, rfl⟩ := List.getElem_of_mem hd
    have hr := rowsF_mem (hrows i (by omega) hi)
    refine ⟨hr.1, fun r hm => ?_⟩
    obtain ⟨f1, f2⟩ := fitF_vals (hr.2 r hm).1
    have hc := schemaF_cols hs _ (List.getElem_mem (show i < s.length by omega))
    refine ⟨by omega, by omega, fun w hw => ?_⟩
    have := f2 w hw
    simp only [okVal, Bool.or_eq_true, Bool.and_eq_true, beq_iff_eq, decide_eq_true_eq] at this
    rw [bV]
    rcases this with (⟨_, h⟩ | ⟨_, h⟩) | ⟨_, h⟩
    · rw [h]; simp
    · rw [h]; simp
    · omega
  refine ⟨by omega, fun d hd => ⟨by have := (key d hd).1; omega, fun r hr => ?_⟩, key⟩
  obtain ⟨_, k2, k3⟩ := (key d hd).2 r hr
  exact ⟨by omega, fun w hw => Nat.le_trans (k3 w hw) (by decide)⟩
/-- A right database with a code, or none with another one. -/
def Put (s : List Table) (bad : Int → Prop) (r : AV) : Prop := ∃ y id code, r = .tup [.c y, .c (.int .i64 id), .c (.int .i64 code)] ∧ (¬ bad code → ∃ db, dbF s db = true ∧ y = .fz (db.map encData))
theorem fin_put {σ : Store} {l : List (Nat × List (List Ce))} {y : Ce} {a b : Int} (hy : Old σ.next y) : FrzV (E σ l) σ.next (.tup [.c y, .c (.int .i64 a), .c (.int .i64 b)]) (.tup [.c y, .c (.int .i64 a), .c (.int .i64 b)]) := .tup rfl fun i hi => by
  have : i = 0 ∨ i = 1 ∨ i = 2 := by simp at hi; omega
  rcases this with rfl | rfl | rfl
  · exact .c (.same _ hy)
  · exact .c (.same _ (.int _ _))
  · exact .c (.same _ (.int _ _))
theorem l6Insert_ok (s : List Table) (db : List Data) (q : Int) (n : Nat) (vals : List Val) (hq : q = (n : Int)) (hn : n < s.length) (hn2 : n < db.length) (h : dbF s db = true) (hb : ∀ t ∈ s, bTable 34359738368 t) (hf : fitF s[n] vals = true) :
    Told Tryz.prog 179 [.c (.fz (s.map encTable)), .c (.fz (db.map encData)), .c (.int .i64 q), .c (.fz (vals.map encV)), .c (.bool false)] (Put s fun c => c ≠ 0) := by
  refine Told.run mixed c_spec_l6Insert_ok (Nat.le_of_ble_eq_true rfl) fun σ hS => ?_
  clear hS
  obtain ⟨hs, hl, hrows⟩ := dbF_at h
  have hrn := hrows n hn hn2
  have hmem := rowsF_mem hrn
  have hT := schemaF_tab hs _ (List.getElem_mem hn)
  have hfv := fitF_vals hf
  have h5 := (dbF_b h).1
  have c0 := l6Able_ok s[n] vals hfv.1 hT (fitF_are hf hT.cols8)
  repeat' first|refine yaG ?_|((first|apply yG|apply yH|apply yI);exact rfl;(first|exact yX (enc := encTable) rfl rfl hq hn rfl))|(exfalso;omega)|(refine yaS ?_ ?_<;>intro _)
  refine Go.told rfl rfl rfl c0 ?_
  rintro _ ⟨code, rfl⟩
  by_cases h0 : code = 0
  · subst h0
    repeat' first|refine yaG ?_|((first|apply yG|apply yH|apply yI);exact rfl;(first|exact yX (enc := encData) rfl rfl hq hn2 rfl))|(exfalso;omega)|(refine yaS ?_ ?_<;>intro _)
    refine Go.told rfl rfl rfl (l6Next_ok db[n] (rowsF_rise hrn) hmem.1 fun r hr => ?_) ?_
    · have := (hmem.2 r hr).2
      simp only [isIn, Bool.and_eq_true, decide_eq_true_eq] at this
      exact this
    rintro _ ⟨k, hk1, hk2, hk3, rfl⟩
    have cc := l1CopyVals_pure vals (by have h8 := hT.cols8; have hf1 := hfv.1; omega)
    repeat' first|refine yaG ?_|refine yaC (cc) ?_|(exfalso;omega)|(refine yaS ?_ ?_<;>intro _)
    have hR := db_tab h hb hn hn2
    have hK : KeysR s[n] db[n] ⟨k, vals⟩ := ⟨hT.uniq3, hR.keys, fun c hc => by show InR c vals.length; rw [hfv.1]; exact hR.inr c hc, fun c hc r hr => by rw [(hR.row r hr).len]; exact hR.inr c hc⟩
    refine Go.told rfl rfl rfl (l6Clear_ok s db q n ⟨k, vals⟩ hq hn hn2 hmem.1 hK) ?_
    rintro _ (rfl | rfl)
    · by_cases hfull : db[n].rows.length = 60
      · have hfi : (db[n].rows.length : Int) = 60 := by omega
        repeat' first|refine yaG ?_|((first|apply yG|apply yH|apply yI);exact rfl;(first|exact yX (enc := encData) rfl rfl hq hn2 rfl))|(exfalso;omega)|(refine yaS ?_ ?_<;>intro _)
        exact .ret rfl ⟨_, ⟨_, _, _, rfl, fun hh => absurd (by decide) hh⟩, _, rfl, fin_put .nils⟩
      · have hfi : ¬ (db[n].rows.length : Int) = 60 := by omega
        by_cases hbig : k > 1000000000
        · repeat' first|refine yaG ?_|((first|apply yG|apply yH|apply yI);exact rfl;(first|exact yX (enc := encData) rfl rfl hq hn2 rfl))|(exfalso;omega)|(refine yaS ?_ ?_<;>intro _)
          exact .ret rfl ⟨_, ⟨_, _, _, rfl, fun hh => absurd (by decide) hh⟩, _, rfl, fin_put .nils⟩
        · have hd2 := dbF_put h hn hn2 (x := ⟨k, vals⟩) (by simp only [isIn, Bool.and_eq_true, decide_eq_true_eq]; omega) hf hk3 (by omega)
          have c4 := l4Put_ok db[n] ⟨k, vals⟩ hmem.1 hk3
          have c5 := l4With_ok db q n ⟨db[n].rows ++ [⟨k, vals⟩]⟩ hq hn2 (by omega)
          generalize hdb' : db.set n ⟨db[n].rows ++ [⟨k, vals⟩]⟩ = db' at hd2 c5
          have hl2 : db'.length = db.length := by rw [← hdb', List.length_set]
          have hR2 := db_tab hd2 hb hn (by omega)
          have hx : (⟨k, vals⟩ : RowD) ∈ (db'[n]'(by omega)).rows := by
            have : db'[n]'(by omega) = ⟨db[n].rows ++ [⟨k, vals⟩]⟩ := by simp only [← hdb', List.getElem_set_self]
            rw [this]
            simp
          have c6 := l5Refers_ok s db' q n vals true (by omega) hq hn hT.fk3 (hR2.row _ hx).fks
          generalize (!(s[n].fks.any (lostBad s db' (!true) vals))) = B at c6
          cases B
          · repeat' first|refine yaG ?_|((first|apply yG|apply yH|apply yI);exact rfl;(first|exact yX (enc := encData) rfl rfl hq hn2 rfl))|refine yaC (c4) ?_|refine yaC (c5) ?_|refine yaC (c6) ?_|(exfalso;omega)|(refine yaS ?_ ?_<;>intro _)
            exact .ret rfl ⟨_, ⟨_, _, _, rfl, fun hh => absurd (by decide) hh⟩, _, rfl, fin_put .nils⟩
          · repeat' first|refine yaG ?_|((first|apply yG|apply yH|apply yI);exact rfl;(first|exact yX (enc := encData) rfl rfl hq hn2 rfl))|refine yaC (c4) ?_|refine yaC (c5) ?_|refine yaC (c6) ?_|(exfalso;omega)|(refine yaS ?_ ?_<;>intro _)
            exact .ret rfl ⟨_, ⟨_, _, _, rfl, fun _ => ⟨db', hd2, rfl⟩⟩, _, rfl, fin_put (old_fz1 (oldDatas _))⟩
    · repeat' first|refine yaG ?_|(exfalso;omega)|(refine yaS ?_ ?_<;>intro _)
      exact .ret rfl ⟨_, ⟨_, _, _, rfl, fun hh => absurd (by decide) hh⟩, _, rfl, fin_put .nils⟩
  · repeat' first|refine yaG ?_|(exfalso;omega)|(refine yaS ?_ ?_<;>intro _)
    exact .ret rfl ⟨_, ⟨_, _, _, rfl, fun hh => absurd h0 hh⟩, _, rfl, fin_put .nils⟩
theorem InsertRow_told (s : List Table) (db : List Data) (q : Int) (n : Nat) (vals : List Val) (hq : q = (n : Int)) (hn : n < s.length) (hx : s.length ≤ 34359738368) (h : dbF s db = true) (hb : ∀ t ∈ s, bTable 34359738368 t) (hv : vals.length ≤ 34359738368) :
    Told Tryz.prog 139 [.c (.fz (s.map encTable)), .c (.fz (db.map encData)), .c (.int .i64 q), .c (.fz (vals.map encV)), .c (.bool false)] (Put s fun c => c = 1) := by
  refine Told.run mixed c_spec_InsertRow_ok (Nat.le_of_ble_eq_true rfl) fun σ hS => ?_
  clear hS
  obtain ⟨hs, hl, hrows⟩ := dbF_at h
  obtain ⟨h5, hbd, hrl⟩ := dbF_b h
  have hn2 : n < db.length := by omega
  have c1 := l6Ok_ok s db q hx hb (by omega) hbd
  have hin : isIn q 0 (s.length - 1) = true := by simp only [isIn, Bool.and_eq_true, decide_eq_true_eq]; omega
  rw [h, hin] at c1
  have c2 := l4Kinds_ok s[n] vals hv
  cases hf : fitF s[n] vals
  · rw [hf] at c2
    repeat' first|refine yaG ?_|((first|apply yG|apply yH|apply yI);exact rfl;(first|exact yX (enc := encTable) rfl rfl hq hn rfl))|refine yaC (c1) ?_|refine yaC (c2) ?_|(exfalso;omega)|(refine yaS ?_ ?_<;>intro _)
    exact .ret rfl ⟨_, ⟨_, _, _, rfl, fun hh => absurd rfl hh⟩, _, rfl, fin_put .nils⟩
  · rw [hf] at c2
    repeat' first|refine yaG ?_|((first|apply yG|apply yH|apply yI);exact rfl;(first|exact yX (enc := encTable) rfl rfl hq hn rfl))|refine yaC (c1) ?_|refine yaC (c2) ?_|(exfalso;omega)|(refine yaS ?_ ?_<;>intro _)
    refine Go.told rfl rfl rfl (l6Insert_ok s db q n vals hq hn hn2 h hb hf) ?_
    rintro _ ⟨y, id, code, rfl, hok⟩
    have cdb := l4Copy_ok db (by omega) fun d hd => ⟨(hrl d hd).1, fun r hr => by have := ((hrl d hd).2 r hr).2.1; omega⟩
    by_cases h0 : code = 0
    · subst h0
      obtain ⟨db', hd', rfl⟩ := hok (by decide)
      obtain ⟨h5', _, hrl'⟩ := dbF_b hd'
      have cdb' := l4Copy_ok db' (by omega) fun d hd => ⟨(hrl' d hd).1, fun r hr => by have := ((hrl' d hd).2 r hr).2.1; omega⟩
      repeat' first|refine yaG ?_|refine yaC (cdb') ?_|(exfalso;omega)|(refine yaS ?_ ?_<;>intro _)
      exact .ret rfl ⟨_, ⟨_, _, _, rfl, fun _ => ⟨db', hd', rfl⟩⟩, _, rfl, fin_put (old_fz1 (oldDatas _))⟩
    · repeat' first|refine yaG ?_|refine yaC (cdb) ?_|(exfalso;omega)|(refine yaS ?_ ?_<;>intro _)
      exact .ret rfl ⟨_, ⟨_, _, _, rfl, fun _ => ⟨db, h, rfl⟩⟩, _, rfl, fin_put (old_fz1 (oldDatas _))⟩
end Go.Proofs.YtdgnfdljkghpjaaGreat.Am

/- The reader that draws: databases and places. -/
set_option linter.unusedVariables false
set_option linter.unusedSimpArgs false
namespace Go.Proofs.YtdgnfdljkghpjaaGreat.Am

/-- A drawn database: right, or none. -/
def Bases (s : List Table) (r : AV) : Prop := ∃ db : List Data, (dbF s db = true ∨ db = []) ∧ r = .c (.fz (db.map encData))
theorem oldTables {n : Nat} (l : List Table) : OldL n (l.map encTable) := fun e he c hc => by
  obtain ⟨a, _, rfl⟩ := List.mem_map.1 he
  simp only [encTable, List.mem_cons, List.not_mem_nil, or_false] at hc
  rcases hc with rfl | rfl | rfl | rfl | rfl | rfl
  · exact .str _
  · exact old_fz1 (oldCols _)
  · exact old_fz1 (oldInts _)
  · exact old_fz1 (oldUniqs _)
  · exact old_fz1 (oldChks _)
  · exact old_fz1 (oldFks _)
theorem SmallT.b34 {t : Table} (h : SmallT t) : bTable 34359738368 t := by
  obtain ⟨⟨b1, ⟨b2, b3⟩, b4, ⟨b5, b6⟩, ⟨b7, b8⟩, b9, b10⟩, _, _⟩ := h
  have k : ∀ {n : Nat}, n ≤ 12 → n ≤ 34359738368 := fun h => by omega
  refine ⟨k b1, ⟨k b2, fun x hx => ?_⟩, k b4, ⟨k b5, fun x hx => k (b6 x hx)⟩, ⟨k b7, fun x hx => ?_⟩, k b9, fun x hx => ⟨k (b10 x hx).1, k (b10 x hx).2⟩⟩
  · exact ⟨k (b3 x hx).1, k (b3 x hx).2⟩
  · exact ⟨k (b8 x hx).1, fun t ht => k ((b8 x hx).2 t ht)⟩
theorem SchD.b {s : List Table} (h : SchD s) : s.length ≤ 34359738368 ∧ ∀ t ∈ s, bTable 34359738368 t := ⟨by have := h.2.1; omega, fun t ht => (h.2.2 t ht).b34⟩
theorem dbF_new {s : List Table} (h : schemaF s = true) : dbF s (List.replicate s.length (⟨[]⟩ : Data)) = true := by
  rw [dbF, h, List.length_replicate, decide_eq_true rfl, Bool.true_and, Bool.true_and]
  refine dbAux_of fun i hi hi2 => ?_
  simp [rowsF, rowsAux]
theorem below_pos {n : Nat} (h : 0 < n) {r : AV} (hr : BelowR (n : Int) r) : ∃ k : Nat, k < n ∧ r = .c (.int .i64 (k : Int)) := by
  obtain ⟨k, h0, h1, rfl⟩ := hr
  refine ⟨k.toNat, by omega, by rw [Int.toNat_of_nonneg h0]⟩
theorem base_ok (s : List Table) (most : Nat) (hm : 1 ≤ most) (hm2 : most ≤ 60) (hs : SchD s) : Draws Tryz.prog 77 [.c (.fz (s.map encTable)), .c (.int .i64 (most : Int))] (Bases s) := by
  refine Draws.run mixed c_spec_l1Rd_base_ok (Nat.le_of_ble_eq_true rfl) fun σ id v code p hr hp hc hS => ?_
  obtain ⟨hx, hb⟩ := hs.b
  have c0 := DbNew_ok s hx hb
  cases hsc : schemaF s
  · rw [hsc, if_neg (by decide)] at c0
    have hpos : (0 : Int) < s.length := by have := hs.1; omega
    repeat' first|refine yaG ?_|refine yaC (c0) ?_|(exfalso;omega)|(refine yaS ?_ ?_<;>intro _)
    apply Go.loop
    repeat' first|refine yaG ?_|(exfalso;omega)|(refine yaS ?_ ?_<;>intro _)
    exact .ret rfl (.c hp ⟨[], .inr rfl, rfl⟩ fun y hy => by
      rw [List.mem_singleton.1 hy]
      exact .fz _ fun i j hi => absurd hi (by simp))
  rw [hsc, if_pos rfl] at c0
  have hd0 := dbF_new hsc
  generalize List.replicate s.length (⟨[]⟩ : Data) = db0 at c0 hd0
  have hsO : ∀ y ∈ (AV.c (.fz (s.map encTable))).all, Old σ.next y := fun y hy => by
    rw [List.mem_singleton.1 hy]
    exact old_fz1 (oldTables _)
  have hs3 := hs.2.1
  have hs1 := hs.1
  repeat' first|refine yaG ?_|refine yaC (c0) ?_|(exfalso;omega)|(refine yaS ?_ ?_<;>intro _)
  refine Go.keep [0, 1, 2, 7, 8, 9] (Go.loops (I := fun m fr τ => ∃ (i : Nat) (k : Int) (q : Nat) (db : List Data), m = s.length - i ∧ i ≤ s.length ∧ k = i ∧ q ≤ code.length ∧ dbF s db = true ∧
    fr = [(0, .c (.ptr id v 0 0)), (1, .c (.fz (s.map encTable))), (2, .c (.int .i64 (most : Int))), (7, .c (.fz (db.map encData))), (8, .c (.bool true)), (9, .c (.int .i64 k))] ∧ τ = E (Rd.go σ id v code q) []) ?_ _ _ _ ⟨0, _, p, db0, rfl, Nat.zero_le _, rfl, hp, hd0, rfl, rfl⟩)
  clear c0 hd0 hp
  rintro m fr τ ⟨i, k, q, db, rfl, hi, hk, hq, hd, rfl, rfl⟩ hrec
  by_cases hlt : i < s.length
  · have hT := hs.2.2 _ (List.getElem_mem hlt)
    repeat' first|refine yaG ?_|(exfalso;omega)|(refine yaS ?_ ?_<;>intro _)
    refine Go.drawn hr hq rfl rfl rfl (below_ok most (by omega) (by omega)) ?_
    rintro _ q1 hq1 ⟨a, ha0, ha1, rfl⟩
    have ew : IntKind.i64.wrap (1 + a) = 1 + a := wrap64 (by omega) (by omega)
    repeat' first|refine yaG ?_|(exfalso;omega)|(refine yaS ?_ ?_<;>intro _)
    refine Go.keep [0, 1, 2, 7, 8, 9, 10] (Go.loops (I := fun m fr τ => ∃ (b : Int) (q : Nat) (db : List Data), m = b.toNat ∧ b ≤ 100 ∧ q ≤ code.length ∧ dbF s db = true ∧
      fr = [(0, .c (.ptr id v 0 0)), (1, .c (.fz (s.map encTable))), (2, .c (.int .i64 (most : Int))), (7, .c (.fz (db.map encData))), (8, .c (.bool true)), (9, .c (.int .i64 k)), (10, .c (.int .i64 b))] ∧ τ = E (Rd.go σ id v code q) []) ?_ _ _ _ ⟨_, q1, db, rfl, by omega, hq1, hd, rfl, rfl⟩)
    clear hq1 hd hq ew ha0 ha1
    clear db q q1
    rintro m fr τ ⟨b, q, db, rfl, hb100, hq, hd, rfl, rfl⟩ hrecb
    obtain ⟨h5, hbd, hrl⟩ := dbF_b hd
    have hdl := (dbF_at hd).2.1
    have hi2 : i < db.length := by omega
    have h00 : 0 < db.length := by omega
    have hz0 : (0 : Int) = ((0 : Nat) : Int) := rfl
    by_cases hb0 : b > 0
    · repeat' first|refine yaG ?_|((first|apply yG|apply yH|apply yI);exact rfl;(first|exact yX (enc := encTable) rfl rfl hk hlt rfl))|(exfalso;omega)|(refine yaS ?_ ?_<;>intro _)
      have cf := fit_own s[i] (by have := hT.hi; omega) (E (Rd.go σ id v code q) []) id v code q ((hr.at_ hq).E [])
      refine .call _ rfl rfl rfl cf ?_
      rintro r τ ⟨q2, vs, u, junk, hq2, hvl, hvb, hj, rfl, rfl⟩
      rw [Rd.go_E (show id < (Rd.go σ id v code q).next from hr.2.1), Rd.go_go, E_E, List.nil_append]
      have hlo := hT.lo
      have hz1 : (1 : Int) = ((1 : Nat) : Int) := rfl
      have h1v : 1 < (vs.map encV).length := by rw [List.length_map]; omega
      have h1v2 : 1 < vs.length := by omega
      have hev : (vs.map encV ++ junk)[0 + 1]? = some (encV vs[1]) := by
        rw [Nat.zero_add, List.getElem?_append_left h1v]
        simp [h1v2]
      have setV : ∀ w : Val, (vs.map encV ++ junk).set (0 + 1) (splice (encV vs[1]) 0 (encV w)) = (vs.set 1 w).map encV ++ junk := fun w => by
        have : splice (encV vs[1]) 0 (encV w) = encV w := by rw [splice, List.take_zero, List.nil_append, List.drop_eq_nil_of_le (by simp [encV]), List.append_nil]
        rw [this, Nat.zero_add, set_left h1v, List.map_set]
      have vec_set : ∀ w : Val, vec (σ.next + 0) u ((vs.set 1 w).map encV) junk = vec (σ.next + 0) u (vs.map encV) junk := fun w => by simp [vec]
      have hset : ∀ w : Val, bV 12 w → ∀ x ∈ vs.set 1 w, bV 12 x := fun w hw x hx => by
        rcases List.mem_or_eq_of_mem_set hx with hx | rfl
        · exact hvb x hx
        · exact hw
      refine Go.op rfl rfl (.nil (.seq ?_))
      refine Go.meet (K' := [_]) (fun fr τ => ∃ (q : Nat) (vs : List Val) (u : Nat) (junk : List (List Ce)), q ≤ code.length ∧ vs.length = s[i].cols.length ∧ (∀ w ∈ vs, bV 12 w) ∧ Jk 3 junk ∧
        fr = [(0, .c (.ptr id v 0 0)), (1, .c (.fz (s.map encTable))), (2, .c (.int .i64 (most : Int))), (7, .c (.fz (db.map encData))), (8, .c (.bool true)), (9, .c (.int .i64 k)), (10, .c (.int .i64 b)), (11, .c (vec (σ.next + 0) u (vs.map encV) junk))] ∧ τ = E (Rd.go σ id v code q) [(u, vs.map encV ++ junk)]) (fun K hm => ?_) ?_
      · have hgv : ∀ q : Nat, (E (Rd.go σ id v code q) [(u, vs.map encV ++ junk)]).get (σ.next + 0) = some (u, vs.map encV ++ junk) := fun q => E_get (σ := Rd.go σ id v code q) (k := 0) rfl
        repeat' first|refine yaG ?_|((first|apply yG|apply yH|apply yI);exact rfl;(first|exact yX (enc := encTable) rfl rfl hk hlt rfl|exact yX (enc := encData) rfl rfl hk hi2 rfl|exact yX (enc := encData) rfl rfl hz0 h00 rfl))|(exfalso;omega)|(refine yaS ?_ ?_<;>intro _)
        all_goals first
          | exact Go.keep [0, 1, 2, 7, 8, 9, 10, 11] (hm _ _ ⟨q2, vs, u, junk, hq2, hvl, hvb, hj, rfl, rfl⟩)
          | skip
        refine Go.drawn hr hq2 rfl rfl rfl (once_ok 4 (by decide) (by decide)) ?_
        rintro _ q3 hq3 ⟨b3, rfl⟩
        cases b3
        · repeat' first|refine yaG ?_|((first|apply yG|apply yH|apply yI);exact rfl;(first|exact yX (enc := encTable) rfl rfl hk hlt rfl|exact yX (enc := encData) rfl rfl hk hi2 rfl|exact yX (enc := encData) rfl rfl hz0 h00 rfl))|(exfalso;omega)|(refine yaS ?_ ?_<;>intro _)
          all_goals first
            | exact Go.keep [0, 1, 2, 7, 8, 9, 10, 11] (hm _ _ ⟨q3, vs, u, junk, hq3, hvl, hvb, hj, rfl, rfl⟩)
            | skip
          · have hr60 := (hrl _ (List.getElem_mem hi2)).1
            refine Go.drawn hr hq3 rfl rfl rfl (below_ok (db[i].rows).length (by omega) (by omega)) ?_
            intro r q4 hq4 hz
            obtain ⟨c, hc4, rfl⟩ := below_pos (by omega) hz
            have hrr := ((hrl _ (List.getElem_mem hi2)).2 _ (List.getElem_mem hc4))
            obtain ⟨w, hw, hw2⟩ : ∃ w, w = ((db[i].rows)[c]'hc4).vals[0]'(by omega) ∧ bV 12 w := ⟨_, rfl, hrr.2.2 _ (List.getElem_mem _)⟩
            have hv0 : 0 < ((db[i].rows)[c]'hc4).vals.length := by omega
            repeat' first|refine yaG ?_|((first|apply yG|apply yH|apply yI);exact rfl;(first|exact yX (enc := encRowD) rfl rfl rfl hc4 rfl|exact yX (enc := encV) rfl rfl hz0 hv0 rfl|exact aop_iaddrO rfl rfl hz1 h1v (hgv _) hev rfl|exact aop_store (k := 0) rfl rfl rfl rfl hev rfl (Nat.le_of_ble_eq_true rfl)))|(exfalso;omega)|(refine yaS ?_ ?_<;>intro _)
            refine Go.keep [0, 1, 2, 7, 8, 9, 10, 11] (hm _ _ ⟨q4, vs.set 1 w, u, junk, hq4, by rw [List.length_set]; exact hvl, hset w hw2, hj, ?_, ?_⟩)
            · rw [vec_set]; rfl
            · rw [← setV w, hw]; rfl
          · have hr60 := (hrl _ (List.getElem_mem h00)).1
            refine Go.drawn hr hq3 rfl rfl rfl (below_ok (db[0].rows).length (by omega) (by omega)) ?_
            intro r q4 hq4 hz
            obtain ⟨c, hc4, rfl⟩ := below_pos (by omega) hz
            have hrr := ((hrl _ (List.getElem_mem h00)).2 _ (List.getElem_mem hc4))
            obtain ⟨w, hw, hw2⟩ : ∃ w, w = ((db[0].rows)[c]'hc4).vals[0]'(by omega) ∧ bV 12 w := ⟨_, rfl, hrr.2.2 _ (List.getElem_mem _)⟩
            have hv0 : 0 < ((db[0].rows)[c]'hc4).vals.length := by omega
            repeat' first|refine yaG ?_|((first|apply yG|apply yH|apply yI);exact rfl;(first|exact yX (enc := encRowD) rfl rfl rfl hc4 rfl|exact yX (enc := encV) rfl rfl hz0 hv0 rfl|exact aop_iaddrO rfl rfl hz1 h1v (hgv _) hev rfl|exact aop_store (k := 0) rfl rfl rfl rfl hev rfl (Nat.le_of_ble_eq_true rfl)))|(exfalso;omega)|(refine yaS ?_ ?_<;>intro _)
            refine Go.keep [0, 1, 2, 7, 8, 9, 10, 11] (hm _ _ ⟨q4, vs.set 1 w, u, junk, hq4, by rw [List.length_set]; exact hvl, hset w hw2, hj, ?_, ?_⟩)
            · rw [vec_set]; rfl
            · rw [← setV w, hw]; rfl
        · repeat' first|refine yaG ?_|((first|apply yG|apply yH|apply yI);exact rfl;(first|exact yX (enc := encTable) rfl rfl hk hlt rfl|exact yX (enc := encData) rfl rfl hk hi2 rfl|exact yX (enc := encData) rfl rfl hz0 h00 rfl))|(exfalso;omega)|(refine yaS ?_ ?_<;>intro _)
          all_goals exact Go.keep [0, 1, 2, 7, 8, 9, 10, 11] (hm _ _ ⟨q3, vs, u, junk, hq3, hvl, hvb, hj, rfl, rfl⟩)
      · clear hset vec_set setV hev h1v2 h1v hz1
        clear hvl hvb hj hq2
        clear q2 vs u junk
        rintro fr τ ⟨q2, vs, u, junk, hq2, hvl, hvb, hj, rfl, rfl⟩
        have hz1 : (1 : Int) = ((1 : Nat) : Int) := rfl
        have h1v : 1 < (vs.map encV).length := by rw [List.length_map]; omega
        have h1v2 : 1 < vs.length := by omega
        have hev : (vs.map encV ++ junk)[0 + 1]? = some (encV vs[1]) := by
          rw [Nat.zero_add, List.getElem?_append_left h1v]
          simp [h1v2]
        have setV : ∀ w : Val, (vs.map encV ++ junk).set (0 + 1) (splice (encV vs[1]) 0 (encV w)) = (vs.set 1 w).map encV ++ junk := fun w => by
          have : splice (encV vs[1]) 0 (encV w) = encV w := by rw [splice, List.take_zero, List.nil_append, List.drop_eq_nil_of_le (by simp [encV]), List.append_nil]
          rw [this, Nat.zero_add, set_left h1v, List.map_set]
        have vec_set : ∀ w : Val, vec (σ.next + 0) u ((vs.set 1 w).map encV) junk = vec (σ.next + 0) u (vs.map encV) junk := fun w => by simp [vec]
        have hset : ∀ w : Val, bV 12 w → ∀ x ∈ vs.set 1 w, bV 12 x := fun w hw x hx => by
          rcases List.mem_or_eq_of_mem_set hx with hx | rfl
          · exact hvb x hx
          · exact hw
        refine .seq ?_
        refine Go.meet (K' := [_]) (fun fr τ => ∃ (q : Nat) (vs : List Val) (u : Nat) (junk : List (List Ce)), q ≤ code.length ∧ vs.length = s[i].cols.length ∧ (∀ w ∈ vs, bV 12 w) ∧ Jk 3 junk ∧
          fr = [(0, .c (.ptr id v 0 0)), (1, .c (.fz (s.map encTable))), (2, .c (.int .i64 (most : Int))), (7, .c (.fz (db.map encData))), (8, .c (.bool true)), (9, .c (.int .i64 k)), (10, .c (.int .i64 b)), (11, .c (vec (σ.next + 0) u (vs.map encV) junk))] ∧ τ = E (Rd.go σ id v code q) [(u, vs.map encV ++ junk)]) (fun K hm => ?_) ?_
        · have hgv : ∀ q : Nat, (E (Rd.go σ id v code q) [(u, vs.map encV ++ junk)]).get (σ.next + 0) = some (u, vs.map encV ++ junk) := fun q => E_get (σ := Rd.go σ id v code q) (k := 0) rfl
          repeat' first|refine yaG ?_|((first|apply yG|apply yH|apply yI);exact rfl;(first|exact yX (enc := encTable) rfl rfl hk hlt rfl|exact yX (enc := encData) rfl rfl hk hi2 rfl|exact yX (enc := encData) rfl rfl hz0 h00 rfl|exact aop_iaddrO rfl rfl hz1 h1v (hgv _) hev rfl|exact aop_store (k := 0) rfl rfl rfl rfl hev rfl (Nat.le_of_ble_eq_true rfl)))|(exfalso;omega)|(refine yaS ?_ ?_<;>intro _)
          all_goals first
            | exact Go.keep [0, 1, 2, 7, 8, 9, 10, 11] (hm _ _ ⟨q2, vs, u, junk, hq2, hvl, hvb, hj, rfl, rfl⟩)
            | skip
          refine Go.keep [0, 1, 2, 7, 8, 9, 10, 11] (hm _ _ ⟨q2, vs.set 1 vNull, u, junk, hq2, by rw [List.length_set]; exact hvl, hset vNull (Nat.zero_le _), hj, ?_, ?_⟩)
          · rw [vec_set]; rfl
          · rw [← setV vNull]; rfl
        · clear hset vec_set setV hev h1v2 h1v hz1
          clear hvl hvb hj hq2
          clear q2 vs u junk
          rintro fr τ ⟨q2, vs, u, junk, hq2, hvl, hvb, hj, rfl, rfl⟩
          refine Go.freezeN (l := []) (m := [(u, vs.map encV ++ junk)]) (fr' := [(0, .c (.ptr id v 0 0)), (1, .c (.fz (s.map encTable))), (2, .c (.int .i64 (most : Int))), (7, .c (.fz (db.map encData))), (8, .c (.bool true)), (9, .c (.int .i64 k)), (10, .c (.int .i64 b)), (11, .c (.fz (vs.map encV)))]) (hr.old hS) (fun b hb => by cases hb) (Nat.le_refl _)
            (.frz rfl (.refl (old_ptr hr.2.1)) (.frz rfl (.refl hsO) (.frz rfl (.refl old_c) (.frz rfl (.refl fun y hy => by rw [List.mem_singleton.1 hy]; exact old_fz1 (oldDatas _)) (.frz rfl (.refl old_b) (.frz rfl (.refl old_c) (.frz rfl (.refl old_c) (.frz rfl (frz_drop (n := 0) (k := 0) rfl flats (Nat.zero_le _) (Nat.le_refl _)) .nil)))))))) ?_
          repeat' first|refine yaG ?_|(exfalso;omega)|(refine yaS ?_ ?_<;>intro _)
          refine Go.told rfl rfl rfl (InsertRow_told s db k i vs hk hlt hx hd hb (by have := hT.hi; omega)) ?_
          rintro _ ⟨y, iid, cd, rfl, hok⟩
          have ew : IntKind.i64.wrap (b - 1) = b - 1 := wrap64 (by omega) (by omega)
          by_cases hcd : cd = 1
          · repeat' first|refine yaG ?_|(exfalso;omega)|(refine yaS ?_ ?_<;>intro _)
            exact Go.keep [0, 1, 2, 7, 8, 9, 10] (hrecb _ _ _ (by omega) ⟨b - 1, q2, db, rfl, by omega, hq2, hd, by rw [ew]; rfl, rfl⟩)
          · obtain ⟨db', hd', rfl⟩ := hok hcd
            repeat' first|refine yaG ?_|(exfalso;omega)|(refine yaS ?_ ?_<;>intro _)
            exact Go.keep [0, 1, 2, 7, 8, 9, 10] (hrecb _ _ _ (by omega) ⟨b - 1, q2, db', rfl, by omega, hq2, hd', by rw [ew]; rfl, rfl⟩)
    · repeat' first|refine yaG ?_|(exfalso;omega)|(refine yaS ?_ ?_<;>intro _)
      exact Go.keep [0, 1, 2, 7, 8, 9] (hrec _ _ _ (by omega) ⟨i + 1, _, q, db, rfl, hlt, wrap_succ hk (by omega), hq, hd, rfl, rfl⟩)
  · repeat' first|refine yaG ?_|(exfalso;omega)|(refine yaS ?_ ?_<;>intro _)
    exact .ret rfl (.c hq ⟨db, .inl hd, rfl⟩ fun y hy => by
      rw [List.mem_singleton.1 hy]
      exact old_fz1 (oldDatas _))
end Go.Proofs.YtdgnfdljkghpjaaGreat.Am

/- Drawn arguments: of Matching, of JoinOn. -/
set_option linter.unusedVariables false
set_option linter.unusedSimpArgs false
namespace Go.Proofs.YtdgnfdljkghpjaaGreat.Am

theorem l1Open_ok (code : List UInt8) (σ : Store) : Ok Tryz.prog 46 [.c (.fz (code.map encB))] σ (fun r τ => r = .c (.ptr (σ.next + 0) 0 0 0) ∧ τ = E σ [(0, rdB code 0)]) := by
  refine Ok.run mixed c_spec_l1Open_ok (Nat.le_of_ble_eq_true rfl) fun hS hA => ?_
  clear hS hA
  repeat' first|refine yaG ?_|(exfalso;omega)|(refine yaS ?_ ?_<;>intro _)
  exact .ret rfl ⟨rfl, rfl⟩
/-- The reader that was opened. -/
theorem rd_open {σ : Store} {code : List UInt8} (hc : code.length ≤ 1048576) : Rd (E σ [(0, rdB code 0)]) (σ.next + 0) 0 code 0 := ⟨E_get (k := 0) rfl, by rw [E_next]; simp, Nat.zero_le _, hc⟩
theorem rd_opened {σ : Store} {code : List UInt8} (hc : code.length ≤ 1048576) : E σ [(0, rdB code 0)] = E (Rd.go (E σ [(0, rdB code 0)]) (σ.next + 0) 0 code 0) [] := by
  rw [(rd_open (σ := σ) hc).same, E_E, List.append_nil]
end Go.Proofs.YtdgnfdljkghpjaaGreat.Am

/- The order of entries; an index without one of its entries. Plain laws. -/
set_option linter.unusedVariables false
set_option linter.unusedSimpArgs false
namespace Go.Proofs.YtdgnfdljkghpjaaGreat.Am

/-- A three-way order among those that are R. -/
structure Cmp {α : Type} (R : α → Prop) (c : α → α → Int) : Prop where
  refl : ∀ a, R a → c a a = 0
  eq : ∀ a b, R a → R b → c a b = 0 → a = b
  flip : ∀ a b, R a → R b → (c a b < 0 ↔ 0 < c b a)
  trans : ∀ a b d, R a → R b → R d → c a b < 0 → c b d < 0 → c a d < 0
theorem Cmp.lex {α β γ : Type} {R : γ → Prop} {f : γ → α} {g : γ → β} {c : α → α → Int} {d : β → β → Int} {Rα : α → Prop} {Rβ : β → Prop} (hc : Cmp Rα c) (hd : Cmp Rβ d) (h1 : ∀ x, R x → Rα (f x)) (h2 : ∀ x, R x → Rβ (g x)) (inj : ∀ x y, f x = f y → g x = g y → x = y) {e : γ → γ → Int} (he : ∀ x y, e x y = if c (f x) (f y) = 0 then d (g x) (g y) else c (f x) (f y)) : Cmp R e := by
  refine ⟨fun a ha => ?_, fun a b ha hb h => ?_, fun a b ha hb => ?_, fun a b x ha hb hx p q => ?_⟩
  · rw [he, hc.refl _ (h1 a ha), if_pos rfl, hd.refl _ (h2 a ha)]
  · rw [he] at h
    split at h
    · rename_i h0
      exact inj a b (hc.eq _ _ (h1 a ha) (h1 b hb) h0) (hd.eq _ _ (h2 a ha) (h2 b hb) h)
    · contradiction
  · have f1 := hc.flip _ _ (h1 a ha) (h1 b hb)
    have f2 := hc.flip _ _ (h1 b hb) (h1 a ha)
    have f3 := hd.flip _ _ (h2 a ha) (h2 b hb)
    rw [he, he]
    split <;> split <;> omega
  · rw [he] at p q ⊢
    split at p
    · rename_i e1
      have e1' := hc.eq _ _ (h1 a ha) (h1 b hb) e1
      rw [e1']
      split at q
      · rename_i e2
        rw [if_pos e2]
        exact hd.trans _ _ _ (h2 a ha) (h2 b hb) (h2 x hx) p q
      · rename_i e2
        rw [if_neg e2]
        exact q
    · rename_i e1
      split at q
      · rename_i e2
        have e2' := hc.eq _ _ (h1 b hb) (h1 x hx) e2
        rw [← e2', if_neg e1]
        exact p
      · have := hc.trans _ _ _ (h1 a ha) (h1 b hb) (h1 x hx) p q
        rw [if_neg (by omega)]
        exact this
theorem cmpI_cmp : Cmp (fun _ => True) cmpI := by
  refine ⟨fun a _ => ?_, fun a b _ _ h => ?_, fun a b _ _ => ?_, fun a b d _ _ _ h k => ?_⟩ <;> simp only [cmpI] at *
  · simp
  · split at h
    · omega
    · split at h <;> omega
  · split <;> split <;> (try split) <;> (try split) <;> omega
  · split at h <;> split at k <;> (try split at h) <;> (try split at k) <;> (try omega)
theorem bytesLt_trans : ∀ {a b d : List UInt8}, bytesLt a b = true → bytesLt b d = true → bytesLt a d = true
  | [], [], _, h, _ => by simp [bytesLt, Op.bytesLess] at h
  | [], _ :: _, [], _, k => by simp [bytesLt, Op.bytesLess] at k
  | [], _ :: _, _ :: _, _, _ => by simp [bytesLt, Op.bytesLess]
  | _ :: _, [], _, h, _ => by simp [bytesLt, Op.bytesLess] at h
  | _ :: _, _ :: _, [], _, k => by simp [bytesLt, Op.bytesLess] at k
  | x :: a, y :: b, z :: d, h, k => by
    have ih := @bytesLt_trans a b d
    simp only [bytesLt, Op.bytesLess, Bool.or_eq_true, Bool.and_eq_true, decide_eq_true_eq, beq_iff_eq] at h k ih ⊢
    rcases h with h | ⟨rfl, h⟩ <;> rcases k with k | ⟨rfl, k⟩
    · exact .inl (UInt8.lt_trans h k)
    · exact .inl h
    · exact .inl k
    · exact .inr ⟨rfl, ih h k⟩
theorem cmpS_cmp : Cmp (fun _ => True) cmpS := by
  refine ⟨fun a _ => ?_, fun a b _ _ h => ?_, fun a b _ _ => ?_, fun a b d _ _ _ h k => ?_⟩
  · simp [cmpS, bytesLt_irrefl]
  · simp only [cmpS] at h
    split at h
    · omega
    · split at h
      · rename_i h8; exact beq_iff_eq.1 h8
      · omega
  · have h1 := bytesLt_cases a b
    simp only [cmpS, h1]
    cases h2 : bytesLt a b <;> by_cases e : a = b
    · subst e; simp
    · have e' : ¬ b = a := fun h => e h.symm
      simp [e]
    · subst e; rw [bytesLt_irrefl] at h2; cases h2
    · have e' : ¬ b = a := fun h => e h.symm
      simp [e, e']
  · have key : ∀ {x y : List UInt8}, cmpS x y < 0 ↔ bytesLt x y = true := by
      intro x y
      simp only [cmpS]
      split
      · simp_all
      · split <;> simp_all
    rw [key] at *
    exact bytesLt_trans h k
theorem order_cmp : Cmp (fun _ : Val => True) order := by
  have h2 : Cmp (fun _ : Int × List UInt8 => True) (fun p q => if cmpI p.1 q.1 = 0 then cmpS p.2 q.2 else cmpI p.1 q.1) := Cmp.lex (f := Prod.fst) (g := Prod.snd) cmpI_cmp cmpS_cmp (fun _ _ => trivial) (fun _ _ => trivial) (fun _ _ h k => Prod.ext h k) (fun _ _ => rfl)
  refine Cmp.lex (f := Val.k) (g := fun v => (v.n, v.s)) cmpI_cmp h2 (fun _ _ => trivial) (fun _ _ => trivial) (fun x y h k => ?_) (fun x y => ?_)
  · obtain ⟨a, b, c⟩ := x
    obtain ⟨a', b', c'⟩ := y
    simp_all
  · simp only [order, orI]
    split
    · split
      · split <;> simp_all
      · rfl
    · rfl
theorem orderOf_cmp : ∀ n, Cmp (fun l : List Val => l.length = n) orderOf
  | 0 => ⟨fun a h => by rw [List.eq_nil_of_length_eq_zero h]; rfl, fun a b h k _ => by rw [List.eq_nil_of_length_eq_zero h, List.eq_nil_of_length_eq_zero k], fun a b h k => by rw [List.eq_nil_of_length_eq_zero h, List.eq_nil_of_length_eq_zero k]; simp [orderOf], fun a b d h k _ p => by rw [List.eq_nil_of_length_eq_zero h, List.eq_nil_of_length_eq_zero k] at p; simp [orderOf] at p⟩
  | n + 1 => by
    have ih := orderOf_cmp n
    have key : Cmp (fun p : Val × List Val => p.2.length = n) (fun p q => if order p.1 q.1 = 0 then orderOf p.2 q.2 else order p.1 q.1) := Cmp.lex (f := Prod.fst) (g := Prod.snd) order_cmp ih (fun _ _ => trivial) (fun _ h => h) (fun _ _ h k => Prod.ext h k) (fun _ _ => rfl)
    have cons : ∀ {a : List Val}, a.length = n + 1 → ∃ v r, a = v :: r ∧ r.length = n := by
      intro a h
      cases a with
      | nil => simp at h
      | cons v r => exact ⟨v, r, rfl, by simpa using h⟩
    refine ⟨fun a h => ?_, fun a b h k e => ?_, fun a b h k => ?_, fun a b d h k l p q => ?_⟩
    · obtain ⟨v, r, rfl, hr⟩ := cons h
      exact key.refl (v, r) hr
    · obtain ⟨v, r, rfl, hr⟩ := cons h
      obtain ⟨w, s, rfl, hs⟩ := cons k
      have := key.eq (v, r) (w, s) hr hs e
      injection this with h1 h2
      rw [h1, h2]
    · obtain ⟨v, r, rfl, hr⟩ := cons h
      obtain ⟨w, s, rfl, hs⟩ := cons k
      exact key.flip (v, r) (w, s) hr hs
    · obtain ⟨v, r, rfl, hr⟩ := cons h
      obtain ⟨w, s, rfl, hs⟩ := cons k
      obtain ⟨u, t, rfl, ht⟩ := cons l
      exact key.trans (v, r) (w, s) (u, t) hr hs ht p q
theorem entOrd_cmp (n : Nat) : Cmp (fun e : Entry => e.key.length = n) entOrd := by
  refine Cmp.lex (f := Entry.key) (g := Entry.id) (orderOf_cmp n) cmpI_cmp (fun _ h => h) (fun _ _ => trivial) (fun x y h k => ?_) (fun x y => ?_)
  · obtain ⟨a, b⟩ := x
    obtain ⟨a', b'⟩ := y
    simp_all
  · simp only [entOrd, orI]
    split
    · split <;> simp_all
    · rfl
theorem okOne_spec {n0 : Nat} {p : Option Entry} {e : Entry} (h : okOne n0 p e = true) : e.key.length = n0 ∧ risen p e = true := by
  simp only [okOne, Bool.and_eq_true, decide_eq_true_eq] at h
  exact ⟨h.1.1.1.2, h.2⟩
theorem okRest_lt {n0 : Nat} : ∀ {l : List Entry} {q : Entry}, q.key.length = n0 → okRest n0 (some q) l = true → ∀ e ∈ l, e.key.length = n0 ∧ entOrd q e < 0
  | [], _, _, _, _, h => by simp at h
  | a :: r, q, hq, h, e, he => by
    rw [okRest_cons, Bool.and_eq_true] at h
    obtain ⟨h1, h2⟩ := okOne_spec h.1
    simp only [risen, decide_eq_true_eq] at h2
    rcases List.mem_cons.1 he with rfl | he
    · exact ⟨h1, h2⟩
    · obtain ⟨h3, h4⟩ := okRest_lt h1 h.2 e he
      exact ⟨h3, (entOrd_cmp n0).trans q a e hq h1 h3 h2 h4⟩
theorem okRest_sorted {n0 : Nat} : ∀ {l : List Entry} {p : Option Entry}, okRest n0 p l = true → l.Pairwise (fun a b => entOrd a b < 0) ∧ ∀ e ∈ l, e.key.length = n0
  | [], _, _ => ⟨.nil, fun e h => by simp at h⟩
  | a :: r, p, h => by
    rw [okRest_cons, Bool.and_eq_true] at h
    obtain ⟨h1, _⟩ := okOne_spec h.1
    obtain ⟨h3, h4⟩ := okRest_sorted h.2
    refine ⟨List.pairwise_cons.2 ⟨fun e he => (okRest_lt h1 h.2 e he).2, h3⟩, fun e he => ?_⟩
    rcases List.mem_cons.1 he with rfl | he
    · exact h1
    · exact h4 e he
theorem okEnts_sorted {l : List Entry} (h : okEnts l = true) : l.Pairwise (fun a b => entOrd a b < 0) ∧ ∃ n0, ∀ e ∈ l, e.key.length = n0 := by
  simp only [okEnts, Bool.and_eq_true] at h
  obtain ⟨h1, h2⟩ := okRest_sorted h.1
  exact ⟨h1, _, h2⟩
theorem okEnts_nodup {l : List Entry} (h : okEnts l = true) : l.Nodup := by
  obtain ⟨h1, n0, h2⟩ := okEnts_sorted h
  refine List.Pairwise.imp_of_mem (fun ha hb hab => ?_) h1
  rintro rfl
  have := (entOrd_cmp n0).refl _ (h2 _ ha)
  omega

/-- An index without an entry. -/
def without (l : List Entry) (e : Entry) : List Entry := l.filter fun x => !(x == e)
def dropF (l : List Entry) (e : Entry) : List Entry × Bool := if okEnts l && decide ((without l e).length ≠ l.length) then (without l e, true) else ([], false)
theorem idx_without : ∀ {l : List Entry} {e : Entry} (k : Int), l.Nodup → 0 ≤ k → (idxI (· == e) l k = -1 ∧ without l e = l) ∨ ∃ j : Nat, idxI (· == e) l k = k + j ∧ j < l.length ∧ without l e = l.take j ++ l.drop (j + 1)
  | [], e, k, _, _ => .inl ⟨rfl, rfl⟩
  | a :: r, e, k, h, hk => by
    rw [List.nodup_cons] at h
    by_cases c : a = e
    · subst c
      refine .inr ⟨0, by simp [idxI], by simp, ?_⟩
      have : without r a = r := List.filter_eq_self.2 fun x hx => by
        simp only [Bool.not_eq_true', beq_eq_false_iff_ne]
        rintro rfl
        exact h.1 hx
      simp only [without] at this
      simp [without, this]
    · rcases idx_without (e := e) (k + 1) h.2 (by omega) with ⟨h1, h2⟩ | ⟨j, h1, h2, h3⟩
      · refine .inl ⟨?_, ?_⟩
        · simp only [idxI, beq_iff_eq, if_neg c, h1]
        · simp only [without] at h2
          simp [without, c, h2]
      · refine .inr ⟨j + 1, ?_, by simp [h2], ?_⟩
        · simp only [idxI, beq_iff_eq, if_neg c, h1]
          omega
        · simp only [without] at h3
          simp [without, c, h3]
end Go.Proofs.YtdgnfdljkghpjaaGreat.Am

/- An index without an entry: the program and its reference. -/
set_option linter.unusedVariables false
set_option linter.unusedSimpArgs false
namespace Go.Proofs.YtdgnfdljkghpjaaGreat.Am

theorem solid_bool {τ : Store} {S : Nat → Prop} (b : Bool) : HasV τ S (.c (.bool b)) (.c (.bool b)) := .c (.c (.bool b))
/-- A tree and an answer. -/
theorem newPairE {σ τ : Store} {y x : Ce} {b : Bool} (h : NewV σ (.c y) (.c x) τ) : NewV σ (.tup [.c y, .c (.bool b)]) (.tup [.c x, .c (.bool b)]) τ :=
  ⟨h.1, .pair h.2 (solid_bool (S := fun _ => False) b) (fun _ h => h) (fun _ h => h.elim) (fun _ _ h => h)⟩
theorem old_map {n : Nat} {e : Entry} : ∀ x ∈ encE e, Old n x := by
  have hv : ∀ (v : Val), ∀ x ∈ encV v, Old n x := fun v x hx => (flatV v x hx).old n
  intro x hx
  simp only [encE, List.mem_cons, List.not_mem_nil, or_false] at hx
  rcases hx with rfl | rfl
  · refine .fz _ fun i j hi hj => ?_
    have hi' : i < e.key.length := by simpa using hi
    have : (e.key.map encV)[i] = encV e.key[i] := by simp
    exact hv e.key[i] _ (by rw [← this]; exact List.getElem_mem hj)
  · exact .int _ _
theorem old_maps {n : Nat} {l : List Entry} : ∀ q ∈ l.map encE, ∀ x ∈ q, Old n x := by
  intro q hq x hx
  obtain ⟨e, _, rfl⟩ := List.mem_map.1 hq
  exact old_map x hx
theorem encE_len {l : List Entry} : ∀ q ∈ l.map encE, q.length = 2 := by
  intro q hq
  obtain ⟨e, _, rfl⟩ := List.mem_map.1 hq
  rfl
theorem take_filter {α : Type} {p : α → Bool} {l : List α} {i : Nat} (h : i < l.length) : (l.take (i + 1)).filter p = (l.take i).filter p ++ (if p l[i] then [l[i]] else []) := by
  rw [List.take_succ_eq_append_getElem h, List.filter_append]
  congr 1
  simp only [List.filter_cons, List.filter_nil]
theorem without_length (l : List Entry) (e : Entry) : (without l e).length ≤ l.length := List.length_filter_le _ _
theorem sIndexDrop_ok (l : List Entry) (e : Entry) (hx : l.length ≤ 34359738368) (hk : ∀ e ∈ l, e.key.length ≤ 34359738368) (σ : Store) : Ok Tryz.prog 14 [.c (.fz (l.map encE)), .agg (encE e)] σ (NewV σ (.tup [.c (.fz ((dropF l e).1.map encE)), .c (.bool (dropF l e).2)])) := by
  refine Ok.run mixed c_spec_IndexDrop_ok (Nat.le_of_ble_eq_true rfl) fun hS hA => ?_
  clear hA
  repeat' first|refine yaG ?_|((first|apply Go.pcallB|apply Go.spcallB|apply Qg.pcallB);(iterate 3 exact rfl);exact l11Right_ok l hx hk;intro _ _)|(exfalso;omega)|(refine yaS ?_ ?_<;>intro _)
  · rename_i h
    have : dropF l e = ([], false) := by simp_all [dropF]
    rw [this]
    exact .ret rfl (newPairE ⟨.start σ, .c .nil⟩)
  rename_i hok
  refine Go.keep [0, 3, 6, 7] (Go.loops (I := fun m fr τ => ∃ i : Nat, ∃ n : Int, ∃ v junk, m = l.length - i ∧ i ≤ l.length ∧ n = i ∧ Jk 2 junk ∧
    fr = [(0, .c (.fz (l.map encE))), (3, .c (.fp (encE e))), (6, .c (vec (σ.next + 0) v ((without (l.take i) e).map encE) junk)), (7, .c (.int .i64 n))] ∧ τ = E σ [(v, (without (l.take i) e).map encE ++ junk)]) ?_ _ _ _ ⟨0, _, 0, [], rfl, Nat.zero_le _, rfl, Jk.nil, rfl, rfl⟩)
  rintro m fr τ ⟨i, n, v, junk, rfl, hi, hn, hj, rfl, rfl⟩ hrec
  by_cases hlt : i < l.length
  · have hki := hk _ (List.getElem_mem hlt)
    have htk := take_filter (p := fun x => !(x == e)) hlt
    repeat' first|refine yaG ?_|((first|apply yG|apply yH|apply yI);exact rfl;(first|exact yX (enc := encE) rfl rfl hn hlt rfl))|((first|apply Go.pcallB|apply Go.spcallB|apply Qg.pcallB);(iterate 3 exact rfl);exact l11Same_ok l[i] e hki;intro _ _)|(exfalso;omega)|(refine yaS ?_ ?_<;>intro _)
    · rename_i h1
      have hb : (((without (l.take i) e).map encE).length + 1) * 32 ≤ 140737488355328 := by
        have := without_length (l.take i) e
        rw [List.length_take] at this
        rw [List.length_map]
        omega
      refine Go.app1 (z := encE l[i]) rfl rfl rfl rfl rfl encE_len hj rfl hb fun v' junk' hj' => ?_
      repeat' first|refine yaG ?_|(exfalso;omega)|(refine yaS ?_ ?_<;>intro _)
      have hnew : (without (l.take (i + 1)) e).map encE = (without (l.take i) e).map encE ++ [encE l[i]] := by
        simp only [without, htk]
        simp_all
      refine Go.keep [0, 3, 6, 7] (hrec _ _ _ (by omega) ⟨i + 1, _, v', junk', rfl, hlt, wrap_succ hn (by omega), hj', ?_, ?_⟩)
      · rw [hnew] <;> try rfl
      · rw [hnew] <;> try rfl
    · rename_i h1
      have hnew : (without (l.take (i + 1)) e) = (without (l.take i) e) := by
        simp only [without, htk]
        simp_all
      refine Go.keep [0, 3, 6, 7] (hrec _ _ _ (by omega) ⟨i + 1, _, v, junk, rfl, hlt, wrap_succ hn (by omega), hj, ?_, ?_⟩)
      · rw [hnew] <;> try rfl
      · rw [hnew] <;> try rfl
  · rw [List.take_of_length_le (by omega)]
    have hwl := without_length l e
    clear hrec
    have hml : ((without l e).map encE).length = (without l e).length := by simp
    repeat' first|refine yaG ?_|(exfalso;omega)|(refine yaS ?_ ?_<;>intro _)
    · rename_i h
      rw [hml] at h
      have : dropF l e = ([], false) := by
        simp only [dropF]
        rw [if_neg]
        simp only [Bool.and_eq_true, decide_eq_true_eq, not_and, Classical.not_not]
        omega
      rw [this]
      refine Go.freeze hS (fr' := [(4, .c .nils), (5, .c (.bool false))]) (.frz rfl (.c (.same _ .nils)) (.frz rfl (.c (.same _ (.bool _))) .nil)) ?_
      exact .ret rfl (newPairE ⟨.start σ, .c .nil⟩)
    · rename_i h
      rw [hml] at h
      have : dropF l e = (without l e, true) := by
        simp only [dropF]
        rw [if_pos]
        simp only [Bool.and_eq_true, decide_eq_true_eq]
        refine ⟨by simp_all, by omega⟩
      rw [this]
      refine Go.freeze hS (fr' := [(37, .c (.fz ((without l e).map encE)))]) (.frz rfl (.c (frz_vec rfl old_maps)) .nil) ?_
      refine Go.call _ rfl rfl rfl (l11Copy_ok (without l e) (by omega) (fun q hq => hk q (List.mem_filter.1 hq).1) _) ?_
      rintro r τ ⟨hg, hh⟩
      cases hh with
      | c hh =>
      repeat' first|refine yaG ?_|(exfalso;omega)|(refine yaS ?_ ?_<;>intro _)
      exact .ret rfl (newPairE ⟨(Gr.start σ).trans hg, .c hh⟩)
theorem Cloned.made {σ τ : Store} {s : Nat} {ys : List (List Ce)} {r : AV} (h : Cloned σ s ys r τ) (hy : ys ≠ []) : Made σ s ys r τ := h.resolve_left fun e => hy e.1
theorem IndexDrop_ok (l : List Entry) (e : Entry) (hx : l.length ≤ 34359738368) (hk : ∀ e ∈ l, e.key.length ≤ 34359738368) (σ : Store) : Ok Tryz.prog 13 [.c (.fz (l.map encE)), .agg (encE e)] σ (NewV σ (.tup [.c (.fz ((dropF l e).1.map encE)), .c (.bool (dropF l e).2)])) := by
  refine Ok.run mixed c_impl_IndexDrop_ok (Nat.le_of_ble_eq_true rfl) fun hS hA => ?_
  clear hA
  repeat' first|refine yaG ?_|((first|apply Go.pcallB|apply Go.spcallB|apply Qg.pcallB);(iterate 3 exact rfl);exact areEntries_ok l hx hk;intro _ _)|((first|apply Go.pcallI|apply Go.spcallI|apply Qg.pcallI);(iterate 3 exact rfl);exact indexFunc_ok l (· == e) 62 [] [.fp (encE e)] hx (fun q hq => dropFn_ok q e (hk q hq));intro _ _)|(exfalso;omega)|(refine yaS ?_ ?_<;>intro _)
  · rename_i h
    have : dropF l e = ([], false) := by simp_all [dropF]
    rw [this]
    exact .ret rfl (newPairE ⟨.start σ, .c .nil⟩)
  · rename_i b1 h1 b2 h2 h3 h4
    have hok : okEnts l = true := by simp_all
    have hw : without l e = l := by
      rcases idx_without (e := e) 0 (okEnts_nodup hok) (by omega) with ⟨_, h⟩ | ⟨j, h, _⟩
      · exact h
      · omega
    have : dropF l e = ([], false) := by simp [dropF, hw]
    rw [this]
    exact .ret rfl (newPairE ⟨.start σ, .c .nil⟩)
  · rename_i b1 h1 b2 h2 h3 h4
    have hok : okEnts l = true := by simp_all
    obtain ⟨j, hj1, hj2, hj3⟩ : ∃ j : Nat, b1 = (j : Int) ∧ j < l.length ∧ without l e = l.take j ++ l.drop (j + 1) := by
      rcases idx_without (e := e) 0 (okEnts_nodup hok) (by omega) with ⟨h, _⟩ | ⟨j, h, h5, h6⟩
      · omega
      · exact ⟨j, by omega, h5, h6⟩
    have hwl : (without l e).length + 1 = l.length := by
      rw [hj3, List.length_append, List.length_take, List.length_drop]
      omega
    have : dropF l e = (without l e, true) := by
      simp only [dropF]
      rw [if_pos]
      simp only [Bool.and_eq_true, decide_eq_true_eq]
      exact ⟨hok, by omega⟩
    rw [this]
    refine Go.call _ rfl rfl rfl (clone_ok mixed c_slices_Clone_Entry_ok (l.map encE) encE_len (by simp; omega) _) ?_
    intro r τ hr
    obtain ⟨v, junk, hjk, rfl, rfl⟩ := hr.made (by intro h; simp at h; subst h; simp at hj2)
    repeat' first|refine yaG ?_|(exfalso;omega)|(refine yaS ?_ ?_<;>intro _)
    have hw1 : IntKind.i64.wrap (b1 + 1) = ((j + 1 : Nat) : Int) := wrap_succ hj1 (by omega)
    rw [hw1, hj1]
    have hall : ∀ q ∈ l.map encE ++ junk, q.length = 2 := by
      intro q hq
      rcases List.mem_append.1 hq with h | h
      · exact encE_len q h
      · exact (hjk q h).1
    refine Go.call _ rfl rfl rfl (delete_ok mixed c_slices_Delete_Entry_ok rfl (l.map encE) junk hall _ v j (j + 1) (by omega) (by simp; omega) _ ?_) ?_
    · exact E_at
    rintro r τ ⟨rfl, rfl⟩
    have hys : (l.map encE).take j ++ (l.map encE).drop (j + 1) = (without l e).map encE := by
      rw [hj3, List.map_append, List.map_take, List.map_drop]
    rw [E_E, hys]
    generalize List.replicate (j + 1 - j) [Ce.nils, Ce.int IntKind.i64 0] ++ junk = junk2
    have hput : ∀ X, (E σ ([] ++ [(v, l.map encE ++ junk)])).put ((E σ []).next + 0) X = E σ [X] := fun X => E_put (k := 0) (by simp)
    rw [hput]
    refine Go.freeze hS (fr' := [(22, .c (.fz ((without l e).map encE)))]) (.frz rfl (.c (frz_vec (σ := σ) (k := 0) rfl old_maps)) .nil) ?_
    refine Go.call _ rfl rfl rfl (copiedEntries_ok (without l e) (by omega) (fun q hq => hk q (List.mem_filter.1 hq).1) _) ?_
    rintro r τ ⟨hg, hh⟩
    cases hh with
    | c hh =>
    repeat' first|refine yaG ?_|(exfalso;omega)|(refine yaS ?_ ?_<;>intro _)
    exact .ret rfl (newPairE ⟨(Gr.start σ).trans hg, .c hh⟩)
end Go.Proofs.YtdgnfdljkghpjaaGreat.Am

/- An entry put into an index: the reference's. -/
set_option linter.unusedVariables false
set_option linter.unusedSimpArgs false
namespace Go.Proofs.YtdgnfdljkghpjaaGreat.Am

theorem aop_cutF {fr : Fr} {σ : Store} {s : Nat} {x hi : Opd} {kd : IntKind} {es : List (List Ce)} {z : Int} {n : Nat} (hx : x.ev fr = some (.c (.fz es))) (hy : hi.ev fr = some (.c (.int kd z))) (hz : z = (n : Int)) (hn : n ≤ es.length) (hs : ∀ e ∈ es, e.length = s) : aop (.slice s x none (some hi) none) fr σ = some (.c (.fz (es.take n)), σ) := by
  have : sliceA σ s (.fz es) none (some (.c (.int kd z))) none = some (.fz (es.take n)) := by
    subst hz
    simp only [sliceA, bound]
    rw [if_pos (by omega)]
    simp only [Int.toNat_natCast]
    rw [if_pos ⟨Nat.zero_le _, hn, hs⟩, List.drop_zero]
  simp only [aop, hx, evo, hy, Option.map_some, this]
theorem aop_restF {fr : Fr} {σ : Store} {s : Nat} {x lo : Opd} {kd : IntKind} {es : List (List Ce)} {z : Int} {n : Nat} (hx : x.ev fr = some (.c (.fz es))) (hy : lo.ev fr = some (.c (.int kd z))) (hz : z = (n : Int)) (hn : n ≤ es.length) (hs : ∀ e ∈ es, e.length = s) : aop (.slice s x (some lo) none none) fr σ = some (.c (.fz (es.drop n)), σ) := by
  have : sliceA σ s (.fz es) (some (.c (.int kd z))) none none = some (.fz (es.drop n)) := by
    subst hz
    simp only [sliceA, bound]
    rw [if_pos (by omega)]
    simp only [Int.toNat_natCast]
    rw [if_pos ⟨hn, Nat.le_refl _, hs⟩, List.take_of_length_le (Nat.le_refl _)]
  simp only [aop, hx, evo, hy, Option.map_some, this]
def putPos (e : Entry) : List Entry → Nat
  | [] => 0
  | a :: r => if lessK a.key e.key a.id e.id then putPos e r + 1 else 0
def putF (e : Entry) (l : List Entry) : List Entry := l.take (putPos e l) ++ e :: l.drop (putPos e l)
theorem encE_two {l : List Entry} : ∀ q ∈ l.map encE, q.length = 2 := fun q hq => by
  obtain ⟨a, _, rfl⟩ := List.mem_map.1 hq
  rfl
theorem old_encE (n : Nat) (e : Entry) : ∀ x ∈ encE e, Old n x := fun x hx => by
  simp only [encE, List.mem_cons, List.not_mem_nil, or_false] at hx
  rcases hx with rfl | rfl
  · refine .fz _ fun i j hi hj => ?_
    exact ((clean_append _ (List.getElem_mem hi)).2 _ (List.getElem_mem hj)).old n
  · exact .int _ _
theorem frz_oldQ {σ : Store} {l : List (Nat × List (List Ce))} {k v N : Nat} {ys junk : List (List Ce)} (hl : l[k]? = some (v, ys ++ junk)) (ho : ∀ e ∈ ys, ∀ x ∈ e, Old N x) (hN : N ≤ σ.next + k) : FrzV (E σ l) N (.c (vec (σ.next + k) v ys junk)) (.c (.fz ys)) := by
  refine .c (.sl _ _ _ _ _ (ys ++ junk) ys hN (by rw [E_at]; exact hl) (by simp) rfl (fun i hi => ?_) (fun i j hi hj => ?_))
  · simp only [Nat.zero_add]
    rw [List.getElem_append_left hi]
  · have e : (ys ++ junk)[0 + i]'(by simp; omega) = ys[i] := by
      simp only [Nat.zero_add]
      rw [List.getElem_append_left hi]
    simp only [e]
    exact .same _ (ho _ (List.getElem_mem _) _ (List.getElem_mem hj))
theorem l11Put_ok (l : List Entry) (e : Entry) (hx : l.length ≤ 1048576) (hk : ∀ q ∈ l, q.key.length ≤ 34359738368) : Pure Tryz.prog 58 [.c (.fz (l.map encE)), .agg (encE e)] (.c (.fz ((putF e l).map encE))) := by
  refine Pure.run mixed c_spec_l11Put_ok (Nat.le_of_ble_eq_true rfl) fun σ hS hA => ?_
  clear hS hA
  repeat' first|refine yaG ?_|(exfalso;omega)|(refine yaS ?_ ?_<;>intro _)
  refine Go.keep [0, 3, 5] (Go.loops (I := fun m fr τ => ∃ (i : Nat) (k : Int), m = l.length - i ∧ i ≤ l.length ∧ k = i ∧ putPos e l = i + putPos e (l.drop i) ∧
    fr = [(0, .c (.fz (l.map encE))), (3, .c (.fp (encE e))), (5, .c (.int .i64 k))] ∧ τ = E σ []) ?_ _ _ _ ⟨0, _, rfl, Nat.zero_le _, rfl, (Nat.zero_add _).symm, rfl, rfl⟩)
  rintro m fr τ ⟨i, k, rfl, hi, hki, hs, rfl, rfl⟩ hrec
  have htl : ∀ q ∈ (l.map encE).take i, q.length = 2 := fun q hq => encE_two q (List.mem_of_mem_take hq)
  have hdl : ∀ q ∈ (l.map encE).drop i, q.length = 2 := fun q hq => encE_two q (List.mem_of_mem_drop hq)
  have hil : i ≤ (l.map encE).length := by rw [List.length_map]; exact hi
  have ht0 : ((l.map encE).take i).length = i := by rw [List.length_take]; omega
  have hd0 : ((l.map encE).drop i).length = l.length - i := by rw [List.length_drop, List.length_map]
  have hfin : putPos e l = i → (l.map encE).take i ++ [encE e] ++ (l.map encE).drop i = (putF e l).map encE := fun h => by
    rw [putF, h]
    simp
  have hold : ∀ q ∈ (putF e l).map encE, ∀ x ∈ q, Old σ.next x := fun q hq x hx => by
    obtain ⟨a, _, rfl⟩ := List.mem_map.1 hq
    exact old_encE _ a x hx
  by_cases hlt : i < l.length
  · rw [List.drop_eq_getElem_cons hlt, putPos] at hs
    have c1 := l11Less_ok l[i] e (hk _ (List.getElem_mem hlt))
    cases hb : lessK l[i].key e.key l[i].id e.id
    · rw [hb] at c1 hs
      rw [if_neg Bool.false_ne_true] at hs
      have hf := hfin (by omega)
      clear hrec hfin
      repeat' first|refine yaG ?_|((first|apply yG|apply yH|apply yI);exact rfl;(first|exact yX (enc := encE) rfl rfl hki hlt rfl|exact aop_cutF rfl rfl hki hil encE_two|exact aop_restF rfl rfl hki hil encE_two))|refine yaC (c1) ?_|(exfalso;omega)|(refine yaS ?_ ?_<;>intro _)
      refine Go.app (k := 0) (v := 0) (ys := []) (junk := []) (zs := (l.map encE).take i) rfl rfl rfl rfl rfl (by simp) Jk.nil htl (by rw [ht0]; simp; omega) fun v1 j1 hj1 => ?_
      repeat' first|refine yaG ?_|(exfalso;omega)|(refine yaS ?_ ?_<;>intro _)
      refine Go.app1 (k := 0) (z := encE e) rfl rfl rfl rfl rfl htl hj1 rfl (by simp only [List.nil_append]; rw [ht0]; omega) fun v2 j2 hj2 => ?_
      repeat' first|refine yaG ?_|((first|apply yG|apply yH|apply yI);exact rfl;(first|exact aop_restF rfl rfl hki hil encE_two))|(exfalso;omega)|(refine yaS ?_ ?_<;>intro _)
      refine Go.app (k := 0) (zs := (l.map encE).drop i) rfl rfl rfl rfl rfl (fun q hq => (List.mem_append.1 hq).elim (htl q) fun h => by rw [List.mem_singleton.1 h]; rfl) hj2 hdl (by simp only [List.nil_append, List.length_append, List.length_singleton]; rw [ht0, hd0]; omega) fun v3 j3 hj3 => ?_
      repeat' first|refine yaG ?_|(exfalso;omega)|(refine yaS ?_ ?_<;>intro _)
      have hf2 : [] ++ (l.map encE).take i ++ [encE e] ++ (l.map encE).drop i = (putF e l).map encE := by rw [← hf]; rfl
      rw [hf2]
      exact .ret rfl ⟨_, rfl, frz_oldQ (k := 0) rfl hold (Nat.le_refl _)⟩
    · rw [hb] at c1 hs
      rw [if_pos rfl] at hs
      repeat' first|refine yaG ?_|((first|apply yG|apply yH|apply yI);exact rfl;(first|exact yX (enc := encE) rfl rfl hki hlt rfl))|refine yaC (c1) ?_|(exfalso;omega)|(refine yaS ?_ ?_<;>intro _)
      exact Go.keep [0, 3, 5] (hrec _ _ _ (by omega) ⟨i + 1, _, rfl, hlt, wrap_succ hki (by omega), by omega, rfl, rfl⟩)
  · rw [List.drop_eq_nil_of_le (by omega), putPos] at hs
    have hf := hfin (by omega)
    clear hrec hfin
    repeat' first|refine yaG ?_|((first|apply yG|apply yH|apply yI);exact rfl;(first|exact aop_cutF rfl rfl hki hil encE_two|exact aop_restF rfl rfl hki hil encE_two))|(exfalso;omega)|(refine yaS ?_ ?_<;>intro _)
    refine Go.app (k := 0) (v := 0) (ys := []) (junk := []) (zs := (l.map encE).take i) rfl rfl rfl rfl rfl (by simp) Jk.nil htl (by rw [ht0]; simp; omega) fun v1 j1 hj1 => ?_
    repeat' first|refine yaG ?_|(exfalso;omega)|(refine yaS ?_ ?_<;>intro _)
    refine Go.app1 (k := 0) (z := encE e) rfl rfl rfl rfl rfl htl hj1 rfl (by simp only [List.nil_append]; rw [ht0]; omega) fun v2 j2 hj2 => ?_
    repeat' first|refine yaG ?_|((first|apply yG|apply yH|apply yI);exact rfl;(first|exact aop_restF rfl rfl hki hil encE_two))|(exfalso;omega)|(refine yaS ?_ ?_<;>intro _)
    refine Go.app (k := 0) (zs := (l.map encE).drop i) rfl rfl rfl rfl rfl (fun q hq => (List.mem_append.1 hq).elim (htl q) fun h => by rw [List.mem_singleton.1 h]; rfl) hj2 hdl (by simp only [List.nil_append, List.length_append, List.length_singleton]; rw [ht0, hd0]; omega) fun v3 j3 hj3 => ?_
    repeat' first|refine yaG ?_|(exfalso;omega)|(refine yaS ?_ ?_<;>intro _)
    have hf2 : [] ++ (l.map encE).take i ++ [encE e] ++ (l.map encE).drop i = (putF e l).map encE := by rw [← hf]; rfl
    rw [hf2]
    exact .ret rfl ⟨_, rfl, frz_oldQ (k := 0) rfl hold (Nat.le_refl _)⟩
end Go.Proofs.YtdgnfdljkghpjaaGreat.Am

/- An index made anew: the reference's. -/
set_option linter.unusedVariables false
set_option linter.unusedSimpArgs false
namespace Go.Proofs.YtdgnfdljkghpjaaGreat.Am

theorem putF_permI (e : Entry) (l : List Entry) : (putF e l).Perm (e :: l) := by
  have h := List.perm_middle (l₁ := l.take (putPos e l)) (a := e) (l₂ := l.drop (putPos e l))
  rw [List.take_append_drop] at h
  exact h
theorem oldEnts {n : Nat} (l : List Entry) : OldL n (l.map encE) := fun e he x hx => by
  obtain ⟨a, _, rfl⟩ := List.mem_map.1 he
  exact old_encE n a x hx
theorem l11Put_mk (l : List Entry) (e : Entry) (hx : l.length ≤ 1048576) (hk : ∀ q ∈ l, q.key.length ≤ 34359738368) (σ : Store) : Ok Tryz.prog 58 [.c (.fz (l.map encE)), .agg (encE e)] σ (Made σ 2 ((putF e l).map encE)) := by
  refine Ok.run mixed c_spec_l11Put_ok (Nat.le_of_ble_eq_true rfl) fun hS hA => ?_
  clear hS hA
  repeat' first|refine yaG ?_|(exfalso;omega)|(refine yaS ?_ ?_<;>intro _)
  refine Go.keep [0, 3, 5] (Go.loops (I := fun m fr τ => ∃ (i : Nat) (k : Int), m = l.length - i ∧ i ≤ l.length ∧ k = i ∧ putPos e l = i + putPos e (l.drop i) ∧
    fr = [(0, .c (.fz (l.map encE))), (3, .c (.fp (encE e))), (5, .c (.int .i64 k))] ∧ τ = E σ []) ?_ _ _ _ ⟨0, _, rfl, Nat.zero_le _, rfl, (Nat.zero_add _).symm, rfl, rfl⟩)
  rintro m fr τ ⟨i, k, rfl, hi, hki, hs, rfl, rfl⟩ hrec
  have htl : ∀ q ∈ (l.map encE).take i, q.length = 2 := fun q hq => encE_two q (List.mem_of_mem_take hq)
  have hdl : ∀ q ∈ (l.map encE).drop i, q.length = 2 := fun q hq => encE_two q (List.mem_of_mem_drop hq)
  have hil : i ≤ (l.map encE).length := by rw [List.length_map]; exact hi
  have ht0 : ((l.map encE).take i).length = i := by rw [List.length_take]; omega
  have hd0 : ((l.map encE).drop i).length = l.length - i := by rw [List.length_drop, List.length_map]
  have hfin : putPos e l = i → (l.map encE).take i ++ [encE e] ++ (l.map encE).drop i = (putF e l).map encE := fun h => by
    rw [putF, h]
    simp
  by_cases hlt : i < l.length
  · rw [List.drop_eq_getElem_cons hlt, putPos] at hs
    have c1 := l11Less_ok l[i] e (hk _ (List.getElem_mem hlt))
    cases hb : lessK l[i].key e.key l[i].id e.id
    · rw [hb] at c1 hs
      rw [if_neg Bool.false_ne_true] at hs
      have hf := hfin (by omega)
      clear hrec hfin
      repeat' first|refine yaG ?_|((first|apply yG|apply yH|apply yI);exact rfl;(first|exact yX (enc := encE) rfl rfl hki hlt rfl|exact aop_cutF rfl rfl hki hil encE_two|exact aop_restF rfl rfl hki hil encE_two))|refine yaC (c1) ?_|(exfalso;omega)|(refine yaS ?_ ?_<;>intro _)
      refine Go.app (k := 0) (v := 0) (ys := []) (junk := []) (zs := (l.map encE).take i) rfl rfl rfl rfl rfl (by simp) Jk.nil htl (by rw [ht0]; simp; omega) fun v1 j1 hj1 => ?_
      repeat' first|refine yaG ?_|(exfalso;omega)|(refine yaS ?_ ?_<;>intro _)
      refine Go.app1 (k := 0) (z := encE e) rfl rfl rfl rfl rfl htl hj1 rfl (by simp only [List.nil_append]; rw [ht0]; omega) fun v2 j2 hj2 => ?_
      repeat' first|refine yaG ?_|((first|apply yG|apply yH|apply yI);exact rfl;(first|exact aop_restF rfl rfl hki hil encE_two))|(exfalso;omega)|(refine yaS ?_ ?_<;>intro _)
      refine Go.app (k := 0) (zs := (l.map encE).drop i) rfl rfl rfl rfl rfl (fun q hq => (List.mem_append.1 hq).elim (htl q) fun h => by rw [List.mem_singleton.1 h]; rfl) hj2 hdl (by simp only [List.nil_append, List.length_append, List.length_singleton]; rw [ht0, hd0]; omega) fun v3 j3 hj3 => ?_
      repeat' first|refine yaG ?_|(exfalso;omega)|(refine yaS ?_ ?_<;>intro _)
      have hf2 : [] ++ (l.map encE).take i ++ [encE e] ++ (l.map encE).drop i = (putF e l).map encE := by rw [← hf]; rfl
      rw [hf2]
      exact .ret rfl ⟨v3, j3, hj3, rfl, rfl⟩
    · rw [hb] at c1 hs
      rw [if_pos rfl] at hs
      repeat' first|refine yaG ?_|((first|apply yG|apply yH|apply yI);exact rfl;(first|exact yX (enc := encE) rfl rfl hki hlt rfl))|refine yaC (c1) ?_|(exfalso;omega)|(refine yaS ?_ ?_<;>intro _)
      exact Go.keep [0, 3, 5] (hrec _ _ _ (by omega) ⟨i + 1, _, rfl, hlt, wrap_succ hki (by omega), by omega, rfl, rfl⟩)
  · rw [List.drop_eq_nil_of_le (by omega), putPos] at hs
    have hf := hfin (by omega)
    clear hrec hfin
    repeat' first|refine yaG ?_|((first|apply yG|apply yH|apply yI);exact rfl;(first|exact aop_cutF rfl rfl hki hil encE_two|exact aop_restF rfl rfl hki hil encE_two))|(exfalso;omega)|(refine yaS ?_ ?_<;>intro _)
    refine Go.app (k := 0) (v := 0) (ys := []) (junk := []) (zs := (l.map encE).take i) rfl rfl rfl rfl rfl (by simp) Jk.nil htl (by rw [ht0]; simp; omega) fun v1 j1 hj1 => ?_
    repeat' first|refine yaG ?_|(exfalso;omega)|(refine yaS ?_ ?_<;>intro _)
    refine Go.app1 (k := 0) (z := encE e) rfl rfl rfl rfl rfl htl hj1 rfl (by simp only [List.nil_append]; rw [ht0]; omega) fun v2 j2 hj2 => ?_
    repeat' first|refine yaG ?_|((first|apply yG|apply yH|apply yI);exact rfl;(first|exact aop_restF rfl rfl hki hil encE_two))|(exfalso;omega)|(refine yaS ?_ ?_<;>intro _)
    refine Go.app (k := 0) (zs := (l.map encE).drop i) rfl rfl rfl rfl rfl (fun q hq => (List.mem_append.1 hq).elim (htl q) fun h => by rw [List.mem_singleton.1 h]; rfl) hj2 hdl (by simp only [List.nil_append, List.length_append, List.length_singleton]; rw [ht0, hd0]; omega) fun v3 j3 hj3 => ?_
    repeat' first|refine yaG ?_|(exfalso;omega)|(refine yaS ?_ ?_<;>intro _)
    have hf2 : [] ++ (l.map encE).take i ++ [encE e] ++ (l.map encE).drop i = (putF e l).map encE := by rw [← hf]; rfl
    rw [hf2]
    exact .ret rfl ⟨v3, j3, hj3, rfl, rfl⟩
def ofAux (cols : List Int) : List RowD → List Entry → List Entry
  | [], acc => acc
  | r :: l, acc => ofAux cols l (putF ⟨keyF cols r.vals, r.id⟩ acc)
theorem ofAux_at (cols : List Int) : ∀ (l : List RowD) (acc : List Entry), (ofAux cols l acc).length = acc.length + l.length ∧ ((∀ e ∈ acc, e.key.length = cols.length) → ∀ e ∈ ofAux cols l acc, e.key.length = cols.length)
  | [], acc => ⟨rfl, fun h => h⟩
  | r :: l, acc => by
    obtain ⟨h1, h2⟩ := ofAux_at cols l (putF ⟨keyF cols r.vals, r.id⟩ acc)
    have hp := putF_permI ⟨keyF cols r.vals, r.id⟩ acc
    rw [ofAux]
    refine ⟨by rw [h1, hp.length_eq, List.length_cons, List.length_cons]; omega, fun h => h2 fun e he => ?_⟩
    rcases List.mem_cons.1 (hp.mem_iff.1 he) with rfl | he
    · exact keyF_len _ _
    · exact h e he
theorem l11Of_mk (d : Data) (cols : List Int) (hx : d.rows.length ≤ 1048576) (hc : cols.length ≤ 34359738368) (hi : ∀ r ∈ d.rows, InR cols r.vals.length) (σ : Store) : Ok Tryz.prog 85 [.agg (encData d), .c (.fz (cols.map encI))] σ (Made σ 2 ((ofAux cols d.rows []).map encE)) := by
  refine Ok.run mixed c_spec_l11Of_ok (Nat.le_of_ble_eq_true rfl) fun hS hA => ?_
  clear hA
  have old_cols : ∀ y ∈ (AV.c (.fz (cols.map encI))).all, Old σ.next y := fun y hy => by
    rw [List.mem_singleton.1 hy]; exact old_fz1 (oldInts _)
  have old_d : ∀ y ∈ (AV.c (.fp (encData d))).all, Old σ.next y := fun y hy => by
    rw [List.mem_singleton.1 hy]
    exact .fp _ fun j hj => oldDatas [d] _ (List.mem_singleton.2 rfl) _ (List.getElem_mem hj)
  repeat' first|refine yaG ?_|(exfalso;omega)|(refine yaS ?_ ?_<;>intro _)
  refine Go.keep [1, 2, 5, 6] (Go.loops (I := fun m fr τ => ∃ (i : Nat) (k : Int) (acc : List Entry) (v : Nat) (junk : List (List Ce)), m = d.rows.length - i ∧ i ≤ d.rows.length ∧ k = i ∧ Jk 2 junk ∧ (acc.length = i ∧ (∀ e ∈ acc, e.key.length = cols.length) ∧ ofAux cols d.rows [] = ofAux cols (d.rows.drop i) acc) ∧
    fr = [(1, .c (.fz (cols.map encI))), (2, .c (.fp (encData d))), (5, .c (vec (σ.next + 0) v (acc.map encE) junk)), (6, .c (.int .i64 k))] ∧ τ = E σ [(v, acc.map encE ++ junk)]) ?_ _ _ _ ⟨0, _, [], 0, [], rfl, Nat.zero_le _, rfl, Jk.nil, ⟨rfl, fun e he => (by cases he), rfl⟩, rfl, rfl⟩)
  rintro m fr τ ⟨i, k, acc, v, junk, rfl, hil, hk, hj, ⟨hal, hak, hs⟩, rfl, rfl⟩ hrec
  by_cases hlt : i < d.rows.length
  · have c4 := l4Key_ok cols d.rows[i].vals hc (hi _ (List.getElem_mem hlt))
    rw [List.drop_eq_getElem_cons hlt, ofAux] at hs
    have hp := putF_permI ⟨keyF cols d.rows[i].vals, d.rows[i].id⟩ acc
    have cp := l11Put_mk acc ⟨keyF cols d.rows[i].vals, d.rows[i].id⟩ (by omega) (fun q hq => by rw [hak q hq]; exact hc) (E σ [])
    refine Go.freezeN (l := []) (m := [(v, acc.map encE ++ junk)]) (fr' := [(1, .c (.fz (cols.map encI))), (2, .c (.fp (encData d))), (5, .c (.fz (acc.map encE))), (6, .c (.int .i64 k))]) hS (fun b hb => by cases hb) (Nat.le_refl _)
      (.frz rfl (.refl old_cols) (.frz rfl (.refl old_d) (.frz rfl (frz_old (k := 0) rfl (oldEnts _) (Nat.le_refl _)) (.frz rfl (.refl old_c) .nil)))) ?_
    repeat' first|refine yaG ?_|((first|apply yG|apply yH|apply yI);exact rfl;(first|exact yX (enc := encRowD) rfl rfl hk hlt rfl))|refine yaC (c4) ?_|(exfalso;omega)|(refine yaS ?_ ?_<;>intro _)
    refine .call _ rfl rfl rfl cp ?_
    rintro r τ ⟨v2, j2, hj2, rfl, rfl⟩
    rw [E_E, List.nil_append]
    repeat' first|refine yaG ?_|(exfalso;omega)|(refine yaS ?_ ?_<;>intro _)
    refine Go.keep [1, 2, 5, 6] (hrec _ _ _ (by omega) ⟨i + 1, _, _, v2, j2, rfl, hlt, wrap_succ hk (by omega), hj2, ⟨by rw [hp.length_eq, List.length_cons, hal], fun e he => ?_, hs⟩, rfl, rfl⟩)
    rcases List.mem_cons.1 (hp.mem_iff.1 he) with rfl | he
    · exact keyF_len _ _
    · exact hak e he
  · rw [List.drop_eq_nil_of_le (by omega), ofAux] at hs
    repeat' first|refine yaG ?_|(exfalso;omega)|(refine yaS ?_ ?_<;>intro _)
    rw [hs]
    exact .ret rfl ⟨v, junk, hj, rfl, rfl⟩
/-- An index, or none. -/
def IdxR (σ : Store) (k : Nat) (r : AV) (τ : Store) : Prop := (r = .tup [.c .nils, .c (.bool false)] ∧ τ = E σ []) ∨ ∃ (es : List Entry) (v : Nat) (junk : List (List Ce)), Jk 2 junk ∧ es.length ≤ 60 ∧ (∀ e ∈ es, e.key.length = k) ∧ r = .tup [.c (vec (σ.next + 0) v (es.map encE) junk), .c (.bool true)] ∧ τ = E σ [(v, es.map encE ++ junk)]
theorem sIndexOf_own (s : List Table) (db : List Data) (n : Int) (cols : List Int) (hx : s.length ≤ 34359738368) (hb : ∀ t ∈ s, bTable 34359738368 t) (hd : db.length ≤ 34359738368) (hdb : ∀ d ∈ db, bData 34359738368 d) (hc : cols.length ≤ 34359738368) (σ : Store) :
    Ok Tryz.prog 31 [.c (.fz (s.map encTable)), .c (.fz (db.map encData)), .c (.int .i64 n), .c (.fz (cols.map encI))] σ (IdxR σ cols.length) := by
  refine Ok.run mixed c_spec_IndexOf_ok (Nat.le_of_ble_eq_true rfl) fun hS hA => ?_
  clear hS hA
  have c1 := l6Ok_ok s db n hx hb hd hdb
  cases h1 : (dbF s db && isIn n 0 (s.length - 1))
  · rw [h1] at c1
    repeat' first|refine yaG ?_|refine yaC (c1) ?_|(exfalso;omega)|(refine yaS ?_ ?_<;>intro _)
    exact .ret rfl (.inl ⟨rfl, rfl⟩)
  rw [h1] at c1
  rw [Bool.and_eq_true] at h1
  obtain ⟨h1, h2⟩ := h1
  obtain ⟨hs, hl, hrows⟩ := dbF_at h1
  obtain ⟨h3, h4⟩ := isIn_at h2
  have hn : n = (n.toNat : Int) := by omega
  have hlt : n.toNat < s.length := by omega
  have hlt2 : n.toNat < db.length := by omega
  have hcl := schemaF_cols hs _ (List.getElem_mem hlt)
  obtain ⟨hr1, hr2⟩ := rowsF_mem (hrows _ hlt hlt2)
  have c3 := l3Cols_ok cols s[n.toNat].cols.length hc (by omega) (by omega)
  cases h5 : colsF cols s[n.toNat].cols.length
  · rw [h5] at c3
    repeat' first|refine yaG ?_|((first|apply yG|apply yH|apply yI);exact rfl;(first|exact yX (enc := encTable) rfl rfl hn hlt rfl))|refine yaC (c1) ?_|refine yaC (c3) ?_|(exfalso;omega)|(refine yaS ?_ ?_<;>intro _)
    exact .ret rfl (.inl ⟨rfl, rfl⟩)
  rw [h5] at c3
  have cof := l11Of_mk db[n.toNat] cols (by omega) hc (fun r hr => by rw [(fitF_vals (hr2 r hr).1).1]; exact fun c hc => colsF_in h5 c hc) (E σ [])
  obtain ⟨k1, k2⟩ := ofAux_at cols db[n.toNat].rows []
  repeat' first|refine yaG ?_|((first|apply yG|apply yH|apply yI);exact rfl;(first|exact yX (enc := encTable) rfl rfl hn hlt rfl|exact yX (enc := encData) rfl rfl hn hlt2 rfl))|refine yaC (c1) ?_|refine yaC (c3) ?_|(exfalso;omega)|(refine yaS ?_ ?_<;>intro _)
  refine .call _ rfl rfl rfl cof ?_
  rintro r τ ⟨v, junk, hj, rfl, rfl⟩
  rw [E_E, List.nil_append]
  repeat' first|refine yaG ?_|(exfalso;omega)|(refine yaS ?_ ?_<;>intro _)
  exact .ret rfl (.inr ⟨_, v, junk, hj, by rw [k1]; simp; omega, k2 fun e he => (by cases he), rfl, rfl⟩)
end Go.Proofs.YtdgnfdljkghpjaaGreat.Am

/- A slice that begins as nil; terms. -/
set_option linter.unusedVariables false
set_option linter.unusedSimpArgs false
namespace Go.Proofs.YtdgnfdljkghpjaaGreat.Am

end Go.Proofs.YtdgnfdljkghpjaaGreat.Am

/- Drawn arguments: results that are parts of memory; copies that are frozen. -/
set_option linter.unusedVariables false
set_option linter.unusedSimpArgs false
namespace Go.Proofs.YtdgnfdljkghpjaaGreat.Am

theorem rd_close2 {σ : Store} {code : List UInt8} {q : Nat} {l : List (Nat × List (List Ce))} : E (Rd.go (E σ [(0, rdB code 0)]) (σ.next + 0) 0 code q) l = E σ ((0, rdB code q) :: l) := by
  have : Rd.go (E σ [(0, rdB code 0)]) (σ.next + 0) 0 code q = E σ [(0, rdB code q)] := E_put (by simp)
  rw [this, E_E]
  rfl
end Go.Proofs.YtdgnfdljkghpjaaGreat.Am

/- The reader that draws: entries; drawn arguments of Range. -/
set_option linter.unusedVariables false
set_option linter.unusedSimpArgs false
namespace Go.Proofs.YtdgnfdljkghpjaaGreat.Am

/-- Drawn entries: each has one value as its key. -/
def Ents (r : AV) : Prop := ∃ l : List Entry, l.length ≤ 60 ∧ (∀ e ∈ l, e.key.length = 1) ∧ r = .c (.fz (l.map encE))
theorem draw_dbI {s : List Table} {db : List Data} (h : dbF s db = true ∨ db = []) : db.length ≤ 34359738368 ∧ ∀ d ∈ db, bData 34359738368 d := by
  rcases h with h | rfl
  · exact ⟨by have := (dbF_b h).1; omega, (dbF_b h).2.1⟩
  · exact ⟨by simp, fun d hd => by cases hd⟩
theorem entries_ok : Draws Tryz.prog 47 [] Ents := by
  refine Draws.run mixed c_spec_l1Rd_entries_ok (Nat.le_of_ble_eq_true rfl) fun σ id v code p hr hp hc hS => ?_
  clear hS
  repeat' first|refine yaG ?_|(exfalso;omega)|(refine yaS ?_ ?_<;>intro _)
  refine Go.drawn hr hp rfl rfl rfl schema_ok ?_
  rintro _ q hq ⟨s, hs, rfl⟩
  repeat' first|refine yaG ?_|(exfalso;omega)|(refine yaS ?_ ?_<;>intro _)
  refine Go.drawn hr hq rfl rfl rfl (base_ok s 6 (by decide) (by decide) hs) ?_
  rintro _ q2 hq2 ⟨db, hd, rfl⟩
  repeat' first|refine yaG ?_|(exfalso;omega)|(refine yaS ?_ ?_<;>intro _)
  refine Go.drawn hr hq2 rfl rfl rfl (below_ok 3 (by decide) (by decide)) ?_
  rintro _ q3 hq3 ⟨a, _, _, rfl⟩
  obtain ⟨hx, hb⟩ := hs.b
  obtain ⟨hdl, hdb⟩ := draw_dbI hd
  have ci := sIndexOf_own s db 0 [a] hx hb hdl hdb (by simp) (E (Rd.go σ id v code q3) [])
  repeat' first|refine yaG ?_|(exfalso;omega)|(refine yaS ?_ ?_<;>intro _)
  refine .call _ rfl rfl rfl ci ?_
  rintro r τ (⟨rfl, rfl⟩ | ⟨es, u, junk, hj, hel, hek, rfl, rfl⟩)
  · rw [E_E, List.nil_append]
    repeat' first|refine yaG ?_|(exfalso;omega)|(refine yaS ?_ ?_<;>intro _)
    refine Go.drawn hr hq3 rfl rfl rfl (once_ok 30 (by decide) (by decide)) ?_
    rintro _ q4 hq4 ⟨b3, rfl⟩
    cases b3
    · repeat' first|refine yaG ?_|(exfalso;omega)|(refine yaS ?_ ?_<;>intro _)
      exact .ret rfl (.f hq4 ⟨[], by simp, fun e he => (by cases he), rfl⟩ (.c .nil))
    · repeat' first|refine yaG ?_|(exfalso;omega)|(refine yaS ?_ ?_<;>intro _)
      exact .ret rfl (.f hq4 ⟨[], by simp, fun e he => (by cases he), rfl⟩ (.c .nil))
  · rw [E_E, List.nil_append]
    repeat' first|refine yaG ?_|(exfalso;omega)|(refine yaS ?_ ?_<;>intro _)
    refine Go.drawn hr hq3 rfl rfl rfl (once_ok 30 (by decide) (by decide)) ?_
    rintro _ q4 hq4 ⟨b3, rfl⟩
    have fin : ∀ (es : List Entry) (q : Nat) (l : List (Nat × List (List Ce))), q ≤ code.length → es.length ≤ 60 → (∀ e ∈ es, e.key.length = 1) → FinR σ id v code Ents (.c (vec (σ.next + 0) u (es.map encE) junk)) (E (Rd.go σ id v code q) ((u, es.map encE ++ junk) :: l)) := fun es q l hq h1 h2 =>
      .f hq ⟨es, h1, h2, rfl⟩ (frz_old (σ := Rd.go σ id v code q) (k := 0) rfl (oldEnts _) (Nat.le_refl _))
    cases b3
    · repeat' first|refine yaG ?_|(exfalso;omega)|(refine yaS ?_ ?_<;>intro _)
      exact .ret rfl (fin es q4 _ hq4 hel hek)
    · cases es with
      | nil =>
        repeat' first|refine yaG ?_|(exfalso;omega)|(refine yaS ?_ ?_<;>intro _)
        exact .ret rfl (fin [] q4 _ hq4 (by simp) fun e he => (by cases he))
      | cons e0 es =>
        have hz0 : (0 : Int) = ((0 : Nat) : Int) := rfl
        have h0 : 0 < ((e0 :: es).map encE).length := by simp
        have hg : ∀ q : Nat, (E (Rd.go σ id v code q) [(u, (e0 :: es).map encE ++ junk)]).get (σ.next + 0) = some (u, (e0 :: es).map encE ++ junk) := fun q => E_get (σ := Rd.go σ id v code q) (k := 0) rfl
        have hev : ((e0 :: es).map encE ++ junk)[0 + 0]? = some (encE e0) := rfl
        repeat' first|refine yaG ?_|(exfalso;omega)|(refine yaS ?_ ?_<;>intro _)
        refine Go.drawn hr hq4 rfl rfl rfl (off_ok 1 9 (by decide) (by decide) (by decide) (by decide)) ?_
        rintro _ q5 hq5 ⟨n, rfl⟩
        repeat' first|refine yaG ?_|((first|apply yG|apply yH|apply yI);exact rfl;(first|exact aop_iaddrO rfl rfl hz0 h0 (hg _) hev rfl|exact aop_store (k := 0) rfl rfl rfl rfl hev rfl (Nat.le_of_ble_eq_true rfl)))|(exfalso;omega)|(refine yaS ?_ ?_<;>intro _)
        refine .ret rfl (fin (⟨e0.key, n⟩ :: es) q5 _ hq5 hel fun x hx => ?_)
        rcases List.mem_cons.1 hx with rfl | hx
        · exact hek e0 (by simp)
        · exact hek x (List.mem_cons_of_mem _ hx)
end Go.Proofs.YtdgnfdljkghpjaaGreat.Am

/- What the laws' functions share. -/
set_option linter.unusedVariables false
set_option linter.unusedSimpArgs false
namespace Go.Proofs.YtdgnfdljkghpjaaGreat.Am

theorem big_ok (code : List UInt8) : Pure Tryz.prog 8 [.c (.fz (code.map encB))] (.c (.bool (decide (1048576 < (code.length : Int))))) := by
  refine Pure.run mixed c_laws_big_ok (Nat.le_of_ble_eq_true rfl) fun σ hS hA => ?_
  clear hS hA
  repeat' first|refine yaG ?_|(exfalso;omega)|(refine yaS ?_ ?_<;>intro _)
  exact .ret rfl (.bool rfl)
end Go.Proofs.YtdgnfdljkghpjaaGreat.Am

/- Sorting in place, once for all element types: swaps, rotations. -/
set_option linter.unusedVariables false
set_option linter.unusedSimpArgs false
namespace Go.Proofs.YtdgnfdljkghpjaaGreat.Am

/-- The store whose block id holds a list's elements. -/
structure Fam (α : Type) where
  σ : Store
  id : Nat
  v : Nat
  ce : α → List Ce
  junk : List (List Ce)
  two : ∀ x, (ce x).length = 2
def Fam.S {α : Type} (F : Fam α) (l : List α) : Store := F.σ.put F.id (F.v, l.map F.ce ++ F.junk)
section
variable {α : Type} {F : Fam α}
theorem Fam.get (l : List α) : (F.S l).get F.id = some (F.v, l.map F.ce ++ F.junk) := if_pos rfl
theorem Fam.put (l l' : List α) : (F.S l).put F.id (F.v, l'.map F.ce ++ F.junk) = F.S l' := by
  simp only [Fam.S, Store.put]
  congr 1
  funext a
  split <;> rfl
theorem aop_si {fr : Fr} {l : List α} {x y : Opd} {kd : IntKind} {z : Int} {m c i : Nat} (hx : x.ev fr = some (.c (.sl F.id F.v 0 m c))) (hy : y.ev fr = some (.c (.int kd z))) (hz : z = (i : Int)) (hm : m = l.length) (hi : i < l.length) :
    aop (.iaddr 2 x y) fr (F.S l) = some (.c (.ptr F.id F.v i 0), F.S l) := by
  have := aop_iaddrO (s := 2) hx hy hz (by omega) (F.get l) (e := F.ce l[i]) (by rw [Nat.zero_add, List.getElem?_append_left (by simpa using hi)]; simp [hi]) (F.two _)
  rw [Nat.zero_add] at this
  exact this
theorem aop_sl {fr : Fr} {l : List α} {a : Opd} {i : Nat} (ha : a.ev fr = some (.c (.ptr F.id F.v i 0))) (hi : i < l.length) : aop (.load true 2 a) fr (F.S l) = some (.agg (F.ce l[i]), F.S l) := by
  have he : (l.map F.ce ++ F.junk)[i]? = some (F.ce l[i]) := by rw [List.getElem?_append_left (by simpa using hi)]; simp [hi]
  have h2 := F.two l[i]
  simp only [aop, ha, Store.at_, F.get l, he, if_true, Option.bind_some, Nat.zero_le, List.drop_zero, takeA, h2, Nat.le_refl]
  have : (F.ce l[i]).take 2 = F.ce l[i] := List.take_of_length_le (by omega)
  rw [this]
  rfl
theorem aop_ss {fr : Fr} {l : List α} {a y : Opd} {i : Nat} {x : α} (ha : a.ev fr = some (.c (.ptr F.id F.v i 0))) (hy : y.ev fr = some (.agg (F.ce x))) (hi : i < l.length) : aop (.store 2 a y) fr (F.S l) = some (.un, F.S (l.set i x)) := by
  have he : (l.map F.ce ++ F.junk)[i]? = some (F.ce l[i]) := by rw [List.getElem?_append_left (by simpa using hi)]; simp [hi]
  have h2 := F.two l[i]
  have h3 := F.two x
  have hs : (l.map F.ce ++ F.junk).set i (splice (F.ce l[i]) 0 (F.ce x)) = (l.set i x).map F.ce ++ F.junk := by
    have : splice (F.ce l[i]) 0 (F.ce x) = F.ce x := by
      rw [splice, List.take_zero, List.nil_append, List.drop_eq_nil_of_le (by omega), List.append_nil]
    rw [this, List.set_append_left _ _ (by simpa using hi), List.map_set]
  have h4 : ∀ q : Store × AV, True := fun _ => trivial
  simp only [aop, ha, hy, AV.cells, Option.bind_some, F.get l, he, if_true, h2, h3, Nat.zero_add, Nat.le_refl, and_self, hs]
  rw [F.put]
end
def sw {α : Type} (l : List α) (i j : Nat) : List α := match l[i]?, l[j]? with
  | some x, some y => (l.set i y).set j x
  | _, _ => l
theorem sw_eq {α : Type} {l : List α} {i j : Nat} (hi : i < l.length) (hj : j < l.length) : sw l i j = (l.set i l[j]).set j l[i] := by
  rw [sw, List.getElem?_eq_getElem hi, List.getElem?_eq_getElem hj]
theorem sw_len {α : Type} {l : List α} {i j : Nat} : (sw l i j).length = l.length := by
  rw [sw]
  split <;> simp
/-- swapRange -/
def swR {α : Type} (a b : Nat) : Nat → Nat → List α → List α
  | 0, _, l => l
  | n + 1, i, l => swR a b n (i + 1) (sw l (a + i) (b + i))
theorem swR_len {α : Type} {a b : Nat} : ∀ {n i : Nat} {l : List α}, (swR a b n i l).length = l.length
  | 0, _, l => rfl
  | n + 1, i, l => by rw [swR, swR_len, sw_len]
theorem swapRange_ok {P : Program} (hm : P.follows .mixedOrders = true) {fz : List Nat} {n : Nat} (hc : compFn P fz n = some c_slices_swapRangeCmpFunc_Entry) {α : Type} (F : Fam α) (l : List α) (a b k c : Nat) (za zb zk : Int) (ha : za = a) (hb : zb = b) (hk : zk = k) (f : Ce) (h1 : a + k ≤ l.length) (h2 : b + k ≤ l.length) (hx : l.length ≤ 34359738368) :
    Ok P n [.c (.sl F.id F.v 0 l.length c), .c (.int .i64 za), .c (.int .i64 zb), .c (.int .i64 zk), .c f] (F.S l) (fun r τ => r = .tup [] ∧ τ = F.S (swR a b k 0 l)) := by
  refine .of_go hm hc (Nat.le_of_ble_eq_true rfl) ?_
  repeat' first|refine yaG ?_|(exfalso;omega)|(refine yaS ?_ ?_<;>intro _)
  refine Go.keep [0, 1, 2, 3, 10] (Go.loops (I := fun m fr τ => ∃ (i : Nat) (z : Int) (q : List α), m = k - i ∧ i ≤ k ∧ z = i ∧ q.length = l.length ∧ swR a b k 0 l = swR a b (k - i) i q ∧
    fr = [(0, .c (.sl F.id F.v 0 l.length c)), (1, .c (.int .i64 za)), (2, .c (.int .i64 zb)), (3, .c (.int .i64 zk)), (10, .c (.int .i64 z))] ∧ τ = F.S q) ?_ _ _ _ ⟨0, _, l, rfl, Nat.zero_le _, rfl, rfl, rfl, rfl, rfl⟩)
  rintro m fr τ ⟨i, z, q, rfl, hi, hz, hql, hsw, rfl, rfl⟩ hrec
  by_cases hlt : i < k
  · have ei : IntKind.i64.wrap (za + z) = ((a + i : Nat) : Int) := by rw [wrap64 (by omega) (by omega)]; omega
    have ej : IntKind.i64.wrap (zb + z) = ((b + i : Nat) : Int) := by rw [wrap64 (by omega) (by omega)]; omega
    have hi1 : a + i < q.length := by omega
    have hj1 : b + i < q.length := by omega
    rw [show k - i = (k - (i + 1)) + 1 by omega, swR, sw_eq hi1 hj1] at hsw
    repeat' first|(apply yA;exact rfl)|apply yC|((first|apply yD|apply yE);(first|exact yF|assumption);iterate 6 exact rfl)|((first|apply yG|apply yH|apply yI);exact rfl;(first|exact yJ|exact yK rfl rfl|exact yL rfl|exact yM rfl|exact rfl|exact aL rfl rfl rfl rfl rfl|exact aS rfl rfl rfl rfl rfl rfl rfl))|((first|apply yN|apply yO|apply yP);exact rfl)|(exfalso;omega)|(((first|apply yT|apply yU|apply yV|apply yW);exact rfl;(first|exact .d|exact .e|exact .n|((fail_if_success exact bqt);(fail_if_success exact bqf);exact .b)))<;>intro _)
    refine Go.qw (fun F' τ => Go P (F.S l).next _ _ _ (.segs _ :: _) F' τ) ?_ fun _ _ h => h
    repeat' first|(apply Qw.op;exact rfl;exact fun _ => rfl)|(apply Qw.rd;exact rfl;exact rfl;first|exact aop_si rfl rfl ei hql.symm hi1|exact aop_si rfl rfl ej hql.symm hj1|exact aop_sl rfl hi1|exact aop_sl rfl hj1)|(apply Qw.wr;exact rfl;exact rfl;exact aop_ss rfl rfl hi1)|apply Qw.nil
    repeat' first|refine yaG ?_|((first|apply yG|apply yH|apply yI);exact rfl;(first|exact aop_si rfl rfl ej (by rw [List.length_set];exact hql.symm) (by rw [List.length_set];exact hj1)|exact aop_ss rfl rfl (by rw [List.length_set];exact hj1)))|(exfalso;omega)|(refine yaS ?_ ?_<;>intro _)
    refine Go.keep [0, 1, 2, 3, 10] (hrec _ _ _ (by omega) ⟨i + 1, _, _, rfl, hlt, wrap_succ hz (by omega), ?_, hsw, rfl, rfl⟩)
    simp [hql]
  · repeat' first|refine yaG ?_|(exfalso;omega)|(refine yaS ?_ ?_<;>intro _)
    rw [show k - i = 0 by omega, swR] at hsw
    exact .fin rfl ⟨rfl, by rw [hsw]⟩
end Go.Proofs.YtdgnfdljkghpjaaGreat.Am

/- Sorting in place: rotations, insertion. -/
set_option linter.unusedVariables false
set_option linter.unusedSimpArgs false
namespace Go.Proofs.YtdgnfdljkghpjaaGreat.Am

theorem sw_mem {α : Type} {l : List α} {i j : Nat} {x : α} (h : x ∈ sw l i j) : x ∈ l := by
  rw [sw] at h
  split at h
  · rename_i a b ha hb
    rcases List.mem_or_eq_of_mem_set h with h | rfl
    · rcases List.mem_or_eq_of_mem_set h with h | rfl
      · exact h
      · exact List.mem_of_getElem? hb
    · exact List.mem_of_getElem? ha
  · exact h
theorem swR_mem {α : Type} {a b : Nat} {x : α} : ∀ {n i : Nat} {l : List α}, x ∈ swR a b n i l → x ∈ l
  | 0, _, l, h => h
  | n + 1, i, l, h => sw_mem (swR_mem (by rwa [swR] at h))
def rot {α : Type} (m : Nat) : Nat → Nat → Nat → List α → List α
  | 0, _, _, l => l
  | n + 1, i, j, l => if i = j then swR (m - i) m i 0 l else if j < i then rot m n (i - j) j (swR (m - i) m j 0 l) else rot m n i (j - i) (swR (m - i) (m + j - i) i 0 l)
theorem rot_len {α : Type} {m : Nat} : ∀ {n i j : Nat} {l : List α}, (rot m n i j l).length = l.length
  | 0, _, _, l => rfl
  | n + 1, i, j, l => by
    rw [rot]
    split
    · exact swR_len
    · split
      · rw [rot_len, swR_len]
      · rw [rot_len, swR_len]
theorem rot_mem {α : Type} {m : Nat} {x : α} : ∀ {n i j : Nat} {l : List α}, x ∈ rot m n i j l → x ∈ l
  | 0, _, _, l, h => h
  | n + 1, i, j, l, h => by
    rw [rot] at h
    split at h
    · exact swR_mem h
    · split at h
      · exact swR_mem (rot_mem h)
      · exact swR_mem (rot_mem h)
def rotF {α : Type} (a m b : Nat) (l : List α) : List α := rot m (b - a) (m - a) (b - m) l
theorem rotate_ok {P : Program} (hm : P.follows .mixedOrders = true) {fz fz' : List Nat} {n : Nat} (hc : compFn P fz n = some c_slices_rotateCmpFunc_Entry) (hc' : compFn P fz' 234 = some c_slices_swapRangeCmpFunc_Entry) {α : Type} (F : Fam α) (l : List α) (a m b c : Nat) (za zm zb : Int) (ha : za = a) (hzm : zm = m) (hb : zb = b) (f : Ce) (h1 : a < m) (h2 : m < b) (h3 : b ≤ l.length) (hx : l.length ≤ 34359738368) :
    Ok P n [.c (.sl F.id F.v 0 l.length c), .c (.int .i64 za), .c (.int .i64 zm), .c (.int .i64 zb), .c f] (F.S l) (fun r τ => r = .tup [] ∧ τ = F.S (rotF a m b l)) := by
  refine .of_go hm hc (Nat.le_of_ble_eq_true rfl) ?_
  rw [rotF]
  have e1 : IntKind.i64.wrap (zm - za) = ((m - a : Nat) : Int) := by rw [wrap64 (by omega) (by omega)]; omega
  have e2 : IntKind.i64.wrap (zb - zm) = ((b - m : Nat) : Int) := by rw [wrap64 (by omega) (by omega)]; omega
  repeat' first|refine yaG ?_|(exfalso;omega)|(refine yaS ?_ ?_<;>intro _)
  refine Go.keep [0, 2, 4, 10, 11] (Go.loops (I := fun mm fr τ => ∃ (i j : Nat) (zi zj : Int) (q : List α), mm = i + j ∧ 1 ≤ i ∧ 1 ≤ j ∧ i ≤ m - a ∧ j ≤ b - m ∧ zi = i ∧ zj = j ∧ q.length = l.length ∧ (∃ k, i + j ≤ k ∧ rot m (b - a) (m - a) (b - m) l = rot m k i j q) ∧
    fr = [(0, .c (.sl F.id F.v 0 l.length c)), (2, .c (.int .i64 zm)), (4, .c f), (10, .c (.int .i64 zi)), (11, .c (.int .i64 zj))] ∧ τ = F.S q) ?_ _ _ _ ⟨m - a, b - m, _, _, l, rfl, by omega, by omega, Nat.le_refl _, Nat.le_refl _, e1, e2, rfl, ⟨b - a, by omega, rfl⟩, rfl, rfl⟩)
  rintro mm fr τ ⟨i, j, zi, zj, q, rfl, hi1, hj1, hi, hj, hzi, hzj, hql, ⟨k, hk, hr⟩, rfl, rfl⟩ hrec
  obtain ⟨k, rfl⟩ : ∃ k', k = k' + 1 := ⟨k - 1, by omega⟩
  rw [rot] at hr
  have e3 : IntKind.i64.wrap (zm - zi) = ((m - i : Nat) : Int) := by rw [wrap64 (by omega) (by omega)]; omega
  by_cases hij : i = j
  · subst hij
    have hzz : zi = zj := by omega
    subst hzz
    rw [if_pos rfl] at hr
    have cs := swapRange_ok hm hc' F q (m - i) m i c (IntKind.i64.wrap (zm - zi)) zm zi e3 hzm hzi f (by omega) (by omega) (by omega)
    rw [hql] at cs
    repeat' first|refine yaG ?_|(exfalso;omega)|(refine yaS ?_ ?_<;>intro _)
    all_goals first
      | (exfalso; omega)
      | skip
    refine .call _ rfl rfl rfl cs ?_
    rintro r τ ⟨rfl, rfl⟩
    repeat' first|refine yaG ?_|(exfalso;omega)|(refine yaS ?_ ?_<;>intro _)
    exact .fin rfl ⟨rfl, by rw [hr]⟩
  · rw [if_neg hij] at hr
    by_cases hlt : j < i
    · rw [if_pos hlt] at hr
      have cs := swapRange_ok hm hc' F q (m - i) m j c (IntKind.i64.wrap (zm - zi)) zm zj e3 hzm hzj f (by omega) (by omega) (by omega)
      rw [hql] at cs
      have e4 : IntKind.i64.wrap (zi - zj) = ((i - j : Nat) : Int) := by rw [wrap64 (by omega) (by omega)]; omega
      repeat' first|refine yaG ?_|(exfalso;omega)|(refine yaS ?_ ?_<;>intro _)
      refine .call _ rfl rfl rfl cs ?_
      rintro r τ ⟨rfl, rfl⟩
      repeat' first|refine yaG ?_|(exfalso;omega)|(refine yaS ?_ ?_<;>intro _)
      exact Go.keep [0, 2, 4, 10, 11] (hrec _ _ _ (by omega) ⟨i - j, j, _, _, _, rfl, by omega, hj1, by omega, hj, e4, hzj, by rw [swR_len]; exact hql, ⟨k, by omega, hr⟩, rfl, rfl⟩)
    · rw [if_neg hlt] at hr
      have e5 : IntKind.i64.wrap (IntKind.i64.wrap (zm + zj) - zi) = ((m + j - i : Nat) : Int) := by rw [wrap64 (n := zm + zj) (by omega) (by omega), wrap64 (by omega) (by omega)]; omega
      have cs := swapRange_ok hm hc' F q (m - i) (m + j - i) i c (IntKind.i64.wrap (zm - zi)) (IntKind.i64.wrap (IntKind.i64.wrap (zm + zj) - zi)) zi e3 e5 hzi f (by omega) (by omega) (by omega)
      rw [hql] at cs
      have e4 : IntKind.i64.wrap (zj - zi) = ((j - i : Nat) : Int) := by rw [wrap64 (by omega) (by omega)]; omega
      repeat' first|refine yaG ?_|(exfalso;omega)|(refine yaS ?_ ?_<;>intro _)
      refine .call _ rfl rfl rfl cs ?_
      rintro r τ ⟨rfl, rfl⟩
      repeat' first|refine yaG ?_|(exfalso;omega)|(refine yaS ?_ ?_<;>intro _)
      exact Go.keep [0, 2, 4, 10, 11] (hrec _ _ _ (by omega) ⟨i, j - i, _, _, _, rfl, hi1, by omega, hi, by omega, hzi, e4, by rw [swR_len]; exact hql, ⟨k, by omega, hr⟩, rfl, rfl⟩)
/-! ### Insertion -/
def ltA {α : Type} (c : α → α → Int) (l : List α) (i j : Nat) : Bool := match l[i]?, l[j]? with
  | some x, some y => decide (c x y < 0)
  | _, _ => false
theorem ltA_eq {α : Type} {c : α → α → Int} {l : List α} {i j : Nat} (hi : i < l.length) (hj : j < l.length) : ltA c l i j = decide (c l[i] l[j] < 0) := by
  rw [ltA, List.getElem?_eq_getElem hi, List.getElem?_eq_getElem hj]
def insIn {α : Type} (c : α → α → Int) (a : Nat) : Nat → List α → List α
  | 0, l => l
  | j + 1, l => if a < j + 1 ∧ ltA c l (j + 1) j = true then insIn c a j (sw l (j + 1) j) else l
def insOut {α : Type} (c : α → α → Int) (a : Nat) : Nat → Nat → List α → List α
  | 0, _, l => l
  | n + 1, i, l => insOut c a n (i + 1) (insIn c a i l)
theorem insIn_len {α : Type} {c : α → α → Int} {a : Nat} : ∀ {j : Nat} {l : List α}, (insIn c a j l).length = l.length
  | 0, l => rfl
  | j + 1, l => by
    rw [insIn]
    split
    · rw [insIn_len, sw_len]
    · rfl
theorem insIn_mem {α : Type} {c : α → α → Int} {a : Nat} {x : α} : ∀ {j : Nat} {l : List α}, x ∈ insIn c a j l → x ∈ l
  | 0, l, h => h
  | j + 1, l, h => by
    rw [insIn] at h
    split at h
    · exact sw_mem (insIn_mem h)
    · exact h
theorem insOut_len {α : Type} {c : α → α → Int} {a : Nat} : ∀ {n i : Nat} {l : List α}, (insOut c a n i l).length = l.length
  | 0, _, l => rfl
  | n + 1, i, l => by rw [insOut, insOut_len, insIn_len]
theorem insOut_mem {α : Type} {c : α → α → Int} {a : Nat} {x : α} : ∀ {n i : Nat} {l : List α}, x ∈ insOut c a n i l → x ∈ l
  | 0, _, l, h => h
  | n + 1, i, l, h => insIn_mem (insOut_mem (by rwa [insOut] at h))
def insF {α : Type} (c : α → α → Int) (a b : Nat) (l : List α) : List α := insOut c a (b - (a + 1)) (a + 1) l
/-- What the order's function does, while the elements are moved about. -/
def Cmps {α : Type} (P : Program) (F : Fam α) (D : α → Prop) (c : α → α → Int) (g : Nat) (pre cap : List Ce) : Prop :=
  ∀ (q : List α) (x y : α), D x → D y → Ok P g (pre.map .c ++ [.agg (F.ce x), .agg (F.ce y)] ++ cap.map .c) (F.S q) (fun r τ => r = .c (.int .i64 (c x y)) ∧ τ = F.S q)
theorem insertion_ok {P : Program} (hm : P.follows .mixedOrders = true) {fz : List Nat} {n : Nat} (hc : compFn P fz n = some c_slices_insertionSortCmpFunc_Entry) {α : Type} (F : Fam α) (D : α → Prop) (co : α → α → Int) (g : Nat) (pre cap : List Ce) (hcmp : Cmps P F D co g pre cap) (l : List α) (a b c : Nat) (za zb : Int) (ha : za = a) (hb : zb = b) (hD : ∀ x ∈ l, D x) (h3 : b ≤ l.length) (hab : a ≤ b) (hx : l.length ≤ 34359738368) :
    Ok P n [.c (.sl F.id F.v 0 l.length c), .c (.int .i64 za), .c (.int .i64 zb), .c (.fn g pre cap)] (F.S l) (fun r τ => r = .tup [] ∧ τ = F.S (insF co a b l)) := by
  refine .of_go hm hc (Nat.le_of_ble_eq_true rfl) ?_
  rw [insF]
  have e1 : IntKind.i64.wrap (za + 1) = ((a + 1 : Nat) : Int) := by rw [wrap64 (by omega) (by omega)]; omega
  repeat' first|refine yaG ?_|(exfalso;omega)|(refine yaS ?_ ?_<;>intro _)
  refine Go.keep [0, 1, 2, 3, 8] (Go.loops (I := fun mm fr τ => ∃ (i : Nat) (z : Int) (q : List α), mm = b - i ∧ a + 1 ≤ i ∧ z = i ∧ q.length = l.length ∧ (∀ x ∈ q, D x) ∧ insOut co a (b - (a + 1)) (a + 1) l = insOut co a (b - i) i q ∧
    fr = [(0, .c (.sl F.id F.v 0 l.length c)), (1, .c (.int .i64 za)), (2, .c (.int .i64 zb)), (3, .c (.fn g pre cap)), (8, .c (.int .i64 z))] ∧ τ = F.S q) ?_ _ _ _ ⟨a + 1, _, l, rfl, Nat.le_refl _, e1, rfl, hD, rfl, rfl, rfl⟩)
  rintro mm fr τ ⟨i, z, q, rfl, hai, hz, hql, hqD, hr, rfl, rfl⟩ hrec
  by_cases hlt : i < b
  · rw [show b - i = (b - (i + 1)) + 1 by omega, insOut] at hr
    repeat' first|refine yaG ?_|(exfalso;omega)|(refine yaS ?_ ?_<;>intro _)
    refine Go.keep [0, 1, 2, 3, 8, 9] (Go.loops (I := fun mm fr τ => ∃ (j : Nat) (zj : Int) (u : List α), mm = j ∧ j ≤ i ∧ a ≤ j ∧ zj = j ∧ u.length = l.length ∧ (∀ x ∈ u, D x) ∧ insIn co a i q = insIn co a j u ∧
      fr = [(0, .c (.sl F.id F.v 0 l.length c)), (1, .c (.int .i64 za)), (2, .c (.int .i64 zb)), (3, .c (.fn g pre cap)), (8, .c (.int .i64 z)), (9, .c (.int .i64 zj))] ∧ τ = F.S u) ?_ _ _ _ ⟨i, _, q, rfl, Nat.le_refl _, by omega, hz, hql, hqD, rfl, rfl, rfl⟩)
    rintro mm fr τ ⟨j, zj, u, hmm, hji, haj, hzj, hul, huD, hin, rfl, rfl⟩ hrecj
    have out : ∀ fr τ, fr = [(0, AV.c (.sl F.id F.v 0 l.length c)), (1, .c (.int .i64 za)), (2, .c (.int .i64 zb)), (3, .c (.fn g pre cap)), (8, .c (.int .i64 (IntKind.i64.wrap (z + 1))))] → τ = F.S (insIn co a i q) → _ := fun fr τ p1 p2 =>
      hrec (b - (i + 1)) fr τ (by omega) ⟨i + 1, _, insIn co a i q, rfl, by omega, wrap_succ hz (by omega), by rw [insIn_len]; exact hql, fun x hx => hqD x (insIn_mem hx), hr, p1, p2⟩
    clear hrec
    by_cases hj : a < j
    · obtain ⟨j, rfl⟩ : ∃ j', j = j' + 1 := ⟨j - 1, by omega⟩
      rw [insIn] at hin
      have hj1 : j + 1 < u.length := by omega
      have hj0 : j < u.length := by omega
      have e2 : IntKind.i64.wrap (zj - 1) = (j : Int) := by rw [wrap64 (by omega) (by omega)]; omega
      have cc := hcmp u u[j + 1] u[j] (huD _ (List.getElem_mem hj1)) (huD _ (List.getElem_mem hj0))
      rw [ltA_eq hj1 hj0] at hin
      repeat' first|refine yaG ?_|((first|apply yG|apply yH|apply yI);exact rfl;(first|exact aop_si rfl rfl hzj hul.symm hj1|exact aop_si rfl rfl e2 hul.symm hj0|exact aop_sl rfl hj1|exact aop_sl rfl hj0))|(exfalso;omega)|(refine yaS ?_ ?_<;>intro _)
      refine Go.scall _ rfl rfl rfl cc ?_
      rintro r τ ⟨rfl, rfl⟩
      generalize hco : co u[j + 1] u[j] = o at hin
      by_cases ho : o < 0
      · rw [if_pos ⟨hj, decide_eq_true ho⟩, sw_eq hj1 hj0] at hin
        repeat' first|(apply yA;exact rfl)|apply yC|((first|apply yD|apply yE);(first|exact yF|assumption);iterate 6 exact rfl)|((first|apply yG|apply yH|apply yI);exact rfl;(first|exact yJ|exact yK rfl rfl|exact yL rfl|exact yM rfl|exact rfl|exact aL rfl rfl rfl rfl rfl|exact aS rfl rfl rfl rfl rfl rfl rfl))|((first|apply yN|apply yO|apply yP);exact rfl)|(exfalso;omega)|(((first|apply yT|apply yU|apply yV|apply yW);exact rfl;(first|exact .d|exact .e|exact .n|((fail_if_success exact bqt);(fail_if_success exact bqf);exact .b)))<;>intro _)
        all_goals first
          | (exfalso; omega)
          | skip
        refine Go.qw (fun F' τ => Go P (F.S l).next _ _ _ (.segs _ :: _) F' τ) ?_ fun _ _ h => h
        repeat' first|(apply Qw.op;exact rfl;exact fun _ => rfl)|(apply Qw.rd;exact rfl;exact rfl;first|exact aop_si rfl rfl hzj hul.symm hj1|exact aop_si rfl rfl e2 hul.symm hj0|exact aop_sl rfl hj1|exact aop_sl rfl hj0)|(apply Qw.wr;exact rfl;exact rfl;exact aop_ss rfl rfl hj1)|apply Qw.nil
        repeat' first|refine yaG ?_|((first|apply yG|apply yH|apply yI);exact rfl;(first|exact aop_si rfl rfl e2 (by rw [List.length_set];exact hul.symm) (by rw [List.length_set];exact hj0)|exact aop_ss rfl rfl (by rw [List.length_set];exact hj0)))|(exfalso;omega)|(refine yaS ?_ ?_<;>intro _)
        refine Go.keep [0, 1, 2, 3, 8, 9] (hrecj _ _ _ (by omega) ⟨j, _, _, rfl, by omega, by omega, e2, ?_, fun x hx => ?_, hin, rfl, rfl⟩)
        · simp [hul]
        · rw [← sw_eq hj1 hj0] at hx
          exact huD x (sw_mem hx)
      · rw [if_neg (by simp [ho])] at hin
        repeat' first|refine yaG ?_|(exfalso;omega)|(refine yaS ?_ ?_<;>intro _)
        all_goals first
          | (exfalso; omega)
          | skip
        exact Go.keep [0, 1, 2, 3, 8] (out _ _ rfl (by rw [hin]))
    · have hja : insIn co a j u = u := by
        cases j with
        | zero => rfl
        | succ j => rw [insIn, if_neg (fun h => hj h.1)]
      rw [hja] at hin
      repeat' first|refine yaG ?_|(exfalso;omega)|(refine yaS ?_ ?_<;>intro _)
      exact Go.keep [0, 1, 2, 3, 8] (out _ _ rfl (by rw [hin]))
  · repeat' first|refine yaG ?_|(exfalso;omega)|(refine yaS ?_ ?_<;>intro _)
    rw [show b - i = 0 by omega, insOut] at hr
    exact .fin rfl ⟨rfl, by rw [hr]⟩
end Go.Proofs.YtdgnfdljkghpjaaGreat.Am

/- Sorting in place: merging. Plain part, and the three searches. -/
set_option linter.unusedVariables false
set_option linter.unusedSimpArgs false
namespace Go.Proofs.YtdgnfdljkghpjaaGreat.Am

def bs (p : Nat → Bool) : Nat → Nat → Nat → Nat
  | 0, i, _ => i
  | n + 1, i, j => if i < j then (if p ((i + j) / 2) then bs p n ((i + j) / 2 + 1) j else bs p n i ((i + j) / 2)) else i
theorem bs_in {p : Nat → Bool} : ∀ {n i j : Nat}, i ≤ j → i ≤ bs p n i j ∧ bs p n i j ≤ j
  | 0, i, j, h => ⟨Nat.le_refl _, h⟩
  | n + 1, i, j, h => by
    rw [bs]
    split
    · split
      · have := bs_in (p := p) (n := n) (i := (i + j) / 2 + 1) (j := j) (by omega)
        omega
      · have := bs_in (p := p) (n := n) (i := i) (j := (i + j) / 2) (by omega)
        omega
    · omega
theorem bs_end {p : Nat → Bool} {n i j : Nat} (h : ¬ i < j) : bs p n i j = i := by
  cases n with
  | zero => rfl
  | succ n => rw [bs, if_neg h]
theorem half_eq {z : Int} {k : Nat} (hz : z = (k : Int)) (hk : k ≤ 1099511627776) : IntKind.i64.wrap ((IntKind.u64.wrap z).fdiv (2 ^ (min (1 : Int).toNat IntKind.u64.bits))) = ((k / 2 : Nat) : Int) := by
  have h1 : IntKind.u64.wrap z = (k : Int) := by
    rw [hz]
    simp only [IntKind.wrap]
    simp [IntKind.bits, IntKind.signed]
    omega
  rw [h1]
  have h2 : ((2 : Int) ^ (min (1 : Int).toNat IntKind.u64.bits)) = 2 := rfl
  rw [h2, Int.fdiv_eq_ediv_of_nonneg _ (by decide), wrap64 (by omega) (by omega)]
  omega
def shU {α : Type} : Nat → Nat → List α → List α
  | 0, _, l => l
  | n + 1, k, l => shU n (k + 1) (sw l k (k + 1))
def shD {α : Type} : Nat → Nat → List α → List α
  | 0, _, l => l
  | n + 1, k, l => shD n (k - 1) (sw l k (k - 1))
theorem shU_len {α : Type} : ∀ {n k : Nat} {l : List α}, (shU n k l).length = l.length
  | 0, _, l => rfl
  | n + 1, k, l => by rw [shU, shU_len, sw_len]
theorem shD_len {α : Type} : ∀ {n k : Nat} {l : List α}, (shD n k l).length = l.length
  | 0, _, l => rfl
  | n + 1, k, l => by rw [shD, shD_len, sw_len]
theorem shU_mem {α : Type} {x : α} : ∀ {n k : Nat} {l : List α}, x ∈ shU n k l → x ∈ l
  | 0, _, l, h => h
  | n + 1, k, l, h => sw_mem (shU_mem (by rwa [shU] at h))
theorem shD_mem {α : Type} {x : α} : ∀ {n k : Nat} {l : List α}, x ∈ shD n k l → x ∈ l
  | 0, _, l, h => h
  | n + 1, k, l, h => sw_mem (shD_mem (by rwa [shD] at h))
def symStart {α : Type} (c : α → α → Int) (a m b : Nat) (l : List α) : Nat :=
  if (a + b) / 2 < m then bs (fun h => !ltA c l ((a + b) / 2 + m - 1 - h) h) (b - m) ((a + b) / 2 + m - b) ((a + b) / 2)
  else bs (fun h => !ltA c l ((a + b) / 2 + m - 1 - h) h) (m - a) a m
def sym {α : Type} (c : α → α → Int) : Nat → Nat → Nat → Nat → List α → List α
  | 0, _, _, _, l => l
  | n + 1, a, m, b, l =>
    if m - a = 1 then shU (bs (fun h => ltA c l h a) (b - m) m b - 1 - a) a l
    else if b - m = 1 then shD (m - bs (fun h => !ltA c l m h) (m - a) a m) m l
    else
      let s := symStart c a m b l
      let e := (a + b) / 2 + m - s
      let l1 := if s < m ∧ m < e then rotF s m e l else l
      let l2 := if a < s ∧ s < (a + b) / 2 then sym c n a s ((a + b) / 2) l1 else l1
      if (a + b) / 2 < e ∧ e < b then sym c n ((a + b) / 2) e b l2 else l2
theorem sym_len {α : Type} {c : α → α → Int} : ∀ {n a m b : Nat} {l : List α}, (sym c n a m b l).length = l.length
  | 0, _, _, _, l => rfl
  | n + 1, a, m, b, l => by
    rw [sym]
    split
    · exact shU_len
    · split
      · exact shD_len
      · simp only
        have h1 : ∀ q : List α, (if symStart c a m b l < m ∧ m < (a + b) / 2 + m - symStart c a m b l then rotF (symStart c a m b l) m ((a + b) / 2 + m - symStart c a m b l) l else l) = q → q.length = l.length := fun q h => by
          rw [← h]
          split
          · exact rot_len
          · rfl
        generalize (if symStart c a m b l < m ∧ m < (a + b) / 2 + m - symStart c a m b l then rotF (symStart c a m b l) m ((a + b) / 2 + m - symStart c a m b l) l else l) = q at h1 ⊢
        have h1 := h1 q rfl
        split <;> split <;> simp only [sym_len, h1]
theorem sym_mem {α : Type} {c : α → α → Int} {x : α} : ∀ {n a m b : Nat} {l : List α}, x ∈ sym c n a m b l → x ∈ l
  | 0, _, _, _, l, h => h
  | n + 1, a, m, b, l, h => by
    rw [sym] at h
    split at h
    · exact shU_mem h
    · split at h
      · exact shD_mem h
      · simp only at h
        have h1 : ∀ q : List α, (if symStart c a m b l < m ∧ m < (a + b) / 2 + m - symStart c a m b l then rotF (symStart c a m b l) m ((a + b) / 2 + m - symStart c a m b l) l else l) = q → x ∈ q → x ∈ l := fun q h => by
          rw [← h]
          split
          · exact rot_mem
          · exact id
        generalize (if symStart c a m b l < m ∧ m < (a + b) / 2 + m - symStart c a m b l then rotF (symStart c a m b l) m ((a + b) / 2 + m - symStart c a m b l) l else l) = q at h1 h
        have h1 := h1 q rfl
        split at h <;> split at h
        · exact h1 (sym_mem (sym_mem h))
        · exact h1 (sym_mem h)
        · exact h1 (sym_mem h)
        · exact h1 h
end Go.Proofs.YtdgnfdljkghpjaaGreat.Am

/- Sorting in place: merging, one element against many. -/
set_option linter.unusedVariables false
set_option linter.unusedSimpArgs false
namespace Go.Proofs.YtdgnfdljkghpjaaGreat.Am

theorem symA_ok {P : Program} (hm : P.follows .mixedOrders = true) {fz : List Nat} {n : Nat} (hc : compFn P fz n = some c_slices_symMergeCmpFunc_Entry) {α : Type} (F : Fam α) (D : α → Prop) (co : α → α → Int) (g : Nat) (pre cap : List Ce) (hcmp : Cmps P F D co g pre cap) (l : List α) (a m b c : Nat) (za zm zb : Int) (ha : za = a) (hzm : zm = m) (hb : zb = b) (hD : ∀ x ∈ l, D x) (h3 : b ≤ l.length) (hab : a < m) (hmb : m < b) (hx : l.length ≤ 34359738368) (h1 : m - a = 1) :
    Ok P n [.c (.sl F.id F.v 0 l.length c), .c (.int .i64 za), .c (.int .i64 zm), .c (.int .i64 zb), .c (.fn g pre cap)] (F.S l) (fun r τ => r = .tup [] ∧ τ = F.S (shU (bs (fun h => ltA co l h a) (b - m) m b - 1 - a) a l)) := by
  refine .of_go hm hc (Nat.le_of_ble_eq_true rfl) ?_
  have e1 : IntKind.i64.wrap (zm - za) = 1 := by rw [wrap64 (by omega) (by omega)]; omega
  have hal : a < l.length := by omega
  repeat' first|refine yaG ?_|(exfalso;omega)|(refine yaS ?_ ?_<;>intro _)
  all_goals first
    | (exfalso; omega)
    | skip
  obtain ⟨p, hp⟩ : ∃ p : Nat → Bool, p = fun h => ltA co l h a := ⟨_, rfl⟩
  rw [← hp]
  refine Go.keep [0, 1, 2, 3, 4, 10, 11] (Go.loops (I := fun mm fr τ => ∃ (i j : Nat) (zi zj : Int), mm = j - i ∧ m ≤ i ∧ i ≤ j ∧ j ≤ b ∧ zi = i ∧ zj = j ∧ (∃ k, j - i ≤ k ∧ bs p (b - m) m b = bs p k i j) ∧
    fr = [(0, .c (.sl F.id F.v 0 l.length c)), (1, .c (.int .i64 za)), (2, .c (.int .i64 zm)), (3, .c (.int .i64 zb)), (4, .c (.fn g pre cap)), (10, .c (.int .i64 zi)), (11, .c (.int .i64 zj))] ∧ τ = F.S l) ?_ _ _ _ ⟨m, b, _, _, rfl, Nat.le_refl _, by omega, Nat.le_refl _, hzm, hb, ⟨b - m, Nat.le_refl _, rfl⟩, rfl, rfl⟩)
  rintro mm fr τ ⟨i, j, zi, zj, hmm, hmi, hij, hjb, hzi, hzj, ⟨k, hk, hbs⟩, rfl, rfl⟩ hrec
  by_cases hlt : i < j
  · obtain ⟨k, rfl⟩ : ∃ k', k = k' + 1 := ⟨k - 1, by omega⟩
    rw [bs, if_pos hlt] at hbs
    have es : IntKind.i64.wrap (zi + zj) = ((i + j : Nat) : Int) := by rw [wrap64 (by omega) (by omega)]; omega
    have eh := half_eq es (by omega)
    have hh : (i + j) / 2 < l.length := by omega
    have hpv : p ((i + j) / 2) = decide (co l[(i + j) / 2] l[a] < 0) := by rw [hp]; exact ltA_eq hh hal
    have cc := hcmp l l[(i + j) / 2] l[a] (hD _ (List.getElem_mem hh)) (hD _ (List.getElem_mem hal))
    rw [hpv] at hbs
    generalize co l[(i + j) / 2] l[a] = o at cc hbs
    repeat' first|refine yaG ?_|((first|apply yG|apply yH|apply yI);exact rfl;(first|exact aop_si rfl rfl eh rfl hh|exact aop_si rfl rfl ha rfl hal|exact aop_sl rfl hh|exact aop_sl rfl hal))|(exfalso;omega)|(refine yaS ?_ ?_<;>intro _)
    refine Go.scall _ rfl rfl rfl cc ?_
    rintro r τ ⟨rfl, rfl⟩
    repeat' first|refine yaG ?_|(exfalso;omega)|(refine yaS ?_ ?_<;>intro _)
    · rename_i ho
      rw [if_pos (decide_eq_true ho)] at hbs
      exact Go.keep [0, 1, 2, 3, 4, 10, 11] (hrec _ _ _ (by omega) ⟨(i + j) / 2 + 1, j, _, _, rfl, by omega, by omega, hjb, wrap_succ eh (by omega), hzj, ⟨k, by omega, hbs⟩, rfl, rfl⟩)
    · rename_i ho
      rw [if_neg (by simp [ho])] at hbs
      exact Go.keep [0, 1, 2, 3, 4, 10, 11] (hrec _ _ _ (by omega) ⟨i, (i + j) / 2, _, _, rfl, hmi, by omega, by omega, hzi, eh, ⟨k, by omega, hbs⟩, rfl, rfl⟩)
  · rw [bs_end hlt] at hbs
    rw [hbs]
    clear hrec hbs hp
    have e2 : IntKind.i64.wrap (zi - 1) = ((i - 1 : Nat) : Int) := by rw [wrap64 (by omega) (by omega)]; omega
    repeat' first|refine yaG ?_|(exfalso;omega)|(refine yaS ?_ ?_<;>intro _)
    refine Go.keep [0, 10, 13] (Go.loops (I := fun mm fr τ => ∃ (k : Nat) (z : Int) (q : List α), mm = i - k ∧ k ≤ i - 1 ∧ z = k ∧ q.length = l.length ∧ shU (i - 1 - a) a l = shU (i - 1 - k) k q ∧
      fr = [(0, .c (.sl F.id F.v 0 l.length c)), (10, .c (.int .i64 zi)), (13, .c (.int .i64 z))] ∧ τ = F.S q) ?_ _ _ _ ⟨a, _, l, rfl, by omega, ha, rfl, rfl, rfl, rfl⟩)
    rintro mm fr τ ⟨k, z, q, hmm, hki, hz, hql, hsh, rfl, rfl⟩ hrec
    by_cases hk : k < i - 1
    · have hk0 : k < q.length := by omega
      have hk1 : k + 1 < q.length := by omega
      have e3 : IntKind.i64.wrap (z + 1) = ((k + 1 : Nat) : Int) := wrap_succ hz (by omega)
      rw [show i - 1 - k = (i - 1 - (k + 1)) + 1 by omega, shU, sw_eq hk0 hk1] at hsh
      repeat' first|(apply yA;exact rfl)|apply yC|((first|apply yD|apply yE);(first|exact yF|assumption);iterate 6 exact rfl)|((first|apply yG|apply yH|apply yI);exact rfl;(first|exact yJ|exact yK rfl rfl|exact yL rfl|exact yM rfl|exact rfl|exact aL rfl rfl rfl rfl rfl|exact aS rfl rfl rfl rfl rfl rfl rfl))|((first|apply yN|apply yO|apply yP);exact rfl)|(exfalso;omega)|(((first|apply yT|apply yU|apply yV|apply yW);exact rfl;(first|exact .d|exact .e|exact .n|((fail_if_success exact bqt);(fail_if_success exact bqf);exact .b)))<;>intro _)
      refine Go.qw (fun F' τ => Go P (F.S l).next _ _ _ (.segs _ :: _) F' τ) ?_ fun _ _ h => h
      repeat' first|(apply Qw.op;exact rfl;exact fun _ => rfl)|(apply Qw.rd;exact rfl;exact rfl;first|exact aop_si rfl rfl hz hql.symm hk0|exact aop_si rfl rfl e3 hql.symm hk1|exact aop_sl rfl hk0|exact aop_sl rfl hk1)|(apply Qw.wr;exact rfl;exact rfl;exact aop_ss rfl rfl hk0)|apply Qw.nil
      repeat' first|refine yaG ?_|((first|apply yG|apply yH|apply yI);exact rfl;(first|exact aop_si rfl rfl e3 (by rw [List.length_set];exact hql.symm) (by rw [List.length_set];exact hk1)|exact aop_ss rfl rfl (by rw [List.length_set];exact hk1)))|(exfalso;omega)|(refine yaS ?_ ?_<;>intro _)
      refine Go.keep [0, 10, 13] (hrec _ _ _ (by omega) ⟨k + 1, _, _, rfl, by omega, e3, ?_, hsh, rfl, rfl⟩)
      simp [hql]
    · repeat' first|refine yaG ?_|(exfalso;omega)|(refine yaS ?_ ?_<;>intro _)
      rw [show i - 1 - k = 0 by omega, shU] at hsh
      exact .ret rfl ⟨rfl, by rw [hsh]⟩
theorem symB_ok {P : Program} (hm : P.follows .mixedOrders = true) {fz : List Nat} {n : Nat} (hc : compFn P fz n = some c_slices_symMergeCmpFunc_Entry) {α : Type} (F : Fam α) (D : α → Prop) (co : α → α → Int) (g : Nat) (pre cap : List Ce) (hcmp : Cmps P F D co g pre cap) (l : List α) (a m b c : Nat) (za zm zb : Int) (ha : za = a) (hzm : zm = m) (hb : zb = b) (hD : ∀ x ∈ l, D x) (h3 : b ≤ l.length) (hab : a < m) (hmb : m < b) (hx : l.length ≤ 34359738368) (h1 : ¬ m - a = 1) (h2 : b - m = 1) :
    Ok P n [.c (.sl F.id F.v 0 l.length c), .c (.int .i64 za), .c (.int .i64 zm), .c (.int .i64 zb), .c (.fn g pre cap)] (F.S l) (fun r τ => r = .tup [] ∧ τ = F.S (shD (m - bs (fun h => !ltA co l m h) (m - a) a m) m l)) := by
  refine .of_go hm hc (Nat.le_of_ble_eq_true rfl) ?_
  have e1 : ¬ IntKind.i64.wrap (zm - za) = 1 := by rw [wrap64 (by omega) (by omega)]; omega
  have e2 : IntKind.i64.wrap (zb - zm) = 1 := by rw [wrap64 (by omega) (by omega)]; omega
  have hml : m < l.length := by omega
  repeat' first|refine yaG ?_|(exfalso;omega)|(refine yaS ?_ ?_<;>intro _)
  all_goals first
    | (exfalso; omega)
    | skip
  obtain ⟨p, hp⟩ : ∃ p : Nat → Bool, p = fun h => !ltA co l m h := ⟨_, rfl⟩
  rw [← hp]
  refine Go.keep [0, 1, 2, 3, 4, 14, 15] (Go.loops (I := fun mm fr τ => ∃ (i j : Nat) (zi zj : Int), mm = j - i ∧ a ≤ i ∧ i ≤ j ∧ j ≤ m ∧ zi = i ∧ zj = j ∧ (∃ k, j - i ≤ k ∧ bs p (m - a) a m = bs p k i j) ∧
    fr = [(0, .c (.sl F.id F.v 0 l.length c)), (1, .c (.int .i64 za)), (2, .c (.int .i64 zm)), (3, .c (.int .i64 zb)), (4, .c (.fn g pre cap)), (14, .c (.int .i64 zi)), (15, .c (.int .i64 zj))] ∧ τ = F.S l) ?_ _ _ _ ⟨a, m, _, _, rfl, Nat.le_refl _, by omega, Nat.le_refl _, ha, hzm, ⟨m - a, Nat.le_refl _, rfl⟩, rfl, rfl⟩)
  rintro mm fr τ ⟨i, j, zi, zj, hmm, hmi, hij, hjb, hzi, hzj, ⟨k, hk, hbs⟩, rfl, rfl⟩ hrec
  by_cases hlt : i < j
  · obtain ⟨k, rfl⟩ : ∃ k', k = k' + 1 := ⟨k - 1, by omega⟩
    rw [bs, if_pos hlt] at hbs
    have es : IntKind.i64.wrap (zi + zj) = ((i + j : Nat) : Int) := by rw [wrap64 (by omega) (by omega)]; omega
    have eh := half_eq es (by omega)
    have hh : (i + j) / 2 < l.length := by omega
    have hpv : p ((i + j) / 2) = !decide (co l[m] l[(i + j) / 2] < 0) := by rw [hp]; exact congrArg _ (ltA_eq hml hh)
    have cc := hcmp l l[m] l[(i + j) / 2] (hD _ (List.getElem_mem hml)) (hD _ (List.getElem_mem hh))
    rw [hpv] at hbs
    generalize co l[m] l[(i + j) / 2] = o at cc hbs
    repeat' first|refine yaG ?_|((first|apply yG|apply yH|apply yI);exact rfl;(first|exact aop_si rfl rfl eh rfl hh|exact aop_si rfl rfl hzm rfl hml|exact aop_sl rfl hh|exact aop_sl rfl hml))|(exfalso;omega)|(refine yaS ?_ ?_<;>intro _)
    refine Go.scall _ rfl rfl rfl cc ?_
    rintro r τ ⟨rfl, rfl⟩
    by_cases ho : o < 0
    · rw [if_neg (by simp [ho])] at hbs
      repeat' first|refine yaG ?_|(exfalso;omega)|(refine yaS ?_ ?_<;>intro _)
      all_goals first
        | exact Go.keep [0, 1, 2, 3, 4, 14, 15] (hrec _ _ _ (by omega) ⟨i, (i + j) / 2, _, _, rfl, hmi, by omega, by omega, hzi, eh, ⟨k, by omega, hbs⟩, rfl, rfl⟩)
        | (exfalso; simp_all; done)
        | (exfalso; simp_all; omega)
    · rw [if_pos (by simp [ho])] at hbs
      repeat' first|refine yaG ?_|(exfalso;omega)|(refine yaS ?_ ?_<;>intro _)
      all_goals first
        | exact Go.keep [0, 1, 2, 3, 4, 14, 15] (hrec _ _ _ (by omega) ⟨(i + j) / 2 + 1, j, _, _, rfl, by omega, by omega, hjb, wrap_succ eh (by omega), hzj, ⟨k, by omega, hbs⟩, rfl, rfl⟩)
        | (exfalso; simp_all; done)
        | (exfalso; simp_all; omega)
  · rw [bs_end hlt] at hbs
    rw [hbs]
    clear hrec hbs hp
    repeat' first|refine yaG ?_|(exfalso;omega)|(refine yaS ?_ ?_<;>intro _)
    refine Go.keep [0, 14, 17] (Go.loops (I := fun mm fr τ => ∃ (k : Nat) (z : Int) (q : List α), mm = k - i ∧ i ≤ k ∧ k ≤ m ∧ z = k ∧ q.length = l.length ∧ shD (m - i) m l = shD (k - i) k q ∧
      fr = [(0, .c (.sl F.id F.v 0 l.length c)), (14, .c (.int .i64 zi)), (17, .c (.int .i64 z))] ∧ τ = F.S q) ?_ _ _ _ ⟨m, _, l, rfl, by omega, Nat.le_refl _, hzm, rfl, rfl, rfl, rfl⟩)
    rintro mm fr τ ⟨k, z, q, hmm, hki, hkm, hz, hql, hsh, rfl, rfl⟩ hrec
    by_cases hk : i < k
    · have hk0 : k < q.length := by omega
      have hk1 : k - 1 < q.length := by omega
      have e3 : IntKind.i64.wrap (z - 1) = ((k - 1 : Nat) : Int) := by rw [wrap64 (by omega) (by omega)]; omega
      rw [show k - i = (k - 1 - i) + 1 by omega, shD, sw_eq hk0 hk1] at hsh
      repeat' first|(apply yA;exact rfl)|apply yC|((first|apply yD|apply yE);(first|exact yF|assumption);iterate 6 exact rfl)|((first|apply yG|apply yH|apply yI);exact rfl;(first|exact yJ|exact yK rfl rfl|exact yL rfl|exact yM rfl|exact rfl|exact aL rfl rfl rfl rfl rfl|exact aS rfl rfl rfl rfl rfl rfl rfl))|((first|apply yN|apply yO|apply yP);exact rfl)|(exfalso;omega)|(((first|apply yT|apply yU|apply yV|apply yW);exact rfl;(first|exact .d|exact .e|exact .n|((fail_if_success exact bqt);(fail_if_success exact bqf);exact .b)))<;>intro _)
      refine Go.qw (fun F' τ => Go P (F.S l).next _ _ _ (.segs _ :: _) F' τ) ?_ fun _ _ h => h
      repeat' first|(apply Qw.op;exact rfl;exact fun _ => rfl)|(apply Qw.rd;exact rfl;exact rfl;first|exact aop_si rfl rfl hz hql.symm hk0|exact aop_si rfl rfl e3 hql.symm hk1|exact aop_sl rfl hk0|exact aop_sl rfl hk1)|(apply Qw.wr;exact rfl;exact rfl;exact aop_ss rfl rfl hk0)|apply Qw.nil
      repeat' first|refine yaG ?_|((first|apply yG|apply yH|apply yI);exact rfl;(first|exact aop_si rfl rfl e3 (by rw [List.length_set];exact hql.symm) (by rw [List.length_set];exact hk1)|exact aop_ss rfl rfl (by rw [List.length_set];exact hk1)))|(exfalso;omega)|(refine yaS ?_ ?_<;>intro _)
      refine Go.keep [0, 14, 17] (hrec _ _ _ (by omega) ⟨k - 1, _, _, rfl, by omega, by omega, e3, ?_, hsh, rfl, rfl⟩)
      simp [hql]
    · repeat' first|refine yaG ?_|(exfalso;omega)|(refine yaS ?_ ?_<;>intro _)
      rw [show k - i = 0 by omega, shD] at hsh
      exact .ret rfl ⟨rfl, by rw [hsh]⟩
end Go.Proofs.YtdgnfdljkghpjaaGreat.Am
