/- Joined texts: A21, A22, T1, T2, T3, A23. -/
import Derived.KernelRfl
import Derived.Test.YtmmgbgpglhbhcaaGreatB1
import Derived.Test.YtmmgbgpglhbhcaaGreatB2
import Derived.Test.YtmmgbgpglhbhcaaGreatB3
import Derived.Test.YtmmgbgpglhbhcaaGreatB4
import Derived.Test.YtmmgbgpglhbhcaaGreatB5
import Derived.Test.YtmmgbgpglhbhcaaGreatB6
/- Changes: DeleteRow, by the program and by the reference. -/
set_option linter.unusedVariables false
set_option linter.unusedSimpArgs false
namespace Go.Proofs.YtmmgbgpglhbhcaaGreat.Am
variable {I : Nat → Int → Prop}

theorem aop_boxO {τ : Store} {fr : Fr} {cs : List Ce} {x : Opd} (hx : x.ev fr = some (.agg cs)) : aop (.box false x) fr τ = some (.c (.ptr τ.next 0 0 0), τ.new (0, [cs])) := by
  simp [aop, hx, AV.cells]
theorem Kept.mono {n m : Nat} {τ τ' : Store} (h : Kept m τ τ') (hn : n ≤ m) : Kept n τ τ' := ⟨h.next, fun a ha => h.get a (Nat.lt_of_lt_of_le ha hn), h.full⟩
theorem DbT.holds {n : Nat} {τ : Store} {s : List Table} {db : List Data} {o vo : Nat} {xs : List Ce} {junk : List (List Ce)} (h : DbT n τ db o vo xs junk) (hn : n ≤ τ.next) : Holds ⟨τ.next, 0, o, vo, junk⟩ n s xs db (τ.new (0, [[.fz (s.map encTable), vec o vo (cells xs) junk]])) := by
  have hcl : (cells xs).length = db.length := by rw [cells, List.length_map, h.len]
  have hlo := h.lo
  obtain ⟨lab, hl⟩ := h.tb
  refine ⟨?_, (if_neg (Nat.ne_of_lt hlo)).trans h.get, h.jk, h.len, ⟨lab, fun i h1 h2 => (hl i h1 h2).frame (fun w a ha => ⟨ha.1, ha.2.1, Nat.lt_succ_of_lt ha.2.2.1, Nat.ne_of_lt ha.2.2.1, ha.2.2.2⟩) fun w a ha => if_neg (Nat.ne_of_lt ha.2.2.1)⟩, hn, h.no, by show τ.next ≠ o; omega, Nat.lt_succ_self _, Nat.lt_succ_of_lt hlo⟩
  refine (if_pos rfl).trans ?_
  rw [vec, hcl]
theorem DbT.has {n : Nat} {τ : Store} {db : List Data} {o vo : Nat} {xs : List Ce} {junk : List (List Ce)} (h : DbT n τ db o vo xs junk) (hn : n ≤ τ.next) (hr : ∀ d ∈ db, Rise d.rows) : Has τ (fun a => n ≤ a ∧ a < τ.next) (.fz (db.map encData)) (vec o vo (cells xs) junk) := by
  have hcl : (cells xs).length = db.length := by rw [cells, List.length_map, h.len]
  have h1 := (h.holds (s := []) hn).has hr
  rw [vec, hcl]
  have hb : ∀ a, (n ≤ a ∧ a < τ.next + 1 ∧ a ≠ τ.next) → n ≤ a ∧ a < τ.next := fun a ha => by omega
  exact (h1.frame fun a ha => (if_neg ha.2.2).symm).mono hb
theorem HasV.two {τ : Store} {S : Nat → Prop} {y x : Ce} {k : IntKind} {z : Int} (h : Has τ S y x) : HasV τ S (.tup [.c y, .c (.int k z)]) (.tup [.c x, .c (.int k z)]) :=
  HasV.pair (S1 := S) (S2 := fun _ => False) (.c h) (.c (.c (.int _ _))) (fun _ h => h) (fun _ h => h.elim) fun _ _ h => h
theorem changed_ok (s : List Table) (db : List Data) (hd : db.length ≤ 60) (hr : ∀ d ∈ db, d.rows.length ≤ 60 ∧ ∀ r ∈ d.rows, r.vals ≠ [] ∧ r.vals.length ≤ 34359738368) (hrise : ∀ d ∈ db, Rise d.rows) (f : Nat) (pre cap : List Ce) (q : Res) (hq : q.2 = 0 → ∀ d ∈ q.1, Rise d.rows) (σ : Store)
    (hf : ∀ L xs τ, Holds L σ.next s xs db τ → Ok Tryz.prog f (pre.map .c ++ [.c (.ptr L.c L.vc 0 0)] ++ cap.map .c) τ (Done L σ.next s q τ)) :
    Ok Tryz.prog 49 [.c (.fz (s.map encTable)), .c (.fz (db.map encData)), .c (.fn f pre cap)] σ (fun r τ => Kept σ.next σ τ ∧ ∃ x, r = .tup [.c x, .c (.int .i64 (topR db q).2)] ∧ Has τ (fun a => σ.next ≤ a ∧ a < τ.next) (.fz ((topR db q).1.map encData)) x) := by
  refine Ok.run0 mixed c_impl_changed_ok (Nat.le_of_ble_eq_true rfl) fun hS hA => ?_
  clear hS hA
  repeat' first|refine yaG ?_|(exfalso;omega)|(refine yaS ?_ ?_<;>intro _)
  refine .call _ rfl rfl rfl (copiedDb_ok db hd hr σ) ?_
  rintro r9 τ1 ⟨o, vo, xs, junk, hr9, hK1, hD1⟩
  rw [hr9]
  clear hr9
  have hH := hD1.holds (s := s) hK1.next
  have hK2 : Kept σ.next σ (τ1.new (0, [[.fz (s.map encTable), vec o vo (cells xs) junk]])) := hK1.trans (.new hK1.next)
  repeat' first|refine yaG ?_|((first|apply yG|apply yH|apply yI);exact rfl;(first|exact aop_boxO rfl))|(exfalso;omega)|(refine yaS ?_ ?_<;>intro _)
  refine .call _ rfl rfl rfl (hf _ _ _ hH) ?_
  rintro r9 τ2 ⟨hr9, hk2, hq2⟩
  rw [hr9]
  have hK3 := hK2.trans hk2
  by_cases h0 : q.2 = 0
  · obtain ⟨xs2, hH2⟩ := hq2 h0
    rw [topR, if_pos h0, h0]
    repeat' first|refine yaG ?_|((first|apply yG|apply yH|apply yI);exact rfl;(first|exact aop_hd hH2 rfl))|(exfalso;omega)|(refine yaS ?_ ?_<;>intro _)
    exact .ret rfl ⟨hK3, _, rfl, (hH2.has (hq h0)).mono fun a ha => ⟨ha.1, ha.2.1⟩⟩
  · rw [topR, if_neg h0]
    generalize q.2 = e at h0 ⊢
    repeat' first|refine yaG ?_|(exfalso;omega)|(refine yaS ?_ ?_<;>intro _)
    refine .call _ rfl rfl rfl (copiedDb_ok db hd hr τ2) ?_
    rintro r9 τ3 ⟨o3, vo3, xs3, junk3, hr9, hK4, hD4⟩
    rw [hr9]
    repeat' first|refine yaG ?_|(exfalso;omega)|(refine yaS ?_ ?_<;>intro _)
    exact .ret rfl ⟨hK3.trans (hK4.mono hK3.next), _, rfl, (hD4.has hK4.next hrise).mono fun a ha => ⟨Nat.le_trans hK3.next ha.1, ha.2⟩⟩
theorem DeleteRow1_ok {L : ChL} {n : Nat} {s : List Table} (hs : SchG s) {k : Nat} (hk : k < s.length) (id : Int) (db : List Data) (hdb : DbG I s db) (xs : List Ce) (τ : Store) (h : Holds L n s xs db τ) :
    Ok Tryz.prog 50 [.c (.ptr L.c L.vc 0 0), .c (.fp [.int .i64 (k : Int)]), .c (.fp [.int .i64 id])] τ (Done L n s (chgF s 13 (.del k id) db) τ) := by
  refine Ok.run0 mixed c_impl_DeleteRow_1_ok (Nat.le_of_ble_eq_true rfl) fun hS hA => ?_
  clear hS hA
  have hr := impRun (I := I) (L := L) (n := n) hs 13 0 (by decide) rfl
  have c1 := hr.del k id db xs τ h hdb hk
  generalize chgF s 13 (.del k id) db = q at c1 ⊢
  repeat' first|refine yaG ?_|(exfalso;omega)|(refine yaS ?_ ?_<;>intro _)
  refine .call _ rfl rfl rfl c1 ?_
  rintro r9 τ2 ⟨hr9, hk2, hq2⟩
  rw [hr9]
  repeat' first|refine yaG ?_|(exfalso;omega)|(refine yaS ?_ ?_<;>intro _)
  exact .ret rfl ⟨rfl, hk2, hq2⟩
theorem DeleteRow_new (s : List Table) (db : List Data) (n id : Int) (hx : s.length ≤ 34359738368) (hb : ∀ t ∈ s, bTable 34359738368 t) (hd : db.length ≤ 34359738368) (hdb : ∀ d ∈ db, bData 34359738368 d) (σ : Store) :
    Ok Tryz.prog 13 [.c (.fz (s.map encTable)), .c (.fz (db.map encData)), .c (.int .i64 n), .c (.int .i64 id)] σ (NewV σ (.tup [.c (.fz ((DelF s db n id).1.map encData)), .c (.int .i64 (DelF s db n id).2)])) := by
  refine Ok.newV (Ok.run0 mixed c_impl_DeleteRow_ok (Nat.le_of_ble_eq_true rfl) fun hS hA => ?_)
  clear hS hA
  have c1 := DbOk_ok s db hx hb hd hdb
  have c2 := isTable_ok s n hx
  rw [DelF]
  cases h1 : dbF s db
  · rw [h1] at c1
    rw [Bool.false_and, if_neg Bool.false_ne_true]
    repeat' first|refine yaG ?_|refine yaC (c1) ?_|refine yaC (c2) ?_|(exfalso;omega)|(refine yaS ?_ ?_<;>intro _)
    exact .ret rfl ⟨.refl, .two .nil⟩
  · rw [h1] at c1
    rw [Bool.true_and]
    cases h2 : isIn n 0 (s.length - 1)
    · rw [h2] at c2
      rw [if_neg Bool.false_ne_true]
      repeat' first|refine yaG ?_|refine yaC (c1) ?_|refine yaC (c2) ?_|(exfalso;omega)|(refine yaS ?_ ?_<;>intro _)
      exact .ret rfl ⟨.refl, .two .nil⟩
    · rw [h2] at c2
      rw [if_pos rfl]
      obtain ⟨h3, h4⟩ := isIn_at h2
      obtain ⟨k, rfl⟩ : ∃ k : Nat, n = (k : Int) := ⟨n.toNat, by omega⟩
      have hk : k < s.length := by omega
      rw [Int.toNat_natCast]
      have hs := schG (dbF_at h1).1 hb
      have hdg : DbG NoI s db := dbG h1 fun _ _ _ _ => trivial
      obtain ⟨b1, b2, b3⟩ := dbG_b hs hdg
      have hkp := chgF_keeps (I := NoI) hs 13 (.del k id) db hdg hk
      have cf := fun (σ' : Store) (L : ChL) (xs : List Ce) (τ : Store) (hH : Holds L σ.next s xs db τ) => DeleteRow1_ok hs hk id db hdg xs τ hH
      generalize chgF s 13 (.del k id) db = q at hkp cf ⊢
      repeat' first|refine yaG ?_|refine yaC (c1) ?_|refine yaC (c2) ?_|(exfalso;omega)|(refine yaS ?_ ?_<;>intro _)
      refine .call _ rfl rfl rfl (changed_ok s db (by omega) (fun d hd => ⟨(b3 d hd).2.1, fun r hr => ⟨((b3 d hd).2.2 r hr).1, by have := ((b3 d hd).2.2 r hr).2.1; omega⟩⟩) (fun d hd => (b3 d hd).1) _ _ _ q (fun h0 d hd => ((dbG_b hs (hkp h0)).2.2 d hd).1) σ (fun L xs τ hH => cf σ L xs τ hH)) ?_
      rintro r9 τ2 ⟨hK, x, hr9, hh⟩
      rw [hr9]
      repeat' first|refine yaG ?_|(exfalso;omega)|(refine yaS ?_ ?_<;>intro _)
      exact .ret rfl ⟨hK, .two hh⟩
theorem Fin.nil2 {σ : Store} {l : List (Nat × List (List Ce))} {z : Int} : Fin σ (.tup [.c (.fz []), .c (.int .i64 z)]) (.tup [.c .nils, .c (.int .i64 z)]) (E σ l) := by
  refine ⟨l, rfl, .tup rfl fun i hi => ?_⟩
  have hi2 : i < 2 := hi
  match i, hi2 with
  | 0, _ => exact .c .nil
  | 1, _ => exact .c (.same _ (.int _ _))
theorem old_top (l : List Data) (z : Int) (n : Nat) : ∀ y ∈ (AV.tup [.c (.fz (l.map encData)), .c (.int .i64 z)]).all, Old n y := fun y hy => by
  simp only [AV.all, AV.all.allL, List.append_nil, List.mem_append, List.mem_singleton] at hy
  rcases hy with rfl | rfl
  · exact old_fz1 (oldDatas _)
  · exact .int _ _
theorem sDeleteRow_ok (s : List Table) (db : List Data) (n id : Int) (hx : s.length ≤ 34359738368) (hb : ∀ t ∈ s, bTable 34359738368 t) (hd : db.length ≤ 34359738368) (hdb : ∀ d ∈ db, bData 34359738368 d) :
    Pure Tryz.prog 10 [.c (.fz (s.map encTable)), .c (.fz (db.map encData)), .c (.int .i64 n), .c (.int .i64 id)] (.tup [.c (.fz ((DelF s db n id).1.map encData)), .c (.int .i64 (DelF s db n id).2)]) := by
  refine Pure.run mixed c_spec_DeleteRow_ok (Nat.le_of_ble_eq_true rfl) fun σ hS hA => ?_
  clear hS hA
  have c1 := l6Ok_ok s db n hx hb hd hdb
  rw [DelF]
  cases h0 : (dbF s db && isIn n 0 (s.length - 1))
  · rw [h0] at c1
    rw [if_neg Bool.false_ne_true]
    repeat' first|refine yaG ?_|refine yaC (c1) ?_|(exfalso;omega)|(refine yaS ?_ ?_<;>intro _)
    exact .ret rfl .nil2
  · rw [h0] at c1
    rw [if_pos rfl]
    rw [Bool.and_eq_true] at h0
    obtain ⟨h1, h2⟩ := h0
    obtain ⟨h3, h4⟩ := isIn_at h2
    obtain ⟨k, rfl⟩ : ∃ k : Nat, n = (k : Int) := ⟨n.toNat, by omega⟩
    have hk : k < s.length := by omega
    rw [Int.toNat_natCast]
    have hs := schG (dbF_at h1).1 hb
    have hdg : DbG NoI s db := dbG h1 fun _ _ _ _ => trivial
    have hk2 : k < db.length := by rw [hdg.len]; exact hk
    have hcp : ∀ {x : List Data}, DbG NoI s x → Pure Tryz.prog 43 [.c (.fz (x.map encData))] (.c (.fz (x.map encData))) := fun {x} hg => by
      obtain ⟨b1, b2, b3⟩ := dbG_b hs hg
      exact l4Copy_ok x (by omega) fun d hd => ⟨(b3 d hd).2.1, fun r hr => by have := ((b3 d hd).2.2 r hr).2.1; omega⟩
    have c4 := hcp hdg
    have c2 := l4AtC_ok db[k] id (Nat.le_trans (hdg.rows k hk hk2).len (by decide))
    have hkp := chgF_keeps (I := NoI) hs 13 (.del k id) db hdg hk
    have hno : rowBy db[k].rows id = none → chgF s 13 (.del k id) db = ([], 9) := fun h => by rw [chgF, rowsN_at hk2, h]
    have c3 := fun x (h : rowBy db[k].rows id = some x) => (specRun (I := NoI) hs 13 0 (by decide) rfl).del k id db x hdg hk (by rw [rowsN_at hk2]; exact h)
    generalize chgF s 13 (.del k id) db = q at hkp hno c3 ⊢
    rcases rowBy_cases db[k].rows id with ⟨hx1, hx2⟩ | ⟨j, hj, hx1, hx2⟩
    · rw [hx1] at c2
      rw [hno hx2, topR, if_neg (by decide)]
      repeat' first|refine yaG ?_|((first|apply yG|apply yH|apply yI);exact rfl;(first|exact yX (enc := encData) rfl rfl rfl hk2 rfl))|refine yaC (c1) ?_|refine yaC (c2) ?_|refine yaC (c4) ?_|(exfalso;omega)|(refine yaS ?_ ?_<;>intro _)
      exact .ret rfl (Fin.same rfl (old_top _ _ _))
    · rw [hx1] at c2
      have c3 := c3 _ hx2
      rw [topR]
      by_cases hq : q.2 = 0
      · have c5 := hcp (hkp hq)
        rw [resV_zero hq] at c3
        rw [if_pos hq]
        generalize q.1 = d2 at c3 c5 ⊢
        repeat' first|refine yaG ?_|((first|apply yG|apply yH|apply yI);exact rfl;(first|exact yX (enc := encData) rfl rfl rfl hk2 rfl))|refine yaC (c1) ?_|refine yaC (c2) ?_|refine yaC (c3) ?_|refine yaC (c5) ?_|(exfalso;omega)|(refine yaS ?_ ?_<;>intro _)
        exact .ret rfl (Fin.same rfl (old_top _ _ _))
      · obtain ⟨e, he⟩ : ∃ e, q.2 = e := ⟨_, rfl⟩
        rw [he] at hq
        rw [resV_err he hq] at c3
        rw [he, if_neg hq]
        repeat' first|refine yaG ?_|((first|apply yG|apply yH|apply yI);exact rfl;(first|exact yX (enc := encData) rfl rfl rfl hk2 rfl))|refine yaC (c1) ?_|refine yaC (c2) ?_|refine yaC (c3) ?_|refine yaC (c4) ?_|(exfalso;omega)|(refine yaS ?_ ?_<;>intro _)
        exact .ret rfl (Fin.same rfl (old_top _ _ _))
theorem DeleteRow_fact (s : List Table) (db : List Data) (n id : Int) (hx : s.length ≤ 34359738368) (hb : ∀ t ∈ s, bTable 34359738368 t) (hd : db.length ≤ 34359738368) (hdb : ∀ d ∈ db, bData 34359738368 d) :
    (DelF s db n id).1.length ≤ 34359738368 ∧ (∀ x ∈ (DelF s db n id).1, bData 34359738368 x) ∧ 1 + cntL cntData (DelF s db n id).1 ≤ 34359738368 := by
  rw [DelF]
  split
  · rename_i h0
    rw [Bool.and_eq_true] at h0
    obtain ⟨h1, h2⟩ := h0
    have hs := schG (dbF_at h1).1 hb
    have hdg : DbG NoI s db := dbG h1 fun _ _ _ _ => trivial
    obtain ⟨h3, h4⟩ := isIn_at h2
    exact fact_of hs (topR_ok hs hdg fun h => chgF_keeps hs 13 (.del n.toNat id) db hdg (by show n.toNat < s.length; omega) h)
  · exact ⟨Nat.zero_le _, fun x hx => (by cases hx), by decide⟩
end Go.Proofs.YtmmgbgpglhbhcaaGreat.Am

/- Marks of a database that are held. -/
namespace Go.Proofs.YtmmgbgpglhbhcaaGreat.Am

theorem heldS_orD {α : Type} {h : α → Int → Int} {c : α → Int} (hh : ∀ a k, h a k = -1 ∨ h a k = k + c a) : ∀ (xs : List α) (k : Int), heldS h xs k = -1 ∨ heldS h xs k = k + cntL c xs
  | [], k => by simp [heldS, cntL]
  | a :: r, k => by
    simp only [heldS, cntL]
    split
    · exact .inl rfl
    · rename_i h0
      rcases hh a k with h1 | h1
      · omega
      · rw [h1]
        rcases heldS_orD hh r (k + c a) with h2 | h2
        · exact .inl h2
        · right; rw [h2]; omega
theorem heldV_orD (v : Val) (k : Int) : heldV v k = -1 ∨ heldV v k = k + 3 := by
  simp only [heldV]
  split
  · exact .inr rfl
  · exact .inl rfl
def heldR (r : RowD) (k : Int) : Int := if r.id = k then heldS heldV r.vals (k + 1) else -1
def heldD (d : Data) (k : Int) : Int := heldS heldR d.rows k
theorem heldR_mark (r : RowD) (k : Int) (hk : 0 ≤ k) : heldR (markRowD r k) k = k + cntRowD r := by
  have h := heldS_mark (c := fun _ => 3) heldV_mark (fun _ => by decide) r.vals (k + 1) (by omega)
  rw [heldR, cntRowD]
  show (if k = k then heldS heldV (markL markV (fun _ => 3) r.vals (k + 1)) (k + 1) else -1) = _
  rw [if_pos rfl, h]
  omega
theorem heldR_or (r : RowD) (k : Int) : heldR r k = -1 ∨ heldR r k = k + cntRowD r := by
  rw [heldR, cntRowD]
  split
  · rcases heldS_orD (c := fun _ => 3) heldV_orD r.vals (k + 1) with h | h
    · exact .inl h
    · right
      rw [h]
      omega
  · exact .inl rfl
theorem heldD_mark (d : Data) (k : Int) (hk : 0 ≤ k) : heldD (markData d k) k = k + cntData d := by
  rw [heldD, cntData, Int.zero_add]
  exact heldS_mark heldR_mark cntRowD_nonneg d.rows k hk
theorem heldRowS_ok (xs : List RowD) (k : Int) (hx : xs.length ≤ 34359738368) (hkl : ∀ e ∈ xs, e.vals.length ≤ 34359738368) (hk0 : 0 ≤ k) (hk : k + cntL cntRowD xs ≤ 34359738368) : Pure Tryz.prog 61 [.c (.fz (xs.map encRowD)), .c (.int .i64 k)] (.c (.int .i64 (heldS heldR xs k))) := by
  refine Pure.run mixed c_laws_heldRowS_ok (Nat.le_of_ble_eq_true rfl) fun σ hS hA => ?_
  clear hS hA
  repeat' first|refine yaG ?_|(exfalso;omega)|(refine yaS ?_ ?_<;>intro _)
  refine Go.keep [0, 1, 5] (Go.loops (I := fun m fr τ => ∃ i : Nat, ∃ n l : Int, m = xs.length - i ∧ i ≤ xs.length ∧ n = i ∧ (0 ≤ l ∧ l + cntL cntRowD (xs.drop i) ≤ 34359738368 ∧ heldS heldR xs k = heldS heldR (xs.drop i) l) ∧
    fr = [(0, .c (.fz (xs.map encRowD))), (1, .c (.int .i64 l)), (5, .c (.int .i64 n))] ∧ τ = E σ []) ?_ _ _ _ ⟨0, _, _, rfl, Nat.zero_le _, rfl, ⟨hk0, by simpa using hk, rfl⟩, rfl, rfl⟩)
  rintro m fr τ ⟨i, n, l, rfl, hi, hn, ⟨hl0, hl, hsl⟩, rfl, rfl⟩ hrec
  by_cases hlt : i < xs.length
  · have hdr := List.drop_eq_getElem_cons hlt
    have hn0 := cntL_nonneg cntRowD_nonneg (xs.drop (i + 1))
    have hn1 := cntL_nonneg (c := fun _ : Val => 3) (fun _ => by decide) xs[i].vals
    rw [hdr] at hl
    simp only [cntL, cntRowD] at hl
    rw [hdr, heldS, heldR] at hsl
    have hor := heldS_orD (c := fun _ => 3) heldV_orD xs[i].vals (l + 1)
    have hc := heldValS_ok xs[i].vals (l + 1) (hkl _ (List.getElem_mem hlt)) (by omega) (by omega)
    have hw : IntKind.i64.wrap (l + 1) = l + 1 := wrap64 (by omega) (by omega)
    have hl2 : cntL cntRowD (xs.drop (i + 1)) + (l + 1 + cntL (fun _ => 3) xs[i].vals) ≤ 34359738368 := by
      have e : cntL cntRowD (xs.drop (i + 1)) = cntL cntRowD (xs.drop (i + 1)) := rfl
      omega
    generalize heldS heldV xs[i].vals (l + 1) = l1 at hc hor hsl
    rw [← hw] at hc
    by_cases h0 : xs[i].id = l
    · rw [if_pos h0] at hsl
      repeat' first|refine yaG ?_|((first|apply yG|apply yH|apply yI);exact rfl;(first|exact yX (enc := encRowD) rfl rfl hn hlt rfl))|refine yaC (hc) ?_|(exfalso;omega)|(refine yaS ?_ ?_<;>intro _)
      all_goals first
        | (exfalso; omega)
        | contradiction
        | skip
      · rename_i h1
        rw [if_pos h1] at hsl
        exact .ret rfl (.int hsl.symm)
      · rename_i h1
        rw [if_neg h1] at hsl
        exact Go.keep [0, 1, 5] (hrec _ _ _ (by omega) ⟨i + 1, _, _, rfl, hlt, wrap_succ hn (by omega), ⟨by omega, by omega, hsl⟩, rfl, rfl⟩)
    · rw [if_neg h0] at hsl
      repeat' first|refine yaG ?_|((first|apply yG|apply yH|apply yI);exact rfl;(first|exact yX (enc := encRowD) rfl rfl hn hlt rfl))|refine yaC (hc) ?_|(exfalso;omega)|(refine yaS ?_ ?_<;>intro _)
      all_goals first
        | (exfalso; omega)
        | contradiction
        | skip
      exact .ret rfl (.int hsl.symm)
  · repeat' first|refine yaG ?_|(exfalso;omega)|(refine yaS ?_ ?_<;>intro _)
    refine .ret rfl (.int ?_)
    rw [hsl, List.drop_eq_nil_of_le (by omega)]
    rfl
theorem heldDataS_ok (xs : List Data) (k : Int) (hx : xs.length ≤ 34359738368) (hkl : ∀ e ∈ xs, e.rows.length ≤ 34359738368 ∧ ∀ r ∈ e.rows, r.vals.length ≤ 34359738368) (hk0 : 0 ≤ k) (hk : k + cntL cntData xs ≤ 34359738368) : Pure Tryz.prog 18 [.c (.fz (xs.map encData)), .c (.int .i64 k)] (.c (.int .i64 (heldS heldD xs k))) := by
  refine Pure.run mixed c_laws_heldDataS_ok (Nat.le_of_ble_eq_true rfl) fun σ hS hA => ?_
  clear hS hA
  repeat' first|refine yaG ?_|(exfalso;omega)|(refine yaS ?_ ?_<;>intro _)
  refine Go.keep [0, 1, 5] (Go.loops (I := fun m fr τ => ∃ i : Nat, ∃ n l : Int, m = xs.length - i ∧ i ≤ xs.length ∧ n = i ∧ (0 ≤ l ∧ l + cntL cntData (xs.drop i) ≤ 34359738368 ∧ heldS heldD xs k = heldS heldD (xs.drop i) l) ∧
    fr = [(0, .c (.fz (xs.map encData))), (1, .c (.int .i64 l)), (5, .c (.int .i64 n))] ∧ τ = E σ []) ?_ _ _ _ ⟨0, _, _, rfl, Nat.zero_le _, rfl, ⟨hk0, by simpa using hk, rfl⟩, rfl, rfl⟩)
  rintro m fr τ ⟨i, n, l, rfl, hi, hn, ⟨hl0, hl, hsl⟩, rfl, rfl⟩ hrec
  by_cases hlt : i < xs.length
  · have hdr := List.drop_eq_getElem_cons hlt
    have hn0 := cntL_nonneg cntData_nonneg (xs.drop (i + 1))
    have hn1 := cntL_nonneg cntRowD_nonneg xs[i].rows
    rw [hdr] at hl
    simp only [cntL, cntData, Int.zero_add] at hl
    rw [hdr, heldS, heldD] at hsl
    have hor := heldS_orD heldR_or xs[i].rows l
    have hk1 := hkl _ (List.getElem_mem hlt)
    have hl2 : cntL cntData (xs.drop (i + 1)) + (l + cntL cntRowD xs[i].rows) ≤ 34359738368 := by
      have e : cntL cntData (xs.drop (i + 1)) = cntL (fun a => cntL cntRowD a.rows) (xs.drop (i + 1)) := by
        congr 1
        funext a
        exact Int.zero_add _
      omega
    have hc := heldRowS_ok xs[i].rows l hk1.1 hk1.2 hl0 (by omega)
    generalize heldS heldR xs[i].rows l = l1 at hc hor hsl
    repeat' first|refine yaG ?_|((first|apply yG|apply yH|apply yI);exact rfl;(first|exact yX (enc := encData) rfl rfl hn hlt rfl))|refine yaC (hc) ?_|(exfalso;omega)|(refine yaS ?_ ?_<;>intro _)
    · rename_i h1
      rw [if_pos h1] at hsl
      exact .ret rfl (.int hsl.symm)
    · rename_i h1
      rw [if_neg h1] at hsl
      exact Go.keep [0, 1, 5] (hrec _ _ _ (by omega) ⟨i + 1, _, _, rfl, hlt, wrap_succ hn (by omega), ⟨by omega, by omega, hsl⟩, rfl, rfl⟩)
  · repeat' first|refine yaG ?_|(exfalso;omega)|(refine yaS ?_ ?_<;>intro _)
    refine .ret rfl (.int ?_)
    rw [hsl, List.drop_eq_nil_of_le (by omega)]
    rfl
theorem markRowS_b : ∀ (ws : List RowD) (k : Int), (∀ x ∈ ws, bRowD 34359738368 x) → (∀ e ∈ markL markRowD cntRowD ws k, e.vals.length ≤ 34359738368) ∧ cntL cntRowD (markL markRowD cntRowD ws k) = cntL cntRowD ws
  | [], k, _ => ⟨fun e he => (by cases he), rfl⟩
  | a :: ws, k, h => by
    obtain ⟨i1, i2⟩ := markRowS_b ws (k + cntRowD a) fun x hx => h x (by simp [hx])
    have hml : (markRowD a k).vals.length = a.vals.length := markL_length
    refine ⟨fun e he => ?_, ?_⟩
    · rw [markL] at he
      rcases List.mem_cons.1 he with rfl | he
      · rw [hml]; exact (h a (by simp)).1
      · exact i1 e he
    · rw [markL, cntL, cntL, i2, cntRowD, cntRowD, cnt3, cnt3, hml]
theorem markDataS_b : ∀ (ws : List Data) (k : Int), (∀ x ∈ ws, bData 34359738368 x) → (∀ e ∈ markL markData cntData ws k, e.rows.length ≤ 34359738368 ∧ ∀ r ∈ e.rows, r.vals.length ≤ 34359738368) ∧ cntL cntData (markL markData cntData ws k) = cntL cntData ws
  | [], k, _ => ⟨fun e he => (by cases he), rfl⟩
  | a :: ws, k, h => by
    obtain ⟨i1, i2⟩ := markDataS_b ws (k + cntData a) fun x hx => h x (by simp [hx])
    have ha := h a (by simp)
    obtain ⟨j1, j2⟩ := markRowS_b a.rows k ha.2
    have hml : (markData a k).rows.length = a.rows.length := markL_length
    refine ⟨fun e he => ?_, ?_⟩
    · rw [markL] at he
      rcases List.mem_cons.1 he with rfl | he
      · exact ⟨by rw [hml]; exact ha.1, j1⟩
      · exact i1 e he
    · have e1 : cntData (markData a k) = cntData a := by
        rw [cntData, cntData]
        exact congrArg (0 + ·) j2
      rw [markL, cntL, cntL, i2, e1]
theorem heldDataS_at (ws : List Data) (w1 : ws.length ≤ 34359738368) (w2 : ∀ x ∈ ws, bData 34359738368 x) (w3 : 1 + cntL cntData ws ≤ 34359738368) : Pure Tryz.prog 18 [.c (.fz ((markL markData cntData ws 1).map encData)), .c (.int .i64 1)] (.c (.int .i64 (1 + cntL cntData ws))) := by
  obtain ⟨h2, h3⟩ := markDataS_b ws 1 w2
  have := heldDataS_ok (markL markData cntData ws 1) 1 (by rw [markL_length]; exact w1) h2 (by decide) (by rw [h3]; exact w3)
  rw [heldS_mark heldD_mark cntData_nonneg ws 1 (by decide)] at this
  exact this
theorem heldDataS_nn (ws : List Data) : 0 ≤ cntL cntData ws := cntL_nonneg cntData_nonneg ws
end Go.Proofs.YtmmgbgpglhbhcaaGreat.Am

/- What the rows say of values and entries. -/
namespace Go.Proofs.YtmmgbgpglhbhcaaGreat.Am
open Go.RowKit Go.ChangeShapes Go.WideShapes

section
variable {H : Type} {enc : TypeId × Value → H} {W : World}
theorem openV : Opens enc Tryz.prog W 114 encV LenV := 
  (Opens.struct (s := 3) Tryz.underlying114 (.cons (s := 1) rfl (.int Tryz.underlying2) rfl (fun _ => rfl) (.cons (s := 1) rfl (.int Tryz.underlying2) rfl (fun _ => rfl) (.cons (s := 1) rfl (.str Tryz.underlying9) rfl (fun _ => rfl) .nil))) (by kernel_rfl) (fun _ => rfl)).iso (fun p => Val.mk p.1 p.2.1 p.2.2.1) (fun _ => rfl) fun p h => Nat.le_trans h.2.2.1 (by decide)
theorem openVs : Opens enc Tryz.prog W 37 (fun l : List Val => [.fz (l.map encV)]) (fun l => l.length ≤ 140737488351232 ∧ ∀ v ∈ l, LenV v) :=
  (Opens.slice (s := 3) Tryz.underlying37 openV (by kernel_rfl) (by decide) (fun _ => rfl)).iso id (fun _ => rfl) fun l h => ⟨Nat.le_trans (Nat.le_mul_of_pos_right _ (of_decide_eq_true (by kernel_rfl))) h.1, h.2⟩
end
end Go.Proofs.YtmmgbgpglhbhcaaGreat.Am

/- The laws' helpers on types, printed by a program: Tok, Check, Unique, Fk, Col, Table, Term, Select, Trigger, Set, Row, Stmt. -/
namespace Go.Proofs.YtmmgbgpglhbhcaaGreat.Am
open Go.RowKit Go.ChangeShapes Go.WideShapes
section
variable {H : Type} {enc : TypeId × Value → H} {W : World}
theorem openIs : Opens enc Tryz.prog W 74 (fun l : List Int => [.fz (l.map encI)]) (fun l => l.length ≤ 140737488351232) :=
  (Opens.slice (s := 1) Tryz.underlying74 (.int Tryz.underlying2) (by kernel_rfl) (by decide) (fun _ => rfl)).iso id (fun _ => rfl) fun l h => Nat.le_trans (Nat.le_mul_of_pos_right _ (of_decide_eq_true (by kernel_rfl))) h.1
theorem openTok : Opens enc Tryz.prog W 210 encTok (bTok 1125899906842624) :=
  (Opens.struct (s := 5) Tryz.underlying210 (.cons (s := 1) rfl (.int Tryz.underlying2) rfl (fun _ => rfl) (.cons (s := 1) rfl (.int Tryz.underlying2) rfl (fun _ => rfl) (.cons (s := 3) rfl openV rfl (fun _ => rfl) .nil))) (by kernel_rfl) (fun _ => rfl)).iso (fun p => Tok.mk p.1 p.2.1 p.2.2.1) (fun _ => rfl) fun p h => h.2.2.1
theorem openToks : Opens enc Tryz.prog W 49 (fun l : List Tok => [.fz (l.map encTok)]) (fun l => l.length ≤ 140737488351232 ∧ ∀ v ∈ l, bTok 1125899906842624 v) :=
  (Opens.slice (s := 5) Tryz.underlying49 openTok (by kernel_rfl) (by decide) (fun _ => rfl)).iso id (fun _ => rfl) fun l h => ⟨Nat.le_trans (Nat.le_mul_of_pos_right _ (of_decide_eq_true (by kernel_rfl))) h.1, h.2⟩
theorem openChk : Opens enc Tryz.prog W 255 encChk (bChk 1125899906842624) :=
  (Opens.struct (s := 1) Tryz.underlying255 (.cons (s := 1) rfl openToks rfl (fun _ => rfl) .nil) (by kernel_rfl) (fun _ => rfl)).iso (fun p => Chk.mk p.1) (fun _ => rfl) fun p h => ⟨Nat.le_trans h.1.1 (by decide), h.1.2⟩
theorem openChks : Opens enc Tryz.prog W 76 (fun l : List Chk => [.fz (l.map encChk)]) (fun l => l.length ≤ 140737488351232 ∧ ∀ v ∈ l, bChk 1125899906842624 v) :=
  (Opens.slice (s := 1) Tryz.underlying76 openChk (by kernel_rfl) (by decide) (fun _ => rfl)).iso id (fun _ => rfl) fun l h => ⟨Nat.le_trans (Nat.le_mul_of_pos_right _ (of_decide_eq_true (by kernel_rfl))) h.1, h.2⟩
theorem openUniq : Opens enc Tryz.prog W 252 encUniq (bUniq 1125899906842624) :=
  (Opens.struct (s := 1) Tryz.underlying252 (.cons (s := 1) rfl openIs rfl (fun _ => rfl) .nil) (by kernel_rfl) (fun _ => rfl)).iso (fun p => Uniq.mk p.1) (fun _ => rfl) fun p h => Nat.le_trans h.1 (by decide)
theorem openUniqs : Opens enc Tryz.prog W 75 (fun l : List Uniq => [.fz (l.map encUniq)]) (fun l => l.length ≤ 140737488351232 ∧ ∀ v ∈ l, bUniq 1125899906842624 v) :=
  (Opens.slice (s := 1) Tryz.underlying75 openUniq (by kernel_rfl) (by decide) (fun _ => rfl)).iso id (fun _ => rfl) fun l h => ⟨Nat.le_trans (Nat.le_mul_of_pos_right _ (of_decide_eq_true (by kernel_rfl))) h.1, h.2⟩
theorem openFk : Opens enc Tryz.prog W 257 encFk (bFk 1125899906842624) :=
  (Opens.struct (s := 5) Tryz.underlying257 (.cons (s := 1) rfl openIs rfl (fun _ => rfl) (.cons (s := 1) rfl (.str Tryz.underlying9) rfl (fun _ => rfl) (.cons (s := 1) rfl (.int Tryz.underlying2) rfl (fun _ => rfl) (.cons (s := 1) rfl (.int Tryz.underlying2) rfl (fun _ => rfl) (.cons (s := 1) rfl (.bool Tryz.underlying4) rfl (fun _ => rfl) .nil))))) (by kernel_rfl) (fun _ => rfl)).iso (fun p => Fk.mk p.1 p.2.1 p.2.2.1 p.2.2.2.1 p.2.2.2.2.1) (fun _ => rfl) fun p h => ⟨Nat.le_trans h.1 (by decide), Nat.le_trans h.2.1 (by decide)⟩
theorem openFks : Opens enc Tryz.prog W 77 (fun l : List Fk => [.fz (l.map encFk)]) (fun l => l.length ≤ 140737488351232 ∧ ∀ v ∈ l, bFk 1125899906842624 v) :=
  (Opens.slice (s := 5) Tryz.underlying77 openFk (by kernel_rfl) (by decide) (fun _ => rfl)).iso id (fun _ => rfl) fun l h => ⟨Nat.le_trans (Nat.le_mul_of_pos_right _ (of_decide_eq_true (by kernel_rfl))) h.1, h.2⟩
theorem openCol : Opens enc Tryz.prog W 250 encCol (bCol 1125899906842624) :=
  (Opens.struct (s := 6) Tryz.underlying250 (.cons (s := 1) rfl (.str Tryz.underlying9) rfl (fun _ => rfl) (.cons (s := 1) rfl (.int Tryz.underlying2) rfl (fun _ => rfl) (.cons (s := 1) rfl (.bool Tryz.underlying4) rfl (fun _ => rfl) (.cons (s := 3) rfl openV rfl (fun _ => rfl) .nil)))) (by kernel_rfl) (fun _ => rfl)).iso (fun p => Col.mk p.1 p.2.1 p.2.2.1 p.2.2.2.1) (fun _ => rfl) fun p h => ⟨Nat.le_trans h.1 (by decide), h.2.2.2.1⟩
theorem openCols : Opens enc Tryz.prog W 73 (fun l : List Col => [.fz (l.map encCol)]) (fun l => l.length ≤ 140737488351232 ∧ ∀ v ∈ l, bCol 1125899906842624 v) :=
  (Opens.slice (s := 6) Tryz.underlying73 openCol (by kernel_rfl) (by decide) (fun _ => rfl)).iso id (fun _ => rfl) fun l h => ⟨Nat.le_trans (Nat.le_mul_of_pos_right _ (of_decide_eq_true (by kernel_rfl))) h.1, h.2⟩
theorem openTable : Opens enc Tryz.prog W 79 encTable (bTable 1125899906842624) :=
  (Opens.struct (s := 6) Tryz.underlying79 (.cons (s := 1) rfl (.str Tryz.underlying9) rfl (fun _ => rfl) (.cons (s := 1) rfl openCols rfl (fun _ => rfl) (.cons (s := 1) rfl openIs rfl (fun _ => rfl) (.cons (s := 1) rfl openUniqs rfl (fun _ => rfl) (.cons (s := 1) rfl openChks rfl (fun _ => rfl) (.cons (s := 1) rfl openFks rfl (fun _ => rfl) .nil)))))) (by kernel_rfl) (fun _ => rfl)).iso (fun p => Table.mk p.1 p.2.1 p.2.2.1 p.2.2.2.1 p.2.2.2.2.1 p.2.2.2.2.2.1) (fun _ => rfl) fun p h => ⟨Nat.le_trans h.1 (by decide), ⟨Nat.le_trans h.2.1.1 (by decide), h.2.1.2⟩, Nat.le_trans h.2.2.1 (by decide), ⟨Nat.le_trans h.2.2.2.1.1 (by decide), h.2.2.2.1.2⟩, ⟨Nat.le_trans h.2.2.2.2.1.1 (by decide), h.2.2.2.2.1.2⟩, ⟨Nat.le_trans h.2.2.2.2.2.1.1 (by decide), h.2.2.2.2.2.1.2⟩⟩
theorem openTables : Opens enc Tryz.prog W 22 (fun l : List Table => [.fz (l.map encTable)]) (fun l => l.length ≤ 140737488351232 ∧ ∀ v ∈ l, bTable 1125899906842624 v) :=
  (Opens.slice (s := 6) Tryz.underlying22 openTable (by kernel_rfl) (by decide) (fun _ => rfl)).iso id (fun _ => rfl) fun l h => ⟨Nat.le_trans (Nat.le_mul_of_pos_right _ (of_decide_eq_true (by kernel_rfl))) h.1, h.2⟩
theorem openRowD : Opens enc Tryz.prog W 207 encRowD (bRowD 1125899906842624) :=
  (Opens.struct (s := 2) Tryz.underlying207 (.cons (s := 1) rfl (.int Tryz.underlying2) rfl (fun _ => rfl) (.cons (s := 1) rfl openVs rfl (fun _ => rfl) .nil)) (by kernel_rfl) (fun _ => rfl)).iso (fun p => RowD.mk p.1 p.2.1) (fun _ => rfl) fun p h => ⟨Nat.le_trans h.2.1.1 (by decide), h.2.1.2⟩
theorem openRowDs : Opens enc Tryz.prog W 48 (fun l : List RowD => [.fz (l.map encRowD)]) (fun l => l.length ≤ 140737488351232 ∧ ∀ v ∈ l, bRowD 1125899906842624 v) :=
  (Opens.slice (s := 2) Tryz.underlying48 openRowD (by kernel_rfl) (by decide) (fun _ => rfl)).iso id (fun _ => rfl) fun l h => ⟨Nat.le_trans (Nat.le_mul_of_pos_right _ (of_decide_eq_true (by kernel_rfl))) h.1, h.2⟩
end
end Go.Proofs.YtmmgbgpglhbhcaaGreat.Am

/- The laws' helpers on types, printed by a program: Data, Line, Save, Session. -/
namespace Go.Proofs.YtmmgbgpglhbhcaaGreat.Am
open Go.RowKit Go.ChangeShapes Go.WideShapes
section
variable {H : Type} {enc : TypeId × Value → H} {W : World}
theorem openData : Opens enc Tryz.prog W 82 encData (bData 1125899906842624) :=
  (Opens.struct (s := 1) Tryz.underlying82 (.cons (s := 1) rfl openRowDs rfl (fun _ => rfl) .nil) (by kernel_rfl) (fun _ => rfl)).iso (fun p => Data.mk p.1) (fun _ => rfl) fun p h => ⟨Nat.le_trans h.1.1 (by decide), h.1.2⟩
theorem openDatas : Opens enc Tryz.prog W 23 (fun l : List Data => [.fz (l.map encData)]) (fun l => l.length ≤ 140737488351232 ∧ ∀ v ∈ l, bData 1125899906842624 v) :=
  (Opens.slice (s := 1) Tryz.underlying23 openData (by kernel_rfl) (by decide) (fun _ => rfl)).iso id (fun _ => rfl) fun l h => ⟨Nat.le_trans (Nat.le_mul_of_pos_right _ (of_decide_eq_true (by kernel_rfl))) h.1, h.2⟩
end
end Go.Proofs.YtmmgbgpglhbhcaaGreat.Am

/- Changes: UpdateRow, by the program and by the reference. -/
namespace Go.Proofs.YtmmgbgpglhbhcaaGreat.Am
variable {I : Nat → Int → Prop}

theorem UpdateRow1_ok {L : ChL} {n : Nat} {s : List Table} (hs : SchG s) {k : Nat} (hk : k < s.length) (id : Int) (vals : List Val) (rep : Bool) (hl : vals.length = s[k].cols.length) (hv : areVals vals 16 = true) (db : List Data) (hdb : DbG I s db) (xs : List Ce) (τ : Store) (h : Holds L n s xs db τ) :
    Ok Tryz.prog 68 [.c (.ptr L.c L.vc 0 0), .c (.fp [.int .i64 (k : Int)]), .c (.fp [.int .i64 id]), .c (.fp [.fz (vals.map encV)]), .c (.fp [.bool rep])] τ (Done L n s (if (rowBy (rowsN db k) id).isNone = true then ([], 9) else chgF s 13 (.upd k id vals rep) db) τ) := by
  refine Ok.run0 mixed c_impl_UpdateRow_1_ok (Nat.le_of_ble_eq_true rfl) fun hS hA => ?_
  clear hS hA
  have hk2 : k < db.length := by rw [hdb.len]; exact hk
  have hk3 : k < xs.length := by rw [h.len]; exact hk2
  have hr := impRun (I := I) (L := L) (n := n) hs 13 0 (by decide) rfl
  have c1 := hr.upd k id vals rep db xs τ h hdb ⟨hk, hl, hv⟩
  generalize chgF s 13 (.upd k id vals rep) db = q at c1 ⊢
  have cf := find_at h hk2 hk3 id (hdb.rows k hk hk2).len
  rw [rowsN_at hk2]
  repeat' first|refine yaG ?_|(exfalso;omega)|(refine yaS ?_ ?_<;>intro _)
  rcases rowBy_cases db[k].rows id with ⟨hx1, hx2⟩ | ⟨j, hj, hx1, hx2⟩
  · rw [hx2, if_pos (show (none : Option RowD).isNone = true from rfl)]
    refine .call _ rfl rfl rfl (cf.1 hx2) ?_
    rintro r9 τ9 ⟨hr9, ht9⟩
    rw [hr9, ht9]
    repeat' first|refine yaG ?_|(exfalso;omega)|(refine yaS ?_ ?_<;>intro _)
    exact .ret rfl ⟨rfl, .refl, fun h => by cases h⟩
  · rw [hx2, if_neg (show ¬ (some db[k].rows[j]).isNone = true from Bool.false_ne_true)]
    obtain ⟨lab2, ps2, id2, v2, junk2, hat, hl2⟩ := h.some hk2 hk3 (Nat.lt_of_le_of_lt (Nat.zero_le _) hj)
    refine .call _ rfl rfl rfl (cf.2 j hj hx1 _ _ _ _ _ hat) ?_
    rintro r9 τ9 ⟨hr9, ht9⟩
    rw [hr9, ht9]
    repeat' first|refine yaG ?_|(exfalso;omega)|(refine yaS ?_ ?_<;>intro _)
    refine .call _ rfl rfl rfl c1 ?_
    rintro r9 τ2 ⟨hr9, hk2, hq2⟩
    rw [hr9]
    repeat' first|refine yaG ?_|(exfalso;omega)|(refine yaS ?_ ?_<;>intro _)
    exact .ret rfl ⟨rfl, hk2, hq2⟩
theorem topR_none {s : List Table} {db : List Data} {k : Nat} {id : Int} {q : Res} : topR db (if (rowBy (rowsN db k) id).isNone = true then ([], 9) else q) = if (rowBy (rowsN db k) id).isNone = true then (db, 9) else topR db q := by
  split
  · rw [topR, if_neg (by decide)]
  · rfl
theorem UpdateRow_new (s : List Table) (db : List Data) (n id : Int) (vals : List Val) (rep : Bool) (hx : s.length ≤ 34359738368) (hb : ∀ t ∈ s, bTable 34359738368 t) (hd : db.length ≤ 34359738368) (hdb : ∀ d ∈ db, bData 34359738368 d) (hv : vals.length ≤ 34359738368) (hv2 : ∀ v ∈ vals, bV 34359738368 v) (σ : Store) :
    Ok Tryz.prog 22 [.c (.fz (s.map encTable)), .c (.fz (db.map encData)), .c (.int .i64 n), .c (.int .i64 id), .c (.fz (vals.map encV)), .c (.bool rep)] σ (NewV σ (.tup [.c (.fz ((UpdF s db n id vals rep).1.map encData)), .c (.int .i64 (UpdF s db n id vals rep).2)])) := by
  refine Ok.newV (Ok.run0 mixed c_impl_UpdateRow_ok (Nat.le_of_ble_eq_true rfl) fun hS hA => ?_)
  clear hS hA
  have c1 := DbOk_ok s db hx hb hd hdb
  have c2 := isTable_ok s n hx
  rw [UpdF]
  cases h1 : dbF s db
  · rw [h1] at c1
    rw [Bool.false_and, if_neg Bool.false_ne_true]
    repeat' first|refine yaG ?_|refine yaC (c1) ?_|refine yaC (c2) ?_|(exfalso;omega)|(refine yaS ?_ ?_<;>intro _)
    exact .ret rfl ⟨.refl, .two .nil⟩
  · rw [h1] at c1
    rw [Bool.true_and]
    cases h2 : isIn n 0 (s.length - 1)
    · rw [h2] at c2
      rw [Bool.false_and, if_neg Bool.false_ne_true]
      repeat' first|refine yaG ?_|refine yaC (c1) ?_|refine yaC (c2) ?_|(exfalso;omega)|(refine yaS ?_ ?_<;>intro _)
      exact .ret rfl ⟨.refl, .two .nil⟩
    · rw [h2] at c2
      rw [Bool.true_and]
      obtain ⟨h3, h4⟩ := isIn_at h2
      obtain ⟨k, rfl⟩ : ∃ k : Nat, n = (k : Int) := ⟨n.toNat, by omega⟩
      have hk : k < s.length := by omega
      rw [Int.toNat_natCast, tabN_at hk]
      have c3 := fit_ok s[k] vals hv
      cases hf : fitF s[k] vals
      · rw [hf] at c3
        rw [if_neg Bool.false_ne_true]
        repeat' first|refine yaG ?_|((first|apply yG|apply yH|apply yI);exact rfl;(first|exact yX (enc := encTable) rfl rfl rfl hk rfl))|refine yaC (c1) ?_|refine yaC (c2) ?_|refine yaC (c3) ?_|(exfalso;omega)|(refine yaS ?_ ?_<;>intro _)
        exact .ret rfl ⟨.refl, .two .nil⟩
      · rw [hf] at c3
        rw [if_pos rfl, ← topR_none (s := s)]
        have hs := schG (dbF_at h1).1 hb
        have hdg : DbG NoI s db := dbG h1 fun _ _ _ _ => trivial
        obtain ⟨b1, b2, b3⟩ := dbG_b hs hdg
        have hl := (fitF_vals hf).1
        have hva := fitF_are hf (hs.tab _ (List.getElem_mem hk)).cols8
        have hkp := chgF_keeps (I := NoI) hs 13 (.upd k id vals rep) db hdg ⟨hk, hl, hva⟩
        have cf := fun (σ' : Store) (L : ChL) (xs : List Ce) (τ : Store) (hH : Holds L σ.next s xs db τ) => UpdateRow1_ok hs hk id vals rep hl hva db hdg xs τ hH
        have hkq : ∀ {q : Res}, (q.2 = 0 → DbG NoI s q.1) → (if (rowBy (rowsN db k) id).isNone = true then (([], 9) : Res) else q).2 = 0 → DbG NoI s (if (rowBy (rowsN db k) id).isNone = true then (([], 9) : Res) else q).1 := fun {q} hq => by
          split
          · intro h
            cases h
          · exact hq
        have hkp := hkq hkp
        generalize (if (rowBy (rowsN db k) id).isNone = true then (([], 9) : Res) else chgF s 13 (.upd k id vals rep) db) = q at hkp cf ⊢
        repeat' first|refine yaG ?_|((first|apply yG|apply yH|apply yI);exact rfl;(first|exact yX (enc := encTable) rfl rfl rfl hk rfl))|refine yaC (c1) ?_|refine yaC (c2) ?_|refine yaC (c3) ?_|(exfalso;omega)|(refine yaS ?_ ?_<;>intro _)
        refine .call _ rfl rfl rfl (changed_ok s db (by omega) (fun d hd => ⟨(b3 d hd).2.1, fun r hr => ⟨((b3 d hd).2.2 r hr).1, by have := ((b3 d hd).2.2 r hr).2.1; omega⟩⟩) (fun d hd => (b3 d hd).1) _ _ _ q (fun h0 d hd => ((dbG_b hs (hkp h0)).2.2 d hd).1) σ (fun L xs τ hH => cf σ L xs τ hH)) ?_
        rintro r9 τ2 ⟨hK, x, hr9, hh⟩
        rw [hr9]
        repeat' first|refine yaG ?_|(exfalso;omega)|(refine yaS ?_ ?_<;>intro _)
        exact .ret rfl ⟨hK, .two hh⟩
theorem sUpdateRow_ok (s : List Table) (db : List Data) (n id : Int) (vals : List Val) (rep : Bool) (hx : s.length ≤ 34359738368) (hb : ∀ t ∈ s, bTable 34359738368 t) (hd : db.length ≤ 34359738368) (hdb : ∀ d ∈ db, bData 34359738368 d) (hv : vals.length ≤ 34359738368) (hv2 : ∀ v ∈ vals, bV 34359738368 v) :
    Pure Tryz.prog 20 [.c (.fz (s.map encTable)), .c (.fz (db.map encData)), .c (.int .i64 n), .c (.int .i64 id), .c (.fz (vals.map encV)), .c (.bool rep)] (.tup [.c (.fz ((UpdF s db n id vals rep).1.map encData)), .c (.int .i64 (UpdF s db n id vals rep).2)]) := by
  refine Pure.run mixed c_spec_UpdateRow_ok (Nat.le_of_ble_eq_true rfl) fun σ hS hA => ?_
  clear hS hA
  have c1 := l6Ok_ok s db n hx hb hd hdb
  rw [UpdF, ← Bool.and_assoc]
  cases h0 : (dbF s db && isIn n 0 (s.length - 1))
  · rw [h0] at c1
    rw [Bool.false_and, if_neg Bool.false_ne_true]
    repeat' first|refine yaG ?_|refine yaC (c1) ?_|(exfalso;omega)|(refine yaS ?_ ?_<;>intro _)
    exact .ret rfl .nil2
  · rw [h0] at c1
    rw [Bool.true_and]
    rw [Bool.and_eq_true] at h0
    obtain ⟨h1, h2⟩ := h0
    obtain ⟨h3, h4⟩ := isIn_at h2
    obtain ⟨k, rfl⟩ : ∃ k : Nat, n = (k : Int) := ⟨n.toNat, by omega⟩
    have hk : k < s.length := by omega
    rw [Int.toNat_natCast, tabN_at hk]
    have c7 := l4Kinds_ok s[k] vals hv
    cases hf : fitF s[k] vals
    · rw [hf] at c7
      rw [if_neg Bool.false_ne_true]
      repeat' first|refine yaG ?_|((first|apply yG|apply yH|apply yI);exact rfl;(first|exact yX (enc := encTable) rfl rfl rfl hk rfl))|refine yaC (c1) ?_|refine yaC (c7) ?_|(exfalso;omega)|(refine yaS ?_ ?_<;>intro _)
      exact .ret rfl .nil2
    · rw [hf] at c7
      rw [if_pos rfl]
      have hs := schG (dbF_at h1).1 hb
      have hdg : DbG NoI s db := dbG h1 fun _ _ _ _ => trivial
      have hk2 : k < db.length := by rw [hdg.len]; exact hk
      have hl := (fitF_vals hf).1
      have hva := fitF_are hf (hs.tab _ (List.getElem_mem hk)).cols8
      have hcp : ∀ {x : List Data}, DbG NoI s x → Pure Tryz.prog 43 [.c (.fz (x.map encData))] (.c (.fz (x.map encData))) := fun {x} hg => by
        obtain ⟨b1, b2, b3⟩ := dbG_b hs hg
        exact l4Copy_ok x (by omega) fun d hd => ⟨(b3 d hd).2.1, fun r hr => by have := ((b3 d hd).2.2 r hr).2.1; omega⟩
      have c4 := hcp hdg
      have c2 := l4AtC_ok db[k] id (Nat.le_trans (hdg.rows k hk hk2).len (by decide))
      have c8 := l1CopyVals_pure vals hv
      have hkp := chgF_keeps (I := NoI) hs 13 (.upd k id vals rep) db hdg ⟨hk, hl, hva⟩
      have c3 := (specRun (I := NoI) hs 13 0 (by decide) rfl).upd k id vals rep db hdg ⟨hk, hl, hva⟩
      generalize chgF s 13 (.upd k id vals rep) db = q at hkp c3 ⊢
      rw [rowsN_at hk2]
      rcases rowBy_cases db[k].rows id with ⟨hx1, hx2⟩ | ⟨j, hj, hx1, hx2⟩
      · rw [hx1] at c2
        rw [hx2, if_pos (show (none : Option RowD).isNone = true from rfl)]
        repeat' first|refine yaG ?_|((first|apply yG|apply yH|apply yI);exact rfl;(first|exact yX (enc := encTable) rfl rfl rfl hk rfl|exact yX (enc := encData) rfl rfl rfl hk2 rfl))|refine yaC (c1) ?_|refine yaC (c7) ?_|refine yaC (c2) ?_|refine yaC (c4) ?_|(exfalso;omega)|(refine yaS ?_ ?_<;>intro _)
        exact .ret rfl (Fin.same rfl (old_top _ _ _))
      · rw [hx1] at c2
        rw [hx2, if_neg (show ¬ (some db[k].rows[j]).isNone = true from Bool.false_ne_true), topR]
        by_cases hq : q.2 = 0
        · have c5 := hcp (hkp hq)
          rw [resV_zero hq] at c3
          rw [if_pos hq]
          generalize q.1 = d2 at c3 c5 ⊢
          repeat' first|refine yaG ?_|((first|apply yG|apply yH|apply yI);exact rfl;(first|exact yX (enc := encTable) rfl rfl rfl hk rfl|exact yX (enc := encData) rfl rfl rfl hk2 rfl))|refine yaC (c1) ?_|refine yaC (c7) ?_|refine yaC (c2) ?_|refine yaC (c8) ?_|refine yaC (c3) ?_|refine yaC (c5) ?_|(exfalso;omega)|(refine yaS ?_ ?_<;>intro _)
          exact .ret rfl (Fin.same rfl (old_top _ _ _))
        · obtain ⟨e, he⟩ : ∃ e, q.2 = e := ⟨_, rfl⟩
          rw [he] at hq
          rw [resV_err he hq] at c3
          rw [he, if_neg hq]
          repeat' first|refine yaG ?_|((first|apply yG|apply yH|apply yI);exact rfl;(first|exact yX (enc := encTable) rfl rfl rfl hk rfl|exact yX (enc := encData) rfl rfl rfl hk2 rfl))|refine yaC (c1) ?_|refine yaC (c7) ?_|refine yaC (c2) ?_|refine yaC (c8) ?_|refine yaC (c3) ?_|refine yaC (c4) ?_|(exfalso;omega)|(refine yaS ?_ ?_<;>intro _)
          exact .ret rfl (Fin.same rfl (old_top _ _ _))
theorem UpdateRow_fact (s : List Table) (db : List Data) (n id : Int) (vals : List Val) (rep : Bool) (hx : s.length ≤ 34359738368) (hb : ∀ t ∈ s, bTable 34359738368 t) (hd : db.length ≤ 34359738368) (hdb : ∀ d ∈ db, bData 34359738368 d) (hv : vals.length ≤ 34359738368) (hv2 : ∀ v ∈ vals, bV 34359738368 v) :
    (UpdF s db n id vals rep).1.length ≤ 34359738368 ∧ (∀ x ∈ (UpdF s db n id vals rep).1, bData 34359738368 x) ∧ 1 + cntL cntData (UpdF s db n id vals rep).1 ≤ 34359738368 := by
  rw [UpdF]
  split
  · rename_i h0
    rw [Bool.and_eq_true, Bool.and_eq_true] at h0
    obtain ⟨h1, h2, hf⟩ := h0
    have hs := schG (dbF_at h1).1 hb
    have hdg : DbG NoI s db := dbG h1 fun _ _ _ _ => trivial
    obtain ⟨h3, h4⟩ := isIn_at h2
    have hk : n.toNat < s.length := by omega
    rw [tabN_at hk] at hf
    split
    · exact fact_of hs hdg
    · exact fact_of hs (topR_ok hs hdg fun h => chgF_keeps hs 13 (.upd n.toNat id vals rep) db hdg ⟨hk, (fitF_vals hf).1, fitF_are hf (hs.tab _ (List.getElem_mem hk)).cols8⟩ h)
  · exact ⟨Nat.zero_le _, fun x hx => (by cases hx), by decide⟩
end Go.Proofs.YtmmgbgpglhbhcaaGreat.Am
