/- The abstract machine, part 11: slices that are made, stores, append. -/
import Derived.Test.YtjlhfjpnnildhaaAm10
import Derived.Deep.AppendSrc
import Derived.Laws.CopyRow
set_option linter.unusedVariables false
set_option linter.unusedSimpArgs false
namespace Go.Proofs.Ytjlhfjpnnildhaa.Am
open Go.RowKit

section
variable {P : Program} {nt : Nat} {C : Cx} {σ σ' : Store} {fr : Fr} {a : Act} {o : Oper} {x : AV}

/-- Elements, and the cells in which they lie. -/
def RelE (C : Cx) (s : Nat) (es : List (List Ce)) (arr : Array Value) : Prop :=
  es.length * s ≤ arr.size ∧ ∀ i (hi : i < es.length), es[i].length = s ∧ ∀ j (hj : j < es[i].length), Rp C es[i][j] (arr.getD (i * s + j) undef)
theorem RelE.at_ {s : Nat} {es : List (List Ce)} {arr : Array Value} (h : RelE C s es arr) (i j : Nat) (hi : i < es.length) (hj : j < es[i].length) : ∃ u, arr[i * s + j]? = some u ∧ Rp C es[i][j] u := by
  have hlt : i * s + j < es.length * s := flat_lt hi (by have := (h.2 i hi).1; omega)
  have h0 := h.1
  refine ⟨arr[i * s + j]'(by omega), by simp [show i * s + j < arr.size by omega], ?_⟩
  have := (h.2 i hi).2 j hj
  simpa [show i * s + j < arr.size by omega] using this

theorem zero_cells {z : List Ce} {zv : Value} (hz : cesOf zv.cells.toList = some z) (n s : Nat) (hs : z.length = s) (hs0 : 0 < s) (m : Nat) (hm : m = n * s) :
    RelE C s (List.replicate n z) ((Array.range m).map (zv.cells[· % zv.cells.size]!)) := by
  obtain ⟨hl, hc⟩ := cesOf_sound (C := C) hz
  simp only [Array.length_toList] at hl hc
  subst hm
  refine ⟨by simp, fun i hi => ?_⟩
  simp only [List.length_replicate] at hi
  refine ⟨by simp [hs], fun j hj => ?_⟩
  have hz1 : (List.replicate n z)[i] = z := by simp
  have hj' : j < z.length := by simpa using hj
  have hlt : i * s + j < n * s := flat_lt hi (by omega)
  have h2 : (i * s + j) % zv.cells.size = j := by
    rw [hl, hs, Nat.mul_comm, Nat.mul_add_mod, Nat.mod_eq_of_lt (by omega)]
  have hjz : j < zv.cells.size := by omega
  have := hc j hj' hjz
  simp only [Array.getD_eq_getD_getElem?, Array.getElem?_map]
  rw [Array.getElem?_range, if_pos hlt]
  simp only [Option.map_some, Option.getD_some, h2, getElem!_pos zv.cells j hjz]
  simpa [hz1] using this

theorem fillS_sound (hF : FrR C nt fr a) {s : Nat} : ∀ {ps : List (Nat × Operand)} {qs : List (Nat × Opd)} {e0 es : List (List Ce)} {arr : Array Value}, partsIn ps = some qs → fillS fr s e0 qs = some es → arr.size = e0.length * s → RelE C s e0 arr →
    ∃ vs, Instr.fill (fun i => some (i * s, s)) arr (ps.map fun p => (p.1, a.eval p.2)) = some vs ∧ vs.size = es.length * s ∧ es.length = e0.length ∧ RelE C s es vs
  | [], qs, e0, es, arr, h1, h2, hl, hr => by
    simp [partsIn] at h1
    subst h1
    simp [fillS] at h2
    subst h2
    exact ⟨arr, by simp [Instr.fill], hl, rfl, hr⟩
  | (i, y) :: ps, qs, e0, es, arr, h1, h2, hl, hr => by
    simp only [partsIn] at h1
    split at h1
    · rename_i z l e2 e3
      injection h1 with h1
      subst h1
      simp only [fillS] at h2
      split at h2
      · rename_i cc hcc
        split at h2
        · rename_i hc
          obtain ⟨hcs, hi⟩ := hc
          obtain ⟨v, hv, hcc⟩ := Option.bind_eq_some_iff.1 hcc
          obtain ⟨hcl, hcr⟩ := cells_sound (opd_sound hF e2 hv) hcc
          have hbnd : i * s + s ≤ e0.length * s := by
            have : (i + 1) * s ≤ e0.length * s := Nat.mul_le_mul_right _ hi
            rw [Nat.add_mul] at this
            omega
          obtain ⟨f1, f2⟩ := foldl_set (a.eval y).cells.toList 0 (i * s) arr (by simp; omega)
          have hfold : (a.eval y).cells.zipIdx.foldl (fun cs p => cs.setIfInBounds (i * s + p.2) p.1) arr = ((a.eval y).cells.toList.zipIdx 0).foldl (fun cs p => cs.setIfInBounds (i * s + p.2) p.1) arr := by
            rw [← Array.foldl_toList]
            simp
          obtain ⟨vs, h3, h4, h5, h6⟩ := fillS_sound (arr := (a.eval y).cells.zipIdx.foldl (fun cs p => cs.setIfInBounds (i * s + p.2) p.1) arr) hF e3 h2 (by rw [hfold, f1]; simpa using hl) (by
            refine ⟨by rw [hfold, f1, hl]; simp, fun k hk => ?_⟩
            simp only [List.length_set] at hk
            by_cases e : k = i
            · subst e
              have he : (e0.set k cc)[k]'(by simpa using hk) = cc := by simp
              refine ⟨by rw [he]; exact hcs, fun j hj => ?_⟩
              have hj' : j < cc.length := by rw [he] at hj; exact hj
              have g2 := f2 (k * s + j)
              rw [if_pos (by simp; omega)] at g2
              rw [hfold]
              simp only [Nat.add_zero, show k * s + j - k * s = j by omega] at g2
              rw [Array.getElem?_toList, Array.getElem?_eq_getElem (by omega : j < (a.eval y).cells.size)] at g2
              simp only [Array.getD_eq_getD_getElem?, g2, Option.getD_some]
              have := hcr j hj' (by omega)
              simpa [he] using this
            · have he : (e0.set i cc)[k]'(by simpa using hk) = e0[k] := by rw [List.getElem_set]; rw [if_neg (by omega)]
              obtain ⟨q1, q2⟩ := hr.2 k hk
              refine ⟨by rw [he]; exact q1, fun j hj => ?_⟩
              have hj' : j < e0[k].length := by rw [he] at hj; exact hj
              have g2 := f2 (k * s + j)
              have hout : ¬ (i * s + 0 ≤ k * s + j ∧ k * s + j < i * s + 0 + (a.eval y).cells.toList.length) := by
                simp only [Array.length_toList, hcl]
                rcases Nat.lt_or_gt_of_ne e with h | h
                · have : (k + 1) * s ≤ i * s := Nat.mul_le_mul_right _ h
                  rw [Nat.add_mul] at this
                  omega
                · have : (i + 1) * s ≤ k * s := Nat.mul_le_mul_right _ h
                  rw [Nat.add_mul] at this
                  omega
              rw [if_neg hout] at g2
              rw [hfold]
              have := q2 j hj'
              simp only [Array.getD_eq_getD_getElem?, g2]
              simpa [he] using this)
          refine ⟨vs, ?_, h4, by simpa using h5, h6⟩
          simp only [List.map_cons, Instr.fill]
          rw [if_neg (by simp; omega)]
          exact h3
        · cases h2
      · cases h2
    · cases h1

/-- A slice that has just been made. -/
theorem made_sl {D : Cx} {id b s c : Nat} (n : Nat) (hF : D.F id 0) (hμ : D.μ id 0 = ⟨b, s, 0, decide (c = 0)⟩) (hn : n ≤ c) {cap : Nat} (hc : c ≤ cap) (hc0 : c = 0 → cap = 0) (hk : 0 < c → ∃ cs t, D.w.heap[b]? = some (.cells cs t (0, 0)) ∧ cap * s ≤ cs.size) :
    Rp D (.sl id 0 0 n c) (.slice (some ⟨b, 0, none⟩) n cap) := by
  rcases Nat.eq_zero_or_pos c with h0 | h0
  · have := hc0 h0
    subst h0 this
    obtain rfl : n = 0 := by omega
    exact .sl0 _ _ _ _ hF
  · obtain ⟨cs, t, hb, hz⟩ := hk h0
    have := Rp.sl (C := D) id 0 0 n c cap hF hn hc (by rw [hμ]; simp; omega) (by rw [hμ]; exact ⟨cs, t, hb, by simpa using hz⟩)
    rw [hμ] at this
    simpa using this

theorem ok_mksl {t e : TypeId} {s n : Nat} {ps : Array (Nat × Operand)} {z : List Ce} {qs : List (Nat × Opd)} {fz : Bool} (hop : o.op = .buildSlice t n ps) (ht : P.underlying t = some (.slice e)) (hs : sizeIn P e = some s) (hz : zeroIn P e = some z) (hqs : partsIn ps.toList = some qs) (hzl : z.length = s) (hs0 : 0 < s) (hns : n * s ≤ 65536)
    (h : aop (.mksl fz s n z qs) fr σ = some (x, σ')) (hR : Rl C σ) (hF : FrR C nt fr a) : OpOk P C a o x σ' := by
  simp only [aop] at h
  split at h
  · rename_i es hes
    obtain ⟨zv, hzv, hzc⟩ := run_zeroValue hz
    have hrel := zero_cells (C := C) hzc n s hzl hs0 (n * s) rfl
    obtain ⟨vs, h3, h4, h5, h6⟩ := fillS_sound hF hqs hes (by simp) hrel
    simp only [List.length_replicate] at h5
    have run : (execOp a.eval o).run P C.w = .ok (.value (.slice (some ⟨C.w.heap.size, 0, none⟩) n n)) { C.w with heap := C.w.heap.push (.cells vs e) } := by
      have hbig : ¬ (16777216 < n * s) := by omega
      have hmap : (ps.map fun (i, x) => (i, a.eval x)).toList = ps.toList.map fun p => (p.1, a.eval p.2) := by simp
      by_cases hn0 : n * s = 0
      · have hn : n = 0 := by
          rcases Nat.mul_eq_zero.1 hn0 with h | h
          · exact h
          · omega
        subst hn
        simp only [Nat.zero_mul] at h3
        simp only [execOp, hop, Instr.buildSlice, Sem.run_bind, run_underlying ht, run_sizeOf hs, Result.andThen_ok, Nat.zero_mul, hmap]
        have e0 : ∀ f : Nat → Value, Array.map f (Array.range 0) = #[] := fun f => by simp
        rw [e0] at h3
        simp only [if_true, pure_bind, e0]
        simp [h3, newRow]
      · simp only [execOp, hop, Instr.buildSlice, Sem.run_bind, run_underlying ht, run_sizeOf hs, Result.andThen_ok, hmap, Sem.run_ite, if_neg hn0, hzv, Sem.run_pure]
        simp [hbig, hn0, hzv, h3, newRow]
    split at h
    · injection h with h
      injection h with h1 h2
      subst h1 h2
      obtain ⟨hR', hle⟩ := hR.grow { C.w with heap := C.w.heap.push (.cells vs e) } rfl rfl rfl (by simp) (fun b hb => push_old _ _ _ hb)
      refine ⟨_, .slice (some ⟨C.w.heap.size, 0, none⟩) n n, hR', hle, ?_, .inl run⟩
      have hlen : es.length = n := h5
      have := Rp.fz (C := { C with w := { C.w with heap := C.w.heap.push (.cells vs e) } }) es C.w.heap.size 0 n s (fun i j => vs.getD (i * s + j) undef) (by simp) (fun hm => by have := hR.Mlt hm; omega) (by omega) (fun i hi => (h6.2 i hi).1)
        (fun i j hi hj => by
          have hlt := flat_lt (n := n) (by omega : i < n) hj
          have : i * s + j < vs.size := by rw [h4, hlen]; exact hlt
          simp [World.cell?, this])
        (fun i j hi hj => ((h6.2 i hi).2 j hj).mono hle)
      rw [hlen] at this
      exact .c this
    · injection h with h
      injection h with h1 h2
      subst h1 h2
      obtain ⟨D, hw, hR', hle, hFn, hμ⟩ := hR.fresh es s C.w.heap.size { C.w with heap := C.w.heap.push (.cells vs e) } rfl rfl rfl (by simp) (fun b hb => push_old _ _ _ hb)
        (fun i hi => (h6.2 i hi).1) (fun _ => ⟨Nat.le_refl _, vs, e, by simp, h6.1, fun i j hi hj => h6.at_ i j hi hj⟩)
      refine ⟨D, .slice (some ⟨C.w.heap.size, 0, none⟩) n n, hR', hle, .c (made_sl (s := s) n hFn ?_ (Nat.le_refl _) (Nat.le_refl _) (fun h => h) (fun _ => ⟨vs, e, by rw [hw]; simp, by rw [h4, h5]; exact Nat.le_refl _⟩)), .inl (by rw [hw]; exact run)⟩
      rw [hμ]
      congr 1
      rw [← h5]
      cases es <;> simp
  · cases h

theorem ok_mkslice {t e : TypeId} {s : Nat} {i : TypeInfo} {lo co : Operand} {z : List Ce} {l' c' : Opd} (hop : o.op = .makeSlice t lo co) (ht : P.underlying t = some (.slice e)) (hs : sizeIn P e = some s) (hz : zeroIn P e = some z) (hi : P.info? e = some i) (hzl : z.length = s) (hs0 : 0 < s)
    (hl : opdOf lo = some l') (hc : opdOf co = some c') (h : aop (.mkslice s i.bytes z l' c') fr σ = some (x, σ')) (hR : Rl C σ) (hF : FrR C nt fr a) (hb0 : 0 < i.bytes) : OpOk P C a o x σ' := by
  simp only [aop] at h
  split at h
  · rename_i l c hvl hvc
    split at h
    · rename_i hcnd
      obtain ⟨h0, hlc, hbytes⟩ := hcnd
      injection h with h
      injection h with h1 h2
      subst h1 h2
      have hx1 := opd_c hF hl hvl
      have hx2 := opd_c hF hc hvc
      obtain ⟨u, hu⟩ : ∃ u, a.eval lo = u := ⟨_, rfl⟩
      obtain ⟨u2, hu2⟩ : ∃ u, a.eval co = u := ⟨_, rfl⟩
      rw [hu] at hx1
      rw [hu2] at hx2
      obtain rfl := rp_int hx1
      obtain rfl := rp_int hx2
      have hsi : i.size = s := by unfold sizeIn at hs; rw [hi] at hs; simpa using hs
      have hz' := hz
      unfold zeroIn at hz'
      obtain ⟨zv, hzv, hzc⟩ := Option.bind_eq_some_iff.1 hz'
      rw [hi] at hzv
      simp only [Option.bind_some] at hzv
      have h63 : c ≤ 9223372036854775807 := by
        have : (1 : Int) * c ≤ i.bytes * c := Int.mul_le_mul_of_nonneg_right (by omega) (by omega)
        omega
      have hrun := run_make (P := P) C.w t e i zv ht hi hzv .i64 .i64 l c h0 hlc (by omega) h63
      have run : (execOp a.eval o).run P C.w = .ok (.value (.slice (some ⟨C.w.heap.size, 0, none⟩) l.toNat c.toNat)) (C.w.alloc (.cells (madeCells zv.cells (c.toNat * i.size)) e)) := by
        simp only [execOp, hop, hu, hu2]
        rw [Sem.run_bind, hrun]
        rfl
      rw [hsi] at run
      have hrel : RelE C s (List.replicate c.toNat z) (madeCells zv.cells (c.toNat * s)) := zero_cells hzc c.toNat s hzl hs0 _ rfl
      obtain ⟨D, hw, hR', hle, hFn, hμ⟩ := hR.fresh (List.replicate c.toNat z) s C.w.heap.size (C.w.alloc (.cells (madeCells zv.cells (c.toNat * s)) e)) rfl rfl rfl (by show _ ≤ (Array.push _ _).size; simp) (fun b hb => push_old _ _ _ hb)
        (fun i hi => (hrel.2 i hi).1) (fun _ => ⟨Nat.le_refl _, _, e, push_new _ _, hrel.1, fun i j hi hj => hrel.at_ i j hi hj⟩)
      refine ⟨D, _, hR', hle, .c (made_sl (s := s) l.toNat hFn ?_ (by omega) (Nat.le_refl _) (fun h => h) (fun _ => ⟨_, e, by rw [hw]; exact push_new _ _, by simp [madeCells]⟩)), .inl (by rw [hw]; exact run)⟩
      rw [hμ]
      congr 1
      cases hcn : c.toNat <;> simp [List.replicate_succ]
    · cases h
  · cases h

end
end Go.Proofs.Ytjlhfjpnnildhaa.Am
