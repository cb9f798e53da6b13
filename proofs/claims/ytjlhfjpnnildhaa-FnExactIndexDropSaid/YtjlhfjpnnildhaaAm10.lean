/- The abstract machine, part 10: what makes blocks and what writes into them. -/
import Derived.Test.YtjlhfjpnnildhaaAm9
import Derived.Laws.Tables
set_option linter.unusedVariables false
set_option linter.unusedSimpArgs false
namespace Go.Proofs.Ytjlhfjpnnildhaa.Am
open Go.RowKit

section
variable {P : Program} {nt : Nat} {C : Cx} {σ σ' : Store} {fr : Fr} {a : Act} {o : Oper} {x : AV}

theorem Rl.Mlt {C : Cx} {σ : Store} (hR : Rl C σ) {b : Nat} (h : C.M b) : b < C.w.heap.size := by
  obtain ⟨id, v, es, hg, hne, rfl⟩ := (hR.M b).1 h
  obtain ⟨cs, t, hb, _⟩ := hR.blk id v es hg hne
  exact lt_of_block hb
/-- The world grows; what is owned stays. -/
theorem Rl.grow {C : Cx} {σ : Store} (hR : Rl C σ) (w' : World) (os : w'.os = C.w.os) (tape : w'.tape = C.w.tape) (output : w'.output = C.w.output) (size : C.w.heap.size ≤ w'.heap.size) (keep : ∀ b, b < C.w.heap.size → w'.heap[b]? = C.w.heap[b]?) :
    Rl { C with w := w' } σ ∧ C.Le { C with w := w' } := by
  have hle : C.Le { C with w := w' } := ⟨fun _ _ h => ⟨h, rfl⟩, os, tape, output, size, fun b hb _ => keep b hb, fun b cs t hc => ⟨cs, by rw [show ({ C with w := w' } : Cx).w.heap[b]? = w'.heap[b]? from rfl, keep b (lt_of_block hc)]; exact hc, rfl⟩, fun b _ h => h⟩
  refine ⟨⟨hR.F, hR.live, hR.M, hR.inj, fun id v es hg hne => ?_⟩, hle⟩
  obtain ⟨cs, t, hb, hz, hl, hc⟩ := hR.blk id v es hg hne
  refine ⟨cs, t, by rw [show ({ C with w := w' } : Cx).w.heap[(C.μ id v).b]? = w'.heap[(C.μ id v).b]? from rfl, keep _ (lt_of_block hb)]; exact hb, hz, hl, fun i j hi hj => ?_⟩
  obtain ⟨u, h1, h2⟩ := hc i j hi hj
  exact ⟨u, h1, h2.mono hle⟩
theorem push_old (w : World) (o : Obj) (b : Nat) (hb : b < w.heap.size) : (w.heap.push o)[b]? = w.heap[b]? := by rw [Array.getElem?_push, if_neg (by omega)]
theorem push_new (w : World) (o : Obj) : (w.heap.push o)[w.heap.size]? = some o := by simp

theorem ok_box {t : TypeId} {fz : Bool} {y : Operand} {z : Opd} (hop : o.op = .box t y) (hy : opdOf y = some z) (h : aop (.box fz z) fr σ = some (x, σ')) (hR : Rl C σ) (hF : FrR C nt fr a) : OpOk P C a o x σ' := by
  simp only [aop] at h
  split at h
  · rename_i cs hcs
    obtain ⟨v, hv, hcs⟩ := Option.bind_eq_some_iff.1 hcs
    have hx := opd_sound hF hy hv
    obtain ⟨u, hu⟩ : ∃ u, a.eval y = u := ⟨_, rfl⟩
    rw [hu] at hx
    obtain ⟨hl, hc⟩ := cells_sound hx hcs
    have run : (execOp a.eval o).run P C.w = .ok (.value (.pointer (some ⟨C.w.heap.size, 0, none⟩))) { C.w with heap := C.w.heap.push (.cells u.cells t) } := by
      simp [execOp, hop, hu, Instr.box, newVar, newRow]
    split at h
    · injection h with h
      injection h with h1 h2
      subst h1 h2
      obtain ⟨hR', hle⟩ := hR.grow { C.w with heap := C.w.heap.push (.cells u.cells t) } rfl rfl rfl (by simp) (fun b hb => push_old _ _ _ hb)
      refine ⟨_, .pointer (some ⟨C.w.heap.size, 0, none⟩), hR', hle, .c (.fp cs C.w.heap.size 0 (fun j => u.cells.getD j undef) (by simp) (fun hm => ?_) (fun j hj => ?_) (fun j hj => ?_)), .inl run⟩
      · have := hR.Mlt hm; omega
      · have hj' : j < u.cells.size := by omega
        simp [World.cell?, hj']
      · have hj' : j < u.cells.size := by omega
        have := (hc j hj hj').mono hle
        simpa [hj'] using this
    · injection h with h
      injection h with h1 h2
      subst h1 h2
      obtain ⟨D, hw, hR', hle, hFn, hμ⟩ := hR.fresh [cs] cs.length C.w.heap.size { C.w with heap := C.w.heap.push (.cells u.cells t) } rfl rfl rfl (by simp) (fun b hb => push_old _ _ _ hb)
        (fun i hi => by simp at hi; subst hi; rfl) (fun _ => ⟨Nat.le_refl _, u.cells, t, by simp, by simp; omega, fun i j hi hj => by
          simp at hi
          subst hi
          simp at hj
          have hj' : j < u.cells.size := by omega
          exact ⟨u.cells[j], by simp [hj'], hc j hj hj'⟩⟩)
      refine ⟨D, .pointer (some ⟨C.w.heap.size, 0, none⟩), hR', hle, ?_, .inl (by rw [hw]; exact run)⟩
      have := Rp.ptr (C := D) σ.next 0 0 0 hFn (by rw [hμ]; rfl)
      rw [hμ] at this
      exact .c (by simpa using this)
  · cases h

theorem ok_alloc {t : TypeId} {z : List Ce} (hop : o.op = .alloc t) (hz : zeroIn P t = some z) (h : aop (.alloc z) fr σ = some (x, σ')) (hR : Rl C σ) : OpOk P C a o x σ' := by
  obtain ⟨u, hu, hcs⟩ := run_zeroValue hz
  obtain ⟨hl, hc⟩ := cesOf_sound (C := C) hcs
  simp only [aop] at h
  injection h with h
  injection h with h1 h2
  subst h1 h2
  have run : (execOp a.eval o).run P C.w = .ok (.value (.pointer (some ⟨C.w.heap.size, 0, none⟩))) { C.w with heap := C.w.heap.push (.cells u.cells t) } := by
    simp [execOp, hop, hu, Instr.alloc, newVar, newRow]
  have hl' : u.cells.size = z.length := by simpa using hl
  obtain ⟨D, hw, hR', hle, hFn, hμ⟩ := hR.fresh [z] z.length C.w.heap.size { C.w with heap := C.w.heap.push (.cells u.cells t) } rfl rfl rfl (by simp) (fun b hb => push_old _ _ _ hb)
    (fun i hi => by simp at hi; subst hi; rfl) (fun _ => ⟨Nat.le_refl _, u.cells, t, by simp, by simp; omega, fun i j hi hj => by
      simp at hi
      subst hi
      simp at hj
      have hj' : j < u.cells.size := by omega
      exact ⟨u.cells[j], by simp [hj'], by have := hc j hj (by simpa using hj'); simpa using this⟩⟩)
  refine ⟨D, .pointer (some ⟨C.w.heap.size, 0, none⟩), hR', hle, ?_, .inl (by rw [hw]; exact run)⟩
  have := Rp.ptr (C := D) σ.next 0 0 0 hFn (by rw [hμ]; rfl)
  rw [hμ] at this
  exact .c (by simpa using this)

/-- Cells set one behind the other. -/
theorem foldl_set (vs : List Value) : ∀ (k off : Nat) (cs : Array Value), off + k + vs.length ≤ cs.size →
    ((vs.zipIdx k).foldl (fun cs p => cs.setIfInBounds (off + p.2) p.1) cs).size = cs.size ∧
    ∀ i, ((vs.zipIdx k).foldl (fun cs p => cs.setIfInBounds (off + p.2) p.1) cs)[i]? = if off + k ≤ i ∧ i < off + k + vs.length then vs[i - (off + k)]? else cs[i]? := by
  induction vs with
  | nil => intro k off cs h; simp; intro i h1 h2; omega
  | cons v vs ih =>
    intro k off cs h
    simp only [List.length_cons] at h
    simp only [List.zipIdx_cons, List.foldl_cons]
    obtain ⟨h1, h2⟩ := ih (k + 1) off (cs.setIfInBounds (off + k) v) (by simp; omega)
    refine ⟨by rw [h1]; simp, fun i => ?_⟩
    rw [h2 i]
    simp only [List.length_cons]
    by_cases e : i = off + k
    · subst e
      rw [if_neg (by omega), if_pos (by omega)]
      simp [show off + k < cs.size by omega]
    · by_cases e2 : off + (k + 1) ≤ i ∧ i < off + (k + 1) + vs.length
      · rw [if_pos e2, if_pos (by omega)]
        rw [show i - (off + k) = (i - (off + (k + 1))) + 1 by omega]
        simp
      · rw [if_neg e2, if_neg (by omega)]
        rw [Array.getElem?_setIfInBounds_ne (by omega)]

theorem splice_get {α : Type} (l : List α) (k : Nat) (y : List α) (h : k + y.length ≤ l.length) (i : Nat) : (splice l k y)[i]? = if k ≤ i ∧ i < k + y.length then y[i - k]? else l[i]? := by
  unfold splice
  have hk : (l.take k).length = k := by simp; omega
  by_cases h1 : i < k
  · rw [if_neg (by omega), List.append_assoc, List.getElem?_append_left (by omega), List.getElem?_take_of_lt h1]
  · by_cases h2 : i < k + y.length
    · rw [if_pos (by omega), List.append_assoc, List.getElem?_append_right (by omega), hk, List.getElem?_append_left (by omega)]
    · rw [if_neg (by omega), List.getElem?_append_right (by simp; omega)]
      rw [List.getElem?_drop]
      congr 1
      simp
      omega
theorem splice_length {α : Type} (l : List α) (k : Nat) (y : List α) (h : k + y.length ≤ l.length) : (splice l k y).length = l.length := by
  simp [splice]; omega

theorem fill_sound (hF : FrR C nt fr a) {pl : Nat → Option (Nat × Nat)} : ∀ {ps : List (Nat × Operand)} {qs : List (Nat × Nat × Opd)} {zc cs : List Ce} {zv : Array Value}, buildIn pl ps = some qs → fillA fr zc qs = some cs → zv.size = zc.length →
    (∀ i (hi : i < zc.length), Rp C zc[i] (zv.getD i undef)) → ∃ vs, Instr.fill pl zv (ps.map fun p => (p.1, a.eval p.2)) = some vs ∧ vs.size = cs.length ∧ ∀ i (hi : i < cs.length), Rp C cs[i] (vs.getD i undef)
  | [], qs, zc, cs, zv, h1, h2, hl, hr => by
    simp [buildIn] at h1
    subst h1
    simp [fillA] at h2
    subst h2
    exact ⟨zv, by simp [Instr.fill], hl, hr⟩
  | (i, y) :: ps, qs, zc, cs, zv, h1, h2, hl, hr => by
    simp only [buildIn] at h1
    split at h1
    · rename_i off s z l e1 e2 e3
      injection h1 with h1
      subst h1
      simp only [fillA] at h2
      split at h2
      · rename_i cc hcc
        split at h2
        · rename_i hc
          obtain ⟨rfl, hle⟩ := hc
          obtain ⟨v, hv, hcc⟩ := Option.bind_eq_some_iff.1 hcc
          obtain ⟨hcl, hcr⟩ := cells_sound (opd_sound hF e2 hv) hcc
          obtain ⟨f1, f2⟩ := foldl_set (a.eval y).cells.toList 0 off zv (by simp; omega)
          have hfold : (a.eval y).cells.zipIdx.foldl (fun cs p => cs.setIfInBounds (off + p.2) p.1) zv = ((a.eval y).cells.toList.zipIdx 0).foldl (fun cs p => cs.setIfInBounds (off + p.2) p.1) zv := by
            rw [← Array.foldl_toList]
            simp
          obtain ⟨vs, h3, h4, h5⟩ := fill_sound (zv := (a.eval y).cells.zipIdx.foldl (fun cs p => cs.setIfInBounds (off + p.2) p.1) zv) hF e3 h2 (by rw [hfold, f1, splice_length _ _ _ hle]; exact hl) (by
            intro k hk
            rw [splice_length _ _ _ hle] at hk
            have g1 := splice_get zc off cc hle k
            have g2 := f2 k
            rw [hfold]
            simp only [Nat.add_zero, Array.length_toList, hcl] at g2
            have hget : (splice zc off cc)[k]? = some (splice zc off cc)[k] := List.getElem?_eq_getElem _
            rw [hget] at g1
            by_cases hin : off ≤ k ∧ k < off + cc.length
            · rw [if_pos hin] at g1 g2
              have hlt : k - off < cc.length := by omega
              rw [List.getElem?_eq_getElem hlt] at g1
              injection g1 with g1
              rw [g1]
              have hlt2 : k - off < (a.eval y).cells.size := by omega
              rw [Array.getElem?_toList, Array.getElem?_eq_getElem hlt2] at g2
              simp only [Array.getD_eq_getD_getElem?, g2, Option.getD_some]
              exact hcr _ hlt hlt2
            · rw [if_neg hin] at g1 g2
              rw [List.getElem?_eq_getElem hk] at g1
              injection g1 with g1
              rw [g1]
              have := hr k hk
              simpa only [Array.getD_eq_getD_getElem?, g2] using this)
          refine ⟨vs, ?_, h4, h5⟩
          simp only [List.map_cons, Instr.fill, e1]
          rw [if_neg (by simp; omega)]
          exact h3
        · cases h2
      · cases h2
    · cases h1

theorem ok_build {t : TypeId} {ps : Array (Nat × Operand)} {z : List Ce} {pl : Nat → Option (Nat × Nat)} {qs : List (Nat × Nat × Opd)} (hop : o.op = .build t ps) (hz : zeroIn P t = some z) (hpl : placeIn P t = some pl) (hqs : buildIn pl ps.toList = some qs)
    (h : aop (.build z qs) fr σ = some (x, σ')) (hR : Rl C σ) (hF : FrR C nt fr a) : OpOk P C a o x σ' := by
  simp only [aop] at h
  obtain ⟨cs, hcs, h2⟩ := Option.map_eq_some_iff.1 h
  injection h2 with h2 h3
  subst h2 h3
  have hz' := hz
  unfold zeroIn at hz'
  obtain ⟨zv, hzv, hzc⟩ := Option.bind_eq_some_iff.1 hz'
  obtain ⟨it, hit, hzv⟩ := Option.bind_eq_some_iff.1 hzv
  obtain ⟨hl, hc⟩ := cesOf_sound (C := C) hzc
  obtain ⟨vs, h3, h4, h5⟩ := fill_sound (C := C) (a := a) (zv := zv.cells) hF hqs hcs (by simpa using hl) (fun i hi => by
    have hi' : i < zv.cells.size := by simp at hl; omega
    have := hc i hi (by simpa using hi')
    simpa [hi'] using this)
  have hb : P.built t (ps.map fun (i, x) => (i, a.eval x)).toList = some vs := by
    unfold placeIn at hpl
    unfold Program.built
    split at hpl
    · rename_i fs hu
      obtain ⟨l, hl, rfl⟩ := Option.map_eq_some_iff.1 hpl
      simp only [hit, hu, hzv, hl]
      simpa using h3
    · rename_i n e hu
      obtain ⟨s, hs, rfl⟩ := Option.map_eq_some_iff.1 hpl
      unfold sizeIn at hs
      obtain ⟨ie, hie, rfl⟩ := Option.map_eq_some_iff.1 hs
      simp only [hit, hu, hzv, hie]
      simpa using h3
    · cases hpl
  have hrun := run_build (P := P) C.w t _ vs hb
  refine .pure (v := .agg vs) hR (.agg h4 fun i hi => ?_) ?_
  · have hi' : i < vs.size := by omega
    have := h5 i hi
    simpa [hi'] using this
  · simp only [execOp, hop]
    rw [Sem.run_bind, hrun]
    rfl

end
end Go.Proofs.Ytjlhfjpnnildhaa.Am
