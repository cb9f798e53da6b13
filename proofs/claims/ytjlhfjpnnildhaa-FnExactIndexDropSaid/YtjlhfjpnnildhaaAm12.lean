/- The abstract machine, part 12: stores into owned blocks, append, clear. -/
import Derived.Test.YtjlhfjpnnildhaaAm11
import Derived.Deep.Upon
set_option linter.unusedVariables false
set_option linter.unusedSimpArgs false
namespace Go.Proofs.Ytjlhfjpnnildhaa.Am
open Go.RowKit

section
variable {P : Program} {nt : Nat} {C : Cx} {σ σ' : Store} {fr : Fr} {a : Act} {o : Oper} {x : AV}

/-- A row of cells with some of them written. -/
def upd (cur : Array Value) (k : Nat) (vs : List Value) : Array Value := (cur.toList.take k ++ vs ++ cur.toList.drop (k + vs.length)).toArray
theorem upd_size (cur : Array Value) (k : Nat) (vs : List Value) (h : k + vs.length ≤ cur.size) : (upd cur k vs).size = cur.size := by simp [upd]; omega
theorem upd_get (cur : Array Value) (k : Nat) (vs : List Value) (h : k + vs.length ≤ cur.size) (i : Nat) : (upd cur k vs)[i]? = if k ≤ i ∧ i < k + vs.length then vs[i - k]? else cur[i]? := by
  have := splice_get cur.toList k vs (by simpa using h) i
  simpa [upd, splice] using this
theorem run_stores {P : Program} {w : World} {g k : Nat} {t : TypeId} {vs : List Value} {cur : Array Value} (hg : w.heap[g]? = some (.cells cur t (0, 0))) (h : k + vs.length ≤ cur.size) (h1 : ∀ v ∈ vs, v.oneCell' = true) :
    (storeCells ⟨g, k, none⟩ vs 0).run P w = .ok () (w.setRow g (upd cur k vs)) := run_storeCells_at (P := P) g k t vs 0 cur w hg (by omega) h1

/-- An owned block with cells written into it, elements es1 then. -/
theorem Rl.wrote {C : Cx} {σ : Store} (hR : Rl C σ) {id v : Nat} {es : List (List Ce)} (hg : σ.get id = some (v, es)) (hne : es ≠ []) (es1 : List (List Ce)) (hlen : es1.length = es.length) {cur : Array Value} {t : TypeId} (hb : C.w.heap[(C.μ id v).b]? = some (.cells cur t (0, 0))) (cs1 : Array Value) (hsz : cs1.size = cur.size)
    (hs : ∀ i (hi : i < es1.length), es1[i].length = (C.μ id v).s) (hc : ∀ i j (hi : i < es1.length) (hj : j < es1[i].length), ∃ u, cs1[(C.μ id v).base + (i * (C.μ id v).s + j)]? = some u ∧ Rp C es1[i][j] u) :
    ∃ D, D.w = C.w.setRow (C.μ id v).b cs1 ∧ Rl D (σ.put id (v, es1)) ∧ C.Le D ∧ D.F id v ∧ D.μ id v = C.μ id v := by
  obtain ⟨lF, lV, lE⟩ := hR.live id v es hg
  have hvirt : (C.μ id v).virt = false := by
    cases hx : (C.μ id v).virt
    · rfl
    · exact absurd (lE.1 hx) hne
  obtain ⟨cs, t', hb', hz, _, _⟩ := hR.blk id v es hg hne
  rw [hb] at hb'
  injection hb' with hb'
  injection hb' with h1 h2
  subst h1
  refine hR.turned hg hne v es1 (C.μ id v) (C.w.setRow (C.μ id v).b cs1) cs1 t (.inl ⟨rfl, rfl⟩) hvirt (fun e => hne (List.eq_nil_of_length_eq_zero (by rw [← hlen, e]; rfl))) rfl rfl rfl (by simp) (.inl rfl) (fun b hb hn => setRow_other _ _ _ _ hn) (fun cs t hc => ?_) (setRow_heap _ _ _ _ _ _ hb) (by rw [hlen, hsz]; exact hz) hs hc
  rw [hb] at hc
  injection hc with hc
  injection hc with h1 h2
  subst h1 h2
  exact ⟨cs1, setRow_heap _ _ _ _ _ _ hb, hsz⟩

theorem ok_store {t : TypeId} {s : Nat} {y q : Operand} {z q' : Opd} (hop : o.op = .store t y q) (hs : sizeIn P t = some s) (hy : opdOf y = some z) (hq : opdOf q = some q') (h : aop (.store s z q') fr σ = some (x, σ')) (hR : Rl C σ) (hF : FrR C nt fr a) : OpOk P C a o x σ' := by
  simp only [aop] at h
  split at h
  · rename_i id v i j cs hv hcs
    split at h
    · rename_i v' es hg
      split at h
      · rename_i e
        subst e
        split at h
        · rename_i e he
          split at h
          · rename_i hc
            obtain ⟨hcs', hje⟩ := hc
            injection h with h
            injection h with h1 h2
            subst h1 h2
            obtain ⟨w1, hw1, hcs⟩ := Option.bind_eq_some_iff.1 hcs
            obtain ⟨hi, rfl⟩ := List.getElem?_eq_some_iff.1 he
            have hx := opd_c hF hy hv
            have hx2 := opd_sound hF hq hw1
            obtain ⟨u, hu⟩ : ∃ u, a.eval y = u := ⟨_, rfl⟩
            obtain ⟨u2, hu2⟩ : ∃ u, a.eval q = u := ⟨_, rfl⟩
            rw [hu] at hx
            rw [hu2] at hx2
            obtain ⟨hcl, hcr⟩ := cells_sound hx2 hcs
            obtain ⟨rfl, hFF, hvv⟩ := ptr_ptr hx
            have hne : es ≠ [] := by intro e; subst e; simp at hi
            obtain ⟨cur, t', hb, hz, hl, hcc⟩ := hR.blk id v' es hg hne
            have hS : es[i].length = (C.μ id v').s := hl i hi
            have hend : (i + 1) * (C.μ id v').s ≤ es.length * (C.μ id v').s := Nat.mul_le_mul_right _ hi
            rw [Nat.add_mul] at hend
            let k := (C.μ id v').base + (i * (C.μ id v').s + j)
            have hkl : k + u2.cells.toList.length ≤ cur.size := by simp only [k, Array.length_toList]; omega
            have one : ∀ v ∈ u2.cells.toList, v.oneCell' = true := by
              intro v hv
              obtain ⟨n, hn, rfl⟩ := List.getElem_of_mem hv
              simp only [Array.length_toList] at hn
              have := hcr n (by omega) hn
              simpa using this.one'
            have hlen1 : (splice es[i] j cs).length = (C.μ id v').s := by rw [splice_length _ _ _ (by omega)]; exact hS
            obtain ⟨D, hw, hR', hle, _⟩ := hR.wrote hg hne (es.set i (splice es[i] j cs)) (by simp) hb (upd cur k u2.cells.toList) (upd_size _ _ _ hkl)
              (fun m hm => by
                simp only [List.length_set] at hm
                rw [List.getElem_set]
                split
                · exact hlen1
                · exact hl m hm)
              (fun m p hm hp => by
                simp only [List.length_set] at hm
                rw [upd_get _ _ _ hkl]
                simp only [Array.length_toList, hcl]
                by_cases e : i = m
                · subst e
                  have eq : (es.set i (splice es[i] j cs))[i]'(by simpa using hm) = splice es[i] j cs := by simp
                  have hp' : p < (splice es[i] j cs).length := by rw [eq] at hp; exact hp
                  have g := splice_get es[i] j cs (by omega) p
                  rw [List.getElem?_eq_getElem hp'] at g
                  by_cases hin : j ≤ p ∧ p < j + cs.length
                  · rw [if_pos hin, List.getElem?_eq_getElem (by omega : p - j < cs.length)] at g
                    injection g with g
                    rw [if_pos (by simp only [k]; omega)]
                    have hpk : (C.μ id v').base + (i * (C.μ id v').s + p) - k = p - j := by simp only [k]; omega
                    rw [hpk, Array.getElem?_toList, Array.getElem?_eq_getElem (by omega : p - j < u2.cells.size)]
                    refine ⟨_, rfl, ?_⟩
                    have := hcr (p - j) (by omega) (by omega)
                    rw [← g] at this
                    simpa [eq] using this
                  · rw [if_neg hin, List.getElem?_eq_getElem (by omega : p < es[i].length)] at g
                    injection g with g
                    rw [if_neg (by simp only [k]; omega)]
                    obtain ⟨u, h1, h2⟩ := hcc i p hi (by omega)
                    exact ⟨u, h1, by rw [← g] at h2; simpa [eq] using h2⟩
                · have eq : (es.set i (splice es[i] j cs))[m]'(by simpa using hm) = es[m] := by rw [List.getElem_set]; rw [if_neg e]
                  have hp' : p < es[m].length := by rw [eq] at hp; exact hp
                  have hpm : p < (C.μ id v').s := by rw [← hl m hm]; exact hp'
                  have hout : ¬ (k ≤ (C.μ id v').base + (m * (C.μ id v').s + p) ∧ (C.μ id v').base + (m * (C.μ id v').s + p) < k + cs.length) := by
                    simp only [k]
                    rcases Nat.lt_or_gt_of_ne e with h | h
                    · have : (i + 1) * (C.μ id v').s ≤ m * (C.μ id v').s := Nat.mul_le_mul_right _ h
                      rw [Nat.add_mul] at this
                      omega
                    · have : (m + 1) * (C.μ id v').s ≤ i * (C.μ id v').s := Nat.mul_le_mul_right _ h
                      rw [Nat.add_mul] at this
                      omega
                  rw [if_neg hout]
                  obtain ⟨u, h1, h2⟩ := hcc m p hm hp'
                  exact ⟨u, h1, by simpa [eq] using h2⟩)
            refine ⟨D, undef, hR', hle, .un _, .inr ⟨rfl, ?_⟩⟩
            rw [hw]
            have hst := run_stores (P := P) (w := C.w) (k := k) hb hkl one
            have hszz : ¬ (u2.cells.size ≠ s) := by omega
            simp only [execOp, hop, hu, hu2, Instr.storeAt, Instr.sureAddr, storeVar, Sem.run_bind, Sem.run_pure, Result.andThen_ok, run_sizeOf hs, Sem.run_ite, if_neg hszz]
            rw [show (C.μ id v').base + (i * (C.μ id v').s + j) = k from rfl, hst]
            rfl
          · cases h
        · cases h
      · cases h
    · cases h
  · cases h

end
end Go.Proofs.Ytjlhfjpnnildhaa.Am
