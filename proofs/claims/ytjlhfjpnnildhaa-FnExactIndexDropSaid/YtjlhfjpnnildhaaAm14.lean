/- The abstract machine, part 14: clear; all operations in one word. -/
import Derived.Test.YtjlhfjpnnildhaaAm13
set_option linter.unusedVariables false
set_option linter.unusedSimpArgs false
namespace Go.Proofs.Ytjlhfjpnnildhaa.Am
open Go.RowKit

section
variable {P : Program} {nt : Nat} {C : Cx} {σ σ' : Store} {fr : Fr} {a : Act} {o : Oper} {x : AV}

theorem put_same {id : Nat} {y : Nat × List (List Ce)} (hg : σ.get id = some y) : σ.put id y = σ := by
  unfold Store.put
  cases σ with
  | mk nx gt =>
    congr 1
    funext j
    by_cases e : j = id
    · subst e; simpa using hg.symm
    · simp [e]

theorem ok_app {c : Call} {t tx e : TypeId} {s bytes : Nat} {i : TypeInfo} {y q : Operand} {z' q' : Opd} {z : List Ce} (hop : o.op = .call c) (hcal : c.callee = .builtin .append) (ha : c.args.toList = [y, q]) (hat : c.argTypes.toList = [t, tx])
    (ht : P.underlying t = some (.slice e)) (htx : (∃ e', P.underlying tx = some (.slice e')) ∨ P.underlying tx = some .string) (hi : P.info? e = some i) (hs : sizeIn P e = some s) (hz : zeroIn P e = some z) (hzl : z.length = s) (hs0 : 0 < s) (hb : i.bytes = bytes) (hb0 : 0 < bytes)
    (hy : opdOf y = some z') (hq : opdOf q = some q') (h : aop (.app s bytes z' q') fr σ = some (x, σ')) (hR : Rl C σ) (hF : FrR C nt fr a) : OpOk P C a o x σ' := by
  have hargs := arr2 ha
  have htys := arr2 hat
  obtain ⟨u, hu⟩ : ∃ u, a.eval y = u := ⟨_, rfl⟩
  obtain ⟨u2, hu2⟩ : ∃ u, a.eval q = u := ⟨_, rfl⟩
  have fin : ∀ {r : Ce} {D : Cx} {v' : Value}, Rl D σ' → C.Le D → Rp D r v' → (Builtin.append_ #[t, tx] o.type #[u, u2]).run P C.w = .ok v' D.w → x = .c r → OpOk P C a o x σ' := by
    intro r D v' h1 h2 h3 h4 h5
    subst h5
    refine ⟨D, v', h1, h2, .c h3, .inl ?_⟩
    simp [execOp, hop, resolve, hcal, hargs, htys, invoke, builtin, hu, hu2, h4]
  simp only [aop] at h
  split at h
  · rename_i c l hv hn
    split at h
    · rename_i e1
      subst e1
      obtain ⟨⟨r, σ2⟩, hr, h2⟩ := Option.map_eq_some_iff.1 h
      injection h2 with h2 h3
      simp only at h2 h3
      subst h3
      have hx := opd_c hF hy hv
      have hx2 := opd_c hF hq hn
      rw [hu] at hx
      rw [hu2] at hx2
      obtain rfl := rp_str hx2
      obtain ⟨news, hnews⟩ := app_of_str (P := P) (C := C) (l := l) htx
      obtain ⟨D, v', h4, h5, h6, h7⟩ := appA_sound (ty := o.type) ht hi hs hz hzl hs0 hb hb0 hr hR hx hnews
      exact fin h4 h5 h6 h7 h2.symm
    · cases h
  · rename_i c d hns hv hn
    obtain ⟨⟨r, σ2⟩, hr, h2⟩ := Option.map_eq_some_iff.1 h
    injection h2 with h2 h3
    simp only at h2 h3
    subst h3
    obtain ⟨ys, hys, hr⟩ := Option.bind_eq_some_iff.1 hr
    have hx := opd_c hF hy hv
    have hx2 := opd_c hF hq hn
    rw [hu] at hx
    rw [hu2] at hx2
    have hl : ∀ e ∈ ys, e.length = s := by
      unfold appA at hr
      split at hr
      · assumption
      · cases hr
    obtain ⟨news, hnews⟩ := app_of_els (P := P) (e' := t) hR hx2 hys hl htx
    obtain ⟨D, v', h4, h5, h6, h7⟩ := appA_sound (ty := o.type) ht hi hs hz hzl hs0 hb hb0 hr hR hx hnews
    exact fin h4 h5 h6 h7 h2.symm
  · cases h

theorem ok_clear {c : Call} {t e : TypeId} {y : Operand} {z' : Opd} {z : List Ce} (hop : o.op = .call c) (hcal : c.callee = .builtin .clear) (ha : c.args.toList = [y]) (hat : c.argTypes.toList = [t])
    (ht : P.underlying t = some (.slice e)) (hz : zeroIn P e = some z) (hy : opdOf y = some z') (h : aop (.clear z z') fr σ = some (x, σ')) (hR : Rl C σ) (hF : FrR C nt fr a) : OpOk P C a o x σ' := by
  have hargs := arr1 ha
  have htys := arr1 hat
  obtain ⟨u, hu⟩ : ∃ u, a.eval y = u := ⟨_, rfl⟩
  have run : ∀ w', (Builtin.clear_ #[t] o.type #[u]).run P C.w = .ok (.tuple #[]) w' → (execOp a.eval o).run P C.w = .ok (.value (.tuple #[])) w' := by
    intro w' hr
    simp [execOp, hop, resolve, hcal, hargs, htys, invoke, builtin, hu, hr]
  have none : ∀ ad cap, u = .slice ad 0 cap → (execOp a.eval o).run P C.w = .ok (.value (.tuple #[])) C.w := by
    intro ad cap hh
    refine run _ ?_
    rw [hh]
    cases ad <;> simp [Builtin.clear_, run_underlying ht]
  simp only [aop] at h
  split at h
  · rename_i id v i n c hv
    split at h
    · rename_i v' es hg
      split at h
      · rename_i hc
        obtain ⟨rfl, hle, hes⟩ := hc
        injection h with h
        injection h with h1 h2
        subst h1 h2
        have hx := opd_c hF hy hv
        rw [hu] at hx
        rcases Nat.eq_zero_or_pos n with h0 | h0
        · subst h0
          simp only [List.replicate_zero, splice_nil, put_same hg]
          refine ⟨C, .tuple #[], hR, .refl C, .un _, .inl ?_⟩
          cases hx
          · exact none _ _ rfl
          · exact none _ _ rfl
        · cases hx with
          | sl0 => omega
          | sl _ _ _ _ _ cap hF' hn' hcc hv' hk =>
            have hne : es ≠ [] := by intro e; subst e; simp at hle; omega
            obtain ⟨cur, t', hbk, hzk, hlk, hck⟩ := hR.blk id v' es hg hne
            have hS : (C.μ id v').s = z.length := by
              have hp : 0 < es.length := List.length_pos_iff.2 hne
              rw [← hlk 0 hp]
              exact hes _ (List.getElem_mem _)
            obtain ⟨zv, hzv, hzc⟩ := run_zeroValue hz
            obtain ⟨hzl, hzr⟩ := cesOf_sound (C := C) hzc
            have hzl' : zv.cells.size = z.length := by simpa using hzl
            have hsize : (Builtin.zeroCells zv.cells n).size = n * z.length := by rw [size_zeroCells, hzl']
            have hend : (i + n) * z.length ≤ es.length * z.length := Nat.mul_le_mul_right _ hle
            rw [Nat.add_mul] at hend
            have hfit : (C.μ id v').base + i * (C.μ id v').s + (Builtin.zeroCells zv.cells n).toList.length ≤ cur.size := by
              rw [Array.length_toList, hsize, hS]; rw [hS] at hzk; omega
            have hzat : ∀ k j, k < n → j < z.length → ∃ y, (Builtin.zeroCells zv.cells n)[k * z.length + j]? = some y ∧ ∃ (hj : j < z.length), Rp C z[j] y := by
              intro k j hk hj
              have hlt : k * z.length + j < n * z.length := flat_lt hk hj
              have hjz : j < zv.cells.size := by omega
              refine ⟨zv.cells[j], ?_, hj, by have := hzr j hj (by simpa using hjz); simpa using this⟩
              simp only [Builtin.zeroCells, Array.getElem?_map]
              rw [Array.getElem?_range, if_pos (by rw [hzl']; exact hlt)]
              have h2 : (k * z.length + j) % zv.cells.size = j := by rw [hzl', Nat.mul_comm, Nat.mul_add_mod, Nat.mod_eq_of_lt hj]
              simp only [Option.map_some, h2, getElem!_pos zv.cells j hjz]
            have one : ∀ v ∈ (Builtin.zeroCells zv.cells n).toList, v.oneCell' = true := by
              intro v hv
              obtain ⟨q, hq, rfl⟩ := List.getElem_of_mem hv
              simp only [Array.length_toList, hsize] at hq
              have hzp : 0 < z.length := by
                rcases Nat.eq_zero_or_pos z.length with h | h
                · rw [h] at hq; simp at hq
                · exact h
              obtain ⟨y, h1, hj, h2⟩ := hzat (q / z.length) (q % z.length) (Nat.div_lt_of_lt_mul (by rw [Nat.mul_comm]; exact hq)) (Nat.mod_lt _ hzp)
              rw [Nat.div_add_mod'] at h1
              have : (Builtin.zeroCells zv.cells n).toList[q]'(by rw [Array.length_toList, hsize]; exact hq) = y := by
                have hq' : q < (Builtin.zeroCells zv.cells n).size := by rw [hsize]; exact hq
                rw [Array.getElem?_eq_getElem hq'] at h1
                exact Option.some.inj h1
              rw [this]
              exact h2.one'
            have hspl : i + (List.replicate n z).length ≤ es.length := by simpa using hle
            obtain ⟨D, hw, hR', hle', hFn, hμ⟩ := hR.wrote hg hne (splice es i (List.replicate n z)) (splice_length _ _ _ hspl) hbk (upd cur ((C.μ id v').base + i * (C.μ id v').s) (Builtin.zeroCells zv.cells n).toList) (upd_size _ _ _ hfit)
              (fun m hm => by
                rw [splice_length _ _ _ hspl] at hm
                have g := splice_get es i (List.replicate n z) hspl m
                rw [List.getElem?_eq_getElem (by rw [splice_length _ _ _ hspl]; exact hm)] at g
                rw [hS]
                simp only [List.length_replicate] at g
                split at g
                · rename_i hin
                  rw [List.getElem?_replicate, if_pos (by omega)] at g
                  injection g with g
                  rw [g]
                · rw [List.getElem?_eq_getElem hm] at g
                  injection g with g
                  rw [g]
                  exact hes _ (List.getElem_mem _))
              (fun m p hm hp => by
                have hm' := hm
                rw [splice_length _ _ _ hspl] at hm'
                have g := splice_get es i (List.replicate n z) hspl m
                rw [List.getElem?_eq_getElem hm] at g
                rw [upd_get _ _ _ hfit, hS]
                simp only [List.length_replicate] at g
                simp only [Array.length_toList, hsize]
                split at g
                · rename_i hin
                  rw [List.getElem?_replicate, if_pos (by omega)] at g
                  injection g with g
                  have hp2 : p < z.length := by rw [g] at hp; exact hp
                  obtain ⟨y, h1, hj, h2⟩ := hzat (m - i) p (by omega) hp2
                  have e3 : m * z.length = i * z.length + (m - i) * z.length := by rw [← Nat.add_mul]; congr 1; omega
                  have e4 : (m - i) * z.length + p < n * z.length := flat_lt (by omega) hp2
                  rw [if_pos (by omega), show (C.μ id v').base + (m * z.length + p) - ((C.μ id v').base + i * z.length) = (m - i) * z.length + p by omega]
                  exact ⟨y, by rw [Array.getElem?_toList]; exact h1, by simpa [g] using h2⟩
                · rename_i hout
                  rw [List.getElem?_eq_getElem hm'] at g
                  injection g with g
                  have hp2 : p < es[m].length := by rw [← g]; exact hp
                  have hplt : p < z.length := by rw [← hes _ (List.getElem_mem hm')]; exact hp2
                  obtain ⟨y, h1, h2⟩ := hck m p hm' hp2
                  rw [hS] at h1
                  rw [if_neg (by
                    intro hh
                    rcases Nat.lt_or_ge m i with q | q
                    · have : (m + 1) * z.length ≤ i * z.length := Nat.mul_le_mul_right _ q
                      rw [Nat.add_mul] at this
                      omega
                    · have : (i + n) * z.length ≤ m * z.length := Nat.mul_le_mul_right _ (by omega)
                      rw [Nat.add_mul] at this
                      omega)]
                  exact ⟨y, h1, by simpa [g] using h2⟩)
            refine ⟨D, .tuple #[], hR', hle', .un _, .inl ?_⟩
            rw [hw]
            refine run _ ?_
            have hst := run_stores (P := P) (w := C.w) hbk hfit one
            obtain ⟨n, rfl⟩ : ∃ m, n = m + 1 := ⟨n - 1, by omega⟩
            simp [Builtin.clear_, run_underlying ht, hzv, hst]
      · cases h
    · cases h
  · rename_i hv
    injection h with h
    injection h with h1 h2
    subst h1 h2
    have hx := opd_c hF hy hv
    rw [hu] at hx
    refine ⟨C, .tuple #[], hR, .refl C, .un _, .inl ?_⟩
    cases hx
    exact none _ _ rfl
  · rename_i hv
    injection h with h
    injection h with h1 h2
    subst h1 h2
    have hx := opd_c hF hy hv
    rw [hu] at hx
    refine ⟨C, .tuple #[], hR, .refl C, .un _, .inl ?_⟩
    cases hx
    exact none _ _ rfl
  · cases h

end
end Go.Proofs.Ytjlhfjpnnildhaa.Am
