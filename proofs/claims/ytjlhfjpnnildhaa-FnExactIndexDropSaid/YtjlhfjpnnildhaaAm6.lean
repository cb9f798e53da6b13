/- The abstract machine, part 6: more operations that only read or compute. -/
import Derived.Test.YtjlhfjpnnildhaaAm5
set_option linter.unusedVariables false
set_option linter.unusedSimpArgs false
namespace Go.Proofs.Ytjlhfjpnnildhaa.Am
open Go.RowKit

theorem eqFlat_sound {P : Program} {C : Cx} (w : World) : ∀ (d : Nat) (t : TypeId) (ks : List EK), eqFlat P d t = some ks → ∀ (D : Nat), d ≤ D → ∀ {cs ds : List Ce} {b : Bool} {u v : Value} {g : Bool}, eqKs ks cs ds = some b → aggIn P t = some g →
    VOf C g cs u → VOf C g ds v → (Op.equalIn D t u v).run P w = .ok b w := by
  intro d
  induction d with
  | zero => intro t ks h; simp [eqFlat] at h
  | succ d ih =>
    intro t ks h D hD cs ds b u v g hb hg hu hv
    obtain ⟨D, rfl⟩ : ∃ m, D = m + 1 := ⟨D - 1, by omega⟩
    have hlen := eqKs_length hb
    have scal : ∀ k, ks = [k] → g = false → ((k = .i → ∃ q, P.underlying t = some (.int q)) ∧ (k = .b → P.underlying t = some .bool) ∧ (k = .s → P.underlying t = some .string) ∧ (k = .sl → ∃ q, P.underlying t = some (.slice q)) ∧ (k = .pt → ∃ q, P.underlying t = some (.pointer q)) ∧ (k = .fn → ∃ p q r, P.underlying t = some (.func p q r))) → (Op.equalIn (D + 1) t u v).run P w = .ok b w := by
      intro k hk e hh
      subst hk e
      simp only [VOf] at hu hv
      obtain ⟨c, rfl, hc⟩ := hu
      obtain ⟨c', rfl, hc'⟩ := hv
      exact eqK1 D w hb hc hc' hh
    simp only [eqFlat] at h
    split at h
    · rename_i q hq
      injection h with h
      refine scal .i h.symm ?_ ⟨fun _ => ⟨q, hq⟩, fun e => (by cases e), fun e => (by cases e), fun e => (by cases e), fun e => (by cases e), fun e => (by cases e)⟩
      simpa [aggIn, hq] using hg.symm
    · rename_i hq
      injection h with h
      refine scal .s h.symm ?_ ⟨fun e => (by cases e), fun e => (by cases e), fun _ => hq, fun e => (by cases e), fun e => (by cases e), fun e => (by cases e)⟩
      simpa [aggIn, hq] using hg.symm
    · rename_i hq
      injection h with h
      refine scal .b h.symm ?_ ⟨fun e => (by cases e), fun _ => hq, fun e => (by cases e), fun e => (by cases e), fun e => (by cases e), fun e => (by cases e)⟩
      simpa [aggIn, hq] using hg.symm
    · rename_i fs hq
      have hgt : g = true := by simpa [aggIn, hq] using hg.symm
      subst hgt
      simp only [VOf, if_true] at hu hv
      obtain ⟨xs, rfl, hxl, hx⟩ := hu
      obtain ⟨ys, rfl, hyl, hy⟩ := hv
      split at h
      · cases h
      · rename_i hs
        have hs' : P.stoodInHeld t = false := by simpa using hs
        have hf : P.fieldsOf t = fs := by simp [Program.fieldsOf, hq]
        rw [run_equalIn_struct (P := P) w D t xs ys (by rw [hf]; exact hq) hs', hf]
        -- the fields one by one
        have key : ∀ (l : List Field) (k0 : List EK) (b : Bool), l.foldlM (fun ks f => if f.name != "_" && f.offset == ks.length then (match eqFlat P d f.type with
               | some l => if sizeIn P f.type = some l.length then some (ks ++ l) else none
               | none => none) else none) k0 = some ks → eqKs (ks.drop k0.length) (cs.drop k0.length) (ds.drop k0.length) = some b → ks.take k0.length = k0 → (Op.eqFields D xs ys l).run P w = .ok b w := by
          intro l
          induction l with
          | nil =>
            intro k0 b h1 h2 h3
            simp at h1
            subst h1
            simp at h2
            have e1 : List.drop k0.length cs = [] := by simp; omega
            have e2 : List.drop k0.length ds = [] := by simp; omega
            rw [e1, e2] at h2
            simp [eqKs] at h2
            subst h2
            simp [Op.eqFields]
          | cons f l ihl =>
            intro k0 b h1 h2 h3
            simp only [List.foldlM_cons] at h1
            split at h1
            · rename_i hc
              simp only [Bool.and_eq_true, bne_iff_ne, ne_eq, beq_iff_eq] at hc
              obtain ⟨hn, ho⟩ := hc
              cases he : eqFlat P d f.type with
              | none => simp [he] at h1
              | some kl =>
                simp only [he] at h1
                by_cases hz : sizeIn P f.type = some kl.length
                · simp only [hz, if_true] at h1
                  change (l.foldlM _ (k0 ++ kl)) = some ks at h1
                  have hpre : ks.take (k0 ++ kl).length = k0 ++ kl := by
                    have pre : ∀ (l : List Field) (k0 ks : List EK), l.foldlM (fun ks f => if f.name != "_" && f.offset == ks.length then (match eqFlat P d f.type with
                        | some l => if sizeIn P f.type = some l.length then some (ks ++ l) else none
                        | none => none) else none) k0 = some ks → ks.take k0.length = k0 := by
                      intro l
                      induction l with
                      | nil => intro k0 ks h; simp at h; subst h; simp
                      | cons f l ihp =>
                        intro k0 ks h
                        simp only [List.foldlM_cons] at h
                        split at h
                        · cases he : eqFlat P d f.type with
                          | none => simp [he] at h
                          | some kl =>
                            simp only [he] at h
                            by_cases hz : sizeIn P f.type = some kl.length
                            · simp only [hz, if_true] at h
                              have h' := ihp (k0 ++ kl) ks h
                              have := congrArg (List.take k0.length) h'
                              simpa [List.take_take] using this
                            · simp [hz] at h
                        · simp at h
                    exact pre l _ ks h1
                  have hdrop : ks.drop k0.length = kl ++ ks.drop (k0 ++ kl).length := by
                    have e0 : ks = k0 ++ kl ++ ks.drop (k0 ++ kl).length := by
                      conv => lhs; rw [← List.take_append_drop (k0 ++ kl).length ks, hpre]
                    conv => lhs; rw [e0]
                    simp
                  rw [hdrop] at h2
                  obtain ⟨hl1, hl2, p, q, h4, h5, rfl⟩ := eqKs_split h2
                  simp only [List.drop_drop] at h5
                  have h6 := ihl (k0 ++ kl) q h1 (by simpa using h5) hpre
                  obtain ⟨gf, hgf⟩ : ∃ gf, aggIn P f.type = some gf := by
                    unfold aggIn
                    cases hu : P.underlying f.type with
                    | none =>
                      cases d with
                      | zero => simp [eqFlat] at he
                      | succ d => simp [eqFlat, hu] at he
                    | some z => cases z <;> exact ⟨_, rfl⟩
                  have hpart : ∀ (zs : Array Value) (es : List Ce) (hl : zs.size = es.length) (hz : ∀ i (hi : i < es.length), Rp C es[i] (zs[i]'(by omega))) (hle : kl.length ≤ (es.drop k0.length).length),
                      ∃ z, (part f.type zs f.offset).run P w = .ok z w ∧ VOf C gf ((es.drop k0.length).take kl.length) z := by
                    intro zs es hl hzz hle
                    simp only [List.length_drop] at hle
                    cases gf with
                    | true =>
                      refine ⟨.agg (zs.extract k0.length (k0.length + kl.length)), by simp [part, run_isAgg hgf, run_sizeOf hz, ho], ?_⟩
                      simp only [VOf, if_true]
                      refine ⟨_, rfl, by simp; omega, fun i hi => ?_⟩
                      simp only [List.length_take, List.length_drop] at hi
                      have := hzz (k0.length + i) (by omega)
                      simpa using this
                    | false =>
                      have hk1 : kl.length = 1 := by
                        cases d with
                        | zero => simp [eqFlat] at he
                        | succ d =>
                          simp only [eqFlat] at he
                          split at he
                          · injection he with he; rw [← he]; rfl
                          · injection he with he; rw [← he]; rfl
                          · injection he with he; rw [← he]; rfl
                          · rename_i hq2; simp [aggIn, hq2] at hgf
                          · cases he
                      have hlt : k0.length < zs.size := by omega
                      refine ⟨zs[k0.length], by simp [part, run_isAgg hgf, ho, hlt], ?_⟩
                      simp only [VOf, Bool.false_eq_true, if_false]
                      refine ⟨es[k0.length]'(by omega), ?_, hzz _ (by omega)⟩
                      rw [hk1, List.drop_eq_getElem_cons (by omega : k0.length < es.length)]
                      rfl
                  obtain ⟨za, ha1, ha2⟩ := hpart xs cs hxl hx hl1
                  obtain ⟨zb, hb1, hb2⟩ := hpart ys ds hyl hy hl2
                  have h7 := ih f.type kl he D (by omega) h4 hgf ha2 hb2
                  simp only [Op.eqFields, if_pos hn, Sem.run_bind, ha1, hb1, h7, Result.andThen_ok]
                  cases p
                  · simp
                  · simpa using h6
                · simp [hz] at h1
            · simp at h1
        exact key fs.toList [] b h (by simpa using hb) (by simp)
    · cases h

end Go.Proofs.Ytjlhfjpnnildhaa.Am
