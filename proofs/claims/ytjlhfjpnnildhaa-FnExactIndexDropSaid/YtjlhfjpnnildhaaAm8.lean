/- The abstract machine, part 8: slices, fields, elements, texts, lengths. -/
import Derived.Test.YtjlhfjpnnildhaaAm7
set_option linter.unusedVariables false
set_option linter.unusedSimpArgs false
namespace Go.Proofs.Ytjlhfjpnnildhaa.Am
open Go.RowKit

section
variable {P : Program} {nt : Nat} {C : Cx} {σ σ' : Store} {fr : Fr} {a : Act} {o : Oper} {x : AV}

theorem ok_un {op : UnOp} {t : TypeId} {y : Operand} {z : Opd} (hop : o.op = .unOp op t y) (hy : opdOf y = some z) (h : aop (.un op z) fr σ = some (x, σ')) (hR : Rl C σ) (hF : FrR C nt fr a) : OpOk P C a o x σ' := by
  simp only [aop] at h
  obtain ⟨r, hr, h2⟩ := Option.map_eq_some_iff.1 h
  injection h2 with h2 h3
  subst h2 h3
  obtain ⟨v, hv, hr⟩ := Option.bind_eq_some_iff.1 hr
  have h1 := opd_sound hF hy hv
  obtain ⟨u, hu⟩ : ∃ u, a.eval y = u := ⟨_, rfl⟩
  rw [hu] at h1
  unfold unA at hr
  split at hr
  · obtain rfl := rp_bool (rpv_c h1)
    cases op <;> simp at hr
    subst hr
    exact .pure hR (.c (.bool _)) (by simp [execOp, hop, hu, Op.unary])
  · obtain rfl := rp_int (rpv_c h1)
    cases op <;> simp at hr
    subst hr
    exact .pure hR (.c (.int _ _)) (by simp [execOp, hop, hu, Op.unary, Op.intArith])
  · cases hr

theorem ok_conv {t t' : TypeId} {k k0 : IntKind} {y : Operand} {z : Opd} (hop : o.op = .convert t t' y) (ht : P.underlying t = some (.int k0)) (ht' : P.underlying t' = some (.int k)) (hy : opdOf y = some z) (h : aop (.conv k z) fr σ = some (x, σ')) (hR : Rl C σ) (hF : FrR C nt fr a) : OpOk P C a o x σ' := by
  simp only [aop] at h
  split at h
  · rename_i k1 n hv
    injection h with h
    injection h with h2 h3
    subst h2 h3
    have h1 := opd_c hF hy hv
    obtain ⟨u, hu⟩ : ∃ u, a.eval y = u := ⟨_, rfl⟩
    rw [hu] at h1
    obtain rfl := rp_int h1
    exact .pure hR (.c (.int _ _)) (by simp [execOp, hop, hu, convert, run_underlying ht, run_underlying ht', Conv.intToInt])
  · cases h

theorem foldl_push (l : List UInt8) : ∀ (s : ByteArray), l.foldl (fun r n => r.push n) s = ⟨(s.data.toList ++ l).toArray⟩ := by
  induction l with
  | nil => intro s; simp
  | cons b l ih => intro s; simp only [List.foldl_cons, ih]; simp [ByteArray.push]
theorem ok_b2s {t t' e : TypeId} {y : Operand} {z : Opd} (hop : o.op = .convert t t' y) (ht : P.underlying t = some (.slice e)) (ht' : P.underlying t' = some .string) (he : P.underlying e = some (.int .u8)) (hy : opdOf y = some z) (h : aop (.b2s z) fr σ = some (x, σ')) (hR : Rl C σ) (hF : FrR C nt fr a) : OpOk P C a o x σ' := by
  simp only [aop] at h
  split at h
  · rename_i c hv
    obtain ⟨l, hl, h2⟩ := Option.map_eq_some_iff.1 h
    injection h2 with h2 h3
    subst h2 h3
    obtain ⟨es, hes, hl⟩ := Option.bind_eq_some_iff.1 hl
    have h1 := opd_c hF hy hv
    obtain ⟨u, hu⟩ : ∃ u, a.eval y = u := ⟨_, rfl⟩
    rw [hu] at h1
    obtain ⟨ad, cap, rfl, hcap, hc⟩ := els_sound hR h1 hes
    have hb : ∀ (es : List (List Ce)) (l : List UInt8), b2sA es = some l → ∃ ns : List Int, es = ns.map (fun n => [Ce.int .u8 n]) ∧ l = ns.map (fun n => UInt8.ofNat n.toNat) := by
      intro es
      induction es with
      | nil => intro l h; simp [b2sA] at h; subst h; exact ⟨[], rfl, rfl⟩
      | cons e es ih =>
        intro l h
        unfold b2sA at h
        split at h
        · rename_i he; cases he
        · rename_i n r he
          injection he with h1 h2
          subst h1 h2
          obtain ⟨l', hl', rfl⟩ := Option.map_eq_some_iff.1 h
          obtain ⟨ns, rfl, rfl⟩ := ih l' hl'
          exact ⟨n :: ns, rfl, rfl⟩
        · cases h
    obtain ⟨ns, rfl, rfl⟩ := hb es l hl
    refine .pure hR (.c (.str _)) ?_
    have fin : (Conv.bytesToString (.slice ad (ns.map fun n => [Ce.int .u8 n]).length cap)).run P C.w = .ok (.string ⟨(ns.map fun n => UInt8.ofNat n.toNat).toArray⟩) C.w := by
      rcases hc with hc | ⟨b, o', s, rfl, hs, vs, hc⟩
      · have : ns = [] := by simpa using hc
        subst this
        cases ad with
        | none => simp [Conv.bytesToString]; rfl
        | some ad =>
          have h0 : (loadCells ad 0).run P C.w = .ok (([] : List Int).map (Value.int .u8)).toArray C.w := by simp [loadCells, loadCellsFrom]
          have := run_bytesToString (P := P) C.w ad 0 cap [] h0
          exact this
      · have hl1 : ∀ j u, (ns.map (Value.int .u8))[j]? = some u → C.w.cell? ((⟨b, o', none⟩ : Addr).add j) = some u := by
          intro j u hj
          obtain ⟨hlt, rfl⟩ := List.getElem?_eq_some_iff.1 hj
          simp only [List.length_map] at hlt
          have hs1 : s = 1 := by
            have := hs j (by simpa using hlt)
            simpa using this.symm
          subst hs1
          obtain ⟨h3, h4⟩ := hc j 0 (by simpa using hlt) (by simp)
          simp only [List.getElem_map, List.getElem_cons_zero] at h4
          rw [add_lit']
          have := rp_int h4
          simp only [List.getElem_map]
          rw [this] at h3
          simpa using h3
        have hl2 := run_loadCells_list (P := P) C.w ⟨b, o', none⟩ (ns.map (Value.int .u8)) hl1
        rw [List.length_map] at hl2
        have := run_bytesToString (P := P) C.w ⟨b, o', none⟩ ns.length cap ns hl2
        rw [List.length_map]
        rw [this]
        congr 2
        have := foldl_push (ns.map fun n => UInt8.ofNat n.toNat) ByteArray.empty
        rw [List.foldl_map] at this
        simpa using this
    simp only [execOp, hop, hu, convert, Sem.run_bind, run_underlying ht, run_underlying ht', run_underlying he, Result.andThen_ok, fin]
    rfl
  · cases h

theorem ok_mkfn {f : FuncId} {pre cap : Array Operand} {p q : List Opd} (hop : o.op = .makeFunc (.func f) pre cap) (hp : pre.toList.mapM opdOf = some p) (hq : cap.toList.mapM opdOf = some q) (h : aop (.mkfn f p q) fr σ = some (x, σ')) (hR : Rl C σ) (hF : FrR C nt fr a) : OpOk P C a o x σ' := by
  simp only [aop] at h
  split at h
  · rename_i ps cs h1 h2
    injection h with h
    injection h with h3 h4
    subst h3 h4
    obtain ⟨l1, r1⟩ := evc_sound hF hp h1
    obtain ⟨l2, r2⟩ := evc_sound hF hq h2
    refine .pure (v := .func (.func f) (pre.map a.eval) (cap.map a.eval)) hR (.c (.fn f ps cs _ _ (by simpa using l1) (by simpa using l2) (fun i hi => ?_) (fun i hi => ?_))) (by simp [execOp, hop, Instr.makeFunc])
    · have := r1 i (by omega) hi
      simpa using this
    · have := r2 i (by omega) hi
      simpa using this
  · cases h

theorem optOpd_sound (hF : FrR C nt fr a) {y : Option Operand} {z : Option Opd} (hy : optOpd y = some z) {r : Option AV} (hr : evo fr z = some r) : (y = none ∧ r = none) ∨ ∃ y' v, y = some y' ∧ r = some v ∧ RpV C v (a.eval y') := by
  cases y with
  | none => simp [optOpd] at hy; subst hy; simp [evo] at hr; exact .inl ⟨rfl, hr.symm⟩
  | some y =>
    simp only [optOpd, Option.map_eq_some_iff] at hy
    obtain ⟨z', hz, rfl⟩ := hy
    simp only [evo, Option.map_eq_some_iff] at hr
    obtain ⟨v, hv, rfl⟩ := hr
    exact .inr ⟨y, v, rfl, rfl, opd_sound hF hz hv⟩
/-- A bound of a slice expression. -/
theorem bound_sound {v : AV} {u : Value} (hv : RpV C v u) {d n : Nat} (h : bound d (some v) = some n) : ∃ k, u = .int k (n : Int) := by
  unfold bound at h
  split at h
  · rename_i e; cases e
  · rename_i k m e
    injection e with e
    subst e
    split at h
    · rename_i h0
      injection h with h
      subst h
      exact ⟨k, by rw [rp_int (rpv_c hv)]; congr 1; omega⟩
    · cases h
  · cases h
theorem run_sliceBound {k : IntKind} {n y : Nat} (code : BoundsCode) (w : World) (h : n ≤ y) : (Instr.sliceBound (.int k n) y code).run P w = .ok n w := by
  have : (0 : Int) ≤ n ∧ (n : Int) ≤ y := ⟨by omega, by omega⟩
  simp [Instr.sliceBound, asIntOf, this]
theorem run_sliceBounds (hF : FrR C nt fr a) (isSl : Bool) {len cap : Nat} {lo hi mx : Option Operand} {lo' hi' mx' : Option Opd} (h1 : optOpd lo = some lo') (h2 : optOpd hi = some hi') (h3 : optOpd mx = some mx') {vl vh vm : Option AV} (e1 : evo fr lo' = some vl) (e2 : evo fr hi' = some vh) (e3 : evo fr mx' = some vm)
    {l h m dm : Nat} (b1 : bound 0 vl = some l) (b2 : bound len vh = some h) (b3 : bound dm vm = some m) (hlh : l ≤ h) (hhm : h ≤ m) (hmc : m ≤ cap) (hno : vm ≠ none → vh ≠ none) (w : World) :
    (Instr.sliceBounds isSl len cap (lo.map a.eval) (hi.map a.eval) (mx.map a.eval)).run P w = .ok (l, h, if vm = none then cap else m) w := by
  have key : ∀ {y : Option Operand} {v : Option AV} {d n : Nat}, ((y = none ∧ v = none) ∨ ∃ y' v', y = some y' ∧ v = some v' ∧ RpV C v' (a.eval y')) → bound d v = some n → (y = none ∧ v = none ∧ n = d) ∨ ∃ y' k, y = some y' ∧ v ≠ none ∧ a.eval y' = .int k (n : Int) := by
    intro y v d n hh hb
    rcases hh with ⟨rfl, rfl⟩ | ⟨y', v', rfl, rfl, hv⟩
    · simp [bound] at hb; exact .inl ⟨rfl, rfl, hb.symm⟩
    · obtain ⟨k, hk⟩ := bound_sound hv hb
      exact .inr ⟨y', k, rfl, by simp, hk⟩
  have kl := key (optOpd_sound hF h1 e1) b1
  have kh := key (optOpd_sound hF h2 e2) b2
  have km := key (optOpd_sound hF h3 e3) b3
  rcases km with ⟨rfl, rfl, rfl⟩ | ⟨ym, k3, rfl, hm, hm'⟩
  · rcases kh with ⟨rfl, rfl, rfl⟩ | ⟨yh, k2, rfl, hh, hh'⟩
    · rcases kl with ⟨rfl, rfl, rfl⟩ | ⟨yl, k1, rfl, hl, hl'⟩
      · simp [Instr.sliceBounds]
      · simp [Instr.sliceBounds, hl', run_sliceBound _ _ hlh]
    · have hhc : h ≤ cap := by omega
      rcases kl with ⟨rfl, rfl, rfl⟩ | ⟨yl, k1, rfl, hl, hl'⟩
      · simp [Instr.sliceBounds, hh', run_sliceBound _ _ hhc]
      · simp [Instr.sliceBounds, hh', hl', run_sliceBound _ _ hhc, run_sliceBound _ _ hlh]
  · rcases kh with ⟨rfl, rfl, rfl⟩ | ⟨yh, k2, rfl, hh, hh'⟩
    · exact absurd rfl (hno hm)
    · rcases kl with ⟨rfl, rfl, rfl⟩ | ⟨yl, k1, rfl, hl, hl'⟩
      · simp [Instr.sliceBounds, hm', hh', run_sliceBound _ _ hmc, run_sliceBound _ _ hhm, hm]
      · simp [Instr.sliceBounds, hm', hh', hl', run_sliceBound _ _ hmc, run_sliceBound _ _ hhm, run_sliceBound _ _ hlh, hm]

theorem evo_none (hF : FrR C nt fr a) {y : Option Operand} {z : Option Opd} (hy : optOpd y = some z) {r : Option AV} (hr : evo fr z = some r) : r = none ↔ y = none := by
  rcases optOpd_sound hF hy hr with ⟨rfl, rfl⟩ | ⟨y', v, rfl, rfl, _⟩ <;> simp

theorem ok_slice {t e : TypeId} {s : Nat} {y : Operand} {z : Opd} {lo hi mx : Option Operand} {lo' hi' mx' : Option Opd} (hop : o.op = .slice t y lo hi mx) (ht : P.underlying t = some (.slice e)) (hs : sizeIn P e = some s) (hno : mx.isNone ∨ hi.isSome)
    (hy : opdOf y = some z) (h1 : optOpd lo = some lo') (h2 : optOpd hi = some hi') (h3 : optOpd mx = some mx') (hs0 : 0 < s) (h : aop (.slice s z lo' hi' mx') fr σ = some (x, σ')) (hR : Rl C σ) (hF : FrR C nt fr a) : OpOk P C a o x σ' := by
  simp only [aop] at h
  split at h
  · rename_i c vl vh vm hv e1 e2 e3
    obtain ⟨r, hr, h4⟩ := Option.map_eq_some_iff.1 h
    injection h4 with h4 h5
    subst h4 h5
    have hx := opd_c hF hy hv
    obtain ⟨u, hu⟩ : ∃ u, a.eval y = u := ⟨_, rfl⟩
    rw [hu] at hx
    have nomx : vm ≠ none → vh ≠ none := by
      intro hm hh
      rw [Ne, evo_none hF h3 e3] at hm
      rw [evo_none hF h2 e2] at hh
      rcases hno with h | h
      · exact hm (by simpa using h)
      · subst hh; simp at h
    -- the machine's part, for a slice with an address
    have go : ∀ {ad : Option Addr} {len cap l hh m dm : Nat}, u = .slice ad len cap → bound 0 vl = some l → bound len vh = some hh → bound dm vm = some m → l ≤ hh → hh ≤ m → m ≤ cap →
        (execOp a.eval o).run P C.w = .ok (.value (.slice (if (if vm = none then cap else m) = l then ad else ad.map (·.add (l * s))) (hh - l) ((if vm = none then cap else m) - l))) C.w := by
      intro ad len cap l hh m dm hul b1 b2 b3 q1 q2 q3
      have hb := run_sliceBounds (P := P) (a := a) hF true h1 h2 h3 e1 e2 e3 b1 b2 b3 q1 q2 q3 nomx C.w
      simp only [execOp, hop, hu, hul, Instr.sliceAt, Instr.slice, Sem.run_bind, run_underlying ht, Result.andThen_ok]
      rw [hb]
      simp only [Result.andThen_ok, run_sizeOf hs, Sem.run_pure]
    unfold sliceA at hr
    split at hr
    · -- nobody writes it
      rename_i es
      split at hr
      · rename_i l hh b1 b2
        split at hr
        · rename_i hc
          obtain ⟨q1, q2, hes⟩ := hc
          -- what the value is
          obtain ⟨ad, cap, rfl, hcap, hel⟩ : ∃ ad cap, u = .slice ad es.length cap ∧ es.length ≤ cap ∧ (es = [] ∨ ∃ (b o' : Nat) (vs : Nat → Nat → Value), ad = some ⟨b, o', none⟩ ∧ b < C.w.heap.size ∧ ¬ C.M b ∧
              (∀ i j, i < es.length → j < s → C.w.cell? ⟨b, o' + (i * s + j), none⟩ = some (vs i j)) ∧ ∀ i j (hi : i < es.length) (hj : j < es[i].length), Rp C (es[i][j]) (vs i j)) := by
            cases hx with
            | fz0 ad cap => exact ⟨ad, cap, rfl, by simp, .inl rfl⟩
            | fz _ b o' cap sz vs hl hM hc hss cell hh =>
              rcases Nat.eq_zero_or_pos es.length with h0 | h0
              · exact ⟨_, cap, rfl, hc, .inl (List.eq_nil_of_length_eq_zero h0)⟩
              · have : sz = s := by rw [← hss 0 h0]; exact hes _ (List.getElem_mem _)
                subst this
                exact ⟨_, cap, rfl, hc, .inr ⟨b, o', vs, rfl, hl, hM, cell, hh⟩⟩
          have sub : ∀ (C' : Nat), hh ≤ C' → C' ≤ cap → Rp C (.fz ((es.take hh).drop l)) (.slice (if C' = l then ad else ad.map (·.add (l * s))) (hh - l) (C' - l)) := by
            intro C' g1 g2
            have hlen : ((es.take hh).drop l).length = hh - l := by simp; omega
            rcases Nat.eq_zero_or_pos (hh - l) with h0 | h0
            · have : (es.take hh).drop l = [] := List.eq_nil_of_length_eq_zero (by omega)
              rw [this, h0]
              exact .fz0 _ _
            · rw [if_neg (by omega : ¬ C' = l)]
              rcases hel with rfl | ⟨b, o', vs, rfl, hl, hM, cell, hc⟩
              · simp at q2; omega
              · simp only [Option.map_some, add_lit']
                have gi : ∀ k (hk : k < ((es.take hh).drop l).length), ((es.take hh).drop l)[k] = es[l + k]'(by rw [hlen] at hk; omega) := by
                  intro k hk
                  simp
                have := Rp.fz (C := C) ((es.take hh).drop l) b (o' + l * s) (C' - l) s (fun k j => vs (l + k) j) hl hM (by omega) (fun k hk => by rw [gi k hk]; exact hes _ (List.getElem_mem _))
                  (fun k j hk hj => by
                    have := cell (l + k) j (by omega) hj
                    rw [show o' + l * s + (k * s + j) = o' + ((l + k) * s + j) by rw [Nat.add_mul]; omega]
                    exact this)
                  (fun k j hk hj => by
                    have e : ((es.take hh).drop l)[k][j] = (es[l + k]'(by omega))[j]'(by rw [← gi k hk]; exact hj) := by simp
                    rw [e]
                    exact hc (l + k) j (by omega) _)
                rw [hlen] at this
                exact this
          split at hr
          · -- no max
            injection hr with hr
            subst hr
            have hrun := go (dm := cap) rfl b1 b2 (m := cap) rfl q1 (by omega) (Nat.le_refl _)
            simp only [if_true] at hrun
            exact .pure hR (.c (sub cap (by omega) (Nat.le_refl _))) hrun
          · rename_i m
            split at hr
            · rename_i mm b3
              split at hr
              · rename_i hm
                have hrun := go (dm := 0) rfl b1 b2 b3 q1 hm.1 (by omega)
                simp only [reduceCtorEq, if_false] at hrun
                split at hr
                · rename_i e
                  injection hr with hr
                  subst hr
                  have e2 : hh = l := by omega
                  refine .pure (v := .slice ad 0 0) hR (.c (.emp ad)) ?_
                  rw [hrun]
                  simp [e, e2]
                · injection hr with hr
                  subst hr
                  exact .pure hR (.c (sub mm hm.1 (by omega))) hrun
              · cases hr
            · cases hr
        · cases hr
      · cases hr
    · -- an owned one
      rename_i id v i n c
      split at hr
      · rename_i l hh m b1 b2 b3
        split at hr
        · rename_i v' es hg
          split at hr
          · rename_i hc
            obtain ⟨rfl, hes, q1, q2, q3⟩ := hc
            injection hr with hr
            subst hr
            cases hx with
            | sl0 _ _ _ ad hF' =>
              obtain rfl : m = 0 := by omega
              obtain rfl : hh = 0 := by omega
              obtain rfl : l = 0 := by omega
              have hrun := go rfl b1 b2 b3 q1 q2 (Nat.le_refl 0)
              simp only [ite_self, if_true] at hrun
              refine .pure (v := .slice ad 0 0) hR (.c (.sl0 _ _ _ _ hF')) ?_
              simpa using hrun
            | sl _ _ _ _ _ cap hF' hn hcc hv' hk =>
              have hrun := go rfl b1 b2 b3 q1 q2 (by omega : m ≤ cap)
              have hgen : ∀ C', m ≤ C' → C' ≤ cap → Rp C (.sl id v' (i + l) (hh - l) (m - l)) (.slice (if C' = l then (some ⟨(C.μ id v').b, (C.μ id v').base + i * (C.μ id v').s, none⟩) else (some (⟨(C.μ id v').b, (C.μ id v').base + i * (C.μ id v').s, none⟩ : Addr)).map (·.add (l * s))) (hh - l) (C' - l)) := by
                intro C' g1 g2
                by_cases e : C' = l
                · have e1 : hh - l = 0 := by omega
                  have e2 : m - l = 0 := by omega
                  have e3 : C' - l = 0 := by omega
                  rw [e1, e2, e3]
                  exact .sl0 _ _ _ _ hF'
                · rw [if_neg e]
                  obtain ⟨lF, lV, lE⟩ := hR.live id v' es hg
                  have hne : es ≠ [] := fun e => by have := lE.2 e; rw [hv'] at this; cases this
                  obtain ⟨cs, t', hb, hz, hl', _⟩ := hR.blk id v' es hg hne
                  have hss : (C.μ id v').s = s := by
                    have h0 : 0 < es.length := List.length_pos_iff.2 hne
                    rw [← hl' 0 h0]
                    exact hes _ (List.getElem_mem _)
                  simp only [Option.map_some, add_lit']
                  obtain ⟨cs', t'', hb', hz'⟩ := hk
                  have := Rp.sl (C := C) id v' (i + l) (hh - l) (m - l) (C' - l) hF' (by omega) (by omega) hv' ⟨cs', t'', hb', by
                    have : (i + l + (C' - l)) * (C.μ id v').s ≤ (i + cap) * (C.μ id v').s := Nat.mul_le_mul_right _ (by omega)
                    omega⟩
                  rw [hss] at this ⊢
                  rw [show (C.μ id v').base + i * s + l * s = (C.μ id v').base + (i + l) * s by rw [Nat.add_mul]; omega]
                  exact this
              by_cases e : vm = none
              · rw [if_pos e] at hrun
                exact .pure hR (.c (hgen cap (by omega) (Nat.le_refl _))) hrun
              · rw [if_neg e] at hrun
                exact .pure hR (.c (hgen m (Nat.le_refl _) (by omega))) hrun
          · cases hr
        · cases hr
      · cases hr
    · -- nil
      split at hr
      · rename_i b1 b2 b3
        injection hr with hr
        subst hr
        cases hx
        have hrun := go rfl b1 b2 b3 (Nat.le_refl 0) (Nat.le_refl 0) (Nat.le_refl 0)
        refine .pure (v := .slice none 0 0) hR (.c .nils) ?_
        simpa using hrun
      · cases hr
    · split at hr
      · rename_i b1 b2 b3
        injection hr with hr
        subst hr
        cases hx with
        | emp ad =>
          have hrun := go rfl b1 b2 b3 (Nat.le_refl 0) (Nat.le_refl 0) (Nat.le_refl 0)
          refine .pure (v := .slice ad 0 0) hR (.c (.emp _)) ?_
          simpa using hrun
      · cases hr
    · cases hr
  · cases h

theorem ok_strsl {t : TypeId} {y : Operand} {z : Opd} {lo hi : Option Operand} {lo' hi' : Option Opd} (hop : o.op = .slice t y lo hi none) (ht : P.underlying t = some .string)
    (hy : opdOf y = some z) (h1 : optOpd lo = some lo') (h2 : optOpd hi = some hi') (h : aop (.strsl z lo' hi') fr σ = some (x, σ')) (hR : Rl C σ) (hF : FrR C nt fr a) : OpOk P C a o x σ' := by
  simp only [aop] at h
  split at h
  · rename_i s vl vh hv e1 e2
    split at h
    · rename_i l hh b1 b2
      split at h
      · rename_i hc
        obtain ⟨hlh, hhs⟩ := hc
        injection h with h
        injection h with h3 h4
        subst h3 h4
        have hx := opd_c hF hy hv
        obtain ⟨u, hu⟩ : ∃ u, a.eval y = u := ⟨_, rfl⟩
        rw [hu] at hx
        obtain rfl := rp_str hx
        have hb := run_sliceBounds (P := P) (a := a) hF false (len := s.length) (cap := s.length) (mx := none) (mx' := none) (vm := none) (dm := s.length) h1 h2 rfl e1 e2 rfl b1 b2 (m := s.length) rfl hlh hhs (Nat.le_refl _) (fun h => absurd rfl h) C.w
        have hsz : (⟨s.toArray⟩ : ByteArray).size = s.length := rfl
        have hex : (⟨s.toArray⟩ : ByteArray).extract l hh = ⟨(List.drop l (List.take hh s)).toArray⟩ := by
          apply ByteArray.ext
          apply Array.ext'
          simp [ByteArray.data_extract, List.extract_eq_take_drop, List.drop_take]
        refine .pure hR (.c (.str _)) ?_
        simp only [Option.map_none] at hb
        simp only [execOp, hop, hu, Instr.sliceAt, Instr.slice, Sem.run_bind, run_underlying ht, Result.andThen_ok, Option.map_none, Option.isSome_none, Bool.false_eq_true, if_false, hsz]
        rw [hb]
        simp only [Result.andThen_ok, Sem.run_pure, hex]
      · cases h
    · cases h
  · cases h

end
end Go.Proofs.Ytjlhfjpnnildhaa.Am
