/- The abstract machine, part 13: append, clear. -/
import Derived.Test.YtjlhfjpnnildhaaAm12
import Derived.Maps.AppendAt
set_option linter.unusedVariables false
set_option linter.unusedSimpArgs false
namespace Go.Proofs.Ytjlhfjpnnildhaa.Am
open Go.RowKit

section
variable {P : Program} {nt : Nat} {C : Cx} {σ σ' : Store} {fr : Fr} {a : Act} {o : Oper} {x : AV}

/-- What is appended: elements, as cells. -/
structure App (C : Cx) (P : Program) (s : Nat) (tx : TypeId) (u : Value) (ys : List (List Ce)) (news : List Value) : Prop where
  src : Src P s tx u ys.length news C.w
  at_ : ∀ i j (hi : i < ys.length) (hj : j < ys[i].length), ∃ v, news[i * s + j]? = some v ∧ Rp C ys[i][j] v

theorem flat_one {n s : Nat} {ys : List (List Ce)} {vs : Nat → Nat → Value} (hn : ys.length = n) (hs : ∀ i (hi : i < ys.length), ys[i].length = s) (h : ∀ i j (hi : i < ys.length) (hj : j < ys[i].length), Rp C ys[i][j] (vs i j)) : ∀ u ∈ flat n s vs, u.oneCell' = true := by
  intro u hu
  obtain ⟨k, hk, rfl⟩ := List.getElem_of_mem hu
  obtain ⟨h1, h2, _, h4⟩ := flat_back (List.getElem?_eq_getElem hk)
  rw [h4]
  exact (h (k / s) (k % s) (by omega) (by rw [hs _ (by omega)]; exact h2)).one'

theorem app_of_els (hR : Rl C σ) {y : Ce} {u : Value} (hy : Rp C y u) {ys : List (List Ce)} (hys : σ.els y = some ys) {s : Nat} (hl : ∀ e ∈ ys, e.length = s) {tx e' : TypeId} (hk : (∃ e', P.underlying tx = some (.slice e')) ∨ P.underlying tx = some .string) : ∃ news, App C P s tx u ys news := by
  obtain ⟨ad, cap, rfl, hcap, hc⟩ := els_sound hR hy hys
  rcases hc with rfl | ⟨b, o', sz, rfl, hsz, vs, hvs⟩
  · refine ⟨[], ⟨⟨hk, fun _ => rfl, ?_, ?_, by simp, fun _ h => by cases h⟩, fun i j hi => absurd hi (by simp)⟩⟩
    · cases ad <;> simp [Builtin.firstCells, loadCells, loadCellsFrom]
    · cases ad <;> simp [Builtin.firstCells, loadCells, loadCellsFrom]
  · rcases Nat.eq_zero_or_pos ys.length with h0 | h0
    · obtain rfl := List.eq_nil_of_length_eq_zero h0
      exact ⟨[], ⟨⟨hk, fun _ => rfl, by simp [Builtin.firstCells, loadCells, loadCellsFrom], by simp [Builtin.firstCells, loadCells, loadCellsFrom], by simp, fun _ h => by cases h⟩, fun i j hi => absurd hi (by simp)⟩⟩
    · have hss : sz = s := by rw [← hsz 0 h0]; exact hl _ (List.getElem_mem _)
      subst hss
      have hcell : ∀ k v, (flat ys.length sz vs)[k]? = some v → C.w.cell? ((⟨b, o', none⟩ : Addr).add k) = some v := by
        intro k v hkv
        obtain ⟨h1, h2, h3, rfl⟩ := flat_back hkv
        rw [add_lit', h3]
        have e1 : (k / sz * sz + k % sz) / sz = k / sz := by rw [← h3]
        have e2 : (k / sz * sz + k % sz) % sz = k % sz := by rw [← h3]
        rw [e1, e2]
        exact (hvs (k / sz) (k % sz) h1 (by rw [hsz _ h1]; exact h2)).1
      refine ⟨flat ys.length sz vs, ⟨⟨hk, fun _ => rfl, run_firstCells_some C.w sz _ _ _ cap _ (flat_length _ _ _) hcell, run_firstCells_some C.w.drew sz _ _ _ cap _ (flat_length _ _ _) (by simpa using hcell), flat_length _ _ _, flat_one rfl hsz (fun i j hi hj => (hvs i j hi hj).2)⟩, fun i j hi hj => ⟨vs i j, flat_get _ _ _ hi (by rw [← hsz i hi]; exact hj), (hvs i j hi hj).2⟩⟩⟩
theorem app_of_str {l : List UInt8} {tx : TypeId} (hk : (∃ e', P.underlying tx = some (.slice e')) ∨ P.underlying tx = some .string) : ∃ news, App C P 1 tx (.string ⟨l.toArray⟩) (l.map fun b => [.int .u8 b.toNat]) news := by
  refine ⟨byteCells ⟨l.toArray⟩, ⟨⟨hk, fun _ => by simp [Builtin.lenOf]; rfl, ?_, ?_, by rw [byteCells_length]; simp; rfl, fun u hu => ?_⟩, fun i j hi hj => ?_⟩⟩
  · have := firstCells_string (P := P) ⟨l.toArray⟩ C.w
    rw [List.length_map]
    exact this
  · have := firstCells_string (P := P) ⟨l.toArray⟩ C.w.drew
    rw [List.length_map]
    exact this
  · obtain ⟨_, _, rfl⟩ := List.mem_map.1 hu
    rfl
  · simp only [List.length_map] at hi
    simp only [List.getElem_map, List.length_cons, List.length_nil] at hj
    obtain rfl : j = 0 := by omega
    refine ⟨.int .u8 l[i].toNat, ?_, ?_⟩
    · simp [byteCells, hi]
    · simp only [List.getElem_map, List.getElem_cons_zero]
      exact .int _ _

/-- There is room: the row is written. -/
theorem run_append_row {w : World} {t tx ty e : TypeId} {i : TypeInfo} (ht : P.underlying t = some (.slice e)) (hi : P.info? e = some i) {b off sLen sCap n : Nat} {u : Value} {news : List Value} (hs : Src P i.size tx u n news w) (hroom : sLen + n ≤ sCap) {cur : Array Value} {t' : TypeId} (hg : w.heap[b]? = some (.cells cur t' (0, 0))) (hl : off + sLen * i.size + news.length ≤ cur.size) :
    (Builtin.append_ #[t, tx] ty #[.slice (some ⟨b, off, none⟩) sLen sCap, u]).run P w = .ok (.slice (some ⟨b, off, none⟩) (sLen + n) sCap) (w.setRow b (upd cur (off + sLen * i.size) news)) := by
  have hst := run_stores (P := P) (w := w) (k := off + sLen * i.size) hg hl hs.one
  rcases hs.kind with ⟨e', hk⟩ | hk <;> simp [Builtin.append_, run_underlying ht, run_underlying hk, sizeOf, typeInfo, hi, hs.len, hroom, hs.cells, add_lit', hst]

theorem splice_nil {α : Type} (l : List α) (k : Nat) : splice l k [] = l := by simp [splice]

theorem appA_sound {s bytes : Nat} {t tx ty e : TypeId} {i : TypeInfo} {z : List Ce} (ht : P.underlying t = some (.slice e)) (hi : P.info? e = some i) (hs : sizeIn P e = some s) (hz : zeroIn P e = some z) (hzl : z.length = s) (hs0 : 0 < s) (hb : i.bytes = bytes) (hb0 : 0 < bytes)
    {c r : Ce} {ys : List (List Ce)} (h : appA σ s bytes c ys = some (r, σ')) (hR : Rl C σ) {v u : Value} (hc : Rp C c v) {news : List Value} (hsrc : App C P s tx u ys news) :
    ∃ D v', Rl D σ' ∧ C.Le D ∧ Rp D r v' ∧ (Builtin.append_ #[t, tx] ty #[v, u]).run P C.w = .ok v' D.w := by
  have hsi : i.size = s := by unfold sizeIn at hs; rw [hi] at hs; simpa using hs
  have hz' := hz
  unfold zeroIn at hz'
  obtain ⟨zv, hzv, hzc⟩ := Option.bind_eq_some_iff.1 hz'
  rw [hi] at hzv
  simp only [Option.bind_some] at hzv
  have hzs : zv.cells.size = s := by
    obtain ⟨hl, _⟩ := cesOf_sound (C := C) hzc
    simp at hl
    omega
  unfold appA at h
  split at h
  case isFalse => cases h
  case isTrue hys =>
  have hnl : news.length = ys.length * s := hsrc.src.newsLen
  -- a new row
  have grow : ∀ {base : Option Addr} {n cap : Nat} {olds : List Value} {old : List (List Ce)}, v = .slice base n cap → cap < n + ys.length → (n + ys.length) * bytes ≤ 140737488355328 → old.length = n → (∀ e ∈ old, e.length = s) →
      olds.length = n * s → (∀ w', (∀ b o, w'.cell? ⟨b, o, none⟩ = C.w.cell? ⟨b, o, none⟩) → (Builtin.firstCells s n (.slice base n cap)).run P w' = .ok olds.toArray w') → (∀ i j (hi : i < old.length) (hj : j < old[i].length), ∃ x, olds[i * s + j]? = some x ∧ Rp C old[i][j] x) →
      ∃ cells : Array Value, (Builtin.append_ #[t, tx] ty #[v, u]).run P C.w = .ok (.slice (some ⟨C.w.heap.size, 0, none⟩) (n + ys.length) (grownCap C.w (n + ys.length) cap e)) (C.w.drew.alloc (.cells cells e)) ∧ n + ys.length ≤ grownCap C.w (n + ys.length) cap e ∧
        grownCap C.w (n + ys.length) cap e * s ≤ cells.size ∧ ∀ i j (hi : i < (old ++ ys).length) (hj : j < (old ++ ys)[i].length), ∃ x, cells[i * s + j]? = some x ∧ Rp C (old ++ ys)[i][j] x := by
    intro base n cap olds old hv hg hbd hol hos hoc hold hat
    have hge := grownCap_ge C.w (n + ys.length) cap e
    have hrun := run_append_grow_src (P := P) C.w t tx ty e i zv ht hi hzv base n cap olds (by rw [hsi]; exact hold _ (fun b o => rfl)) u ys.length news (by rw [hsi]; exact hsrc.src) hg (by
      have : (n + ys.length) * 1 ≤ (n + ys.length) * bytes := Nat.mul_le_mul_left _ hb0
      omega) (growslice_fits hg (by rw [hb]; exact hbd))
    refine ⟨_, by rw [hv]; exact hrun, hge, ?_, fun k j hk hj => ?_⟩
    · simp only [Array.size_append, List.size_toArray, List.length_append, size_zeroCells, hzs, hoc, hnl]
      have h1 : (n + ys.length) * s + (grownCap C.w (n + ys.length) cap e - (n + ys.length)) * s = grownCap C.w (n + ys.length) cap e * s := by
        rw [← Nat.add_mul]; congr 1; omega
      rw [Nat.add_mul] at h1
      omega
    · have hlt : k * s + j < (olds ++ news).length := by
        simp only [List.length_append, hoc, hnl, ← Nat.add_mul]
        have hk2 : k < n + ys.length := by simp only [List.length_append, hol] at hk; exact hk
        refine flat_lt hk2 ?_
        have hmem := List.getElem_mem hk
        have : ((old ++ ys)[k]).length = s := by
          rcases List.mem_append.1 hmem with h | h
          · exact hos _ h
          · exact hys _ h
        omega
      rw [Array.getElem?_append_left (by simpa using hlt)]
      simp only [List.getElem?_toArray]
      by_cases e1 : k < old.length
      · have eq : (old ++ ys)[k] = old[k] := List.getElem_append_left e1
        obtain ⟨y, h1, h2⟩ := hat k j e1 (by rw [← eq]; exact hj)
        refine ⟨y, ?_, by simpa [eq] using h2⟩
        have : k * s + j < olds.length := by
          have := (List.getElem?_eq_some_iff.1 h1).1
          exact this
        rw [List.getElem?_append_left this]
        exact h1
      · simp only [List.length_append] at hk
        have eq : (old ++ ys)[k]'(by simp; omega) = ys[k - old.length]'(by omega) := List.getElem_append_right (by omega)
        obtain ⟨y, h1, h2⟩ := hsrc.at_ (k - old.length) j (by omega) (by rw [← eq]; exact hj)
        refine ⟨y, ?_, by simpa [eq] using h2⟩
        have hk2 : k * s = old.length * s + (k - old.length) * s := by rw [← Nat.add_mul]; congr 1; omega
        rw [List.getElem?_append_right (by rw [hoc, ← hol]; omega), hoc, ← hol]
        rw [show k * s + j - old.length * s = (k - old.length) * s + j by omega]
        exact h1
  have nothing : ∀ {base : Option Addr} {n cap : Nat}, v = .slice base n cap → n ≤ cap → ys = [] → (Builtin.append_ #[t, tx] ty #[v, u]).run P C.w = .ok v C.w := by
    intro base n cap hv hle he
    subst he
    have hnews : news = [] := List.eq_nil_of_length_eq_zero (by simpa using hnl)
    subst hnews
    rw [hv]
    exact run_append_nothing (P := P) C.w t tx ty e i ht hi base n cap hle u (by rw [hsi]; exact hsrc.src)
  -- onto nothing
  have fromNothing : ∀ {base : Option Addr}, v = .slice base 0 0 → ys.length * bytes ≤ 140737488355328 → (r, σ') = (Ce.sl σ.next 0 0 ys.length ys.length, σ.new (0, ys)) →
      ∃ D v', Rl D σ' ∧ C.Le D ∧ Rp D r v' ∧ (Builtin.append_ #[t, tx] ty #[v, u]).run P C.w = .ok v' D.w := by
    intro base hv hbd he
    injection he with h1 h2
    subst h1 h2
    rcases Nat.eq_zero_or_pos ys.length with h0 | h0
    · have hy0 := List.eq_nil_of_length_eq_zero h0
      obtain ⟨D, hw, hR', hle, hFn, hμ⟩ := hR.fresh ys s C.w.heap.size C.w rfl rfl rfl (Nat.le_refl _) (fun b hb => rfl) (fun k hk => hys _ (List.getElem_mem _)) (fun hne => absurd hy0 hne)
      refine ⟨D, v, hR', hle, ?_, by rw [hw]; exact nothing hv (Nat.le_refl _) hy0⟩
      rw [hv, h0]
      exact .sl0 _ _ _ _ hFn
    · obtain ⟨cells, hrun, hge, hsz, hat⟩ := grow (olds := []) (old := []) hv (by omega) (by simpa using hbd) rfl (by simp) (by simp) (by
        intro w' _
        cases base <;> simp [Builtin.firstCells, loadCells, loadCellsFrom]) (fun i j hi => absurd hi (by simp))
      obtain ⟨D, hw, hR', hle, hFn, hμ⟩ := hR.fresh ys s C.w.heap.size (C.w.drew.alloc (.cells cells e)) rfl rfl rfl (by show C.w.heap.size ≤ (C.w.heap.push _).size; simp) (fun b hb => push_old _ _ _ hb) (fun k hk => hys _ (List.getElem_mem _))
        (fun _ => ⟨Nat.le_refl _, cells, e, push_new _ _, by
          have : ys.length * s ≤ grownCap C.w (0 + ys.length) 0 e * s := Nat.mul_le_mul_right _ (by simpa using hge)
          omega, fun k j hk hj => by simpa using hat k j (by simpa using hk) (by simpa using hj)⟩)
      refine ⟨D, _, hR', hle, made_sl (s := s) ys.length hFn ?_ (Nat.le_refl _) (by simpa using hge) (by omega) (fun _ => ⟨cells, e, by rw [hw]; exact push_new _ _, hsz⟩), by rw [hw]; simpa using hrun⟩
      rw [hμ]
      congr 1
      cases ys with
      | nil => simp at h0
      | cons y ys => simp
  split at h
  · split at h
    · injection h with h
      cases hc
      exact fromNothing rfl (by assumption) h.symm
    · cases h
  · split at h
    · injection h with h
      cases hc with
      | emp ad => exact fromNothing rfl (by assumption) h.symm
    · cases h
  · -- an owned one
    rename_i id w n k c
    split at h
    case h_2 => cases h
    rename_i w' es hg
    split at h
    case isFalse => cases h
    rename_i hcnd
    obtain ⟨rfl, hic, hnc, hes⟩ := hcnd
    obtain ⟨lF, lV, lE⟩ := hR.live id w' es hg
    split at h
    · -- there is room in what is known
      rename_i hroom
      injection h with h
      injection h with h1 h2
      subst h1 h2
      cases hc with
      | sl0 _ _ _ ad hF' =>
        have hy0 : ys = [] := List.eq_nil_of_length_eq_zero (by omega)
        subst hy0
        have hput : σ.put id (w', splice es (n + 0) []) = σ := by
          rw [splice_nil]
          unfold Store.put
          cases σ with
          | mk nx gt =>
            congr 1
            funext j
            by_cases e : j = id
            · subst e; simpa using hg.symm
            · simp [e]
        rw [hput]
        exact ⟨C, _, hR, .refl C, .sl0 _ _ _ _ hF', nothing rfl (Nat.le_refl _) rfl⟩
      | sl _ _ _ _ _ cap hF' hn' hcc hv' hk =>
        have hne : es ≠ [] := fun e => by have := lE.2 e; rw [hv'] at this; cases this
        obtain ⟨cur, t', hbk, hzk, hlk, hck⟩ := hR.blk id w' es hg hne
        have hS : (C.μ id w').s = s := by
          have h0 : 0 < es.length := List.length_pos_iff.2 hne
          rw [← hlk 0 h0]
          exact hes _ (List.getElem_mem _)
        have hend : (n + k + ys.length) * s ≤ es.length * s := Nat.mul_le_mul_right _ (by omega)
        have e1 : (n + k + ys.length) * s = (n + k) * s + ys.length * s := by rw [Nat.add_mul]
        have e2 : (C.μ id w').base + n * (C.μ id w').s + k * i.size = (C.μ id w').base + (n + k) * s := by rw [hS, hsi, Nat.add_mul]; omega
        have hfit : (C.μ id w').base + (n + k) * s + news.length ≤ cur.size := by rw [hS] at hzk; omega
        have hrun := run_append_row (P := P) (w := C.w) (tx := tx) (ty := ty) (u := u) ht hi (b := (C.μ id w').b) (off := (C.μ id w').base + n * (C.μ id w').s) (sLen := k) (sCap := cap) (by rw [hsi]; exact hsrc.src) (by omega) hbk (by rw [e2]; exact hfit)
        rw [e2] at hrun
        obtain ⟨D, hw, hR', hle, hFn, hμ⟩ := hR.wrote hg hne (splice es (n + k) ys) (splice_length _ _ _ (by omega)) hbk (upd cur ((C.μ id w').base + (n + k) * s) news) (upd_size _ _ _ hfit)
          (fun m hm => by
            rw [splice_length _ _ _ (by omega)] at hm
            have g := splice_get es (n + k) ys (by omega) m
            rw [List.getElem?_eq_getElem (by rw [splice_length _ _ _ (by omega)]; exact hm)] at g
            rw [hS]
            split at g
            · rename_i hin
              rw [List.getElem?_eq_getElem (by omega : m - (n + k) < ys.length)] at g
              injection g with g
              rw [g]
              exact hys _ (List.getElem_mem _)
            · rw [List.getElem?_eq_getElem hm] at g
              injection g with g
              rw [g]
              exact hes _ (List.getElem_mem _))
          (fun m p hm hp => by
            have hm' := hm
            rw [splice_length _ _ _ (by omega)] at hm'
            have g := splice_get es (n + k) ys (by omega) m
            rw [List.getElem?_eq_getElem hm] at g
            rw [upd_get _ _ _ hfit, hS]
            split at g
            · rename_i hin
              rw [List.getElem?_eq_getElem (by omega : m - (n + k) < ys.length)] at g
              injection g with g
              have hp2 : p < (ys[m - (n + k)]'(by omega)).length := by rw [← g]; exact hp
              obtain ⟨y, h1, h2⟩ := hsrc.at_ (m - (n + k)) p (by omega) hp2
              have hplt : p < s := by rw [← hys _ (List.getElem_mem (by omega : m - (n + k) < ys.length))]; exact hp2
              have e3 : m * s = (n + k) * s + (m - (n + k)) * s := by rw [← Nat.add_mul]; congr 1; omega
              have e4 : (m - (n + k)) * s + p < ys.length * s := flat_lt (by omega) hplt
              rw [if_pos (by rw [hnl]; omega), show (C.μ id w').base + (m * s + p) - ((C.μ id w').base + (n + k) * s) = (m - (n + k)) * s + p by omega]
              exact ⟨y, h1, by simpa [g] using h2⟩
            · rename_i hout
              rw [List.getElem?_eq_getElem hm'] at g
              injection g with g
              have hp2 : p < es[m].length := by rw [← g]; exact hp
              have hplt : p < s := by rw [← hes _ (List.getElem_mem hm')]; exact hp2
              obtain ⟨y, h1, h2⟩ := hck m p hm' hp2
              rw [hS] at h1
              rw [if_neg (by
                rw [hnl]
                intro hh
                rcases Nat.lt_or_ge m (n + k) with q | q
                · have : (m + 1) * s ≤ (n + k) * s := Nat.mul_le_mul_right _ q
                  rw [Nat.add_mul] at this
                  omega
                · have : (n + k + ys.length) * s ≤ m * s := Nat.mul_le_mul_right _ (by omega)
                  omega)]
              exact ⟨y, h1, by simpa [g] using h2⟩)
        refine ⟨D, _, hR', hle, ?_, by rw [hw]; exact hrun⟩
        obtain ⟨cs'', t'', hb'', hz''⟩ := hk
        have hcur : cs'' = cur ∧ t'' = t' := by rw [hbk] at hb''; injection hb'' with q; injection q with q1 q2; exact ⟨q1.symm, q2.symm⟩
        have := Rp.sl (C := D) id w' n (k + ys.length) c cap hFn hroom hcc (by rw [hμ]; exact hv') (by
          rw [hμ, hw]
          exact ⟨_, t', setRow_heap _ _ _ _ _ _ hbk, by rw [upd_size _ _ _ hfit, ← hcur.1]; exact hz''⟩)
        rw [hμ] at this
        exact this
    · -- it may grow
      rename_i hroom
      split at h
      case isFalse => cases h
      rename_i hbd
      injection h with h
      injection h with h1 h2
      subst h1 h2
      -- what was there
      have hels : σ.els (.sl id w' n k c) = some ((es.drop n).take k) := by
        simp only [Store.els, hg]
        rw [if_pos (by simp; omega)]
      have holdl : ((es.drop n).take k).length = k := by simp; omega
      have holds : ∀ e ∈ (es.drop n).take k, e.length = s := fun e he => hes e (List.mem_of_mem_drop (List.mem_of_mem_take he))
      obtain ⟨ad, cap, hv, hcap, hcells⟩ := els_sound hR hc hels
      rw [holdl] at hv hcap
      have hnew : (es.drop n).take k ++ ys ≠ [] := by
        intro e
        have := congrArg List.length e
        simp only [List.length_append, holdl, List.length_nil] at this
        omega
      have hnews : ∀ e ∈ (es.drop n).take k ++ ys, e.length = s := fun e he => by
        rcases List.mem_append.1 he with h | h
        · exact holds e h
        · exact hys e h
      have hlen1 : ((es.drop n).take k ++ ys).length = k + ys.length := by simp only [List.length_append, holdl]
      obtain ⟨olds, ho1, ho2, ho3⟩ : ∃ olds : List Value, olds.length = k * s ∧ (∀ w', (∀ b o, w'.cell? ⟨b, o, none⟩ = C.w.cell? ⟨b, o, none⟩) → (Builtin.firstCells s k (.slice ad k cap)).run P w' = .ok olds.toArray w') ∧
          ∀ i j (hi : i < ((es.drop n).take k).length) (hj : j < ((es.drop n).take k)[i].length), ∃ x, olds[i * s + j]? = some x ∧ Rp C ((es.drop n).take k)[i][j] x := by
        rcases hcells with he | ⟨b, o', sz, rfl, hsz, vs, hvs⟩
        · have hk0 : k = 0 := by rw [← holdl, he]; rfl
          subst hk0
          refine ⟨[], by simp, fun w' _ => ?_, fun i j hi => absurd hi (by simp)⟩
          cases ad <;> simp [Builtin.firstCells, loadCells, loadCellsFrom]
        · rcases Nat.eq_zero_or_pos k with h0 | h0
          · subst h0
            exact ⟨[], by simp, fun w' _ => by simp [Builtin.firstCells, loadCells, loadCellsFrom], fun i j hi => absurd hi (by simp)⟩
          · have hss : sz = s := by rw [← hsz 0 (by omega)]; exact holds _ (List.getElem_mem _)
            subst hss
            refine ⟨flat k sz vs, flat_length _ _ _, fun w' hw' => run_firstCells_some w' sz k _ k cap _ (flat_length _ _ _) (fun q v hq => ?_), fun i j hi hj => ⟨vs i j, flat_get _ _ _ (by omega) (by rw [← hsz i hi]; exact hj), (hvs i j hi hj).2⟩⟩
            obtain ⟨h1, h2, h3, rfl⟩ := flat_back hq
            rw [add_lit', hw', h3]
            have e1 : (q / sz * sz + q % sz) / sz = q / sz := by rw [← h3]
            have e2 : (q / sz * sz + q % sz) % sz = q % sz := by rw [← h3]
            rw [e1, e2]
            exact (hvs (q / sz) (q % sz) (by omega) (by rw [hsz _ (by omega)]; exact h2)).1
      by_cases hfit : k + ys.length ≤ cap
      · -- there is room after all
        cases hc with
        | sl0 _ _ _ ad' hF' =>
          injection hv with q1 q2 q3
          omega
        | sl _ _ _ _ _ cap' hF' hn' hcc hv' hk =>
          injection hv with q1 q2 q3
          subst q3
          have hne : es ≠ [] := fun e => by have := lE.2 e; rw [hv'] at this; cases this
          obtain ⟨cur, t', hbk, hzk, hlk, hck⟩ := hR.blk id w' es hg hne
          have hS : (C.μ id w').s = s := by
            have h0 : 0 < es.length := List.length_pos_iff.2 hne
            rw [← hlk 0 h0]
            exact hes _ (List.getElem_mem _)
          obtain ⟨cs'', t'', hb'', hz''⟩ := hk
          have hcur : cs'' = cur := by rw [hbk] at hb''; injection hb'' with q; injection q with q1 q2; exact q1.symm
          subst hcur
          rw [hS] at hz''
          have hend : (n + (k + ys.length)) * s ≤ (n + cap') * s := Nat.mul_le_mul_right _ (by omega)
          have e1 : (n + (k + ys.length)) * s = n * s + k * s + ys.length * s := by rw [Nat.add_mul, Nat.add_mul]; omega
          have e2 : (C.μ id w').base + n * (C.μ id w').s + k * i.size = (C.μ id w').base + (n * s + k * s) := by rw [hS, hsi]; omega
          have hfit' : (C.μ id w').base + (n * s + k * s) + news.length ≤ cs''.size := by omega
          have hrun := run_append_row (P := P) (w := C.w) (tx := tx) (ty := ty) (u := u) ht hi (b := (C.μ id w').b) (off := (C.μ id w').base + n * (C.μ id w').s) (sLen := k) (sCap := cap') (by rw [hsi]; exact hsrc.src) hfit hbk (by rw [e2]; exact hfit')
          rw [e2] at hrun
          obtain ⟨D, hw, hR', hle, hFn, hμ⟩ := hR.turned hg hne (w' + 1) ((es.drop n).take k ++ ys) ⟨(C.μ id w').b, s, (C.μ id w').base + n * s, false⟩ (C.w.setRow (C.μ id w').b (upd cs'' ((C.μ id w').base + (n * s + k * s)) news)) (upd cs'' ((C.μ id w').base + (n * s + k * s)) news) t' (.inr rfl) rfl hnew rfl rfl rfl (by simp) (.inl rfl) (fun b hb hn => setRow_other _ _ _ _ hn)
            (fun cs t hc => by rw [hbk] at hc; injection hc with hc; injection hc with q1 q2; subst q1 q2; exact ⟨_, setRow_heap _ _ _ _ _ _ hbk, upd_size _ _ _ hfit'⟩)
            (setRow_heap _ _ _ _ _ _ hbk) (by rw [upd_size _ _ _ hfit', hlen1, Nat.add_mul]; simp only; omega) (fun m hm => hnews _ (List.getElem_mem _))
            (fun m p hm hp => by
              rw [upd_get _ _ _ hfit']
              simp only
              by_cases em : m < k
              · have eq : ((es.drop n).take k ++ ys)[m] = ((es.drop n).take k)[m]'(by omega) := List.getElem_append_left (by omega)
                have eq2 : ((es.drop n).take k)[m]'(by omega) = es[n + m]'(by omega) := by simp
                have hp2 : p < (es[n + m]'(by omega)).length := by rw [← eq2, ← eq]; exact hp
                have hplt : p < s := by rw [← hes _ (List.getElem_mem (by omega : n + m < es.length))]; exact hp2
                obtain ⟨y, h1, h2⟩ := hck (n + m) p (by omega) hp2
                have : (m + 1) * s ≤ k * s := Nat.mul_le_mul_right _ em
                rw [Nat.add_mul] at this
                rw [if_neg (by omega)]
                refine ⟨y, ?_, by simpa [eq, eq2] using h2⟩
                rw [hS, Nat.add_mul] at h1
                rw [show (C.μ id w').base + n * s + (m * s + p) = (C.μ id w').base + (n * s + m * s + p) by omega]
                exact h1
              · have hm2 : m < k + ys.length := by rw [← hlen1]; exact hm
                have eq : ((es.drop n).take k ++ ys)[m] = ys[m - k]'(by omega) := by rw [List.getElem_append_right (by omega)]; congr 1; omega
                have hp2 : p < (ys[m - k]'(by omega)).length := by rw [← eq]; exact hp
                have hplt : p < s := by rw [← hys _ (List.getElem_mem (by omega : m - k < ys.length))]; exact hp2
                obtain ⟨y, h1, h2⟩ := hsrc.at_ (m - k) p (by omega) hp2
                have e3 : m * s = k * s + (m - k) * s := by rw [← Nat.add_mul]; congr 1; omega
                have e4 : (m - k) * s + p < ys.length * s := flat_lt (by omega) hplt
                rw [if_pos (by omega), show (C.μ id w').base + n * s + (m * s + p) - ((C.μ id w').base + (n * s + k * s)) = (m - k) * s + p by omega]
                exact ⟨y, h1, by simpa [eq] using h2⟩)
          refine ⟨D, _, hR', hle, ?_, by rw [hw]; exact hrun⟩
          have := Rp.sl (C := D) id (w' + 1) 0 (k + ys.length) (k + ys.length) cap' hFn (Nat.le_refl _) hfit (by rw [hμ]) (by
            rw [hμ, hw]
            exact ⟨_, t', setRow_heap _ _ _ _ _ _ hbk, by rw [upd_size _ _ _ hfit']; simp only; rw [Nat.add_mul] at hz''; rw [Nat.zero_add]; omega⟩)
          rw [hμ] at this
          simpa [hS] using this
      · -- a new row
        obtain ⟨cells, hrun, hge, hsz, hat⟩ := grow (old := (es.drop n).take k) hv (by omega) hbd holdl holds ho1 ho2 ho3
        have hw0 : C.w.heap.size ≤ (C.w.drew.alloc (.cells cells e)).heap.size := by show C.w.heap.size ≤ (C.w.heap.push _).size; simp
        have hz0 : ((es.drop n).take k ++ ys).length * s ≤ cells.size := by
          rw [hlen1]
          have : (k + ys.length) * s ≤ grownCap C.w (k + ys.length) cap e * s := Nat.mul_le_mul_right _ hge
          omega
        obtain ⟨D, hw, hR', hle, hFn, hμ⟩ : ∃ D, D.w = C.w.drew.alloc (.cells cells e) ∧ Rl D (σ.put id (w' + 1, (es.drop n).take k ++ ys)) ∧ C.Le D ∧ D.F id (w' + 1) ∧ D.μ id (w' + 1) = ⟨C.w.heap.size, s, 0, false⟩ := by
          by_cases hne : es = []
          · subst hne
            exact hR.filled hg _ s C.w.heap.size _ cells e hnew rfl rfl rfl hw0 (Nat.le_refl _) (fun b hb => push_old _ _ _ hb) (push_new _ _) hz0 (fun m hm => hnews _ (List.getElem_mem _)) hat
          · obtain ⟨cur, t', hbk, hzk, hlk, hck⟩ := hR.blk id w' es hg hne
            exact hR.turned hg hne (w' + 1) _ ⟨C.w.heap.size, s, 0, false⟩ _ cells e (.inr rfl) rfl hnew rfl rfl rfl hw0 (.inr (Nat.le_refl _)) (fun b hb _ => push_old _ _ _ hb) (fun cs t hc => ⟨cs, by rw [show (C.w.drew.alloc (.cells cells e)).heap[(C.μ id w').b]? = C.w.heap[(C.μ id w').b]? from push_old _ _ _ (lt_of_block hc)]; exact hc, rfl⟩) (push_new _ _) (by simpa using hz0) (fun m hm => hnews _ (List.getElem_mem _)) (fun m p hm hp => by simpa using hat m p hm hp)
        refine ⟨D, _, hR', hle, ?_, by rw [hw]; exact hrun⟩
        have := Rp.sl (C := D) id (w' + 1) 0 (k + ys.length) (k + ys.length) (grownCap C.w (k + ys.length) cap e) hFn (Nat.le_refl _) hge (by rw [hμ]) (by
          rw [hμ, hw]
          exact ⟨cells, e, push_new _ _, by simpa using hsz⟩)
        rw [hμ] at this
        simpa using this
  · cases h

end
end Go.Proofs.Ytjlhfjpnnildhaa.Am
