/- The abstract machine, part 3: what a new block, a store into one and a moved block do to what is known. -/
import Derived.Test.YtjlhfjpnnildhaaAm2
import Derived.Deep.AppendSrc
import Derived.Laws.MakeOwn
import Derived.Laws.BytesString
set_option linter.unusedVariables false
set_option linter.unusedSimpArgs false
namespace Go.Proofs.Ytjlhfjpnnildhaa.Am
open Go.RowKit

/-- The blocks that are written. -/
def Mof (μ : Nat → Nat → Loc) (σ : Store) (b : Nat) : Prop := ∃ id v es, σ.get id = some (v, es) ∧ es ≠ [] ∧ (μ id v).b = b

theorem Rp.one' {C : Cx} {x : Ce} {v : Value} (h : Rp C x v) : v.oneCell' = true := by
  have := h.one
  cases v <;> first | rfl | exact absurd rfl (this.1 _) | exact absurd rfl (this.2 _)

/-- Elements as they lie one behind the other. -/
def flat (n s : Nat) (vs : Nat → Nat → Value) : List Value := (List.range (n * s)).map fun k => vs (k / s) (k % s)
theorem flat_length (n s : Nat) (vs : Nat → Nat → Value) : (flat n s vs).length = n * s := by simp [flat]
theorem flat_lt {n s i j : Nat} (hi : i < n) (hj : j < s) : i * s + j < n * s := by
  have : (i + 1) * s ≤ n * s := Nat.mul_le_mul_right _ hi
  rw [Nat.add_mul] at this
  omega
theorem flat_get (n s : Nat) (vs : Nat → Nat → Value) {i j : Nat} (hi : i < n) (hj : j < s) : (flat n s vs)[i * s + j]? = some (vs i j) := by
  have h := flat_lt hi hj
  have hs : 0 < s := by omega
  simp only [flat, List.getElem?_map, List.getElem?_range h, Option.map_some]
  have h1 : (i * s + j) / s = i := by rw [Nat.mul_comm, Nat.mul_add_div hs, Nat.div_eq_of_lt hj, Nat.add_zero]
  have h2 : (i * s + j) % s = j := by rw [Nat.mul_comm, Nat.mul_add_mod, Nat.mod_eq_of_lt hj]
  rw [h1, h2]
theorem flat_back {n s : Nat} {vs : Nat → Nat → Value} {k : Nat} {u : Value} (h : (flat n s vs)[k]? = some u) : k / s < n ∧ k % s < s ∧ k = k / s * s + k % s ∧ u = vs (k / s) (k % s) := by
  have hk : k < n * s := by have := (List.getElem?_eq_some_iff.1 h).1; rwa [flat_length] at this
  have hs : 0 < s := by
    rcases Nat.eq_zero_or_pos s with h0 | h0
    · subst h0; simp at hk
    · exact h0
  refine ⟨Nat.div_lt_of_lt_mul (by rw [Nat.mul_comm]; exact hk), Nat.mod_lt _ hs, (Nat.div_add_mod' k s).symm, ?_⟩
  simp only [flat, List.getElem?_map, List.getElem?_range hk, Option.map_some] at h
  injection h with h
  exact h.symm

/-- A block that is new (or none at all, where there are no elements). -/
theorem Rl.fresh {C : Cx} {σ : Store} (hR : Rl C σ) (es : List (List Ce)) (s b : Nat) (w' : World)
    (os : w'.os = C.w.os) (tape : w'.tape = C.w.tape) (output : w'.output = C.w.output) (size : C.w.heap.size ≤ w'.heap.size) (keep : ∀ b, b < C.w.heap.size → w'.heap[b]? = C.w.heap[b]?)
    (hs : ∀ i (hi : i < es.length), es[i].length = s)
    (blk : es ≠ [] → C.w.heap.size ≤ b ∧ ∃ cs t, w'.heap[b]? = some (.cells cs t (0, 0)) ∧ es.length * s ≤ cs.size ∧ ∀ i j (hi : i < es.length) (hj : j < es[i].length), ∃ u, cs[i * s + j]? = some u ∧ Rp C es[i][j] u) :
    ∃ D, D.w = w' ∧ Rl D (σ.new (0, es)) ∧ C.Le D ∧ D.F σ.next 0 ∧ D.μ σ.next 0 = ⟨b, s, 0, es.isEmpty⟩ := by
  let μ' : Nat → Nat → Loc := fun id v => if id = σ.next ∧ v = 0 then ⟨b, s, 0, es.isEmpty⟩ else C.μ id v
  have hμn : μ' σ.next 0 = ⟨b, s, 0, es.isEmpty⟩ := by simp [μ']
  have hμo : ∀ id v, id ≠ σ.next → μ' id v = C.μ id v := fun id v h => by simp [μ', h]
  let D : Cx := ⟨μ', fun id v => C.F id v ∨ (id = σ.next ∧ v = 0), Mof μ' (σ.new (0, es)), w'⟩
  have old : ∀ {id v es'}, σ.get id = some (v, es') → id ≠ σ.next := fun {id v es'} h e => by
    have := hR.F id v (hR.live id v es' h).1
    omega
  have get_new : (σ.new (0, es)).get σ.next = some (0, es) := by simp [Store.new]
  have get_old : ∀ id, id ≠ σ.next → (σ.new (0, es)).get id = σ.get id := fun id h => by simp [Store.new, h]
  have hle : C.Le D := by
    refine ⟨fun id v hF => ⟨.inl hF, ?_⟩, os, tape, output, size, fun b' hb' _ => keep b' hb', fun b' cs t hc => ?_, fun b' hb' hm => ?_⟩
    · have := hR.F id v hF
      exact hμo id v (by omega)
    · have hb' : b' < C.w.heap.size := lt_of_block hc
      exact ⟨cs, by rw [keep b' hb']; exact hc, rfl⟩
    · obtain ⟨id, v, es', hg, hne, hb⟩ := hm
      by_cases e : id = σ.next
      · subst e
        rw [get_new] at hg
        injection hg with hg
        injection hg with h1 h2
        subst h1 h2
        have := (blk hne).1
        rw [hμn] at hb
        simp at hb
        omega
      · rw [get_old id e] at hg
        rw [hμo id v e] at hb
        exact (hR.M b').2 ⟨id, v, es', hg, hne, hb⟩
  refine ⟨D, rfl, ⟨fun id v hF => ?_, fun id v es' hg => ?_, fun b => Iff.rfl, fun id v es1 id' v' es2 h1 n1 h2 n2 hb => ?_, fun id v es' hg hne => ?_⟩, hle, .inr ⟨rfl, rfl⟩, hμn⟩
  · show id < σ.next + 1
    rcases hF with hF | ⟨rfl, _⟩
    · have := hR.F id v hF; omega
    · omega
  · by_cases e : id = σ.next
    · subst e
      rw [get_new] at hg
      injection hg with hg
      injection hg with h1 h2
      subst h1 h2
      refine ⟨.inr ⟨rfl, rfl⟩, fun v' hv' => ?_, ?_⟩
      · rcases hv' with h | ⟨_, h⟩
        · have := hR.F _ _ h; omega
        · omega
      · show (μ' σ.next 0).virt = true ↔ es = []
        rw [hμn]; simp
    · rw [get_old id e] at hg
      obtain ⟨a1, a2, a3⟩ := hR.live id v es' hg
      refine ⟨.inl a1, fun v' hv' => ?_, ?_⟩
      · rcases hv' with h | ⟨h, _⟩
        · exact a2 v' h
        · exact absurd h e
      · show (μ' id v).virt = true ↔ _
        rw [hμo id v e]; exact a3
  · have key : ∀ id v es', (σ.new (0, es)).get id = some (v, es') → es' ≠ [] → id ≠ σ.next → σ.get id = some (v, es') ∧ (C.μ id v).b < C.w.heap.size ∧ (μ' id v).b = (C.μ id v).b := by
      intro id v es' hg hne e
      rw [get_old id e] at hg
      obtain ⟨cs, t, hb, _⟩ := hR.blk id v es' hg hne
      exact ⟨hg, lt_of_block hb, by rw [hμo id v e]⟩
    have keyn : ∀ v es', (σ.new (0, es)).get σ.next = some (v, es') → es' ≠ [] → C.w.heap.size ≤ (μ' σ.next v).b := by
      intro v es' hg hne
      rw [get_new] at hg
      injection hg with hg
      injection hg with h1 h2
      subst h1 h2
      have := (blk hne).1
      rw [hμn]
      exact this
    replace hb : (μ' id v).b = (μ' id' v').b := hb
    by_cases e1 : id = σ.next
    · by_cases e2 : id' = σ.next
      · rw [e1, e2]
      · subst e1
        have a := keyn v es1 h1 n1
        obtain ⟨_, c, d⟩ := key id' v' es2 h2 n2 e2
        omega
    · obtain ⟨a, c, d⟩ := key id v es1 h1 n1 e1
      by_cases e2 : id' = σ.next
      · subst e2
        have a' := keyn v' es2 h2 n2
        omega
      · obtain ⟨a', c', d'⟩ := key id' v' es2 h2 n2 e2
        exact hR.inj id v es1 id' v' es2 a n1 a' n2 (by omega)
  · by_cases e : id = σ.next
    · subst e
      rw [get_new] at hg
      injection hg with hg
      injection hg with h1 h2
      subst h1 h2
      obtain ⟨_, cs, t, hb, hz, hc⟩ := blk hne
      show ∃ (cs : Array Value) (t : TypeId), w'.heap[(μ' σ.next 0).b]? = _ ∧ (μ' σ.next 0).base + es.length * (μ' σ.next 0).s ≤ cs.size ∧ (∀ i (hi : i < es.length), es[i].length = (μ' σ.next 0).s) ∧
        ∀ i j (hi : i < es.length) (hj : j < es[i].length), ∃ u, cs[(μ' σ.next 0).base + (i * (μ' σ.next 0).s + j)]? = some u ∧ Rp D es[i][j] u
      rw [hμn]
      refine ⟨cs, t, hb, by simpa using hz, hs, fun i j hi hj => ?_⟩
      obtain ⟨u, h1, h2⟩ := hc i j hi hj
      exact ⟨u, by simpa using h1, h2.mono hle⟩
    · rw [get_old id e] at hg
      obtain ⟨cs, t, hb, hz, hl, hc⟩ := hR.blk id v es' hg hne
      show ∃ (cs : Array Value) (t : TypeId), w'.heap[(μ' id v).b]? = _ ∧ (μ' id v).base + es'.length * (μ' id v).s ≤ cs.size ∧ (∀ i (hi : i < es'.length), es'[i].length = (μ' id v).s) ∧
        ∀ i j (hi : i < es'.length) (hj : j < es'[i].length), ∃ u, cs[(μ' id v).base + (i * (μ' id v).s + j)]? = some u ∧ Rp D es'[i][j] u
      rw [hμo id v e]
      refine ⟨cs, t, by rw [keep _ (lt_of_block hb)]; exact hb, hz, hl, fun i j hi hj => ?_⟩
      obtain ⟨u, h1, h2⟩ := hc i j hi hj
      exact ⟨u, h1, h2.mono hle⟩

/-- An owned block is written, and stays where it is, or goes on at another place: 'v1' is its version then. -/
theorem Rl.turned {C : Cx} {σ : Store} (hR : Rl C σ) {id v : Nat} {es : List (List Ce)} (hg : σ.get id = some (v, es)) (hne : es ≠ []) (v1 : Nat) (es1 : List (List Ce)) (l : Loc) (w' : World) (cs1 : Array Value) (t : TypeId)
    (hv : v1 = v ∧ l = C.μ id v ∨ v1 = v + 1) (hlv : l.virt = false) (hn1 : es1 ≠ [])
    (os : w'.os = C.w.os) (tape : w'.tape = C.w.tape) (output : w'.output = C.w.output) (size : C.w.heap.size ≤ w'.heap.size)
    (hlb : l.b = (C.μ id v).b ∨ C.w.heap.size ≤ l.b)
    (keep : ∀ b, b < C.w.heap.size → b ≠ (C.μ id v).b → w'.heap[b]? = C.w.heap[b]?)
    (shp : ∀ (cs : Array Value) (t : TypeId), C.w.heap[(C.μ id v).b]? = some (.cells cs t (0, 0)) → ∃ cs', w'.heap[(C.μ id v).b]? = some (.cells cs' t (0, 0)) ∧ cs'.size = cs.size)
    (blk : w'.heap[l.b]? = some (.cells cs1 t (0, 0))) (hz : l.base + es1.length * l.s ≤ cs1.size)
    (hs : ∀ i (hi : i < es1.length), es1[i].length = l.s)
    (hc : ∀ i j (hi : i < es1.length) (hj : j < es1[i].length), ∃ u, cs1[l.base + (i * l.s + j)]? = some u ∧ Rp C es1[i][j] u) :
    ∃ D, D.w = w' ∧ Rl D (σ.put id (v1, es1)) ∧ C.Le D ∧ D.F id v1 ∧ D.μ id v1 = l := by
  obtain ⟨lF, lV, lE⟩ := hR.live id v es hg
  let μ' : Nat → Nat → Loc := fun i u => if i = id ∧ u = v1 then l else C.μ i u
  have hμn : μ' id v1 = l := by simp [μ']
  have hμo : ∀ i u, i ≠ id → μ' i u = C.μ i u := fun i u h => by simp [μ', h]
  have hμF : ∀ i u, C.F i u → μ' i u = C.μ i u := fun i u hF => by
    by_cases e : i = id ∧ u = v1
    · obtain ⟨rfl, rfl⟩ := e
      rcases hv with ⟨h1, h2⟩ | h1
      · rw [hμn, h2, h1]
      · have := lV _ hF; omega
    · simp [μ', e]
  let D : Cx := ⟨μ', fun i u => C.F i u ∨ (i = id ∧ u = v1), Mof μ' (σ.put id (v1, es1)), w'⟩
  have get_new : (σ.put id (v1, es1)).get id = some (v1, es1) := by simp [Store.put]
  have get_old : ∀ i, i ≠ id → (σ.put id (v1, es1)).get i = σ.get i := fun i h => by simp [Store.put, h]
  obtain ⟨cs0, t0, hb0, hz0, hl0, hc0⟩ := hR.blk id v es hg hne
  have hMold : C.M (C.μ id v).b := (hR.M _).2 ⟨id, v, es, hg, hne, rfl⟩
  have hle : C.Le D := by
    refine ⟨fun i u hF => ⟨.inl hF, hμF i u hF⟩, os, tape, output, size, fun b' hb' hM => keep b' hb' (fun e => hM (e ▸ hMold)), fun b' cs t hc => ?_, fun b' hb' hm => ?_⟩
    · by_cases e : b' = (C.μ id v).b
      · subst e
        exact shp cs t hc
      · exact ⟨cs, by rw [keep b' (lt_of_block hc) e]; exact hc, rfl⟩
    · obtain ⟨i, u, es', hg', hne', hb⟩ := hm
      by_cases e : i = id
      · subst e
        rw [get_new] at hg'
        injection hg' with hg'
        injection hg' with h1 h2
        subst h1 h2
        rw [hμn] at hb
        rcases hlb with h | h
        · rw [← hb, h]; exact hMold
        · omega
      · rw [get_old i e] at hg'
        rw [hμo i u e] at hb
        exact (hR.M b').2 ⟨i, u, es', hg', hne', hb⟩
  refine ⟨D, rfl, ⟨fun i u hF => ?_, fun i u es' hg' => ?_, fun b => Iff.rfl, fun i u es1' i' u' es2 h1 n1 h2 n2 hb => ?_, fun i u es' hg' hne' => ?_⟩, hle, .inr ⟨rfl, rfl⟩, hμn⟩
  · show i < σ.next
    rcases hF with hF | ⟨rfl, _⟩
    · exact hR.F i u hF
    · exact hR.F _ _ lF
  · by_cases e : i = id
    · subst e
      rw [get_new] at hg'
      injection hg' with hg'
      injection hg' with h1 h2
      subst h1 h2
      refine ⟨.inr ⟨rfl, rfl⟩, fun v' hv' => ?_, ?_⟩
      · rcases hv' with h | ⟨_, h⟩
        · have := lV _ h
          rcases hv with ⟨h1, _⟩ | h1 <;> omega
        · omega
      · show (μ' i v1).virt = true ↔ es1 = []
        rw [hμn, hlv]
        simp [hn1]
    · rw [get_old i e] at hg'
      obtain ⟨a1, a2, a3⟩ := hR.live i u es' hg'
      refine ⟨.inl a1, fun v' hv' => ?_, ?_⟩
      · rcases hv' with h | ⟨h, _⟩
        · exact a2 v' h
        · exact absurd h e
      · show (μ' i u).virt = true ↔ _
        rw [hμo i u e]; exact a3
  · have key : ∀ i u es', (σ.put id (v1, es1)).get i = some (u, es') → es' ≠ [] → i ≠ id → σ.get i = some (u, es') ∧ (C.μ i u).b < C.w.heap.size ∧ (μ' i u).b = (C.μ i u).b ∧ (C.μ i u).b ≠ (C.μ id v).b := by
      intro i u es' hg' hne' e
      rw [get_old i e] at hg'
      obtain ⟨cs, t, hb, _⟩ := hR.blk i u es' hg' hne'
      exact ⟨hg', lt_of_block hb, by rw [hμo i u e], fun e' => e (hR.inj i u es' id v es hg' hne' hg hne e')⟩
    have keyn : ∀ u es', (σ.put id (v1, es1)).get id = some (u, es') → (μ' id u).b = l.b := by
      intro u es' hg'
      rw [get_new] at hg'
      injection hg' with hg'
      injection hg' with h1 h2
      subst h1 h2
      rw [hμn]
    replace hb : (μ' i u).b = (μ' i' u').b := hb
    by_cases e1 : i = id
    · by_cases e2 : i' = id
      · rw [e1, e2]
      · subst e1
        have a := keyn u es1' h1
        obtain ⟨_, c, d, f⟩ := key i' u' es2 h2 n2 e2
        rcases hlb with h | h <;> omega
    · obtain ⟨a, c, d, f⟩ := key i u es1' h1 n1 e1
      by_cases e2 : i' = id
      · subst e2
        have a' := keyn u' es2 h2
        rcases hlb with h | h <;> omega
      · obtain ⟨a', c', d', _⟩ := key i' u' es2 h2 n2 e2
        exact hR.inj i u es1' i' u' es2 a n1 a' n2 (by omega)
  · by_cases e : i = id
    · subst e
      rw [get_new] at hg'
      injection hg' with hg'
      injection hg' with h1 h2
      subst h1 h2
      show ∃ (cs : Array Value) (t : TypeId), w'.heap[(μ' i v1).b]? = _ ∧ (μ' i v1).base + es1.length * (μ' i v1).s ≤ cs.size ∧ (∀ k (hi : k < es1.length), es1[k].length = (μ' i v1).s) ∧
        ∀ k j (hi : k < es1.length) (hj : j < es1[k].length), ∃ u, cs[(μ' i v1).base + (k * (μ' i v1).s + j)]? = some u ∧ Rp D es1[k][j] u
      rw [hμn]
      refine ⟨cs1, t, blk, hz, hs, fun k j hi hj => ?_⟩
      obtain ⟨u, h1, h2⟩ := hc k j hi hj
      exact ⟨u, h1, h2.mono hle⟩
    · rw [get_old i e] at hg'
      obtain ⟨cs, t, hb, hz, hl, hc⟩ := hR.blk i u es' hg' hne'
      have hneq : (C.μ i u).b ≠ (C.μ id v).b := fun e' => e (hR.inj i u es' id v es hg' hne' hg hne e')
      show ∃ (cs : Array Value) (t : TypeId), w'.heap[(μ' i u).b]? = _ ∧ (μ' i u).base + es'.length * (μ' i u).s ≤ cs.size ∧ (∀ k (hi : k < es'.length), es'[k].length = (μ' i u).s) ∧
        ∀ k j (hi : k < es'.length) (hj : j < es'[k].length), ∃ x, cs[(μ' i u).base + (k * (μ' i u).s + j)]? = some x ∧ Rp D es'[k][j] x
      rw [hμo i u e]
      refine ⟨cs, t, by rw [keep _ (lt_of_block hb) hneq]; exact hb, hz, hl, fun k j hi hj => ?_⟩
      obtain ⟨x, h1, h2⟩ := hc k j hi hj
      exact ⟨x, h1, h2.mono hle⟩

/-- An empty owned slice that grows: its place is new. -/
theorem Rl.filled {C : Cx} {σ : Store} (hR : Rl C σ) {id v : Nat} (hg : σ.get id = some (v, [])) (es1 : List (List Ce)) (s b : Nat) (w' : World) (cs1 : Array Value) (t : TypeId) (hn1 : es1 ≠ [])
    (os : w'.os = C.w.os) (tape : w'.tape = C.w.tape) (output : w'.output = C.w.output) (size : C.w.heap.size ≤ w'.heap.size) (hlb : C.w.heap.size ≤ b)
    (keep : ∀ b, b < C.w.heap.size → w'.heap[b]? = C.w.heap[b]?)
    (blk : w'.heap[b]? = some (.cells cs1 t (0, 0))) (hz : es1.length * s ≤ cs1.size)
    (hs : ∀ i (hi : i < es1.length), es1[i].length = s)
    (hc : ∀ i j (hi : i < es1.length) (hj : j < es1[i].length), ∃ u, cs1[i * s + j]? = some u ∧ Rp C es1[i][j] u) :
    ∃ D, D.w = w' ∧ Rl D (σ.put id (v + 1, es1)) ∧ C.Le D ∧ D.F id (v + 1) ∧ D.μ id (v + 1) = ⟨b, s, 0, false⟩ := by
  obtain ⟨lF, lV, lE⟩ := hR.live id v [] hg
  let l : Loc := ⟨b, s, 0, false⟩
  let μ' : Nat → Nat → Loc := fun i u => if i = id ∧ u = v + 1 then l else C.μ i u
  have hμn : μ' id (v + 1) = l := by simp [μ']
  have hμo : ∀ i u, i ≠ id → μ' i u = C.μ i u := fun i u h => by simp [μ', h]
  have hμF : ∀ i u, C.F i u → μ' i u = C.μ i u := fun i u hF => by
    by_cases e : i = id ∧ u = v + 1
    · obtain ⟨rfl, rfl⟩ := e
      have := lV _ hF; omega
    · simp [μ', e]
  let D : Cx := ⟨μ', fun i u => C.F i u ∨ (i = id ∧ u = v + 1), Mof μ' (σ.put id (v + 1, es1)), w'⟩
  have get_new : (σ.put id (v + 1, es1)).get id = some (v + 1, es1) := by simp [Store.put]
  have get_old : ∀ i, i ≠ id → (σ.put id (v + 1, es1)).get i = σ.get i := fun i h => by simp [Store.put, h]
  have hle : C.Le D := by
    refine ⟨fun i u hF => ⟨.inl hF, hμF i u hF⟩, os, tape, output, size, fun b' hb' _ => keep b' hb', fun b' cs t hc => ⟨cs, by rw [keep b' (lt_of_block hc)]; exact hc, rfl⟩, fun b' hb' hm => ?_⟩
    obtain ⟨i, u, es', hg', hne', hb⟩ := hm
    by_cases e : i = id
    · subst e
      rw [get_new] at hg'
      injection hg' with hg'
      injection hg' with h1 h2
      subst h1 h2
      rw [hμn] at hb
      have : b = b' := hb
      omega
    · rw [get_old i e] at hg'
      rw [hμo i u e] at hb
      exact (hR.M b').2 ⟨i, u, es', hg', hne', hb⟩
  refine ⟨D, rfl, ⟨fun i u hF => ?_, fun i u es' hg' => ?_, fun b => Iff.rfl, fun i u es1' i' u' es2 h1 n1 h2 n2 hb => ?_, fun i u es' hg' hne' => ?_⟩, hle, .inr ⟨rfl, rfl⟩, hμn⟩
  · show i < σ.next
    rcases hF with hF | ⟨rfl, _⟩
    · exact hR.F i u hF
    · exact hR.F _ _ lF
  · by_cases e : i = id
    · subst e
      rw [get_new] at hg'
      injection hg' with hg'
      injection hg' with h1 h2
      subst h1 h2
      refine ⟨.inr ⟨rfl, rfl⟩, fun v' hv' => ?_, ?_⟩
      · rcases hv' with h | ⟨_, h⟩
        · have := lV _ h; omega
        · omega
      · show (μ' i (v + 1)).virt = true ↔ es1 = []
        rw [hμn]
        simp [l, hn1]
    · rw [get_old i e] at hg'
      obtain ⟨a1, a2, a3⟩ := hR.live i u es' hg'
      refine ⟨.inl a1, fun v' hv' => ?_, ?_⟩
      · rcases hv' with h | ⟨h, _⟩
        · exact a2 v' h
        · exact absurd h e
      · show (μ' i u).virt = true ↔ _
        rw [hμo i u e]; exact a3
  · have key : ∀ i u es', (σ.put id (v + 1, es1)).get i = some (u, es') → es' ≠ [] → i ≠ id → σ.get i = some (u, es') ∧ (C.μ i u).b < C.w.heap.size ∧ (μ' i u).b = (C.μ i u).b := by
      intro i u es' hg' hne' e
      rw [get_old i e] at hg'
      obtain ⟨cs, t, hb, _⟩ := hR.blk i u es' hg' hne'
      exact ⟨hg', lt_of_block hb, by rw [hμo i u e]⟩
    have keyn : ∀ u es', (σ.put id (v + 1, es1)).get id = some (u, es') → (μ' id u).b = b := by
      intro u es' hg'
      rw [get_new] at hg'
      injection hg' with hg'
      injection hg' with h1 h2
      subst h1 h2
      rw [hμn]
    replace hb : (μ' i u).b = (μ' i' u').b := hb
    by_cases e1 : i = id
    · by_cases e2 : i' = id
      · rw [e1, e2]
      · subst e1
        have a := keyn u es1' h1
        obtain ⟨_, c, d⟩ := key i' u' es2 h2 n2 e2
        omega
    · obtain ⟨a, c, d⟩ := key i u es1' h1 n1 e1
      by_cases e2 : i' = id
      · subst e2
        have a' := keyn u' es2 h2
        omega
      · obtain ⟨a', c', d'⟩ := key i' u' es2 h2 n2 e2
        exact hR.inj i u es1' i' u' es2 a n1 a' n2 (by omega)
  · by_cases e : i = id
    · subst e
      rw [get_new] at hg'
      injection hg' with hg'
      injection hg' with h1 h2
      subst h1 h2
      show ∃ (cs : Array Value) (t : TypeId), w'.heap[(μ' i (v + 1)).b]? = _ ∧ (μ' i (v + 1)).base + es1.length * (μ' i (v + 1)).s ≤ cs.size ∧ (∀ k (hi : k < es1.length), es1[k].length = (μ' i (v + 1)).s) ∧
        ∀ k j (hi : k < es1.length) (hj : j < es1[k].length), ∃ u, cs[(μ' i (v + 1)).base + (k * (μ' i (v + 1)).s + j)]? = some u ∧ Rp D es1[k][j] u
      rw [hμn]
      refine ⟨cs1, t, blk, by simpa [l] using hz, hs, fun k j hi hj => ?_⟩
      obtain ⟨u, h1, h2⟩ := hc k j hi hj
      exact ⟨u, by simpa [l] using h1, h2.mono hle⟩
    · rw [get_old i e] at hg'
      obtain ⟨cs, t, hb, hz, hl, hc⟩ := hR.blk i u es' hg' hne'
      show ∃ (cs : Array Value) (t : TypeId), w'.heap[(μ' i u).b]? = _ ∧ (μ' i u).base + es'.length * (μ' i u).s ≤ cs.size ∧ (∀ k (hi : k < es'.length), es'[k].length = (μ' i u).s) ∧
        ∀ k j (hi : k < es'.length) (hj : j < es'[k].length), ∃ x, cs[(μ' i u).base + (k * (μ' i u).s + j)]? = some x ∧ Rp D es'[k][j] x
      rw [hμo i u e]
      refine ⟨cs, t, by rw [keep _ (lt_of_block hb)]; exact hb, hz, hl, fun k j hi hj => ?_⟩
      obtain ⟨x, h1, h2⟩ := hc k j hi hj
      exact ⟨x, h1, h2.mono hle⟩

end Go.Proofs.Ytjlhfjpnnildhaa.Am
