/- Joined texts: F11, F12, Q11, Q12, O9, Q13, Q14, Q15, S5, S6, S7, S9, K4, D1, M0, M1, M3, M2, N0, D2, G1, G2, G3, G4, G5, G6, J1, J2, J3, H0, Y5, Y6, Y7, Y8, I1, O10, F13, O11, O12, I4, O13, N1, N2, I2, W0, I3, I5, T4, I6, O14. -/
import Derived.Test.YtdgnfdljkghpjaaGreatProg
import Derived.KernelRfl
import Derived.Test.YtdgnfdljkghpjaaGreatB1
import Derived.Test.YtdgnfdljkghpjaaGreatB2
import Derived.Test.YtdgnfdljkghpjaaGreatB3
import Derived.Test.YtdgnfdljkghpjaaGreatB4
import Derived.Test.YtdgnfdljkghpjaaGreatB5
/- The order of entries; an index without one of its entries. Plain laws. -/
set_option linter.unusedVariables false
set_option linter.unusedSimpArgs false
namespace Go.Proofs.YtdgnfdljkghpjaaGreat.Am

/-- A three-way order among those that are R. -/
structure Cmp {α : Type} (R : α → Prop) (c : α → α → Int) : Prop where
  refl : ∀ a, R a → c a a = 0
  eq : ∀ a b, R a → R b → c a b = 0 → a = b
  flip : ∀ a b, R a → R b → (c a b < 0 ↔ 0 < c b a)
  trans : ∀ a b d, R a → R b → R d → c a b < 0 → c b d < 0 → c a d < 0
theorem Cmp.lex {α β γ : Type} {R : γ → Prop} {f : γ → α} {g : γ → β} {c : α → α → Int} {d : β → β → Int} {Rα : α → Prop} {Rβ : β → Prop} (hc : Cmp Rα c) (hd : Cmp Rβ d) (h1 : ∀ x, R x → Rα (f x)) (h2 : ∀ x, R x → Rβ (g x)) (inj : ∀ x y, f x = f y → g x = g y → x = y) {e : γ → γ → Int} (he : ∀ x y, e x y = if c (f x) (f y) = 0 then d (g x) (g y) else c (f x) (f y)) : Cmp R e := by
  refine ⟨fun a ha => ?_, fun a b ha hb h => ?_, fun a b ha hb => ?_, fun a b x ha hb hx p q => ?_⟩
  · rw [he, hc.refl _ (h1 a ha), if_pos rfl, hd.refl _ (h2 a ha)]
  · rw [he] at h
    split at h
    · rename_i h0
      exact inj a b (hc.eq _ _ (h1 a ha) (h1 b hb) h0) (hd.eq _ _ (h2 a ha) (h2 b hb) h)
    · contradiction
  · have f1 := hc.flip _ _ (h1 a ha) (h1 b hb)
    have f2 := hc.flip _ _ (h1 b hb) (h1 a ha)
    have f3 := hd.flip _ _ (h2 a ha) (h2 b hb)
    rw [he, he]
    split <;> split <;> omega
  · rw [he] at p q ⊢
    split at p
    · rename_i e1
      have e1' := hc.eq _ _ (h1 a ha) (h1 b hb) e1
      rw [e1']
      split at q
      · rename_i e2
        rw [if_pos e2]
        exact hd.trans _ _ _ (h2 a ha) (h2 b hb) (h2 x hx) p q
      · rename_i e2
        rw [if_neg e2]
        exact q
    · rename_i e1
      split at q
      · rename_i e2
        have e2' := hc.eq _ _ (h1 b hb) (h1 x hx) e2
        rw [← e2', if_neg e1]
        exact p
      · have := hc.trans _ _ _ (h1 a ha) (h1 b hb) (h1 x hx) p q
        rw [if_neg (by omega)]
        exact this
theorem cmpI_cmp : Cmp (fun _ => True) cmpI := by
  refine ⟨fun a _ => ?_, fun a b _ _ h => ?_, fun a b _ _ => ?_, fun a b d _ _ _ h k => ?_⟩ <;> simp only [cmpI] at *
  · simp
  · split at h
    · omega
    · split at h <;> omega
  · split <;> split <;> (try split) <;> (try split) <;> omega
  · split at h <;> split at k <;> (try split at h) <;> (try split at k) <;> (try omega)
theorem bytesLt_trans : ∀ {a b d : List UInt8}, bytesLt a b = true → bytesLt b d = true → bytesLt a d = true
  | [], [], _, h, _ => by simp [bytesLt, Op.bytesLess] at h
  | [], _ :: _, [], _, k => by simp [bytesLt, Op.bytesLess] at k
  | [], _ :: _, _ :: _, _, _ => by simp [bytesLt, Op.bytesLess]
  | _ :: _, [], _, h, _ => by simp [bytesLt, Op.bytesLess] at h
  | _ :: _, _ :: _, [], _, k => by simp [bytesLt, Op.bytesLess] at k
  | x :: a, y :: b, z :: d, h, k => by
    have ih := @bytesLt_trans a b d
    simp only [bytesLt, Op.bytesLess, Bool.or_eq_true, Bool.and_eq_true, decide_eq_true_eq, beq_iff_eq] at h k ih ⊢
    rcases h with h | ⟨rfl, h⟩ <;> rcases k with k | ⟨rfl, k⟩
    · exact .inl (UInt8.lt_trans h k)
    · exact .inl h
    · exact .inl k
    · exact .inr ⟨rfl, ih h k⟩
theorem cmpS_cmp : Cmp (fun _ => True) cmpS := by
  refine ⟨fun a _ => ?_, fun a b _ _ h => ?_, fun a b _ _ => ?_, fun a b d _ _ _ h k => ?_⟩
  · simp [cmpS, bytesLt_irrefl]
  · simp only [cmpS] at h
    split at h
    · omega
    · split at h
      · rename_i h8; exact beq_iff_eq.1 h8
      · omega
  · have h1 := bytesLt_cases a b
    simp only [cmpS, h1]
    cases h2 : bytesLt a b <;> by_cases e : a = b
    · subst e; simp
    · have e' : ¬ b = a := fun h => e h.symm
      simp [e]
    · subst e; rw [bytesLt_irrefl] at h2; cases h2
    · have e' : ¬ b = a := fun h => e h.symm
      simp [e, e']
  · have key : ∀ {x y : List UInt8}, cmpS x y < 0 ↔ bytesLt x y = true := by
      intro x y
      simp only [cmpS]
      split
      · simp_all
      · split <;> simp_all
    rw [key] at *
    exact bytesLt_trans h k
theorem order_cmp : Cmp (fun _ : Val => True) order := by
  have h2 : Cmp (fun _ : Int × List UInt8 => True) (fun p q => if cmpI p.1 q.1 = 0 then cmpS p.2 q.2 else cmpI p.1 q.1) := Cmp.lex (f := Prod.fst) (g := Prod.snd) cmpI_cmp cmpS_cmp (fun _ _ => trivial) (fun _ _ => trivial) (fun _ _ h k => Prod.ext h k) (fun _ _ => rfl)
  refine Cmp.lex (f := Val.k) (g := fun v => (v.n, v.s)) cmpI_cmp h2 (fun _ _ => trivial) (fun _ _ => trivial) (fun x y h k => ?_) (fun x y => ?_)
  · obtain ⟨a, b, c⟩ := x
    obtain ⟨a', b', c'⟩ := y
    simp_all
  · simp only [order, orI]
    split
    · split
      · split <;> simp_all
      · rfl
    · rfl
theorem orderOf_cmp : ∀ n, Cmp (fun l : List Val => l.length = n) orderOf
  | 0 => ⟨fun a h => by rw [List.eq_nil_of_length_eq_zero h]; rfl, fun a b h k _ => by rw [List.eq_nil_of_length_eq_zero h, List.eq_nil_of_length_eq_zero k], fun a b h k => by rw [List.eq_nil_of_length_eq_zero h, List.eq_nil_of_length_eq_zero k]; simp [orderOf], fun a b d h k _ p => by rw [List.eq_nil_of_length_eq_zero h, List.eq_nil_of_length_eq_zero k] at p; simp [orderOf] at p⟩
  | n + 1 => by
    have ih := orderOf_cmp n
    have key : Cmp (fun p : Val × List Val => p.2.length = n) (fun p q => if order p.1 q.1 = 0 then orderOf p.2 q.2 else order p.1 q.1) := Cmp.lex (f := Prod.fst) (g := Prod.snd) order_cmp ih (fun _ _ => trivial) (fun _ h => h) (fun _ _ h k => Prod.ext h k) (fun _ _ => rfl)
    have cons : ∀ {a : List Val}, a.length = n + 1 → ∃ v r, a = v :: r ∧ r.length = n := by
      intro a h
      cases a with
      | nil => simp at h
      | cons v r => exact ⟨v, r, rfl, by simpa using h⟩
    refine ⟨fun a h => ?_, fun a b h k e => ?_, fun a b h k => ?_, fun a b d h k l p q => ?_⟩
    · obtain ⟨v, r, rfl, hr⟩ := cons h
      exact key.refl (v, r) hr
    · obtain ⟨v, r, rfl, hr⟩ := cons h
      obtain ⟨w, s, rfl, hs⟩ := cons k
      have := key.eq (v, r) (w, s) hr hs e
      injection this with h1 h2
      rw [h1, h2]
    · obtain ⟨v, r, rfl, hr⟩ := cons h
      obtain ⟨w, s, rfl, hs⟩ := cons k
      exact key.flip (v, r) (w, s) hr hs
    · obtain ⟨v, r, rfl, hr⟩ := cons h
      obtain ⟨w, s, rfl, hs⟩ := cons k
      obtain ⟨u, t, rfl, ht⟩ := cons l
      exact key.trans (v, r) (w, s) (u, t) hr hs ht p q
theorem entOrd_cmp (n : Nat) : Cmp (fun e : Entry => e.key.length = n) entOrd := by
  refine Cmp.lex (f := Entry.key) (g := Entry.id) (orderOf_cmp n) cmpI_cmp (fun _ h => h) (fun _ _ => trivial) (fun x y h k => ?_) (fun x y => ?_)
  · obtain ⟨a, b⟩ := x
    obtain ⟨a', b'⟩ := y
    simp_all
  · simp only [entOrd, orI]
    split
    · split <;> simp_all
    · rfl
/-- An index without an entry. -/
def without (l : List Entry) (e : Entry) : List Entry := l.filter fun x => !(x == e)
end Go.Proofs.YtdgnfdljkghpjaaGreat.Am

/- An index without an entry: the program and its reference. -/
set_option linter.unusedVariables false
set_option linter.unusedSimpArgs false
namespace Go.Proofs.YtdgnfdljkghpjaaGreat.Am

theorem solid_bool {τ : Store} {S : Nat → Prop} (b : Bool) : HasV τ S (.c (.bool b)) (.c (.bool b)) := .c (.c (.bool b))
/-- A tree and an answer. -/
theorem newPairE {σ τ : Store} {y x : Ce} {b : Bool} (h : NewV σ (.c y) (.c x) τ) : NewV σ (.tup [.c y, .c (.bool b)]) (.tup [.c x, .c (.bool b)]) τ :=
  ⟨h.1, .pair h.2 (solid_bool (S := fun _ => False) b) (fun _ h => h) (fun _ h => h.elim) (fun _ _ h => h)⟩
theorem old_map {n : Nat} {e : Entry} : ∀ x ∈ encE e, Old n x := by
  have hv : ∀ (v : Val), ∀ x ∈ encV v, Old n x := fun v x hx => (flatV v x hx).old n
  intro x hx
  simp only [encE, List.mem_cons, List.not_mem_nil, or_false] at hx
  rcases hx with rfl | rfl
  · refine .fz _ fun i j hi hj => ?_
    have hi' : i < e.key.length := by simpa using hi
    have : (e.key.map encV)[i] = encV e.key[i] := by simp
    exact hv e.key[i] _ (by rw [← this]; exact List.getElem_mem hj)
  · exact .int _ _
theorem old_maps {n : Nat} {l : List Entry} : ∀ q ∈ l.map encE, ∀ x ∈ q, Old n x := by
  intro q hq x hx
  obtain ⟨e, _, rfl⟩ := List.mem_map.1 hq
  exact old_map x hx
end Go.Proofs.YtdgnfdljkghpjaaGreat.Am

/- An entry put into an index: the reference's. -/
set_option linter.unusedVariables false
set_option linter.unusedSimpArgs false
namespace Go.Proofs.YtdgnfdljkghpjaaGreat.Am

theorem aop_cutF {fr : Fr} {σ : Store} {s : Nat} {x hi : Opd} {kd : IntKind} {es : List (List Ce)} {z : Int} {n : Nat} (hx : x.ev fr = some (.c (.fz es))) (hy : hi.ev fr = some (.c (.int kd z))) (hz : z = (n : Int)) (hn : n ≤ es.length) (hs : ∀ e ∈ es, e.length = s) : aop (.slice s x none (some hi) none) fr σ = some (.c (.fz (es.take n)), σ) := by
  have : sliceA σ s (.fz es) none (some (.c (.int kd z))) none = some (.fz (es.take n)) := by
    subst hz
    simp only [sliceA, bound]
    rw [if_pos (by omega)]
    simp only [Int.toNat_natCast]
    rw [if_pos ⟨Nat.zero_le _, hn, hs⟩, List.drop_zero]
  simp only [aop, hx, evo, hy, Option.map_some, this]
theorem aop_restF {fr : Fr} {σ : Store} {s : Nat} {x lo : Opd} {kd : IntKind} {es : List (List Ce)} {z : Int} {n : Nat} (hx : x.ev fr = some (.c (.fz es))) (hy : lo.ev fr = some (.c (.int kd z))) (hz : z = (n : Int)) (hn : n ≤ es.length) (hs : ∀ e ∈ es, e.length = s) : aop (.slice s x (some lo) none none) fr σ = some (.c (.fz (es.drop n)), σ) := by
  have : sliceA σ s (.fz es) (some (.c (.int kd z))) none none = some (.fz (es.drop n)) := by
    subst hz
    simp only [sliceA, bound]
    rw [if_pos (by omega)]
    simp only [Int.toNat_natCast]
    rw [if_pos ⟨hn, Nat.le_refl _, hs⟩, List.take_of_length_le (Nat.le_refl _)]
  simp only [aop, hx, evo, hy, Option.map_some, this]
def putPos (e : Entry) : List Entry → Nat
  | [] => 0
  | a :: r => if lessK a.key e.key a.id e.id then putPos e r + 1 else 0
def putF (e : Entry) (l : List Entry) : List Entry := l.take (putPos e l) ++ e :: l.drop (putPos e l)
theorem encE_two {l : List Entry} : ∀ q ∈ l.map encE, q.length = 2 := fun q hq => by
  obtain ⟨a, _, rfl⟩ := List.mem_map.1 hq
  rfl
theorem old_encE (n : Nat) (e : Entry) : ∀ x ∈ encE e, Old n x := fun x hx => by
  simp only [encE, List.mem_cons, List.not_mem_nil, or_false] at hx
  rcases hx with rfl | rfl
  · refine .fz _ fun i j hi hj => ?_
    exact ((clean_append _ (List.getElem_mem hi)).2 _ (List.getElem_mem hj)).old n
  · exact .int _ _
theorem frz_oldQ {σ : Store} {l : List (Nat × List (List Ce))} {k v N : Nat} {ys junk : List (List Ce)} (hl : l[k]? = some (v, ys ++ junk)) (ho : ∀ e ∈ ys, ∀ x ∈ e, Old N x) (hN : N ≤ σ.next + k) : FrzV (E σ l) N (.c (vec (σ.next + k) v ys junk)) (.c (.fz ys)) := by
  refine .c (.sl _ _ _ _ _ (ys ++ junk) ys hN (by rw [E_at]; exact hl) (by simp) rfl (fun i hi => ?_) (fun i j hi hj => ?_))
  · simp only [Nat.zero_add]
    rw [List.getElem_append_left hi]
  · have e : (ys ++ junk)[0 + i]'(by simp; omega) = ys[i] := by
      simp only [Nat.zero_add]
      rw [List.getElem_append_left hi]
    simp only [e]
    exact .same _ (ho _ (List.getElem_mem _) _ (List.getElem_mem hj))
end Go.Proofs.YtdgnfdljkghpjaaGreat.Am

/- An owned tree of entries sorted in place. -/
set_option linter.unusedVariables false
set_option linter.unusedSimpArgs false
namespace Go.Proofs.YtdgnfdljkghpjaaGreat.Am

def entAt (l : List Entry) (i : Nat) : Entry := l[i]?.getD ⟨[], 0⟩
def cellAt (cs : List (List Ce)) (i : Nat) : List Ce := if (cs[i]?.getD []).length = 2 then cs[i]?.getD [] else [.nils, .nils]
theorem cellAt_two (cs : List (List Ce)) (i : Nat) : (cellAt cs i).length = 2 := by
  rw [cellAt]
  split
  · assumption
  · rfl
theorem entAt_eq {l : List Entry} {i : Nat} (h : i < l.length) : entAt l i = l[i] := by rw [entAt, List.getElem?_eq_getElem h]; rfl
theorem cellAt_eq {cs : List (List Ce)} {i : Nat} (h : i < cs.length) (h2 : cs[i].length = 2) : cellAt cs i = cs[i] := by
  rw [cellAt, List.getElem?_eq_getElem h]
  exact if_pos h2
theorem map_entAt (l : List Entry) : (List.range l.length).map (entAt l) = l := by
  refine List.ext_getElem (by simp) fun i h1 h2 => ?_
  rw [List.getElem_map, List.getElem_range, entAt_eq h2]
theorem map_cellAt {cs : List (List Ce)} (h : ∀ e ∈ cs, e.length = 2) : (List.range cs.length).map (cellAt cs) = cs := by
  refine List.ext_getElem (by simp) fun i h1 h2 => ?_
  rw [List.getElem_map, List.getElem_range, cellAt_eq h2 (h _ (List.getElem_mem _))]
theorem putS_same {τ : Store} {id : Nat} {b : Nat × List (List Ce)} (h : τ.get id = some b) : τ.put id b = τ := by
  cases τ with
  | mk nx g =>
    simp only [Store.put, Store.mk.injEq, true_and]
    funext a
    split
    · rename_i e; subst e; exact h.symm
    · rfl
end Go.Proofs.YtdgnfdljkghpjaaGreat.Am

/- slices.SortFunc on an owned tree of entries. -/
set_option linter.unusedVariables false
set_option linter.unusedSimpArgs false
namespace Go.Proofs.YtdgnfdljkghpjaaGreat.Am

theorem sortFuncA_ok {α : Type} [Inhabited α] (F : Fam α) (co : α → α → Int) (g : Nat) (pre cap : List Ce) (hcmp : CmpsA Tryz.prog F co g pre cap) (hF : F.id < F.σ.next) (hSW : Go.Sort.SWO (lessA co)) (N c : Nat) (hx : N ≤ 255) (d : Array α) (hN : d.size = N) :
    Ok Tryz.prog 82 [.c (.sl F.id F.v 0 N c), .c (.fn g pre cap)] (F.A d) (fun r τ => r = .tup [] ∧ ∃ R, τ = F.A R ∧ Go.Sort.PermIn 0 N d R ∧ Go.Sort.SortedIn (lessA co) 0 N R) := by
  refine .of_go mixed c_slices_SortFunc_Entry_ok (Nat.le_of_ble_eq_true rfl) ?_
  have hw : IntKind.u64.wrap (N : Int) = (N : Int) := by
    simp only [IntKind.wrap]
    simp [IntKind.bits, IntKind.signed]
    omega
  have cl := Len_ok N (by omega)
  rw [← hw] at cl
  repeat' first|refine yaG ?_|refine yaC (cl) ?_|(exfalso;omega)|(refine yaS ?_ ?_<;>intro _)
  refine .call _ rfl rfl rfl (pdq_ok F co g pre cap hcmp hF hSW N c hx N d 0 N 0 (N : Int) _ rfl rfl rfl hN (Nat.zero_le _) (Nat.le_refl _) (.inl rfl)) ?_
  rintro r τ ⟨rfl, R, rfl, h1, h2⟩
  repeat' first|refine yaG ?_|(exfalso;omega)|(refine yaS ?_ ?_<;>intro _)
  exact .fin rfl ⟨rfl, R, rfl, h1, h2⟩
theorem cmp_swo {α : Type} {c : α → α → Int} (h : Cmp (fun _ => True) c) : Go.Sort.SWO (lessA c) := by
  refine ⟨fun x => ?_, fun x y z h1 h2 => ?_, fun x y z h1 h2 => ?_⟩
  · rw [lessA, h.refl x trivial]
    rfl
  · rw [lessA, decide_eq_true_eq] at h1 h2 ⊢
    exact h.trans x y z trivial trivial trivial h1 h2
  · rw [lessA, decide_eq_false_iff_not] at h1 h2 ⊢
    intro h3
    by_cases e : c y x = 0
    · have := h.eq _ _ trivial trivial e
      subst this
      exact h2 h3
    · have h4 : c y x < 0 := by
        have := (h.flip x y trivial trivial)
        have h5 := (h.flip y x trivial trivial)
        omega
      exact h2 (h.trans y x z trivial trivial trivial h4 h3)
abbrev Ix (n : Nat) : Type := { i : Nat // i < n }
def ixs (n : Nat) : List (Ix n) := (List.range n).pmap (fun i h => ⟨i, h⟩) fun i hi => List.mem_range.1 hi
theorem ixs_val (n : Nat) : (ixs n).map Subtype.val = List.range n := by
  rw [ixs, List.map_pmap]
  simp
theorem ixs_len (n : Nat) : (ixs n).length = n := by simp [ixs]
theorem extract_all {α : Type} {d : Array α} {n : Nat} (h : d.size = n) : d.extract 0 n = d := by
  subst h
  simp
theorem pdqEntries_ok (l : List Entry) (n0 : Nat) (h0 : ∀ e ∈ l, e.key.length = n0) (hn0 : n0 ≤ 34359738368) (hx : l.length ≤ 255) {τ : Store} {S : Nat → Prop} {x : Ce} (hSn : ∀ a, S a → a < τ.next) (hne : x ≠ .nils) (hh : Has τ S (.fz (l.map encE)) x) :
    Ok Tryz.prog 82 [.c x, .c (.fn 56 [] [])] τ (fun r τ' => r = .tup [] ∧ ∃ l' : List Entry, l'.Perm l ∧ l'.Pairwise (fun a b => entOrd a b < 0 ∨ a = b) ∧ Has τ' S (.fz (l'.map encE)) x ∧ τ'.next = τ.next ∧ (∀ a, ¬ S a → τ'.get a = τ.get a) ∧ ∀ σ, Gr σ τ → (∀ a, S a → σ.next ≤ a ∧ a < τ.next) → Gr σ τ') := by
  have hh0 := hh
  generalize hys : l.map encE = ys at hh
  cases hh with
  | c h' => cases h'
  | nil => exact absurd rfl hne
  | o ys id v s cs junk T hg hSid hl hsz hall hj hT hd hcell =>
    subst hys
    have hidn : id < τ.next := hSn id hSid
    have hcl : cs.length = l.length := by rw [hl, List.length_map]
    by_cases hpos : l.length = 0
    · have hl0 : l = [] := List.eq_nil_of_length_eq_zero hpos
      subst hl0
      have hcs : cs = [] := List.eq_nil_of_length_eq_zero hcl
      subst hcs
      let F : Fam { e : Entry // e.key.length = n0 } := ⟨τ, id, v, fun e => encE e.1, junk, fun e => rfl⟩
      haveI : Inhabited { e : Entry // e.key.length = n0 } := ⟨⟨⟨List.replicate n0 ⟨0, 0, []⟩, 0⟩, List.length_replicate⟩⟩
      have hF0 : F.A #[] = τ := by
        show τ.put id (v, [] ++ junk) = τ
        exact putS_same hg
      have hcmp : CmpsA Tryz.prog F (fun a b => entOrd a.1 b.1) 56 [] [] := by
        intro G a b h1 h2
        exact Lend.pure (.same (.same .nil)) (entryOrder_ok a.1 b.1 (by rw [a.2]; exact hn0) (by rw [a.2, b.2])) (.int _ _)
      have hs := sortFuncA_ok F _ _ [] [] hcmp hidn (cmp_swo ⟨fun a _ => (entOrd_cmp n0).refl _ a.2, fun a b _ _ h => Subtype.ext ((entOrd_cmp n0).eq _ _ a.2 b.2 h), fun a b _ _ => (entOrd_cmp n0).flip _ _ a.2 b.2, fun a b d _ _ _ => (entOrd_cmp n0).trans _ _ _ a.2 b.2 d.2⟩) 0 (0 + junk.length) (by decide) #[] rfl
      rw [hF0] at hs
      refine hs.mono ?_
      rintro r τ' ⟨rfl, R, rfl, q1, q2⟩
      have hR : R = #[] := Array.eq_empty_of_size_eq_zero q1.1
      rw [hR, hF0]
      exact ⟨rfl, [], .nil, .nil, hh0, rfl, fun a _ => rfl, fun σ hG _ => hG⟩
    · have hs2 : s = 2 := by
        have := hsz 0 (by simp; omega)
        rw [hall _ (List.mem_append_left _ (List.getElem_mem _))] at this
        rw [this, List.getElem_map]
        rfl
      subst hs2
      have hallc : ∀ e ∈ cs, e.length = 2 := fun e he => hall e (List.mem_append_left _ he)
      let F : Fam (Ix l.length) := ⟨τ, id, v, fun i => cellAt cs i.1, junk, fun i => cellAt_two cs i.1⟩
      haveI : Inhabited (Ix l.length) := ⟨⟨0, by omega⟩⟩
      have hix : ((ixs l.length).map fun i => cellAt cs i.1) = cs := by
        have := congrArg (List.map (cellAt cs)) (ixs_val l.length)
        rw [List.map_map, ← hcl, map_cellAt hallc] at this
        rw [← hcl]
        exact this
      have hF0 : F.A (ixs l.length).toArray = τ := by
        show τ.put id (v, ((ixs l.length).map fun i => cellAt cs i.1) ++ junk) = τ
        rw [hix]
        exact putS_same hg
      have hcmp : CmpsA Tryz.prog F (fun i j => entOrd (entAt l i.1) (entAt l j.1)) 56 [] [] := by
        intro G i j g1 g2
        have hlen : ∀ k, k < l.length → HasL G (fun a => ∃ j, T k j a) (encE (entAt l k)) (cellAt cs k) := fun k hk => by
          have hk2 : k < (l.map encE).length := by rw [List.length_map]; exact hk
          have e1 : (l.map encE)[k] = encE (entAt l k) := by rw [List.getElem_map, entAt_eq hk]
          have e2 : cellAt cs k = cs[k]'(by omega) := cellAt_eq (by omega) (hallc _ (List.getElem_mem _))
          rw [e2, ← e1]
          refine ⟨fun j a => T k j a, by rw [hsz k hk2], fun j a ha => ⟨j, ha⟩, fun j j' a p1 p2 => (hd _ _ _ _ a p1 p2).2, fun j hy hxx => ?_⟩
          exact (hcell k j hk2 hy).frame fun a ha => g1 a (hT k j a ha).2 (hSn a (hT k j a ha).1)
        refine Lend.pure (.own ((hlen i.1 i.2).frz fun _ _ => Nat.zero_le _) (.own ((hlen j.1 j.2).frz fun _ _ => Nat.zero_le _) .nil)) ?_ (.int _ _)
        refine entryOrder_ok (entAt l i.1) (entAt l j.1) ?_ ?_
        · rw [entAt_eq i.2, h0 _ (List.getElem_mem _)]; exact hn0
        · rw [entAt_eq i.2, entAt_eq j.2, h0 _ (List.getElem_mem _), h0 _ (List.getElem_mem _)]
      have hC := entOrd_cmp n0
      have hkk : ∀ i : Ix l.length, (entAt l i.1).key.length = n0 := fun i => by rw [entAt_eq i.2]; exact h0 _ (List.getElem_mem _)
      have hSW : Go.Sort.SWO (lessA fun i j : Ix l.length => entOrd (entAt l i.1) (entAt l j.1)) := by
        refine ⟨fun x => ?_, fun x y z p q => ?_, fun x y z p q => ?_⟩
        · rw [lessA, hC.refl _ (hkk x)]
          rfl
        · rw [lessA, decide_eq_true_eq] at p q ⊢
          exact hC.trans _ _ _ (hkk x) (hkk y) (hkk z) p q
        · rw [lessA, decide_eq_false_iff_not] at p q ⊢
          intro h3
          by_cases e : entOrd (entAt l y.1) (entAt l x.1) = 0
          · rw [← hC.eq _ _ (hkk y) (hkk x) e] at h3
            exact q h3
          · have a1 := hC.flip _ _ (hkk x) (hkk y)
            have a2 := hC.flip _ _ (hkk y) (hkk x)
            exact q (hC.trans _ _ _ (hkk y) (hkk x) (hkk z) (by omega) h3)
      have hsize : (ixs l.length).toArray.size = l.length := by simp [ixs_len]
      have hsort := sortFuncA_ok F _ _ [] [] hcmp hidn hSW l.length (l.length + junk.length) hx (ixs l.length).toArray hsize
      rw [hF0] at hsort
      have hlen2 : (l.map encE).length = l.length := List.length_map _
      rw [hlen2]
      refine hsort.mono ?_
      rintro r τ' ⟨rfl, R, rfl, q1, q2⟩
      have hRs : R.size = l.length := q1.1.trans hsize
      have hperm : R.toList.Perm (ixs l.length) := by
        have := q1.2.2
        rwa [extract_all hRs, extract_all hsize] at this
      obtain ⟨ps, hps0⟩ : ∃ ps : List Nat, ps = R.toList.map Subtype.val := ⟨_, rfl⟩
      have p1 : ps.Perm (List.range l.length) := by
        rw [hps0, ← ixs_val]
        exact hperm.map _
      have p2 : ps.Pairwise fun i j => entOrd (entAt l i) (entAt l j) < 0 ∨ entAt l i = entAt l j := by
        rw [hps0, List.pairwise_map, List.pairwise_iff_getElem]
        intro i j hi hj hij
        have hj2 : j < R.size := by simpa using hj
        have hi2 : i < R.size := by simpa using hi
        have := q2 i j (Nat.zero_le _) hij (by omega)
        rw [lessA, decide_eq_false_iff_not, ← arr_at hj2, ← arr_at hi2] at this
        by_cases e : entOrd (entAt l R.toList[i].1) (entAt l R.toList[j].1) = 0
        · exact .inr (hC.eq _ _ (hkk _) (hkk _) e)
        · have a1 := hC.flip _ _ (hkk R.toList[i]) (hkk R.toList[j])
          have a2 := hC.flip _ _ (hkk R.toList[j]) (hkk R.toList[i])
          exact .inl (by omega)
      have hst : F.A R = τ.put id (v, ps.map (cellAt cs) ++ junk) := by
        show τ.put id (v, (R.toList.map fun i => cellAt cs i.1) ++ junk) = _
        rw [hps0, List.map_map]
        rfl
      rw [hst]
      clear hst hps0 hperm q1 q2 hRs hsort hcmp hF0 hSW
      have hps : ps.length = l.length := by rw [p1.length_eq, List.length_range]
      have hpl : ∀ i ∈ ps, i < l.length := fun i hi => List.mem_range.1 (p1.mem_iff.1 hi)
      have hnd : ps.Nodup := p1.nodup_iff.2 List.nodup_range
      refine ⟨rfl, ps.map (entAt l), ?_, ?_, ?_, rfl, fun a ha => if_neg fun e => ha (by rw [e]; exact hSid), fun σ hG hlo => ?_⟩
      · have := p1.map (entAt l)
        rwa [map_entAt] at this
      · exact List.pairwise_map.2 p2
      · have hcs : ∀ i (hi : i < ps.length), cellAt cs ps[i] = cs[ps[i]]'(by have := hpl _ (List.getElem_mem hi); omega) := fun i hi => cellAt_eq (by have := hpl _ (List.getElem_mem hi); omega) (hallc _ (List.getElem_mem _))
        have hrl : l.length = ((ps.map (entAt l)).map encE).length := by simp [hps]
        have hz : Ce.sl id v 0 l.length (l.length + junk.length) = Ce.sl id v 0 ((ps.map (entAt l)).map encE).length (((ps.map (entAt l)).map encE).length + junk.length) := by rw [← hrl]
        rw [hz]
        refine .o ((ps.map (entAt l)).map encE) id v 2 (ps.map (cellAt cs)) junk (fun i j a => ∃ h : i < ps.length, T ps[i] j a) (if_pos rfl) hSid (by simp) (fun i hi => ?_) (fun e he => ?_) hj (fun i j a ⟨hi, ha⟩ => hT _ _ _ ha) (fun i j i' j' a q1 q2 => ?_) (fun i j hiy hjy => ?_)
        · have hi2 : i < ps.length := by simpa using hi
          rw [List.getElem_map, List.getElem_map, List.getElem_map, cellAt_two]
          rfl
        · rcases List.mem_append.1 he with he | he
          · obtain ⟨i, _, rfl⟩ := List.mem_map.1 he
            exact cellAt_two cs i
          · exact hall e (List.mem_append_right _ he)
        · obtain ⟨hi, q1⟩ := q1
          obtain ⟨hi', q2⟩ := q2
          obtain ⟨e1, e2⟩ := hd _ _ _ _ a q1 q2
          exact ⟨(List.getElem_inj hnd).1 e1, e2⟩
        · have hi2 : i < ps.length := by simpa using hiy
          have hpi := hpl _ (List.getElem_mem hi2)
          have hpi2 : ps[i] < (l.map encE).length := by simpa using hpi
          have e1 : ((ps.map (entAt l)).map encE)[i] = (l.map encE)[ps[i]] := by
            rw [List.getElem_map, List.getElem_map, List.getElem_map, entAt_eq hpi]
          have e2 : (ps.map (cellAt cs))[i]'(by simpa using hi2) = cs[ps[i]]'(by omega) := by rw [List.getElem_map, hcs i hi2]
          simp only [e1, e2]
          have hjy' : j < ((l.map encE)[ps[i]]).length := by rw [← e1]; exact hjy
          exact ((hcell ps[i] j hpi2 hjy').frame fun a ha => if_neg (hT _ _ _ ha).2).mono fun a ha => ⟨hi2, ha⟩
      · refine hG.put (hlo id hSid).1 (hlo id hSid).2 fun e he => ?_
        have hold := hG.tidy (hlo id hSid).1 hg
        rcases List.mem_append.1 he with he | he
        · obtain ⟨i, hi, rfl⟩ := List.mem_map.1 he
          have := hpl i hi
          rw [cellAt_eq (show i < cs.length by omega) (hallc _ (List.getElem_mem _))]
          exact hold _ (List.mem_append_left _ (List.getElem_mem _))
        · exact hold _ (List.mem_append_right _ he)
end Go.Proofs.YtdgnfdljkghpjaaGreat.Am

/- An entry put into an index: plain law. -/
set_option linter.unusedVariables false
set_option linter.unusedSimpArgs false
namespace Go.Proofs.YtdgnfdljkghpjaaGreat.Am

theorem putF_perm (e : Entry) (l : List Entry) : (putF e l).Perm (l ++ [e]) := by
  have h := List.perm_middle (l₁ := l.take (putPos e l)) (a := e) (l₂ := l.drop (putPos e l))
  rw [List.take_append_drop] at h
  exact h.trans (List.perm_append_singleton e l).symm
theorem ent_eq_sorted {n0 : Nat} {a b : List Entry} (ha : a.Pairwise fun x y => entOrd x y < 0) (hb : b.Pairwise fun x y => entOrd x y < 0) (hn : ∀ q ∈ a, q.key.length = n0) (hp : a.Perm b) : a = b := by
  have hC := entOrd_cmp n0
  have key : ∀ {a b : List Entry}, a.Pairwise (fun x y => entOrd x y < 0) → b.Pairwise (fun x y => entOrd x y < 0) → (∀ q ∈ a, q.key.length = n0) → a.Perm b → a = b := by
    intro a
    induction a with
    | nil => intro b _ _ _ hp; exact (List.nil_perm.1 hp).symm
    | cons x r ih =>
      intro b ha hb hn hp
      cases b with
      | nil => exact absurd hp.symm (fun h => by simpa using List.nil_perm.1 h)
      | cons y t =>
        rw [List.pairwise_cons] at ha hb
        have hxy : x = y := by
          have h1 : x ∈ y :: t := hp.mem_iff.1 (by simp)
          have h2 : y ∈ x :: r := hp.mem_iff.2 (by simp)
          rcases List.mem_cons.1 h1 with h1 | h1
          · exact h1
          · rcases List.mem_cons.1 h2 with h2 | h2
            · exact h2.symm
            · have p1 := hb.1 x h1
              have p2 := ha.1 y h2
              have := (hC.flip _ _ (hn x (by simp)) (hn y (by simp [h2]))).1 p2
              omega
        subst hxy
        rw [ih ha.2 hb.2 (fun q hq => hn q (by simp [hq])) (List.Perm.cons_inv hp)]
  exact key ha hb hn hp
theorem strict_of {a : List Entry} (h : a.Pairwise fun x y => entOrd x y < 0 ∨ x = y) (hn : a.Nodup) : a.Pairwise fun x y => entOrd x y < 0 :=
  (List.pairwise_and_iff.2 ⟨h, hn⟩).imp fun ⟨h1, h2⟩ => h1.elim (fun h => h) fun h => absurd h h2
theorem putF_sorted {n0 : Nat} {e : Entry} : ∀ {l : List Entry}, l.Pairwise (fun x y => entOrd x y < 0) → (∀ q ∈ l, q.key.length = n0) → e.key.length = n0 → e ∉ l → (∀ q ∈ l, lessK q.key e.key q.id e.id = decide (entOrd q e < 0)) → (putF e l).Pairwise fun x y => entOrd x y < 0
  | [], _, _, _, _, _ => by simp [putF, putPos]
  | a :: r, hs, hn, he, hne, hl => by
    have hC := entOrd_cmp n0
    rw [List.pairwise_cons] at hs
    have hla := hl a (by simp)
    have hna := hn a (by simp)
    rw [putF, putPos, hla]
    by_cases h : entOrd a e < 0
    · rw [if_pos (decide_eq_true h), List.take_succ_cons, List.drop_succ_cons, List.cons_append, List.pairwise_cons]
      have ih := putF_sorted hs.2 (fun q hq => hn q (by simp [hq])) he (fun h => hne (by simp [h])) fun q hq => hl q (by simp [hq])
      refine ⟨fun q hq => ?_, ih⟩
      have hq2 := (putF_perm e r).mem_iff.1 hq
      rcases List.mem_append.1 hq2 with hq2 | hq2
      · exact hs.1 q hq2
      · rw [List.mem_singleton.1 hq2]; exact h
    · rw [if_neg (by simp [h])]
      simp only [List.take_zero, List.drop_zero, List.nil_append]
      have hea : entOrd e a < 0 := by
        by_cases h0 : entOrd a e = 0
        · exact absurd (hC.eq _ _ hna he h0) (fun h => hne (by simp [h]))
        · exact (hC.flip _ _ he hna).2 (by omega)
      rw [List.pairwise_cons, List.pairwise_cons]
      refine ⟨fun q hq => ?_, hs⟩
      rcases List.mem_cons.1 hq with rfl | hq
      · exact hea
      · exact hC.trans _ _ _ he hna (hn q (by simp [hq])) hea (hs.1 q hq)
end Go.Proofs.YtdgnfdljkghpjaaGreat.Am

/- An entry put into an index: the reference's own. -/
set_option linter.unusedVariables false
set_option linter.unusedSimpArgs false
namespace Go.Proofs.YtdgnfdljkghpjaaGreat.Am

theorem fin_no {σ : Store} {l : List (Nat × List (List Ce))} {b : Bool} : Fin σ (.tup [.c (.fz []), .c (.bool b)]) (.tup [.c .nils, .c (.bool b)]) (E σ l) :=
  ⟨l, rfl, .tup rfl fun i hi => by
    match i, hi with
    | 0, _ => exact .c .nil
    | 1, _ => exact .refl (by intro y hy; simp [AV.all] at hy; subst hy; exact .bool _)⟩
end Go.Proofs.YtdgnfdljkghpjaaGreat.Am

/- An entry put into an index: the program's own. -/
set_option linter.unusedVariables false
set_option linter.unusedSimpArgs false
namespace Go.Proofs.YtdgnfdljkghpjaaGreat.Am

end Go.Proofs.YtdgnfdljkghpjaaGreat.Am

/- Schemas, as the program sees them. -/
set_option linter.unusedVariables false
set_option linter.unusedSimpArgs false
namespace Go.Proofs.YtdgnfdljkghpjaaGreat.Am

theorem idxA_at {α : Type} {p : α → Bool} : ∀ {l : List α} {i : Int}, 0 ≤ i → idxA p l i = -1 ∨ ∃ n : Nat, ∃ h : n < l.length, idxA p l i = i + n ∧ p l[n] = true
  | [], i, h => .inl rfl
  | a :: r, i, h => by
    simp only [idxA]
    split
    · exact .inr ⟨0, by simp, by simp, by assumption⟩
    · rcases idxA_at (p := p) (l := r) (i := i + 1) (by omega) with h1 | ⟨n, hn, h1, h2⟩
      · exact .inl h1
      · exact .inr ⟨n + 1, by simpa using hn, by omega, by simpa using h2⟩
theorem TableAt1_ok (t : Table) (s : List UInt8) : Pure Tryz.prog 225 [.agg (encTable t), .c (.fp [.str s])] (.c (.bool (t.name == s))) := by
  refine Pure.run mixed c_impl_TableAt_1_ok (Nat.le_of_ble_eq_true rfl) fun σ hS hA => ?_
  clear hS hA
  repeat' first|refine yaG ?_|(exfalso;omega)|(refine yaS ?_ ?_<;>intro _)
  all_goals refine .ret rfl (.bool ?_)
  all_goals simp_all
theorem TableAt_ok (l : List Table) (s : List UInt8) (hx : l.length ≤ 34359738368) : Pure Tryz.prog 182 [.c (.fz (l.map encTable)), .c (.str s)] (.c (.int .i64 (idxA (fun t => t.name == s) l 0))) := by
  refine Pure.run mixed c_impl_TableAt_ok (Nat.le_of_ble_eq_true rfl) fun σ hS hA => ?_
  clear hS hA
  repeat' first|refine yaG ?_|((first|apply yQ|apply yR|apply yS);(iterate 3 exact rfl);exact indexFuncA_ok mixed c_slices_IndexFunc_Table_ok encTable (fun t => .agg (encTable t)) (fun _ => rfl) (fun _ => rfl) l (fun t => t.name == s) _ [] [.fp [.str s]] hx (fun j hj _ => TableAt1_ok _ _))|(exfalso;omega)|(refine yaS ?_ ?_<;>intro _)
  exact .ret rfl (.int rfl)
def kindAt (t : Table) (c : Int) : Int := match t.cols[c.toNat]? with | some x => x.kind | none => 0
def kindsEq (u t : Table) : List Int → List Int → Bool
  | a :: r, c :: q => kindAt u a == kindAt t c && kindsEq u t r q
  | _, _ => true
def metAt (u t : Table) (f : Fk) : Bool := decide (u.key.length = f.cols.length) && kindsEq u t u.key f.cols
def metF (s : List Table) (t : Table) (f : Fk) : Bool := s.any (fun u => u.name == f.table) && (match s[(idxA (fun u => u.name == f.table) s 0).toNat]? with | some u => metAt u t f | none => false)
theorem kindAt_at {t : Table} {c : Int} {n : Nat} (h : c = n) (hn : n < t.cols.length) : kindAt t c = t.cols[n].kind := by
  simp [kindAt, h, hn]
theorem metF_no {s : List Table} {t : Table} {f : Fk} (h : idxA (fun u => u.name == f.table) s 0 = -1) : metF s t f = false := by
  have := any_idx (p := fun u : Table => u.name == f.table) (l := s)
  rw [h] at this
  rw [metF, ← this]
  rfl
theorem metF_yes {s : List Table} {t : Table} {f : Fk} {n : Nat} (h : idxA (fun u => u.name == f.table) s 0 = n) (hn : n < s.length) : metF s t f = metAt s[n] t f := by
  have := any_idx (p := fun u : Table => u.name == f.table) (l := s)
  rw [h] at this
  rw [metF, ← this, h, decide_eq_true (by omega)]
  simp [hn]
theorem isMet_ok (s : List Table) (t : Table) (f : Fk) (hx : s.length ≤ 34359738368) (hs : ∀ u ∈ s, u.key.length ≤ 34359738368 ∧ ∀ c ∈ u.key, 0 ≤ c ∧ c < u.cols.length) (hf0 : f.cols.length ≤ 34359738368) (hf : ∀ c ∈ f.cols, 0 ≤ c ∧ c < t.cols.length) : Pure Tryz.prog 187 [.c (.fz (s.map encTable)), .agg (encTable t), .agg (encFk f)] (.c (.bool (metF s t f))) := by
  refine Pure.run mixed c_impl_isMet_ok (Nat.le_of_ble_eq_true rfl) fun σ hS hA => ?_
  clear hS hA
  repeat' first|refine yaG ?_|fail
  refine .pcall rfl rfl rfl (TableAt_ok s f.table hx) ?_
  rcases idxA_at (p := fun u : Table => u.name == f.table) (l := s) (i := 0) (Int.le_refl _) with hq | ⟨n, hn, hq, hp⟩
  · have hm := metF_no (t := t) hq
    rw [hq]
    repeat' first|refine yaG ?_|(exfalso;omega)|(refine yaS ?_ ?_<;>intro _)
    exact .ret rfl (.bool hm.symm)
  rw [Int.zero_add] at hq
  have hm := metF_yes (t := t) hq hn
  have hsn := hs _ (List.getElem_mem hn)
  rw [hq]
  have hnz : ¬ ((n : Int) < 0) := by omega
  repeat' first|refine yaG ?_|((first|apply yG|apply yH|apply yI);exact rfl;(first|exact yX (enc := encTable) rfl rfl rfl hn rfl))|(exfalso;omega)|(refine yaS ?_ ?_<;>intro _)
  · refine .ret rfl (.bool ?_)
    rename_i h
    rw [hm, metAt, decide_eq_false (by omega)]
    rfl
  rename_i hlen
  refine Go.keep [0, 4, 7, 29, 30, 31] (Go.loops (I := fun m fr τ => ∃ i : Nat, ∃ k : Int, m = f.cols.length - i ∧ i ≤ f.cols.length ∧ k = i ∧ kindsEq s[n] t s[n].key f.cols = kindsEq s[n] t (s[n].key.drop i) (f.cols.drop i) ∧
    fr = [(0, .c (.fz (s.map encTable))), (4, .c (.fp (encTable t))), (7, .c (.int .i64 (n : Int))), (29, .c (.fz (f.cols.map encI))), (30, .c (.int .i64 (f.cols.length : Int))), (31, .c (.int .i64 k))] ∧ τ = E σ []) ?_ _ _ _ ⟨0, _, rfl, Nat.zero_le _, rfl, rfl, rfl, rfl⟩)
  rintro m fr τ ⟨i, k, rfl, hi, hk, hsl, rfl, rfl⟩ hrec
  by_cases hlt : i < f.cols.length
  · have hlt2 : i < s[n].key.length := by omega
    have h1 := hsn.2 _ (List.getElem_mem hlt2)
    have h2 := hf _ (List.getElem_mem hlt)
    obtain ⟨a, ha⟩ : ∃ a : Nat, s[n].key[i] = a := ⟨s[n].key[i].toNat, by omega⟩
    obtain ⟨c, hc⟩ : ∃ c : Nat, f.cols[i] = c := ⟨f.cols[i].toNat, by omega⟩
    have ha2 : a < s[n].cols.length := by omega
    have hc2 : c < t.cols.length := by omega
    have e1 := kindAt_at ha ha2
    have e2 := kindAt_at hc hc2
    have hstep : kindsEq s[n] t s[n].key f.cols = (s[n].cols[a].kind == t.cols[c].kind && kindsEq s[n] t (s[n].key.drop (i + 1)) (f.cols.drop (i + 1))) := by
      rw [hsl, List.drop_eq_getElem_cons hlt, List.drop_eq_getElem_cons hlt2, kindsEq, e1, e2]
    repeat' first|refine yaG ?_|((first|apply yG|apply yH|apply yI);exact rfl;(first|exact yX (enc := encI) rfl rfl hk hlt rfl|exact yX (enc := encTable) rfl rfl rfl hn rfl|exact yX (enc := encI) rfl rfl hk hlt2 rfl|exact yX (enc := encCol) rfl rfl ha ha2 rfl|exact yX (enc := encCol) rfl rfl hc hc2 rfl))|(exfalso;omega)|(refine yaS ?_ ?_<;>intro _)
    · refine .ret rfl (.bool ?_)
      rename_i h
      rw [hm, metAt, hstep, beq_eq_false_iff_ne.2 h]
      simp
    · rename_i h
      refine Go.keep [0, 4, 7, 29, 30, 31] (hrec _ _ _ (by omega) ⟨i + 1, _, rfl, hlt, wrap_succ hk (by omega), ?_, rfl, rfl⟩)
      rw [hstep, h]
      simp
  · repeat' first|refine yaG ?_|(exfalso;omega)|(refine yaS ?_ ?_<;>intro _)
    refine .ret rfl (.bool ?_)
    rw [hm, metAt, hsl, List.drop_eq_nil_of_le (by omega), decide_eq_true (by omega)]
    cases s[n].key.drop i <;> rfl
def namesAux : List Table → List Table → Bool
  | _, [] => true
  | pre, t :: r => tableF t && !(pre.any fun u => u.name == t.name) && namesAux (pre ++ [t]) r
def schemaF (s : List Table) : Bool := decide ((s.length : Int) ≤ 5) && (namesAux [] s && !(s.any fun t => t.fks.any fun f => !metF s t f))
theorem namesAux_ok : ∀ {l pre : List Table}, namesAux pre l = true → ∀ t ∈ l, tableF t = true
  | [], _, _, t, h => by simp at h
  | a :: r, pre, h, t, ht => by
    simp only [namesAux, Bool.and_eq_true] at h
    rcases List.mem_cons.1 ht with rfl | ht
    · exact h.1.1
    · exact namesAux_ok h.2 t ht
theorem tableF_key {t : Table} (h : tableF t = true) : ∀ c ∈ t.key, 0 ≤ c ∧ c < t.cols.length := colsF_in (tableF_iff.1 h).2.2.1
theorem tableF_fk {t : Table} (h : tableF t = true) {f : Fk} (hf : f ∈ t.fks) : ∀ c ∈ f.cols, 0 ≤ c ∧ c < t.cols.length := by
  have h1 := (tableF_iff.1 h).2.2.2.2.2.2.2.2.2.2
  rw [List.any_eq_false] at h1
  have := h1 f hf
  simp only [Bool.not_eq_true', Bool.not_eq_false, isFkF, Bool.and_eq_true] at this
  exact colsF_in this.1
theorem SchemaOk11_ok (s : List Table) (t : Table) (f : Fk) (hx : s.length ≤ 34359738368) (hs : ∀ u ∈ s, u.key.length ≤ 34359738368 ∧ ∀ c ∈ u.key, 0 ≤ c ∧ c < u.cols.length) (hf0 : f.cols.length ≤ 34359738368) (hf : ∀ c ∈ f.cols, 0 ≤ c ∧ c < t.cols.length) : Pure Tryz.prog 186 [.agg (encFk f), .c (.fp [.fz (s.map encTable)]), .c (.fp (encTable t))] (.c (.bool (!metF s t f))) := by
  refine Pure.run mixed c_impl_SchemaOk_1_1_ok (Nat.le_of_ble_eq_true rfl) fun σ hS hA => ?_
  clear hS hA
  repeat' first|refine yaG ?_|refine yaC (isMet_ok s t f hx hs hf0 hf) ?_|(exfalso;omega)|(refine yaS ?_ ?_<;>intro _)
  exact .ret rfl (.bool rfl)
theorem SchemaOk1_ok (s : List Table) (t : Table) (hx : s.length ≤ 34359738368) (hs : ∀ u ∈ s, u.key.length ≤ 34359738368 ∧ ∀ c ∈ u.key, 0 ≤ c ∧ c < u.cols.length) (hb : bTable 34359738368 t) (hf : ∀ f ∈ t.fks, ∀ c ∈ f.cols, 0 ≤ c ∧ c < t.cols.length) : Pure Tryz.prog 184 [.agg (encTable t), .c (.fp [.fz (s.map encTable)])] (.c (.bool (t.fks.any fun f => !metF s t f))) := by
  refine Pure.run mixed c_impl_SchemaOk_1_ok (Nat.le_of_ble_eq_true rfl) fun σ hS hA => ?_
  clear hS hA
  have b6 := hb.2.2.2.2.2
  repeat' first|refine yaG ?_|((first|apply yQ|apply yR|apply yS);(iterate 3 exact rfl);exact containsFuncA_ok mixed c_slices_ContainsFunc_Fk_ok c_slices_IndexFunc_Fk_ok encFk (fun u => .agg (encFk u)) (fun _ => rfl) (fun _ => rfl) t.fks (fun f => !metF s t f) _ [] [.fp [.fz (s.map encTable)], .fp (encTable t)] b6.1 (fun j hj _ => SchemaOk11_ok s t _ hx hs (b6.2 _ (List.getElem_mem hj)).1 (hf _ (List.getElem_mem hj))))|(exfalso;omega)|(refine yaS ?_ ?_<;>intro _)
  exact .ret rfl (.bool rfl)
theorem encTable_len {l : List Table} : ∀ e ∈ l.map encTable, e.length = 6 := fun e he => by
  obtain ⟨t, _, rfl⟩ := List.mem_map.1 he
  rfl
theorem SchemaOk_ok (s : List Table) (hx : s.length ≤ 34359738368) (hb : ∀ t ∈ s, bTable 34359738368 t) : Pure Tryz.prog 140 [.c (.fz (s.map encTable))] (.c (.bool (schemaF s))) := by
  refine Pure.run mixed c_impl_SchemaOk_ok (Nat.le_of_ble_eq_true rfl) fun σ hS hA => ?_
  clear hS hA
  repeat' first|refine yaG ?_|(exfalso;omega)|(refine yaS ?_ ?_<;>intro _)
  · refine .ret rfl (.bool ?_)
    rw [schemaF, decide_eq_false (by omega)]
    rfl
  rename_i h5
  refine Go.keep [1, 8, 9, 10] (Go.loops (I := fun m fr τ => ∃ i : Nat, ∃ k : Int, m = s.length - i ∧ i ≤ s.length ∧ k = i ∧ namesAux [] s = namesAux (s.take i) (s.drop i) ∧
    fr = [(1, .c (.fp [.fz (s.map encTable)])), (8, .c (.fz (s.map encTable))), (9, .c (.int .i64 (s.length : Int))), (10, .c (.int .i64 k))] ∧ τ = E σ []) ?_ _ _ _ ⟨0, _, rfl, Nat.zero_le _, rfl, rfl, rfl, rfl⟩)
  rintro m fr τ ⟨i, k, rfl, hi, hk, hsl, rfl, rfl⟩ hrec
  by_cases hlt : i < s.length
  · have hd := List.drop_eq_getElem_cons hlt
    have htk : (s.map encTable).take i = (s.take i).map encTable := List.map_take.symm
    have hstep : namesAux [] s = (tableF s[i] && !((s.take i).any fun d => d.name == s[i].name) && namesAux (s.take (i + 1)) (s.drop (i + 1))) := by
      rw [hsl, hd, namesAux, List.take_succ_eq_append_getElem hlt]
    have neg : (tableF s[i] = false ∨ ((s.take i).any fun d => d.name == s[i].name) = true) → schemaF s = false := by
      rintro (h | h)
      · rw [schemaF, hstep, h]; simp
      · rw [schemaF, hstep, h]; simp
    have hany := any_idx (p := fun d : Table => d.name == s[i].name) (l := s.take i)
    repeat' first|refine yaG ?_|((first|apply yG|apply yH|apply yI);exact rfl;(first|exact yX (enc := encTable) rfl rfl hk hlt rfl|exact aop_sliceF (n := i) rfl rfl hk (by simp;omega) encTable_len))|((first|apply Go.pcallB|apply Go.spcallB|apply Qg.pcallB);(iterate 3 exact rfl);exact TableOk_ok s[i] (hb _ (List.getElem_mem hlt));intro _ _)|(exfalso;omega)|(refine yaS ?_ ?_<;>intro _)
    · rename_i c p q
      exact .ret rfl (.bool (neg (.inl (nbT p q))).symm)
    rename_i c p q
    rw [htk]
    repeat' first|refine yaG ?_|((first|apply Go.pcallI|apply Go.spcallI|apply Qg.pcallI);(iterate 3 exact rfl);exact TableAt_ok (s.take i) s[i].name (by simp;omega);intro _ _)|(exfalso;omega)|(refine yaS ?_ ?_<;>intro _)
    · rename_i z hz hz2
      refine .ret rfl (.bool (neg (.inr ?_)).symm)
      rw [← hany, hz]
      simpa using hz2
    · rename_i z hz hz2
      refine Go.keep [1, 8, 9, 10] (hrec _ _ _ (by omega) ⟨i + 1, _, rfl, hlt, wrap_succ hk (by omega), ?_, rfl, rfl⟩)
      rw [hstep, nbF p q, ← hany, hz, decide_eq_false (by omega)]
      rfl
  have hfin : namesAux [] s = true := by
    rw [hsl, List.drop_eq_nil_of_le (by omega)]
    rfl
  have hok := namesAux_ok hfin
  clear hrec hsl
  repeat' first|refine yaG ?_|((first|apply yQ|apply yR|apply yS);(iterate 3 exact rfl);exact containsFuncA_ok mixed c_slices_ContainsFunc_Table_ok c_slices_IndexFunc_Table_ok encTable (fun u => .agg (encTable u)) (fun _ => rfl) (fun _ => rfl) s (fun t => t.fks.any fun f => !metF s t f) _ [] [.fp [.fz (s.map encTable)]] hx (fun j hj _ => SchemaOk1_ok s _ hx (fun u hu => ⟨(hb u hu).2.2.1, tableF_key (hok u hu)⟩) (hb _ (List.getElem_mem hj)) (fun f hf => tableF_fk (hok _ (List.getElem_mem hj)) hf)))|(exfalso;omega)|(refine yaS ?_ ?_<;>intro _)
  refine .ret rfl (.bool ?_)
  rw [schemaF, hfin, decide_eq_true (by omega)]
  rfl
end Go.Proofs.YtdgnfdljkghpjaaGreat.Am

/- Schemas, as the reference sees them. -/
set_option linter.unusedVariables false
set_option linter.unusedSimpArgs false
namespace Go.Proofs.YtdgnfdljkghpjaaGreat.Am

theorem schemaF_not {s : List Table} (h : schemaF s = true → False) : schemaF s = false := by
  cases c : schemaF s
  · rfl
  · exact (h c).elim
theorem schemaF_iff {s : List Table} : schemaF s = true ↔ (s.length : Int) ≤ 5 ∧ namesAux [] s = true ∧ (s.any fun t => t.fks.any fun f => !metF s t f) = false := by
  simp only [schemaF, Bool.and_eq_true, decide_eq_true_eq, Bool.not_eq_true']
theorem sSchemaOk_ok (s : List Table) (hx : s.length ≤ 34359738368) (hb : ∀ t ∈ s, bTable 34359738368 t) : Pure Tryz.prog 177 [.c (.fz (s.map encTable))] (.c (.bool (schemaF s))) := by
  refine Pure.run mixed c_spec_SchemaOk_ok (Nat.le_of_ble_eq_true rfl) fun σ hS hA => ?_
  clear hS hA
  repeat' first|refine yaG ?_|(exfalso;omega)|(refine yaS ?_ ?_<;>intro _)
  refine Go.keep [0, 3] (Go.loops (I := fun m fr τ => ∃ i : Nat, ∃ k : Int, m = s.length - i ∧ i ≤ s.length ∧ k = i ∧ namesAux [] s = namesAux (s.take i) (s.drop i) ∧
    fr = [(0, .c (.fz (s.map encTable))), (3, .c (.int .i64 k))] ∧ τ = E σ []) ?_ _ _ _ ⟨0, _, rfl, Nat.zero_le _, rfl, rfl, rfl, rfl⟩)
  rintro m fr τ ⟨i, k, rfl, hi, hk, hsl, rfl, rfl⟩ hrec
  by_cases hlt : i < s.length
  · have hd := List.drop_eq_getElem_cons hlt
    have htk : (s.map encTable).take i = (s.take i).map encTable := List.map_take.symm
    have hstep : namesAux [] s = (tableF s[i] && !((s.take i).any fun d => d.name == s[i].name) && namesAux (s.take (i + 1)) (s.drop (i + 1))) := by
      rw [hsl, hd, namesAux, List.take_succ_eq_append_getElem hlt]
    have neg : (tableF s[i] = false ∨ ((s.take i).any fun d => d.name == s[i].name) = true) → schemaF s = false := by
      rintro (h | h)
      · rw [schemaF, hstep, h]; simp
      · rw [schemaF, hstep, h]; simp
    have hany := any_idx (p := fun d : Table => d.name == s[i].name) (l := s.take i)
    repeat' first|refine yaG ?_|((first|apply yG|apply yH|apply yI);exact rfl;(first|exact yX (enc := encTable) rfl rfl hk hlt rfl|exact aop_sliceF (n := i) rfl rfl hk (by simp;omega) encTable_len))|((first|apply Go.pcallB|apply Go.spcallB|apply Qg.pcallB);(iterate 3 exact rfl);exact sTableOk_ok s[i] (hb _ (List.getElem_mem hlt));intro _ _)|(exfalso;omega)|(refine yaS ?_ ?_<;>intro _)
    · rename_i c p q
      exact .ret rfl (.bool (neg (.inl (nbT p q))).symm)
    rename_i c p q
    rw [htk]
    repeat' first|refine yaG ?_|((first|apply Go.pcallI|apply Go.spcallI|apply Qg.pcallI);(iterate 3 exact rfl);exact l3At_ok (s.take i) s[i].name (by simp;omega);intro _ _)|(exfalso;omega)|(refine yaS ?_ ?_<;>intro _)
    · rename_i z hz hz2
      refine .ret rfl (.bool (neg (.inr ?_)).symm)
      rw [← hany, hz]
      simpa using hz2
    · rename_i z hz hz2
      refine Go.keep [0, 3] (hrec _ _ _ (by omega) ⟨i + 1, _, rfl, hlt, wrap_succ hk (by omega), ?_, rfl, rfl⟩)
      rw [hstep, nbF p q, ← hany, hz, decide_eq_false (by omega)]
      rfl
  have hfin : namesAux [] s = true := by
    rw [hsl, List.drop_eq_nil_of_le (by omega)]
    rfl
  have hok := namesAux_ok hfin
  clear hrec hsl
  repeat' first|refine yaG ?_|(exfalso;omega)|(refine yaS ?_ ?_<;>intro _)
  clear hlt hk hi
  -- the references
  refine Go.keep [0, 4] (Go.loops (I := fun m fr τ => ∃ i : Nat, ∃ k : Int, m = s.length - i ∧ i ≤ s.length ∧ k = i ∧ (∀ j (hj : j < s.length), j < i → (!(s[j].fks.any fun f => !metF s s[j] f)) = true) ∧
    fr = [(0, .c (.fz (s.map encTable))), (4, .c (.int .i64 k))] ∧ τ = E σ []) ?_ _ _ _ ⟨0, _, rfl, Nat.zero_le _, rfl, fun j _ h => absurd h (by omega), rfl, rfl⟩)
  rintro m fr τ ⟨i, k, rfl, hi, hk, hall, rfl, rfl⟩ hrec
  by_cases hlt : i < s.length
  · have hmem := List.getElem_mem hlt
    have hti := hok _ hmem
    have b6 := (hb _ hmem).2.2.2.2.2
    repeat' first|refine yaG ?_|(exfalso;omega)|(refine yaS ?_ ?_<;>intro _)
    refine Go.keep [0, 4, 5] (Go.loops (I := fun m fr τ => ∃ i2 : Nat, ∃ k2 : Int, m = s[i].fks.length - i2 ∧ i2 ≤ s[i].fks.length ∧ k2 = i2 ∧ (∀ j (hj : j < s[i].fks.length), j < i2 → metF s s[i] s[i].fks[j] = true) ∧
      fr = [(0, .c (.fz (s.map encTable))), (4, .c (.int .i64 k)), (5, .c (.int .i64 k2))] ∧ τ = E σ []) ?_ _ _ _ ⟨0, _, rfl, Nat.zero_le _, rfl, fun j _ h => absurd h (by omega), rfl, rfl⟩)
    rintro m fr τ ⟨i2, k2, rfl, hi2, hk2, hall2, rfl, rfl⟩ hrec2
    by_cases hlt2 : i2 < s[i].fks.length
    · have hfm := List.getElem_mem hlt2
      have hf := tableF_fk hti hfm
      have hf0 := (b6.2 _ hfm).1
      have neg : metF s s[i] s[i].fks[i2] = false → schemaF s = false := fun h => schemaF_not fun hh => by
        have h2 := (schemaF_iff.1 hh).2.2
        rw [List.any_eq_false] at h2
        exact h2 _ hmem (List.any_eq_true.2 ⟨_, hfm, by rw [h]; rfl⟩)
      repeat' first|refine yaG ?_|((first|apply yG|apply yH|apply yI);exact rfl;(first|exact yX (enc := encTable) rfl rfl hk hlt rfl|exact yX (enc := encFk) rfl rfl hk2 hlt2 rfl))|(exfalso;omega)|(refine yaS ?_ ?_<;>intro _)
      refine .pcall rfl rfl rfl (l3At_ok s s[i].fks[i2].table hx) ?_
      rcases idxA_at (p := fun u : Table => u.name == s[i].fks[i2].table) (l := s) (i := 0) (Int.le_refl _) with hq | ⟨n, hn, hq, hp⟩
      · have hm := metF_no (t := s[i]) hq
        rw [hq]
        repeat' first|refine yaG ?_|(exfalso;omega)|(refine yaS ?_ ?_<;>intro _)
        exact .ret rfl (.bool (neg hm).symm)
      rw [Int.zero_add] at hq
      have hm := metF_yes (t := s[i]) hq hn
      have hsk := tableF_key (hok _ (List.getElem_mem hn))
      rw [hq]
      have hnz : ¬ ((n : Int) < 0) := by omega
      repeat' first|refine yaG ?_|((first|apply yG|apply yH|apply yI);exact rfl;(first|exact yX (enc := encTable) rfl rfl rfl hn rfl))|(exfalso;omega)|(refine yaS ?_ ?_<;>intro _)
      · rename_i h
        refine .ret rfl (.bool (neg ?_).symm)
        rw [hm, metAt, decide_eq_false (by omega)]
        rfl
      rename_i hlen
      refine Go.keep [0, 4, 5, 6, 7, 8] (Go.loops (I := fun m fr τ => ∃ i3 : Nat, ∃ k3 : Int, m = s[i].fks[i2].cols.length - i3 ∧ i3 ≤ s[i].fks[i2].cols.length ∧ k3 = i3 ∧ kindsEq s[n] s[i] s[n].key s[i].fks[i2].cols = kindsEq s[n] s[i] (s[n].key.drop i3) (s[i].fks[i2].cols.drop i3) ∧
        fr = [(0, .c (.fz (s.map encTable))), (4, .c (.int .i64 k)), (5, .c (.int .i64 k2)), (6, .c (.fp (encFk s[i].fks[i2]))), (7, .c (.int .i64 (n : Int))), (8, .c (.int .i64 k3))] ∧ τ = E σ []) ?_ _ _ _ ⟨0, _, rfl, Nat.zero_le _, rfl, rfl, rfl, rfl⟩)
      rintro m fr τ ⟨i3, k3, rfl, hi3, hk3, hsl, rfl, rfl⟩ hrec3
      by_cases hlt3 : i3 < s[i].fks[i2].cols.length
      · have hlt4 : i3 < s[n].key.length := by omega
        have h1 := hsk _ (List.getElem_mem hlt4)
        have h2 := hf _ (List.getElem_mem hlt3)
        obtain ⟨a, ha⟩ : ∃ a : Nat, s[n].key[i3] = a := ⟨s[n].key[i3].toNat, by omega⟩
        obtain ⟨c, hc⟩ : ∃ c : Nat, s[i].fks[i2].cols[i3] = c := ⟨s[i].fks[i2].cols[i3].toNat, by omega⟩
        have ha2 : a < s[n].cols.length := by omega
        have hc2 : c < s[i].cols.length := by omega
        have e1 := kindAt_at ha ha2
        have e2 := kindAt_at hc hc2
        have hstep : kindsEq s[n] s[i] s[n].key s[i].fks[i2].cols = (s[n].cols[a].kind == s[i].cols[c].kind && kindsEq s[n] s[i] (s[n].key.drop (i3 + 1)) (s[i].fks[i2].cols.drop (i3 + 1))) := by
          rw [hsl, List.drop_eq_getElem_cons hlt3, List.drop_eq_getElem_cons hlt4, kindsEq, e1, e2]
        repeat' first|refine yaG ?_|((first|apply yG|apply yH|apply yI);exact rfl;(first|exact yX (enc := encTable) rfl rfl hk hlt rfl|exact yX (enc := encI) rfl rfl hk3 hlt3 rfl|exact yX (enc := encTable) rfl rfl rfl hn rfl|exact yX (enc := encI) rfl rfl hk3 hlt4 rfl|exact yX (enc := encCol) rfl rfl ha ha2 rfl|exact yX (enc := encCol) rfl rfl hc hc2 rfl))|(exfalso;omega)|(refine yaS ?_ ?_<;>intro _)
        · rename_i h
          refine .ret rfl (.bool (neg ?_).symm)
          rw [hm, metAt, hstep, beq_eq_false_iff_ne.2 fun e => h e.symm]
          simp
        · rename_i h
          refine Go.keep [0, 4, 5, 6, 7, 8] (hrec3 _ _ _ (by omega) ⟨i3 + 1, _, rfl, hlt3, wrap_succ hk3 (by omega), ?_, rfl, rfl⟩)
          rw [hstep, h]
          simp
      · have hmt : metF s s[i] s[i].fks[i2] = true := by
          rw [hm, metAt, hsl, List.drop_eq_nil_of_le (by omega), decide_eq_true (by omega)]
          cases s[n].key.drop i3 <;> rfl
        clear hrec3
        repeat' first|refine yaG ?_|(exfalso;omega)|(refine yaS ?_ ?_<;>intro _)
        exact Go.keep [0, 4, 5] (hrec2 _ _ _ (by omega) ⟨i2 + 1, _, rfl, hlt2, wrap_succ hk2 (by omega), upto (p := fun f => metF s s[i] f) hall2 hlt2 hmt, rfl, rfl⟩)
    · have hany := any_none (p := fun f => metF s s[i] f) (l := s[i].fks) fun j hj => hall2 j hj (by omega)
      clear hrec2
      repeat' first|refine yaG ?_|((first|apply yG|apply yH|apply yI);exact rfl;(first|exact yX (enc := encTable) rfl rfl hk hlt rfl))|(exfalso;omega)|(refine yaS ?_ ?_<;>intro _)
      exact Go.keep [0, 4] (hrec _ _ _ (by omega) ⟨i + 1, _, rfl, hlt, wrap_succ hk (by omega), upto (p := fun t : Table => !(t.fks.any fun f => !metF s t f)) hall hlt (by rw [hany]; rfl), rfl, rfl⟩)
  · have hany := any_none (p := fun t : Table => !(t.fks.any fun f => !metF s t f)) (l := s) fun j hj => hall j hj (by omega)
    clear hrec
    repeat' first|refine yaG ?_|(exfalso;omega)|(refine yaS ?_ ?_<;>intro _)
    refine .ret rfl (.bool ?_)
    simp only [Bool.not_not] at hany
    rw [schemaF, hfin, hany]
    simp
end Go.Proofs.YtdgnfdljkghpjaaGreat.Am

/- Queries: the program and its reference. -/
set_option linter.unusedVariables false
set_option linter.unusedSimpArgs false
namespace Go.Proofs.YtdgnfdljkghpjaaGreat.Am

theorem schemaF_cols {s : List Table} (h : schemaF s = true) : ∀ t ∈ s, 1 ≤ t.cols.length ∧ t.cols.length ≤ 8 := fun t ht => by
  have := (tableF_iff.1 (namesAux_ok (schemaF_iff.1 h).2.1 t ht)).2.1
  simp only [isIn, Bool.and_eq_true, decide_eq_true_eq] at this
  omega
end Go.Proofs.YtdgnfdljkghpjaaGreat.Am

/- Statements: the program and its reference. -/
set_option linter.unusedVariables false
set_option linter.unusedSimpArgs false
namespace Go.Proofs.YtdgnfdljkghpjaaGreat.Am

def fitAux (t : Table) : Nat → List Val → Bool
  | _, [] => true
  | i, v :: r => isOfF v (kindAt t i) && fitAux t (i + 1) r
def fitF (t : Table) (vals : List Val) : Bool := decide ((vals.length : Int) = t.cols.length) && fitAux t 0 vals
theorem fit_ok (t : Table) (vals : List Val) (hx : vals.length ≤ 34359738368) : Pure Tryz.prog 188 [.agg (encTable t), .c (.fz (vals.map encV))] (.c (.bool (fitF t vals))) := by
  refine Pure.run mixed c_impl_fit_ok (Nat.le_of_ble_eq_true rfl) fun σ hS hA => ?_
  clear hS hA
  repeat' first|refine yaG ?_|(exfalso;omega)|(refine yaS ?_ ?_<;>intro _)
  · rename_i h
    refine .ret rfl (.bool ?_)
    rw [fitF, decide_eq_false h]
    rfl
  rename_i hlen
  have hlen : (vals.length : Int) = t.cols.length := by omega
  refine Go.keep [2, 13, 14, 15] (Go.loops (I := fun m fr τ => ∃ i : Nat, ∃ k : Int, m = vals.length - i ∧ i ≤ vals.length ∧ k = i ∧ fitAux t 0 vals = fitAux t i (vals.drop i) ∧
    fr = [(2, .c (.fp (encTable t))), (13, .c (.fz (vals.map encV))), (14, .c (.int .i64 (vals.length : Int))), (15, .c (.int .i64 k))] ∧ τ = E σ []) ?_ _ _ _ ⟨0, _, rfl, Nat.zero_le _, rfl, rfl, rfl, rfl⟩)
  rintro m fr τ ⟨i, k, rfl, hi, hk, hsl, rfl, rfl⟩ hrec
  by_cases hlt : i < vals.length
  · have hd := List.drop_eq_getElem_cons hlt
    have hlc : i < t.cols.length := by omega
    have hka : kindAt t i = t.cols[i].kind := kindAt_at rfl hlc
    rw [hd, fitAux, hka] at hsl
    repeat' first|refine yaG ?_|((first|apply yG|apply yH|apply yI);exact rfl;(first|exact yX (enc := encV) rfl rfl hk hlt rfl|exact yX (enc := encCol) rfl rfl hk hlc rfl))|((first|apply Go.pcallB|apply Go.spcallB|apply Qg.pcallB);(iterate 3 exact rfl);exact isOf_ok vals[i] t.cols[i].kind;intro _ _)|(exfalso;omega)|(refine yaS ?_ ?_<;>intro _)
    · rename_i b p k4
      refine .ret rfl (.bool ?_)
      rw [fitF, hsl, nbT p k4]
      simp
    · rename_i b p k4
      refine Go.keep [2, 13, 14, 15] (hrec _ _ _ (by omega) ⟨i + 1, _, rfl, hlt, wrap_succ hk (by omega), ?_, rfl, rfl⟩)
      rw [hsl, nbF p k4]
      rfl
  · repeat' first|refine yaG ?_|(exfalso;omega)|(refine yaS ?_ ?_<;>intro _)
    refine .ret rfl (.bool ?_)
    rw [fitF, hsl, List.drop_eq_nil_of_le (by omega), decide_eq_true hlen]
    rfl
theorem l4Kinds_ok (t : Table) (vals : List Val) (hx : vals.length ≤ 34359738368) : Pure Tryz.prog 178 [.agg (encTable t), .c (.fz (vals.map encV))] (.c (.bool (fitF t vals))) := by
  refine Pure.run mixed c_spec_l4Kinds_ok (Nat.le_of_ble_eq_true rfl) fun σ hS hA => ?_
  clear hS hA
  repeat' first|refine yaG ?_|(exfalso;omega)|(refine yaS ?_ ?_<;>intro _)
  · rename_i h
    refine .ret rfl (.bool ?_)
    rw [fitF, decide_eq_false h]
    rfl
  rename_i hlen
  have hlen : (vals.length : Int) = t.cols.length := by omega
  refine Go.keep [1, 2, 5] (Go.loops (I := fun m fr τ => ∃ i : Nat, ∃ k : Int, m = vals.length - i ∧ i ≤ vals.length ∧ k = i ∧ fitAux t 0 vals = fitAux t i (vals.drop i) ∧
    fr = [(1, .c (.fz (vals.map encV))), (2, .c (.fp (encTable t))), (5, .c (.int .i64 k))] ∧ τ = E σ []) ?_ _ _ _ ⟨0, _, rfl, Nat.zero_le _, rfl, rfl, rfl, rfl⟩)
  rintro m fr τ ⟨i, k, rfl, hi, hk, hsl, rfl, rfl⟩ hrec
  by_cases hlt : i < vals.length
  · have hd := List.drop_eq_getElem_cons hlt
    have hlc : i < t.cols.length := by omega
    have hka : kindAt t i = t.cols[i].kind := kindAt_at rfl hlc
    rw [hd, fitAux, hka] at hsl
    repeat' first|refine yaG ?_|((first|apply yG|apply yH|apply yI);exact rfl;(first|exact yX (enc := encV) rfl rfl hk hlt rfl|exact yX (enc := encCol) rfl rfl hk hlc rfl))|((first|apply Go.pcallB|apply Go.spcallB|apply Qg.pcallB);(iterate 3 exact rfl);exact sValOk_ok vals[i];intro _ _)|(exfalso;omega)|(refine yaS ?_ ?_<;>intro _)
    all_goals first
      | (refine .ret rfl (.bool ?_); rw [fitF, hsl, isOfF]; clear hrec hsl; simp_all; done)
      | (refine Go.keep [1, 2, 5] (hrec _ _ _ (by omega) ⟨i + 1, _, rfl, hlt, wrap_succ hk (by omega), ?_, rfl, rfl⟩); rw [hsl, isOfF]; clear hrec hsl; simp_all; done)
  · repeat' first|refine yaG ?_|(exfalso;omega)|(refine yaS ?_ ?_<;>intro _)
    refine .ret rfl (.bool ?_)
    rw [fitF, hsl, List.drop_eq_nil_of_le (by omega), decide_eq_true hlen]
    rfl
end Go.Proofs.YtdgnfdljkghpjaaGreat.Am

/- The laws' helpers on types, printed by a program: Data, Line, Save, Session. -/
set_option linter.unusedVariables false
set_option linter.unusedSimpArgs false
namespace Go.Proofs.YtdgnfdljkghpjaaGreat.Am
structure Data where
  rows : List RowD
  deriving DecidableEq
def encData (a : Data) : List Ce := [.fz (a.rows.map encRowD)]
def bData (N : Nat) (a : Data) : Prop := (a.rows.length ≤ N ∧ ∀ x ∈ a.rows, bRowD N x)
end Go.Proofs.YtdgnfdljkghpjaaGreat.Am

/- Databases: which are right, by the program and its reference. -/
set_option linter.unusedVariables false
set_option linter.unusedSimpArgs false
namespace Go.Proofs.YtdgnfdljkghpjaaGreat.Am

def risesId (p : Option Int) (n : Int) : Bool := match p with | none => true | some q => decide (q < n)
def rowOne (t : Table) (p : Option Int) (r : RowD) : Bool := isIn r.id 1 1000000000 && (risesId p r.id && fitF t r.vals)
def rowsAux (t : Table) : Option Int → List RowD → Bool
  | _, [] => true
  | p, r :: l => rowOne t p r && rowsAux t (some r.id) l
def rowsF (t : Table) (l : List RowD) : Bool := rowsAux t none l && decide ((l.length : Int) ≤ 60)
def dbAux : List Table → List Data → Bool
  | t :: s, d :: db => rowsF t d.rows && dbAux s db
  | _, _ => true
def dbF (s : List Table) (db : List Data) : Bool := schemaF s && (decide ((db.length : Int) = s.length) && dbAux s db)
theorem areRows_ok (t : Table) (l : List RowD) (hx : l.length ≤ 34359738368) (hb : ∀ r ∈ l, r.vals.length ≤ 34359738368) : Pure Tryz.prog 141 [.agg (encTable t), .c (.fz (l.map encRowD))] (.c (.bool (rowsF t l))) := by
  refine Pure.run mixed c_impl_areRows_ok (Nat.le_of_ble_eq_true rfl) fun σ hS hA => ?_
  clear hS hA
  repeat' first|refine yaG ?_|(exfalso;omega)|(refine yaS ?_ ?_<;>intro _)
  refine Go.keep [1, 2, 7, 8, 9] (Go.loops (I := fun m fr τ => ∃ (i : Nat) (k : Int) (p : Option Int), m = l.length - i ∧ i ≤ l.length ∧ k = i ∧ (rowsAux t none l = rowsAux t p (l.drop i) ∧ ((i = 0 ∧ p = none) ∨ ∃ j, ∃ hj : j < l.length, i = j + 1 ∧ p = some l[j].id)) ∧
    fr = [(1, .c (.fz (l.map encRowD))), (2, .c (.fp (encTable t))), (7, .c (.fz (l.map encRowD))), (8, .c (.int .i64 (l.length : Int))), (9, .c (.int .i64 k))] ∧ τ = E σ []) ?_ _ _ _ ⟨0, _, none, rfl, Nat.zero_le _, rfl, ⟨rfl, .inl ⟨rfl, rfl⟩⟩, rfl, rfl⟩)
  rintro m fr τ ⟨i, k, p, rfl, hi, hk, ⟨hs, hp⟩, rfl, rfl⟩ hrec
  by_cases hlt : i < l.length
  · have hv := hb _ (List.getElem_mem hlt)
    rw [List.drop_eq_getElem_cons hlt, rowsAux] at hs
    rcases hp with ⟨rfl, rfl⟩ | ⟨j, hj, rfl, rfl⟩
    · repeat' first|refine yaG ?_|((first|apply yG|apply yH|apply yI);exact rfl;(first|exact yX (enc := encRowD) rfl rfl hk hlt rfl))|((first|apply Go.pcallB|apply Go.spcallB|apply Qg.pcallB);(iterate 3 exact rfl);(first|exact in_ok _ _ _|exact fit_ok t l[0].vals hv);intro _ _)|(exfalso;omega)|(refine yaS ?_ ?_<;>intro _)
      all_goals first
        | (refine .ret rfl (.bool ?_); clear hrec; rw [rowsF, hs, rowOne, risesId]; clear hs; simp_all; done)
        | (refine Go.keep [1, 2, 7, 8, 9] (hrec _ _ _ (by omega) ⟨0 + 1, _, some l[0].id, rfl, hlt, wrap_succ hk (by omega), ⟨?_, .inr ⟨0, hlt, rfl, rfl⟩⟩, rfl, rfl⟩); clear hrec; rw [hs, rowOne, risesId]; clear hs; simp_all; done)
    · repeat' first|refine yaG ?_|((first|apply yG|apply yH|apply yI);exact rfl;(first|exact yX (enc := encRowD) rfl rfl hk hlt rfl|exact yX (enc := encRowD) rfl rfl (wrap_pred hk (by omega)) hj rfl))|((first|apply Go.pcallB|apply Go.spcallB|apply Qg.pcallB);(iterate 3 exact rfl);(first|exact in_ok _ _ _|exact fit_ok t l[j + 1].vals hv);intro _ _)|(exfalso;omega)|(refine yaS ?_ ?_<;>intro _)
      all_goals first
        | (refine .ret rfl (.bool ?_); clear hrec; rw [rowsF, hs, rowOne, risesId]; clear hs; (simp_all <;> intros <;> omega); done)
        | (refine Go.keep [1, 2, 7, 8, 9] (hrec _ _ _ (by omega) ⟨j + 1 + 1, _, some l[j + 1].id, rfl, hlt, wrap_succ hk (by omega), ⟨?_, .inr ⟨j + 1, hlt, rfl, rfl⟩⟩, rfl, rfl⟩); clear hrec; rw [hs, rowOne, risesId]; clear hs; (simp_all <;> intros <;> omega); done)
  · repeat' first|refine yaG ?_|(exfalso;omega)|(refine yaS ?_ ?_<;>intro _)
    refine .ret rfl (.bool ?_)
    rw [rowsF, hs, List.drop_eq_nil_of_le (by omega)]
    simp [rowsAux]
theorem DbOk_ok (s : List Table) (db : List Data) (hx : s.length ≤ 34359738368) (hb : ∀ t ∈ s, bTable 34359738368 t) (hd : db.length ≤ 34359738368) (hdb : ∀ d ∈ db, bData 34359738368 d) : Pure Tryz.prog 79 [.c (.fz (s.map encTable)), .c (.fz (db.map encData))] (.c (.bool (dbF s db))) := by
  refine Pure.run mixed c_impl_DbOk_ok (Nat.le_of_ble_eq_true rfl) fun σ hS hA => ?_
  clear hS hA
  have c1 := SchemaOk_ok s hx hb
  cases hs : schemaF s
  · rw [hs] at c1
    repeat' first|refine yaG ?_|refine yaC (c1) ?_|(exfalso;omega)|(refine yaS ?_ ?_<;>intro _)
    refine .ret rfl (.bool ?_)
    rw [dbF, hs]
    rfl
  rw [hs] at c1
  repeat' first|refine yaG ?_|refine yaC (c1) ?_|(exfalso;omega)|(refine yaS ?_ ?_<;>intro _)
  · rename_i h
    refine .ret rfl (.bool ?_)
    rw [dbF, hs, decide_eq_false h]
    rfl
  rename_i hl
  have hl : (db.length : Int) = s.length := by omega
  refine Go.keep [0, 17, 18, 19] (Go.loops (I := fun m fr τ => ∃ (i : Nat) (k : Int), m = db.length - i ∧ i ≤ db.length ∧ k = i ∧ dbAux s db = dbAux (s.drop i) (db.drop i) ∧
    fr = [(0, .c (.fz (s.map encTable))), (17, .c (.fz (db.map encData))), (18, .c (.int .i64 (db.length : Int))), (19, .c (.int .i64 k))] ∧ τ = E σ []) ?_ _ _ _ ⟨0, _, rfl, Nat.zero_le _, rfl, rfl, rfl, rfl⟩)
  rintro m fr τ ⟨i, k, rfl, hi, hk, hsl, rfl, rfl⟩ hrec
  clear c1
  by_cases hlt : i < db.length
  · have hlt2 : i < s.length := by omega
    have hbd := hdb _ (List.getElem_mem hlt)
    rw [List.drop_eq_getElem_cons hlt, List.drop_eq_getElem_cons hlt2, dbAux] at hsl
    repeat' first|refine yaG ?_|((first|apply yG|apply yH|apply yI);exact rfl;(first|exact yX (enc := encData) rfl rfl hk hlt rfl|exact yX (enc := encTable) rfl rfl hk hlt2 rfl))|((first|apply Go.pcallB|apply Go.spcallB|apply Qg.pcallB);(iterate 3 exact rfl);exact areRows_ok s[i] db[i].rows hbd.1 (fun r hr => (hbd.2 r hr).1);intro _ _)|(exfalso;omega)|(refine yaS ?_ ?_<;>intro _)
    · rename_i b p h
      refine .ret rfl (.bool ?_)
      rw [dbF, hsl, nbT p h]
      simp
    · rename_i b p h
      refine Go.keep [0, 17, 18, 19] (hrec _ _ _ (by omega) ⟨i + 1, _, rfl, hlt, wrap_succ hk (by omega), ?_, rfl, rfl⟩)
      rw [hsl, nbF p h, Bool.true_and]
  · repeat' first|refine yaG ?_|(exfalso;omega)|(refine yaS ?_ ?_<;>intro _)
    refine .ret rfl (.bool ?_)
    rw [dbF, hs, hsl, decide_eq_true hl, show db.drop i = [] from List.drop_eq_nil_of_le (by omega)]
    cases List.drop i s <;> rfl
theorem l4Db_ok (s : List Table) (db : List Data) (hx : s.length ≤ 34359738368) (hd : db.length ≤ 34359738368) (hdb : ∀ d ∈ db, bData 34359738368 d) : Pure Tryz.prog 199 [.c (.fz (s.map encTable)), .c (.fz (db.map encData))] (.c (.bool (decide ((db.length : Int) = s.length) && dbAux s db))) := by
  refine Pure.run mixed c_spec_l4Db_ok (Nat.le_of_ble_eq_true rfl) fun σ hS hA => ?_
  clear hS hA
  repeat' first|refine yaG ?_|(exfalso;omega)|(refine yaS ?_ ?_<;>intro _)
  · rename_i h
    refine .ret rfl (.bool ?_)
    rw [decide_eq_false h]
    rfl
  rename_i hl
  have hl : (db.length : Int) = s.length := by omega
  refine Go.keep [0, 1, 5] (Go.loops (I := fun m fr τ => ∃ (i : Nat) (k : Int), m = db.length - i ∧ i ≤ db.length ∧ k = i ∧ dbAux s db = dbAux (s.drop i) (db.drop i) ∧
    fr = [(0, .c (.fz (s.map encTable))), (1, .c (.fz (db.map encData))), (5, .c (.int .i64 k))] ∧ τ = E σ []) ?_ _ _ _ ⟨0, _, rfl, Nat.zero_le _, rfl, rfl, rfl, rfl⟩)
  rintro m fr τ ⟨i, k, rfl, hi, hk, hsl, rfl, rfl⟩ hrec
  by_cases hlt : i < db.length
  · have hlt2 : i < s.length := by omega
    have hbd := hdb _ (List.getElem_mem hlt)
    rw [List.drop_eq_getElem_cons hlt, List.drop_eq_getElem_cons hlt2, dbAux, rowsF] at hsl
    obtain ⟨l, hle⟩ : ∃ l, db[i].rows = l := ⟨_, rfl⟩
    have hrl : l.length ≤ 34359738368 := by rw [← hle]; exact hbd.1
    have hrv : ∀ r ∈ l, r.vals.length ≤ 34359738368 := by rw [← hle]; exact fun r hr => (hbd.2 r hr).1
    repeat' first|refine yaG ?_|((first|apply yG|apply yH|apply yI);exact rfl;(first|exact yX (enc := encData) rfl rfl hk hlt rfl))|(exfalso;omega)|(refine yaS ?_ ?_<;>intro _)
    rw [hle] at hsl ⊢
    refine Go.keep [0, 1, 5, 6, 7] (Go.loops (I := fun m fr τ => ∃ (j : Nat) (q : Int) (p : Option Int), m = l.length - j ∧ j ≤ l.length ∧ q = j ∧ (rowsAux s[i] none l = rowsAux s[i] p (l.drop j) ∧ ((j = 0 ∧ p = none) ∨ ∃ a, ∃ ha : a < l.length, j = a + 1 ∧ p = some l[a].id)) ∧
      fr = [(0, .c (.fz (s.map encTable))), (1, .c (.fz (db.map encData))), (5, .c (.int .i64 k)), (6, .c (.fz (l.map encRowD))), (7, .c (.int .i64 q))] ∧ τ = E σ []) ?_ _ _ _ ⟨0, _, none, rfl, Nat.zero_le _, rfl, ⟨rfl, .inl ⟨rfl, rfl⟩⟩, rfl, rfl⟩)
    rintro m fr τ ⟨j, q, p, rfl, hj, hq, ⟨hs2, hp⟩, rfl, rfl⟩ hrec2
    by_cases hlj : j < l.length
    · have hv := hrv _ (List.getElem_mem hlj)
      rw [List.drop_eq_getElem_cons hlj, rowsAux] at hs2
      clear hrec
      rcases hp with ⟨rfl, rfl⟩ | ⟨a, ha, rfl, rfl⟩
      · repeat' first|refine yaG ?_|((first|apply yG|apply yH|apply yI);exact rfl;(first|exact yX (enc := encRowD) rfl rfl hq hlj rfl|exact yX (enc := encTable) rfl rfl hk hlt2 rfl))|((first|apply Go.pcallB|apply Go.spcallB|apply Qg.pcallB);(iterate 3 exact rfl);(first|exact l1In_ok _ _ _|exact l4Kinds_ok s[i] l[0].vals hv);intro _ _)|(exfalso;omega)|(refine yaS ?_ ?_<;>intro _)
        all_goals first
          | (refine .ret rfl (.bool ?_); clear hrec2; rw [hsl, hs2, rowOne, risesId]; clear hs2 hsl; simp_all; done)
          | (refine Go.keep [0, 1, 5, 6, 7] (hrec2 _ _ _ (by omega) ⟨0 + 1, _, some l[0].id, rfl, hlj, wrap_succ hq (by omega), ⟨?_, .inr ⟨0, hlj, rfl, rfl⟩⟩, rfl, rfl⟩); clear hrec2; rw [hs2, rowOne, risesId]; clear hs2 hsl; simp_all; done)
      · repeat' first|refine yaG ?_|((first|apply yG|apply yH|apply yI);exact rfl;(first|exact yX (enc := encRowD) rfl rfl hq hlj rfl|exact yX (enc := encRowD) rfl rfl (wrap_pred hq (by omega)) ha rfl|exact yX (enc := encTable) rfl rfl hk hlt2 rfl))|((first|apply Go.pcallB|apply Go.spcallB|apply Qg.pcallB);(iterate 3 exact rfl);(first|exact l1In_ok _ _ _|exact l4Kinds_ok s[i] l[a + 1].vals hv);intro _ _)|(exfalso;omega)|(refine yaS ?_ ?_<;>intro _)
        all_goals first
          | (refine .ret rfl (.bool ?_); clear hrec2; rw [hsl, hs2, rowOne, risesId]; clear hs2 hsl; (simp_all <;> intros <;> omega); done)
          | (refine Go.keep [0, 1, 5, 6, 7] (hrec2 _ _ _ (by omega) ⟨a + 1 + 1, _, some l[a + 1].id, rfl, hlj, wrap_succ hq (by omega), ⟨?_, .inr ⟨a + 1, hlj, rfl, rfl⟩⟩, rfl, rfl⟩); clear hrec2; rw [hs2, rowOne, risesId]; clear hs2 hsl; (simp_all <;> intros <;> omega); done)
    · clear hrec2
      rw [List.drop_eq_nil_of_le (by omega), rowsAux] at hs2
      repeat' first|refine yaG ?_|(exfalso;omega)|(refine yaS ?_ ?_<;>intro _)
      · rename_i h
        refine .ret rfl (.bool ?_)
        rw [hsl, hs2, decide_eq_false (p := (l.length : Int) ≤ 60) (by omega)]
        simp
      · rename_i h
        refine Go.keep [0, 1, 5] (hrec _ _ _ (by omega) ⟨i + 1, _, rfl, hlt, wrap_succ hk (by omega), ?_, rfl, rfl⟩)
        rw [hsl, hs2, decide_eq_true (p := (l.length : Int) ≤ 60) (by omega)]
        rfl
  · repeat' first|refine yaG ?_|(exfalso;omega)|(refine yaS ?_ ?_<;>intro _)
    refine .ret rfl (.bool ?_)
    rw [hsl, decide_eq_true hl, show db.drop i = [] from List.drop_eq_nil_of_le (by omega)]
    cases List.drop i s <;> rfl
theorem sDbOk_ok (s : List Table) (db : List Data) (hx : s.length ≤ 34359738368) (hb : ∀ t ∈ s, bTable 34359738368 t) (hd : db.length ≤ 34359738368) (hdb : ∀ d ∈ db, bData 34359738368 d) : Pure Tryz.prog 146 [.c (.fz (s.map encTable)), .c (.fz (db.map encData))] (.c (.bool (dbF s db))) := by
  refine Pure.run mixed c_spec_DbOk_ok (Nat.le_of_ble_eq_true rfl) fun σ hS hA => ?_
  clear hS hA
  have c1 := sSchemaOk_ok s hx hb
  have c2 := l4Db_ok s db hx hd hdb
  rw [dbF]
  generalize (decide ((db.length : Int) = s.length) && dbAux s db) = B at c2 ⊢
  cases hs : schemaF s
  · rw [hs] at c1
    repeat' first|refine yaG ?_|refine yaC (c1) ?_|(exfalso;omega)|(refine yaS ?_ ?_<;>intro _)
    exact .ret rfl (.bool rfl)
  · rw [hs] at c1
    repeat' first|refine yaG ?_|refine yaC (c1) ?_|refine yaC (c2) ?_|(exfalso;omega)|(refine yaS ?_ ?_<;>intro _)
    exact .ret rfl (.bool rfl)
theorem isTable_ok (s : List Table) (n : Int) (hx : s.length ≤ 34359738368) : Pure Tryz.prog 142 [.c (.fz (s.map encTable)), .c (.int .i64 n)] (.c (.bool (isIn n 0 (s.length - 1)))) := by
  refine Pure.run mixed c_impl_isTable_ok (Nat.le_of_ble_eq_true rfl) fun σ hS hA => ?_
  clear hS hA
  repeat' first|refine yaG ?_|((first|apply yQ|apply yR|apply yS);(iterate 3 exact rfl);exact in_ok _ _ _)|(exfalso;omega)|(refine yaS ?_ ?_<;>intro _)
  refine .ret rfl (.bool ?_)
  rw [wrap64 (by omega) (by omega)]
theorem l6Ok_ok (s : List Table) (db : List Data) (n : Int) (hx : s.length ≤ 34359738368) (hb : ∀ t ∈ s, bTable 34359738368 t) (hd : db.length ≤ 34359738368) (hdb : ∀ d ∈ db, bData 34359738368 d) : Pure Tryz.prog 83 [.c (.fz (s.map encTable)), .c (.fz (db.map encData)), .c (.int .i64 n)] (.c (.bool (dbF s db && isIn n 0 (s.length - 1)))) := by
  refine Pure.run mixed c_spec_l6Ok_ok (Nat.le_of_ble_eq_true rfl) fun σ hS hA => ?_
  clear hS hA
  have c1 := sDbOk_ok s db hx hb hd hdb
  have hw : IntKind.i64.wrap ((s.length : Int) - 1) = s.length - 1 := wrap64 (by omega) (by omega)
  cases hs : dbF s db
  · rw [hs] at c1
    repeat' first|refine yaG ?_|refine yaC (c1) ?_|(exfalso;omega)|(refine yaS ?_ ?_<;>intro _)
    exact .ret rfl (.bool rfl)
  · rw [hs] at c1
    repeat' first|refine yaG ?_|refine yaC (c1) ?_|((first|apply yQ|apply yR|apply yS);(iterate 3 exact rfl);exact l1In_ok _ _ _)|(exfalso;omega)|(refine yaS ?_ ?_<;>intro _)
    refine .ret rfl (.bool ?_)
    rw [hw]
    rfl
/-- What a right database is like. -/
theorem dbF_at {s : List Table} {db : List Data} (h : dbF s db = true) : schemaF s = true ∧ db.length = s.length ∧ ∀ i (hi : i < s.length) (hi2 : i < db.length), rowsF s[i] db[i].rows = true := by
  simp only [dbF, Bool.and_eq_true, decide_eq_true_eq] at h
  obtain ⟨h1, h2, h3⟩ := h
  refine ⟨h1, by omega, ?_⟩
  clear h1 h2
  induction s generalizing db with
  | nil => intro i hi; simp at hi
  | cons t s ih =>
    cases db with
    | nil => intro i _ hi; simp at hi
    | cons d db =>
      rw [dbAux, Bool.and_eq_true] at h3
      intro i hi hi2
      cases i with
      | zero => exact h3.1
      | succ i => exact ih h3.2 i (by simpa using hi) (by simpa using hi2)
theorem rowsAux_mem {t : Table} : ∀ {l : List RowD} {p : Option Int}, rowsAux t p l = true → ∀ r ∈ l, fitF t r.vals = true ∧ isIn r.id 1 1000000000 = true
  | [], _, _, r, hr => by simp at hr
  | a :: l, p, h, r, hr => by
    simp only [rowsAux, rowOne, Bool.and_eq_true] at h
    rcases List.mem_cons.1 hr with rfl | hr
    · exact ⟨h.1.2.2, h.1.1⟩
    · exact rowsAux_mem h.2 r hr
theorem rowsF_mem {t : Table} {l : List RowD} (h : rowsF t l = true) : l.length ≤ 60 ∧ ∀ r ∈ l, fitF t r.vals = true ∧ isIn r.id 1 1000000000 = true := by
  simp only [rowsF, Bool.and_eq_true, decide_eq_true_eq] at h
  exact ⟨by omega, rowsAux_mem h.1⟩
theorem fitAux_ok {t : Table} : ∀ {l : List Val} {i : Nat}, fitAux t i l = true → ∀ v ∈ l, okVal v = true
  | [], _, _, v, hv => by simp at hv
  | a :: l, i, h, v, hv => by
    simp only [fitAux, isOfF, Bool.and_eq_true] at h
    rcases List.mem_cons.1 hv with rfl | hv
    · exact h.1.1
    · exact fitAux_ok h.2 v hv
theorem fitF_vals {t : Table} {l : List Val} (h : fitF t l = true) : l.length = t.cols.length ∧ ∀ v ∈ l, okVal v = true := by
  simp only [fitF, Bool.and_eq_true, decide_eq_true_eq] at h
  exact ⟨by omega, fitAux_ok h.2⟩
theorem fitF_are {t : Table} {l : List Val} (h : fitF t l = true) (hc : t.cols.length ≤ 8) : areVals l 16 = true := by
  obtain ⟨h1, h2⟩ := fitF_vals h
  simp only [areVals, Bool.and_eq_true, decide_eq_true_eq, List.all_eq_true]
  exact ⟨by omega, h2⟩
end Go.Proofs.YtdgnfdljkghpjaaGreat.Am

/- Marks by fields, and how many marks a value takes. -/
set_option linter.unusedVariables false
set_option linter.unusedSimpArgs false
namespace Go.Proofs.YtdgnfdljkghpjaaGreat.Am

/-- One cell of one element is written. -/
theorem Has.wr {σ : Store} {S : Nat → Prop} {zs : List (List Ce)} {e : List Ce} {id v n c i j : Nat} (h : Has σ S (.fz (zs.set i e)) (.sl id v 0 n c)) (hi : i < zs.length) (hj : j < e.length) :
    ∃ (es : List (List Ce)) (e' : List Ce), σ.get id = some (v, es) ∧ es[0 + i]? = some e' ∧ e'.length = e.length ∧ S id ∧
      ∀ z, Flat z → Has (σ.put id (v, es.set (0 + i) (splice e' (0 + j) [z]))) S (.fz (zs.set i (e.set j z))) (.sl id v 0 n c) ∧
        (∀ a, ¬ S a → (σ.put id (v, es.set (0 + i) (splice e' (0 + j) [z]))).get a = σ.get a) ∧ (σ.put id (v, es.set (0 + i) (splice e' (0 + j) [z]))).next = σ.next := by
  have hi' : i < (zs.set i e).length := by simpa using hi
  have hii : (zs.set i e)[i] = e := by simp
  obtain ⟨id1, v1, c1, es, e', hx, hg, he, hel, hS, hw⟩ := h.write (i := i) (j := j) hi' (by rw [hii]; exact hj)
  obtain ⟨rfl, rfl, -⟩ := sl_inj hx
  refine ⟨es, e', hg, he, by rw [hel, hii], hS, fun z hz => ⟨?_, fun a ha => put_off hS a ha, rfl⟩⟩
  have := hw z hz
  rw [List.set_set, hii] at this
  exact this
/-- A child of one element is given to a call. -/
theorem Has.ch {σ : Store} {S : Nat → Prop} {zs : List (List Ce)} {e : List Ce} {y : Ce} {id v n c i j : Nat} (h : Has σ S (.fz (zs.set i e)) (.sl id v 0 n c)) (hi : i < zs.length) (hj : j < e.length) (hy : e[j] = y) :
    ∃ (es : List (List Ce)) (e' : List Ce) (T : Nat → Prop), σ.get id = some (v, es) ∧ es[0 + i]? = some e' ∧ e'.length = e.length ∧ (∀ a, T a → S a) ∧
      ∃ hj' : j < e'.length, Has σ T y e'[j] ∧ ∀ σ' y', (∀ a, ¬ T a → σ'.get a = σ.get a) → Has σ' T y' e'[j] → Has σ' S (.fz (zs.set i (e.set j y'))) (.sl id v 0 n c) := by
  have hi' : i < (zs.set i e).length := by simpa using hi
  have hii : (zs.set i e)[i] = e := by simp
  obtain ⟨id1, v1, c1, es, e', T, hx, hg, he, hel, hTS, hj', hch, hback⟩ := h.child (i := i) (j := j) hi' (by rw [hii]; exact hj)
  obtain ⟨rfl, rfl, -⟩ := sl_inj hx
  subst hy
  refine ⟨es, e', T, hg, he, by rw [hel, hii], hTS, hj', ?_, fun σ' y' hf hh => ?_⟩
  · have e0 : (zs.set i e)[i][j]'(by rw [hii]; exact hj) = e[j] := by simp
    rw [← e0]
    exact hch
  · have := hback σ' y' hf hh
    rw [List.set_set, hii] at this
    exact this
end Go.Proofs.YtdgnfdljkghpjaaGreat.Am

/- The laws' helpers on types, printed by a program: Tok, Check, Unique, Fk, Col. -/
set_option linter.unusedVariables false
set_option linter.unusedSimpArgs false
namespace Go.Proofs.YtdgnfdljkghpjaaGreat.Am
end Go.Proofs.YtdgnfdljkghpjaaGreat.Am

/- The laws' helpers on types, printed by a program: Row, Data, Line. -/
set_option linter.unusedVariables false
set_option linter.unusedSimpArgs false
namespace Go.Proofs.YtdgnfdljkghpjaaGreat.Am
end Go.Proofs.YtdgnfdljkghpjaaGreat.Am

/- The laws' helpers on types, printed by a program: Table, Term, Trigger. -/
set_option linter.unusedVariables false
set_option linter.unusedSimpArgs false
namespace Go.Proofs.YtdgnfdljkghpjaaGreat.Am
end Go.Proofs.YtdgnfdljkghpjaaGreat.Am

/- What the laws with marks have in common. -/
set_option linter.unusedVariables false
set_option linter.unusedSimpArgs false
namespace Go.Proofs.YtdgnfdljkghpjaaGreat.Am

theorem aop_neB {fr : Fr} {σ : Store} {x y : Opd} {b : Bool} (hx : x.ev fr = some (.c (.bool b))) (hy : y.ev fr = some (.c (.bool b))) : aop (.eq true false [.b] x y) fr σ = some (.c (.bool false), σ) := by
  cases b <;> simp [aop, hx, hy, eqKs, eqK]
theorem solid_end {σ : Store} {τ : Store} {b : Bool} : FrzV τ σ.next (.c (.bool b)) (.c (.bool b)) := .refl (by intro y hy; simp [AV.all] at hy; subst hy; exact .bool _)
theorem has_flat {σ : Store} {S : Nat → Prop} {y x : Ce} (hf : Flat y) (h : Has σ S y x) : x = y := by
  cases hf <;> (cases h; rfl)
theorem hasV_flat {σ : Store} {S : Nat → Prop} {y : Ce} {x : AV} (hf : Flat y) (h : HasV σ S (.c y) x) : x = .c y := by
  cases h with
  | c h => rw [has_flat hf h]
theorem newtup_open {σ τ : Store} {ys : List AV} {r : AV} (h : NewV σ (.tup ys) r τ) : ∃ xs, ∃ U : Nat → Nat → Prop, ∃ hl : xs.length = ys.length, r = .tup xs ∧ Gr σ τ ∧ (∀ i a, U i a → σ.next ≤ a ∧ a < τ.next) ∧ ∀ i (hy : i < ys.length) (hx : i < xs.length), HasV τ (U i) ys[i] xs[i] := by
  obtain ⟨hg, hh⟩ := h
  generalize hy0 : AV.tup ys = y0 at hh
  cases hh with
  | c h => cases hy0
  | agg h => cases hy0
  | @tup S ys' xs U hl hU hd h =>
    injection hy0 with hy0
    subst hy0
    exact ⟨xs, U, hl, rfl, hg, fun i a ha => hU i a ha, h⟩
theorem new2_open {σ τ : Store} {y f : Ce} {r : AV} (hf : Flat f) (h : NewV σ (.tup [.c y, .c f]) r τ) : ∃ x, r = .tup [.c x, .c f] ∧ Gr σ τ ∧ Has τ (fun a => σ.next ≤ a ∧ a < τ.next) y x := by
  obtain ⟨xs, U, hl, rfl, hg, hU, h⟩ := newtup_open h
  match xs, hl with
  | [x1, x2], _ =>
    have h1 := h 0 (by simp) (by simp)
    have h2 := h 1 (by simp) (by simp)
    simp only [List.getElem_cons_zero, List.getElem_cons_succ] at h1 h2
    obtain rfl := hasV_flat hf h2
    cases h1 with
    | c h1 => exact ⟨_, rfl, hg, h1.mono fun a ha => hU 0 a ha⟩
theorem hv_flat {τ : Store} {S : Nat → Prop} {f : Ce} (h : Flat f) : HasV τ S (.c f) (.c f) := .c (.c h)
theorem newPair {σ τ : Store} {y x f : Ce} (hf : Flat f) (h : NewV σ (.c y) (.c x) τ) : NewV σ (.tup [.c y, .c f]) (.tup [.c x, .c f]) τ :=
  ⟨h.1, .pair h.2 (hv_flat (S := fun _ => False) hf) (fun _ h => h) (fun _ h => h.elim) (fun _ _ h => h)⟩
theorem newVec {σ : Store} {v : Nat} {s : Nat} {ys junk : List (List Ce)} (hy : ∀ e ∈ ys, e.length = s ∧ ∀ x ∈ e, Flat x) (hj : Jk s junk) : NewV σ (.c (.fz ys)) (.c (vec (σ.next + 0) v ys junk)) (E σ [(v, ys ++ junk)]) :=
  (Made.new hy (r := .c (vec (σ.next + 0) v ys junk)) ⟨v, junk, hj, rfl, rfl⟩).v
end Go.Proofs.YtdgnfdljkghpjaaGreat.Am

/- Rows that match: the program and its reference. -/
set_option linter.unusedVariables false
set_option linter.unusedSimpArgs false
namespace Go.Proofs.YtdgnfdljkghpjaaGreat.Am

theorem flatIs {xs : List Int} : ∀ e ∈ xs.map encI, e.length = 1 ∧ ∀ x ∈ e, Flat x := flatI xs
def rowsAt (db : List Data) (n : Int) : List RowD := match db[n.toNat]? with | some d => d.rows | none => []
def colsAt (s : List Table) (n : Int) : Nat := match s[n.toNat]? with | some t => t.cols.length | none => 0
theorem isIn_at {n m : Int} (h : isIn n 0 (m - 1) = true) : 0 ≤ n ∧ n < m := by
  simp only [isIn, Bool.and_eq_true, decide_eq_true_eq] at h
  omega
end Go.Proofs.YtdgnfdljkghpjaaGreat.Am

/- Keys of rows; rows that have a key. -/
set_option linter.unusedVariables false
set_option linter.unusedSimpArgs false
namespace Go.Proofs.YtdgnfdljkghpjaaGreat.Am

def valAt (vals : List Val) (c : Int) : Val := vals[c.toNat]?.getD vNull
def keyF (cols : List Int) (vals : List Val) : List Val := cols.map (valAt vals)
def wholeF (cols : List Int) (vals : List Val) : Bool := cols.all fun c => !((valAt vals c).k == 0)
def InR (cols : List Int) (n : Nat) : Prop := ∀ c ∈ cols, 0 ≤ c ∧ c < n
theorem valAt_eq {vals : List Val} {c : Int} (h : c.toNat < vals.length) : valAt vals c = vals[c.toNat] := by rw [valAt, List.getElem?_eq_getElem h]; rfl
theorem keyF_len (cols : List Int) (vals : List Val) : (keyF cols vals).length = cols.length := List.length_map _
theorem keyF_take {cols : List Int} {vals : List Val} {i : Nat} (h : i < cols.length) : keyF (cols.take (i + 1)) vals = keyF (cols.take i) vals ++ [valAt vals cols[i]] := by
  rw [List.take_succ_eq_append_getElem h, keyF, List.map_append]; rfl
theorem wholeF_take {cols : List Int} {vals : List Val} {i : Nat} (h : i < cols.length) : wholeF (cols.take (i + 1)) vals = (wholeF (cols.take i) vals && !((valAt vals cols[i]).k == 0)) := by
  rw [List.take_succ_eq_append_getElem h, wholeF, List.all_append, wholeF, List.all_cons, List.all_nil, Bool.and_true]
theorem keyOf_new (cols : List Int) (vals : List Val) (hx : cols.length ≤ 34359738368) (hi : InR cols vals.length) (σ : Store) : Ok Tryz.prog 81 [.c (.fz (cols.map encI)), .c (.fz (vals.map encV))] σ (NewV σ (.tup [.c (.fz ((keyF cols vals).map encV)), .c (.bool (wholeF cols vals))])) := by
  refine Ok.run mixed c_impl_keyOf_ok (Nat.le_of_ble_eq_true rfl) fun hS hA => ?_
  clear hS hA
  repeat' first|refine yaG ?_|(exfalso;omega)|(refine yaS ?_ ?_<;>intro _)
  refine Go.keep [1, 6, 7, 11, 12, 13] (Go.loops (I := fun m fr τ => ∃ (i : Nat) (k : Int) (v : Nat) (junk : List (List Ce)) (ks : List Val) (b : Bool), m = cols.length - i ∧ i ≤ cols.length ∧ k = i ∧ Jk 3 junk ∧ (ks = keyF (cols.take i) vals ∧ b = wholeF (cols.take i) vals) ∧
    fr = [(1, .c (.fz (vals.map encV))), (6, .c (vec (σ.next + 0) v (ks.map encV) junk)), (7, .c (.bool b)), (11, .c (.fz (cols.map encI))), (12, .c (.int .i64 (cols.length : Int))), (13, .c (.int .i64 k))] ∧ τ = E σ [(v, ks.map encV ++ junk)]) ?_ _ _ _ ⟨0, _, 0, [], [], true, rfl, Nat.zero_le _, rfl, Jk.nil, ⟨rfl, rfl⟩, rfl, rfl⟩)
  rintro m fr τ ⟨i, k, v, junk, ks, b, rfl, hile, hk, hj, ⟨hks, hb⟩, rfl, rfl⟩ hrec
  by_cases hlt : i < cols.length
  · obtain ⟨q1, q2⟩ := hi _ (List.getElem_mem hlt)
    have hc : cols[i] = (cols[i].toNat : Int) := by omega
    have hcl : cols[i].toNat < vals.length := by omega
    have hv := valAt_eq hcl
    have hkl : (ks.map encV).length = i := by rw [List.length_map, hks, keyF_len, List.length_take]; omega
    have hbd : ((ks.map encV).length + 1) * 32 ≤ 140737488355328 := by omega
    have e1 : ks.map encV ++ [encV vals[cols[i].toNat]] = (ks ++ [vals[cols[i].toNat]]).map encV := by simp
    have hk2 : ks ++ [vals[cols[i].toNat]] = keyF (cols.take (i + 1)) vals := by rw [keyF_take hlt, ← hks, hv]
    have hw2 := wholeF_take (vals := vals) hlt
    rw [← hb, hv] at hw2
    cases b
    · repeat' first|refine yaG ?_|((first|apply yG|apply yH|apply yI);exact rfl;(first|exact yX (enc := encI) rfl rfl hk hlt rfl|exact yX (enc := encV) rfl rfl hc hcl rfl))|(apply Go.app1;exact rfl;exact rfl;exact rfl;exact rfl;exact rfl;exact lens;exact hj;exact rfl;exact hbd;intro v' junk' hj')|(exfalso;omega)|(refine yaS ?_ ?_<;>intro _)
      refine Go.keep [1, 6, 7, 11, 12, 13] (hrec _ _ _ (by omega) ⟨i + 1, _, v', junk', ks ++ [vals[cols[i].toNat]], _, rfl, hlt, wrap_succ hk (by omega), hj', ⟨hk2, hw2.symm⟩, ?_, ?_⟩)
      · rw [← e1]; rfl
      · rw [← e1]; rfl
    · repeat' first|refine yaG ?_|((first|apply yG|apply yH|apply yI);exact rfl;(first|exact yX (enc := encI) rfl rfl hk hlt rfl|exact yX (enc := encV) rfl rfl hc hcl rfl))|(apply Go.app1;exact rfl;exact rfl;exact rfl;exact rfl;exact rfl;exact lens;exact hj;exact rfl;exact hbd;intro v' junk' hj')|(exfalso;omega)|(refine yaS ?_ ?_<;>intro _)
      refine Go.keep [1, 6, 7, 11, 12, 13] (hrec _ _ _ (by omega) ⟨i + 1, _, v', junk', ks ++ [vals[cols[i].toNat]], vals[cols[i].toNat].k != 0, rfl, hlt, wrap_succ hk (by omega), hj', ⟨hk2, hw2.symm⟩, ?_, ?_⟩)
      · rw [← e1]; rfl
      · rw [← e1]; rfl
  · repeat' first|refine yaG ?_|(exfalso;omega)|(refine yaS ?_ ?_<;>intro _)
    refine .ret rfl ?_
    rw [List.take_of_length_le (by omega)] at hks hb
    rw [← hks, ← hb]
    exact newPair (.bool _) (newVec clean_append hj)
theorem keyOf_ok (cols : List Int) (vals : List Val) (hx : cols.length ≤ 34359738368) (hi : InR cols vals.length) : Pure Tryz.prog 81 [.c (.fz (cols.map encI)), .c (.fz (vals.map encV))] (.tup [.c (.fz ((keyF cols vals).map encV)), .c (.bool (wholeF cols vals))]) := NewV.pure (keyOf_new cols vals hx hi)
theorem l4Key_new (cols : List Int) (vals : List Val) (hx : cols.length ≤ 34359738368) (hi : InR cols vals.length) (σ : Store) : Ok Tryz.prog 148 [.c (.fz (cols.map encI)), .c (.fz (vals.map encV))] σ (NewV σ (.tup [.c (.fz ((keyF cols vals).map encV)), .c (.bool (wholeF cols vals))])) := by
  refine Ok.run mixed c_spec_l4Key_ok (Nat.le_of_ble_eq_true rfl) fun hS hA => ?_
  clear hS hA
  repeat' first|refine yaG ?_|(exfalso;omega)|(refine yaS ?_ ?_<;>intro _)
  refine Go.keep [0, 1, 6, 7, 8] (Go.loops (I := fun m fr τ => ∃ (i : Nat) (k : Int) (v : Nat) (junk : List (List Ce)) (ks : List Val) (b : Bool), m = cols.length - i ∧ i ≤ cols.length ∧ k = i ∧ Jk 3 junk ∧ (ks = keyF (cols.take i) vals ∧ b = wholeF (cols.take i) vals) ∧
    fr = [(0, .c (.fz (cols.map encI))), (1, .c (.fz (vals.map encV))), (6, .c (vec (σ.next + 0) v (ks.map encV) junk)), (7, .c (.bool b)), (8, .c (.int .i64 k))] ∧ τ = E σ [(v, ks.map encV ++ junk)]) ?_ _ _ _ ⟨0, _, 0, [], [], true, rfl, Nat.zero_le _, rfl, Jk.nil, ⟨rfl, rfl⟩, rfl, rfl⟩)
  rintro m fr τ ⟨i, k, v, junk, ks, b, rfl, hile, hk, hj, ⟨hks, hb⟩, rfl, rfl⟩ hrec
  by_cases hlt : i < cols.length
  · obtain ⟨q1, q2⟩ := hi _ (List.getElem_mem hlt)
    have hc : cols[i] = (cols[i].toNat : Int) := by omega
    have hcl : cols[i].toNat < vals.length := by omega
    have hv := valAt_eq hcl
    have hkl : (ks.map encV).length = i := by rw [List.length_map, hks, keyF_len, List.length_take]; omega
    have hbd : ((ks.map encV).length + 1) * 32 ≤ 140737488355328 := by omega
    have e1 : ks.map encV ++ [encV vals[cols[i].toNat]] = (ks ++ [vals[cols[i].toNat]]).map encV := by simp
    have hk2 : ks ++ [vals[cols[i].toNat]] = keyF (cols.take (i + 1)) vals := by rw [keyF_take hlt, ← hks, hv]
    have hw2 := wholeF_take (vals := vals) hlt
    rw [← hb, hv] at hw2
    cases b
    · repeat' first|refine yaG ?_|((first|apply yG|apply yH|apply yI);exact rfl;(first|exact yX (enc := encI) rfl rfl hk hlt rfl|exact yX (enc := encV) rfl rfl hc hcl rfl))|(apply Go.app1;exact rfl;exact rfl;exact rfl;exact rfl;exact rfl;exact lens;exact hj;exact rfl;exact hbd;intro v' junk' hj')|(exfalso;omega)|(refine yaS ?_ ?_<;>intro _)
      refine Go.keep [0, 1, 6, 7, 8] (hrec _ _ _ (by omega) ⟨i + 1, _, v', junk', ks ++ [vals[cols[i].toNat]], _, rfl, hlt, wrap_succ hk (by omega), hj', ⟨hk2, hw2.symm⟩, ?_, ?_⟩)
      · rw [← e1]; rfl
      · rw [← e1]; rfl
    · repeat' first|refine yaG ?_|((first|apply yG|apply yH|apply yI);exact rfl;(first|exact yX (enc := encI) rfl rfl hk hlt rfl|exact yX (enc := encV) rfl rfl hc hcl rfl))|(apply Go.app1;exact rfl;exact rfl;exact rfl;exact rfl;exact rfl;exact lens;exact hj;exact rfl;exact hbd;intro v' junk' hj')|(exfalso;omega)|(refine yaS ?_ ?_<;>intro _)
      refine Go.keep [0, 1, 6, 7, 8] (hrec _ _ _ (by omega) ⟨i + 1, _, v', junk', ks ++ [vals[cols[i].toNat]], vals[cols[i].toNat].k != 0, rfl, hlt, wrap_succ hk (by omega), hj', ⟨hk2, hw2.symm⟩, ?_, ?_⟩)
      · rw [← e1]; rfl
      · rw [← e1]; rfl
  · repeat' first|refine yaG ?_|(exfalso;omega)|(refine yaS ?_ ?_<;>intro _)
    refine .ret rfl ?_
    rw [List.take_of_length_le (by omega)] at hks hb
    rw [← hks, ← hb]
    exact newPair (.bool _) (newVec clean_append hj)
theorem l4Key_ok (cols : List Int) (vals : List Val) (hx : cols.length ≤ 34359738368) (hi : InR cols vals.length) : Pure Tryz.prog 148 [.c (.fz (cols.map encI)), .c (.fz (vals.map encV))] (.tup [.c (.fz ((keyF cols vals).map encV)), .c (.bool (wholeF cols vals))]) := NewV.pure (l4Key_new cols vals hx hi)
end Go.Proofs.YtdgnfdljkghpjaaGreat.Am

/- Rows that have a key. -/
set_option linter.unusedVariables false
set_option linter.unusedSimpArgs false
namespace Go.Proofs.YtdgnfdljkghpjaaGreat.Am

def hasB (cols : List Int) (key vals : List Val) : Bool := wholeF cols vals && (keyF cols vals == key)
def foundF (rows : List RowD) (cols : List Int) (key : List Val) : List Int := (rows.filter fun r => hasB cols key r.vals).map (·.id)
theorem foundF_take {rows : List RowD} {cols : List Int} {key : List Val} {i : Nat} (h : i < rows.length) : foundF (rows.take (i + 1)) cols key = foundF (rows.take i) cols key ++ if hasB cols key rows[i].vals then [rows[i].id] else [] := by
  rw [foundF, List.take_succ_eq_append_getElem h, List.filter_append, List.map_append, foundF]
  congr 1
  rw [List.filter_cons, List.filter_nil]
  split <;> rfl
theorem foundF_len {rows : List RowD} {cols : List Int} {key : List Val} : (foundF rows cols key).length ≤ rows.length := by rw [foundF, List.length_map]; exact List.length_filter_le _ _
theorem has_ok (cols : List Int) (vals key : List Val) (hx : cols.length ≤ 34359738368) (hi : InR cols vals.length) : Pure Tryz.prog 150 [.c (.fz (cols.map encI)), .c (.fz (vals.map encV)), .c (.fz (key.map encV))] (.c (.bool (hasB cols key vals))) := by
  refine Pure.run mixed c_impl_has_ok (Nat.le_of_ble_eq_true rfl) fun σ hS hA => ?_
  clear hS hA
  have c1 := keyOf_ok cols vals hx hi
  have c2 := equalVals_ok (keyF cols vals) key (by rw [keyF_len]; exact hx)
  rw [hasB]
  generalize keyF cols vals = ks at c1 c2 ⊢
  generalize (ks == key) = e at c2 ⊢
  cases hw : wholeF cols vals
  · rw [hw] at c1
    repeat' first|refine yaG ?_|refine yaC (c1) ?_|(exfalso;omega)|(refine yaS ?_ ?_<;>intro _)
    exact .ret rfl (.bool rfl)
  · rw [hw] at c1
    repeat' first|refine yaG ?_|refine yaC (c1) ?_|refine yaC (c2) ?_|(exfalso;omega)|(refine yaS ?_ ?_<;>intro _)
    exact .ret rfl (.bool rfl)
theorem found_ok (rows : List RowD) (cols : List Int) (key : List Val) (hr : rows.length ≤ 1048576) (hx : cols.length ≤ 34359738368) (hi : ∀ r ∈ rows, InR cols r.vals.length) : Pure Tryz.prog 88 [.c (.fz (rows.map encRowD)), .c (.fz (cols.map encI)), .c (.fz (key.map encV))] (.c (.fz ((foundF rows cols key).map encI))) := by
  refine NewV.pure fun σ => Ok.run mixed c_impl_found_ok (Nat.le_of_ble_eq_true rfl) fun hS hA => ?_
  clear hS hA
  repeat' first|refine yaG ?_|(exfalso;omega)|(refine yaS ?_ ?_<;>intro _)
  refine Go.keep [1, 2, 7, 11, 12, 13] (Go.loops (I := fun m fr τ => ∃ (i : Nat) (k : Int) (v : Nat) (junk : List (List Ce)) (ids : List Int), m = rows.length - i ∧ i ≤ rows.length ∧ k = i ∧ Jk 1 junk ∧ ids = foundF (rows.take i) cols key ∧
    fr = [(1, .c (.fz (cols.map encI))), (2, .c (.fz (key.map encV))), (7, .c (vec (σ.next + 0) v (ids.map encI) junk)), (11, .c (.fz (rows.map encRowD))), (12, .c (.int .i64 (rows.length : Int))), (13, .c (.int .i64 k))] ∧ τ = E σ [(v, ids.map encI ++ junk)]) ?_ _ _ _ ⟨0, _, 0, [], [], rfl, Nat.zero_le _, rfl, Jk.nil, rfl, rfl, rfl⟩)
  rintro m fr τ ⟨i, k, v, junk, ids, rfl, hile, hk, hj, hids, rfl, rfl⟩ hrec
  by_cases hlt : i < rows.length
  · have c1 := has_ok cols rows[i].vals key hx (hi _ (List.getElem_mem hlt))
    have hn := foundF_take (cols := cols) (key := key) hlt
    rw [← hids] at hn
    have hl : (ids.map encI).length ≤ 1048576 := by rw [List.length_map, hids]; have := foundF_len (rows := rows.take i) (cols := cols) (key := key); rw [List.length_take] at this; omega
    have hbd : ((ids.map encI).length + 1) * 8 ≤ 140737488355328 := by omega
    have hz1 : ∀ e ∈ ids.map encI, e.length = 1 := fun e he => (flatIs e he).1
    have e1 : ids.map encI ++ [encI rows[i].id] = (ids ++ [rows[i].id]).map encI := by simp
    clear hi
    cases hb : hasB cols key rows[i].vals
    · rw [hb] at c1 hn
      rw [if_neg Bool.false_ne_true, List.append_nil] at hn
      repeat' first|refine yaG ?_|((first|apply yG|apply yH|apply yI);exact rfl;(first|exact yX (enc := encRowD) rfl rfl hk hlt rfl))|refine yaC (c1) ?_|(exfalso;omega)|(refine yaS ?_ ?_<;>intro _)
      exact Go.keep [1, 2, 7, 11, 12, 13] (hrec _ _ _ (by omega) ⟨i + 1, _, v, junk, ids, rfl, hlt, wrap_succ hk (by omega), hj, hn.symm, rfl, rfl⟩)
    · rw [hb] at c1 hn
      rw [if_pos rfl] at hn
      repeat' first|refine yaG ?_|((first|apply yG|apply yH|apply yI);exact rfl;(first|exact yX (enc := encRowD) rfl rfl hk hlt rfl))|(apply Go.app1;exact rfl;exact rfl;exact rfl;exact rfl;exact rfl;exact hz1;exact hj;exact rfl;exact hbd;intro v' junk' hj')|refine yaC (c1) ?_|(exfalso;omega)|(refine yaS ?_ ?_<;>intro _)
      refine Go.keep [1, 2, 7, 11, 12, 13] (hrec _ _ _ (by omega) ⟨i + 1, _, v', junk', ids ++ [rows[i].id], rfl, hlt, wrap_succ hk (by omega), hj', hn.symm, ?_, ?_⟩)
      · rw [← e1]; rfl
      · rw [← e1]; rfl
  · repeat' first|refine yaG ?_|(exfalso;omega)|(refine yaS ?_ ?_<;>intro _)
    refine .ret rfl ?_
    rw [List.take_of_length_le (by omega)] at hids
    rw [← hids]
    exact newVec flatIs hj
theorem l4Find_ok (d : Data) (cols : List Int) (key : List Val) (hr : d.rows.length ≤ 1048576) (hx : cols.length ≤ 34359738368) (hi : ∀ r ∈ d.rows, InR cols r.vals.length) : Pure Tryz.prog 259 [.agg (encData d), .c (.fz (cols.map encI)), .c (.fz (key.map encV))] (.c (.fz ((foundF d.rows cols key).map encI))) := by
  refine NewV.pure fun σ => Ok.run mixed c_spec_l4Find_ok (Nat.le_of_ble_eq_true rfl) fun hS hA => ?_
  clear hS hA
  repeat' first|refine yaG ?_|(exfalso;omega)|(refine yaS ?_ ?_<;>intro _)
  refine Go.keep [1, 2, 3, 7, 8] (Go.loops (I := fun m fr τ => ∃ (i : Nat) (k : Int) (v : Nat) (junk : List (List Ce)) (ids : List Int), m = d.rows.length - i ∧ i ≤ d.rows.length ∧ k = i ∧ Jk 1 junk ∧ ids = foundF (d.rows.take i) cols key ∧
    fr = [(1, .c (.fz (cols.map encI))), (2, .c (.fz (key.map encV))), (3, .c (.fp (encData d))), (7, .c (vec (σ.next + 0) v (ids.map encI) junk)), (8, .c (.int .i64 k))] ∧ τ = E σ [(v, ids.map encI ++ junk)]) ?_ _ _ _ ⟨0, _, 0, [], [], rfl, Nat.zero_le _, rfl, Jk.nil, rfl, rfl, rfl⟩)
  rintro m fr τ ⟨i, k, v, junk, ids, rfl, hile, hk, hj, hids, rfl, rfl⟩ hrec
  by_cases hlt : i < d.rows.length
  · have c1 := l4Key_ok cols d.rows[i].vals hx (hi _ (List.getElem_mem hlt))
    have c2 := l1SameVals_ok (keyF cols d.rows[i].vals) key (by rw [keyF_len]; exact hx)
    have hn := foundF_take (cols := cols) (key := key) hlt
    rw [← hids, hasB] at hn
    have hl : (ids.map encI).length ≤ 1048576 := by rw [List.length_map, hids]; have := foundF_len (rows := d.rows.take i) (cols := cols) (key := key); rw [List.length_take] at this; omega
    have hbd : ((ids.map encI).length + 1) * 8 ≤ 140737488355328 := by omega
    have hz1 : ∀ e ∈ ids.map encI, e.length = 1 := fun e he => (flatIs e he).1
    have e1 : ids.map encI ++ [encI d.rows[i].id] = (ids ++ [d.rows[i].id]).map encI := by simp
    clear hi
    generalize keyF cols d.rows[i].vals = ks at c1 c2 hn
    generalize (ks == key) = q at c2 hn
    cases hb : wholeF cols d.rows[i].vals
    · rw [hb] at c1 hn
      rw [Bool.false_and, if_neg Bool.false_ne_true, List.append_nil] at hn
      repeat' first|refine yaG ?_|((first|apply yG|apply yH|apply yI);exact rfl;(first|exact yX (enc := encRowD) rfl rfl hk hlt rfl))|refine yaC (c1) ?_|(exfalso;omega)|(refine yaS ?_ ?_<;>intro _)
      exact Go.keep [1, 2, 3, 7, 8] (hrec _ _ _ (by omega) ⟨i + 1, _, v, junk, ids, rfl, hlt, wrap_succ hk (by omega), hj, hn.symm, rfl, rfl⟩)
    · cases q
      · rw [hb] at c1 hn
        rw [Bool.and_false, if_neg Bool.false_ne_true, List.append_nil] at hn
        repeat' first|refine yaG ?_|((first|apply yG|apply yH|apply yI);exact rfl;(first|exact yX (enc := encRowD) rfl rfl hk hlt rfl))|refine yaC (c1) ?_|refine yaC (c2) ?_|(exfalso;omega)|(refine yaS ?_ ?_<;>intro _)
        exact Go.keep [1, 2, 3, 7, 8] (hrec _ _ _ (by omega) ⟨i + 1, _, v, junk, ids, rfl, hlt, wrap_succ hk (by omega), hj, hn.symm, rfl, rfl⟩)
      · rw [hb] at c1 hn
        rw [Bool.and_true, if_pos rfl] at hn
        repeat' first|refine yaG ?_|((first|apply yG|apply yH|apply yI);exact rfl;(first|exact yX (enc := encRowD) rfl rfl hk hlt rfl))|(apply Go.app1;exact rfl;exact rfl;exact rfl;exact rfl;exact rfl;exact hz1;exact hj;exact rfl;exact hbd;intro v' junk' hj')|refine yaC (c1) ?_|refine yaC (c2) ?_|(exfalso;omega)|(refine yaS ?_ ?_<;>intro _)
        refine Go.keep [1, 2, 3, 7, 8] (hrec _ _ _ (by omega) ⟨i + 1, _, v', junk', ids ++ [d.rows[i].id], rfl, hlt, wrap_succ hk (by omega), hj', hn.symm, ?_, ?_⟩)
        · rw [← e1]; rfl
        · rw [← e1]; rfl
  · repeat' first|refine yaG ?_|(exfalso;omega)|(refine yaS ?_ ?_<;>intro _)
    refine .ret rfl ?_
    rw [List.take_of_length_le (by omega)] at hids
    rw [← hids]
    exact newVec flatIs hj
end Go.Proofs.YtdgnfdljkghpjaaGreat.Am

/- Rows' nulls and checks. -/
set_option linter.unusedVariables false
set_option linter.unusedSimpArgs false
namespace Go.Proofs.YtdgnfdljkghpjaaGreat.Am

structure TabOk (t : Table) : Prop where
  cols0 : 1 ≤ t.cols.length
  cols8 : t.cols.length ≤ 8
  key : InR t.key t.cols.length
  uniq : ∀ u ∈ t.uniques, InR u.cols t.cols.length
  chk : ∀ c ∈ t.checks, exprF c.expr t.cols.length = true
  fk : ∀ f ∈ t.fks, InR f.cols t.cols.length
  uniq3 : t.uniques.length ≤ 3
  chk3 : t.checks.length ≤ 3
  fk3 : t.fks.length ≤ 3
theorem tableF_facts {t : Table} (h : tableF t = true) : TabOk t := by
  simp only [tableF, Bool.and_eq_true, decide_eq_true_eq, Bool.not_eq_true', List.any_eq_false, Bool.not_eq_false', Bool.not_eq_true] at h
  obtain ⟨h1, h2, h3, h4, h5, h6, h7, h8, h9, h10⟩ := h
  have hc := areColsF_len h2
  exact ⟨hc.1, hc.2, colsF_in h3, fun u hu => colsF_in (by simpa using h8 u hu), fun c hc => by simpa using h9 c hc, fun f hf => by
    have : isFkF f t.cols.length = true := by simpa using h10 f hf
    simp only [isFkF, Bool.and_eq_true] at this
    exact colsF_in this.1, by omega, by omega, by omega⟩
theorem schemaF_tab {s : List Table} (h : schemaF s = true) : ∀ t ∈ s, TabOk t := fun t ht => by
  simp only [schemaF, Bool.and_eq_true] at h
  exact tableF_facts (namesAux_ok h.2.1 t ht)
def nullAux (t : Table) : Nat → List Val → Bool
  | _, [] => false
  | i, v :: l => (notNullAt t i && v.k == 0) || nullAux t (i + 1) l
theorem l4Nulls_ok (t : Table) (vals : List Val) (hl : vals.length = t.cols.length) (hc : t.cols.length ≤ 8) : Pure Tryz.prog 241 [.agg (encTable t), .c (.fz (vals.map encV))] (.c (.bool (!nullAux t 0 vals))) := by
  refine Pure.run mixed c_spec_l4Nulls_ok (Nat.le_of_ble_eq_true rfl) fun σ hS hA => ?_
  clear hS hA
  repeat' first|refine yaG ?_|(exfalso;omega)|(refine yaS ?_ ?_<;>intro _)
  refine Go.keep [1, 2, 5] (Go.loops (I := fun m fr τ => ∃ (i : Nat) (k : Int), m = vals.length - i ∧ i ≤ vals.length ∧ k = i ∧ nullAux t 0 vals = nullAux t i (vals.drop i) ∧
    fr = [(1, .c (.fz (vals.map encV))), (2, .c (.fp (encTable t))), (5, .c (.int .i64 k))] ∧ τ = E σ []) ?_ _ _ _ ⟨0, _, rfl, Nat.zero_le _, rfl, rfl, rfl, rfl⟩)
  rintro m fr τ ⟨i, k, rfl, hi, hk, hs, rfl, rfl⟩ hrec
  by_cases hlt : i < vals.length
  · have hlc : i < t.cols.length := by omega
    have hnn : notNullAt t i = t.cols[i].notNull := by rw [notNullAt, Int.toNat_natCast, List.getElem?_eq_getElem hlc]
    rw [List.drop_eq_getElem_cons hlt, nullAux, hnn] at hs
    cases hb : t.cols[i].notNull
    · rw [hb, Bool.false_and, Bool.false_or] at hs
      repeat' first|refine yaG ?_|((first|apply yG|apply yH|apply yI);exact rfl;(first|exact yX (enc := encV) rfl rfl hk hlt rfl|exact yX (enc := encCol) rfl rfl hk hlc rfl))|(exfalso;omega)|(refine yaS ?_ ?_<;>intro _)
      all_goals first
        | exact Go.keep [1, 2, 5] (hrec _ _ _ (by omega) ⟨i + 1, _, rfl, hlt, wrap_succ hk (by omega), hs, rfl, rfl⟩)
        | (exfalso; simp_all; done)
    · by_cases h0 : vals[i].k = 0
      · rw [hb, h0] at hs
        repeat' first|refine yaG ?_|((first|apply yG|apply yH|apply yI);exact rfl;(first|exact yX (enc := encV) rfl rfl hk hlt rfl|exact yX (enc := encCol) rfl rfl hk hlc rfl))|(exfalso;omega)|(refine yaS ?_ ?_<;>intro _)
        all_goals first
          | exact .ret rfl (.bool (by rw [hs]; rfl))
          | (exfalso; simp_all; done)
      · rw [hb, beq_eq_false_iff_ne.2 h0, Bool.and_false, Bool.false_or] at hs
        repeat' first|refine yaG ?_|((first|apply yG|apply yH|apply yI);exact rfl;(first|exact yX (enc := encV) rfl rfl hk hlt rfl|exact yX (enc := encCol) rfl rfl hk hlc rfl))|(exfalso;omega)|(refine yaS ?_ ?_<;>intro _)
        all_goals first
          | exact Go.keep [1, 2, 5] (hrec _ _ _ (by omega) ⟨i + 1, _, rfl, hlt, wrap_succ hk (by omega), hs, rfl, rfl⟩)
          | (exfalso; simp_all; done)
  · repeat' first|refine yaG ?_|(exfalso;omega)|(refine yaS ?_ ?_<;>intro _)
    rw [List.drop_eq_nil_of_le (by omega), nullAux] at hs
    exact .ret rfl (.bool (by rw [hs]; rfl))
def checkBad (vals : List Val) (x : Chk) : Bool := decide (truthI x.expr vals < 1)
theorem l4Checks_ok (t : Table) (vals : List Val) (hn : t.checks.length ≤ 3) (hx : ∀ c ∈ t.checks, exprF c.expr vals.length = true) (hv : areVals vals 16 = true) : Pure Tryz.prog 242 [.agg (encTable t), .c (.fz (vals.map encV))] (.c (.bool (!(t.checks.any (checkBad vals))))) := by
  refine Pure.run mixed c_spec_l4Checks_ok (Nat.le_of_ble_eq_true rfl) fun σ hS hA => ?_
  clear hS hA
  repeat' first|refine yaG ?_|(exfalso;omega)|(refine yaS ?_ ?_<;>intro _)
  refine Go.keep [1, 2, 5] (Go.loops (I := fun m fr τ => ∃ (i : Nat) (k : Int), m = t.checks.length - i ∧ i ≤ t.checks.length ∧ k = i ∧ t.checks.any (checkBad vals) = (t.checks.drop i).any (checkBad vals) ∧
    fr = [(1, .c (.fz (vals.map encV))), (2, .c (.fp (encTable t))), (5, .c (.int .i64 k))] ∧ τ = E σ []) ?_ _ _ _ ⟨0, _, rfl, Nat.zero_le _, rfl, rfl, rfl, rfl⟩)
  rintro m fr τ ⟨i, k, rfl, hi, hk, hs, rfl, rfl⟩ hrec
  by_cases hlt : i < t.checks.length
  · have hex := hx _ (List.getElem_mem hlt)
    have c1 := l2Truth_ok t.checks[i].expr vals hv hex
    have hTT : truthI t.checks[i].expr vals = truthR t.checks[i].expr vals := by rw [truthI, evalOk, hv, hex]; rfl
    rw [List.drop_eq_getElem_cons hlt, List.any_cons, checkBad, hTT] at hs
    generalize truthR t.checks[i].expr vals = T at c1 hs
    by_cases h1 : T < 1
    · rw [decide_eq_true h1, Bool.true_or] at hs
      repeat' first|refine yaG ?_|((first|apply yG|apply yH|apply yI);exact rfl;(first|exact yX (enc := encChk) rfl rfl hk hlt rfl))|refine yaC (c1) ?_|(exfalso;omega)|(refine yaS ?_ ?_<;>intro _)
      all_goals first
        | exact .ret rfl (.bool (by rw [hs]; rfl))
        | (exfalso; omega)
    · rw [decide_eq_false h1, Bool.false_or] at hs
      repeat' first|refine yaG ?_|((first|apply yG|apply yH|apply yI);exact rfl;(first|exact yX (enc := encChk) rfl rfl hk hlt rfl))|refine yaC (c1) ?_|(exfalso;omega)|(refine yaS ?_ ?_<;>intro _)
      all_goals first
        | exact Go.keep [1, 2, 5] (hrec _ _ _ (by omega) ⟨i + 1, _, rfl, hlt, wrap_succ hk (by omega), hs, rfl, rfl⟩)
        | (exfalso; omega)
  · repeat' first|refine yaG ?_|(exfalso;omega)|(refine yaS ?_ ?_<;>intro _)
    rw [List.drop_eq_nil_of_le (by omega), List.any_nil] at hs
    exact .ret rfl (.bool (by rw [hs]; rfl))
end Go.Proofs.YtdgnfdljkghpjaaGreat.Am

/- Rivals: rows with the same key. -/
set_option linter.unusedVariables false
set_option linter.unusedSimpArgs false
namespace Go.Proofs.YtdgnfdljkghpjaaGreat.Am

theorem frz_old {σ : Store} {l : List (Nat × List (List Ce))} {k v N : Nat} {ys junk : List (List Ce)} (hl : l[k]? = some (v, ys ++ junk)) (ho : ∀ e ∈ ys, ∀ x ∈ e, Old N x) (hN : N ≤ σ.next + k) : FrzV (E σ l) N (.c (vec (σ.next + k) v ys junk)) (.c (.fz ys)) := by
  refine .c (.sl _ _ _ _ _ (ys ++ junk) ys hN (by rw [E_at]; exact hl) (by simp) rfl (fun i hi => ?_) (fun i j hi hj => ?_))
  · simp only [Nat.zero_add]
    rw [List.getElem_append_left hi]
  · have e : (ys ++ junk)[0 + i]'(by simp; omega) = ys[i] := by
      simp only [Nat.zero_add]
      rw [List.getElem_append_left hi]
    simp only [e]
    exact .same _ (ho _ (List.getElem_mem _) _ (List.getElem_mem hj))
def keysOf (t : Table) : List (List Int) := t.key :: t.uniques.map (·.cols)
def twiceF (rows : List RowD) (r : RowD) (cols : List Int) : Bool := wholeF cols r.vals && (foundF rows cols (keyF cols r.vals)).any fun id => !(id == r.id)
theorem l5Twice_ok (d : Data) (cols : List Int) (r : RowD) (hr : d.rows.length ≤ 1048576) (hx : cols.length ≤ 34359738368) (hv : InR cols r.vals.length) (hi : ∀ q ∈ d.rows, InR cols q.vals.length) : Pure Tryz.prog 263 [.agg (encData d), .c (.fz (cols.map encI)), .agg (encRowD r)] (.c (.bool (twiceF d.rows r cols))) := by
  refine Pure.run mixed c_spec_l5Twice_ok (Nat.le_of_ble_eq_true rfl) fun σ hS hA => ?_
  clear hS hA
  have c1 := l4Key_ok cols r.vals hx hv
  have c2 := l4Find_ok d cols (keyF cols r.vals) hr hx hi
  have hl := foundF_len (rows := d.rows) (cols := cols) (key := keyF cols r.vals)
  rw [twiceF]
  generalize foundF d.rows cols (keyF cols r.vals) = ids at c2 hl ⊢
  generalize keyF cols r.vals = ks at c1 c2
  cases hw : wholeF cols r.vals
  · rw [hw] at c1
    repeat' first|refine yaG ?_|refine yaC (c1) ?_|(exfalso;omega)|(refine yaS ?_ ?_<;>intro _)
    exact .ret rfl (.bool rfl)
  rw [hw] at c1
  rw [Bool.true_and]
  repeat' first|refine yaG ?_|refine yaC (c1) ?_|refine yaC (c2) ?_|(exfalso;omega)|(refine yaS ?_ ?_<;>intro _)
  refine Go.keep [5, 9, 10] (Go.loops (I := fun m fr τ => ∃ (i : Nat) (k : Int), m = ids.length - i ∧ i ≤ ids.length ∧ k = i ∧ (ids.any fun id => !(id == r.id)) = ((ids.drop i).any fun id => !(id == r.id)) ∧
    fr = [(5, .c (.fp (encRowD r))), (9, .c (.fz (ids.map encI))), (10, .c (.int .i64 k))] ∧ τ = E σ []) ?_ _ _ _ ⟨0, _, rfl, Nat.zero_le _, rfl, rfl, rfl, rfl⟩)
  rintro m fr τ ⟨i, k, rfl, hile, hk, hs, rfl, rfl⟩ hrec
  by_cases hlt : i < ids.length
  · rw [List.drop_eq_getElem_cons hlt, List.any_cons] at hs
    by_cases h0 : ids[i] = r.id
    · rw [beq_iff_eq.2 h0, Bool.not_true, Bool.false_or] at hs
      repeat' first|refine yaG ?_|((first|apply yG|apply yH|apply yI);exact rfl;(first|exact yX (enc := encI) rfl rfl hk hlt rfl))|(exfalso;omega)|(refine yaS ?_ ?_<;>intro _)
      all_goals first
        | exact Go.keep [5, 9, 10] (hrec _ _ _ (by omega) ⟨i + 1, _, rfl, hlt, wrap_succ hk (by omega), hs, rfl, rfl⟩)
        | (exfalso; simp_all; done)
    · rw [beq_eq_false_iff_ne.2 h0, Bool.not_false, Bool.true_or] at hs
      repeat' first|refine yaG ?_|((first|apply yG|apply yH|apply yI);exact rfl;(first|exact yX (enc := encI) rfl rfl hk hlt rfl))|(exfalso;omega)|(refine yaS ?_ ?_<;>intro _)
      all_goals first
        | exact .ret rfl (.bool hs.symm)
        | (exfalso; simp_all; done)
  · repeat' first|refine yaG ?_|(exfalso;omega)|(refine yaS ?_ ?_<;>intro _)
    rw [List.drop_eq_nil_of_le (by omega), List.any_nil] at hs
    exact .ret rfl (.bool hs.symm)
theorem l5Unique_ok (t : Table) (d : Data) (r : RowD) (hr : d.rows.length ≤ 1048576) (hu : t.uniques.length ≤ 3) (hx : ∀ k ∈ keysOf t, k.length ≤ 34359738368) (hv : ∀ k ∈ keysOf t, InR k r.vals.length) (hi : ∀ k ∈ keysOf t, ∀ r ∈ d.rows, InR k r.vals.length) :
    Pure Tryz.prog 256 [.agg (encTable t), .agg (encData d), .agg (encRowD r)] (.c (.bool (!((keysOf t).any (twiceF d.rows r))))) := by
  refine Pure.run mixed c_spec_l5Unique_ok (Nat.le_of_ble_eq_true rfl) fun σ hS hA => ?_
  clear hS hA
  have hk0 : t.key ∈ keysOf t := by simp [keysOf]
  have c1 := l5Twice_ok d t.key r hr (hx _ hk0) (hv _ hk0) (hi _ hk0)
  rw [keysOf, List.any_cons, List.any_map]
  cases hb : twiceF d.rows r t.key
  · rw [hb] at c1
    rw [Bool.false_or]
    repeat' first|refine yaG ?_|refine yaC (c1) ?_|(exfalso;omega)|(refine yaS ?_ ?_<;>intro _)
    refine Go.keep [3, 4, 5, 7] (Go.loops (I := fun m fr τ => ∃ (i : Nat) (k : Int), m = t.uniques.length - i ∧ i ≤ t.uniques.length ∧ k = i ∧ (t.uniques.any (twiceF d.rows r ∘ (·.cols))) = ((t.uniques.drop i).any (twiceF d.rows r ∘ (·.cols))) ∧
      fr = [(3, .c (.fp (encTable t))), (4, .c (.fp (encData d))), (5, .c (.fp (encRowD r))), (7, .c (.int .i64 k))] ∧ τ = E σ []) ?_ _ _ _ ⟨0, _, rfl, Nat.zero_le _, rfl, rfl, rfl, rfl⟩)
    rintro m fr τ ⟨i, k, rfl, hile, hk, hs, rfl, rfl⟩ hrec
    by_cases hlt : i < t.uniques.length
    · have hki : t.uniques[i].cols ∈ keysOf t := by rw [keysOf]; exact List.mem_cons_of_mem _ (List.mem_map.2 ⟨_, List.getElem_mem hlt, rfl⟩)
      have c2 := l5Twice_ok d t.uniques[i].cols r hr (hx _ hki) (hv _ hki) (hi _ hki)
      rw [List.drop_eq_getElem_cons hlt, List.any_cons, Function.comp_apply] at hs
      cases hq : twiceF d.rows r t.uniques[i].cols
      · rw [hq] at c2 hs
        rw [Bool.false_or] at hs
        repeat' first|refine yaG ?_|((first|apply yG|apply yH|apply yI);exact rfl;(first|exact yX (enc := encUniq) rfl rfl hk hlt rfl))|refine yaC (c2) ?_|(exfalso;omega)|(refine yaS ?_ ?_<;>intro _)
        exact Go.keep [3, 4, 5, 7] (hrec _ _ _ (by omega) ⟨i + 1, _, rfl, hlt, wrap_succ hk (by omega), hs, rfl, rfl⟩)
      · rw [hq] at c2 hs
        rw [Bool.true_or] at hs
        repeat' first|refine yaG ?_|((first|apply yG|apply yH|apply yI);exact rfl;(first|exact yX (enc := encUniq) rfl rfl hk hlt rfl))|refine yaC (c2) ?_|(exfalso;omega)|(refine yaS ?_ ?_<;>intro _)
        exact .ret rfl (.bool (by rw [hs]; rfl))
    · repeat' first|refine yaG ?_|(exfalso;omega)|(refine yaS ?_ ?_<;>intro _)
      rw [List.drop_eq_nil_of_le (by omega), List.any_nil] at hs
      exact .ret rfl (.bool (by rw [hs]; rfl))
  · rw [hb] at c1
    repeat' first|refine yaG ?_|refine yaC (c1) ?_|(exfalso;omega)|(refine yaS ?_ ?_<;>intro _)
    exact .ret rfl (.bool rfl)
end Go.Proofs.YtdgnfdljkghpjaaGreat.Am

/- References that lead nowhere. -/
set_option linter.unusedVariables false
set_option linter.unusedSimpArgs false
namespace Go.Proofs.YtdgnfdljkghpjaaGreat.Am

def refAt (s : List Table) (f : Fk) : Int := idxA (fun u : Table => u.name == f.table) s 0
def keyAt (s : List Table) (n : Int) : List Int := match s[n.toNat]? with | some u => u.key | none => []
def lostF (s : List Table) (db : List Data) (f : Fk) (vals : List Val) : Bool := wholeF f.cols vals && (((foundF (rowsAt db (refAt s f)) (keyAt s (refAt s f)) (keyF f.cols vals)).length : Int) == 0)
structure FkR (s : List Table) (db : List Data) (vals : List Val) (f : Fk) (n : Nat) : Prop where
  lt : n < s.length
  lt2 : n < db.length
  idx : refAt s f = (n : Int)
  rows : db[n].rows.length ≤ 1048576
  key : s[n].key.length ≤ 34359738368
  cols : f.cols.length ≤ 34359738368
  own : InR f.cols vals.length
  far : ∀ r ∈ db[n].rows, InR s[n].key r.vals.length
theorem FkR.val {s : List Table} {db : List Data} {vals : List Val} {f : Fk} {n : Nat} (h : FkR s db vals f n) : lostF s db f vals = (wholeF f.cols vals && (((foundF (db[n]'h.lt2).rows (s[n]'h.lt).key (keyF f.cols vals)).length : Int) == 0)) := by
  rw [lostF, h.idx, rowsAt, keyAt, Int.toNat_natCast, List.getElem?_eq_getElem h.lt, List.getElem?_eq_getElem h.lt2]
theorem l5Parent_ok (s : List Table) (db : List Data) (f : Fk) (vals : List Val) (n : Nat) (hs : s.length ≤ 34359738368) (h : FkR s db vals f n) : Pure Tryz.prog 246 [.c (.fz (s.map encTable)), .c (.fz (db.map encData)), .agg (encFk f), .c (.fz (vals.map encV))] (.c (.bool (!lostF s db f vals))) := by
  refine Pure.run mixed c_spec_l5Parent_ok (Nat.le_of_ble_eq_true rfl) fun σ hS hA => ?_
  clear hS hA
  have c1 := l3At_ok s f.table hs
  have hidx : idxA (fun u : Table => u.name == f.table) s 0 = (n : Int) := h.idx
  rw [hidx] at c1
  have c2 := l4Key_ok f.cols vals h.cols h.own
  have hlt := h.lt
  have hlt2 := h.lt2
  have c3 := l4Find_ok db[n] s[n].key (keyF f.cols vals) h.rows h.key h.far
  rw [h.val]
  generalize foundF db[n].rows s[n].key (keyF f.cols vals) = ids at c3 ⊢
  generalize keyF f.cols vals = ks at c2 c3
  cases hw : wholeF f.cols vals
  · rw [hw] at c2
    repeat' first|refine yaG ?_|refine yaC (c1) ?_|refine yaC (c2) ?_|(exfalso;omega)|(refine yaS ?_ ?_<;>intro _)
    exact .ret rfl (.bool rfl)
  · rw [hw] at c2
    repeat' first|refine yaG ?_|((first|apply yG|apply yH|apply yI);exact rfl;(first|exact yX (enc := encTable) rfl rfl rfl hlt rfl|exact yX (enc := encData) rfl rfl rfl hlt2 rfl))|refine yaC (c1) ?_|refine yaC (c2) ?_|refine yaC (c3) ?_|(exfalso;omega)|(refine yaS ?_ ?_<;>intro _)
    refine .ret rfl (.bool ?_)
    rw [Bool.true_and]
    by_cases h0 : (ids.length : Int) = 0
    · rw [beq_iff_eq.2 h0]
      exact decide_eq_false (by omega)
    · rw [beq_eq_false_iff_ne.2 h0]
      exact decide_eq_true (by omega)
def lostBad (s : List Table) (db : List Data) (df : Bool) (vals : List Val) (f : Fk) : Bool := (df || !f.deferred) && lostF s db f vals
theorem l5Refers_ok (s : List Table) (db : List Data) (q : Int) (m : Nat) (vals : List Val) (now : Bool) (hs : s.length ≤ 34359738368) (hq : q = (m : Int)) (hm : m < s.length) (hn : s[m].fks.length ≤ 3) (h : ∀ f ∈ s[m].fks, ∃ n, FkR s db vals f n) : Pure Tryz.prog 213 [.c (.fz (s.map encTable)), .c (.fz (db.map encData)), .c (.int .i64 q), .c (.fz (vals.map encV)), .c (.bool now)] (.c (.bool (!(s[m].fks.any (lostBad s db (!now) vals))))) := by
  refine Pure.run mixed c_spec_l5Refers_ok (Nat.le_of_ble_eq_true rfl) fun σ hS hA => ?_
  clear hS hA
  repeat' first|refine yaG ?_|(exfalso;omega)|(refine yaS ?_ ?_<;>intro _)
  refine Go.keep [0, 1, 2, 3, 4, 11] (Go.loops (I := fun mm fr τ => ∃ (i : Nat) (k : Int), mm = s[m].fks.length - i ∧ i ≤ s[m].fks.length ∧ k = i ∧ s[m].fks.any (lostBad s db (!now) vals) = (s[m].fks.drop i).any (lostBad s db (!now) vals) ∧
    fr = [(0, .c (.fz (s.map encTable))), (1, .c (.fz (db.map encData))), (2, .c (.int .i64 q)), (3, .c (.fz (vals.map encV))), (4, .c (.bool now)), (11, .c (.int .i64 k))] ∧ τ = E σ []) ?_ _ _ _ ⟨0, _, rfl, Nat.zero_le _, rfl, rfl, rfl, rfl⟩)
  rintro mm fr τ ⟨i, k, rfl, hi, hk, hsq, rfl, rfl⟩ hrec
  by_cases hlt : i < s[m].fks.length
  · obtain ⟨n, hr⟩ := h _ (List.getElem_mem hlt)
    have c1 := l5Parent_ok s db s[m].fks[i] vals n hs hr
    rw [List.drop_eq_getElem_cons hlt, List.any_cons, lostBad] at hsq
    generalize lostF s db s[m].fks[i] vals = b at c1 hsq
    have skip : (s[m].fks.any (lostBad s db (!now) vals) = (s[m].fks.drop (i + 1)).any (lostBad s db (!now) vals)) → ∀ fr τ, fr = [(0, AV.c (.fz (s.map encTable))), (1, .c (.fz (db.map encData))), (2, .c (.int .i64 q)), (3, .c (.fz (vals.map encV))), (4, .c (.bool now)), (11, .c (.int .i64 (IntKind.i64.wrap (k + 1))))] → τ = E σ [] → _ := fun e fr τ h1 h2 => hrec (s[m].fks.length - (i + 1)) fr τ (by omega) ⟨i + 1, _, rfl, hlt, wrap_succ hk (by omega), e, h1, h2⟩
    clear hrec
    cases now <;> cases hd : s[m].fks[i].deferred <;> cases b
    all_goals
      repeat' first|refine yaG ?_|((first|apply yG|apply yH|apply yI);exact rfl;(first|exact yX (enc := encTable) rfl rfl hq hm rfl|exact yX (enc := encFk) rfl rfl hk hlt rfl))|refine yaC (c1) ?_|(exfalso;omega)|(refine yaS ?_ ?_<;>intro _)
      all_goals first
        | (refine Go.keep [0, 1, 2, 3, 4, 11] (skip ?_ _ _ rfl rfl); simp_all; done)
        | (refine .ret rfl (.bool ?_); simp_all; done)
        | (exfalso; simp_all; done)
  · repeat' first|refine yaG ?_|((first|apply yG|apply yH|apply yI);exact rfl;(first|exact yX (enc := encTable) rfl rfl hq hm rfl))|(exfalso;omega)|(refine yaS ?_ ?_<;>intro _)
    rw [List.drop_eq_nil_of_le (by omega), List.any_nil] at hsq
    exact .ret rfl (.bool (by rw [hsq]; rfl))
end Go.Proofs.YtdgnfdljkghpjaaGreat.Am

/- Flaws: what is true of the rows of a database. -/
set_option linter.unusedVariables false
set_option linter.unusedSimpArgs false
namespace Go.Proofs.YtdgnfdljkghpjaaGreat.Am

structure RowR (s : List Table) (db : List Data) (t : Table) (r : RowD) : Prop where
  len : r.vals.length = t.cols.length
  are : areVals r.vals 16 = true
  fks : ∀ f ∈ t.fks, ∃ n, FkR s db r.vals f n
structure TabR (s : List Table) (db : List Data) (t : Table) (d : Data) : Prop where
  tab : TabOk t
  rows : d.rows.length ≤ 60
  row : ∀ r ∈ d.rows, RowR s db t r
  keys : ∀ k ∈ keysOf t, k.length ≤ 34359738368
  inr : ∀ k ∈ keysOf t, InR k t.cols.length
  chk : ∀ c ∈ t.checks, c.expr.length ≤ 34359738368
theorem db_tab {s : List Table} {db : List Data} (h : dbF s db = true) (hb : ∀ t ∈ s, bTable 34359738368 t) {i : Nat} (hi : i < s.length) (hi2 : i < db.length) : TabR s db s[i] db[i] := by
  obtain ⟨hs, hl, hrows⟩ := dbF_at h
  have hT := schemaF_tab hs
  have hrow := rowsF_mem (hrows i hi hi2)
  have hti := hT _ (List.getElem_mem hi)
  have hbi := hb _ (List.getElem_mem hi)
  have hkey : ∀ k ∈ keysOf s[i], k.length ≤ 34359738368 ∧ InR k s[i].cols.length := fun k hk => by
    rw [keysOf] at hk
    rcases List.mem_cons.1 hk with rfl | hk
    · exact ⟨hbi.2.2.1, hti.key⟩
    · obtain ⟨u, hu, rfl⟩ := List.mem_map.1 hk
      exact ⟨hbi.2.2.2.1.2 u hu, hti.uniq u hu⟩
  refine ⟨hti, hrow.1, fun r hr => ?_, fun k hk => (hkey k hk).1, fun k hk => (hkey k hk).2, fun c hc => (hbi.2.2.2.2.1.2 c hc).1⟩
  have hfit := (hrow.2 r hr).1
  refine ⟨(fitF_vals hfit).1, fitF_are hfit hti.cols8, fun f hf => ?_⟩
  have hmet : metF s s[i] f = true := by
    simp only [schemaF, Bool.and_eq_true, Bool.not_eq_true', List.any_eq_false, Bool.not_eq_true, Bool.not_eq_false'] at hs
    simpa using hs.2.2 _ (List.getElem_mem hi) f hf
  simp only [metF, Bool.and_eq_true] at hmet
  rcases idxA_at (p := fun u : Table => u.name == f.table) (l := s) (i := 0) (Int.le_refl _) with hx | ⟨n, hn, hx, hp⟩
  · exfalso
    have := any_idx (p := fun u : Table => u.name == f.table) (l := s)
    rw [hx, hmet.1] at this
    exact absurd this (by decide)
  · have hn2 : n < db.length := by omega
    have htn := hT _ (List.getElem_mem hn)
    have hrn := rowsF_mem (hrows n hn hn2)
    exact ⟨n, hn, hn2, by rw [refAt, hx]; omega, by omega, (hb _ (List.getElem_mem hn)).2.2.1, (hbi.2.2.2.2.2.2 f hf).1, by rw [(fitF_vals hfit).1]; exact hti.fk f hf, fun q hq => by rw [(fitF_vals (hrn.2 q hq).1).1]; exact htn.key⟩
end Go.Proofs.YtdgnfdljkghpjaaGreat.Am

/- Joined lines: rooms made, slices joined. -/
set_option linter.unusedVariables false
set_option linter.unusedSimpArgs false
namespace Go.Proofs.YtdgnfdljkghpjaaGreat.Am

end Go.Proofs.YtdgnfdljkghpjaaGreat.Am

/- Joined lines: the walk of both packages' loops. -/
set_option linter.unusedVariables false
set_option linter.unusedSimpArgs false
namespace Go.Proofs.YtdgnfdljkghpjaaGreat.Am

end Go.Proofs.YtdgnfdljkghpjaaGreat.Am

/- Joined lines: the reference's; what the results are like; marks held. -/
set_option linter.unusedVariables false
set_option linter.unusedSimpArgs false
namespace Go.Proofs.YtdgnfdljkghpjaaGreat.Am

theorem l1CopyVals_mk (xs : List Val) (hx : xs.length ≤ 34359738368) : Makes Tryz.prog 60 [.c (.fz (xs.map encV))] 3 (xs.map encV) := by
  refine Makes.run mixed c_spec_l1CopyVals_ok (Nat.le_of_ble_eq_true rfl) fun σ hS hA => ?_
  clear hS hA
  repeat' first|refine yaG ?_|(exfalso;omega)|(refine yaS ?_ ?_<;>intro _)
  refine Go.app (ys := []) (junk := []) (zs := xs.map encV) rfl rfl rfl rfl rfl (by simp) Jk.nil (fun e he => (clean_append e he).1) (by simp; omega) fun v junk hj => ?_
  repeat' first|refine yaG ?_|(exfalso;omega)|(refine yaS ?_ ?_<;>intro _)
  exact .ret rfl ⟨v, junk, hj, rfl, rfl⟩
end Go.Proofs.YtdgnfdljkghpjaaGreat.Am

/- Rows whose numbers rise. -/
set_option linter.unusedVariables false
set_option linter.unusedSimpArgs false
namespace Go.Proofs.YtdgnfdljkghpjaaGreat.Am

def Rise (l : List RowD) : Prop := l.Pairwise fun a b => a.id < b.id
theorem rowsAux_rise {t : Table} : ∀ {l : List RowD} {p : Option Int}, rowsAux t p l = true → Rise l ∧ ∀ q, p = some q → ∀ r ∈ l, q < r.id
  | [], p, _ => ⟨.nil, fun q _ r hr => by simp at hr⟩
  | a :: l, p, h => by
    rw [rowsAux, Bool.and_eq_true] at h
    obtain ⟨h1, h2⟩ := rowsAux_rise h.2
    have h3 := h2 a.id rfl
    refine ⟨List.pairwise_cons.2 ⟨h3, h1⟩, fun q hq r hr => ?_⟩
    subst hq
    have h4 : q < a.id := by
      have := h.1
      simp only [rowOne, risesId, Bool.and_eq_true, decide_eq_true_eq] at this
      exact this.2.1
    rcases List.mem_cons.1 hr with rfl | hr
    · exact h4
    · exact Int.lt_trans h4 (h3 r hr)
theorem rowsF_rise {t : Table} {l : List RowD} (h : rowsF t l = true) : Rise l := by
  rw [rowsF, Bool.and_eq_true] at h
  exact (rowsAux_rise h.1).1
end Go.Proofs.YtdgnfdljkghpjaaGreat.Am

/- A row put in by the reference: parts. -/
set_option linter.unusedVariables false
set_option linter.unusedSimpArgs false
namespace Go.Proofs.YtdgnfdljkghpjaaGreat.Am

theorem oldRows {n : Nat} (l : List RowD) : OldL n (l.map encRowD) := fun e he c hc => by
  obtain ⟨a, _, rfl⟩ := List.mem_map.1 he
  simp only [encRowD, List.mem_cons, List.not_mem_nil, or_false] at hc
  rcases hc with rfl | rfl
  · exact .int _ _
  · exact old_fz1 (oldL_flat flats)
theorem oldDatas {n : Nat} (l : List Data) : OldL n (l.map encData) := fun e he c hc => by
  obtain ⟨a, _, rfl⟩ := List.mem_map.1 he
  simp only [encData, List.mem_cons, List.not_mem_nil, or_false] at hc
  subst hc
  exact old_fz1 (oldRows _)
theorem rowD_len {l : List RowD} : ∀ e ∈ l.map encRowD, e.length = 2 := fun e he => by
  obtain ⟨a, _, rfl⟩ := List.mem_map.1 he
  rfl
theorem data_len {l : List Data} : ∀ e ∈ l.map encData, e.length = 1 := fun e he => by
  obtain ⟨a, _, rfl⟩ := List.mem_map.1 he
  rfl
theorem Go.stold {P : Program} {n0 nt : Nat} {rets : List RV} {R : AV → Store → Prop} {K : List AK} {fr : Fr} {σ : Store} {d : Option Nat} {f : Opd} {args : List Opd} {g : Option (Nat × Bool)} {rest : List (List AOper)} {n : Nat} {pre cap : List Ce} {vs : List AV} {Z : AV → Prop} (hw : wants fr g = some true) (hf : f.ev fr = some (.c (.fn n pre cap))) (ha : evs fr args = some vs)
    (hp : Told P n (pre.map .c ++ vs ++ cap.map .c) Z) (h : ∀ r, Z r → Go P n0 nt rets R (.segs rest :: K) (putA fr d r) σ) : Go P n0 nt rets R (.segs ([⟨d, .call f args, g⟩] :: rest) :: K) fr σ :=
  .scall _ hw hf ha (hp.at_ σ) (by rintro r' σ' ⟨hz, rfl⟩; exact h r' hz)
theorem l1CopyVals_pure (xs : List Val) (hx : xs.length ≤ 34359738368) : Pure Tryz.prog 60 [.c (.fz (xs.map encV))] (.c (.fz (xs.map encV))) :=
  NewV.pure fun σ => ((l1CopyVals_mk xs hx).at_ σ).mono fun r τ ⟨v, junk, hj, h1, h2⟩ => by
    subst h1 h2
    exact newVec clean_append hj
theorem l6Able_ok (t : Table) (vals : List Val) (hl : vals.length = t.cols.length) (hT : TabOk t) (hv : areVals vals 16 = true) : Told Tryz.prog 208 [.agg (encTable t), .c (.fz (vals.map encV))] AnyI := by
  refine Told.run mixed c_spec_l6Able_ok (Nat.le_of_ble_eq_true rfl) fun σ hS => ?_
  clear hS
  have c1 := l4Nulls_ok t vals hl hT.cols8
  have c2 := l4Checks_ok t vals hT.chk3 (fun c hc => by rw [hl]; exact hT.chk c hc) hv
  generalize (!nullAux t 0 vals) = B1 at c1
  generalize (!(t.checks.any (checkBad vals))) = B2 at c2
  cases B1
  · repeat' first|refine yaG ?_|refine yaC (c1) ?_|(exfalso;omega)|(refine yaS ?_ ?_<;>intro _)
    exact .ret rfl ⟨_, ⟨_, rfl⟩, .int rfl⟩
  cases B2
  · repeat' first|refine yaG ?_|refine yaC (c1) ?_|refine yaC (c2) ?_|(exfalso;omega)|(refine yaS ?_ ?_<;>intro _)
    exact .ret rfl ⟨_, ⟨_, rfl⟩, .int rfl⟩
  · repeat' first|refine yaG ?_|refine yaC (c1) ?_|refine yaC (c2) ?_|(exfalso;omega)|(refine yaS ?_ ?_<;>intro _)
    exact .ret rfl ⟨_, ⟨_, rfl⟩, .int rfl⟩
theorem Rise.last {l : List RowD} (h : Rise l) (h0 : 0 < l.length) {q : RowD} (hq : q ∈ l) : q.id ≤ l[l.length - 1].id := by
  obtain ⟨i, hi, rfl⟩ := List.getElem_of_mem hq
  by_cases e : i = l.length - 1
  · subst e; exact Int.le_refl _
  · exact Int.le_of_lt (List.pairwise_iff_getElem.1 h i (l.length - 1) hi (by omega) (by omega))
theorem l6Next_ok (d : Data) (hr : Rise d.rows) (hn : d.rows.length ≤ 60) (hid : ∀ r ∈ d.rows, 1 ≤ r.id ∧ r.id ≤ 1000000000) : Told Tryz.prog 209 [.agg (encData d)] (fun r => ∃ k : Int, 1 ≤ k ∧ k ≤ 1000000001 ∧ (∀ q ∈ d.rows, q.id < k) ∧ r = .c (.int .i64 k)) := by
  refine Told.run mixed c_spec_l6Next_ok (Nat.le_of_ble_eq_true rfl) fun σ hS => ?_
  clear hS
  by_cases h0 : 0 < d.rows.length
  · have h1 : IntKind.i64.wrap ((d.rows.length : Int) - 1) = ((d.rows.length - 1 : Nat) : Int) := by rw [wrap64 (by omega) (by omega)]; omega
    have hlt : d.rows.length - 1 < d.rows.length := by omega
    have hne : ¬ (d.rows.length : Int) = 0 := by omega
    have hi := hid _ (List.getElem_mem hlt)
    repeat' first|refine yaG ?_|((first|apply yG|apply yH|apply yI);exact rfl;(first|exact yX (enc := encRowD) rfl rfl h1 hlt rfl))|(exfalso;omega)|(refine yaS ?_ ?_<;>intro _)
    refine .ret rfl ⟨_, ⟨d.rows[d.rows.length - 1].id + 1, by omega, by omega, fun q hq => ?_, rfl⟩, .int (wrap64 (by omega) (by omega))⟩
    have := hr.last h0 hq
    omega
  · have he : (d.rows.length : Int) = 0 := by omega
    repeat' first|refine yaG ?_|(exfalso;omega)|(refine yaS ?_ ?_<;>intro _)
    refine .ret rfl ⟨_, ⟨1, by omega, by omega, fun q hq => ?_, rfl⟩, .int rfl⟩
    rw [List.eq_nil_of_length_eq_zero (show d.rows.length = 0 by omega)] at hq
    cases hq
/-- What the keys of a table are like, for the rows of some data and another one. -/
structure KeysR (t : Table) (d : Data) (x : RowD) : Prop where
  uniq : t.uniques.length ≤ 3
  len : ∀ k ∈ keysOf t, k.length ≤ 34359738368
  own : ∀ k ∈ keysOf t, InR k x.vals.length
  far : ∀ k ∈ keysOf t, ∀ r ∈ d.rows, InR k r.vals.length
def IdsT (n : Nat) (r : AV) : Prop := ∃ ids : List Int, ids.length ≤ n ∧ r = .c (.fz (ids.map encI))
theorem flatIs2 {xs : List Int} : ∀ e ∈ xs.map encI, ∀ x ∈ e, Flat x := fun e he => (flatIs e he).2
theorem l6Rivals_ok (t : Table) (d : Data) (x : RowD) (hd : d.rows.length ≤ 60) (hK : KeysR t d x) : Told Tryz.prog 243 [.agg (encTable t), .agg (encData d), .agg (encRowD x)] (IdsT 60) := by
  refine Told.run mixed c_spec_l6Rivals_ok (Nat.le_of_ble_eq_true rfl) fun σ hS => ?_
  clear hS
  repeat' first|refine yaG ?_|(exfalso;omega)|(refine yaS ?_ ?_<;>intro _)
  refine Go.keep [3, 4, 5, 7, 8] (Go.loops (I := fun m fr τ => ∃ (i : Nat) (k : Int) (ids : List Int) (v : Nat) (junk : List (List Ce)), m = d.rows.length - i ∧ i ≤ d.rows.length ∧ k = i ∧ Jk 1 junk ∧ ids.length ≤ i ∧
    fr = [(3, .c (.fp (encTable t))), (4, .c (.fp (encData d))), (5, .c (.fp (encRowD x))), (7, .c (vec (σ.next + 0) v (ids.map encI) junk)), (8, .c (.int .i64 k))] ∧ τ = E σ [(v, ids.map encI ++ junk)]) ?_ _ _ _ ⟨0, _, [], 0, [], rfl, Nat.zero_le _, rfl, Jk.nil, Nat.zero_le _, rfl, rfl⟩)
  rintro m fr τ ⟨i, k, ids, v, junk, rfl, hi, hk, hj, hil, rfl, rfl⟩ hrec
  by_cases hlt : i < d.rows.length
  · have hbd : ((ids.map encI).length + 1) * 8 ≤ 140737488355328 := by rw [List.length_map]; omega
    have hz1 : ∀ e ∈ ids.map encI, e.length = 1 := fun e he => (flatIs e he).1
    have e1 : ids.map encI ++ [encI d.rows[i].id] = (ids ++ [d.rows[i].id]).map encI := by simp
    have c1 := l5Unique_ok t ⟨[d.rows[i]]⟩ x (by simp) hK.uniq hK.len hK.own (fun k hk r hr => by
      have hr2 : r = d.rows[i] := by simpa using hr
      rw [hr2]
      exact hK.far k hk _ (List.getElem_mem hlt))
    generalize (!((keysOf t).any (twiceF (Data.rows ⟨[d.rows[i]]⟩) x))) = B at c1
    by_cases h0 : d.rows[i].id = x.id
    · repeat' first|refine yaG ?_|((first|apply yG|apply yH|apply yI);exact rfl;(first|exact yX (enc := encRowD) rfl rfl hk hlt rfl))|(exfalso;omega)|(refine yaS ?_ ?_<;>intro _)
      exact Go.keep [3, 4, 5, 7, 8] (hrec _ _ _ (by omega) ⟨i + 1, _, ids, v, junk, rfl, hlt, wrap_succ hk (by omega), hj, by omega, rfl, rfl⟩)
    · cases B
      · repeat' first|refine yaG ?_|((first|apply yG|apply yH|apply yI);exact rfl;(first|exact yX (enc := encRowD) rfl rfl hk hlt rfl))|(apply Go.app1;exact rfl;exact rfl;exact rfl;exact rfl;exact rfl;exact hz1;exact hj;exact rfl;exact hbd;intro v' junk' hj')|refine yaC (c1) ?_|(exfalso;omega)|(refine yaS ?_ ?_<;>intro _)
        refine Go.keep [3, 4, 5, 7, 8] (hrec _ _ _ (by omega) ⟨i + 1, _, ids ++ [d.rows[i].id], v', junk', rfl, hlt, wrap_succ hk (by omega), hj', by simp; omega, ?_, ?_⟩)
        · rw [← e1]; rfl
        · rw [← e1]; rfl
      · repeat' first|refine yaG ?_|((first|apply yG|apply yH|apply yI);exact rfl;(first|exact yX (enc := encRowD) rfl rfl hk hlt rfl))|refine yaC (c1) ?_|(exfalso;omega)|(refine yaS ?_ ?_<;>intro _)
        exact Go.keep [3, 4, 5, 7, 8] (hrec _ _ _ (by omega) ⟨i + 1, _, ids, v, junk, rfl, hlt, wrap_succ hk (by omega), hj, by omega, rfl, rfl⟩)
  · repeat' first|refine yaG ?_|(exfalso;omega)|(refine yaS ?_ ?_<;>intro _)
    exact .ret rfl ⟨_, ⟨ids, by omega, rfl⟩, _, rfl, frz_drop (n := 0) (k := 0) rfl flatIs2 (Nat.zero_le _) (Nat.le_refl _)⟩
theorem l6Clear_ok (s : List Table) (db : List Data) (q : Int) (n : Nat) (x : RowD) (hq : q = (n : Int)) (hn : n < s.length) (hn2 : n < db.length) (hd : db[n].rows.length ≤ 60) (hK : KeysR s[n] db[n] x) : Told Tryz.prog 210 [.c (.fz (s.map encTable)), .c (.fz (db.map encData)), .c (.int .i64 q), .agg (encRowD x), .c (.bool false), .c (.int .i64 0)] (fun r => r = .tup [.c (.fz (db.map encData)), .c (.int .i64 0)] ∨ r = .tup [.c .nils, .c (.int .i64 4)]) := by
  refine Told.run mixed c_spec_l6Clear_ok (Nat.le_of_ble_eq_true rfl) fun σ hS => ?_
  clear hS
  repeat' first|refine yaG ?_|((first|apply yG|apply yH|apply yI);exact rfl;(first|exact yX (enc := encTable) rfl rfl hq hn rfl|exact yX (enc := encData) rfl rfl hq hn2 rfl))|(exfalso;omega)|(refine yaS ?_ ?_<;>intro _)
  refine Go.stold rfl rfl rfl (l6Rivals_ok s[n] db[n] x hd hK) ?_
  rintro _ ⟨ids, hl, rfl⟩
  by_cases h0 : 0 < ids.length
  · repeat' first|refine yaG ?_|(exfalso;omega)|(refine yaS ?_ ?_<;>intro _)
    exact .ret rfl ⟨_, .inr rfl, _, rfl, .tup rfl fun i hi => by
      have : i = 0 ∨ i = 1 := by simp at hi; omega
      rcases this with rfl | rfl
      · exact .c (.same _ .nils)
      · exact .c (.same _ (.int _ _))⟩
  · have he : (ids.length : Int) = 0 := by omega
    repeat' first|refine yaG ?_|(exfalso;omega)|(refine yaS ?_ ?_<;>intro _)
    apply Go.loop
    repeat' first|refine yaG ?_|(exfalso;omega)|(refine yaS ?_ ?_<;>intro _)
    exact .ret rfl ⟨_, .inl rfl, _, rfl, .tup rfl fun i hi => by
      have : i = 0 ∨ i = 1 := by simp at hi; omega
      rcases this with rfl | rfl
      · exact .c (.same _ (old_fz1 (oldDatas _)))
      · exact .c (.same _ (.int _ _))⟩
theorem l4Put_ok (d : Data) (x : RowD) (hd : d.rows.length ≤ 60) (hx : ∀ q ∈ d.rows, q.id < x.id) : Pure Tryz.prog 212 [.agg (encData d), .agg (encRowD x)] (.agg (encData ⟨d.rows ++ [x]⟩)) := by
  refine Pure.run mixed c_spec_l4Put_ok (Nat.le_of_ble_eq_true rfl) fun σ hS hA => ?_
  clear hS hA
  repeat' first|refine yaG ?_|(exfalso;omega)|(refine yaS ?_ ?_<;>intro _)
  refine Go.keep [2, 3, 4, 5, 6, 7] (Go.loops (I := fun m fr τ => ∃ (i : Nat) (k : Int) (v : Nat) (junk : List (List Ce)), m = d.rows.length - i ∧ i ≤ d.rows.length ∧ k = i ∧ Jk 2 junk ∧
    fr = [(2, .c (.fp (encData d))), (3, .c (.fp (encRowD x))), (4, .c (.ptr (σ.next + 0) 0 0 0)), (5, .c (vec (σ.next + 1) v ((d.rows.take i).map encRowD) junk)), (6, .c (.bool false)), (7, .c (.int .i64 k))] ∧ τ = E σ [(0, [[.nils]]), (v, (d.rows.take i).map encRowD ++ junk)]) ?_ _ _ _ ⟨0, _, 0, [], rfl, Nat.zero_le _, rfl, Jk.nil, rfl, rfl⟩)
  rintro m fr τ ⟨i, k, v, junk, rfl, hi, hk, hj, rfl, rfl⟩ hrec
  have hbd : (((d.rows.take i).map encRowD).length + 1) * 32 ≤ 140737488355328 := by rw [List.length_map, List.length_take]; omega
  by_cases hlt : i < d.rows.length
  · have hid := hx _ (List.getElem_mem hlt)
    have e1 : (d.rows.take i).map encRowD ++ [encRowD d.rows[i]] = (d.rows.take (i + 1)).map encRowD := by rw [List.take_succ_eq_append_getElem hlt, List.map_append]; rfl
    have hng : ¬ d.rows[i].id ≥ x.id := by omega
    have hne : ¬ d.rows[i].id = x.id := by omega
    repeat' first|refine yaG ?_|((first|apply yG|apply yH|apply yI);exact rfl;(first|exact yX (enc := encRowD) rfl rfl hk hlt rfl))|(apply Go.app1;exact rfl;exact rfl;exact rfl;exact rfl;exact rfl;exact rowD_len;exact hj;exact rfl;exact hbd;intro v' junk' hj')|(exfalso;omega)|(refine yaS ?_ ?_<;>intro _)
    all_goals first
      | (exfalso; omega)
      | skip
    refine Go.keep [2, 3, 4, 5, 6, 7] (hrec _ _ _ (by omega) ⟨i + 1, _, v', junk', rfl, hlt, wrap_succ hk (by omega), hj', ?_, ?_⟩)
    · rw [← e1]; rfl
    · rw [← e1]; rfl
  · repeat' first|refine yaG ?_|(apply Go.app1;exact rfl;exact rfl;exact rfl;exact rfl;exact rfl;exact rowD_len;exact hj;exact rfl;exact hbd;intro v' junk' hj')|(exfalso;omega)|(refine yaS ?_ ?_<;>intro _)
    refine .ret (retv_m rfl rfl rfl (Nat.zero_le _) rfl) ⟨_, rfl, .agg rfl fun j hj0 => ?_⟩
    have hj1 : j = 0 := by simp at hj0; omega
    subst hj1
    have e1 : (d.rows.take i).map encRowD ++ [encRowD x] = (d.rows ++ [x]).map encRowD := by rw [List.take_of_length_le (by omega), List.map_append]; rfl
    have hz : FrzV (E σ [(0, [[vec (σ.next + 1) v' ((d.rows.take i).map encRowD ++ [encRowD x]) junk']]), (v', (d.rows.take i).map encRowD ++ [encRowD x] ++ junk')]) σ.next (.c (vec (σ.next + 1) v' ((d.rows.take i).map encRowD ++ [encRowD x]) junk')) (.c (.fz ((d.rows.take i).map encRowD ++ [encRowD x]))) :=
      frz_old (k := 1) rfl (by rw [e1]; exact oldRows _) (Nat.le_add_right _ _)
    cases hz with
    | c h =>
      have h2 : Frz (E σ [(0, [[vec (σ.next + 1) v' ((d.rows.take i).map encRowD ++ [encRowD x]) junk']]), (v', (d.rows.take i).map encRowD ++ [encRowD x] ++ junk')]) σ.next (vec (σ.next + 1) v' ((d.rows.take i).map encRowD ++ [encRowD x]) junk') (.fz ((d.rows ++ [x]).map encRowD)) := by
        rw [← e1]
        exact h
      exact h2
end Go.Proofs.YtdgnfdljkghpjaaGreat.Am

/- A row put in by the reference: whole, told by existence. -/
set_option linter.unusedVariables false
set_option linter.unusedSimpArgs false
namespace Go.Proofs.YtdgnfdljkghpjaaGreat.Am

theorem splice1 (e : List Ce) (x : Ce) (h : e.length = 1) : splice e 0 [x] = [x] := by
  rw [splice, List.take_zero, List.nil_append, List.drop_eq_nil_of_le (by simp; omega), List.append_nil]
theorem set_left {α : Type} {l m : List α} {i : Nat} {x : α} (h : i < l.length) : (l ++ m).set i x = l.set i x ++ m := List.set_append_left _ _ h
theorem l4With_ok (db : List Data) (q : Int) (n : Nat) (d : Data) (hq : q = (n : Int)) (hn : n < db.length) (hd : db.length ≤ 60) : Pure Tryz.prog 211 [.c (.fz (db.map encData)), .c (.int .i64 q), .agg (encData d)] (.c (.fz ((db.set n d).map encData))) := by
  refine Pure.run mixed c_spec_l4With_ok (Nat.le_of_ble_eq_true rfl) fun σ hS hA => ?_
  clear hS hA
  repeat' first|refine yaG ?_|(exfalso;omega)|(refine yaS ?_ ?_<;>intro _)
  refine Go.app (k := 0) (ys := []) (junk := []) (zs := db.map encData) rfl rfl rfl rfl rfl (fun e he => by cases he) Jk.nil data_len (by simp; omega) fun v junk hj => ?_
  have hn2 : n < (db.map encData).length := by simpa using hn
  have hg : (E σ [(v, [] ++ db.map encData ++ junk)]).get (σ.next + 0) = some (v, [] ++ db.map encData ++ junk) := E_get (k := 0) rfl
  have he : ([] ++ db.map encData ++ junk)[0 + n]? = some (encData db[n]) := by
    rw [List.nil_append, Nat.zero_add, List.getElem?_append_left hn2]
    simp [hn]
  have he2 : ([] ++ db.map encData ++ junk)[0 + n]? = some (encData db[n]) := he
  repeat' first|refine yaG ?_|((first|apply yG|apply yH|apply yI);exact rfl;(first|exact aop_iaddrO rfl rfl hq (by simpa using hn2) hg he rfl|exact aop_store (k := 0) rfl rfl rfl rfl he2 rfl (Nat.le_of_ble_eq_true rfl)))|(exfalso;omega)|(refine yaS ?_ ?_<;>intro _)
  refine .ret rfl ⟨_, rfl, ?_⟩
  have e1 : ([] ++ db.map encData ++ junk).set (0 + n) (splice (encData db[n]) 0 (encData d)) = (db.set n d).map encData ++ junk := by
    rw [List.nil_append, Nat.zero_add, show splice (encData db[n]) 0 (encData d) = encData d from splice1 _ _ rfl, set_left hn2, List.map_set]
  have hz := frz_old (σ := σ) (l := [(v, (db.set n d).map encData ++ junk)]) (k := 0) (N := σ.next) (v := v) (ys := (db.set n d).map encData) (junk := junk) rfl (oldDatas _) (Nat.le_refl _)
  rw [← e1] at hz
  have e2 : vec (σ.next + 0) v ((db.set n d).map encData) junk = vec (σ.next + 0) v ([] ++ db.map encData) junk := by simp [vec]
  rw [e2] at hz
  exact hz
def outC (db : List Data) (i : Nat) : List (List Ce) := (db.take i).map encData ++ List.replicate (db.length - i) [.nils]
theorem outC_at {db : List Data} {i : Nat} (h : i < db.length) : (outC db i)[0 + i]? = some [.nils] := by
  rw [outC, Nat.zero_add, List.getElem?_append_right (by rw [List.length_map, List.length_take]; omega), List.getElem?_replicate, if_pos (by rw [List.length_map, List.length_take]; omega)]
theorem outC_set {db : List Data} {i : Nat} (h : i < db.length) : (outC db i).set (0 + i) (encData db[i]) = outC db (i + 1) := by
  have e1 : db.length - i = (db.length - (i + 1)) + 1 := by omega
  have e2 : i - (db.take i).length = 0 := by rw [List.length_take]; omega
  rw [outC, outC, Nat.zero_add, List.set_append_right _ _ (by simp; omega), List.length_map, e2, e1, List.replicate_succ, List.set_cons_zero, List.take_succ_eq_append_getElem h, List.map_append, List.append_assoc]
  rfl
theorem l4Copy_ok (db : List Data) (hd : db.length ≤ 60) (hr : ∀ d ∈ db, d.rows.length ≤ 60 ∧ ∀ r ∈ d.rows, r.vals.length ≤ 34359738368) : Pure Tryz.prog 180 [.c (.fz (db.map encData))] (.c (.fz (db.map encData))) := by
  refine Pure.run mixed c_spec_l4Copy_ok (Nat.le_of_ble_eq_true rfl) fun σ hS hA => ?_
  clear hA
  have hmk : 24 * db.length ≤ 140737488355328 := by omega
  repeat' first|refine yaG ?_|((first|apply yG|apply yH|apply yI);exact rfl;(first|exact aop_mkslice rfl rfl hmk))|(exfalso;omega)|(refine yaS ?_ ?_<;>intro _)
  refine Go.keep [0, 3, 4] (Go.loops (I := fun m fr τ => ∃ (i : Nat) (k : Int), m = db.length - i ∧ i ≤ db.length ∧ k = i ∧
    fr = [(0, .c (.fz (db.map encData))), (3, .c (.sl (σ.next + 0) 0 0 db.length db.length)), (4, .c (.int .i64 k))] ∧ τ = E σ [(0, outC db i)]) ?_ _ _ _ ⟨0, _, rfl, Nat.zero_le _, rfl, rfl, by rw [outC]; simp⟩)
  rintro m fr τ ⟨i, k, rfl, hi, hk, rfl, rfl⟩ hrec
  by_cases hlt : i < db.length
  · obtain ⟨hr1, hr2⟩ := hr _ (List.getElem_mem hlt)
    repeat' first|refine yaG ?_|(exfalso;omega)|(refine yaS ?_ ?_<;>intro _)
    refine Go.keep [0, 3, 4, 5, 6] (Go.loops (I := fun m fr τ => ∃ (j : Nat) (kj : Int) (v : Nat) (junk : List (List Ce)), m = db[i].rows.length - j ∧ j ≤ db[i].rows.length ∧ kj = j ∧ Jk 2 junk ∧
      fr = [(0, .c (.fz (db.map encData))), (3, .c (.sl (σ.next + 0) 0 0 db.length db.length)), (4, .c (.int .i64 k)), (5, .c (vec (σ.next + 1) v ((db[i].rows.take j).map encRowD) junk)), (6, .c (.int .i64 kj))] ∧ τ = E σ [(0, outC db i), (v, (db[i].rows.take j).map encRowD ++ junk)]) ?_ _ _ _ ⟨0, _, 0, [], rfl, Nat.zero_le _, rfl, Jk.nil, rfl, rfl⟩)
    rintro m fr τ ⟨j, kj, v, junk, rfl, hj, hkj, hjk, rfl, rfl⟩ hrecj
    by_cases hltj : j < db[i].rows.length
    · have hbd : (((db[i].rows.take j).map encRowD).length + 1) * 32 ≤ 140737488355328 := by rw [List.length_map, List.length_take]; omega
      have e1 : (db[i].rows.take j).map encRowD ++ [encRowD db[i].rows[j]] = (db[i].rows.take (j + 1)).map encRowD := by rw [List.take_succ_eq_append_getElem hltj, List.map_append]; rfl
      have cc := l1CopyVals_pure db[i].rows[j].vals (hr2 _ (List.getElem_mem hltj))
      repeat' first|refine yaG ?_|((first|apply yG|apply yH|apply yI);exact rfl;(first|exact yX (enc := encData) rfl rfl hk hlt rfl|exact yX (enc := encRowD) rfl rfl hkj hltj rfl))|(apply Go.sapp1;exact rfl;exact rfl;exact rfl;exact rfl;exact rfl;exact rowD_len;exact hjk;exact rfl;exact hbd;intro v' junk' hj')|refine yaC (cc) ?_|(exfalso;omega)|(refine yaS ?_ ?_<;>intro _)
      refine Go.keep [0, 3, 4, 5, 6] (hrecj _ _ _ (by omega) ⟨j + 1, _, v', junk', rfl, hltj, wrap_succ hkj (by omega), hj', ?_, ?_⟩)
      · rw [← e1]; rfl
      · rw [← e1]; rfl
    · clear hrecj
      repeat' first|refine yaG ?_|((first|apply yG|apply yH|apply yI);exact rfl;(first|exact yX (enc := encData) rfl rfl hk hlt rfl))|(exfalso;omega)|(refine yaS ?_ ?_<;>intro _)
      have e1 : db[i].rows.take j = db[i].rows := List.take_of_length_le (by omega)
      rw [e1]
      refine Go.freezeN (l := [(0, outC db i)]) (m := [(v, db[i].rows.map encRowD ++ junk)]) (fr' := [(0, .c (.fz (db.map encData))), (3, .c (.sl (σ.next + 0) 0 0 db.length db.length)), (4, .c (.int .i64 k)), (50, .c (.sl (σ.next + 0) 0 0 db.length db.length)), (51, .c (.int .i64 k)), (53, .agg [.fz (db[i].rows.map encRowD)])]) hS (fun b hb e he x hx => ?_) (Nat.le_refl _) (.frz rfl (.refl fun y hy => ?_) (.frz rfl (.refl (old_sl (Nat.lt_succ_self _))) (.frz rfl (.refl old_c) (.frz rfl (.refl (old_sl (Nat.lt_succ_self _))) (.frz rfl (.refl old_c) (.frz rfl (.agg rfl fun j hj0 => ?_) .nil)))))) ?_
      · rw [List.mem_singleton.1 hb] at he
        rcases List.mem_append.1 he with he | he
        · exact oldDatas _ e he x hx
        · rw [List.eq_of_mem_replicate he] at hx
          rw [List.mem_singleton.1 hx]
          exact .nils
      · rw [List.mem_singleton.1 hy]
        exact old_fz1 (oldDatas _)
      · have hz : FrzV (E σ ([(0, outC db i)] ++ [(v, db[i].rows.map encRowD ++ junk)])) (σ.next + [(0, outC db i)].length) (.c (vec (σ.next + 1) v (db[i].rows.map encRowD) junk)) (.c (.fz (db[i].rows.map encRowD))) := frz_old (k := 1) rfl (oldRows _) (Nat.le_refl _)
        have hj1 : j = 0 := by have hj9 : j < 1 := hj0; omega
        subst hj1
        cases hz with
        | c h => exact h
      have he := outC_at hlt
      have hg : (E σ [(0, outC db i)]).get (σ.next + 0) = some (0, outC db i) := E_get (k := 0) rfl
      repeat' first|refine yaG ?_|((first|apply yG|apply yH|apply yI);exact rfl;(first|exact aop_iaddrO rfl rfl hk hlt hg he rfl|exact aop_store (k := 0) rfl rfl rfl rfl he rfl (Nat.le_of_ble_eq_true rfl)))|(exfalso;omega)|(refine yaS ?_ ?_<;>intro _)
      refine Go.keep [0, 3, 4] (hrec _ _ _ (by omega) ⟨i + 1, _, rfl, hlt, wrap_succ hk (by omega), rfl, ?_⟩)
      rw [← outC_set hlt]
      rfl
  · repeat' first|refine yaG ?_|(exfalso;omega)|(refine yaS ?_ ?_<;>intro _)
    refine .ret rfl ⟨_, rfl, ?_⟩
    have e1 : outC db i = db.map encData ++ [] := by rw [outC, List.take_of_length_le (by omega), show db.length - i = 0 by omega]; rfl
    have hz := frz_old (σ := σ) (l := [(0, db.map encData ++ [])]) (k := 0) (N := σ.next) (v := 0) (ys := db.map encData) (junk := []) rfl (oldDatas _) (Nat.le_refl _)
    rw [← e1] at hz
    have e2 : vec (σ.next + 0) 0 (db.map encData) [] = .sl (σ.next + 0) 0 0 db.length db.length := by simp [vec]
    rw [e2] at hz
    exact hz
theorem DbNew_ok (s : List Table) (hx : s.length ≤ 34359738368) (hb : ∀ t ∈ s, bTable 34359738368 t) : Pure Tryz.prog 137 [.c (.fz (s.map encTable))] (.tup [.c (.fz ((if schemaF s then List.replicate s.length (⟨[]⟩ : Data) else []).map encData)), .c (.bool (schemaF s))]) := by
  refine Pure.run mixed c_spec_DbNew_ok (Nat.le_of_ble_eq_true rfl) fun σ hS hA => ?_
  clear hS hA
  have c1 := sSchemaOk_ok s hx hb
  cases h : schemaF s
  · rw [h] at c1
    repeat' first|refine yaG ?_|refine yaC (c1) ?_|(exfalso;omega)|(refine yaS ?_ ?_<;>intro _)
    exact .ret rfl ⟨_, rfl, .tup rfl fun i hi => by
      have : i = 0 ∨ i = 1 := by simp at hi; omega
      rcases this with rfl | rfl
      · exact .c .nil
      · exact .c (.same _ (.bool _))⟩
  · rw [h] at c1
    have h5 : s.length ≤ 5 := by
      simp only [schemaF, Bool.and_eq_true, decide_eq_true_eq] at h
      omega
    have hmk : 24 * s.length ≤ 140737488355328 := by omega
    repeat' first|refine yaG ?_|((first|apply yG|apply yH|apply yI);exact rfl;(first|exact aop_mkslice rfl rfl hmk))|refine yaC (c1) ?_|(exfalso;omega)|(refine yaS ?_ ?_<;>intro _)
    refine .ret rfl ⟨_, rfl, .tup rfl fun i hi => ?_⟩
    have : i = 0 ∨ i = 1 := by simp at hi; omega
    rcases this with rfl | rfl
    · have e1 : (List.replicate s.length (⟨[]⟩ : Data)).map encData = List.replicate s.length [.fz []] := by rw [List.map_replicate]; rfl
      refine .c (.sl _ _ _ _ _ (List.replicate s.length [.nils]) _ (Nat.le_add_right _ _) (E_get (k := 0) rfl) (by simp) (by simp) (fun k hk => ?_) (fun k j hk hj => ?_))
      · simp only [if_true, e1, List.getElem_replicate]
        rfl
      · have hj0 : j = 0 := by
          simp only [if_true, e1, List.getElem_replicate] at hj
          simpa using hj
        subst hj0
        simp only [if_true, e1, List.getElem_replicate]
        exact .nil
    · exact .c (.same _ (.bool _))
/-! ### what stays right -/
theorem rowsAux_snoc {t : Table} {x : RowD} (h1 : isIn x.id 1 1000000000 = true) (h2 : fitF t x.vals = true) : ∀ {l : List RowD} {p : Option Int}, rowsAux t p l = true → (∀ q ∈ l, q.id < x.id) → (∀ q, p = some q → q < x.id) → rowsAux t p (l ++ [x]) = true
  | [], p, _, _, h => by
    have h3 : risesId p x.id = true := by
      cases p with
      | none => rfl
      | some q => exact decide_eq_true (h q rfl)
    simp [rowsAux, rowOne, h1, h2, h3]
  | a :: l, p, h, hl, hp => by
    rw [rowsAux, Bool.and_eq_true] at h
    rw [List.cons_append, rowsAux, h.1, rowsAux_snoc h1 h2 h.2 (fun q hq => hl q (by simp [hq])) fun q hq => by injection hq with hq; rw [← hq]; exact hl a (by simp)]
    rfl
theorem dbAux_of : ∀ {s : List Table} {db : List Data}, (∀ i (hi : i < s.length) (hi2 : i < db.length), rowsF s[i] db[i].rows = true) → dbAux s db = true
  | [], _, _ => by simp [dbAux]
  | _ :: _, [], _ => by simp [dbAux]
  | t :: s, d :: db, h => by
    rw [dbAux, show rowsF t d.rows = true from h 0 (by simp) (by simp), dbAux_of fun i hi hi2 => h (i + 1) (by simp; omega) (by simp; omega)]
    rfl
theorem dbF_put {s : List Table} {db : List Data} (h : dbF s db = true) {n : Nat} (hn : n < s.length) (hn2 : n < db.length) {x : RowD} (h1 : isIn x.id 1 1000000000 = true) (h2 : fitF s[n] x.vals = true) (h3 : ∀ q ∈ db[n].rows, q.id < x.id) (h4 : db[n].rows.length < 60) : dbF s (db.set n ⟨db[n].rows ++ [x]⟩) = true := by
  obtain ⟨hs, hl, hrows⟩ := dbF_at h
  rw [dbF, hs, List.length_set, decide_eq_true (by omega), Bool.true_and, Bool.true_and]
  refine dbAux_of fun i hi hi2 => ?_
  rw [List.getElem_set]
  split
  · rename_i e
    subst e
    have hr := hrows n hn hn2
    rw [rowsF, Bool.and_eq_true] at hr ⊢
    exact ⟨rowsAux_snoc h1 h2 hr.1 h3 (fun q hq => nomatch hq), by rw [List.length_append, List.length_singleton]; exact decide_eq_true (by omega)⟩
  · exact hrows i hi _
theorem dbF_b {s : List Table} {db : List Data} (h : dbF s db = true) : db.length ≤ 5 ∧ (∀ d ∈ db, bData 34359738368 d) ∧ ∀ d ∈ db, d.rows.length ≤ 60 ∧ ∀ r ∈ d.rows, 1 ≤ r.vals.length ∧ r.vals.length ≤ 8 ∧ ∀ w ∈ r.vals, bV 12 w := by
  obtain ⟨hs, hl, hrows⟩ := dbF_at h
  have h5 : s.length ≤ 5 := by
    have := hs
    simp only [schemaF, Bool.and_eq_true, decide_eq_true_eq] at this
    omega
  have key : ∀ d ∈ db, d.rows.length ≤ 60 ∧ ∀ r ∈ d.rows, 1 ≤ r.vals.length ∧ r.vals.length ≤ 8 ∧ ∀ w ∈ r.vals, bV 12 w := fun d hd => by
    obtain ⟨i, hi, rfl⟩ := List.getElem_of_mem hd
    have hr := rowsF_mem (hrows i (by omega) hi)
    refine ⟨hr.1, fun r hm => ?_⟩
    obtain ⟨f1, f2⟩ := fitF_vals (hr.2 r hm).1
    have hc := schemaF_cols hs _ (List.getElem_mem (show i < s.length by omega))
    refine ⟨by omega, by omega, fun w hw => ?_⟩
    have := f2 w hw
    simp only [okVal, Bool.or_eq_true, Bool.and_eq_true, beq_iff_eq, decide_eq_true_eq] at this
    rw [bV]
    rcases this with (⟨_, h⟩ | ⟨_, h⟩) | ⟨_, h⟩
    · rw [h]; simp
    · rw [h]; simp
    · omega
  refine ⟨by omega, fun d hd => ⟨by have := (key d hd).1; omega, fun r hr => ?_⟩, key⟩
  obtain ⟨_, k2, k3⟩ := (key d hd).2 r hr
  exact ⟨by omega, fun w hw => Nat.le_trans (k3 w hw) (by decide)⟩
/-- A right database with a code, or none with another one. -/
def Put (s : List Table) (bad : Int → Prop) (r : AV) : Prop := ∃ y id code, r = .tup [.c y, .c (.int .i64 id), .c (.int .i64 code)] ∧ (¬ bad code → ∃ db, dbF s db = true ∧ y = .fz (db.map encData))
theorem fin_put {σ : Store} {l : List (Nat × List (List Ce))} {y : Ce} {a b : Int} (hy : Old σ.next y) : FrzV (E σ l) σ.next (.tup [.c y, .c (.int .i64 a), .c (.int .i64 b)]) (.tup [.c y, .c (.int .i64 a), .c (.int .i64 b)]) := .tup rfl fun i hi => by
  have : i = 0 ∨ i = 1 ∨ i = 2 := by simp at hi; omega
  rcases this with rfl | rfl | rfl
  · exact .c (.same _ hy)
  · exact .c (.same _ (.int _ _))
  · exact .c (.same _ (.int _ _))
theorem l6Insert_ok (s : List Table) (db : List Data) (q : Int) (n : Nat) (vals : List Val) (hq : q = (n : Int)) (hn : n < s.length) (hn2 : n < db.length) (h : dbF s db = true) (hb : ∀ t ∈ s, bTable 34359738368 t) (hf : fitF s[n] vals = true) :
    Told Tryz.prog 179 [.c (.fz (s.map encTable)), .c (.fz (db.map encData)), .c (.int .i64 q), .c (.fz (vals.map encV)), .c (.bool false)] (Put s fun c => c ≠ 0) := by
  refine Told.run mixed c_spec_l6Insert_ok (Nat.le_of_ble_eq_true rfl) fun σ hS => ?_
  clear hS
  obtain ⟨hs, hl, hrows⟩ := dbF_at h
  have hrn := hrows n hn hn2
  have hmem := rowsF_mem hrn
  have hT := schemaF_tab hs _ (List.getElem_mem hn)
  have hfv := fitF_vals hf
  have h5 := (dbF_b h).1
  have c0 := l6Able_ok s[n] vals hfv.1 hT (fitF_are hf hT.cols8)
  repeat' first|refine yaG ?_|((first|apply yG|apply yH|apply yI);exact rfl;(first|exact yX (enc := encTable) rfl rfl hq hn rfl))|(exfalso;omega)|(refine yaS ?_ ?_<;>intro _)
  refine Go.told rfl rfl rfl c0 ?_
  rintro _ ⟨code, rfl⟩
  by_cases h0 : code = 0
  · subst h0
    repeat' first|refine yaG ?_|((first|apply yG|apply yH|apply yI);exact rfl;(first|exact yX (enc := encData) rfl rfl hq hn2 rfl))|(exfalso;omega)|(refine yaS ?_ ?_<;>intro _)
    refine Go.told rfl rfl rfl (l6Next_ok db[n] (rowsF_rise hrn) hmem.1 fun r hr => ?_) ?_
    · have := (hmem.2 r hr).2
      simp only [isIn, Bool.and_eq_true, decide_eq_true_eq] at this
      exact this
    rintro _ ⟨k, hk1, hk2, hk3, rfl⟩
    have cc := l1CopyVals_pure vals (by have h8 := hT.cols8; have hf1 := hfv.1; omega)
    repeat' first|refine yaG ?_|refine yaC (cc) ?_|(exfalso;omega)|(refine yaS ?_ ?_<;>intro _)
    have hR := db_tab h hb hn hn2
    have hK : KeysR s[n] db[n] ⟨k, vals⟩ := ⟨hT.uniq3, hR.keys, fun c hc => by show InR c vals.length; rw [hfv.1]; exact hR.inr c hc, fun c hc r hr => by rw [(hR.row r hr).len]; exact hR.inr c hc⟩
    refine Go.told rfl rfl rfl (l6Clear_ok s db q n ⟨k, vals⟩ hq hn hn2 hmem.1 hK) ?_
    rintro _ (rfl | rfl)
    · by_cases hfull : db[n].rows.length = 60
      · have hfi : (db[n].rows.length : Int) = 60 := by omega
        repeat' first|refine yaG ?_|((first|apply yG|apply yH|apply yI);exact rfl;(first|exact yX (enc := encData) rfl rfl hq hn2 rfl))|(exfalso;omega)|(refine yaS ?_ ?_<;>intro _)
        exact .ret rfl ⟨_, ⟨_, _, _, rfl, fun hh => absurd (by decide) hh⟩, _, rfl, fin_put .nils⟩
      · have hfi : ¬ (db[n].rows.length : Int) = 60 := by omega
        by_cases hbig : k > 1000000000
        · repeat' first|refine yaG ?_|((first|apply yG|apply yH|apply yI);exact rfl;(first|exact yX (enc := encData) rfl rfl hq hn2 rfl))|(exfalso;omega)|(refine yaS ?_ ?_<;>intro _)
          exact .ret rfl ⟨_, ⟨_, _, _, rfl, fun hh => absurd (by decide) hh⟩, _, rfl, fin_put .nils⟩
        · have hd2 := dbF_put h hn hn2 (x := ⟨k, vals⟩) (by simp only [isIn, Bool.and_eq_true, decide_eq_true_eq]; omega) hf hk3 (by omega)
          have c4 := l4Put_ok db[n] ⟨k, vals⟩ hmem.1 hk3
          have c5 := l4With_ok db q n ⟨db[n].rows ++ [⟨k, vals⟩]⟩ hq hn2 (by omega)
          generalize hdb' : db.set n ⟨db[n].rows ++ [⟨k, vals⟩]⟩ = db' at hd2 c5
          have hl2 : db'.length = db.length := by rw [← hdb', List.length_set]
          have hR2 := db_tab hd2 hb hn (by omega)
          have hx : (⟨k, vals⟩ : RowD) ∈ (db'[n]'(by omega)).rows := by
            have : db'[n]'(by omega) = ⟨db[n].rows ++ [⟨k, vals⟩]⟩ := by simp only [← hdb', List.getElem_set_self]
            rw [this]
            simp
          have c6 := l5Refers_ok s db' q n vals true (by omega) hq hn hT.fk3 (hR2.row _ hx).fks
          generalize (!(s[n].fks.any (lostBad s db' (!true) vals))) = B at c6
          cases B
          · repeat' first|refine yaG ?_|((first|apply yG|apply yH|apply yI);exact rfl;(first|exact yX (enc := encData) rfl rfl hq hn2 rfl))|refine yaC (c4) ?_|refine yaC (c5) ?_|refine yaC (c6) ?_|(exfalso;omega)|(refine yaS ?_ ?_<;>intro _)
            exact .ret rfl ⟨_, ⟨_, _, _, rfl, fun hh => absurd (by decide) hh⟩, _, rfl, fin_put .nils⟩
          · repeat' first|refine yaG ?_|((first|apply yG|apply yH|apply yI);exact rfl;(first|exact yX (enc := encData) rfl rfl hq hn2 rfl))|refine yaC (c4) ?_|refine yaC (c5) ?_|refine yaC (c6) ?_|(exfalso;omega)|(refine yaS ?_ ?_<;>intro _)
            exact .ret rfl ⟨_, ⟨_, _, _, rfl, fun _ => ⟨db', hd2, rfl⟩⟩, _, rfl, fin_put (old_fz1 (oldDatas _))⟩
    · repeat' first|refine yaG ?_|(exfalso;omega)|(refine yaS ?_ ?_<;>intro _)
      exact .ret rfl ⟨_, ⟨_, _, _, rfl, fun hh => absurd (by decide) hh⟩, _, rfl, fin_put .nils⟩
  · repeat' first|refine yaG ?_|(exfalso;omega)|(refine yaS ?_ ?_<;>intro _)
    exact .ret rfl ⟨_, ⟨_, _, _, rfl, fun hh => absurd h0 hh⟩, _, rfl, fin_put .nils⟩
theorem InsertRow_told (s : List Table) (db : List Data) (q : Int) (n : Nat) (vals : List Val) (hq : q = (n : Int)) (hn : n < s.length) (hx : s.length ≤ 34359738368) (h : dbF s db = true) (hb : ∀ t ∈ s, bTable 34359738368 t) (hv : vals.length ≤ 34359738368) :
    Told Tryz.prog 139 [.c (.fz (s.map encTable)), .c (.fz (db.map encData)), .c (.int .i64 q), .c (.fz (vals.map encV)), .c (.bool false)] (Put s fun c => c = 1) := by
  refine Told.run mixed c_spec_InsertRow_ok (Nat.le_of_ble_eq_true rfl) fun σ hS => ?_
  clear hS
  obtain ⟨hs, hl, hrows⟩ := dbF_at h
  obtain ⟨h5, hbd, hrl⟩ := dbF_b h
  have hn2 : n < db.length := by omega
  have c1 := l6Ok_ok s db q hx hb (by omega) hbd
  have hin : isIn q 0 (s.length - 1) = true := by simp only [isIn, Bool.and_eq_true, decide_eq_true_eq]; omega
  rw [h, hin] at c1
  have c2 := l4Kinds_ok s[n] vals hv
  cases hf : fitF s[n] vals
  · rw [hf] at c2
    repeat' first|refine yaG ?_|((first|apply yG|apply yH|apply yI);exact rfl;(first|exact yX (enc := encTable) rfl rfl hq hn rfl))|refine yaC (c1) ?_|refine yaC (c2) ?_|(exfalso;omega)|(refine yaS ?_ ?_<;>intro _)
    exact .ret rfl ⟨_, ⟨_, _, _, rfl, fun hh => absurd rfl hh⟩, _, rfl, fin_put .nils⟩
  · rw [hf] at c2
    repeat' first|refine yaG ?_|((first|apply yG|apply yH|apply yI);exact rfl;(first|exact yX (enc := encTable) rfl rfl hq hn rfl))|refine yaC (c1) ?_|refine yaC (c2) ?_|(exfalso;omega)|(refine yaS ?_ ?_<;>intro _)
    refine Go.told rfl rfl rfl (l6Insert_ok s db q n vals hq hn hn2 h hb hf) ?_
    rintro _ ⟨y, id, code, rfl, hok⟩
    have cdb := l4Copy_ok db (by omega) fun d hd => ⟨(hrl d hd).1, fun r hr => by have := ((hrl d hd).2 r hr).2.1; omega⟩
    by_cases h0 : code = 0
    · subst h0
      obtain ⟨db', hd', rfl⟩ := hok (by decide)
      obtain ⟨h5', _, hrl'⟩ := dbF_b hd'
      have cdb' := l4Copy_ok db' (by omega) fun d hd => ⟨(hrl' d hd).1, fun r hr => by have := ((hrl' d hd).2 r hr).2.1; omega⟩
      repeat' first|refine yaG ?_|refine yaC (cdb') ?_|(exfalso;omega)|(refine yaS ?_ ?_<;>intro _)
      exact .ret rfl ⟨_, ⟨_, _, _, rfl, fun _ => ⟨db', hd', rfl⟩⟩, _, rfl, fin_put (old_fz1 (oldDatas _))⟩
    · repeat' first|refine yaG ?_|refine yaC (cdb) ?_|(exfalso;omega)|(refine yaS ?_ ?_<;>intro _)
      exact .ret rfl ⟨_, ⟨_, _, _, rfl, fun _ => ⟨db, h, rfl⟩⟩, _, rfl, fin_put (old_fz1 (oldDatas _))⟩
end Go.Proofs.YtdgnfdljkghpjaaGreat.Am

/- The reader that draws: databases and places. -/
set_option linter.unusedVariables false
set_option linter.unusedSimpArgs false
namespace Go.Proofs.YtdgnfdljkghpjaaGreat.Am

/-- A drawn database: right, or none. -/
def Bases (s : List Table) (r : AV) : Prop := ∃ db : List Data, (dbF s db = true ∨ db = []) ∧ r = .c (.fz (db.map encData))
theorem oldTables {n : Nat} (l : List Table) : OldL n (l.map encTable) := fun e he c hc => by
  obtain ⟨a, _, rfl⟩ := List.mem_map.1 he
  simp only [encTable, List.mem_cons, List.not_mem_nil, or_false] at hc
  rcases hc with rfl | rfl | rfl | rfl | rfl | rfl
  · exact .str _
  · exact old_fz1 (oldCols _)
  · exact old_fz1 (oldInts _)
  · exact old_fz1 (oldUniqs _)
  · exact old_fz1 (oldChks _)
  · exact old_fz1 (oldFks _)
theorem place_ok (s : List Table) (db : List Data) (h1 : 1 ≤ s.length) (h3 : s.length ≤ 3) : Draws Tryz.prog 78 [.c (.fz (s.map encTable)), .c (.fz (db.map encData))] AnyI := by
  refine Draws.run mixed c_spec_l1Rd_place_ok (Nat.le_of_ble_eq_true rfl) fun σ id v code p hr hp hc hS => ?_
  clear hS
  have hw : IntKind.i64.wrap ((s.length : Int) - 1) = s.length - 1 := wrap64 (by omega) (by omega)
  repeat' first|refine yaG ?_|(exfalso;omega)|(refine yaS ?_ ?_<;>intro _)
  refine Go.drawn hr hp rfl rfl rfl (once_ok 30 (by decide) (by decide)) ?_
  rintro _ q hq ⟨b, rfl⟩
  cases b
  · by_cases he : (db.length : Int) = s.length
    · repeat' first|refine yaG ?_|(exfalso;omega)|(refine yaS ?_ ?_<;>intro _)
      refine Go.drawn hr hq rfl rfl rfl (below_ok s.length (by omega) (by omega)) ?_
      rintro _ q2 hq2 ⟨k, _, _, rfl⟩
      repeat' first|refine yaG ?_|(exfalso;omega)|(refine yaS ?_ ?_<;>intro _)
      exact .ret rfl (.c hq2 ⟨_, rfl⟩ old_c)
    · repeat' first|refine yaG ?_|(exfalso;omega)|(refine yaS ?_ ?_<;>intro _)
      rw [hw]
      refine Go.drawn hr hq rfl rfl rfl (off_ok 0 (s.length - 1) (by decide) (by decide) (by omega) (by omega)) ?_
      rintro _ q2 hq2 ⟨k, rfl⟩
      repeat' first|refine yaG ?_|(exfalso;omega)|(refine yaS ?_ ?_<;>intro _)
      exact .ret rfl (.c hq2 ⟨_, rfl⟩ old_c)
  · repeat' first|refine yaG ?_|(exfalso;omega)|(refine yaS ?_ ?_<;>intro _)
    rw [hw]
    refine Go.drawn hr hq rfl rfl rfl (off_ok 0 (s.length - 1) (by decide) (by decide) (by omega) (by omega)) ?_
    rintro _ q2 hq2 ⟨k, rfl⟩
    repeat' first|refine yaG ?_|(exfalso;omega)|(refine yaS ?_ ?_<;>intro _)
    exact .ret rfl (.c hq2 ⟨_, rfl⟩ old_c)
theorem SmallT.b34 {t : Table} (h : SmallT t) : bTable 34359738368 t := by
  obtain ⟨⟨b1, ⟨b2, b3⟩, b4, ⟨b5, b6⟩, ⟨b7, b8⟩, b9, b10⟩, _, _⟩ := h
  have k : ∀ {n : Nat}, n ≤ 12 → n ≤ 34359738368 := fun h => by omega
  refine ⟨k b1, ⟨k b2, fun x hx => ?_⟩, k b4, ⟨k b5, fun x hx => k (b6 x hx)⟩, ⟨k b7, fun x hx => ?_⟩, k b9, fun x hx => ⟨k (b10 x hx).1, k (b10 x hx).2⟩⟩
  · exact ⟨k (b3 x hx).1, k (b3 x hx).2⟩
  · exact ⟨k (b8 x hx).1, fun t ht => k ((b8 x hx).2 t ht)⟩
theorem SchD.b {s : List Table} (h : SchD s) : s.length ≤ 34359738368 ∧ ∀ t ∈ s, bTable 34359738368 t := ⟨by have := h.2.1; omega, fun t ht => (h.2.2 t ht).b34⟩
theorem dbF_new {s : List Table} (h : schemaF s = true) : dbF s (List.replicate s.length (⟨[]⟩ : Data)) = true := by
  rw [dbF, h, List.length_replicate, decide_eq_true rfl, Bool.true_and, Bool.true_and]
  refine dbAux_of fun i hi hi2 => ?_
  simp [rowsF, rowsAux]
theorem below_pos {n : Nat} (h : 0 < n) {r : AV} (hr : BelowR (n : Int) r) : ∃ k : Nat, k < n ∧ r = .c (.int .i64 (k : Int)) := by
  obtain ⟨k, h0, h1, rfl⟩ := hr
  refine ⟨k.toNat, by omega, by rw [Int.toNat_of_nonneg h0]⟩
theorem base_ok (s : List Table) (most : Nat) (hm : 1 ≤ most) (hm2 : most ≤ 60) (hs : SchD s) : Draws Tryz.prog 77 [.c (.fz (s.map encTable)), .c (.int .i64 (most : Int))] (Bases s) := by
  refine Draws.run mixed c_spec_l1Rd_base_ok (Nat.le_of_ble_eq_true rfl) fun σ id v code p hr hp hc hS => ?_
  obtain ⟨hx, hb⟩ := hs.b
  have c0 := DbNew_ok s hx hb
  cases hsc : schemaF s
  · rw [hsc, if_neg (by decide)] at c0
    have hpos : (0 : Int) < s.length := by have := hs.1; omega
    repeat' first|refine yaG ?_|refine yaC (c0) ?_|(exfalso;omega)|(refine yaS ?_ ?_<;>intro _)
    apply Go.loop
    repeat' first|refine yaG ?_|(exfalso;omega)|(refine yaS ?_ ?_<;>intro _)
    exact .ret rfl (.c hp ⟨[], .inr rfl, rfl⟩ fun y hy => by
      rw [List.mem_singleton.1 hy]
      exact .fz _ fun i j hi => absurd hi (by simp))
  rw [hsc, if_pos rfl] at c0
  have hd0 := dbF_new hsc
  generalize List.replicate s.length (⟨[]⟩ : Data) = db0 at c0 hd0
  have hsO : ∀ y ∈ (AV.c (.fz (s.map encTable))).all, Old σ.next y := fun y hy => by
    rw [List.mem_singleton.1 hy]
    exact old_fz1 (oldTables _)
  have hs3 := hs.2.1
  have hs1 := hs.1
  repeat' first|refine yaG ?_|refine yaC (c0) ?_|(exfalso;omega)|(refine yaS ?_ ?_<;>intro _)
  refine Go.keep [0, 1, 2, 7, 8, 9] (Go.loops (I := fun m fr τ => ∃ (i : Nat) (k : Int) (q : Nat) (db : List Data), m = s.length - i ∧ i ≤ s.length ∧ k = i ∧ q ≤ code.length ∧ dbF s db = true ∧
    fr = [(0, .c (.ptr id v 0 0)), (1, .c (.fz (s.map encTable))), (2, .c (.int .i64 (most : Int))), (7, .c (.fz (db.map encData))), (8, .c (.bool true)), (9, .c (.int .i64 k))] ∧ τ = E (Rd.go σ id v code q) []) ?_ _ _ _ ⟨0, _, p, db0, rfl, Nat.zero_le _, rfl, hp, hd0, rfl, rfl⟩)
  clear c0 hd0 hp
  rintro m fr τ ⟨i, k, q, db, rfl, hi, hk, hq, hd, rfl, rfl⟩ hrec
  by_cases hlt : i < s.length
  · have hT := hs.2.2 _ (List.getElem_mem hlt)
    repeat' first|refine yaG ?_|(exfalso;omega)|(refine yaS ?_ ?_<;>intro _)
    refine Go.drawn hr hq rfl rfl rfl (below_ok most (by omega) (by omega)) ?_
    rintro _ q1 hq1 ⟨a, ha0, ha1, rfl⟩
    have ew : IntKind.i64.wrap (1 + a) = 1 + a := wrap64 (by omega) (by omega)
    repeat' first|refine yaG ?_|(exfalso;omega)|(refine yaS ?_ ?_<;>intro _)
    refine Go.keep [0, 1, 2, 7, 8, 9, 10] (Go.loops (I := fun m fr τ => ∃ (b : Int) (q : Nat) (db : List Data), m = b.toNat ∧ b ≤ 100 ∧ q ≤ code.length ∧ dbF s db = true ∧
      fr = [(0, .c (.ptr id v 0 0)), (1, .c (.fz (s.map encTable))), (2, .c (.int .i64 (most : Int))), (7, .c (.fz (db.map encData))), (8, .c (.bool true)), (9, .c (.int .i64 k)), (10, .c (.int .i64 b))] ∧ τ = E (Rd.go σ id v code q) []) ?_ _ _ _ ⟨_, q1, db, rfl, by omega, hq1, hd, rfl, rfl⟩)
    clear hq1 hd hq ew ha0 ha1
    clear db q q1
    rintro m fr τ ⟨b, q, db, rfl, hb100, hq, hd, rfl, rfl⟩ hrecb
    obtain ⟨h5, hbd, hrl⟩ := dbF_b hd
    have hdl := (dbF_at hd).2.1
    have hi2 : i < db.length := by omega
    have h00 : 0 < db.length := by omega
    have hz0 : (0 : Int) = ((0 : Nat) : Int) := rfl
    by_cases hb0 : b > 0
    · repeat' first|refine yaG ?_|((first|apply yG|apply yH|apply yI);exact rfl;(first|exact yX (enc := encTable) rfl rfl hk hlt rfl))|(exfalso;omega)|(refine yaS ?_ ?_<;>intro _)
      have cf := fit_own s[i] (by have := hT.hi; omega) (E (Rd.go σ id v code q) []) id v code q ((hr.at_ hq).E [])
      refine .call _ rfl rfl rfl cf ?_
      rintro r τ ⟨q2, vs, u, junk, hq2, hvl, hvb, hj, rfl, rfl⟩
      rw [Rd.go_E (show id < (Rd.go σ id v code q).next from hr.2.1), Rd.go_go, E_E, List.nil_append]
      have hlo := hT.lo
      have hz1 : (1 : Int) = ((1 : Nat) : Int) := rfl
      have h1v : 1 < (vs.map encV).length := by rw [List.length_map]; omega
      have h1v2 : 1 < vs.length := by omega
      have hev : (vs.map encV ++ junk)[0 + 1]? = some (encV vs[1]) := by
        rw [Nat.zero_add, List.getElem?_append_left h1v]
        simp [h1v2]
      have setV : ∀ w : Val, (vs.map encV ++ junk).set (0 + 1) (splice (encV vs[1]) 0 (encV w)) = (vs.set 1 w).map encV ++ junk := fun w => by
        have : splice (encV vs[1]) 0 (encV w) = encV w := by rw [splice, List.take_zero, List.nil_append, List.drop_eq_nil_of_le (by simp [encV]), List.append_nil]
        rw [this, Nat.zero_add, set_left h1v, List.map_set]
      have vec_set : ∀ w : Val, vec (σ.next + 0) u ((vs.set 1 w).map encV) junk = vec (σ.next + 0) u (vs.map encV) junk := fun w => by simp [vec]
      have hset : ∀ w : Val, bV 12 w → ∀ x ∈ vs.set 1 w, bV 12 x := fun w hw x hx => by
        rcases List.mem_or_eq_of_mem_set hx with hx | rfl
        · exact hvb x hx
        · exact hw
      refine Go.op rfl rfl (.nil (.seq ?_))
      refine Go.meet (K' := [_]) (fun fr τ => ∃ (q : Nat) (vs : List Val) (u : Nat) (junk : List (List Ce)), q ≤ code.length ∧ vs.length = s[i].cols.length ∧ (∀ w ∈ vs, bV 12 w) ∧ Jk 3 junk ∧
        fr = [(0, .c (.ptr id v 0 0)), (1, .c (.fz (s.map encTable))), (2, .c (.int .i64 (most : Int))), (7, .c (.fz (db.map encData))), (8, .c (.bool true)), (9, .c (.int .i64 k)), (10, .c (.int .i64 b)), (11, .c (vec (σ.next + 0) u (vs.map encV) junk))] ∧ τ = E (Rd.go σ id v code q) [(u, vs.map encV ++ junk)]) (fun K hm => ?_) ?_
      · have hgv : ∀ q : Nat, (E (Rd.go σ id v code q) [(u, vs.map encV ++ junk)]).get (σ.next + 0) = some (u, vs.map encV ++ junk) := fun q => E_get (σ := Rd.go σ id v code q) (k := 0) rfl
        repeat' first|refine yaG ?_|((first|apply yG|apply yH|apply yI);exact rfl;(first|exact yX (enc := encTable) rfl rfl hk hlt rfl|exact yX (enc := encData) rfl rfl hk hi2 rfl|exact yX (enc := encData) rfl rfl hz0 h00 rfl))|(exfalso;omega)|(refine yaS ?_ ?_<;>intro _)
        all_goals first
          | exact Go.keep [0, 1, 2, 7, 8, 9, 10, 11] (hm _ _ ⟨q2, vs, u, junk, hq2, hvl, hvb, hj, rfl, rfl⟩)
          | skip
        refine Go.drawn hr hq2 rfl rfl rfl (once_ok 4 (by decide) (by decide)) ?_
        rintro _ q3 hq3 ⟨b3, rfl⟩
        cases b3
        · repeat' first|refine yaG ?_|((first|apply yG|apply yH|apply yI);exact rfl;(first|exact yX (enc := encTable) rfl rfl hk hlt rfl|exact yX (enc := encData) rfl rfl hk hi2 rfl|exact yX (enc := encData) rfl rfl hz0 h00 rfl))|(exfalso;omega)|(refine yaS ?_ ?_<;>intro _)
          all_goals first
            | exact Go.keep [0, 1, 2, 7, 8, 9, 10, 11] (hm _ _ ⟨q3, vs, u, junk, hq3, hvl, hvb, hj, rfl, rfl⟩)
            | skip
          · have hr60 := (hrl _ (List.getElem_mem hi2)).1
            refine Go.drawn hr hq3 rfl rfl rfl (below_ok (db[i].rows).length (by omega) (by omega)) ?_
            intro r q4 hq4 hz
            obtain ⟨c, hc4, rfl⟩ := below_pos (by omega) hz
            have hrr := ((hrl _ (List.getElem_mem hi2)).2 _ (List.getElem_mem hc4))
            obtain ⟨w, hw, hw2⟩ : ∃ w, w = ((db[i].rows)[c]'hc4).vals[0]'(by omega) ∧ bV 12 w := ⟨_, rfl, hrr.2.2 _ (List.getElem_mem _)⟩
            have hv0 : 0 < ((db[i].rows)[c]'hc4).vals.length := by omega
            repeat' first|refine yaG ?_|((first|apply yG|apply yH|apply yI);exact rfl;(first|exact yX (enc := encRowD) rfl rfl rfl hc4 rfl|exact yX (enc := encV) rfl rfl hz0 hv0 rfl|exact aop_iaddrO rfl rfl hz1 h1v (hgv _) hev rfl|exact aop_store (k := 0) rfl rfl rfl rfl hev rfl (Nat.le_of_ble_eq_true rfl)))|(exfalso;omega)|(refine yaS ?_ ?_<;>intro _)
            refine Go.keep [0, 1, 2, 7, 8, 9, 10, 11] (hm _ _ ⟨q4, vs.set 1 w, u, junk, hq4, by rw [List.length_set]; exact hvl, hset w hw2, hj, ?_, ?_⟩)
            · rw [vec_set]; rfl
            · rw [← setV w, hw]; rfl
          · have hr60 := (hrl _ (List.getElem_mem h00)).1
            refine Go.drawn hr hq3 rfl rfl rfl (below_ok (db[0].rows).length (by omega) (by omega)) ?_
            intro r q4 hq4 hz
            obtain ⟨c, hc4, rfl⟩ := below_pos (by omega) hz
            have hrr := ((hrl _ (List.getElem_mem h00)).2 _ (List.getElem_mem hc4))
            obtain ⟨w, hw, hw2⟩ : ∃ w, w = ((db[0].rows)[c]'hc4).vals[0]'(by omega) ∧ bV 12 w := ⟨_, rfl, hrr.2.2 _ (List.getElem_mem _)⟩
            have hv0 : 0 < ((db[0].rows)[c]'hc4).vals.length := by omega
            repeat' first|refine yaG ?_|((first|apply yG|apply yH|apply yI);exact rfl;(first|exact yX (enc := encRowD) rfl rfl rfl hc4 rfl|exact yX (enc := encV) rfl rfl hz0 hv0 rfl|exact aop_iaddrO rfl rfl hz1 h1v (hgv _) hev rfl|exact aop_store (k := 0) rfl rfl rfl rfl hev rfl (Nat.le_of_ble_eq_true rfl)))|(exfalso;omega)|(refine yaS ?_ ?_<;>intro _)
            refine Go.keep [0, 1, 2, 7, 8, 9, 10, 11] (hm _ _ ⟨q4, vs.set 1 w, u, junk, hq4, by rw [List.length_set]; exact hvl, hset w hw2, hj, ?_, ?_⟩)
            · rw [vec_set]; rfl
            · rw [← setV w, hw]; rfl
        · repeat' first|refine yaG ?_|((first|apply yG|apply yH|apply yI);exact rfl;(first|exact yX (enc := encTable) rfl rfl hk hlt rfl|exact yX (enc := encData) rfl rfl hk hi2 rfl|exact yX (enc := encData) rfl rfl hz0 h00 rfl))|(exfalso;omega)|(refine yaS ?_ ?_<;>intro _)
          all_goals exact Go.keep [0, 1, 2, 7, 8, 9, 10, 11] (hm _ _ ⟨q3, vs, u, junk, hq3, hvl, hvb, hj, rfl, rfl⟩)
      · clear hset vec_set setV hev h1v2 h1v hz1
        clear hvl hvb hj hq2
        clear q2 vs u junk
        rintro fr τ ⟨q2, vs, u, junk, hq2, hvl, hvb, hj, rfl, rfl⟩
        have hz1 : (1 : Int) = ((1 : Nat) : Int) := rfl
        have h1v : 1 < (vs.map encV).length := by rw [List.length_map]; omega
        have h1v2 : 1 < vs.length := by omega
        have hev : (vs.map encV ++ junk)[0 + 1]? = some (encV vs[1]) := by
          rw [Nat.zero_add, List.getElem?_append_left h1v]
          simp [h1v2]
        have setV : ∀ w : Val, (vs.map encV ++ junk).set (0 + 1) (splice (encV vs[1]) 0 (encV w)) = (vs.set 1 w).map encV ++ junk := fun w => by
          have : splice (encV vs[1]) 0 (encV w) = encV w := by rw [splice, List.take_zero, List.nil_append, List.drop_eq_nil_of_le (by simp [encV]), List.append_nil]
          rw [this, Nat.zero_add, set_left h1v, List.map_set]
        have vec_set : ∀ w : Val, vec (σ.next + 0) u ((vs.set 1 w).map encV) junk = vec (σ.next + 0) u (vs.map encV) junk := fun w => by simp [vec]
        have hset : ∀ w : Val, bV 12 w → ∀ x ∈ vs.set 1 w, bV 12 x := fun w hw x hx => by
          rcases List.mem_or_eq_of_mem_set hx with hx | rfl
          · exact hvb x hx
          · exact hw
        refine .seq ?_
        refine Go.meet (K' := [_]) (fun fr τ => ∃ (q : Nat) (vs : List Val) (u : Nat) (junk : List (List Ce)), q ≤ code.length ∧ vs.length = s[i].cols.length ∧ (∀ w ∈ vs, bV 12 w) ∧ Jk 3 junk ∧
          fr = [(0, .c (.ptr id v 0 0)), (1, .c (.fz (s.map encTable))), (2, .c (.int .i64 (most : Int))), (7, .c (.fz (db.map encData))), (8, .c (.bool true)), (9, .c (.int .i64 k)), (10, .c (.int .i64 b)), (11, .c (vec (σ.next + 0) u (vs.map encV) junk))] ∧ τ = E (Rd.go σ id v code q) [(u, vs.map encV ++ junk)]) (fun K hm => ?_) ?_
        · have hgv : ∀ q : Nat, (E (Rd.go σ id v code q) [(u, vs.map encV ++ junk)]).get (σ.next + 0) = some (u, vs.map encV ++ junk) := fun q => E_get (σ := Rd.go σ id v code q) (k := 0) rfl
          repeat' first|refine yaG ?_|((first|apply yG|apply yH|apply yI);exact rfl;(first|exact yX (enc := encTable) rfl rfl hk hlt rfl|exact yX (enc := encData) rfl rfl hk hi2 rfl|exact yX (enc := encData) rfl rfl hz0 h00 rfl|exact aop_iaddrO rfl rfl hz1 h1v (hgv _) hev rfl|exact aop_store (k := 0) rfl rfl rfl rfl hev rfl (Nat.le_of_ble_eq_true rfl)))|(exfalso;omega)|(refine yaS ?_ ?_<;>intro _)
          all_goals first
            | exact Go.keep [0, 1, 2, 7, 8, 9, 10, 11] (hm _ _ ⟨q2, vs, u, junk, hq2, hvl, hvb, hj, rfl, rfl⟩)
            | skip
          refine Go.keep [0, 1, 2, 7, 8, 9, 10, 11] (hm _ _ ⟨q2, vs.set 1 vNull, u, junk, hq2, by rw [List.length_set]; exact hvl, hset vNull (Nat.zero_le _), hj, ?_, ?_⟩)
          · rw [vec_set]; rfl
          · rw [← setV vNull]; rfl
        · clear hset vec_set setV hev h1v2 h1v hz1
          clear hvl hvb hj hq2
          clear q2 vs u junk
          rintro fr τ ⟨q2, vs, u, junk, hq2, hvl, hvb, hj, rfl, rfl⟩
          refine Go.freezeN (l := []) (m := [(u, vs.map encV ++ junk)]) (fr' := [(0, .c (.ptr id v 0 0)), (1, .c (.fz (s.map encTable))), (2, .c (.int .i64 (most : Int))), (7, .c (.fz (db.map encData))), (8, .c (.bool true)), (9, .c (.int .i64 k)), (10, .c (.int .i64 b)), (11, .c (.fz (vs.map encV)))]) (hr.old hS) (fun b hb => by cases hb) (Nat.le_refl _)
            (.frz rfl (.refl (old_ptr hr.2.1)) (.frz rfl (.refl hsO) (.frz rfl (.refl old_c) (.frz rfl (.refl fun y hy => by rw [List.mem_singleton.1 hy]; exact old_fz1 (oldDatas _)) (.frz rfl (.refl old_b) (.frz rfl (.refl old_c) (.frz rfl (.refl old_c) (.frz rfl (frz_drop (n := 0) (k := 0) rfl flats (Nat.zero_le _) (Nat.le_refl _)) .nil)))))))) ?_
          repeat' first|refine yaG ?_|(exfalso;omega)|(refine yaS ?_ ?_<;>intro _)
          refine Go.told rfl rfl rfl (InsertRow_told s db k i vs hk hlt hx hd hb (by have := hT.hi; omega)) ?_
          rintro _ ⟨y, iid, cd, rfl, hok⟩
          have ew : IntKind.i64.wrap (b - 1) = b - 1 := wrap64 (by omega) (by omega)
          by_cases hcd : cd = 1
          · repeat' first|refine yaG ?_|(exfalso;omega)|(refine yaS ?_ ?_<;>intro _)
            exact Go.keep [0, 1, 2, 7, 8, 9, 10] (hrecb _ _ _ (by omega) ⟨b - 1, q2, db, rfl, by omega, hq2, hd, by rw [ew]; rfl, rfl⟩)
          · obtain ⟨db', hd', rfl⟩ := hok hcd
            repeat' first|refine yaG ?_|(exfalso;omega)|(refine yaS ?_ ?_<;>intro _)
            exact Go.keep [0, 1, 2, 7, 8, 9, 10] (hrecb _ _ _ (by omega) ⟨b - 1, q2, db', rfl, by omega, hq2, hd', by rw [ew]; rfl, rfl⟩)
    · repeat' first|refine yaG ?_|(exfalso;omega)|(refine yaS ?_ ?_<;>intro _)
      exact Go.keep [0, 1, 2, 7, 8, 9] (hrec _ _ _ (by omega) ⟨i + 1, _, q, db, rfl, hlt, wrap_succ hk (by omega), hq, hd, rfl, rfl⟩)
  · repeat' first|refine yaG ?_|(exfalso;omega)|(refine yaS ?_ ?_<;>intro _)
    exact .ret rfl (.c hq ⟨db, .inl hd, rfl⟩ fun y hy => by
      rw [List.mem_singleton.1 hy]
      exact old_fz1 (oldDatas _))
end Go.Proofs.YtdgnfdljkghpjaaGreat.Am

/- Drawn arguments: of Matching, of JoinOn. -/
set_option linter.unusedVariables false
set_option linter.unusedSimpArgs false
namespace Go.Proofs.YtdgnfdljkghpjaaGreat.Am

theorem l1Open_ok (code : List UInt8) (σ : Store) : Ok Tryz.prog 46 [.c (.fz (code.map encB))] σ (fun r τ => r = .c (.ptr (σ.next + 0) 0 0 0) ∧ τ = E σ [(0, rdB code 0)]) := by
  refine Ok.run mixed c_spec_l1Open_ok (Nat.le_of_ble_eq_true rfl) fun hS hA => ?_
  clear hS hA
  repeat' first|refine yaG ?_|(exfalso;omega)|(refine yaS ?_ ?_<;>intro _)
  exact .ret rfl ⟨rfl, rfl⟩
/-- The reader that was opened. -/
theorem rd_open {σ : Store} {code : List UInt8} (hc : code.length ≤ 1048576) : Rd (E σ [(0, rdB code 0)]) (σ.next + 0) 0 code 0 := ⟨E_get (k := 0) rfl, by rw [E_next]; simp, Nat.zero_le _, hc⟩
theorem rd_opened {σ : Store} {code : List UInt8} (hc : code.length ≤ 1048576) : E σ [(0, rdB code 0)] = E (Rd.go (E σ [(0, rdB code 0)]) (σ.next + 0) 0 code 0) [] := by
  rw [(rd_open (σ := σ) hc).same, E_E, List.append_nil]
end Go.Proofs.YtdgnfdljkghpjaaGreat.Am

/- An index made anew: the reference's. -/
set_option linter.unusedVariables false
set_option linter.unusedSimpArgs false
namespace Go.Proofs.YtdgnfdljkghpjaaGreat.Am

theorem putF_permI (e : Entry) (l : List Entry) : (putF e l).Perm (e :: l) := by
  have h := List.perm_middle (l₁ := l.take (putPos e l)) (a := e) (l₂ := l.drop (putPos e l))
  rw [List.take_append_drop] at h
  exact h
theorem oldEnts {n : Nat} (l : List Entry) : OldL n (l.map encE) := fun e he x hx => by
  obtain ⟨a, _, rfl⟩ := List.mem_map.1 he
  exact old_encE n a x hx
theorem l11Put_mk (l : List Entry) (e : Entry) (hx : l.length ≤ 1048576) (hk : ∀ q ∈ l, q.key.length ≤ 34359738368) (σ : Store) : Ok Tryz.prog 58 [.c (.fz (l.map encE)), .agg (encE e)] σ (Made σ 2 ((putF e l).map encE)) := by
  refine Ok.run mixed c_spec_l11Put_ok (Nat.le_of_ble_eq_true rfl) fun hS hA => ?_
  clear hS hA
  repeat' first|refine yaG ?_|(exfalso;omega)|(refine yaS ?_ ?_<;>intro _)
  refine Go.keep [0, 3, 5] (Go.loops (I := fun m fr τ => ∃ (i : Nat) (k : Int), m = l.length - i ∧ i ≤ l.length ∧ k = i ∧ putPos e l = i + putPos e (l.drop i) ∧
    fr = [(0, .c (.fz (l.map encE))), (3, .c (.fp (encE e))), (5, .c (.int .i64 k))] ∧ τ = E σ []) ?_ _ _ _ ⟨0, _, rfl, Nat.zero_le _, rfl, (Nat.zero_add _).symm, rfl, rfl⟩)
  rintro m fr τ ⟨i, k, rfl, hi, hki, hs, rfl, rfl⟩ hrec
  have htl : ∀ q ∈ (l.map encE).take i, q.length = 2 := fun q hq => encE_two q (List.mem_of_mem_take hq)
  have hdl : ∀ q ∈ (l.map encE).drop i, q.length = 2 := fun q hq => encE_two q (List.mem_of_mem_drop hq)
  have hil : i ≤ (l.map encE).length := by rw [List.length_map]; exact hi
  have ht0 : ((l.map encE).take i).length = i := by rw [List.length_take]; omega
  have hd0 : ((l.map encE).drop i).length = l.length - i := by rw [List.length_drop, List.length_map]
  have hfin : putPos e l = i → (l.map encE).take i ++ [encE e] ++ (l.map encE).drop i = (putF e l).map encE := fun h => by
    rw [putF, h]
    simp
  by_cases hlt : i < l.length
  · rw [List.drop_eq_getElem_cons hlt, putPos] at hs
    have c1 := l11Less_ok l[i] e (hk _ (List.getElem_mem hlt))
    cases hb : lessK l[i].key e.key l[i].id e.id
    · rw [hb] at c1 hs
      rw [if_neg Bool.false_ne_true] at hs
      have hf := hfin (by omega)
      clear hrec hfin
      repeat' first|refine yaG ?_|((first|apply yG|apply yH|apply yI);exact rfl;(first|exact yX (enc := encE) rfl rfl hki hlt rfl|exact aop_cutF rfl rfl hki hil encE_two|exact aop_restF rfl rfl hki hil encE_two))|refine yaC (c1) ?_|(exfalso;omega)|(refine yaS ?_ ?_<;>intro _)
      refine Go.app (k := 0) (v := 0) (ys := []) (junk := []) (zs := (l.map encE).take i) rfl rfl rfl rfl rfl (by simp) Jk.nil htl (by rw [ht0]; simp; omega) fun v1 j1 hj1 => ?_
      repeat' first|refine yaG ?_|(exfalso;omega)|(refine yaS ?_ ?_<;>intro _)
      refine Go.app1 (k := 0) (z := encE e) rfl rfl rfl rfl rfl htl hj1 rfl (by simp only [List.nil_append]; rw [ht0]; omega) fun v2 j2 hj2 => ?_
      repeat' first|refine yaG ?_|((first|apply yG|apply yH|apply yI);exact rfl;(first|exact aop_restF rfl rfl hki hil encE_two))|(exfalso;omega)|(refine yaS ?_ ?_<;>intro _)
      refine Go.app (k := 0) (zs := (l.map encE).drop i) rfl rfl rfl rfl rfl (fun q hq => (List.mem_append.1 hq).elim (htl q) fun h => by rw [List.mem_singleton.1 h]; rfl) hj2 hdl (by simp only [List.nil_append, List.length_append, List.length_singleton]; rw [ht0, hd0]; omega) fun v3 j3 hj3 => ?_
      repeat' first|refine yaG ?_|(exfalso;omega)|(refine yaS ?_ ?_<;>intro _)
      have hf2 : [] ++ (l.map encE).take i ++ [encE e] ++ (l.map encE).drop i = (putF e l).map encE := by rw [← hf]; rfl
      rw [hf2]
      exact .ret rfl ⟨v3, j3, hj3, rfl, rfl⟩
    · rw [hb] at c1 hs
      rw [if_pos rfl] at hs
      repeat' first|refine yaG ?_|((first|apply yG|apply yH|apply yI);exact rfl;(first|exact yX (enc := encE) rfl rfl hki hlt rfl))|refine yaC (c1) ?_|(exfalso;omega)|(refine yaS ?_ ?_<;>intro _)
      exact Go.keep [0, 3, 5] (hrec _ _ _ (by omega) ⟨i + 1, _, rfl, hlt, wrap_succ hki (by omega), by omega, rfl, rfl⟩)
  · rw [List.drop_eq_nil_of_le (by omega), putPos] at hs
    have hf := hfin (by omega)
    clear hrec hfin
    repeat' first|refine yaG ?_|((first|apply yG|apply yH|apply yI);exact rfl;(first|exact aop_cutF rfl rfl hki hil encE_two|exact aop_restF rfl rfl hki hil encE_two))|(exfalso;omega)|(refine yaS ?_ ?_<;>intro _)
    refine Go.app (k := 0) (v := 0) (ys := []) (junk := []) (zs := (l.map encE).take i) rfl rfl rfl rfl rfl (by simp) Jk.nil htl (by rw [ht0]; simp; omega) fun v1 j1 hj1 => ?_
    repeat' first|refine yaG ?_|(exfalso;omega)|(refine yaS ?_ ?_<;>intro _)
    refine Go.app1 (k := 0) (z := encE e) rfl rfl rfl rfl rfl htl hj1 rfl (by simp only [List.nil_append]; rw [ht0]; omega) fun v2 j2 hj2 => ?_
    repeat' first|refine yaG ?_|((first|apply yG|apply yH|apply yI);exact rfl;(first|exact aop_restF rfl rfl hki hil encE_two))|(exfalso;omega)|(refine yaS ?_ ?_<;>intro _)
    refine Go.app (k := 0) (zs := (l.map encE).drop i) rfl rfl rfl rfl rfl (fun q hq => (List.mem_append.1 hq).elim (htl q) fun h => by rw [List.mem_singleton.1 h]; rfl) hj2 hdl (by simp only [List.nil_append, List.length_append, List.length_singleton]; rw [ht0, hd0]; omega) fun v3 j3 hj3 => ?_
    repeat' first|refine yaG ?_|(exfalso;omega)|(refine yaS ?_ ?_<;>intro _)
    have hf2 : [] ++ (l.map encE).take i ++ [encE e] ++ (l.map encE).drop i = (putF e l).map encE := by rw [← hf]; rfl
    rw [hf2]
    exact .ret rfl ⟨v3, j3, hj3, rfl, rfl⟩
def ofAux (cols : List Int) : List RowD → List Entry → List Entry
  | [], acc => acc
  | r :: l, acc => ofAux cols l (putF ⟨keyF cols r.vals, r.id⟩ acc)
theorem ofAux_at (cols : List Int) : ∀ (l : List RowD) (acc : List Entry), (ofAux cols l acc).length = acc.length + l.length ∧ ((∀ e ∈ acc, e.key.length = cols.length) → ∀ e ∈ ofAux cols l acc, e.key.length = cols.length)
  | [], acc => ⟨rfl, fun h => h⟩
  | r :: l, acc => by
    obtain ⟨h1, h2⟩ := ofAux_at cols l (putF ⟨keyF cols r.vals, r.id⟩ acc)
    have hp := putF_permI ⟨keyF cols r.vals, r.id⟩ acc
    rw [ofAux]
    refine ⟨by rw [h1, hp.length_eq, List.length_cons, List.length_cons]; omega, fun h => h2 fun e he => ?_⟩
    rcases List.mem_cons.1 (hp.mem_iff.1 he) with rfl | he
    · exact keyF_len _ _
    · exact h e he
theorem l11Of_mk (d : Data) (cols : List Int) (hx : d.rows.length ≤ 1048576) (hc : cols.length ≤ 34359738368) (hi : ∀ r ∈ d.rows, InR cols r.vals.length) (σ : Store) : Ok Tryz.prog 85 [.agg (encData d), .c (.fz (cols.map encI))] σ (Made σ 2 ((ofAux cols d.rows []).map encE)) := by
  refine Ok.run mixed c_spec_l11Of_ok (Nat.le_of_ble_eq_true rfl) fun hS hA => ?_
  clear hA
  have old_cols : ∀ y ∈ (AV.c (.fz (cols.map encI))).all, Old σ.next y := fun y hy => by
    rw [List.mem_singleton.1 hy]; exact old_fz1 (oldInts _)
  have old_d : ∀ y ∈ (AV.c (.fp (encData d))).all, Old σ.next y := fun y hy => by
    rw [List.mem_singleton.1 hy]
    exact .fp _ fun j hj => oldDatas [d] _ (List.mem_singleton.2 rfl) _ (List.getElem_mem hj)
  repeat' first|refine yaG ?_|(exfalso;omega)|(refine yaS ?_ ?_<;>intro _)
  refine Go.keep [1, 2, 5, 6] (Go.loops (I := fun m fr τ => ∃ (i : Nat) (k : Int) (acc : List Entry) (v : Nat) (junk : List (List Ce)), m = d.rows.length - i ∧ i ≤ d.rows.length ∧ k = i ∧ Jk 2 junk ∧ (acc.length = i ∧ (∀ e ∈ acc, e.key.length = cols.length) ∧ ofAux cols d.rows [] = ofAux cols (d.rows.drop i) acc) ∧
    fr = [(1, .c (.fz (cols.map encI))), (2, .c (.fp (encData d))), (5, .c (vec (σ.next + 0) v (acc.map encE) junk)), (6, .c (.int .i64 k))] ∧ τ = E σ [(v, acc.map encE ++ junk)]) ?_ _ _ _ ⟨0, _, [], 0, [], rfl, Nat.zero_le _, rfl, Jk.nil, ⟨rfl, fun e he => (by cases he), rfl⟩, rfl, rfl⟩)
  rintro m fr τ ⟨i, k, acc, v, junk, rfl, hil, hk, hj, ⟨hal, hak, hs⟩, rfl, rfl⟩ hrec
  by_cases hlt : i < d.rows.length
  · have c4 := l4Key_ok cols d.rows[i].vals hc (hi _ (List.getElem_mem hlt))
    rw [List.drop_eq_getElem_cons hlt, ofAux] at hs
    have hp := putF_permI ⟨keyF cols d.rows[i].vals, d.rows[i].id⟩ acc
    have cp := l11Put_mk acc ⟨keyF cols d.rows[i].vals, d.rows[i].id⟩ (by omega) (fun q hq => by rw [hak q hq]; exact hc) (E σ [])
    refine Go.freezeN (l := []) (m := [(v, acc.map encE ++ junk)]) (fr' := [(1, .c (.fz (cols.map encI))), (2, .c (.fp (encData d))), (5, .c (.fz (acc.map encE))), (6, .c (.int .i64 k))]) hS (fun b hb => by cases hb) (Nat.le_refl _)
      (.frz rfl (.refl old_cols) (.frz rfl (.refl old_d) (.frz rfl (frz_old (k := 0) rfl (oldEnts _) (Nat.le_refl _)) (.frz rfl (.refl old_c) .nil)))) ?_
    repeat' first|refine yaG ?_|((first|apply yG|apply yH|apply yI);exact rfl;(first|exact yX (enc := encRowD) rfl rfl hk hlt rfl))|refine yaC (c4) ?_|(exfalso;omega)|(refine yaS ?_ ?_<;>intro _)
    refine .call _ rfl rfl rfl cp ?_
    rintro r τ ⟨v2, j2, hj2, rfl, rfl⟩
    rw [E_E, List.nil_append]
    repeat' first|refine yaG ?_|(exfalso;omega)|(refine yaS ?_ ?_<;>intro _)
    refine Go.keep [1, 2, 5, 6] (hrec _ _ _ (by omega) ⟨i + 1, _, _, v2, j2, rfl, hlt, wrap_succ hk (by omega), hj2, ⟨by rw [hp.length_eq, List.length_cons, hal], fun e he => ?_, hs⟩, rfl, rfl⟩)
    rcases List.mem_cons.1 (hp.mem_iff.1 he) with rfl | he
    · exact keyF_len _ _
    · exact hak e he
  · rw [List.drop_eq_nil_of_le (by omega), ofAux] at hs
    repeat' first|refine yaG ?_|(exfalso;omega)|(refine yaS ?_ ?_<;>intro _)
    rw [hs]
    exact .ret rfl ⟨v, junk, hj, rfl, rfl⟩
/-- An index, or none. -/
def IdxR (σ : Store) (k : Nat) (r : AV) (τ : Store) : Prop := (r = .tup [.c .nils, .c (.bool false)] ∧ τ = E σ []) ∨ ∃ (es : List Entry) (v : Nat) (junk : List (List Ce)), Jk 2 junk ∧ es.length ≤ 60 ∧ (∀ e ∈ es, e.key.length = k) ∧ r = .tup [.c (vec (σ.next + 0) v (es.map encE) junk), .c (.bool true)] ∧ τ = E σ [(v, es.map encE ++ junk)]
theorem sIndexOf_own (s : List Table) (db : List Data) (n : Int) (cols : List Int) (hx : s.length ≤ 34359738368) (hb : ∀ t ∈ s, bTable 34359738368 t) (hd : db.length ≤ 34359738368) (hdb : ∀ d ∈ db, bData 34359738368 d) (hc : cols.length ≤ 34359738368) (σ : Store) :
    Ok Tryz.prog 31 [.c (.fz (s.map encTable)), .c (.fz (db.map encData)), .c (.int .i64 n), .c (.fz (cols.map encI))] σ (IdxR σ cols.length) := by
  refine Ok.run mixed c_spec_IndexOf_ok (Nat.le_of_ble_eq_true rfl) fun hS hA => ?_
  clear hS hA
  have c1 := l6Ok_ok s db n hx hb hd hdb
  cases h1 : (dbF s db && isIn n 0 (s.length - 1))
  · rw [h1] at c1
    repeat' first|refine yaG ?_|refine yaC (c1) ?_|(exfalso;omega)|(refine yaS ?_ ?_<;>intro _)
    exact .ret rfl (.inl ⟨rfl, rfl⟩)
  rw [h1] at c1
  rw [Bool.and_eq_true] at h1
  obtain ⟨h1, h2⟩ := h1
  obtain ⟨hs, hl, hrows⟩ := dbF_at h1
  obtain ⟨h3, h4⟩ := isIn_at h2
  have hn : n = (n.toNat : Int) := by omega
  have hlt : n.toNat < s.length := by omega
  have hlt2 : n.toNat < db.length := by omega
  have hcl := schemaF_cols hs _ (List.getElem_mem hlt)
  obtain ⟨hr1, hr2⟩ := rowsF_mem (hrows _ hlt hlt2)
  have c3 := l3Cols_ok cols s[n.toNat].cols.length hc (by omega) (by omega)
  cases h5 : colsF cols s[n.toNat].cols.length
  · rw [h5] at c3
    repeat' first|refine yaG ?_|((first|apply yG|apply yH|apply yI);exact rfl;(first|exact yX (enc := encTable) rfl rfl hn hlt rfl))|refine yaC (c1) ?_|refine yaC (c3) ?_|(exfalso;omega)|(refine yaS ?_ ?_<;>intro _)
    exact .ret rfl (.inl ⟨rfl, rfl⟩)
  rw [h5] at c3
  have cof := l11Of_mk db[n.toNat] cols (by omega) hc (fun r hr => by rw [(fitF_vals (hr2 r hr).1).1]; exact fun c hc => colsF_in h5 c hc) (E σ [])
  obtain ⟨k1, k2⟩ := ofAux_at cols db[n.toNat].rows []
  repeat' first|refine yaG ?_|((first|apply yG|apply yH|apply yI);exact rfl;(first|exact yX (enc := encTable) rfl rfl hn hlt rfl|exact yX (enc := encData) rfl rfl hn hlt2 rfl))|refine yaC (c1) ?_|refine yaC (c3) ?_|(exfalso;omega)|(refine yaS ?_ ?_<;>intro _)
  refine .call _ rfl rfl rfl cof ?_
  rintro r τ ⟨v, junk, hj, rfl, rfl⟩
  rw [E_E, List.nil_append]
  repeat' first|refine yaG ?_|(exfalso;omega)|(refine yaS ?_ ?_<;>intro _)
  exact .ret rfl (.inr ⟨_, v, junk, hj, by rw [k1]; simp; omega, k2 fun e he => (by cases he), rfl, rfl⟩)
end Go.Proofs.YtdgnfdljkghpjaaGreat.Am

/- An index made anew: the program's own. -/
set_option linter.unusedVariables false
set_option linter.unusedSimpArgs false
namespace Go.Proofs.YtdgnfdljkghpjaaGreat.Am

def idxOk (s : List Table) (db : List Data) (n : Int) (cols : List Int) : Bool := dbF s db && (isIn n 0 (s.length - 1) && colsF cols (colsAt s n))
def IndexOfF (s : List Table) (db : List Data) (n : Int) (cols : List Int) : List Entry × Bool := if idxOk s db n cols then (ofAux cols (rowsAt db n) [], true) else ([], false)
theorem areIn_ok (s : List Table) (n : Int) (cols : List Int) (hx : s.length ≤ 34359738368) (hb : ∀ t ∈ s, bTable 34359738368 t) (hc : cols.length ≤ 34359738368) : Pure Tryz.prog 80 [.c (.fz (s.map encTable)), .c (.int .i64 n), .c (.fz (cols.map encI))] (.c (.bool (isIn n 0 (s.length - 1) && colsF cols (colsAt s n)))) := by
  refine Pure.run mixed c_impl_areIn_ok (Nat.le_of_ble_eq_true rfl) fun σ hS hA => ?_
  clear hS hA
  have c1 := isTable_ok s n hx
  cases h1 : isIn n 0 (s.length - 1)
  · rw [h1] at c1
    repeat' first|refine yaG ?_|refine yaC (c1) ?_|(exfalso;omega)|(refine yaS ?_ ?_<;>intro _)
    exact .ret rfl (.bool rfl)
  rw [h1] at c1
  obtain ⟨h3, h4⟩ := isIn_at h1
  have hn : n = (n.toNat : Int) := by omega
  have hlt : n.toNat < s.length := by omega
  have hcb := (hb _ (List.getElem_mem hlt)).2.1.1
  have hco : colsAt s n = s[n.toNat].cols.length := by rw [colsAt, List.getElem?_eq_getElem hlt]
  have c2 := areColumns_ok cols s[n.toNat].cols.length hc (by omega) (by omega)
  rw [hco]
  generalize colsF cols s[n.toNat].cols.length = B at c2
  repeat' first|refine yaG ?_|((first|apply yG|apply yH|apply yI);exact rfl;(first|exact yX (enc := encTable) rfl rfl hn hlt rfl))|refine yaC (c1) ?_|refine yaC (c2) ?_|(exfalso;omega)|(refine yaS ?_ ?_<;>intro _)
  exact .ret rfl (.bool (Bool.true_and _).symm)
theorem idxOk_at {s : List Table} {db : List Data} {n : Int} {cols : List Int} (h : idxOk s db n cols = true) :
    ∃ (m : Nat) (h1 : m < s.length) (h2 : m < db.length), n = m ∧ dbF s db = true ∧ colsF cols s[m].cols.length = true ∧ rowsF s[m] db[m].rows = true ∧ colsAt s n = s[m].cols.length ∧ rowsAt db n = db[m].rows ∧ isIn n 0 (s.length - 1) = true := by
  simp only [idxOk, Bool.and_eq_true] at h
  obtain ⟨h1, h2, h3⟩ := h
  obtain ⟨_, hl, hrows⟩ := dbF_at h1
  obtain ⟨h4, h5⟩ := isIn_at h2
  have hlt : n.toNat < s.length := by omega
  have hlt2 : n.toNat < db.length := by omega
  have hc : colsAt s n = s[n.toNat].cols.length := by rw [colsAt, List.getElem?_eq_getElem hlt]
  rw [hc] at h3
  exact ⟨n.toNat, hlt, hlt2, by omega, h1, h3, hrows _ hlt hlt2, hc, by rw [rowsAt, List.getElem?_eq_getElem hlt2], h2⟩
/-- What the index's entries are, before they are in order. -/
def entsF (cols : List Int) (rows : List RowD) : List Entry := rows.map fun r => ⟨keyF cols r.vals, r.id⟩
theorem ofAux_perm (cols : List Int) : ∀ (l : List RowD) (acc : List Entry), (ofAux cols l acc).Perm (acc ++ entsF cols l)
  | [], acc => by simp [ofAux, entsF]
  | r :: l, acc => by
    rw [ofAux]
    refine (ofAux_perm cols l _).trans ?_
    have h := putF_permI ⟨keyF cols r.vals, r.id⟩ acc
    show (putF ⟨keyF cols r.vals, r.id⟩ acc ++ entsF cols l).Perm (acc ++ (⟨keyF cols r.vals, r.id⟩ :: entsF cols l))
    exact (h.append_right _).trans List.perm_middle.symm
theorem lessK_ord : ∀ {xs ys : List Val} {a b : Int}, (∀ v ∈ xs, okVal v = true) → (∀ v ∈ ys, okVal v = true) → xs.length = ys.length → lessK xs ys a b = decide (orI [orderOf xs ys, cmpI a b] < 0)
  | [], [], a, b, _, _, _ => lessK_order rfl rfl rfl
  | v :: r, w :: s, a, b, hv, hw, hl => by
    have h1 := hv v (by simp)
    have h3 := hw w (by simp)
    have ih := lessK_ord (xs := r) (ys := s) (a := a) (b := b) (fun x hx => hv x (List.mem_cons_of_mem _ hx)) (fun x hx => hw x (List.mem_cons_of_mem _ hx)) (by simpa using hl)
    simp only [lessK, orderOf, l1Ord_order h1 h3]
    by_cases h : order v w = 0
    · simp [h, ih]
    · simp [h, orI]
theorem ofAux_sorted {cols : List Int} : ∀ {l : List RowD} {acc : List Entry}, (∀ e ∈ acc, e.key.length = cols.length ∧ ∀ v ∈ e.key, okVal v = true) → acc.Pairwise (fun x y => entOrd x y < 0) → (∀ r ∈ l, ∀ v ∈ keyF cols r.vals, okVal v = true) → (∀ e ∈ acc, ∀ r ∈ l, e.id ≠ r.id) → l.Pairwise (fun a b => a.id ≠ b.id) →
    (ofAux cols l acc).Pairwise fun x y => entOrd x y < 0
  | [], _, _, h, _, _, _ => h
  | r :: l, acc, h1, h2, h3, h4, h5 => by
    rw [ofAux]
    rw [List.pairwise_cons] at h5
    have hp := putF_permI ⟨keyF cols r.vals, r.id⟩ acc
    have hr := h3 r (by simp)
    refine ofAux_sorted (fun e he => ?_) ?_ (fun q hq => h3 q (by simp [hq])) (fun e he q hq => ?_) h5.2
    · rcases List.mem_cons.1 (hp.mem_iff.1 he) with rfl | he
      · exact ⟨keyF_len _ _, hr⟩
      · exact h1 e he
    · refine putF_sorted (n0 := cols.length) h2 (fun q hq => (h1 q hq).1) (keyF_len _ _) (fun he => h4 _ he r (by simp) rfl) fun q hq => ?_
      exact lessK_ord (h1 q hq).2 hr (by rw [(h1 q hq).1, keyF_len])
    · rcases List.mem_cons.1 (hp.mem_iff.1 he) with rfl | he
      · exact h5.1 q hq
      · exact h4 e he q (by simp [hq])
theorem keyF_okv {cols : List Int} {vals : List Val} (hi : InR cols vals.length) (hv : ∀ v ∈ vals, okVal v = true) : ∀ v ∈ keyF cols vals, okVal v = true := fun v hv2 => by
  obtain ⟨c, hc, rfl⟩ := List.mem_map.1 hv2
  obtain ⟨h1, h2⟩ := hi c hc
  have : c.toNat < vals.length := by omega
  rw [valAt, List.getElem?_eq_getElem this]
  exact hv _ (List.getElem_mem _)
theorem index_sorted {t : Table} {rows : List RowD} {cols : List Int} (hr : rowsF t rows = true) (hc : colsF cols t.cols.length = true) : (ofAux cols rows []).Pairwise fun x y => entOrd x y < 0 := by
  obtain ⟨h1, h2⟩ := rowsF_mem hr
  refine ofAux_sorted (fun e he => (by cases he)) .nil (fun r hr => ?_) (fun e he => (by cases he)) ((rowsF_rise hr).imp fun h => Int.ne_of_lt h)
  obtain ⟨f1, f2⟩ := fitF_vals (h2 r hr).1
  exact keyF_okv (fun c hcm => by rw [f1]; exact colsF_in hc c hcm) f2
/-- A sorted index of the same entries is the index. -/
theorem index_eq {t : Table} {rows : List RowD} {cols : List Int} (hr : rowsF t rows = true) (hc : colsF cols t.cols.length = true) {q : List Entry} (hp : q.Perm (entsF cols rows)) (hs : q.Pairwise fun a b => entOrd a b < 0 ∨ a = b) : q = ofAux cols rows [] := by
  have hsort := index_sorted hr hc
  have hperm : q.Perm (ofAux cols rows []) := hp.trans (by simpa using (ofAux_perm cols rows []).symm)
  have hlen : ∀ e ∈ q, e.key.length = cols.length := fun e he => by
    obtain ⟨r, _, rfl⟩ := List.mem_map.1 (hp.mem_iff.1 he)
    exact keyF_len _ _
  have hnd : q.Nodup := by
    rw [hperm.nodup_iff]
    refine hsort.imp_of_mem fun {a b} ha hb h he => ?_
    subst he
    have := (entOrd_cmp cols.length).refl a (hlen a (hperm.mem_iff.2 ha))
    omega
  exact ent_eq_sorted (strict_of hs hnd) hsort hlen hperm
theorem sIndexOf_ok (s : List Table) (db : List Data) (n : Int) (cols : List Int) (hx : s.length ≤ 34359738368) (hb : ∀ t ∈ s, bTable 34359738368 t) (hd : db.length ≤ 34359738368) (hdb : ∀ d ∈ db, bData 34359738368 d) (hc : cols.length ≤ 34359738368) :
    Pure Tryz.prog 31 [.c (.fz (s.map encTable)), .c (.fz (db.map encData)), .c (.int .i64 n), .c (.fz (cols.map encI))] (.tup [.c (.fz ((IndexOfF s db n cols).1.map encE)), .c (.bool (IndexOfF s db n cols).2)]) := by
  refine Pure.run mixed c_spec_IndexOf_ok (Nat.le_of_ble_eq_true rfl) fun σ hS hA => ?_
  clear hS hA
  have c1 := l6Ok_ok s db n hx hb hd hdb
  rw [IndexOfF]
  cases h1 : (dbF s db && isIn n 0 (s.length - 1))
  · rw [h1] at c1
    have hno : idxOk s db n cols = false := by rw [idxOk, ← Bool.and_assoc, h1]; rfl
    rw [hno]
    repeat' first|refine yaG ?_|refine yaC (c1) ?_|(exfalso;omega)|(refine yaS ?_ ?_<;>intro _)
    exact .ret rfl fin_no
  rw [h1] at c1
  rw [Bool.and_eq_true] at h1
  obtain ⟨g3, g4⟩ := isIn_at h1.2
  have hn0 : n = (n.toNat : Int) := by omega
  have hlt0 : n.toNat < s.length := by omega
  have hcb := (hb _ (List.getElem_mem hlt0)).2.1.1
  have hco : colsAt s n = s[n.toNat].cols.length := by rw [colsAt, List.getElem?_eq_getElem hlt0]
  have c3 := l3Cols_ok cols s[n.toNat].cols.length hc (by omega) (by omega)
  cases h2 : idxOk s db n cols
  · have hno : colsF cols s[n.toNat].cols.length = false := by
      rw [idxOk, h1.1, h1.2, hco] at h2
      simpa using h2
    rw [hno] at c3
    repeat' first|refine yaG ?_|((first|apply yG|apply yH|apply yI);exact rfl;(first|exact yX (enc := encTable) rfl rfl hn0 hlt0 rfl))|refine yaC (c1) ?_|refine yaC (c3) ?_|(exfalso;omega)|(refine yaS ?_ ?_<;>intro _)
    exact .ret rfl fin_no
  obtain ⟨m, hlt, hlt2, rfl, _, h5, h6, _, h7, _⟩ := idxOk_at h2
  simp only [Int.toNat_natCast] at c3
  rw [h5] at c3
  obtain ⟨hr1, hr2⟩ := rowsF_mem h6
  have hnn : (m : Int) = ((m : Nat) : Int) := rfl
  have cof := l11Of_mk db[m] cols (by omega) hc (fun r hr => by rw [(fitF_vals (hr2 r hr).1).1]; exact fun c hcm => colsF_in h5 c hcm) (E σ [])
  rw [h7]
  repeat' first|refine yaG ?_|((first|apply yG|apply yH|apply yI);exact rfl;(first|exact yX (enc := encTable) rfl rfl hnn hlt rfl|exact yX (enc := encData) rfl rfl hnn hlt2 rfl))|refine yaC (c1) ?_|refine yaC (c3) ?_|(exfalso;omega)|(refine yaS ?_ ?_<;>intro _)
  refine .call _ rfl rfl rfl cof ?_
  rintro r τ ⟨v, junk, hj, rfl, rfl⟩
  rw [E_E, List.nil_append]
  repeat' first|refine yaG ?_|(exfalso;omega)|(refine yaS ?_ ?_<;>intro _)
  refine .ret rfl ⟨_, rfl, .tup rfl fun i hi => ?_⟩
  match i, hi with
  | 0, _ => exact frz_oldQ (k := 0) rfl old_maps (Nat.le_refl _)
  | 1, _ => exact solid_end
theorem IndexOf_ok (s : List Table) (db : List Data) (n : Int) (cols : List Int) (hx : s.length ≤ 34359738368) (hb : ∀ t ∈ s, bTable 34359738368 t) (hd : db.length ≤ 34359738368) (hdb : ∀ d ∈ db, bData 34359738368 d) (hc : cols.length ≤ 34359738368) (σ : Store) :
    Ok Tryz.prog 30 [.c (.fz (s.map encTable)), .c (.fz (db.map encData)), .c (.int .i64 n), .c (.fz (cols.map encI))] σ (NewV σ (.tup [.c (.fz ((IndexOfF s db n cols).1.map encE)), .c (.bool (IndexOfF s db n cols).2)])) := by
  refine Ok.run mixed c_impl_IndexOf_ok (Nat.le_of_ble_eq_true rfl) fun hS hA => ?_
  clear hS hA
  have c1 := DbOk_ok s db hx hb hd hdb
  have c2 := areIn_ok s n cols hx hb hc
  rw [IndexOfF]
  cases h1 : dbF s db
  · rw [h1] at c1
    have hno : idxOk s db n cols = false := by rw [idxOk, h1]; rfl
    rw [hno]
    repeat' first|refine yaG ?_|refine yaC (c1) ?_|(exfalso;omega)|(refine yaS ?_ ?_<;>intro _)
    exact .ret rfl (newPairE ⟨.start σ, .c .nil⟩)
  rw [h1] at c1
  cases h2 : idxOk s db n cols
  · have hno : (isIn n 0 (s.length - 1) && colsF cols (colsAt s n)) = false := by
      rw [idxOk, h1] at h2
      simpa using h2
    rw [hno] at c2
    repeat' first|refine yaG ?_|refine yaC (c1) ?_|refine yaC (c2) ?_|(exfalso;omega)|(refine yaS ?_ ?_<;>intro _)
    exact .ret rfl (newPairE ⟨.start σ, .c .nil⟩)
  obtain ⟨m, hlt, hlt2, rfl, _, h5, h6, hco, h7, hin⟩ := idxOk_at h2
  rw [hin, hco, h5] at c2
  obtain ⟨hr1, hr2⟩ := rowsF_mem h6
  have hnn : (m : Int) = ((m : Nat) : Int) := rfl
  rw [h7]
  repeat' first|refine yaG ?_|((first|apply yG|apply yH|apply yI);exact rfl;(first|exact yX (enc := encData) rfl rfl hnn hlt2 rfl))|refine yaC (c1) ?_|refine yaC (c2) ?_|(exfalso;omega)|(refine yaS ?_ ?_<;>intro _)
  have hne0 : Ce.sl (σ.next + 0) 0 0 0 0 ≠ .nils := fun h => by cases h
  clear h7
  generalize db[m].rows = rows at h6 hr1 hr2 ⊢
  have hin2 : ∀ r ∈ rows, InR cols r.vals.length := fun r hr => by rw [(fitF_vals (hr2 r hr).1).1]; exact fun c hcm => colsF_in h5 c hcm
  refine Go.keep [3, 10, 31, 32, 33] (Go.loops (I := fun k fr τ => ∃ (i : Nat) (z : Int) (x : Ce), k = rows.length - i ∧ i ≤ rows.length ∧ z = i ∧ x ≠ .nils ∧ Grow σ τ 2 ((entsF cols (rows.take i)).map encE) x ∧
    fr = [(3, .c (.fz (cols.map encI))), (10, .c x), (31, .c (.fz (rows.map encRowD))), (32, .c (.int .i64 (rows.length : Int))), (33, .c (.int .i64 z))]) ?_ _ _ _ ⟨0, _, _, rfl, Nat.zero_le _, rfl, hne0, Grow.empty, rfl⟩)
  rintro k fr τ ⟨i, z, x, rfl, hi, hz, hxn, hG, rfl⟩ hrec
  have hle : σ.next ≤ τ.next := hG.gr.next
  by_cases hlt3 : i < rows.length
  · refine .old fun _ hSτ => ?_
    rw [← E_nil hSτ]
    have hle1 : σ.next ≤ (E τ []).next := hle
    have ck := keyOf_new cols rows[i].vals hc (hin2 _ (List.getElem_mem hlt3)) (E τ [])
    repeat' first|refine yaG ?_|((first|apply yG|apply yH|apply yI);exact rfl;(first|exact yX (enc := encRowD) rfl rfl hz hlt3 rfl))|(exfalso;omega)|(refine yaS ?_ ?_<;>intro _)
    refine .call _ rfl rfl rfl ck ?_
    intro r τ2 hn
    obtain ⟨xk, rfl, hg2, hh2⟩ := new2_open (.bool _) hn
    rw [E_nil hSτ] at hg2
    repeat' first|refine yaG ?_|(exfalso;omega)|(refine yaS ?_ ?_<;>intro _)
    refine Go.grow rfl rfl rfl (hG.later hg2) hle hg2.next (entry_owned (n := rows[i].id) hh2) rfl ?_ fun x' τ3 hG3 => ?_
    · simp [entsF]
      omega
    have e1 : (entsF cols (rows.take i)).map encE ++ [[.fz ((keyF cols rows[i].vals).map encV), .int .i64 rows[i].id]] = (entsF cols (rows.take (i + 1))).map encE := by
      rw [List.take_succ_eq_append_getElem hlt3, entsF, entsF, List.map_append, List.map_append]
      rfl
    rw [e1] at hG3
    have hxn3 : x' ≠ .nils := by
      rintro rfl
      have h := hG3.row.has
      rw [List.take_succ_eq_append_getElem hlt3] at h
      simp only [entsF, List.map_append, List.map_cons, List.map_nil] at h
      generalize hy : List.map encE (List.map (fun r : RowD => (⟨keyF cols r.vals, r.id⟩ : Entry)) (rows.take i)) ++ [encE ⟨keyF cols rows[i].vals, rows[i].id⟩] = ys at h
      cases h
      simp at hy
    repeat' first|refine yaG ?_|(exfalso;omega)|(refine yaS ?_ ?_<;>intro _)
    exact Go.keep [3, 10, 31, 32, 33] (hrec _ _ _ (by omega) ⟨i + 1, _, x', rfl, hlt3, wrap_succ hz (by omega), hxn3, hG3, rfl⟩)
  · repeat' first|refine yaG ?_|(exfalso;omega)|(refine yaS ?_ ?_<;>intro _)
    rw [List.take_of_length_le (by omega)] at hG
    have hv := hG.v
    obtain ⟨hGr, hh⟩ := hv
    cases hh with
    | c hh =>
    refine .call _ rfl rfl rfl (pdqEntries_ok (entsF cols rows) cols.length (fun e he => ?_) hc (by simp [entsF]; omega) (fun a ha => ha.2) hxn hh) ?_
    · obtain ⟨r, _, rfl⟩ := List.mem_map.1 he
      exact keyF_len _ _
    rintro r τ' ⟨rfl, q, p1, p2, p3, p4, p5, p6⟩
    have hq := index_eq h6 h5 p1 p2
    subst hq
    repeat' first|refine yaG ?_|(exfalso;omega)|(refine yaS ?_ ?_<;>intro _)
    exact .ret rfl (newPairE ⟨p6 σ hGr (fun a ha => ha), .c (p3.mono fun a ha => by rw [p4]; exact ha)⟩)
end Go.Proofs.YtdgnfdljkghpjaaGreat.Am

/- The law FnExactIndexDrop: its function returns true. -/
set_option linter.unusedVariables false
set_option linter.unusedSimpArgs false
namespace Go.Proofs.YtdgnfdljkghpjaaGreat.Am

end Go.Proofs.YtdgnfdljkghpjaaGreat.Am

/- What the law of IndexOf asks of the entries: how many, how long, held as they were marked. -/
set_option linter.unusedVariables false
set_option linter.unusedSimpArgs false
namespace Go.Proofs.YtdgnfdljkghpjaaGreat.Am

theorem nodup_few : ∀ (n : Nat) (l : List Int), l.Nodup → (∀ c ∈ l, 0 ≤ c ∧ c < (n : Int)) → l.length ≤ n
  | 0, l, _, h => by
    cases l with
    | nil => exact Nat.le_refl _
    | cons a r =>
      have := h a (by simp)
      omega
  | n + 1, l, hn, h => by
    by_cases hm : (n : Int) ∈ l
    · have h1 := List.length_erase_of_mem hm
      have h2 := nodup_few n (l.erase (n : Int)) (hn.erase _) fun c hc => by
        have h3 := h c (List.mem_of_mem_erase hc)
        have h4 : c ≠ (n : Int) := fun e => by
          subst e
          exact (List.Nodup.not_mem_erase hn) hc
        omega
      omega
    · have h2 := nodup_few n l hn fun c hc => by
        have h3 := h c hc
        have h4 : c ≠ (n : Int) := fun e => hm (e ▸ hc)
        omega
      omega
theorem colsAux_nodup {n : Int} : ∀ {l pre : List Int}, colsAux n pre l = true → l.Nodup ∧ ∀ c ∈ l, c ∉ pre
  | [], pre, _ => ⟨.nil, fun c hc => by cases hc⟩
  | c :: r, pre, h => by
    simp only [colsAux, Bool.and_eq_true, Bool.not_eq_true', List.any_eq_false, beq_iff_eq] at h
    obtain ⟨⟨_, h2⟩, h3⟩ := h
    obtain ⟨i1, i2⟩ := colsAux_nodup h3
    refine ⟨List.nodup_cons.2 ⟨fun hc => i2 c hc (by simp), i1⟩, fun q hq hp => ?_⟩
    rcases List.mem_cons.1 hq with rfl | hq
    · exact h2 q hp rfl
    · exact i2 q hq (by simp [hp])
theorem colsF_few {l : List Int} {n : Nat} (h : colsF l n = true) : l.length ≤ n := by
  have h2 := h
  rw [colsF, Bool.and_eq_true] at h2
  exact nodup_few n l (colsAux_nodup h2.1).1 (colsF_in h)
theorem IndexOf_fact (s : List Table) (db : List Data) (n : Int) (cols : List Int) (hx : s.length ≤ 34359738368) (hb : ∀ t ∈ s, bTable 34359738368 t) (hd : db.length ≤ 34359738368) (hdb : ∀ d ∈ db, bData 34359738368 d) (hc : cols.length ≤ 34359738368) :
    (IndexOfF s db n cols).1.length ≤ 34359738368 ∧ (∀ x ∈ (IndexOfF s db n cols).1, x.key.length ≤ 34359738368) ∧ 1 + cntL cntE (IndexOfF s db n cols).1 ≤ 34359738368 := by
  have key : (IndexOfF s db n cols).1.length ≤ 60 ∧ ∀ x ∈ (IndexOfF s db n cols).1, x.key.length ≤ 8 := by
    rw [IndexOfF]
    cases h2 : idxOk s db n cols
    · exact ⟨Nat.zero_le _, fun x hx => by cases hx⟩
    obtain ⟨m, hlt, hlt2, rfl, h4, h5, h6, _, h7, _⟩ := idxOk_at h2
    obtain ⟨hr1, hr2⟩ := rowsF_mem h6
    obtain ⟨k1, k2⟩ := ofAux_at cols db[m].rows []
    have hcl := schemaF_cols (dbF_at h4).1 _ (List.getElem_mem hlt)
    have hfew := colsF_few h5
    rw [h7]
    refine ⟨by show (ofAux cols db[m].rows []).length ≤ 60; rw [k1]; simp; omega, fun x hx => ?_⟩
    have := k2 (fun e he => by cases he) x hx
    omega
  obtain ⟨h1, h2⟩ := key
  generalize (IndexOfF s db n cols).1 = ws at h1 h2 ⊢
  have hc : ∀ l : List Entry, (∀ x ∈ l, x.key.length ≤ 8) → cntL cntE l ≤ 25 * l.length := by
    intro l
    induction l with
    | nil => intro _; exact Int.le_refl _
    | cons a r ih =>
      intro h
      have h3 := ih fun x hx => h x (by simp [hx])
      have h4 := h a (by simp)
      have h5 : cntE a ≤ 25 := by
        rw [cntE, cnt3]
        omega
      simp only [cntL, List.length_cons]
      omega
  have := hc ws h2
  exact ⟨by omega, fun x hx => by have := h2 x hx; omega, by omega⟩
end Go.Proofs.YtdgnfdljkghpjaaGreat.Am

/- IndexOk: both sides. -/
set_option linter.unusedVariables false
set_option linter.unusedSimpArgs false
namespace Go.Proofs.YtdgnfdljkghpjaaGreat.Am

theorem beq_step {α : Type} [BEq α] {xs ys : List α} {i : Nat} (h1 : i < xs.length) (h2 : i < ys.length) : (xs.drop i == ys.drop i) = (xs[i] == ys[i] && (xs.drop (i + 1) == ys.drop (i + 1))) := by
  rw [List.drop_eq_getElem_cons h1, List.drop_eq_getElem_cons h2]
  rfl
theorem equalFunc_ok (xs ys : List Entry) (hx : xs.length ≤ 34359738368) (hk : ∀ e ∈ xs, e.key.length ≤ 34359738368) : Pure Tryz.prog 72 [.c (.fz (xs.map encE)), .c (.fz (ys.map encE)), .c (.fn 63 [] [])] (.c (.bool (xs == ys))) := by
  refine Pure.run mixed c_slices_EqualFunc_Entry_ok (Nat.le_of_ble_eq_true rfl) fun σ hS hA => ?_
  clear hS hA
  by_cases hl : xs.length = ys.length
  · have hl2 : (xs.length : Int) = ys.length := by omega
    repeat' first|refine yaG ?_|(exfalso;omega)|(refine yaS ?_ ?_<;>intro _)
    refine Go.keep [1, 2, 15, 16, 17] (Go.loops (I := fun m fr τ => ∃ i : Nat, ∃ n : Int, m = xs.length - i ∧ i ≤ xs.length ∧ n = i ∧ ((xs == ys) = (xs.drop i == ys.drop i)) ∧
      fr = [(1, .c (.fz (ys.map encE))), (2, .c (.fn 63 [] [])), (15, .c (.fz (xs.map encE))), (16, .c (.int .i64 (xs.length : Int))), (17, .c (.int .i64 n))] ∧ τ = E σ []) ?_ _ _ _ ⟨0, _, rfl, Nat.zero_le _, rfl, rfl, rfl, rfl⟩)
    rintro m fr τ ⟨i, n, rfl, hi, hn, hs, rfl, rfl⟩ hrec
    by_cases hlt : i < xs.length
    · have hlt2 : i < ys.length := by omega
      rw [beq_step hlt hlt2] at hs
      have c1 := sameEntry_ok xs[i] ys[i] (hk _ (List.getElem_mem hlt))
      cases hb : (xs[i] == ys[i])
      · rw [hb] at c1 hs
        repeat' first|refine yaG ?_|((first|apply yG|apply yH|apply yI);exact rfl;(first|exact yX (enc := encE) rfl rfl hn hlt rfl|exact yX (enc := encE) rfl rfl hn hlt2 rfl))|refine yaC (c1) ?_|(exfalso;omega)|(refine yaS ?_ ?_<;>intro _)
        exact .ret rfl (.bool hs.symm)
      · rw [hb, Bool.true_and] at hs
        rw [hb] at c1
        repeat' first|refine yaG ?_|((first|apply yG|apply yH|apply yI);exact rfl;(first|exact yX (enc := encE) rfl rfl hn hlt rfl|exact yX (enc := encE) rfl rfl hn hlt2 rfl))|refine yaC (c1) ?_|(exfalso;omega)|(refine yaS ?_ ?_<;>intro _)
        exact Go.keep [1, 2, 15, 16, 17] (hrec _ _ _ (by omega) ⟨i + 1, _, rfl, hlt, wrap_succ hn (by omega), hs, rfl, rfl⟩)
    · repeat' first|refine yaG ?_|(exfalso;omega)|(refine yaS ?_ ?_<;>intro _)
      refine .ret rfl (.bool ?_)
      rw [hs, List.drop_eq_nil_of_le (by omega), List.drop_eq_nil_of_le (by omega)]
      rfl
  · have hl2 : ¬ (xs.length : Int) = ys.length := by omega
    repeat' first|refine yaG ?_|(exfalso;omega)|(refine yaS ?_ ?_<;>intro _)
    refine .ret rfl (.bool ?_)
    rw [eq_comm, beq_eq_false_iff_ne]
    intro e
    exact hl (by rw [e])
def IndexOkF (s : List Table) (db : List Data) (n : Int) (cols : List Int) (l : List Entry) : Bool := (IndexOfF s db n cols).2 && ((IndexOfF s db n cols).1 == l)
theorem IndexOk_ok (s : List Table) (db : List Data) (n : Int) (cols : List Int) (l : List Entry) (hx : s.length ≤ 34359738368) (hb : ∀ t ∈ s, bTable 34359738368 t) (hd : db.length ≤ 34359738368) (hdb : ∀ d ∈ db, bData 34359738368 d) (hc : cols.length ≤ 34359738368) :
    Pure Tryz.prog 24 [.c (.fz (s.map encTable)), .c (.fz (db.map encData)), .c (.int .i64 n), .c (.fz (cols.map encI)), .c (.fz (l.map encE))] (.c (.bool (IndexOkF s db n cols l))) := by
  refine Pure.run mixed c_impl_IndexOk_ok (Nat.le_of_ble_eq_true rfl) fun σ hS hA => ?_
  clear hS hA
  have c1 := NewV.pure (IndexOf_ok s db n cols hx hb hd hdb hc)
  obtain ⟨w1, w2, w3⟩ := IndexOf_fact s db n cols hx hb hd hdb hc
  rw [IndexOkF]
  generalize IndexOfF s db n cols = X at c1 w1 w2 ⊢
  obtain ⟨ws, is⟩ := X
  simp only at c1 w1 w2 ⊢
  have c2 := equalFunc_ok ws l w1 w2
  cases is
  · repeat' first|refine yaG ?_|refine yaC (c1) ?_|(exfalso;omega)|(refine yaS ?_ ?_<;>intro _)
    exact .ret rfl (.bool rfl)
  · repeat' first|refine yaG ?_|refine yaC (c1) ?_|refine yaC (c2) ?_|(exfalso;omega)|(refine yaS ?_ ?_<;>intro _)
    exact .ret rfl (.bool (Bool.true_and _).symm)
theorem sIndexOk_ok (s : List Table) (db : List Data) (n : Int) (cols : List Int) (l : List Entry) (hx : s.length ≤ 34359738368) (hb : ∀ t ∈ s, bTable 34359738368 t) (hd : db.length ≤ 34359738368) (hdb : ∀ d ∈ db, bData 34359738368 d) (hc : cols.length ≤ 34359738368) :
    Pure Tryz.prog 19 [.c (.fz (s.map encTable)), .c (.fz (db.map encData)), .c (.int .i64 n), .c (.fz (cols.map encI)), .c (.fz (l.map encE))] (.c (.bool (IndexOkF s db n cols l))) := by
  refine Pure.run mixed c_spec_IndexOk_ok (Nat.le_of_ble_eq_true rfl) fun σ hS hA => ?_
  clear hS hA
  have c1 := sIndexOf_ok s db n cols hx hb hd hdb hc
  obtain ⟨w1, w2, w3⟩ := IndexOf_fact s db n cols hx hb hd hdb hc
  rw [IndexOkF]
  generalize IndexOfF s db n cols = X at c1 w1 w2 ⊢
  obtain ⟨xs, is⟩ := X
  simp only at c1 w1 w2 ⊢
  cases is
  · repeat' first|refine yaG ?_|refine yaC (c1) ?_|(exfalso;omega)|(refine yaS ?_ ?_<;>intro _)
    exact .ret rfl (.bool rfl)
  rw [Bool.true_and]
  by_cases hl : xs.length = l.length
  · have hl2 : (xs.length : Int) = l.length := by omega
    repeat' first|refine yaG ?_|refine yaC (c1) ?_|(exfalso;omega)|(refine yaS ?_ ?_<;>intro _)
    refine Go.keep [4, 11, 13] (Go.loops (I := fun m fr τ => ∃ i : Nat, ∃ n : Int, m = xs.length - i ∧ i ≤ xs.length ∧ n = i ∧ ((xs == l) = (xs.drop i == l.drop i)) ∧
      fr = [(4, .c (.fz (l.map encE))), (11, .c (.fz (xs.map encE))), (13, .c (.int .i64 n))] ∧ τ = E σ []) ?_ _ _ _ ⟨0, _, rfl, Nat.zero_le _, rfl, rfl, rfl, rfl⟩)
    rintro m fr τ ⟨i, n, rfl, hi, hn, hs, rfl, rfl⟩ hrec
    by_cases hlt : i < xs.length
    · have hlt2 : i < l.length := by omega
      rw [beq_step hlt hlt2] at hs
      have c1 := l11Same_ok xs[i] l[i] (w2 _ (List.getElem_mem hlt))
      cases hb : (xs[i] == l[i])
      · rw [hb] at c1 hs
        repeat' first|refine yaG ?_|((first|apply yG|apply yH|apply yI);exact rfl;(first|exact yX (enc := encE) rfl rfl hn hlt rfl|exact yX (enc := encE) rfl rfl hn hlt2 rfl))|refine yaC (c1) ?_|(exfalso;omega)|(refine yaS ?_ ?_<;>intro _)
        exact .ret rfl (.bool hs.symm)
      · rw [hb, Bool.true_and] at hs
        rw [hb] at c1
        repeat' first|refine yaG ?_|((first|apply yG|apply yH|apply yI);exact rfl;(first|exact yX (enc := encE) rfl rfl hn hlt rfl|exact yX (enc := encE) rfl rfl hn hlt2 rfl))|refine yaC (c1) ?_|(exfalso;omega)|(refine yaS ?_ ?_<;>intro _)
        exact Go.keep [4, 11, 13] (hrec _ _ _ (by omega) ⟨i + 1, _, rfl, hlt, wrap_succ hn (by omega), hs, rfl, rfl⟩)
    · repeat' first|refine yaG ?_|(exfalso;omega)|(refine yaS ?_ ?_<;>intro _)
      refine .ret rfl (.bool ?_)
      rw [hs, List.drop_eq_nil_of_le (by omega), List.drop_eq_nil_of_le (by omega)]
      rfl
  · have hl2 : ¬ (xs.length : Int) = l.length := by omega
    repeat' first|refine yaG ?_|refine yaC (c1) ?_|(exfalso;omega)|(refine yaS ?_ ?_<;>intro _)
    refine .ret rfl (.bool ?_)
    rw [eq_comm, beq_eq_false_iff_ne]
    intro e
    exact hl (by rw [e])
end Go.Proofs.YtdgnfdljkghpjaaGreat.Am

/- An entry put in and left out: plain laws. -/
set_option linter.unusedVariables false
set_option linter.unusedSimpArgs false
namespace Go.Proofs.YtdgnfdljkghpjaaGreat.Am

def okBase (n0 : Nat) (e : Entry) : Bool := decide (0 < e.key.length) && decide (e.key.length = n0) && areVals e.key 16 && isIn e.id 1 1000000000
theorem okRest_of {n0 : Nat} : ∀ {l : List Entry} {p : Option Entry}, (∀ e ∈ l, okBase n0 e = true) → l.Pairwise (fun x y => entOrd x y < 0) → (∀ e ∈ l, risen p e = true) → okRest n0 p l = true
  | [], p, _, _, _ => by cases p <;> rfl
  | a :: r, p, h1, h2, h3 => by
    rw [List.pairwise_cons] at h2
    rw [okRest_cons, okOne, Bool.and_eq_true, Bool.and_eq_true]
    refine ⟨⟨h1 a (by simp), h3 a (by simp)⟩, okRest_of (fun e he => h1 e (by simp [he])) h2.2 fun e he => ?_⟩
    simp only [risen, decide_eq_true_eq]
    exact h2.1 e he
end Go.Proofs.YtdgnfdljkghpjaaGreat.Am

/- FindRows; a range from a value to itself is what is found by the value. -/
set_option linter.unusedVariables false
set_option linter.unusedSimpArgs false
namespace Go.Proofs.YtdgnfdljkghpjaaGreat.Am

def FindF (s : List Table) (db : List Data) (n : Int) (cols : List Int) (key : List Val) : List Int := if idxOk s db n cols then foundF (rowsAt db n) cols key else []
theorem FindRows_ok (s : List Table) (db : List Data) (n : Int) (cols : List Int) (key : List Val) (hx : s.length ≤ 34359738368) (hb : ∀ t ∈ s, bTable 34359738368 t) (hd : db.length ≤ 34359738368) (hdb : ∀ d ∈ db, bData 34359738368 d) (hc : cols.length ≤ 34359738368) :
    Pure Tryz.prog 34 [.c (.fz (s.map encTable)), .c (.fz (db.map encData)), .c (.int .i64 n), .c (.fz (cols.map encI)), .c (.fz (key.map encV))] (.c (.fz ((FindF s db n cols key).map encI))) := by
  refine Pure.run mixed c_impl_FindRows_ok (Nat.le_of_ble_eq_true rfl) fun σ hS hA => ?_
  clear hS hA
  have c1 := DbOk_ok s db hx hb hd hdb
  have c2 := areIn_ok s n cols hx hb hc
  rw [FindF]
  cases h1 : dbF s db
  · rw [h1] at c1
    have hno : idxOk s db n cols = false := by rw [idxOk, h1]; rfl
    rw [hno]
    repeat' first|refine yaG ?_|refine yaC (c1) ?_|(exfalso;omega)|(refine yaS ?_ ?_<;>intro _)
    exact .ret rfl ⟨_, rfl, .c .nil⟩
  rw [h1] at c1
  cases h2 : idxOk s db n cols
  · have hno : (isIn n 0 (s.length - 1) && colsF cols (colsAt s n)) = false := by
      rw [idxOk, h1] at h2
      simpa using h2
    rw [hno] at c2
    repeat' first|refine yaG ?_|refine yaC (c1) ?_|refine yaC (c2) ?_|(exfalso;omega)|(refine yaS ?_ ?_<;>intro _)
    exact .ret rfl ⟨_, rfl, .c .nil⟩
  obtain ⟨m, hlt, hlt2, rfl, _, h5, h6, hco, h7, hin⟩ := idxOk_at h2
  rw [hin, hco, h5] at c2
  obtain ⟨hr1, hr2⟩ := rowsF_mem h6
  have hnn : (m : Int) = ((m : Nat) : Int) := rfl
  have c3 := found_ok db[m].rows cols key (by omega) hc fun r hr => by rw [(fitF_vals (hr2 r hr).1).1]; exact fun c hcm => colsF_in h5 c hcm
  rw [h7]
  repeat' first|refine yaG ?_|((first|apply yG|apply yH|apply yI);exact rfl;(first|exact yX (enc := encData) rfl rfl hnn hlt2 rfl))|refine yaC (c1) ?_|refine yaC (c2) ?_|refine yaC (c3) ?_|(exfalso;omega)|(refine yaS ?_ ?_<;>intro _)
  exact .ret rfl ⟨_, rfl, .c (.same _ (old_fz1 (oldInts _)))⟩
/-- The index of right rows is right. -/
theorem index_ok {t : Table} {rows : List RowD} {cols : List Int} (hr : rowsF t rows = true) (hc : colsF cols t.cols.length = true) (hl : cols.length ≤ 16) : okEnts (ofAux cols rows []) = true := by
  obtain ⟨h1, h2⟩ := rowsF_mem hr
  have hs := index_sorted hr hc
  have hp : (ofAux cols rows []).Perm (entsF cols rows) := by simpa using ofAux_perm cols rows []
  have hpos : 0 < cols.length := by
    rw [colsF, Bool.and_eq_true, decide_eq_true_eq] at hc
    omega
  have hb : ∀ e ∈ ofAux cols rows [], okBase cols.length e = true := fun e he => by
    obtain ⟨r, hrm, rfl⟩ := List.mem_map.1 (hp.mem_iff.1 he)
    obtain ⟨f1, f2⟩ := fitF_vals (h2 r hrm).1
    have hv := keyF_okv (cols := cols) (fun c hcm => by rw [f1]; exact colsF_in hc c hcm) f2
    simp only [okBase, areVals, Bool.and_eq_true, decide_eq_true_eq, keyF_len, List.all_eq_true]
    exact ⟨⟨⟨hpos, trivial⟩, by omega, hv⟩, (h2 r hrm).2⟩
  have hlen : (ofAux cols rows []).length ≤ 60 := by rw [hp.length_eq]; simpa [entsF] using h1
  generalize ofAux cols rows [] = L at hs hb hlen
  simp only [okEnts, Bool.and_eq_true, decide_eq_true_eq]
  refine ⟨?_, by omega⟩
  cases L with
  | nil => rfl
  | cons a r =>
    have ha := hb a (by simp)
    simp only [okBase, Bool.and_eq_true, decide_eq_true_eq] at ha
    show okRest a.key.length none (a :: r) = true
    rw [ha.1.1.2]
    exact okRest_of hb hs fun e _ => rfl
theorem within_at {v : Val} {e : Entry} {w : Val} (h : e.key = [w]) : within v v e = (w == v) := by
  have hk : key0 e = w := by rw [key0, h]
  rw [within, hk]
  by_cases hw : w = v
  · subst hw
    have h0 := order_cmp.refl w trivial
    simp [h0]
  · have h0 : order w v ≠ 0 := fun h => hw (order_cmp.eq _ _ trivial trivial h)
    rw [show (w == v) = false from beq_eq_false_iff_ne.2 hw]
    by_cases h1 : 0 ≤ order w v
    · rw [decide_eq_true h1, decide_eq_false (by omega)]
      rfl
    · rw [decide_eq_false h1]
      rfl
theorem range_found {t : Table} {rows : List RowD} {c : Int} {v : Val} (hr : rowsF t rows = true) (hc : colsF [c] t.cols.length = true) (hv : okVal v = true) (hn : v.k ≠ 0) : rangeF (ofAux [c] rows []) v v = foundF rows [c] [v] := by
  have hs := index_sorted hr hc
  have hp : (ofAux [c] rows []).Perm (entsF [c] rows) := by simpa using ofAux_perm [c] rows []
  rw [rangeF, index_ok hr hc (by simp), hv, foundF]
  simp only [Bool.and_self, if_true]
  have e1 : (entsF [c] rows).filter (within v v) = (rows.filter fun r => hasB [c] [v] r.vals).map fun r => ⟨keyF [c] r.vals, r.id⟩ := by
    rw [entsF, List.filter_map]
    congr 1
    refine List.filter_congr fun r _ => ?_
    show within v v ⟨[valAt r.vals c], r.id⟩ = hasB [c] [v] r.vals
    rw [within_at rfl]
    show (valAt r.vals c == v) = ((!((valAt r.vals c).k == 0) && true) && ([valAt r.vals c] == [v]))
    generalize valAt r.vals c = x
    by_cases hx : x = v
    · subst hx
      simp [hn]
    · rw [show (x == v) = false from beq_eq_false_iff_ne.2 hx, show ([x] == [v]) = false from beq_eq_false_iff_ne.2 fun h => hx (List.cons.inj h).1, Bool.and_false]
  have e2 : (ofAux [c] rows []).filter (within v v) = (entsF [c] rows).filter (within v v) := by
    refine ent_eq_sorted (n0 := 1) (hs.filter _) ?_ (fun q hq => ?_) (hp.filter _)
    · rw [e1, List.pairwise_map]
      refine List.Pairwise.imp_of_mem (fun {a b} ha hb h => ?_) (List.Pairwise.filter _ (rowsF_rise hr))
      have key : ∀ r : RowD, r ∈ rows.filter (fun r => hasB [c] [v] r.vals) → keyF [c] r.vals = [v] := fun r hrm => by
        have := (List.mem_filter.1 hrm).2
        simp only [hasB, Bool.and_eq_true] at this
        exact eq_of_beq this.2
      have ho : order v v = 0 := order_cmp.refl v trivial
      rw [key a ha, key b hb]
      have hab : a.id < b.id := h
      simp [entOrd, orderOf, ho, orI, cmpI, hab]
    · obtain ⟨r, _, rfl⟩ := List.mem_map.1 (hp.mem_iff.1 (List.mem_filter.1 hq).1)
      rfl
  rw [e2, e1, List.map_map]
  rfl
end Go.Proofs.YtdgnfdljkghpjaaGreat.Am

/- A slice that begins as nil; terms. -/
set_option linter.unusedVariables false
set_option linter.unusedSimpArgs false
namespace Go.Proofs.YtdgnfdljkghpjaaGreat.Am

end Go.Proofs.YtdgnfdljkghpjaaGreat.Am

/- Drawn arguments: results that are parts of memory; copies that are frozen. -/
set_option linter.unusedVariables false
set_option linter.unusedSimpArgs false
namespace Go.Proofs.YtdgnfdljkghpjaaGreat.Am

theorem rd_close2 {σ : Store} {code : List UInt8} {q : Nat} {l : List (Nat × List (List Ce))} : E (Rd.go (E σ [(0, rdB code 0)]) (σ.next + 0) 0 code q) l = E σ ((0, rdB code q) :: l) := by
  have : Rd.go (E σ [(0, rdB code 0)]) (σ.next + 0) 0 code q = E σ [(0, rdB code q)] := E_put (by simp)
  rw [this, E_E]
  rfl
theorem frz_ptrC {σ : Store} {l : List (Nat × List (List Ce))} {k v N : Nat} {e cs : List Ce} (hl : l[k]? = some (v, [e])) (hc : cs.length = e.length) (h : ∀ j (h1 : j < e.length) (h2 : j < cs.length), Frz (E σ l) N e[j] cs[j]) (hN : N ≤ σ.next + k) : FrzV (E σ l) N (.c (.ptr (σ.next + k) v 0 0)) (.c (.fp cs)) :=
  .c (.ptr _ _ _ _ [e] e cs hN (E_get hl) rfl (by omega) fun j hj => by
    simp only [Nat.zero_add]
    exact h j (by omega) hj)
end Go.Proofs.YtdgnfdljkghpjaaGreat.Am

/- The reader that draws: entries; drawn arguments of Range. -/
set_option linter.unusedVariables false
set_option linter.unusedSimpArgs false
namespace Go.Proofs.YtdgnfdljkghpjaaGreat.Am

theorem draw_dbI {s : List Table} {db : List Data} (h : dbF s db = true ∨ db = []) : db.length ≤ 34359738368 ∧ ∀ d ∈ db, bData 34359738368 d := by
  rcases h with h | rfl
  · exact ⟨by have := (dbF_b h).1; omega, (dbF_b h).2.1⟩
  · exact ⟨by simp, fun d hd => by cases hd⟩
end Go.Proofs.YtdgnfdljkghpjaaGreat.Am

/- What the laws' functions share. -/
set_option linter.unusedVariables false
set_option linter.unusedSimpArgs false
namespace Go.Proofs.YtdgnfdljkghpjaaGreat.Am

theorem big_ok (code : List UInt8) : Pure Tryz.prog 8 [.c (.fz (code.map encB))] (.c (.bool (decide (1048576 < (code.length : Int))))) := by
  refine Pure.run mixed c_laws_big_ok (Nat.le_of_ble_eq_true rfl) fun σ hS hA => ?_
  clear hS hA
  repeat' first|refine yaG ?_|(exfalso;omega)|(refine yaS ?_ ?_<;>intro _)
  exact .ret rfl (.bool rfl)
theorem sameInts_ok (a b : List Int) (ha : a.length ≤ 34359738368) (hb : b.length ≤ 34359738368) : Pure Tryz.prog 32 [.c (.fz (a.map encI)), .c (.fz (b.map encI))] (.c (.bool (decide (a = b)))) := by
  refine Pure.run mixed c_laws_sameInts_ok (Nat.le_of_ble_eq_true rfl) fun σ hS hA => ?_
  clear hS hA
  by_cases hl : a.length = b.length
  · have hl2 : (a.length : Int) = b.length := by omega
    repeat' first|refine yaG ?_|(exfalso;omega)|(refine yaS ?_ ?_<;>intro _)
    refine Go.keep [0, 1, 5] (Go.loops (I := fun m fr τ => ∃ (i : Nat) (k : Int), m = a.length - i ∧ i ≤ a.length ∧ k = i ∧ (∀ j (h1 : j < a.length) (h2 : j < b.length), j < i → a[j] = b[j]) ∧
      fr = [(0, .c (.fz (a.map encI))), (1, .c (.fz (b.map encI))), (5, .c (.int .i64 k))] ∧ τ = E σ []) ?_ _ _ _ ⟨0, _, rfl, Nat.zero_le _, rfl, fun j _ _ h => by omega, rfl, rfl⟩)
    rintro m fr τ ⟨i, k, rfl, hi, hk, hs, rfl, rfl⟩ hrec
    by_cases hlt : i < a.length
    · have hlt2 : i < b.length := by omega
      by_cases he : a[i] = b[i]
      · repeat' first|refine yaG ?_|((first|apply yG|apply yH|apply yI);exact rfl;(first|exact yX (enc := encI) rfl rfl hk hlt rfl|exact yX (enc := encI) rfl rfl hk hlt2 rfl))|(exfalso;omega)|(refine yaS ?_ ?_<;>intro _)
        exact Go.keep [0, 1, 5] (hrec _ _ _ (by omega) ⟨i + 1, _, rfl, hlt, wrap_succ hk (by omega), fun j h1 h2 h3 => by
          by_cases e : j = i
          · subst e; exact he
          · exact hs j h1 h2 (by omega), rfl, rfl⟩)
      · repeat' first|refine yaG ?_|((first|apply yG|apply yH|apply yI);exact rfl;(first|exact yX (enc := encI) rfl rfl hk hlt rfl|exact yX (enc := encI) rfl rfl hk hlt2 rfl))|(exfalso;omega)|(refine yaS ?_ ?_<;>intro _)
        refine .ret rfl (.bool (decide_eq_false fun e => he (by subst e; rfl)).symm)
    · repeat' first|refine yaG ?_|(exfalso;omega)|(refine yaS ?_ ?_<;>intro _)
      exact .ret rfl (.bool (decide_eq_true (List.ext_getElem hl fun j h1 h2 => hs j h1 h2 (by omega))).symm)
  · have hl2 : ¬ (a.length : Int) = b.length := by omega
    repeat' first|refine yaG ?_|(exfalso;omega)|(refine yaS ?_ ?_<;>intro _)
    exact .ret rfl (.bool (decide_eq_false fun e => hl (by rw [e])).symm)
end Go.Proofs.YtdgnfdljkghpjaaGreat.Am

/- The reader that draws: arguments of IndexPut and IndexDrop; entries held against each other. -/
set_option linter.unusedVariables false
set_option linter.unusedSimpArgs false
namespace Go.Proofs.YtdgnfdljkghpjaaGreat.Am

theorem sameValsE_ok (xs ys : List Val) (hx : xs.length ≤ 34359738368) : Pure Tryz.prog 38 [.c (.fz (xs.map encV)), .c (.fz (ys.map encV))] (.c (.bool (xs == ys))) := by
  refine Pure.run mixed c_laws_sameVals_ok (Nat.le_of_ble_eq_true rfl) fun σ hS hA => ?_
  clear hS hA
  repeat' first|refine yaG ?_|(exfalso;omega)|(refine yaS ?_ ?_<;>intro _)
  · refine .ret rfl (.bool ?_)
    rw [eq_comm, beq_eq_false_iff_ne]
    rintro rfl
    simp at *
  refine Go.keep [0, 1, 5] (Go.loops (I := fun m fr τ => ∃ i : Nat, ∃ n : Int, m = xs.length - i ∧ i ≤ xs.length ∧ n = i ∧ (xs.length = ys.length ∧ (xs == ys) = (xs.drop i == ys.drop i)) ∧
    fr = [(0, .c (.fz (xs.map encV))), (1, .c (.fz (ys.map encV))), (5, .c (.int .i64 n))] ∧ τ = E σ []) ?_ _ _ _ ⟨0, _, rfl, Nat.zero_le _, rfl, ⟨by omega, rfl⟩, rfl, rfl⟩)
  rintro m fr τ ⟨i, n, rfl, hi, hn, ⟨hl, hsl⟩, rfl, rfl⟩ hrec
  by_cases hlt : i < xs.length
  · have hlt2 : i < ys.length := by omega
    have hst := sameVals_step hlt hlt2
    repeat' first|refine yaG ?_|((first|apply yG|apply yH|apply yI);exact rfl;(first|exact yX (enc := encV) rfl rfl hn hlt rfl|exact yX (enc := encV) rfl rfl hn hlt2 rfl))|(exfalso;omega)|(refine yaS ?_ ?_<;>intro _)
    · refine .ret rfl (.bool ?_)
      rw [hsl, hst]
      clear hrec
      simp_all
      intros
      simp_all
    · refine Go.keep [0, 1, 5] (hrec _ _ _ (by omega) ⟨i + 1, _, rfl, hlt, wrap_succ hn (by omega), ⟨hl, ?_⟩, rfl, rfl⟩)
      rw [hsl, hst]
      clear hrec
      simp_all
  · repeat' first|refine yaG ?_|(exfalso;omega)|(refine yaS ?_ ?_<;>intro _)
    refine .ret rfl (.bool ?_)
    rw [hsl, List.drop_eq_nil_of_le (by omega), List.drop_eq_nil_of_le (by omega)]
    rfl
theorem sameEntries_ok (a : List Entry) (ha : a.length ≤ 34359738368) (hv : ∀ x ∈ a, x.key.length ≤ 34359738368) : Pure Tryz.prog 15 [.c (.fz (a.map encE)), .c (.fz (a.map encE))] (.c (.bool true)) := by
  refine Pure.run mixed c_laws_sameEntries_ok (Nat.le_of_ble_eq_true rfl) fun σ hS hA => ?_
  clear hS hA
  repeat' first|refine yaG ?_|(exfalso;omega)|(refine yaS ?_ ?_<;>intro _)
  refine Go.keep [0, 1, 5] (Go.loops (I := fun m fr τ => ∃ (i : Nat) (k : Int), m = a.length - i ∧ i ≤ a.length ∧ k = i ∧
    fr = [(0, .c (.fz (a.map encE))), (1, .c (.fz (a.map encE))), (5, .c (.int .i64 k))] ∧ τ = E σ []) ?_ _ _ _ ⟨0, _, rfl, Nat.zero_le _, rfl, rfl, rfl⟩)
  rintro m fr τ ⟨i, k, rfl, hi, hk, rfl, rfl⟩ hrec
  by_cases hlt : i < a.length
  · have c1 := sameValsE_ok a[i].key a[i].key (hv _ (List.getElem_mem hlt))
    rw [beq_self_eq_true] at c1
    repeat' first|refine yaG ?_|((first|apply yG|apply yH|apply yI);exact rfl;(first|exact yX (enc := encE) rfl rfl hk hlt rfl))|refine yaC (c1) ?_|(exfalso;omega)|(refine yaS ?_ ?_<;>intro _)
    exact Go.keep [0, 1, 5] (hrec _ _ _ (by omega) ⟨i + 1, _, rfl, hlt, wrap_succ hk (by omega), rfl, rfl⟩)
  · repeat' first|refine yaG ?_|(exfalso;omega)|(refine yaS ?_ ?_<;>intro _)
    exact .ret rfl (.bool rfl)
end Go.Proofs.YtdgnfdljkghpjaaGreat.Am

/- The reader that draws: arguments of IndexOf and of IndexOk. -/
set_option linter.unusedVariables false
set_option linter.unusedSimpArgs false
namespace Go.Proofs.YtdgnfdljkghpjaaGreat.Am

def DrawX (r : AV) : Prop := ∃ (s : List Table) (db : List Data) (n : Int) (cols : List Int), SchD s ∧ (dbF s db = true ∨ db = []) ∧ cols.length ≤ 2 ∧ r = .tup [.c (.fz (s.map encTable)), .c (.fz (db.map encData)), .c (.int .i64 n), .c (.fz (cols.map encI))]
theorem finX {σ : Store} {l : List (Nat × List (List Ce))} {s : List Table} {db : List Data} {n : Int} {cols : List Int} {k v : Nat} (hl : l[k]? = some (v, cols.map encI ++ [])) : FrzV (E σ l) σ.next (.tup [.c (.fz (s.map encTable)), .c (.fz (db.map encData)), .c (.int .i64 n), .c (vec (σ.next + k) v (cols.map encI) [])]) (.tup [.c (.fz (s.map encTable)), .c (.fz (db.map encData)), .c (.int .i64 n), .c (.fz (cols.map encI))]) := by
  refine .tup rfl fun i hi => ?_
  match i, hi with
  | 0, _ => exact .c (.same _ (old_fz1 (oldTables _)))
  | 1, _ => exact .c (.same _ (old_fz1 (oldDatas _)))
  | 2, _ => exact .c (.same _ (.int _ _))
  | 3, _ => exact frz_oldQ (k := k) hl (oldInts _) (Nat.le_add_right _ _)
theorem DrawIndexOf_ok (code : List UInt8) (hc : code.length ≤ 1048576) : Told Tryz.prog 29 [.c (.fz (code.map encB))] DrawX := by
  refine Told.run mixed c_spec_DrawIndexOf_ok (Nat.le_of_ble_eq_true rfl) fun σ hS => ?_
  clear hS
  repeat' first|refine yaG ?_|(exfalso;omega)|(refine yaS ?_ ?_<;>intro _)
  refine .call _ rfl rfl rfl (l1Open_ok code (E σ [])) ?_
  rintro r τ ⟨rfl, rfl⟩
  rw [E_E, List.nil_append, rd_opened hc]
  have hr := rd_open (σ := σ) hc
  repeat' first|refine yaG ?_|(exfalso;omega)|(refine yaS ?_ ?_<;>intro _)
  refine Go.drawn hr (Nat.zero_le _) rfl rfl rfl schema_ok ?_
  rintro _ q hq ⟨s, hs, rfl⟩
  repeat' first|refine yaG ?_|(exfalso;omega)|(refine yaS ?_ ?_<;>intro _)
  refine Go.drawn hr hq rfl rfl rfl (base_ok s 6 (by decide) (by decide) hs) ?_
  rintro _ q2 hq2 ⟨db, hd, rfl⟩
  repeat' first|refine yaG ?_|(exfalso;omega)|(refine yaS ?_ ?_<;>intro _)
  refine Go.drawn hr hq2 rfl rfl rfl (place_ok s db hs.1 hs.2.1) ?_
  rintro _ q3 hq3 ⟨n, rfl⟩
  repeat' first|refine yaG ?_|(exfalso;omega)|(refine yaS ?_ ?_<;>intro _)
  refine Go.drawn hr hq3 rfl rfl rfl (once_ok 3 (by decide) (by decide)) ?_
  rintro _ q4 hq4 ⟨b3, rfl⟩
  cases b3
  · repeat' first|refine yaG ?_|(exfalso;omega)|(refine yaS ?_ ?_<;>intro _)
    refine Go.drawn hr hq4 rfl rfl rfl (off_ok 0 1 (by decide) (by decide) (by decide) (by decide)) ?_
    rintro _ q5 hq5 ⟨z, rfl⟩
    repeat' first|refine yaG ?_|(exfalso;omega)|(refine yaS ?_ ?_<;>intro _)
    rw [rd_close2]
    exact .ret rfl ⟨_, ⟨s, db, n, [z], hs, hd, by simp, rfl⟩, _, rfl, finX (σ := σ) (l := [(0, rdB code q5), (0, [z].map encI ++ [])]) (s := s) (db := db) (n := n) (cols := [z]) (k := 1) (v := 0) rfl⟩
  · repeat' first|refine yaG ?_|(exfalso;omega)|(refine yaS ?_ ?_<;>intro _)
    rw [rd_close2]
    exact .ret rfl ⟨_, ⟨s, db, n, [1, 0], hs, hd, by simp, rfl⟩, _, rfl, finX (σ := σ) (l := [(0, rdB code q4), (0, [(1 : Int), 0].map encI ++ [])]) (s := s) (db := db) (n := n) (cols := [1, 0]) (k := 1) (v := 0) rfl⟩
end Go.Proofs.YtdgnfdljkghpjaaGreat.Am

/- What the rows say of a text of bytes. -/
set_option linter.unusedVariables false
set_option linter.unusedSimpArgs false
namespace Go.Proofs.YtdgnfdljkghpjaaGreat.Am
open Go.RowKit Go.ChangeShapes Go.WideShapes

section
variable {H : Type} {enc : TypeId × Value → H} {W : World}
theorem Opens.isoG {P : Program} {t : TypeId} {α β : Type} {e : β → List Ce} {good : β → Prop} (h : Opens enc P W t e good) (g : β → α) {e' : α → List Ce} {good' : α → Prop} (he : ∀ b, good b → e' (g b) = e b) (hg : ∀ b, good b → good' (g b)) : Opens enc P W t e' good' := by
  constructor
  intro fuel cs x h1 h2
  obtain ⟨a, h3, hl, h4⟩ := h.op fuel cs x h1 h2
  refine ⟨g a, hg a h3, by rw [he a h3]; exact hl, fun i hi => ?_⟩
  simp only [he a h3]
  exact h4 i (by rw [he a h3] at hi; exact hi)
theorem openB : Opens enc Tryz.prog W 5 encB (fun _ => True) :=
  (Opens.int Tryz.underlying5).isoG (fun n => UInt8.ofNat n.toNat) (fun n hn => by
    have h1 : IntKind.u8.min = 0 := by decide
    have h2 : IntKind.u8.max = 255 := by decide
    simp only [Lit.wf, h1, h2, Bool.and_eq_true, decide_eq_true_eq] at hn
    have h3 : (UInt8.ofNat n.toNat).toNat = n.toNat := UInt8.toNat_ofNat_of_lt' (by show n.toNat < 256; omega)
    simp only [encB, h3, List.cons.injEq, Ce.int.injEq, true_and, and_true]
    omega) fun _ _ => trivial
theorem openBs : Opens enc Tryz.prog W 22 (fun l : List UInt8 => [.fz (l.map encB)]) (fun l => l.length ≤ 140737488351232) :=
  (Opens.slice (s := 1) Tryz.underlying22 openB (by kernel_rfl) (by decide) (fun _ => rfl)).iso id (fun _ => rfl) fun l h => Nat.le_trans (Nat.le_mul_of_pos_right _ (of_decide_eq_true (by kernel_rfl))) h.1
end
end Go.Proofs.YtdgnfdljkghpjaaGreat.Am

/- The reader that draws: arguments of IndexOk. -/
set_option linter.unusedVariables false
set_option linter.unusedSimpArgs false
namespace Go.Proofs.YtdgnfdljkghpjaaGreat.Am

def DrawY (r : AV) : Prop := ∃ (s : List Table) (db : List Data) (n : Int) (cols : List Int) (l : List Entry), SchD s ∧ (dbF s db = true ∨ db = []) ∧ cols.length ≤ 2 ∧ r = .tup [.c (.fz (s.map encTable)), .c (.fz (db.map encData)), .c (.int .i64 n), .c (.fz (cols.map encI)), .c (.fz (l.map encE))]
theorem frz_from {σ : Store} {l : List (Nat × List (List Ce))} {k v n c N : Nat} {ys junk : List (List Ce)} (hl : l[k]? = some (v, ys ++ junk)) (ho : ∀ e ∈ ys, ∀ x ∈ e, Old N x) (hn : n ≤ ys.length) (hN : N ≤ σ.next + k) : FrzV (E σ l) N (.c (.sl (σ.next + k) v n (ys.length - n) c)) (.c (.fz (ys.drop n))) := by
  refine .c (.sl _ _ _ _ _ (ys ++ junk) _ hN (by rw [E_at]; exact hl) (by simp; omega) (by simp) (fun i hi => ?_) (fun i j hi hj => ?_))
  · rw [List.getElem_append_left (by omega), List.getElem_drop]
  · have e : (ys ++ junk)[n + i]'(by simp; omega) = (ys.drop n)[i]'(by simp; omega) := by
      rw [List.getElem_append_left (by omega), List.getElem_drop]
    simp only [e]
    exact .same _ (ho _ (List.mem_of_mem_drop (List.getElem_mem _)) _ (List.getElem_mem hj))
theorem els_from {σ : Store} {l : List (Nat × List (List Ce))} {k u n c : Nat} {ys junk : List (List Ce)} (hl : l[k]? = some (u, ys ++ junk)) (hn : n ≤ ys.length) : (E σ l).els (.sl (σ.next + k) u n (ys.length - n) c) = some (ys.drop n) := by
  simp only [Store.els, E_at, hl]
  rw [if_pos ⟨trivial, by rw [List.length_append]; omega⟩, List.drop_append_of_le_length hn, List.take_append_of_le_length (by rw [List.length_drop]; exact Nat.le_refl _), List.take_of_length_le (by rw [List.length_drop]; exact Nat.le_refl _)]
theorem finY {σ τ : Store} {s : List Table} {db : List Data} {n : Int} {cols : List Int} {x : Ce} {ys : List (List Ce)} (h : FrzV τ σ.next (.c x) (.c (.fz ys))) : FrzV τ σ.next (.tup [.c (.fz (s.map encTable)), .c (.fz (db.map encData)), .c (.int .i64 n), .c (.fz (cols.map encI)), .c x]) (.tup [.c (.fz (s.map encTable)), .c (.fz (db.map encData)), .c (.int .i64 n), .c (.fz (cols.map encI)), .c (.fz ys)]) := by
  refine .tup rfl fun i hi => ?_
  match i, hi with
  | 0, _ => exact .c (.same _ (old_fz1 (oldTables _)))
  | 1, _ => exact .c (.same _ (old_fz1 (oldDatas _)))
  | 2, _ => exact .c (.same _ (.int _ _))
  | 3, _ => exact .c (.same _ (old_fz1 (oldInts _)))
  | 4, _ => exact h
theorem DrawIndexOk_ok (code : List UInt8) (hc : code.length ≤ 1048576) : Told Tryz.prog 35 [.c (.fz (code.map encB))] DrawY := by
  refine Told.run mixed c_spec_DrawIndexOk_ok (Nat.le_of_ble_eq_true rfl) fun σ hS => ?_
  clear hS
  repeat' first|refine yaN ?_|(exfalso;omega)|(refine yaS ?_ ?_<;>intro _)
  refine .call _ rfl rfl rfl (l1Open_ok code (E σ [])) ?_
  rintro r τ ⟨rfl, rfl⟩
  rw [E_E, List.nil_append, rd_opened hc]
  have hr := rd_open (σ := σ) hc
  repeat' first|refine yaN ?_|(exfalso;omega)|(refine yaS ?_ ?_<;>intro _)
  refine Go.told rfl rfl rfl (DrawIndexOf_ok code hc) ?_
  rintro _ ⟨s, db, n, cols, hs, hd, hcl, rfl⟩
  obtain ⟨hx, hb⟩ := hs.b
  obtain ⟨hdl, hdb⟩ := draw_dbI hd
  repeat' first|refine yaN ?_|(exfalso;omega)|(refine yaS ?_ ?_<;>intro _)
  refine .call _ rfl rfl rfl (sIndexOf_own s db n cols hx hb hdl hdb (by omega) _) ?_
  rintro r τ (⟨rfl, rfl⟩ | ⟨es, u, junk, hj, hel, hek, rfl, rfl⟩)
  · rw [E_E, List.nil_append]
    repeat' first|refine yaN ?_|(exfalso;omega)|(refine yaS ?_ ?_<;>intro _)
    refine Go.drawn hr (Nat.zero_le _) rfl rfl rfl (once_ok 2 (by decide) (by decide)) ?_
    rintro _ q hq ⟨b3, rfl⟩
    cases b3
    · repeat' first|refine yaN ?_|(exfalso;omega)|(refine yaS ?_ ?_<;>intro _)
      exact .ret rfl ⟨_, ⟨s, db, n, cols, [], hs, hd, hcl, rfl⟩, _, rd_close2, by rw [rd_close2]; exact finY (.c .nil)⟩
    · repeat' first|refine yaN ?_|(exfalso;omega)|(refine yaS ?_ ?_<;>intro _)
      exact .ret rfl ⟨_, ⟨s, db, n, cols, [], hs, hd, hcl, rfl⟩, _, rd_close2, by rw [rd_close2]; exact finY (.c .nil)⟩
  · rw [E_E, List.nil_append]
    repeat' first|refine yaN ?_|(exfalso;omega)|(refine yaS ?_ ?_<;>intro _)
    refine Go.drawn hr (Nat.zero_le _) rfl rfl rfl (once_ok 2 (by decide) (by decide)) ?_
    rintro _ q hq ⟨b3, rfl⟩
    have fin : ∀ (es : List Entry) (q : Nat), DrawY (.tup [.c (.fz (s.map encTable)), .c (.fz (db.map encData)), .c (.int .i64 n), .c (.fz (cols.map encI)), .c (.fz (es.map encE))]) := fun es q => ⟨s, db, n, cols, es, hs, hd, hcl, rfl⟩
    cases b3
    · repeat' first|refine yaN ?_|(exfalso;omega)|(refine yaS ?_ ?_<;>intro _)
      exact .ret rfl ⟨_, fin es q, _, rd_close2, by rw [rd_close2]; exact finY (frz_oldQ (k := 1) rfl (oldEnts _) (Nat.le_add_right _ _))⟩
    cases es with
    | nil =>
      repeat' first|refine yaN ?_|(exfalso;omega)|(refine yaS ?_ ?_<;>intro _)
      exact .ret rfl ⟨_, fin [] q, _, rd_close2, by rw [rd_close2]; exact finY (frz_oldQ (k := 1) rfl (oldEnts _) (Nat.le_add_right _ _))⟩
    | cons e0 es =>
    by_cases hlen : 1 < ((e0 :: es).map encE).length
    · repeat' first|refine yaN ?_|(exfalso;omega)|(refine yaS ?_ ?_<;>intro _)
      refine Go.drawn hr hq rfl rfl rfl (below_ok 3 (by decide) (by decide)) ?_
      rintro _ q2 hq2 ⟨a, ha1, ha2, rfl⟩
      have hz1 : (1 : Int) = ((1 : Nat) : Int) := rfl
      have hz0 : (0 : Int) = ((0 : Nat) : Int) := rfl
      have hn1 : 1 ≤ ((e0 :: es).map encE).length := by omega
      have h0 : 0 < ((e0 :: es).map encE).length := by omega
      have hsz : ∀ e ∈ (e0 :: es).map encE ++ junk, e.length = 2 := fun e he => by
        rcases List.mem_append.1 he with he | he
        · exact encE_two e he
        · exact (hj e he).1
      have hg : ∀ q : Nat, (E (Rd.go (E σ [(0, rdB code 0)]) (σ.next + 0) 0 code q) [(u, (e0 :: es).map encE ++ junk)]).get ((Rd.go (E σ [(0, rdB code 0)]) (σ.next + 0) 0 code q).next + 0) = some (u, (e0 :: es).map encE ++ junk) := fun q => E_get (σ := Rd.go (E σ [(0, rdB code 0)]) (σ.next + 0) 0 code q) (k := 0) rfl
      have hev : ((e0 :: es).map encE ++ junk)[0 + 0]? = some (encE e0) := rfl
      by_cases ha : a = 0
      · subst ha
        repeat' first|refine yaN ?_|((first|apply yG|apply yH|apply yI);exact rfl;(first|exact aop_drop (k := 0) rfl rfl hz1 hn1 rfl hsz))|(exfalso;omega)|(refine yaS ?_ ?_<;>intro _)
        refine .ret rfl ⟨_, fin ((e0 :: es).drop 1) q, _, rd_close2, ?_⟩
        rw [rd_close2, List.map_drop]
        exact finY (frz_from (k := 1) rfl (oldEnts _) hn1 (Nat.le_add_right _ _))
      by_cases hb1 : a = 1
      · subst hb1
        repeat' first|refine yaN ?_|(exfalso;omega)|(refine yaS ?_ ?_<;>intro _)
        refine Go.drawn hr hq2 rfl rfl rfl (off_ok 1 5 (by decide) (by decide) (by decide) (by decide)) ?_
        rintro _ q3 hq3 ⟨z, rfl⟩
        repeat' first|refine yaN ?_|((first|apply yG|apply yH|apply yI);exact rfl;(first|exact aop_iaddrO rfl rfl hz0 h0 (hg _) hev rfl|exact aop_store (k := 0) rfl rfl rfl rfl hev rfl (Nat.le_of_ble_eq_true rfl)))|(exfalso;omega)|(refine yaS ?_ ?_<;>intro _)
        refine .ret rfl ⟨_, fin (⟨e0.key, z⟩ :: es) q, _, rd_close2, ?_⟩
        rw [rd_close2]
        exact finY (frz_oldQ (k := 1) (ys := (⟨e0.key, z⟩ :: es : List Entry).map encE) (junk := junk) rfl (oldEnts _) (Nat.le_add_right _ _))
      · repeat' first|apply Go.seq|apply Go.skip|apply Go.region|apply Go.nil|apply Go.block|apply Go.blk|apply Go.segs|(apply Go.exit;exact rfl)|(apply Go.cond true;exact rfl)|(apply Go.cond false;exact rfl)|apply yB|apply yC|((first|apply yD|apply yE);(first|exact yF|assumption);iterate 6 exact rfl)|((first|apply yG|apply yH|apply yI);exact rfl;(first|exact yJ|exact yK rfl rfl|exact yL rfl|exact yM rfl|exact rfl|exact aL rfl rfl rfl rfl rfl|exact aS rfl rfl rfl rfl rfl rfl rfl|exact aop_iaddrO rfl rfl hz0 h0 (hg _) hev rfl|exact aop_load (k := 0) rfl rfl hev (Nat.le_of_ble_eq_true rfl) rfl))|((first|apply yN|apply yO|apply yP);exact rfl)|(exfalso;omega)|(((first|apply yT|apply yU|apply yV|apply yW);exact rfl;(first|exact .d|exact .e|exact .n|((fail_if_success exact bqt);(fail_if_success exact bqf);exact .b)))<;>intro _)
        all_goals first
          | contradiction
          | (exfalso; omega)
          | skip
        apply Go.draw
        refine Go.qkm [(u, (e0 :: es).map encE ++ junk), (0, [encE e0])] [] ?_
        repeat' first|(apply Qk.nil;show Go _ _ _ _ _ _ _ _)|(apply Qk.op;exact rfl;(first|(rintro _ ⟨_, rfl⟩;exact rfl)|(rintro _ ⟨_, rfl⟩;exact aop_load rfl rfl rfl (Nat.le_of_ble_eq_true rfl) rfl)|(rintro _ ⟨_, rfl⟩;exact aop_drop (k := 0) rfl rfl hz1 hn1 rfl hsz)))|(apply Qk.no;exact rfl)|(apply Qk.wop;exact rfl;exact rfl;(first|exact yJ|exact yL rfl|exact aop_store rfl rfl rfl rfl rfl rfl (Nat.le_of_ble_eq_true rfl));exact ⟨_, rfl⟩)
        have hdl : ∀ e ∈ ((e0 :: es).map encE).drop 1, e.length = 2 := fun e he => encE_two e (List.mem_of_mem_drop he)
        have hdn : (((e0 :: es).map encE).drop 1).length ≤ 60 := by rw [List.length_drop, List.length_map]; omega
        refine Qk.app (k := 2) (v := 0) (ys := []) (junk := []) (zs := ((e0 :: es).map encE).drop 1) rfl rfl rfl (els_from (k := 0) rfl hn1) rfl (fun e he => by cases he) Jk.nil hdl (by rw [List.length_nil]; omega) (fun z => ⟨[z], rfl⟩) fun v1 j1 hj1 => ?_
        repeat' first|(apply Qk.nil;show Go _ _ _ _ _ _ _ _)|(apply Qk.op;exact rfl;(first|(rintro _ ⟨_, rfl⟩;exact rfl)|(rintro _ ⟨_, rfl⟩;exact aop_load rfl rfl rfl (Nat.le_of_ble_eq_true rfl) rfl)))|(apply Qk.no;exact rfl)|(apply Qk.wop;exact rfl;exact rfl;(first|exact yJ|exact yL rfl|exact aop_store rfl rfl rfl rfl rfl rfl (Nat.le_of_ble_eq_true rfl));exact ⟨_, rfl⟩)
        refine Go.sapp1 (k := 2) (z := encE e0) rfl rfl rfl rfl rfl hdl hj1 rfl (by rw [List.nil_append]; omega) fun v2 j2 hj2 => ?_
        repeat' first|refine yaG ?_|(exfalso;omega)|(refine yaS ?_ ?_<;>intro _)
        refine .ret rfl ⟨_, fin ((e0 :: es).drop 1 ++ [e0]) q, _, rd_close2, ?_⟩
        rw [rd_close2, List.map_append, List.map_drop]
        exact finY (frz_oldQ (k := 3) (ys := ((e0 :: es).map encE).drop 1 ++ [encE e0]) (junk := j2) rfl (fun e he x hx => by
          rcases List.mem_append.1 he with he | he
          · exact oldEnts _ e (List.mem_of_mem_drop he) x hx
          · rw [List.mem_singleton.1 he] at hx
            exact old_encE _ e0 x hx) (Nat.le_add_right _ _))
    · repeat' first|refine yaN ?_|(exfalso;omega)|(refine yaS ?_ ?_<;>intro _)
      all_goals first
        | (exfalso; omega)
        | skip
      exact .ret rfl ⟨_, fin (e0 :: es) q, _, rd_close2, by rw [rd_close2]; exact finY (frz_oldQ (k := 1) rfl (oldEnts _) (Nat.le_add_right _ _))⟩
end Go.Proofs.YtdgnfdljkghpjaaGreat.Am

/- What the law FnIndex asks: a row by its number, its key, numbers that are known, what stands ahead. -/
set_option linter.unusedVariables false
set_option linter.unusedSimpArgs false
namespace Go.Proofs.YtdgnfdljkghpjaaGreat.Am

theorem KeyOf1_ok (c : Int) (vals : List Val) (hv : vals.length ≤ 34359738368) : Pure Tryz.prog 91 [.c (.int .i64 c), .c (.fp [.fz (vals.map encV)])] (.c (.bool (!isIn c 0 (vals.length - 1)))) := by
  refine Pure.run mixed c_impl_KeyOf_1_ok (Nat.le_of_ble_eq_true rfl) fun σ hS hA => ?_
  clear hS hA
  have hw : IntKind.i64.wrap ((vals.length : Int) - 1) = vals.length - 1 := by rw [wrap64 (by omega) (by omega)]
  have c1 := in_ok c 0 (vals.length - 1)
  rw [← hw] at c1
  repeat' first|refine yaG ?_|refine yaC (c1) ?_|(exfalso;omega)|(refine yaS ?_ ?_<;>intro _)
  rw [hw]
  exact .ret rfl (.bool rfl)
theorem KeyOf_good (cols : List Int) (vals : List Val) (hx : cols.length ≤ 34359738368) (hv : areVals vals 16 = true) (hi : InR cols vals.length) : Pure Tryz.prog 36 [.c (.fz (cols.map encI)), .c (.fz (vals.map encV))] (.tup [.c (.fz ((keyF cols vals).map encV)), .c (.bool (wholeF cols vals))]) := by
  refine Pure.run mixed c_impl_KeyOf_ok (Nat.le_of_ble_eq_true rfl) fun σ hS hA => ?_
  clear hS hA
  have hl : vals.length ≤ 34359738368 := by
    rw [areVals, Bool.and_eq_true, decide_eq_true_eq] at hv
    omega
  have c1 := areVals_ok vals 16 (by decide) hl
  rw [hv] at c1
  have c2 := containsFuncA_ok mixed c_slices_ContainsFunc_int64_int64_ok c_slices_IndexFunc_int64_int64_ok encI (fun n => .c (.int .i64 n)) (fun _ => rfl) (fun _ => rfl) cols (fun c => !isIn c 0 (vals.length - 1)) _ [] [.fp [.fz (vals.map encV)]] hx (fun j hj _ => KeyOf1_ok _ vals hl)
  have hno : cols.any (fun c => !isIn c 0 (vals.length - 1)) = false := by
    rw [List.any_eq_false]
    intro c hc
    obtain ⟨h1, h2⟩ := hi c hc
    have : isIn c 0 (vals.length - 1) = true := by
      simp only [isIn, Bool.and_eq_true, decide_eq_true_eq]
      omega
    rw [this]
    decide
  rw [hno] at c2
  have c3 := keyOf_ok cols vals hx hi
  repeat' first|refine yaG ?_|refine yaC (c1) ?_|refine yaC (c2) ?_|refine yaC (c3) ?_|(exfalso;omega)|(refine yaS ?_ ?_<;>intro _)
  exact .ret rfl ⟨_, rfl, .tup rfl fun i hi => by
    match i, hi with
    | 0, _ => exact .c (.same _ (old_fz1 (oldL_flat flats)))
    | 1, _ => exact .c (.same _ (.bool _))⟩
theorem at_good (d : Data) (j : Nat) (hj : j < d.rows.length) (hx : d.rows.length ≤ 34359738368) (hd : ∀ i (hi : i < j), (d.rows[i]'(by omega)).id ≠ d.rows[j].id) : Pure Tryz.prog 37 [.agg (encData d), .c (.int .i64 d.rows[j].id)] (.c (.fz (d.rows[j].vals.map encV))) := by
  refine Pure.run mixed c_laws_at_ok (Nat.le_of_ble_eq_true rfl) fun σ hS hA => ?_
  clear hS hA
  repeat' first|refine yaG ?_|(exfalso;omega)|(refine yaS ?_ ?_<;>intro _)
  refine Go.keep [1, 2, 5] (Go.loops (I := fun m fr τ => ∃ (i : Nat) (k : Int), m = j - i ∧ i ≤ j ∧ k = i ∧
    fr = [(1, .c (.int .i64 d.rows[j].id)), (2, .c (.fp (encData d))), (5, .c (.int .i64 k))] ∧ τ = E σ []) ?_ _ _ _ ⟨0, _, rfl, Nat.zero_le _, rfl, rfl, rfl⟩)
  rintro m fr τ ⟨i, k, rfl, hi, hk, rfl, rfl⟩ hrec
  have hlt : i < d.rows.length := by omega
  by_cases he : i = j
  · subst he
    repeat' first|refine yaG ?_|((first|apply yG|apply yH|apply yI);exact rfl;(first|exact yX (enc := encRowD) rfl rfl hk hlt rfl))|(exfalso;omega)|(refine yaS ?_ ?_<;>intro _)
    all_goals first
      | contradiction
      | skip
    exact .ret rfl ⟨_, rfl, .c (.same _ (old_fz1 (oldL_flat flats)))⟩
  · have hne := hd i (by omega)
    repeat' first|refine yaG ?_|((first|apply yG|apply yH|apply yI);exact rfl;(first|exact yX (enc := encRowD) rfl rfl hk hlt rfl))|(exfalso;omega)|(refine yaS ?_ ?_<;>intro _)
    all_goals first
      | contradiction
      | skip
    exact Go.keep [1, 2, 5] (hrec _ _ _ (by omega) ⟨i + 1, _, rfl, by omega, wrap_succ hk (by omega), rfl, rfl⟩)
theorem has_no (l : List Int) (n : Int) (hx : l.length ≤ 34359738368) (hn : n ∉ l) : Pure Tryz.prog 39 [.c (.fz (l.map encI)), .c (.int .i64 n)] (.c (.bool false)) := by
  refine Pure.run mixed c_laws_has_ok (Nat.le_of_ble_eq_true rfl) fun σ hS hA => ?_
  clear hS hA
  repeat' first|refine yaG ?_|(exfalso;omega)|(refine yaS ?_ ?_<;>intro _)
  refine Go.keep [0, 1, 5] (Go.loops (I := fun m fr τ => ∃ (i : Nat) (k : Int), m = l.length - i ∧ i ≤ l.length ∧ k = i ∧
    fr = [(0, .c (.fz (l.map encI))), (1, .c (.int .i64 n)), (5, .c (.int .i64 k))] ∧ τ = E σ []) ?_ _ _ _ ⟨0, _, rfl, Nat.zero_le _, rfl, rfl, rfl⟩)
  rintro m fr τ ⟨i, k, rfl, hi, hk, rfl, rfl⟩ hrec
  by_cases hlt : i < l.length
  · have hne : ¬ l[i] = n := fun h => hn (h ▸ List.getElem_mem hlt)
    repeat' first|refine yaG ?_|((first|apply yG|apply yH|apply yI);exact rfl;(first|exact yX (enc := encI) rfl rfl hk hlt rfl))|(exfalso;omega)|(refine yaS ?_ ?_<;>intro _)
    all_goals first
      | contradiction
      | skip
    exact Go.keep [0, 1, 5] (hrec _ _ _ (by omega) ⟨i + 1, _, rfl, hlt, wrap_succ hk (by omega), rfl, rfl⟩)
  · repeat' first|refine yaG ?_|(exfalso;omega)|(refine yaS ?_ ?_<;>intro _)
    exact .ret rfl (.bool rfl)
def orderL (a b : Val) : Int := if okVal a && okVal b then order a b else 0
theorem OrderL_ok (a b : Val) : Pure Tryz.prog 40 [.agg (encV a), .agg (encV b)] (.c (.int .i64 (orderL a b))) := by
  refine Pure.run mixed c_impl_Order_ok (Nat.le_of_ble_eq_true rfl) fun σ hS hA => ?_
  clear hS hA
  have c1 := ValOk_ok a
  have c2 := ValOk_ok b
  rw [orderL]
  cases h1 : okVal a
  · rw [h1] at c1
    repeat' first|refine yaG ?_|refine yaC (c1) ?_|(exfalso;omega)|(refine yaS ?_ ?_<;>intro _)
    exact .ret rfl (.int rfl)
  rw [h1] at c1
  cases h2 : okVal b
  · rw [h2] at c2
    repeat' first|refine yaG ?_|refine yaC (c1) ?_|refine yaC (c2) ?_|(exfalso;omega)|(refine yaS ?_ ?_<;>intro _)
    exact .ret rfl (.int rfl)
  rw [h2] at c2
  repeat' first|refine yaG ?_|refine yaC (c1) ?_|refine yaC (c2) ?_|refine yaC (order_ok a b) ?_|(exfalso;omega)|(refine yaS ?_ ?_<;>intro _)
  exact .ret rfl (.int rfl)
theorem head_le {x y : Entry} {v w : Val} {r q : List Val} (h : entOrd x y < 0) (hx : x.key = v :: r) (hy : y.key = w :: q) : order v w ≤ 0 := by
  rw [entOrd, hx, hy, orderOf] at h
  by_cases h0 : order v w = 0
  · omega
  · rw [if_neg h0] at h
    simp only [orI] at h
    rw [if_neg h0] at h
    omega
end Go.Proofs.YtdgnfdljkghpjaaGreat.Am
