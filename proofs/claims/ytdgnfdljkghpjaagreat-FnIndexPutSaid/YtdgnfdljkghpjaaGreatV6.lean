/- Joined texts: Q5, Q6, Q7, Q8, Q9, Q10, Q12, Q13, Q14, Q15, I3, I4, T4. -/
import Derived.Test.YtdgnfdljkghpjaaGreatProg
import Derived.KernelRfl
import Derived.Test.YtdgnfdljkghpjaaGreatV1
import Derived.Test.YtdgnfdljkghpjaaGreatV2
import Derived.Test.YtdgnfdljkghpjaaGreatV3
import Derived.Test.YtdgnfdljkghpjaaGreatV4
import Derived.Test.YtdgnfdljkghpjaaGreatV5
/- Sorting in place: merging, many against many; the whole sort. -/
set_option linter.unusedVariables false
set_option linter.unusedSimpArgs false
namespace Go.Proofs.YtdgnfdljkghpjaaGreat.Am

set_option maxHeartbeats 4000000 in
theorem symC_ok {P : Program} (hm : P.follows .mixedOrders = true) {fz fz' fz'' : List Nat} (hc : compFn P fz 155 = some c_slices_symMergeCmpFunc_Entry) (hc' : compFn P fz' 201 = some c_slices_rotateCmpFunc_Entry) (hc'' : compFn P fz'' 234 = some c_slices_swapRangeCmpFunc_Entry)
    {α : Type} (F : Fam α) (D : α → Prop) (co : α → α → Int) (g : Nat) (pre cap : List Ce) (hcmp : Cmps P F D co g pre cap) (N c d : Nat)
    (ih : ∀ (l : List α) (a m b : Nat) (za zm zb : Int), l.length = N → za = a → zm = m → zb = b → (∀ x ∈ l, D x) → b ≤ l.length → a < m → m < b → b - a ≤ d → Ok P 155 [.c (.sl F.id F.v 0 N c), .c (.int .i64 za), .c (.int .i64 zm), .c (.int .i64 zb), .c (.fn g pre cap)] (F.S l) (fun r τ => r = .tup [] ∧ τ = F.S (sym co d a m b l)))
    (l : List α) (a m b : Nat) (za zm zb : Int) (hN : l.length = N) (ha : za = a) (hzm : zm = m) (hb : zb = b) (hD : ∀ x ∈ l, D x) (h3 : b ≤ l.length) (hab : a < m) (hmb : m < b) (hd : b - a ≤ d + 1) (hx : l.length ≤ 34359738368) (h1 : ¬ m - a = 1) (h2 : ¬ b - m = 1) :
    Ok P 155 [.c (.sl F.id F.v 0 N c), .c (.int .i64 za), .c (.int .i64 zm), .c (.int .i64 zb), .c (.fn g pre cap)] (F.S l) (fun r τ => r = .tup [] ∧ τ = F.S (sym co (d + 1) a m b l)) := by
  refine .of_go hm hc (Nat.le_of_ble_eq_true rfl) ?_
  rw [sym, if_neg h1, if_neg h2]
  subst hN
  have e1 : ¬ IntKind.i64.wrap (zm - za) = 1 := by rw [wrap64 (by omega) (by omega)]; omega
  have e2 : ¬ IntKind.i64.wrap (zb - zm) = 1 := by rw [wrap64 (by omega) (by omega)]; omega
  have es : IntKind.i64.wrap (za + zb) = ((a + b : Nat) : Int) := by rw [wrap64 (by omega) (by omega)]; omega
  have emid := half_eq es (by omega)
  obtain ⟨zmid, hzmid⟩ : ∃ z, z = IntKind.i64.wrap ((IntKind.u64.wrap (IntKind.i64.wrap (za + zb))).fdiv (2 ^ (min (1 : Int).toNat IntKind.u64.bits))) := ⟨_, rfl⟩
  rw [← hzmid] at emid
  obtain ⟨mid, hmid⟩ : ∃ k, k = (a + b) / 2 := ⟨_, rfl⟩
  rw [← hmid] at emid
  have en : IntKind.i64.wrap (zmid + zm) = ((mid + m : Nat) : Int) := by rw [wrap64 (by omega) (by omega)]; omega
  have ep : IntKind.i64.wrap (IntKind.i64.wrap (zmid + zm) - 1) = ((mid + m - 1 : Nat) : Int) := by rw [en, wrap64 (by omega) (by omega)]; omega
  obtain ⟨p, hp⟩ : ∃ p : Nat → Bool, p = fun h => !ltA co l (mid + m - 1 - h) h := ⟨_, rfl⟩
  obtain ⟨s0, hs0⟩ : ∃ k, k = if mid < m then mid + m - b else a := ⟨_, rfl⟩
  obtain ⟨r0, hr0⟩ : ∃ k, k = if mid < m then mid else m := ⟨_, rfl⟩
  obtain ⟨f0, hf0⟩ : ∃ k, k = if mid < m then b - m else m - a := ⟨_, rfl⟩
  have hst : symStart co a m b l = bs p f0 s0 r0 := by
    rw [symStart, ← hmid, ← hp, hs0, hr0, hf0]
    split <;> rfl
  have hrange : s0 ≤ r0 ∧ r0 ≤ m ∧ r0 ≤ mid ∧ a ≤ s0 ∧ r0 - s0 ≤ f0 ∧ mid + m ≤ s0 + b := by
    rw [hs0, hr0, hf0]
    split <;> omega
  have hbi := bs_in (p := p) (n := f0) hrange.1
  have hes : IntKind.i64.wrap (IntKind.i64.wrap (zmid + zm) - zb) = ((mid + m - b : Nat) : Int) ∨ ¬ mid < m := by
    by_cases h : mid < m
    · left; rw [en, wrap64 (by omega) (by omega)]; omega
    · exact .inr h
  simp only [hst, ← hmid]
  rw [hzmid] at emid en ep hes
  by_cases hq : mid < m
  · have HS : IntKind.i64.wrap (IntKind.i64.wrap (IntKind.i64.wrap ((IntKind.u64.wrap (IntKind.i64.wrap (za + zb))).fdiv (2 ^ (min (1 : Int).toNat IntKind.u64.bits))) + zm) - zb) = (s0 : Int) := by
      rcases hes with h | h
      · rw [h, hs0, if_pos hq]
      · exact absurd hq h
    have HR : IntKind.i64.wrap ((IntKind.u64.wrap (IntKind.i64.wrap (za + zb))).fdiv (2 ^ (min (1 : Int).toNat IntKind.u64.bits))) = (r0 : Int) := by rw [emid, hr0, if_pos hq]
    have hlq : zm > IntKind.i64.wrap ((IntKind.u64.wrap (IntKind.i64.wrap (za + zb))).fdiv (2 ^ (min (1 : Int).toNat IntKind.u64.bits))) := by rw [emid]; omega
    repeat' first|refine yaG ?_|(exfalso;omega)|(refine yaS ?_ ?_<;>intro _)
    all_goals first
      | contradiction
      | skip
    refine Go.keep [0, 1, 2, 3, 4, 18, 19, 20, 21, 22] (Go.loops (I := fun mm fr τ => ∃ (i j : Nat) (zi zj zd zn zp : Int), mm = j - i ∧ s0 ≤ i ∧ i ≤ j ∧ j ≤ r0 ∧ zi = i ∧ zj = j ∧ zd = (mid : Nat) ∧ zn = ((mid + m : Nat) : Int) ∧ zp = ((mid + m - 1 : Nat) : Int) ∧ (∃ k, j - i ≤ k ∧ bs p f0 s0 r0 = bs p k i j) ∧
      fr = [(0, .c (.sl F.id F.v 0 l.length c)), (1, .c (.int .i64 za)), (2, .c (.int .i64 zm)), (3, .c (.int .i64 zb)), (4, .c (.fn g pre cap)), (18, .c (.int .i64 zd)), (19, .c (.int .i64 zn)), (20, .c (.int .i64 zi)), (21, .c (.int .i64 zj)), (22, .c (.int .i64 zp))] ∧ τ = F.S l) ?_ _ _ _ ⟨s0, r0, _, _, _, _, _, rfl, Nat.le_refl _, hrange.1, Nat.le_refl _, HS, HR, emid, en, ep, ⟨f0, hrange.2.2.2.2.1, rfl⟩, rfl, rfl⟩)
    clear emid en ep hes es hzmid
    clear zmid
    rintro mm fr τ ⟨i, j, zi, zj, zd, zn, zp, hmm, hsi, hij, hjr, hzi, hzj, hzd, hzn, hzp, ⟨k, hk, hbs⟩, rfl, rfl⟩ hrec
    by_cases hlt : i < j
    · obtain ⟨k, rfl⟩ : ∃ k', k = k' + 1 := ⟨k - 1, by omega⟩
      rw [bs, if_pos hlt] at hbs
      have es : IntKind.i64.wrap (zi + zj) = ((i + j : Nat) : Int) := by rw [wrap64 (by omega) (by omega)]; omega
      have eh := half_eq es (by omega)
      obtain ⟨h, hh0⟩ : ∃ h, h = (i + j) / 2 := ⟨_, rfl⟩
      rw [← hh0] at eh hbs
      have hh : h < l.length := by omega
      have hph : mid + m - 1 - h < l.length := by omega
      have ev : ∀ z : Int, z = (h : Int) → IntKind.i64.wrap (zp - z) = ((mid + m - 1 - h : Nat) : Int) := fun z hz => by rw [wrap64 (by omega) (by omega)]; omega
      have epc := ev _ eh
      have hpv : p h = !decide (co l[mid + m - 1 - h] l[h] < 0) := by rw [hp]; exact congrArg _ (ltA_eq hph hh)
      have cc := hcmp l l[mid + m - 1 - h] l[h] (hD _ (List.getElem_mem hph)) (hD _ (List.getElem_mem hh))
      rw [hpv] at hbs
      generalize co l[mid + m - 1 - h] l[h] = o at cc hbs
      repeat' first|refine yaG ?_|((first|apply yG|apply yH|apply yI);exact rfl;(first|exact aop_si rfl rfl eh rfl hh|exact aop_si rfl rfl epc rfl hph|exact aop_sl rfl hh|exact aop_sl rfl hph))|(exfalso;omega)|(refine yaS ?_ ?_<;>intro _)
      refine Go.scall _ rfl rfl rfl cc ?_
      rintro r τ ⟨rfl, rfl⟩
      have up : bs p f0 s0 r0 = bs p k (h + 1) j → ∀ fr τ, fr = [(0, AV.c (.sl F.id F.v 0 l.length c)), (1, .c (.int .i64 za)), (2, .c (.int .i64 zm)), (3, .c (.int .i64 zb)), (4, .c (.fn g pre cap)), (18, .c (.int .i64 zd)), (19, .c (.int .i64 zn)), (20, .c (.int .i64 (IntKind.i64.wrap (IntKind.i64.wrap ((IntKind.u64.wrap (IntKind.i64.wrap (zi + zj))).fdiv (2 ^ (min (1 : Int).toNat IntKind.u64.bits))) + 1)))), (21, .c (.int .i64 zj)), (22, .c (.int .i64 zp))] → τ = F.S l → _ := fun e fr τ p1 p2 => hrec (j - (h + 1)) fr τ (by omega) ⟨h + 1, j, _, _, _, _, _, rfl, by omega, by omega, hjr, wrap_succ eh (by omega), hzj, hzd, hzn, hzp, ⟨k, by omega, e⟩, p1, p2⟩
      have dn : bs p f0 s0 r0 = bs p k i h → ∀ fr τ, fr = [(0, AV.c (.sl F.id F.v 0 l.length c)), (1, .c (.int .i64 za)), (2, .c (.int .i64 zm)), (3, .c (.int .i64 zb)), (4, .c (.fn g pre cap)), (18, .c (.int .i64 zd)), (19, .c (.int .i64 zn)), (20, .c (.int .i64 zi)), (21, .c (.int .i64 (IntKind.i64.wrap ((IntKind.u64.wrap (IntKind.i64.wrap (zi + zj))).fdiv (2 ^ (min (1 : Int).toNat IntKind.u64.bits)))))), (22, .c (.int .i64 zp))] → τ = F.S l → _ := fun e fr τ p1 p2 => hrec (h - i) fr τ (by omega) ⟨i, h, _, _, _, _, _, rfl, hsi, by omega, by omega, hzi, eh, hzd, hzn, hzp, ⟨k, by omega, e⟩, p1, p2⟩
      clear hrec eh epc ev
      by_cases ho : o < 0
      · rw [if_neg (by simp [ho])] at hbs
        repeat' first|refine yaG ?_|(exfalso;omega)|(refine yaS ?_ ?_<;>intro _)
        all_goals first
          | exact Go.keep [0, 1, 2, 3, 4, 18, 19, 20, 21, 22] (dn hbs _ _ rfl rfl)
          | (exfalso; simp_all; done)
          | (exfalso; simp_all; omega)
      · rw [if_pos (by simp [ho])] at hbs
        repeat' first|refine yaG ?_|(exfalso;omega)|(refine yaS ?_ ?_<;>intro _)
        all_goals first
          | exact Go.keep [0, 1, 2, 3, 4, 18, 19, 20, 21, 22] (up hbs _ _ rfl rfl)
          | (exfalso; simp_all; done)
          | (exfalso; simp_all; omega)
    · rw [bs_end hlt] at hbs
      rw [hbs] at hbi ⊢
      clear hrec hbs hp hk hst hcmp
      obtain ⟨s, hs⟩ : ∃ s, s = i := ⟨_, rfl⟩
      rw [← hs] at hbi hzi ⊢
      obtain ⟨e, he⟩ : ∃ e, e = mid + m - s := ⟨_, rfl⟩
      rw [← he]
      have eend : IntKind.i64.wrap (zn - zi) = (e : Int) := by rw [wrap64 (by omega) (by omega)]; omega
      by_cases q1 : s < m ∧ m < e
      · rw [if_pos q1]
        have len1 : (rotF s m e l).length = l.length := rot_len
        have D1 : ∀ x ∈ rotF s m e l, D x := fun x hx => hD x (rot_mem hx)
        have cr := rotate_ok hm hc' hc'' F l s m e c zi zm (IntKind.i64.wrap (zn - zi)) hzi hzm eend (.fn g pre cap) q1.1 q1.2 (by omega) hx
        repeat' first|refine yaG ?_|(exfalso;omega)|(refine yaS ?_ ?_<;>intro _)
        all_goals first
          | (exfalso; omega)
          | skip
        refine .call _ rfl rfl rfl cr ?_
        rintro r τ ⟨rfl, rfl⟩
        generalize rotF s m e l = l1 at len1 D1 ⊢
        by_cases q2 : a < s ∧ s < mid
        · rw [if_pos q2]
          have c2 := ih l1 a s mid za zi zd len1 ha hzi hzd D1 (by omega) q2.1 q2.2 (by omega)
          have len2 : (sym co d a s mid l1).length = l.length := sym_len.trans len1
          have D2 : ∀ x ∈ sym co d a s mid l1, D x := fun x hx => D1 x (sym_mem hx)
          repeat' first|refine yaG ?_|(exfalso;omega)|(refine yaS ?_ ?_<;>intro _)
          all_goals first
            | (exfalso; omega)
            | skip
          refine .call _ rfl rfl rfl c2 ?_
          rintro r τ ⟨rfl, rfl⟩
          generalize sym co d a s mid l1 = l2 at len2 D2 ⊢
          by_cases q3 : mid < e ∧ e < b
          · rw [if_pos q3]
            have c3 := ih l2 mid e b zd (IntKind.i64.wrap (zn - zi)) zb len2 hzd eend hb D2 (by omega) q3.1 q3.2 (by omega)
            repeat' first|refine yaG ?_|(exfalso;omega)|(refine yaS ?_ ?_<;>intro _)
            all_goals first
              | (exfalso; omega)
              | skip
            refine .call _ rfl rfl rfl c3 ?_
            rintro r τ ⟨rfl, rfl⟩
            repeat' first|refine yaG ?_|(exfalso;omega)|(refine yaS ?_ ?_<;>intro _)
            exact .fin rfl ⟨rfl, rfl⟩
          · rw [if_neg q3]
            repeat' first|refine yaG ?_|(exfalso;omega)|(refine yaS ?_ ?_<;>intro _)
            all_goals first
              | (exfalso; omega)
              | exact .fin rfl ⟨rfl, rfl⟩
        · rw [if_neg q2]
          by_cases q3 : mid < e ∧ e < b
          · rw [if_pos q3]
            exfalso
            omega
          · rw [if_neg q3]
            repeat' first|refine yaG ?_|(exfalso;omega)|(refine yaS ?_ ?_<;>intro _)
            all_goals first
              | (exfalso; omega)
              | exact .fin rfl ⟨rfl, rfl⟩
      · rw [if_neg q1]
        have len1 : l.length = l.length := rfl
        by_cases q2 : a < s ∧ s < mid
        · rw [if_pos q2]
          exfalso
          omega
        · rw [if_neg q2]
          by_cases q3 : mid < e ∧ e < b
          · rw [if_pos q3]
            have c3 := ih l mid e b zd (IntKind.i64.wrap (zn - zi)) zb len1 hzd eend hb hD (by omega) q3.1 q3.2 (by omega)
            repeat' first|refine yaG ?_|(exfalso;omega)|(refine yaS ?_ ?_<;>intro _)
            all_goals first
              | (exfalso; omega)
              | skip
            refine .call _ rfl rfl rfl c3 ?_
            rintro r τ ⟨rfl, rfl⟩
            repeat' first|refine yaG ?_|(exfalso;omega)|(refine yaS ?_ ?_<;>intro _)
            exact .fin rfl ⟨rfl, rfl⟩
          · rw [if_neg q3]
            repeat' first|refine yaG ?_|(exfalso;omega)|(refine yaS ?_ ?_<;>intro _)
            all_goals first
              | (exfalso; omega)
              | exact .fin rfl ⟨rfl, rfl⟩
  · have HS : za = (s0 : Int) := by rw [hs0, if_neg hq]; exact ha
    have HR : zm = (r0 : Int) := by rw [hr0, if_neg hq]; exact hzm
    have hlq : ¬ zm > IntKind.i64.wrap ((IntKind.u64.wrap (IntKind.i64.wrap (za + zb))).fdiv (2 ^ (min (1 : Int).toNat IntKind.u64.bits))) := by rw [emid]; omega
    repeat' first|refine yaG ?_|(exfalso;omega)|(refine yaS ?_ ?_<;>intro _)
    all_goals first
      | contradiction
      | skip
    refine Go.keep [0, 1, 2, 3, 4, 18, 19, 20, 21, 22] (Go.loops (I := fun mm fr τ => ∃ (i j : Nat) (zi zj zd zn zp : Int), mm = j - i ∧ s0 ≤ i ∧ i ≤ j ∧ j ≤ r0 ∧ zi = i ∧ zj = j ∧ zd = (mid : Nat) ∧ zn = ((mid + m : Nat) : Int) ∧ zp = ((mid + m - 1 : Nat) : Int) ∧ (∃ k, j - i ≤ k ∧ bs p f0 s0 r0 = bs p k i j) ∧
      fr = [(0, .c (.sl F.id F.v 0 l.length c)), (1, .c (.int .i64 za)), (2, .c (.int .i64 zm)), (3, .c (.int .i64 zb)), (4, .c (.fn g pre cap)), (18, .c (.int .i64 zd)), (19, .c (.int .i64 zn)), (20, .c (.int .i64 zi)), (21, .c (.int .i64 zj)), (22, .c (.int .i64 zp))] ∧ τ = F.S l) ?_ _ _ _ ⟨s0, r0, _, _, _, _, _, rfl, Nat.le_refl _, hrange.1, Nat.le_refl _, HS, HR, emid, en, ep, ⟨f0, hrange.2.2.2.2.1, rfl⟩, rfl, rfl⟩)
    clear emid en ep hes es hzmid
    clear zmid
    rintro mm fr τ ⟨i, j, zi, zj, zd, zn, zp, hmm, hsi, hij, hjr, hzi, hzj, hzd, hzn, hzp, ⟨k, hk, hbs⟩, rfl, rfl⟩ hrec
    by_cases hlt : i < j
    · obtain ⟨k, rfl⟩ : ∃ k', k = k' + 1 := ⟨k - 1, by omega⟩
      rw [bs, if_pos hlt] at hbs
      have es : IntKind.i64.wrap (zi + zj) = ((i + j : Nat) : Int) := by rw [wrap64 (by omega) (by omega)]; omega
      have eh := half_eq es (by omega)
      obtain ⟨h, hh0⟩ : ∃ h, h = (i + j) / 2 := ⟨_, rfl⟩
      rw [← hh0] at eh hbs
      have hh : h < l.length := by omega
      have hph : mid + m - 1 - h < l.length := by omega
      have ev : ∀ z : Int, z = (h : Int) → IntKind.i64.wrap (zp - z) = ((mid + m - 1 - h : Nat) : Int) := fun z hz => by rw [wrap64 (by omega) (by omega)]; omega
      have epc := ev _ eh
      have hpv : p h = !decide (co l[mid + m - 1 - h] l[h] < 0) := by rw [hp]; exact congrArg _ (ltA_eq hph hh)
      have cc := hcmp l l[mid + m - 1 - h] l[h] (hD _ (List.getElem_mem hph)) (hD _ (List.getElem_mem hh))
      rw [hpv] at hbs
      generalize co l[mid + m - 1 - h] l[h] = o at cc hbs
      repeat' first|refine yaG ?_|((first|apply yG|apply yH|apply yI);exact rfl;(first|exact aop_si rfl rfl eh rfl hh|exact aop_si rfl rfl epc rfl hph|exact aop_sl rfl hh|exact aop_sl rfl hph))|(exfalso;omega)|(refine yaS ?_ ?_<;>intro _)
      refine Go.scall _ rfl rfl rfl cc ?_
      rintro r τ ⟨rfl, rfl⟩
      have up : bs p f0 s0 r0 = bs p k (h + 1) j → ∀ fr τ, fr = [(0, AV.c (.sl F.id F.v 0 l.length c)), (1, .c (.int .i64 za)), (2, .c (.int .i64 zm)), (3, .c (.int .i64 zb)), (4, .c (.fn g pre cap)), (18, .c (.int .i64 zd)), (19, .c (.int .i64 zn)), (20, .c (.int .i64 (IntKind.i64.wrap (IntKind.i64.wrap ((IntKind.u64.wrap (IntKind.i64.wrap (zi + zj))).fdiv (2 ^ (min (1 : Int).toNat IntKind.u64.bits))) + 1)))), (21, .c (.int .i64 zj)), (22, .c (.int .i64 zp))] → τ = F.S l → _ := fun e fr τ p1 p2 => hrec (j - (h + 1)) fr τ (by omega) ⟨h + 1, j, _, _, _, _, _, rfl, by omega, by omega, hjr, wrap_succ eh (by omega), hzj, hzd, hzn, hzp, ⟨k, by omega, e⟩, p1, p2⟩
      have dn : bs p f0 s0 r0 = bs p k i h → ∀ fr τ, fr = [(0, AV.c (.sl F.id F.v 0 l.length c)), (1, .c (.int .i64 za)), (2, .c (.int .i64 zm)), (3, .c (.int .i64 zb)), (4, .c (.fn g pre cap)), (18, .c (.int .i64 zd)), (19, .c (.int .i64 zn)), (20, .c (.int .i64 zi)), (21, .c (.int .i64 (IntKind.i64.wrap ((IntKind.u64.wrap (IntKind.i64.wrap (zi + zj))).fdiv (2 ^ (min (1 : Int).toNat IntKind.u64.bits)))))), (22, .c (.int .i64 zp))] → τ = F.S l → _ := fun e fr τ p1 p2 => hrec (h - i) fr τ (by omega) ⟨i, h, _, _, _, _, _, rfl, hsi, by omega, by omega, hzi, eh, hzd, hzn, hzp, ⟨k, by omega, e⟩, p1, p2⟩
      clear hrec eh epc ev
      by_cases ho : o < 0
      · rw [if_neg (by simp [ho])] at hbs
        repeat' first|refine yaG ?_|(exfalso;omega)|(refine yaS ?_ ?_<;>intro _)
        all_goals first
          | exact Go.keep [0, 1, 2, 3, 4, 18, 19, 20, 21, 22] (dn hbs _ _ rfl rfl)
          | (exfalso; simp_all; done)
          | (exfalso; simp_all; omega)
      · rw [if_pos (by simp [ho])] at hbs
        repeat' first|refine yaG ?_|(exfalso;omega)|(refine yaS ?_ ?_<;>intro _)
        all_goals first
          | exact Go.keep [0, 1, 2, 3, 4, 18, 19, 20, 21, 22] (up hbs _ _ rfl rfl)
          | (exfalso; simp_all; done)
          | (exfalso; simp_all; omega)
    · rw [bs_end hlt] at hbs
      rw [hbs] at hbi ⊢
      clear hrec hbs hp hk hst hcmp
      obtain ⟨s, hs⟩ : ∃ s, s = i := ⟨_, rfl⟩
      rw [← hs] at hbi hzi ⊢
      obtain ⟨e, he⟩ : ∃ e, e = mid + m - s := ⟨_, rfl⟩
      rw [← he]
      have eend : IntKind.i64.wrap (zn - zi) = (e : Int) := by rw [wrap64 (by omega) (by omega)]; omega
      by_cases q1 : s < m ∧ m < e
      · rw [if_pos q1]
        have len1 : (rotF s m e l).length = l.length := rot_len
        have D1 : ∀ x ∈ rotF s m e l, D x := fun x hx => hD x (rot_mem hx)
        have cr := rotate_ok hm hc' hc'' F l s m e c zi zm (IntKind.i64.wrap (zn - zi)) hzi hzm eend (.fn g pre cap) q1.1 q1.2 (by omega) hx
        repeat' first|refine yaG ?_|(exfalso;omega)|(refine yaS ?_ ?_<;>intro _)
        all_goals first
          | (exfalso; omega)
          | skip
        refine .call _ rfl rfl rfl cr ?_
        rintro r τ ⟨rfl, rfl⟩
        generalize rotF s m e l = l1 at len1 D1 ⊢
        by_cases q2 : a < s ∧ s < mid
        · rw [if_pos q2]
          have c2 := ih l1 a s mid za zi zd len1 ha hzi hzd D1 (by omega) q2.1 q2.2 (by omega)
          have len2 : (sym co d a s mid l1).length = l.length := sym_len.trans len1
          have D2 : ∀ x ∈ sym co d a s mid l1, D x := fun x hx => D1 x (sym_mem hx)
          repeat' first|refine yaG ?_|(exfalso;omega)|(refine yaS ?_ ?_<;>intro _)
          all_goals first
            | (exfalso; omega)
            | skip
          refine .call _ rfl rfl rfl c2 ?_
          rintro r τ ⟨rfl, rfl⟩
          generalize sym co d a s mid l1 = l2 at len2 D2 ⊢
          by_cases q3 : mid < e ∧ e < b
          · rw [if_pos q3]
            have c3 := ih l2 mid e b zd (IntKind.i64.wrap (zn - zi)) zb len2 hzd eend hb D2 (by omega) q3.1 q3.2 (by omega)
            repeat' first|refine yaG ?_|(exfalso;omega)|(refine yaS ?_ ?_<;>intro _)
            all_goals first
              | (exfalso; omega)
              | skip
            refine .call _ rfl rfl rfl c3 ?_
            rintro r τ ⟨rfl, rfl⟩
            repeat' first|refine yaG ?_|(exfalso;omega)|(refine yaS ?_ ?_<;>intro _)
            exact .fin rfl ⟨rfl, rfl⟩
          · rw [if_neg q3]
            repeat' first|refine yaG ?_|(exfalso;omega)|(refine yaS ?_ ?_<;>intro _)
            all_goals first
              | (exfalso; omega)
              | exact .fin rfl ⟨rfl, rfl⟩
        · rw [if_neg q2]
          by_cases q3 : mid < e ∧ e < b
          · rw [if_pos q3]
            have c3 := ih l1 mid e b zd (IntKind.i64.wrap (zn - zi)) zb len1 hzd eend hb D1 (by omega) q3.1 q3.2 (by omega)
            repeat' first|refine yaG ?_|(exfalso;omega)|(refine yaS ?_ ?_<;>intro _)
            all_goals first
              | (exfalso; omega)
              | skip
            refine .call _ rfl rfl rfl c3 ?_
            rintro r τ ⟨rfl, rfl⟩
            repeat' first|refine yaG ?_|(exfalso;omega)|(refine yaS ?_ ?_<;>intro _)
            exact .fin rfl ⟨rfl, rfl⟩
          · rw [if_neg q3]
            repeat' first|refine yaG ?_|(exfalso;omega)|(refine yaS ?_ ?_<;>intro _)
            all_goals first
              | (exfalso; omega)
              | exact .fin rfl ⟨rfl, rfl⟩
      · rw [if_neg q1]
        have len1 : l.length = l.length := rfl
        by_cases q2 : a < s ∧ s < mid
        · rw [if_pos q2]
          have c2 := ih l a s mid za zi zd len1 ha hzi hzd hD (by omega) q2.1 q2.2 (by omega)
          have len2 : (sym co d a s mid l).length = l.length := sym_len.trans len1
          have D2 : ∀ x ∈ sym co d a s mid l, D x := fun x hx => hD x (sym_mem hx)
          repeat' first|refine yaG ?_|(exfalso;omega)|(refine yaS ?_ ?_<;>intro _)
          all_goals first
            | (exfalso; omega)
            | skip
          refine .call _ rfl rfl rfl c2 ?_
          rintro r τ ⟨rfl, rfl⟩
          generalize sym co d a s mid l = l2 at len2 D2 ⊢
          by_cases q3 : mid < e ∧ e < b
          · rw [if_pos q3]
            exfalso
            omega
          · rw [if_neg q3]
            repeat' first|refine yaG ?_|(exfalso;omega)|(refine yaS ?_ ?_<;>intro _)
            all_goals first
              | (exfalso; omega)
              | exact .fin rfl ⟨rfl, rfl⟩
        · rw [if_neg q2]
          by_cases q3 : mid < e ∧ e < b
          · rw [if_pos q3]
            exfalso
            omega
          · rw [if_neg q3]
            repeat' first|refine yaG ?_|(exfalso;omega)|(refine yaS ?_ ?_<;>intro _)
            all_goals first
              | (exfalso; omega)
              | exact .fin rfl ⟨rfl, rfl⟩
end Go.Proofs.YtdgnfdljkghpjaaGreat.Am

/- Sorting in place: the whole stable sort. -/
set_option linter.unusedVariables false
set_option linter.unusedSimpArgs false
namespace Go.Proofs.YtdgnfdljkghpjaaGreat.Am

/-- The sort's functions, where they are. -/
structure Sorts (P : Program) : Prop where
  hm : P.follows .mixedOrders = true
  sym : ∃ fz, compFn P fz 155 = some c_slices_symMergeCmpFunc_Entry
  rot : ∃ fz, compFn P fz 201 = some c_slices_rotateCmpFunc_Entry
  swr : ∃ fz, compFn P fz 234 = some c_slices_swapRangeCmpFunc_Entry
  ins : ∃ fz, compFn P fz 154 = some c_slices_insertionSortCmpFunc_Entry
  stb : ∃ fz, compFn P fz 106 = some c_slices_stableCmpFunc_Entry
theorem sym_ok {P : Program} (hs : Sorts P) {α : Type} (F : Fam α) (D : α → Prop) (co : α → α → Int) (g : Nat) (pre cap : List Ce) (hcmp : Cmps P F D co g pre cap) (N c : Nat) (hN : N ≤ 34359738368) :
    ∀ (d : Nat) (l : List α) (a m b : Nat) (za zm zb : Int), l.length = N → za = a → zm = m → zb = b → (∀ x ∈ l, D x) → b ≤ l.length → a < m → m < b → b - a ≤ d → Ok P 155 [.c (.sl F.id F.v 0 N c), .c (.int .i64 za), .c (.int .i64 zm), .c (.int .i64 zb), .c (.fn g pre cap)] (F.S l) (fun r τ => r = .tup [] ∧ τ = F.S (sym co d a m b l))
  | 0, l, a, m, b, za, zm, zb, h0, ha, hzm, hb, hD, h3, hab, hmb, hd => by omega
  | d + 1, l, a, m, b, za, zm, zb, h0, ha, hzm, hb, hD, h3, hab, hmb, hd => by
    obtain ⟨fz, hc⟩ := hs.sym
    obtain ⟨fz', hc'⟩ := hs.rot
    obtain ⟨fz'', hc''⟩ := hs.swr
    by_cases h1 : m - a = 1
    · have := symA_ok hs.hm hc F D co g pre cap hcmp l a m b c za zm zb ha hzm hb hD h3 hab hmb (by omega) h1
      rw [h0] at this
      rw [sym, if_pos h1]
      exact this
    · by_cases h2 : b - m = 1
      · have := symB_ok hs.hm hc F D co g pre cap hcmp l a m b c za zm zb ha hzm hb hD h3 hab hmb (by omega) h1 h2
        rw [h0] at this
        rw [sym, if_neg h1, if_pos h2]
        exact this
      · exact symC_ok hs.hm hc hc' hc'' F D co g pre cap hcmp N c d (sym_ok hs F D co g pre cap hcmp N c hN d) l a m b za zm zb h0 ha hzm hb hD h3 hab hmb (by omega) (by omega) h1 h2
def blk {α : Type} (c : α → α → Int) (n : Nat) : Nat → Nat → List α → List α
  | 0, _, l => l
  | k + 1, a, l => if a + 20 ≤ n then blk c n k (a + 20) (insF c a (a + 20) l) else insF c a n l
def mrg {α : Type} (c : α → α → Int) (n w : Nat) : Nat → Nat → List α → List α
  | 0, _, l => l
  | k + 1, a, l => if a + 2 * w ≤ n then mrg c n w k (a + 2 * w) (sym c (2 * w) a (a + w) (a + 2 * w) l) else if a + w < n then sym c (n - a) a (a + w) n l else l
def mrgs {α : Type} (c : α → α → Int) (n : Nat) : Nat → Nat → List α → List α
  | 0, _, l => l
  | k + 1, w, l => if w < n then mrgs c n k (2 * w) (mrg c n w (n + 1) 0 l) else l
def stableF {α : Type} (c : α → α → Int) (l : List α) : List α := mrgs c l.length (l.length + 1) 20 (blk c l.length (l.length + 1) 0 l)
theorem insF_len {α : Type} {c : α → α → Int} {a b : Nat} {l : List α} : (insF c a b l).length = l.length := insOut_len
theorem insF_mem {α : Type} {c : α → α → Int} {a b : Nat} {l : List α} {x : α} (h : x ∈ insF c a b l) : x ∈ l := insOut_mem h
theorem stable_ok {P : Program} (hs : Sorts P) {α : Type} (F : Fam α) (D : α → Prop) (co : α → α → Int) (g : Nat) (pre cap : List Ce) (hcmp : Cmps P F D co g pre cap) (l : List α) (c : Nat) (hD : ∀ x ∈ l, D x) (hx : l.length ≤ 34359738368) :
    Ok P 106 [.c (.sl F.id F.v 0 l.length c), .c (.int .i64 (l.length : Int)), .c (.fn g pre cap)] (F.S l) (fun r τ => r = .tup [] ∧ τ = F.S (stableF co l)) := by
  obtain ⟨fzs, hst⟩ := hs.stb
  obtain ⟨fzi, hins⟩ := hs.ins
  have hsym := sym_ok hs F D co g pre cap hcmp l.length c hx
  refine .of_go hs.hm hst (Nat.le_of_ble_eq_true rfl) ?_
  obtain ⟨n, hn⟩ : ∃ n, n = l.length := ⟨_, rfl⟩
  rw [stableF, ← hn]
  obtain ⟨res, hres⟩ : ∃ res, res = mrgs co n (n + 1) 20 (blk co n (n + 1) 0 l) := ⟨_, rfl⟩
  rw [← hres]
  rw [← hn] at hsym hx
  obtain ⟨bl, hbl0⟩ : ∃ x, x = blk co n (n + 1) 0 l := ⟨_, rfl⟩
  rw [← hbl0] at hres
  repeat' first|refine yaG ?_|(exfalso;omega)|(refine yaS ?_ ?_<;>intro _)
  refine Go.keep [0, 1, 2, 6, 7, 8] (Go.loops (I := fun mm fr τ => ∃ (a : Nat) (za zb : Int) (q : List α), mm = n - a ∧ a ≤ n ∧ za = a ∧ zb = ((a + 20 : Nat) : Int) ∧ q.length = n ∧ (∀ x ∈ q, D x) ∧ (∃ k, n - a < k ∧ bl = blk co n k a q) ∧
    fr = [(0, .c (.sl F.id F.v 0 n c)), (1, .c (.int .i64 (n : Int))), (2, .c (.fn g pre cap)), (6, .c (.int .i64 20)), (7, .c (.int .i64 za)), (8, .c (.int .i64 zb))] ∧ τ = F.S q) ?_ _ _ _ ⟨0, _, _, l, rfl, Nat.zero_le _, rfl, rfl, hn.symm, hD, ⟨n + 1, by omega, hbl0⟩, rfl, rfl⟩)
  rintro mm fr τ ⟨a, za, zb, q, hmm, han, hza, hzb, hql, hqD, ⟨k, hk, hbl⟩, rfl, rfl⟩ hrec
  obtain ⟨k, rfl⟩ : ∃ k', k = k' + 1 := ⟨k - 1, by omega⟩
  rw [blk] at hbl
  by_cases hlt : a + 20 ≤ n
  · rw [if_pos hlt] at hbl
    have ci := insertion_ok hs.hm hins F D co g pre cap hcmp q a (a + 20) c za zb hza hzb hqD (by omega) (by omega) (by omega)
    rw [hql] at ci
    have e1 : IntKind.i64.wrap (zb + 20) = ((a + 20 + 20 : Nat) : Int) := by rw [wrap64 (by omega) (by omega)]; omega
    repeat' first|refine yaG ?_|(exfalso;omega)|(refine yaS ?_ ?_<;>intro _)
    refine .call _ rfl rfl rfl ci ?_
    rintro r τ ⟨rfl, rfl⟩
    repeat' first|refine yaG ?_|(exfalso;omega)|(refine yaS ?_ ?_<;>intro _)
    exact Go.keep [0, 1, 2, 6, 7, 8] (hrec _ _ _ (by omega) ⟨a + 20, _, _, _, rfl, hlt, hzb, e1, by rw [insF_len]; exact hql, fun x hx => hqD x (insF_mem hx), ⟨k, by omega, hbl⟩, rfl, rfl⟩)
  · rw [if_neg hlt] at hbl
    have ci := insertion_ok hs.hm hins F D co g pre cap hcmp q a n c za n hza rfl hqD (by omega) han (by omega)
    rw [hql] at ci
    clear hrec
    repeat' first|refine yaG ?_|(exfalso;omega)|(refine yaS ?_ ?_<;>intro _)
    refine .call _ rfl rfl rfl ci ?_
    rintro r τ ⟨rfl, rfl⟩
    rw [hbl] at hres
    have hul : (insF co a n q).length = n := by rw [insF_len]; exact hql
    have huD : ∀ x ∈ insF co a n q, D x := fun x hx => hqD x (insF_mem hx)
    generalize insF co a n q = u at hul huD hres ⊢
    clear hbl hbl0 hqD hql hD ci hlt
    repeat' first|refine yaG ?_|(exfalso;omega)|(refine yaS ?_ ?_<;>intro _)
    refine Go.keep [0, 1, 2, 6] (Go.loops (I := fun mm fr τ => ∃ (w : Nat) (zw : Int) (q : List α), mm = n - w ∧ 20 ≤ w ∧ w ≤ 4 * 34359738368 ∧ zw = w ∧ q.length = n ∧ (∀ x ∈ q, D x) ∧ (∃ k, n - w < k ∧ res = mrgs co n k w q) ∧
      fr = [(0, .c (.sl F.id F.v 0 n c)), (1, .c (.int .i64 (n : Int))), (2, .c (.fn g pre cap)), (6, .c (.int .i64 zw))] ∧ τ = F.S q) ?_ _ _ _ ⟨20, _, u, rfl, Nat.le_refl _, by omega, rfl, hul, huD, ⟨n + 1, by omega, hres⟩, rfl, rfl⟩)
    clear hul huD hres
    clear u
    rintro mm fr τ ⟨w, zw, u, hmm, hw20, hwb, hzw, hul, huD, ⟨k, hk, hres⟩, rfl, rfl⟩ hrec
    obtain ⟨k, rfl⟩ : ∃ k', k = k' + 1 := ⟨k - 1, by omega⟩
    rw [mrgs] at hres
    by_cases hwn : w < n
    · rw [if_pos hwn] at hres
      have e2 : IntKind.i64.wrap (2 * zw) = ((2 * w : Nat) : Int) := by rw [wrap64 (by omega) (by omega)]; omega
      have e2' : IntKind.i64.wrap (zw * 2) = ((2 * w : Nat) : Int) := by rw [wrap64 (by omega) (by omega)]; omega
      obtain ⟨mg, hmg⟩ : ∃ x, x = mrg co n w (n + 1) 0 u := ⟨_, rfl⟩
      rw [← hmg] at hres
      have out : ∀ q : List α, q.length = n → (∀ x ∈ q, D x) → mg = q → ∀ fr τ, fr = [(0, AV.c (.sl F.id F.v 0 n c)), (1, .c (.int .i64 (n : Int))), (2, .c (.fn g pre cap)), (6, .c (.int .i64 (IntKind.i64.wrap (zw * 2))))] → τ = F.S q → _ := fun q p1 p2 p3 fr τ p4 p5 =>
        hrec (n - 2 * w) fr τ (by omega) ⟨2 * w, _, q, rfl, by omega, by omega, e2', p1, p2, ⟨k, by omega, by rw [← p3]; exact hres⟩, p4, p5⟩
      clear hrec hres
      repeat' first|refine yaG ?_|(exfalso;omega)|(refine yaS ?_ ?_<;>intro _)
      refine Go.keep [0, 1, 2, 6, 7, 8] (Go.loops (I := fun mm fr τ => ∃ (a : Nat) (za zb : Int) (q : List α), mm = n - a ∧ a ≤ n ∧ za = a ∧ zb = ((a + 2 * w : Nat) : Int) ∧ q.length = n ∧ (∀ x ∈ q, D x) ∧ (∃ k, n - a < k ∧ mg = mrg co n w k a q) ∧
        fr = [(0, .c (.sl F.id F.v 0 n c)), (1, .c (.int .i64 (n : Int))), (2, .c (.fn g pre cap)), (6, .c (.int .i64 zw)), (7, .c (.int .i64 za)), (8, .c (.int .i64 zb))] ∧ τ = F.S q) ?_ _ _ _ ⟨0, _, _, u, rfl, Nat.zero_le _, rfl, by rw [e2]; omega, hul, huD, ⟨n + 1, by omega, hmg⟩, rfl, rfl⟩)
      rintro mm fr τ ⟨a, za, zb, q, hmm, han, hza, hzb, hql, hqD, ⟨k, hk, hbl⟩, rfl, rfl⟩ hrec
      obtain ⟨k, rfl⟩ : ∃ k', k = k' + 1 := ⟨k - 1, by omega⟩
      rw [mrg] at hbl
      have ea : IntKind.i64.wrap (za + zw) = ((a + w : Nat) : Int) := by rw [wrap64 (by omega) (by omega)]; omega
      by_cases hlt : a + 2 * w ≤ n
      · rw [if_pos hlt] at hbl
        have ci := hsym (2 * w) q a (a + w) (a + 2 * w) za _ zb hql hza ea hzb hqD (by omega) (by omega) (by omega) (by omega)
        have e1 : IntKind.i64.wrap (zb + IntKind.i64.wrap (2 * zw)) = ((a + 2 * w + 2 * w : Nat) : Int) := by rw [e2, wrap64 (by omega) (by omega)]; omega
        repeat' first|refine yaG ?_|(exfalso;omega)|(refine yaS ?_ ?_<;>intro _)
        refine .call _ rfl rfl rfl ci ?_
        rintro r τ ⟨rfl, rfl⟩
        repeat' first|refine yaG ?_|(exfalso;omega)|(refine yaS ?_ ?_<;>intro _)
        exact Go.keep [0, 1, 2, 6, 7, 8] (hrec _ _ _ (by omega) ⟨a + 2 * w, _, _, _, rfl, hlt, hzb, e1, by rw [sym_len]; exact hql, fun x hx => hqD x (sym_mem hx), ⟨k, by omega, hbl⟩, rfl, rfl⟩)
      · rw [if_neg hlt] at hbl
        clear hrec
        by_cases ham : a + w < n
        · rw [if_pos ham] at hbl
          have ci := hsym (n - a) q a (a + w) n za _ n hql hza ea rfl hqD (by omega) (by omega) ham (by omega)
          repeat' first|refine yaG ?_|(exfalso;omega)|(refine yaS ?_ ?_<;>intro _)
          all_goals first
            | (exfalso; omega)
            | skip
          refine .call _ rfl rfl rfl ci ?_
          rintro r τ ⟨rfl, rfl⟩
          repeat' first|refine yaG ?_|(exfalso;omega)|(refine yaS ?_ ?_<;>intro _)
          exact Go.keep [0, 1, 2, 6] (out _ (by rw [sym_len]; exact hql) (fun x hx => hqD x (sym_mem hx)) hbl _ _ rfl rfl)
        · rw [if_neg ham] at hbl
          repeat' first|refine yaG ?_|(exfalso;omega)|(refine yaS ?_ ?_<;>intro _)
          all_goals first
            | (exfalso; omega)
            | exact Go.keep [0, 1, 2, 6] (out _ hql hqD hbl _ _ rfl rfl)
    · rw [if_neg hwn] at hres
      repeat' first|refine yaG ?_|(exfalso;omega)|(refine yaS ?_ ?_<;>intro _)
      exact .fin rfl ⟨rfl, by rw [hres]⟩
theorem sortStable_ok {P : Program} (hs : Sorts P) {fz : List Nat} {n : Nat} (hc : compFn P fz n = some c_slices_SortStableFunc_Entry) {α : Type} (F : Fam α) (D : α → Prop) (co : α → α → Int) (g : Nat) (pre cap : List Ce) (hcmp : Cmps P F D co g pre cap) (l : List α) (c : Nat) (hD : ∀ x ∈ l, D x) (hx : l.length ≤ 34359738368) :
    Ok P n [.c (.sl F.id F.v 0 l.length c), .c (.fn g pre cap)] (F.S l) (fun r τ => r = .tup [] ∧ τ = F.S (stableF co l)) := by
  refine .of_go hs.hm hc (Nat.le_of_ble_eq_true rfl) ?_
  repeat' first|refine yaG ?_|(exfalso;omega)|(refine yaS ?_ ?_<;>intro _)
  refine .call _ rfl rfl rfl (stable_ok hs F D co g pre cap hcmp l c hD hx) ?_
  rintro r τ ⟨rfl, rfl⟩
  repeat' first|refine yaG ?_|(exfalso;omega)|(refine yaS ?_ ?_<;>intro _)
  exact .fin rfl ⟨rfl, rfl⟩
end Go.Proofs.YtdgnfdljkghpjaaGreat.Am

/- The stable sort's plain law: swaps, rotations, shifts. -/
set_option linter.unusedVariables false
set_option linter.unusedSimpArgs false
namespace Go.Proofs.YtdgnfdljkghpjaaGreat.Am

theorem sw_app {α : Type} {A B C : List α} {x y : α} : sw (A ++ x :: (B ++ y :: C)) A.length (A.length + 1 + B.length) = A ++ y :: (B ++ x :: C) := by
  have h1 : (A ++ x :: (B ++ y :: C))[A.length]? = some x := by simp
  have h2 : (A ++ x :: (B ++ y :: C))[A.length + 1 + B.length]? = some y := by
    rw [List.getElem?_append_right (by omega), show A.length + 1 + B.length - A.length = B.length + 1 by omega, List.getElem?_cons_succ]
    simp
  rw [sw, h1, h2]
  simp only
  rw [List.set_append_right _ _ (Nat.le_refl _), Nat.sub_self, List.set_cons_zero, List.set_append_right _ _ (by omega), show A.length + 1 + B.length - A.length = B.length + 1 by omega, List.set_cons_succ, List.set_append_right _ _ (Nat.le_refl _), Nat.sub_self, List.set_cons_zero]
theorem swR_app {α : Type} : ∀ {X Y A B C : List α} {i a b : Nat}, X.length = Y.length → a + i = A.length → b + i = A.length + X.length + B.length → swR a b X.length i (A ++ (X ++ (B ++ (Y ++ C)))) = A ++ (Y ++ (B ++ (X ++ C)))
  | [], [], A, B, C, i, a, b, _, _, _ => by simp [swR]
  | [], _ :: _, _, _, _, _, _, _, h, _, _ => by simp at h
  | _ :: _, [], _, _, _, _, _, _, h, _, _ => by simp at h
  | x :: X, y :: Y, A, B, C, i, a, b, h, ha, hb => by
    simp only [List.length_cons] at h hb ⊢
    rw [swR, ha, hb]
    have e1 : A ++ (x :: X ++ (B ++ (y :: Y ++ C))) = A ++ x :: ((X ++ B) ++ y :: (Y ++ C)) := by simp
    have e2 : A.length + (X.length + 1) + B.length = A.length + 1 + (X ++ B).length := by simp; omega
    rw [e1, e2, sw_app]
    have e3 : A ++ y :: ((X ++ B) ++ x :: (Y ++ C)) = (A ++ [y]) ++ (X ++ ((B ++ [x]) ++ (Y ++ C))) := by simp
    rw [e3, swR_app (X := X) (Y := Y) (A := A ++ [y]) (B := B ++ [x]) (by omega) (by simp; omega) (by simp; omega)]
    simp
theorem rot_app {α : Type} {m : Nat} : ∀ {n : Nat} {A I J C : List α}, 1 ≤ I.length → 1 ≤ J.length → I.length + J.length ≤ n + 1 → m = A.length + I.length → rot m n I.length J.length (A ++ (I ++ (J ++ C))) = A ++ (J ++ (I ++ C))
  | 0, A, I, J, C, h1, h2, h3, hm => by omega
  | n + 1, A, I, J, C, h1, h2, h3, hm => by
    rw [rot]
    split
    · rename_i e
      have := swR_app (X := I) (Y := J) (A := A) (B := []) (C := C) (i := 0) (a := m - I.length) (b := m) e (by omega) (by simp; omega)
      simpa using this
    · rename_i hne
      split
      · rename_i hlt
        obtain ⟨I1, I2, rfl, hl⟩ : ∃ I1 I2, I = I1 ++ I2 ∧ I1.length = J.length := ⟨I.take J.length, I.drop J.length, (List.take_append_drop _ _).symm, by simp; omega⟩
        simp only [List.length_append] at h1 h3 hm hlt hne ⊢
        have := swR_app (X := I1) (Y := J) (A := A) (B := I2) (C := C) (i := 0) (a := m - (I1.length + I2.length)) (b := m) hl (by omega) (by omega)
        rw [← hl, List.append_assoc, this]
        have ih := rot_app (m := m) (n := n) (A := A ++ J) (I := I2) (J := I1) (C := C) (by omega) (by omega) (by omega) (by simp; omega)
        rw [show I1.length + I2.length - I1.length = I2.length by omega]
        simpa using ih
      · obtain ⟨J1, J2, rfl, hl⟩ : ∃ J1 J2, J = J1 ++ J2 ∧ J2.length = I.length := ⟨J.take (J.length - I.length), J.drop (J.length - I.length), (List.take_append_drop _ _).symm, by simp; omega⟩
        rename_i hlt
        simp only [List.length_append] at h2 h3 hm hlt hne ⊢
        have := swR_app (X := I) (Y := J2) (A := A) (B := J1) (C := C) (i := 0) (a := m - I.length) (b := m + (J1.length + J2.length) - I.length) hl.symm (by omega) (by omega)
        rw [List.append_assoc J1, this]
        have ih := rot_app (m := m) (n := n) (A := A) (I := J2) (J := J1) (C := I ++ C) (by omega) (by omega) (by omega) (by omega)
        rw [show J1.length + J2.length - I.length = J1.length by omega, ← hl]
        rw [ih]
        simp
theorem rotF_app {α : Type} {A I J C : List α} (h1 : 1 ≤ I.length) (h2 : 1 ≤ J.length) : rotF A.length (A.length + I.length) (A.length + I.length + J.length) (A ++ (I ++ (J ++ C))) = A ++ (J ++ (I ++ C)) := by
  have := rot_app (m := A.length + I.length) (n := A.length + I.length + J.length - A.length) (A := A) (I := I) (J := J) (C := C) h1 h2 (by omega) rfl
  rw [rotF, show A.length + I.length - A.length = I.length by omega, show A.length + I.length + J.length - (A.length + I.length) = J.length by omega]
  exact this
theorem shU_app {α : Type} : ∀ {Y A C : List α} {x : α}, shU Y.length A.length (A ++ x :: (Y ++ C)) = A ++ (Y ++ x :: C)
  | [], A, C, x => by simp [shU]
  | y :: Y, A, C, x => by
    have h := sw_app (A := A) (B := []) (C := Y ++ C) (x := x) (y := y)
    simp only [List.nil_append, List.length_nil, Nat.add_zero] at h
    rw [List.length_cons, shU, List.cons_append, h]
    have ih := shU_app (Y := Y) (A := A ++ [y]) (C := C) (x := x)
    simpa using ih
theorem shD_app {α : Type} : ∀ {n : Nat} {Y A C : List α} {x : α}, Y.length = n → shD n (A.length + n) (A ++ (Y ++ x :: C)) = A ++ x :: (Y ++ C)
  | 0, Y, A, C, x, h => by rw [List.eq_nil_of_length_eq_zero h]; simp [shD]
  | n + 1, Y, A, C, x, h => by
    obtain ⟨Z, y, rfl⟩ : ∃ Z y, Y = Z ++ [y] := ⟨Y.dropLast, Y.getLast (by intro e; simp [e] at h), (List.dropLast_concat_getLast _).symm⟩
    have hz : Z.length = n := by simp at h; omega
    have h1 := sw_app (A := A ++ Z) (B := []) (C := C) (x := y) (y := x)
    simp only [List.nil_append, List.length_nil, Nat.add_zero, List.length_append] at h1
    have hsym : ∀ (l : List α) (i j : Nat), i < l.length → j < l.length → i ≠ j → sw l j i = sw l i j := fun l i j hi hj hij => by
      rw [sw_eq hj hi, sw_eq hi hj, List.set_comm _ _ (fun e => hij e.symm)]
    rw [shD, show A.length + (n + 1) - 1 = A.length + n by omega]
    have e1 : A ++ (Z ++ [y] ++ x :: C) = A ++ Z ++ y :: x :: C := by simp
    rw [e1, hsym _ (A.length + n) (A.length + (n + 1)) (by simp; omega) (by simp; omega) (by omega)]
    rw [show A.length + (n + 1) = A.length + Z.length + 1 by omega, show A.length + n = A.length + Z.length by omega, h1]
    have ih := shD_app (n := n) (Y := Z) (A := A) (C := y :: C) (x := x) hz
    rw [← hz] at ih
    rw [← hz]
    simpa using ih
end Go.Proofs.YtdgnfdljkghpjaaGreat.Am

/- The stable sort's plain law: merging. -/
set_option linter.unusedVariables false
set_option linter.unusedSimpArgs false
namespace Go.Proofs.YtdgnfdljkghpjaaGreat.Am

theorem bs_spec {p : Nat → Bool} : ∀ {n i j : Nat}, i ≤ j → j - i ≤ n → (∀ h h', i ≤ h' → h' < h → h < j → p h = true → p h' = true) → (∀ h, i ≤ h → h < bs p n i j → p h = true) ∧ (∀ h, bs p n i j ≤ h → h < j → p h = false)
  | 0, i, j, h, hn, hm => ⟨fun q h1 h2 => by simp only [bs] at h2; omega, fun q h1 h2 => by simp only [bs] at h1; omega⟩
  | n + 1, i, j, h, hn, hm => by
    rw [bs]
    split
    · rename_i hlt
      cases hp : p ((i + j) / 2)
      · rw [if_neg Bool.false_ne_true]
        obtain ⟨h1, h2⟩ := bs_spec (p := p) (n := n) (i := i) (j := (i + j) / 2) (by omega) (by omega) fun a b p1 p2 p3 => hm a b p1 p2 (by omega)
        refine ⟨h1, fun q q1 q2 => ?_⟩
        by_cases hq : q < (i + j) / 2
        · exact h2 q q1 hq
        · by_cases he : q = (i + j) / 2
          · rw [he]; exact hp
          · cases hpq : p q
            · rfl
            · rw [hm q ((i + j) / 2) (by omega) (by omega) q2 hpq] at hp
              cases hp
      · rw [if_pos rfl]
        obtain ⟨h1, h2⟩ := bs_spec (p := p) (n := n) (i := (i + j) / 2 + 1) (j := j) (by omega) (by omega) fun a b p1 p2 p3 => hm a b (by omega) p2 p3
        refine ⟨fun q q1 q2 => ?_, h2⟩
        by_cases hq : q < (i + j) / 2
        · exact hm ((i + j) / 2) q q1 hq (by omega) hp
        · by_cases he : q = (i + j) / 2
          · rw [he]; exact hp
          · exact h1 q (by omega) q2
    · exact ⟨fun q q1 q2 => by omega, fun q q1 q2 => by omega⟩
structure SOrd {α : Type} (R : α → α → Prop) : Prop where
  trans : ∀ x y z, R x y → R y z → R x z
  asymm : ∀ x y, R x y → ¬ R y x
def Cross {α : Type} (c : α → α → Int) (R : α → α → Prop) (x y : α) : Prop := (c y x < 0 ↔ R y x) ∧ (¬ c y x < 0 → R x y)
section
variable {α : Type} {c : α → α → Int} {R : α → α → Prop}
theorem Cross.neg (hR : SOrd R) {x y : α} (h : Cross c R x y) : ¬ c y x < 0 ↔ R x y := ⟨h.2, fun h1 h2 => hR.asymm _ _ h1 (h.1.1 h2)⟩
theorem pw_at {X : List α} (h : X.Pairwise R) {i j : Nat} (hij : i < j) (hj : j < X.length) : R (X[i]'(by omega)) X[j] := List.pairwise_iff_getElem.1 h i j (by omega) hj hij
theorem sym_one (hR : SOrd R) {A Y C : List α} {x : α} (hY : Y.Pairwise R) (hc : ∀ y ∈ Y, Cross c R x y) :
    ∃ Z, shU (bs (fun h => ltA c (A ++ x :: (Y ++ C)) h A.length) Y.length (A.length + 1) (A.length + 1 + Y.length) - 1 - A.length) A.length (A ++ x :: (Y ++ C)) = A ++ (Z ++ C) ∧ Z.Perm (x :: Y) ∧ Z.Pairwise R := by
  have hp : ∀ k (hk : k < Y.length), ltA c (A ++ x :: (Y ++ C)) (A.length + 1 + k) A.length = decide (c Y[k] x < 0) := fun k hk => by
    have h1 : (A ++ x :: (Y ++ C))[A.length + 1 + k]? = some Y[k] := by
      rw [List.getElem?_append_right (by omega), show A.length + 1 + k - A.length = k + 1 by omega, List.getElem?_cons_succ, List.getElem?_append_left hk, List.getElem?_eq_getElem hk]
    have h2 : (A ++ x :: (Y ++ C))[A.length]? = some x := by simp
    rw [ltA, h1, h2]
  obtain ⟨p, hpp⟩ : ∃ p : Nat → Bool, p = fun h => ltA c (A ++ x :: (Y ++ C)) h A.length := ⟨_, rfl⟩
  have hp2 : ∀ h (h1 : A.length + 1 ≤ h) (h2 : h < A.length + 1 + Y.length), p h = true ↔ R (Y[h - (A.length + 1)]'(by omega)) x := fun h h1 h2 => by
    have := hp (h - (A.length + 1)) (by omega)
    rw [show A.length + 1 + (h - (A.length + 1)) = h by omega] at this
    rw [hpp]
    show ltA c (A ++ x :: (Y ++ C)) h A.length = true ↔ _
    rw [this, decide_eq_true_iff]
    exact (hc _ (List.getElem_mem _)).1
  obtain ⟨b1, b2⟩ := bs_in (p := p) (n := Y.length) (i := A.length + 1) (j := A.length + 1 + Y.length) (by omega)
  obtain ⟨s1, s2⟩ := bs_spec (p := p) (n := Y.length) (i := A.length + 1) (j := A.length + 1 + Y.length) (by omega) (by omega) fun h h' q1 q2 q3 q4 => (hp2 h' q1 (by omega)).2 (hR.trans _ _ _ (pw_at hY (by omega) (by omega)) ((hp2 h (by omega) q3).1 q4))
  rw [← hpp]
  generalize bs p Y.length (A.length + 1) (A.length + 1 + Y.length) = s at b1 b2 s1 s2
  refine ⟨Y.take (s - (A.length + 1)) ++ x :: Y.drop (s - (A.length + 1)), ?_, ?_, ?_⟩
  · have hl : (Y.take (s - (A.length + 1))).length = s - 1 - A.length := by rw [List.length_take]; omega
    have := shU_app (Y := Y.take (s - (A.length + 1))) (A := A) (C := Y.drop (s - (A.length + 1)) ++ C) (x := x)
    rw [hl, ← List.append_assoc (Y.take _), List.take_append_drop] at this
    rw [this]
    simp
  · have := List.perm_middle (l₁ := Y.take (s - (A.length + 1))) (a := x) (l₂ := Y.drop (s - (A.length + 1)))
    rw [List.take_append_drop] at this
    exact this
  · have ht : ∀ y ∈ Y.take (s - (A.length + 1)), R y x := fun y hy => by
      obtain ⟨k, hk, rfl⟩ := List.getElem_of_mem hy
      rw [List.length_take] at hk
      rw [List.getElem_take]
      have := (hp2 (A.length + 1 + k) (by omega) (by omega)).1 (s1 _ (by omega) (by omega))
      simpa [show A.length + 1 + k - (A.length + 1) = k by omega] using this
    have hd : ∀ y ∈ Y.drop (s - (A.length + 1)), R x y := fun y hy => by
      obtain ⟨k, hk, rfl⟩ := List.getElem_of_mem hy
      rw [List.length_drop] at hk
      rw [List.getElem_drop]
      have hf := s2 (s + k) (by omega) (by omega)
      refine ((hc _ (List.getElem_mem _)).neg hR).1 fun h => ?_
      have := (hp2 (s + k) (by omega) (by omega)).2 (by
        have := (hc _ (List.getElem_mem _)).1.1 h
        simpa [show s + k - (A.length + 1) = s - (A.length + 1) + k by omega] using this)
      rw [this] at hf
      cases hf
    rw [List.pairwise_append, List.pairwise_cons]
    refine ⟨hY.sublist (List.take_sublist _ _), ⟨hd, hY.sublist (List.drop_sublist _ _)⟩, fun a ha b hb => ?_⟩
    rcases List.mem_cons.1 hb with rfl | hb
    · exact ht a ha
    · exact hR.trans _ _ _ (ht a ha) (hd b hb)
theorem sym_last (hR : SOrd R) {A X C : List α} {y : α} (hX : X.Pairwise R) (hc : ∀ x ∈ X, Cross c R x y) :
    ∃ Z, shD (A.length + X.length - bs (fun h => !ltA c (A ++ (X ++ y :: C)) (A.length + X.length) h) X.length A.length (A.length + X.length)) (A.length + X.length) (A ++ (X ++ y :: C)) = A ++ (Z ++ C) ∧ Z.Perm (X ++ [y]) ∧ Z.Pairwise R := by
  have hp : ∀ k (hk : k < X.length), ltA c (A ++ (X ++ y :: C)) (A.length + X.length) (A.length + k) = decide (c y X[k] < 0) := fun k hk => by
    have h1 : (A ++ (X ++ y :: C))[A.length + k]? = some X[k] := by
      rw [List.getElem?_append_right (by omega), show A.length + k - A.length = k by omega, List.getElem?_append_left hk, List.getElem?_eq_getElem hk]
    have h2 : (A ++ (X ++ y :: C))[A.length + X.length]? = some y := by
      rw [List.getElem?_append_right (by omega), show A.length + X.length - A.length = X.length by omega, List.getElem?_append_right (Nat.le_refl _), Nat.sub_self]
      rfl
    rw [ltA, h1, h2]
  obtain ⟨p, hpp⟩ : ∃ p : Nat → Bool, p = fun h => !ltA c (A ++ (X ++ y :: C)) (A.length + X.length) h := ⟨_, rfl⟩
  have hp2 : ∀ h (h1 : A.length ≤ h) (h2 : h < A.length + X.length), p h = true ↔ R (X[h - A.length]'(by omega)) y := fun h h1 h2 => by
    have := hp (h - A.length) (by omega)
    rw [show A.length + (h - A.length) = h by omega] at this
    rw [hpp]
    show (!ltA c (A ++ (X ++ y :: C)) (A.length + X.length) h) = true ↔ _
    rw [this, Bool.not_eq_true', decide_eq_false_iff_not]
    exact (hc _ (List.getElem_mem _)).neg hR
  obtain ⟨b1, b2⟩ := bs_in (p := p) (n := X.length) (i := A.length) (j := A.length + X.length) (by omega)
  obtain ⟨s1, s2⟩ := bs_spec (p := p) (n := X.length) (i := A.length) (j := A.length + X.length) (by omega) (by omega) fun h h' q1 q2 q3 q4 => (hp2 h' q1 (by omega)).2 (hR.trans _ _ _ (pw_at hX (by omega) (by omega)) ((hp2 h (by omega) q3).1 q4))
  rw [← hpp]
  generalize bs p X.length A.length (A.length + X.length) = s at b1 b2 s1 s2
  refine ⟨X.take (s - A.length) ++ y :: X.drop (s - A.length), ?_, ?_, ?_⟩
  · have hl : (X.drop (s - A.length)).length = A.length + X.length - s := by rw [List.length_drop]; omega
    have := shD_app (Y := X.drop (s - A.length)) (A := A ++ X.take (s - A.length)) (C := C) (x := y) hl
    rw [List.append_assoc, ← List.append_assoc (X.take _), List.take_append_drop] at this
    have hl2 : (A ++ X.take (s - A.length)).length + (A.length + X.length - s) = A.length + X.length := by rw [List.length_append, List.length_take]; omega
    rw [hl2] at this
    rw [this]
    simp
  · have := List.perm_middle (l₁ := X.take (s - A.length)) (a := y) (l₂ := X.drop (s - A.length))
    rw [List.take_append_drop] at this
    exact this.trans (List.perm_append_singleton y X).symm
  · have ht : ∀ x ∈ X.take (s - A.length), R x y := fun x hx => by
      obtain ⟨k, hk, rfl⟩ := List.getElem_of_mem hx
      rw [List.length_take] at hk
      rw [List.getElem_take]
      have := (hp2 (A.length + k) (by omega) (by omega)).1 (s1 _ (by omega) (by omega))
      simpa [show A.length + k - A.length = k by omega] using this
    have hd : ∀ x ∈ X.drop (s - A.length), R y x := fun x hx => by
      obtain ⟨k, hk, rfl⟩ := List.getElem_of_mem hx
      rw [List.length_drop] at hk
      rw [List.getElem_drop]
      have hf := s2 (s + k) (by omega) (by omega)
      have hcc := hc (X[s - A.length + k]'(by omega)) (List.getElem_mem _)
      refine Classical.byContradiction fun h => ?_
      have h3 : R X[s - A.length + k] y := hcc.2 fun h4 => h (hcc.1.1 h4)
      have := (hp2 (s + k) (by omega) (by omega)).2 (by simpa [show s + k - A.length = s - A.length + k by omega] using h3)
      rw [this] at hf
      cases hf
    rw [List.pairwise_append, List.pairwise_cons]
    refine ⟨hX.sublist (List.take_sublist _ _), ⟨hd, hX.sublist (List.drop_sublist _ _)⟩, fun a ha b hb => ?_⟩
    rcases List.mem_cons.1 hb with rfl | hb
    · exact ht a ha
    · exact hR.trans _ _ _ (ht a ha) (hd b hb)
end
end Go.Proofs.YtdgnfdljkghpjaaGreat.Am

/- The stable sort's plain law: merging, whole. -/
set_option linter.unusedVariables false
set_option linter.unusedSimpArgs false
namespace Go.Proofs.YtdgnfdljkghpjaaGreat.Am

section
variable {α : Type} {c : α → α → Int} {R : α → α → Prop}
theorem pw_le {X : List α} (h : X.Pairwise R) {i j : Nat} (hij : i ≤ j) (hj : j < X.length) : X[i]'(by omega) = X[j] ∨ R (X[i]'(by omega)) X[j] := by
  by_cases e : i = j
  · subst e; exact .inl rfl
  · exact .inr (pw_at h (by omega) hj)
theorem chain3 (hR : SOrd R) {x u v y : α} (h1 : x = u ∨ R x u) (h2 : R u v) (h3 : v = y ∨ R v y) : R x y := by
  rcases h1 with rfl | h1 <;> rcases h3 with rfl | h3
  · exact h2
  · exact hR.trans _ _ _ h2 h3
  · exact hR.trans _ _ _ h1 h2
  · exact hR.trans _ _ _ h1 (hR.trans _ _ _ h2 h3)
theorem nil_of_len {X : List α} (h : X.length = 0) : X = [] := List.eq_nil_of_length_eq_zero h
theorem sym_app (hR : SOrd R) : ∀ (n : Nat) {A X Y C : List α}, 1 ≤ X.length → 1 ≤ Y.length → X.length + Y.length ≤ n → X.Pairwise R → Y.Pairwise R → (∀ x ∈ X, ∀ y ∈ Y, Cross c R x y) →
    ∃ Z, sym c n A.length (A.length + X.length) (A.length + X.length + Y.length) (A ++ (X ++ (Y ++ C))) = A ++ (Z ++ C) ∧ Z.Perm (X ++ Y) ∧ Z.Pairwise R
  | 0, A, X, Y, C, hx, hy, hn, _, _, _ => by omega
  | n + 1, A, X, Y, C, hx, hy, hn, hX, hY, hc => by
    rw [sym]
    by_cases hx1 : X.length = 1
    · obtain ⟨x, rfl⟩ := List.length_eq_one_iff.1 hx1
      obtain ⟨Z, h1, h2, h3⟩ := sym_one (c := c) hR (A := A) (C := C) hY (hc x (by simp))
      simp only [List.length_singleton] at *
      rw [if_pos (by omega), show A.length + 1 + Y.length - (A.length + 1) = Y.length by omega]
      exact ⟨Z, h1, h2, h3⟩
    rw [if_neg (by omega)]
    by_cases hy1 : Y.length = 1
    · obtain ⟨y, rfl⟩ := List.length_eq_one_iff.1 hy1
      obtain ⟨Z, h1, h2, h3⟩ := sym_last (c := c) hR (A := A) (C := C) hX (fun x hx => hc x hx y (by simp))
      simp only [List.length_singleton] at *
      rw [if_pos (by omega), show A.length + X.length - A.length = X.length by omega]
      exact ⟨Z, h1, h2, h3⟩
    rw [if_neg (by omega)]
    obtain ⟨a, ha⟩ : ∃ a, a = A.length := ⟨_, rfl⟩
    obtain ⟨m, hm⟩ : ∃ m, m = A.length + X.length := ⟨_, rfl⟩
    obtain ⟨b, hb⟩ : ∃ b, b = A.length + X.length + Y.length := ⟨_, rfl⟩
    obtain ⟨l, hl⟩ : ∃ l, l = A ++ (X ++ (Y ++ C)) := ⟨_, rfl⟩
    rw [← hb, ← hm, ← ha, ← hl]
    obtain ⟨mid, hmid⟩ : ∃ k, k = (a + b) / 2 := ⟨_, rfl⟩
    obtain ⟨p, hp⟩ : ∃ p : Nat → Bool, p = fun h => !ltA c l (mid + m - 1 - h) h := ⟨_, rfl⟩
    obtain ⟨s0, hs0⟩ : ∃ k, k = if mid < m then mid + m - b else a := ⟨_, rfl⟩
    obtain ⟨r0, hr0⟩ : ∃ k, k = if mid < m then mid else m := ⟨_, rfl⟩
    obtain ⟨f0, hf0⟩ : ∃ k, k = if mid < m then b - m else m - a := ⟨_, rfl⟩
    have hst : symStart c a m b l = bs p f0 s0 r0 := by
      rw [symStart, ← hmid, ← hp, hs0, hr0, hf0]
      split <;> rfl
    have hrange : s0 ≤ r0 ∧ r0 ≤ m ∧ r0 ≤ mid ∧ a ≤ s0 ∧ r0 - s0 ≤ f0 ∧ mid + m ≤ s0 + b ∧ (r0 = m ∨ r0 = mid) ∧ (s0 = a ∨ mid + m = s0 + b) := by
      rw [hs0, hr0, hf0]
      split <;> omega
    clear hs0 hr0 hf0
    obtain ⟨r1, r2, r3, r4, r5, r6, r7, r8⟩ := hrange
    simp only [hst, ← hmid]
    have hlX : ∀ h (h1 : a ≤ h) (h2 : h < m), l[h]? = some (X[h - a]'(by omega)) := fun h h1 h2 => by
      rw [hl, List.getElem?_append_right (by omega), List.getElem?_append_left (by omega), ← ha, List.getElem?_eq_getElem (by omega)]
    have hlY : ∀ h (h1 : m ≤ h) (h2 : h < b), l[h]? = some (Y[h - m]'(by omega)) := fun h h1 h2 => by
      rw [hl, List.getElem?_append_right (by omega), List.getElem?_append_right (by omega), List.getElem?_append_left (by omega), List.getElem?_eq_getElem (by omega)]
      congr 2
      omega
    have hp2 : ∀ h (h1 : s0 ≤ h) (h2 : h < r0), p h = true ↔ R (X[h - a]'(by omega)) (Y[mid + m - 1 - h - m]'(by omega)) := fun h h1 h2 => by
      rw [hp]
      show (!ltA c l (mid + m - 1 - h) h) = true ↔ _
      rw [ltA, hlX h (by omega) (by omega), hlY (mid + m - 1 - h) (by omega) (by omega)]
      simp only [Bool.not_eq_true', decide_eq_false_iff_not]
      exact (hc _ (List.getElem_mem _) _ (List.getElem_mem _)).neg hR
    obtain ⟨b1, b2⟩ := bs_in (p := p) (n := f0) r1
    obtain ⟨s1, s2⟩ := bs_spec (p := p) (n := f0) r1 r5 fun h h' q1 q2 q3 q4 => (hp2 h' q1 (by omega)).2 (chain3 hR (.inr (pw_at hX (by omega) (by omega))) ((hp2 h (by omega) q3).1 q4) (pw_le hY (by omega) (by omega)))
    clear hst hp hlX hlY r5
    generalize bs p f0 s0 r0 = s at b1 b2 s1 s2 ⊢
    obtain ⟨e, he⟩ : ∃ e, e = mid + m - s := ⟨_, rfl⟩
    rw [← he]
    obtain ⟨X1, hX1⟩ : ∃ q, q = X.take (s - a) := ⟨_, rfl⟩
    obtain ⟨X2, hX2⟩ : ∃ q, q = X.drop (s - a) := ⟨_, rfl⟩
    obtain ⟨Y1, hY1⟩ : ∃ q, q = Y.take (e - m) := ⟨_, rfl⟩
    obtain ⟨Y2, hY2⟩ : ∃ q, q = Y.drop (e - m) := ⟨_, rfl⟩
    have lX1 : X1.length = s - a := by rw [hX1, List.length_take]; omega
    have lX2 : X2.length = m - s := by rw [hX2, List.length_drop]; omega
    have lY1 : Y1.length = e - m := by rw [hY1, List.length_take]; omega
    have lY2 : Y2.length = b - e := by rw [hY2, List.length_drop]; omega
    have eX : X1 ++ X2 = X := by rw [hX1, hX2, List.take_append_drop]
    have eY : Y1 ++ Y2 = Y := by rw [hY1, hY2, List.take_append_drop]
    -- what is ahead of what
    have cXY : ∀ x ∈ X1, ∀ y ∈ Y2, R x y := fun x hx y hy => by
      rw [hX1] at hx
      rw [hY2] at hy
      obtain ⟨i, hi, rfl⟩ := List.getElem_of_mem hx
      obtain ⟨k, hk, rfl⟩ := List.getElem_of_mem hy
      rw [List.length_take] at hi
      rw [List.length_drop] at hk
      rw [List.getElem_take, List.getElem_drop]
      have h1 := (hp2 (s - 1) (by omega) (by omega)).1 (s1 _ (by omega) (by omega))
      exact chain3 hR (pw_le hX (by omega) (by omega)) h1 (pw_le hY (by omega) (by omega))
    have cYX : ∀ y ∈ Y1, ∀ x ∈ X2, R y x := fun y hy x hx => by
      rw [hX2] at hx
      rw [hY1] at hy
      obtain ⟨i, hi, rfl⟩ := List.getElem_of_mem hx
      obtain ⟨k, hk, rfl⟩ := List.getElem_of_mem hy
      rw [List.length_drop] at hi
      rw [List.length_take] at hk
      rw [List.getElem_take, List.getElem_drop]
      have h1 := s2 s (Nat.le_refl _) (by omega)
      have hcc := hc (X[s - a]'(by omega)) (List.getElem_mem _) (Y[mid + m - 1 - s - m]'(by omega)) (List.getElem_mem _)
      have h2 : R (Y[mid + m - 1 - s - m]'(by omega)) (X[s - a]'(by omega)) := Classical.byContradiction fun h => by
        have h3 := hcc.2 fun h4 => h (hcc.1.1 h4)
        rw [(hp2 s b1 (by omega)).2 h3] at h1
        cases h1
      exact chain3 hR (pw_le hY (by omega) (by omega)) h2 (pw_le hX (by omega) (by omega))
    have pX := hX
    have pY := hY
    rw [← eX, List.pairwise_append] at pX
    rw [← eY, List.pairwise_append] at pY
    have hc2 : ∀ x ∈ X1 ++ X2, ∀ y ∈ Y1 ++ Y2, Cross c R x y := by rw [eX, eY]; exact hc
    have hl1 : (if s < m ∧ m < e then rotF s m e l else l) = A ++ (X1 ++ (Y1 ++ (X2 ++ (Y2 ++ C)))) := by
      have e0 : l = A ++ (X1 ++ (X2 ++ (Y1 ++ (Y2 ++ C)))) := by
        rw [hl, ← eX, ← eY]
        simp
      split
      · have := rotF_app (A := A ++ X1) (I := X2) (J := Y1) (C := Y2 ++ C) (by omega) (by omega)
        rw [List.length_append, lX1, lX2, lY1, ← ha, show a + (s - a) = s by omega, show s + (m - s) = m by omega, show m + (e - m) = e by omega] at this
        rw [e0]
        simpa using this
      · rw [e0]
        by_cases h0 : X2.length = 0
        · rw [nil_of_len h0]; simp
        · rw [nil_of_len (X := Y1) (by omega)]; simp
    rw [hl1]
    obtain ⟨Z1, z1, z2, z3⟩ : ∃ Z1, (if a < s ∧ s < mid then sym c n a s mid (A ++ (X1 ++ (Y1 ++ (X2 ++ (Y2 ++ C))))) else A ++ (X1 ++ (Y1 ++ (X2 ++ (Y2 ++ C))))) = A ++ (Z1 ++ (X2 ++ (Y2 ++ C))) ∧ Z1.Perm (X1 ++ Y1) ∧ Z1.Pairwise R := by
      split
      · obtain ⟨Z, h1, h2, h3⟩ := sym_app hR n (A := A) (X := X1) (Y := Y1) (C := X2 ++ (Y2 ++ C)) (by omega) (by omega) (by omega) pX.1 pY.1 (fun x hx y hy => hc2 x (List.mem_append_left _ hx) y (List.mem_append_left _ hy))
        rw [lX1, lY1, ← ha, show a + (s - a) = s by omega, show s + (e - m) = mid by omega] at h1
        exact ⟨Z, h1, h2, h3⟩
      · refine ⟨X1 ++ Y1, by simp, .refl _, ?_⟩
        by_cases h0 : X1.length = 0
        · rw [nil_of_len h0]; exact pY.1
        · rw [nil_of_len (X := Y1) (by omega), List.append_nil]; exact pX.1
    rw [z1]
    have lZ1 : Z1.length = mid - a := by rw [z2.length_eq, List.length_append]; omega
    obtain ⟨Z2, w1, w2, w3⟩ : ∃ Z2, (if mid < e ∧ e < b then sym c n mid e b (A ++ (Z1 ++ (X2 ++ (Y2 ++ C)))) else A ++ (Z1 ++ (X2 ++ (Y2 ++ C)))) = A ++ (Z1 ++ (Z2 ++ C)) ∧ Z2.Perm (X2 ++ Y2) ∧ Z2.Pairwise R := by
      split
      · obtain ⟨Z, h1, h2, h3⟩ := sym_app hR n (A := A ++ Z1) (X := X2) (Y := Y2) (C := C) (by omega) (by omega) (by omega) pX.2.1 pY.2.1 (fun x hx y hy => hc2 x (List.mem_append_right _ hx) y (List.mem_append_right _ hy))
        rw [List.length_append, lZ1, lX2, lY2, ← ha, show a + (mid - a) = mid by omega, show mid + (m - s) = e by omega, show e + (b - e) = b by omega] at h1
        refine ⟨Z, ?_, h2, h3⟩
        simpa using h1
      · refine ⟨X2 ++ Y2, by simp, .refl _, ?_⟩
        by_cases h0 : X2.length = 0
        · rw [nil_of_len h0]; exact pY.2.1
        · rw [nil_of_len (X := Y2) (by omega), List.append_nil]; exact pX.2.1
    rw [w1]
    refine ⟨Z1 ++ Z2, by simp, ?_, ?_⟩
    · refine (z2.append w2).trans ?_
      rw [← eX, ← eY, List.append_assoc, List.append_assoc]
      exact (List.perm_append_comm_assoc Y1 X2 Y2).append_left X1
    · rw [List.pairwise_append]
      refine ⟨z3, w3, fun x hx y hy => ?_⟩
      rcases List.mem_append.1 (z2.mem_iff.1 hx) with hx | hx <;> rcases List.mem_append.1 (w2.mem_iff.1 hy) with hy | hy
      · exact pX.2.2 x hx y hy
      · exact cXY x hx y hy
      · exact cYX x hx y hy
      · exact pY.2.2 x hx y hy
end
end Go.Proofs.YtdgnfdljkghpjaaGreat.Am

/- The stable sort's plain law, whole. -/
set_option linter.unusedVariables false
set_option linter.unusedSimpArgs false
namespace Go.Proofs.YtdgnfdljkghpjaaGreat.Am

section
variable {α : Type} {c : α → α → Int} {R : α → α → Prop}
theorem insIn_app (hR : SOrd R) : ∀ (n : Nat) {A S C : List α} {x : α}, S.length = n → S.Pairwise R → (∀ s ∈ S, Cross c R s x) → ∃ Z, insIn c A.length (A.length + n) (A ++ (S ++ x :: C)) = A ++ (Z ++ C) ∧ Z.Perm (S ++ [x]) ∧ Z.Pairwise R
  | 0, A, S, C, x, hn, hS, hc => by
    rw [nil_of_len hn]
    refine ⟨[x], ?_, by simp, by simp⟩
    have : insIn c A.length (A.length + 0) (A ++ ([] ++ x :: C)) = A ++ ([] ++ x :: C) := by
      generalize hj : A.length + 0 = j
      cases j with
      | zero => rfl
      | succ j => rw [insIn, if_neg (fun h => by omega)]
    rw [this]
    simp
  | n + 1, A, S, C, x, hn, hS, hc => by
    obtain ⟨T, s, rfl⟩ : ∃ T s, S = T ++ [s] := ⟨S.dropLast, S.getLast (by intro e; simp [e] at hn), (List.dropLast_concat_getLast _).symm⟩
    have hT : T.length = n := by simp at hn; omega
    rw [List.pairwise_append] at hS
    have hcs := hc s (by simp)
    have e1 : A ++ (T ++ [s] ++ x :: C) = (A ++ T) ++ s :: ([] ++ x :: C) := by simp
    have h1 : (A ++ (T ++ [s] ++ x :: C))[A.length + n]? = some s := by
      rw [e1, List.getElem?_append_right (by simp; omega)]
      simp [hT]
    have h2 : (A ++ (T ++ [s] ++ x :: C))[A.length + n + 1]? = some x := by
      rw [e1, List.getElem?_append_right (by simp; omega)]
      simp [hT]
    have hl : ltA c (A ++ (T ++ [s] ++ x :: C)) (A.length + n + 1) (A.length + n) = decide (c x s < 0) := by rw [ltA, h1, h2]
    rw [show A.length + (n + 1) = A.length + n + 1 by omega, insIn, hl]
    by_cases hlt : c x s < 0
    · rw [if_pos ⟨by omega, decide_eq_true hlt⟩]
      have hs : sw (A ++ (T ++ [s] ++ x :: C)) (A.length + n + 1) (A.length + n) = A ++ (T ++ x :: (s :: C)) := by
        have h3 := sw_app (A := A ++ T) (B := []) (C := C) (x := s) (y := x)
        have hsym : ∀ (l : List α) (i j : Nat), i < l.length → j < l.length → i ≠ j → sw l j i = sw l i j := fun l i j hi hj hij => by
          rw [sw_eq hj hi, sw_eq hi hj, List.set_comm _ _ (fun e => hij e.symm)]
        rw [e1, hsym _ (A.length + n) (A.length + n + 1) (by simp; omega) (by simp; omega) (by omega)]
        simp only [List.length_append, hT, List.length_nil, Nat.add_zero] at h3
        rw [h3]
        simp
      rw [hs]
      obtain ⟨Z, z1, z2, z3⟩ := insIn_app hR n (A := A) (S := T) (C := s :: C) (x := x) hT hS.1 (fun q hq => hc q (by simp [hq]))
      refine ⟨Z ++ [s], by rw [z1]; simp, ?_, ?_⟩
      · refine (z2.append_right [s]).trans ?_
        simp only [List.append_assoc]
        exact (List.perm_append_comm (l₁ := [x]) (l₂ := [s])).append_left T
      · rw [List.pairwise_append]
        refine ⟨z3, by simp, fun z hz q hq => ?_⟩
        rw [List.mem_singleton.1 hq]
        rcases List.mem_append.1 (z2.mem_iff.1 hz) with hz | hz
        · exact hS.2.2 z hz s (by simp)
        · rw [List.mem_singleton.1 hz]
          exact hcs.1.1 hlt
    · rw [if_neg (by simp [hlt])]
      have hsx : R s x := hcs.2 hlt
      refine ⟨T ++ [s] ++ [x], by simp, .refl _, ?_⟩
      rw [List.pairwise_append]
      refine ⟨by rw [List.pairwise_append]; exact hS, by simp, fun z hz q hq => ?_⟩
      rw [List.mem_singleton.1 hq]
      rcases List.mem_append.1 hz with hz | hz
      · exact hR.trans _ _ _ (hS.2.2 z hz s (by simp)) hsx
      · rw [List.mem_singleton.1 hz]
        exact hsx
theorem insOut_app (hR : SOrd R) : ∀ {T A S C : List α}, S.Pairwise R → T.Pairwise (Cross c R) → (∀ s ∈ S, ∀ t ∈ T, Cross c R s t) → ∃ Z, insOut c A.length T.length (A.length + S.length) (A ++ (S ++ (T ++ C))) = A ++ (Z ++ C) ∧ Z.Perm (S ++ T) ∧ Z.Pairwise R
  | [], A, S, C, hS, hT, hc => ⟨S, by simp [insOut], by simp, hS⟩
  | t :: T, A, S, C, hS, hT, hc => by
    rw [List.pairwise_cons] at hT
    obtain ⟨Z, z1, z2, z3⟩ := insIn_app (c := c) hR S.length (A := A) (S := S) (C := T ++ C) (x := t) rfl hS (fun s hs => hc s hs t (by simp))
    rw [List.length_cons, insOut, List.cons_append, z1]
    have hl : Z.length = S.length + 1 := by rw [z2.length_eq]; simp
    obtain ⟨W, w1, w2, w3⟩ := insOut_app hR (T := T) (A := A) (S := Z) (C := C) z3 hT.2 (fun s hs q hq => by
      rcases List.mem_append.1 (z2.mem_iff.1 hs) with hs | hs
      · exact hc s hs q (by simp [hq])
      · rw [List.mem_singleton.1 hs]; exact hT.1 q hq)
    rw [hl, ← Nat.add_assoc] at w1
    refine ⟨W, w1, w2.trans ?_, w3⟩
    refine (z2.append_right T).trans ?_
    simp
theorem insF_app (hR : SOrd R) {A X C : List α} (hX : X.Pairwise (Cross c R)) : ∃ Z, insF c A.length (A.length + X.length) (A ++ (X ++ C)) = A ++ (Z ++ C) ∧ Z.Perm X ∧ Z.Pairwise R := by
  cases X with
  | nil => exact ⟨[], by simp [insF, insOut], .refl _, .nil⟩
  | cons x T =>
    rw [List.pairwise_cons] at hX
    obtain ⟨Z, z1, z2, z3⟩ := insOut_app (c := c) hR (T := T) (A := A) (S := [x]) (C := C) (by simp) hX.2 (fun s hs t ht => by rw [List.mem_singleton.1 hs]; exact hX.1 t ht)
    refine ⟨Z, ?_, z2, z3⟩
    rw [insF, List.length_cons, show A.length + (T.length + 1) - (A.length + 1) = T.length by omega]
    exact z1
inductive Blocks (c : α → α → Int) (R : α → α → Prop) (w : Nat) : List α → Prop
  | last (X : List α) : X.length ≤ w → X.Pairwise R → Blocks c R w X
  | cons (X l : List α) : X.length = w → X.Pairwise R → (∀ x ∈ X, ∀ y ∈ l, Cross c R x y) → Blocks c R w l → Blocks c R w (X ++ l)
theorem Blocks.few {w : Nat} {l : List α} (h : Blocks c R w l) (hl : l.length ≤ w) : l.Pairwise R := by
  cases h with
  | last X h1 h2 => exact h2
  | cons X l h1 h2 h3 h4 =>
    rw [List.length_append] at hl
    rw [nil_of_len (X := l) (by omega), List.append_nil]
    exact h2
theorem Blocks.head {w : Nat} {l : List α} (h : Blocks c R w l) (hl : w < l.length) : ∃ X q, l = X ++ q ∧ X.length = w ∧ X.Pairwise R ∧ (∀ x ∈ X, ∀ y ∈ q, Cross c R x y) ∧ Blocks c R w q := by
  cases h with
  | last X h1 h2 => omega
  | cons X l h1 h2 h3 h4 => exact ⟨X, l, rfl, h1, h2, h3, h4⟩
theorem mrg_app (hR : SOrd R) {w : Nat} (hw : 1 ≤ w) {n : Nat} : ∀ (k : Nat) {A l : List α}, n = A.length + l.length → l.length < k → Blocks c R w l → ∃ q, mrg c n w k A.length (A ++ l) = A ++ q ∧ q.Perm l ∧ Blocks c R (2 * w) q
  | 0, A, l, hn, hk, hB => by omega
  | k + 1, A, l, hn, hk, hB => by
    rw [mrg]
    by_cases h2 : A.length + 2 * w ≤ n
    · rw [if_pos h2]
      obtain ⟨X, q, rfl, hX, pX, cX, hq⟩ := hB.head (by omega)
      rw [List.length_append] at hn hk
      obtain ⟨Y, u, rfl, hY, pY, hu, cY⟩ : ∃ Y u, q = Y ++ u ∧ Y.length = w ∧ Y.Pairwise R ∧ Blocks c R w u ∧ (∀ y ∈ Y, ∀ z ∈ u, Cross c R y z) := by
        by_cases hqw : q.length = w
        · exact ⟨q, [], by simp, hqw, hq.few (by omega), .last [] (by simp) .nil, fun y _ z hz => by simp at hz⟩
        · obtain ⟨Y, u, e, h1, h2, h3, h4⟩ := hq.head (by omega)
          exact ⟨Y, u, e, h1, h2, h4, h3⟩
      obtain ⟨Z, z1, z2, z3⟩ := sym_app (c := c) hR (2 * w) (A := A) (X := X) (Y := Y) (C := u) (by omega) (by omega) (by omega) pX pY (fun x hx y hy => cX x hx y (List.mem_append_left _ hy))
      rw [hX, hY, show A.length + w + w = A.length + 2 * w by omega] at z1
      rw [z1]
      have hZ : Z.length = 2 * w := by rw [z2.length_eq, List.length_append]; omega
      rw [List.length_append] at hn hk
      obtain ⟨v, v1, v2, v3⟩ := mrg_app hR hw (n := n) k (A := A ++ Z) (l := u) (by rw [List.length_append]; omega) (by omega) hu
      rw [List.length_append, hZ] at v1
      refine ⟨Z ++ v, by rw [← List.append_assoc, v1, List.append_assoc], ?_, ?_⟩
      · refine (z2.append v2).trans ?_
        simp
      · refine .cons Z v hZ z3 (fun x hx y hy => ?_) v3
        have hy := v2.mem_iff.1 hy
        rcases List.mem_append.1 (z2.mem_iff.1 hx) with hx | hx
        · exact cX x hx y (List.mem_append_right _ hy)
        · exact cY x hx y hy
    · rw [if_neg h2]
      by_cases h1 : A.length + w < n
      · rw [if_pos h1]
        obtain ⟨X, Y, rfl, hX, pX, cX, hq⟩ := hB.head (by omega)
        rw [List.length_append] at hn hk
        have pY := hq.few (by omega)
        obtain ⟨Z, z1, z2, z3⟩ := sym_app (c := c) hR (n - A.length) (A := A) (X := X) (Y := Y) (C := []) (by omega) (by omega) (by omega) pX pY cX
        rw [hX, show A.length + w + Y.length = n by omega, List.append_nil, List.append_nil] at z1
        refine ⟨Z, z1, z2, .last Z ?_ z3⟩
        rw [z2.length_eq, List.length_append]
        omega
      · rw [if_neg h1]
        exact ⟨l, rfl, .refl _, .last l (by omega) (hB.few (by omega))⟩
theorem mrgs_app (hR : SOrd R) {n : Nat} : ∀ (k : Nat) {w : Nat} {l : List α}, 1 ≤ w → n = l.length → n - w < k → Blocks c R w l → (mrgs c n k w l).Perm l ∧ (mrgs c n k w l).Pairwise R
  | 0, w, l, hw, hn, hk, hB => by omega
  | k + 1, w, l, hw, hn, hk, hB => by
    rw [mrgs]
    by_cases h : w < n
    · rw [if_pos h]
      obtain ⟨q, q1, q2, q3⟩ := mrg_app hR hw (n := n) (n + 1) (A := []) (l := l) (by simpa using hn) (by omega) hB
      simp only [List.length_nil, List.nil_append] at q1
      rw [q1]
      obtain ⟨h1, h2⟩ := mrgs_app hR (n := n) k (w := 2 * w) (l := q) (by omega) (by rw [q2.length_eq]; exact hn) (by omega) q3
      exact ⟨h1.trans q2, h2⟩
    · rw [if_neg h]
      exact ⟨.refl _, hB.few (by omega)⟩
theorem blk_app (hR : SOrd R) {n : Nat} : ∀ (k : Nat) {A X : List α}, n = A.length + X.length → X.length < k → X.Pairwise (Cross c R) → ∃ q, blk c n k A.length (A ++ X) = A ++ q ∧ q.Perm X ∧ Blocks c R 20 q
  | 0, A, X, hn, hk, hX => by omega
  | k + 1, A, X, hn, hk, hX => by
    rw [blk]
    by_cases h : A.length + 20 ≤ n
    · rw [if_pos h]
      obtain ⟨Y, u, rfl, hY⟩ : ∃ Y u, X = Y ++ u ∧ Y.length = 20 := ⟨X.take 20, X.drop 20, (List.take_append_drop _ _).symm, by rw [List.length_take]; omega⟩
      rw [List.length_append] at hn hk
      rw [List.pairwise_append] at hX
      obtain ⟨Z, z1, z2, z3⟩ := insF_app (c := c) hR (A := A) (X := Y) (C := u) hX.1
      rw [hY] at z1
      rw [z1]
      have hZ : Z.length = 20 := by rw [z2.length_eq]; exact hY
      obtain ⟨v, v1, v2, v3⟩ := blk_app hR (n := n) k (A := A ++ Z) (X := u) (by rw [List.length_append]; omega) (by omega) hX.2.1
      rw [List.length_append, hZ] at v1
      refine ⟨Z ++ v, by rw [← List.append_assoc, v1, List.append_assoc], z2.append v2, .cons Z v hZ z3 (fun x hx y hy => hX.2.2 x (z2.mem_iff.1 hx) y (v2.mem_iff.1 hy)) v3⟩
    · rw [if_neg h]
      obtain ⟨Z, z1, z2, z3⟩ := insF_app (c := c) hR (A := A) (X := X) (C := []) hX
      rw [← hn, List.append_nil, List.append_nil] at z1
      exact ⟨Z, z1, z2, .last Z (by rw [z2.length_eq]; omega) z3⟩
/-- The stable sort: the same elements, in order. -/
theorem stableF_spec (hR : SOrd R) {l : List α} (hl : l.Pairwise (Cross c R)) : (stableF c l).Perm l ∧ (stableF c l).Pairwise R := by
  obtain ⟨q, q1, q2, q3⟩ := blk_app hR (n := l.length) (l.length + 1) (A := []) (X := l) (by simp) (by omega) hl
  simp only [List.length_nil, List.nil_append] at q1
  rw [stableF, q1]
  obtain ⟨h1, h2⟩ := mrgs_app hR (n := l.length) (l.length + 1) (w := 20) (l := q) (by decide) q2.length_eq.symm (by omega) q3
  exact ⟨h1.trans q2, h2⟩
end
end Go.Proofs.YtdgnfdljkghpjaaGreat.Am

/- An owned tree of entries sorted in place. -/
set_option linter.unusedVariables false
set_option linter.unusedSimpArgs false
namespace Go.Proofs.YtdgnfdljkghpjaaGreat.Am

def entAt (l : List Entry) (i : Nat) : Entry := l[i]?.getD ⟨[], 0⟩
def cellAt (cs : List (List Ce)) (i : Nat) : List Ce := if (cs[i]?.getD []).length = 2 then cs[i]?.getD [] else [.nils, .nils]
theorem cellAt_two (cs : List (List Ce)) (i : Nat) : (cellAt cs i).length = 2 := by
  rw [cellAt]
  split
  · assumption
  · rfl
theorem entAt_eq {l : List Entry} {i : Nat} (h : i < l.length) : entAt l i = l[i] := by rw [entAt, List.getElem?_eq_getElem h]; rfl
theorem cellAt_eq {cs : List (List Ce)} {i : Nat} (h : i < cs.length) (h2 : cs[i].length = 2) : cellAt cs i = cs[i] := by
  rw [cellAt, List.getElem?_eq_getElem h]
  exact if_pos h2
theorem map_entAt (l : List Entry) : (List.range l.length).map (entAt l) = l := by
  refine List.ext_getElem (by simp) fun i h1 h2 => ?_
  rw [List.getElem_map, List.getElem_range, entAt_eq h2]
theorem map_cellAt {cs : List (List Ce)} (h : ∀ e ∈ cs, e.length = 2) : (List.range cs.length).map (cellAt cs) = cs := by
  refine List.ext_getElem (by simp) fun i h1 h2 => ?_
  rw [List.getElem_map, List.getElem_range, cellAt_eq h2 (h _ (List.getElem_mem _))]
def entR (l : List Entry) (n0 : Nat) (i j : Nat) : Prop := (entAt l i).key.length = n0 ∧ (entAt l j).key.length = n0 ∧ (entOrd (entAt l i) (entAt l j) < 0 ∨ (entAt l i = entAt l j ∧ i < j))
theorem entR_ord (l : List Entry) (n0 : Nat) : SOrd (entR l n0) := by
  have hC := entOrd_cmp n0
  refine ⟨fun x y z ⟨a1, a2, a3⟩ ⟨b1, b2, b3⟩ => ⟨a1, b2, ?_⟩, fun x y ⟨a1, a2, a3⟩ ⟨b1, b2, b3⟩ => ?_⟩
  · rcases a3 with a3 | ⟨a3, a4⟩ <;> rcases b3 with b3 | ⟨b3, b4⟩
    · exact .inl (hC.trans _ _ _ a1 a2 b2 a3 b3)
    · rw [← b3]; exact .inl a3
    · rw [a3]; exact .inl b3
    · exact .inr ⟨a3.trans b3, by omega⟩
  · rcases a3 with a3 | ⟨a3, a4⟩ <;> rcases b3 with b3 | ⟨b3, b4⟩
    · have := (hC.flip _ _ a1 a2).1 a3
      omega
    · rw [b3] at a3
      have := hC.refl _ a1
      omega
    · rw [a3] at b3
      have := hC.refl _ a2
      omega
    · omega
theorem ent_cross {l : List Entry} {n0 : Nat} (h : ∀ e ∈ l, e.key.length = n0) : (List.range l.length).Pairwise (Cross (fun i j => entOrd (entAt l i) (entAt l j)) (entR l n0)) := by
  have hC := entOrd_cmp n0
  rw [List.pairwise_iff_getElem]
  intro i j hi hj hij
  rw [List.length_range] at hi hj
  rw [List.getElem_range, List.getElem_range]
  have hki : (entAt l i).key.length = n0 := by rw [entAt_eq hi]; exact h _ (List.getElem_mem _)
  have hkj : (entAt l j).key.length = n0 := by rw [entAt_eq hj]; exact h _ (List.getElem_mem _)
  refine ⟨⟨fun h1 => ⟨hkj, hki, .inl h1⟩, fun ⟨_, _, h1⟩ => h1.elim id fun h2 => by omega⟩, fun h1 => ⟨hki, hkj, ?_⟩⟩
  by_cases h0 : entOrd (entAt l j) (entAt l i) = 0
  · exact .inr ⟨(hC.eq _ _ hkj hki h0).symm, hij⟩
  · have h2 : ¬ entOrd (entAt l j) (entAt l i) < 0 := h1
    exact .inl ((hC.flip _ _ hki hkj).2 (by omega))
theorem putS_same {τ : Store} {id : Nat} {b : Nat × List (List Ce)} (h : τ.get id = some b) : τ.put id b = τ := by
  cases τ with
  | mk nx g =>
    simp only [Store.put, Store.mk.injEq, true_and]
    funext a
    split
    · rename_i e; subst e; exact h.symm
    · rfl
theorem sorts : Sorts Tryz.prog := ⟨mixed, ⟨_, c_slices_symMergeCmpFunc_Entry_ok⟩, ⟨_, c_slices_rotateCmpFunc_Entry_ok⟩, ⟨_, c_slices_swapRangeCmpFunc_Entry_ok⟩, ⟨_, c_slices_insertionSortCmpFunc_Entry_ok⟩, ⟨_, c_slices_stableCmpFunc_Entry_ok⟩⟩
theorem sortEntries_ok (l : List Entry) (n0 : Nat) (h0 : ∀ e ∈ l, e.key.length = n0) (hn0 : n0 ≤ 34359738368) (hx : l.length ≤ 34359738368) (h1 : 1 ≤ l.length) {τ : Store} {S : Nat → Prop} {x : Ce} (hh : Has τ S (.fz (l.map encE)) x) :
    Ok Tryz.prog 55 [.c x, .c (.fn 56 [] [])] τ (fun r τ' => r = .tup [] ∧ ∃ l' : List Entry, l'.Perm l ∧ l'.Pairwise (fun a b => entOrd a b < 0 ∨ a = b) ∧ Has τ' S (.fz (l'.map encE)) x ∧ τ'.next = τ.next ∧ (∀ a, ¬ S a → τ'.get a = τ.get a) ∧ ∀ σ, Gr σ τ → (∀ a, S a → σ.next ≤ a ∧ a < τ.next) → Gr σ τ') := by
  generalize hys : l.map encE = ys at hh
  cases hh with
  | c h' => cases h'
  | nil => simp at hys; rw [hys] at h1; simp at h1
  | o ys id v s cs junk T hg hSid hl hsz hall hj hT hd hcell =>
    subst hys
    have hcl : cs.length = l.length := by rw [hl, List.length_map]
    have hs2 : s = 2 := by
      have := hsz 0 (by simp; omega)
      rw [hall _ (List.mem_append_left _ (List.getElem_mem _))] at this
      rw [this, List.getElem_map]
      rfl
    subst hs2
    have hallc : ∀ e ∈ cs, e.length = 2 := fun e he => hall e (List.mem_append_left _ he)
    let F : Fam Nat := ⟨τ, id, v, cellAt cs, junk, cellAt_two cs⟩
    have hF0 : F.S (List.range l.length) = τ := by
      show τ.put id (v, (List.range l.length).map (cellAt cs) ++ junk) = τ
      rw [← hcl, map_cellAt hallc]
      exact putS_same hg
    have hcmp : Cmps Tryz.prog F (fun i => i < l.length) (fun i j => entOrd (entAt l i) (entAt l j)) 56 [] [] := by
      intro q i j hi hj2
      have hlen : ∀ k, k < l.length → HasL (F.S q) (fun a => ∃ j, T k j a) (encE (entAt l k)) (cellAt cs k) := fun k hk => by
        have hk2 : k < (l.map encE).length := by rw [List.length_map]; exact hk
        have e1 : (l.map encE)[k] = encE (entAt l k) := by rw [List.getElem_map, entAt_eq hk]
        have e2 : cellAt cs k = cs[k]'(by omega) := cellAt_eq (by omega) (hallc _ (List.getElem_mem _))
        rw [e2, ← e1]
        refine ⟨fun j a => T k j a, by rw [hsz k hk2], fun j a ha => ⟨j, ha⟩, fun j j' a p1 p2 => (hd _ _ _ _ a p1 p2).2, fun j hy hxx => ?_⟩
        refine (hcell k j hk2 hy).frame fun a ha => ?_
        show (τ.put id _).get a = _
        exact if_neg (hT k j a ha).2
      refine Lend.pure (.own ((hlen i hi).frz fun _ _ => Nat.zero_le _) (.own ((hlen j hj2).frz fun _ _ => Nat.zero_le _) .nil)) ?_ (.int _ _)
      refine entryOrder_ok (entAt l i) (entAt l j) ?_ ?_
      · rw [entAt_eq hi, h0 _ (List.getElem_mem _)]; exact hn0
      · rw [entAt_eq hi, entAt_eq hj2, h0 _ (List.getElem_mem _), h0 _ (List.getElem_mem _)]
    obtain ⟨p1, p2⟩ := stableF_spec (entR_ord l n0) (ent_cross h0)
    have hsort := sortStable_ok sorts c_slices_SortStableFunc_Entry_ok F (fun i => i < l.length) _ _ [] [] hcmp (List.range l.length) ((List.range l.length).length + junk.length) (fun i hi => List.mem_range.1 hi) (by simpa using hx)
    rw [hF0] at hsort
    generalize stableF (fun i j => entOrd (entAt l i) (entAt l j)) (List.range l.length) = ps at p1 p2 hsort
    have hps : ps.length = l.length := by rw [p1.length_eq, List.length_range]
    have hpl : ∀ i ∈ ps, i < l.length := fun i hi => List.mem_range.1 (p1.mem_iff.1 hi)
    have hnd : ps.Nodup := p1.nodup_iff.2 List.nodup_range
    have hlen2 : (l.map encE).length = (List.range l.length).length := by simp
    rw [hlen2]
    refine hsort.mono ?_
    rintro r τ' ⟨rfl, rfl⟩
    refine ⟨rfl, ps.map (entAt l), ?_, ?_, ?_, rfl, fun a ha => if_neg fun e => ha (by rw [e]; exact hSid), fun σ hG hlo => ?_⟩
    · have := p1.map (entAt l)
      rwa [map_entAt] at this
    · exact List.pairwise_map.2 (p2.imp fun h => h.2.2.imp (fun h => h) fun h => h.1)
    · have hcs : ∀ i (hi : i < ps.length), cellAt cs ps[i] = cs[ps[i]]'(by have := hpl _ (List.getElem_mem hi); omega) := fun i hi => cellAt_eq (by have := hpl _ (List.getElem_mem hi); omega) (hallc _ (List.getElem_mem _))
      have hrl : (List.range l.length).length = ((ps.map (entAt l)).map encE).length := by simp [hps]
      rw [hrl]
      refine .o ((ps.map (entAt l)).map encE) id v 2 (ps.map (cellAt cs)) junk (fun i j a => ∃ h : i < ps.length, T ps[i] j a) (if_pos rfl) hSid (by simp) (fun i hi => ?_) (fun e he => ?_) hj (fun i j a ⟨hi, ha⟩ => hT _ _ _ ha) (fun i j i' j' a q1 q2 => ?_) (fun i j hi hjy => ?_)
      · have hi2 : i < ps.length := by simpa using hi
        rw [List.getElem_map, List.getElem_map, List.getElem_map, cellAt_two]
        rfl
      · rcases List.mem_append.1 he with he | he
        · obtain ⟨i, _, rfl⟩ := List.mem_map.1 he
          exact cellAt_two cs i
        · exact hall e (List.mem_append_right _ he)
      · obtain ⟨hi, q1⟩ := q1
        obtain ⟨hi', q2⟩ := q2
        obtain ⟨e1, e2⟩ := hd _ _ _ _ a q1 q2
        exact ⟨(List.getElem_inj hnd).1 e1, e2⟩
      · have hi2 : i < ps.length := by simpa using hi
        have hpi := hpl _ (List.getElem_mem hi2)
        have hpi2 : ps[i] < (l.map encE).length := by simpa using hpi
        have e1 : ((ps.map (entAt l)).map encE)[i] = (l.map encE)[ps[i]] := by
          rw [List.getElem_map, List.getElem_map, List.getElem_map, entAt_eq hpi]
        have e2 : (ps.map (cellAt cs))[i]'(by simpa using hi2) = cs[ps[i]]'(by omega) := by rw [List.getElem_map, hcs i hi2]
        simp only [e1, e2]
        have hjy' : j < ((l.map encE)[ps[i]]).length := by rw [← e1]; exact hjy
        exact ((hcell ps[i] j hpi2 hjy').frame fun a ha => if_neg (hT _ _ _ ha).2).mono fun a ha => ⟨hi2, ha⟩
    · refine hG.put (hlo id hSid).1 (hlo id hSid).2 fun e he => ?_
      have hold := hG.tidy (hlo id hSid).1 hg
      rcases List.mem_append.1 he with he | he
      · obtain ⟨i, hi, rfl⟩ := List.mem_map.1 he
        have := hpl i hi
        rw [show F.ce i = cs[i]'(by omega) from cellAt_eq (by omega) (hallc _ (List.getElem_mem _))]
        exact hold _ (List.mem_append_left _ (List.getElem_mem _))
      · exact hold _ (List.mem_append_right _ he)
end Go.Proofs.YtdgnfdljkghpjaaGreat.Am

/- An entry put into an index: plain law. -/
set_option linter.unusedVariables false
set_option linter.unusedSimpArgs false
namespace Go.Proofs.YtdgnfdljkghpjaaGreat.Am

theorem putF_perm (e : Entry) (l : List Entry) : (putF e l).Perm (l ++ [e]) := by
  have h := List.perm_middle (l₁ := l.take (putPos e l)) (a := e) (l₂ := l.drop (putPos e l))
  rw [List.take_append_drop] at h
  exact h.trans (List.perm_append_singleton e l).symm
theorem okRest_vals {n0 : Nat} : ∀ {l : List Entry} {p : Option Entry}, okRest n0 p l = true → ∀ q ∈ l, areVals q.key 16 = true ∧ q.key.length = n0
  | [], _, _, q, hq => by simp at hq
  | a :: r, p, h, q, hq => by
    rw [okRest_cons, Bool.and_eq_true] at h
    rcases List.mem_cons.1 hq with rfl | hq
    · have h1 := h.1
      simp only [okOne, Bool.and_eq_true, decide_eq_true_eq] at h1
      exact ⟨h1.1.1.2, h1.1.1.1.2⟩
    · exact okRest_vals h.2 q hq
theorem okEnts_vals {l : List Entry} (h : okEnts l = true) : ∃ n0, ∀ q ∈ l, areVals q.key 16 = true ∧ q.key.length = n0 := by
  simp only [okEnts, Bool.and_eq_true] at h
  exact ⟨_, okRest_vals h.1⟩
theorem ent_eq_sorted {n0 : Nat} {a b : List Entry} (ha : a.Pairwise fun x y => entOrd x y < 0) (hb : b.Pairwise fun x y => entOrd x y < 0) (hn : ∀ q ∈ a, q.key.length = n0) (hp : a.Perm b) : a = b := by
  have hC := entOrd_cmp n0
  have key : ∀ {a b : List Entry}, a.Pairwise (fun x y => entOrd x y < 0) → b.Pairwise (fun x y => entOrd x y < 0) → (∀ q ∈ a, q.key.length = n0) → a.Perm b → a = b := by
    intro a
    induction a with
    | nil => intro b _ _ _ hp; exact (List.nil_perm.1 hp).symm
    | cons x r ih =>
      intro b ha hb hn hp
      cases b with
      | nil => exact absurd hp.symm (fun h => by simpa using List.nil_perm.1 h)
      | cons y t =>
        rw [List.pairwise_cons] at ha hb
        have hxy : x = y := by
          have h1 : x ∈ y :: t := hp.mem_iff.1 (by simp)
          have h2 : y ∈ x :: r := hp.mem_iff.2 (by simp)
          rcases List.mem_cons.1 h1 with h1 | h1
          · exact h1
          · rcases List.mem_cons.1 h2 with h2 | h2
            · exact h2.symm
            · have p1 := hb.1 x h1
              have p2 := ha.1 y h2
              have := (hC.flip _ _ (hn x (by simp)) (hn y (by simp [h2]))).1 p2
              omega
        subst hxy
        rw [ih ha.2 hb.2 (fun q hq => hn q (by simp [hq])) (List.Perm.cons_inv hp)]
  exact key ha hb hn hp
theorem strict_of {a : List Entry} (h : a.Pairwise fun x y => entOrd x y < 0 ∨ x = y) (hn : a.Nodup) : a.Pairwise fun x y => entOrd x y < 0 :=
  (List.pairwise_and_iff.2 ⟨h, hn⟩).imp fun ⟨h1, h2⟩ => h1.elim (fun h => h) fun h => absurd h h2
theorem putF_sorted {n0 : Nat} {e : Entry} : ∀ {l : List Entry}, l.Pairwise (fun x y => entOrd x y < 0) → (∀ q ∈ l, q.key.length = n0) → e.key.length = n0 → e ∉ l → (∀ q ∈ l, lessK q.key e.key q.id e.id = decide (entOrd q e < 0)) → (putF e l).Pairwise fun x y => entOrd x y < 0
  | [], _, _, _, _, _ => by simp [putF, putPos]
  | a :: r, hs, hn, he, hne, hl => by
    have hC := entOrd_cmp n0
    rw [List.pairwise_cons] at hs
    have hla := hl a (by simp)
    have hna := hn a (by simp)
    rw [putF, putPos, hla]
    by_cases h : entOrd a e < 0
    · rw [if_pos (decide_eq_true h), List.take_succ_cons, List.drop_succ_cons, List.cons_append, List.pairwise_cons]
      have ih := putF_sorted hs.2 (fun q hq => hn q (by simp [hq])) he (fun h => hne (by simp [h])) fun q hq => hl q (by simp [hq])
      refine ⟨fun q hq => ?_, ih⟩
      have hq2 := (putF_perm e r).mem_iff.1 hq
      rcases List.mem_append.1 hq2 with hq2 | hq2
      · exact hs.1 q hq2
      · rw [List.mem_singleton.1 hq2]; exact h
    · rw [if_neg (by simp [h])]
      simp only [List.take_zero, List.drop_zero, List.nil_append]
      have hea : entOrd e a < 0 := by
        by_cases h0 : entOrd a e = 0
        · exact absurd (hC.eq _ _ hna he h0) (fun h => hne (by simp [h]))
        · exact (hC.flip _ _ he hna).2 (by omega)
      rw [List.pairwise_cons, List.pairwise_cons]
      refine ⟨fun q hq => ?_, hs⟩
      rcases List.mem_cons.1 hq with rfl | hq
      · exact hea
      · exact hC.trans _ _ _ he hna (hn q (by simp [hq])) hea (hs.1 q hq)
def PutF (l : List Entry) (e : Entry) : List Entry × Bool := if okEnts l && okEnts (putF e l) then (putF e l, true) else ([], false)
/-- What is sorted is what was put. -/
theorem put_sorted {l q : List Entry} {e : Entry} (h1 : q.Perm (l ++ [e])) (h2 : q.Pairwise fun x y => entOrd x y < 0 ∨ x = y) (hl : okEnts l = true) : okEnts q = okEnts (putF e l) ∧ (okEnts q = true → q = putF e l) := by
  have hpp := h1.trans (putF_perm e l).symm
  have fwd : okEnts (putF e l) = true → q = putF e l := fun h => by
    obtain ⟨s1, n0, s2⟩ := okEnts_sorted h
    have hnd : q.Nodup := hpp.nodup_iff.2 (okEnts_nodup h)
    exact ent_eq_sorted (n0 := n0) (strict_of h2 hnd) s1 (fun x hx => s2 x (hpp.mem_iff.1 hx)) hpp
  have bwd : okEnts q = true → q = putF e l := fun h => by
    obtain ⟨s1, _⟩ := okEnts_sorted h
    obtain ⟨n0, hv⟩ := okEnts_vals h
    obtain ⟨l1, _⟩ := okEnts_sorted hl
    have hnd := okEnts_nodup h
    have hnd2 : (l ++ [e]).Nodup := h1.nodup_iff.1 hnd
    have hin : ∀ x ∈ l ++ [e], areVals x.key 16 = true ∧ x.key.length = n0 := fun x hx => hv x (h1.mem_iff.2 hx)
    have hee := hin e (by simp)
    have hne : e ∉ l := fun he => by
      rw [List.nodup_append] at hnd2
      exact hnd2.2.2 e he e (by simp) rfl
    have hput := putF_sorted (n0 := n0) l1 (fun x hx => (hin x (by simp [hx])).2) hee.2 hne fun x hx => by
      have hx2 := hin x (by simp [hx])
      rw [lessK_order hx2.1 hee.1 (by rw [hx2.2, hee.2])]
      rfl
    exact ent_eq_sorted (n0 := n0) s1 hput (fun x hx => (hv x hx).2) hpp
  refine ⟨?_, bwd⟩
  cases h : okEnts q
  · cases h' : okEnts (putF e l)
    · rfl
    · rw [fwd h', h'] at h
      cases h
  · rw [← bwd h, h]
theorem put_len {l : List Entry} {e : Entry} (h0 : 0 < l.length) (h : ¬ (l[0].key.length = e.key.length)) : okEnts (putF e l) = false := by
  cases h' : okEnts (putF e l)
  · rfl
  · obtain ⟨n0, hv⟩ := okEnts_vals h'
    have h1 := (hv l[0] ((putF_perm e l).mem_iff.2 (by simp))).2
    have h2 := (hv e ((putF_perm e l).mem_iff.2 (by simp))).2
    omega
end Go.Proofs.YtdgnfdljkghpjaaGreat.Am

/- An entry put into an index: the reference's own. -/
set_option linter.unusedVariables false
set_option linter.unusedSimpArgs false
namespace Go.Proofs.YtdgnfdljkghpjaaGreat.Am

theorem fin_no {σ : Store} {l : List (Nat × List (List Ce))} {b : Bool} : Fin σ (.tup [.c (.fz []), .c (.bool b)]) (.tup [.c .nils, .c (.bool b)]) (E σ l) :=
  ⟨l, rfl, .tup rfl fun i hi => by
    match i, hi with
    | 0, _ => exact .c .nil
    | 1, _ => exact .refl (by intro y hy; simp [AV.all] at hy; subst hy; exact .bool _)⟩
theorem fin_yes {σ : Store} {q : List Entry} {l : List (Nat × List (List Ce))} {b : Bool} : Fin σ (.tup [.c (.fz (q.map encE)), .c (.bool b)]) (.tup [.c (.fz (q.map encE)), .c (.bool b)]) (E σ l) :=
  ⟨l, rfl, .tup rfl fun i hi => by
    match i, hi with
    | 0, _ => exact .refl (by intro y hy; simp [AV.all] at hy; subst hy; exact .fz _ fun i j hi hj => old_maps _ (List.getElem_mem hi) _ (List.getElem_mem hj))
    | 1, _ => exact .refl (by intro y hy; simp [AV.all] at hy; subst hy; exact .bool _)⟩
theorem okEnts_few {l : List Entry} (h : okEnts l = true) : l.length ≤ 120 := by
  simp only [okEnts, Bool.and_eq_true, decide_eq_true_eq] at h
  omega
theorem sIndexPut_ok (l : List Entry) (e : Entry) (hx : l.length ≤ 34359738368) (hk : ∀ e ∈ l, e.key.length ≤ 34359738368) (he : e.key.length ≤ 34359738368) : Pure Tryz.prog 11 [.c (.fz (l.map encE)), .agg (encE e)] (.tup [.c (.fz ((PutF l e).1.map encE)), .c (.bool (PutF l e).2)]) := by
  refine Pure.run mixed c_spec_IndexPut_ok (Nat.le_of_ble_eq_true rfl) fun σ hS hA => ?_
  clear hS hA
  have c1 := l11Right_ok l hx hk
  rw [PutF]
  cases h1 : okEnts l
  · rw [h1] at c1
    repeat' first|refine yaG ?_|refine yaC (c1) ?_|(exfalso;omega)|(refine yaS ?_ ?_<;>intro _)
    exact .ret rfl fin_no
  rw [h1] at c1
  have hf := okEnts_few h1
  have c2 := NewV.pure (l11Copy_ok l hx hk)
  have c3 := NewV.pure (l1CopyVals_ok e.key he)
  have c4 := l11Put_ok l e (by omega) hk
  have hpk : ∀ q ∈ putF e l, q.key.length ≤ 34359738368 := fun q hq => by
    rcases List.mem_append.1 ((putF_perm e l).mem_iff.1 hq) with h | h
    · exact hk q h
    · rw [List.mem_singleton.1 h]; exact he
  have c5 := l11Right_ok (putF e l) (by rw [(putF_perm e l).length_eq, List.length_append, List.length_singleton]; omega) hpk
  generalize putF e l = q at c4 c5 ⊢
  cases h2 : okEnts q
  · rw [h2] at c5
    repeat' first|refine yaG ?_|refine yaC (c1) ?_|refine yaC (c2) ?_|refine yaC (c3) ?_|refine yaC (c4) ?_|refine yaC (c5) ?_|(exfalso;omega)|(refine yaS ?_ ?_<;>intro _)
    exact .ret rfl fin_no
  · rw [h2] at c5
    repeat' first|refine yaG ?_|refine yaC (c1) ?_|refine yaC (c2) ?_|refine yaC (c3) ?_|refine yaC (c4) ?_|refine yaC (c5) ?_|(exfalso;omega)|(refine yaS ?_ ?_<;>intro _)
    exact .ret rfl fin_yes
end Go.Proofs.YtdgnfdljkghpjaaGreat.Am

/- An entry put into an index: the program's own. -/
set_option linter.unusedVariables false
set_option linter.unusedSimpArgs false
namespace Go.Proofs.YtdgnfdljkghpjaaGreat.Am

theorem sorted_new {σ : Store} {l : List Entry} {n0 : Nat} (h0 : ∀ e ∈ l, e.key.length = n0) (hn0 : n0 ≤ 34359738368) (hx : l.length ≤ 34359738368) (h1 : 1 ≤ l.length) {τ : Store} {x : Ce} (h : NewV σ (.c (.fz (l.map encE))) (.c x) τ) :
    Ok Tryz.prog 55 [.c x, .c (.fn 56 [] [])] τ (fun r τ' => r = .tup [] ∧ ∃ l' : List Entry, l'.Perm l ∧ l'.Pairwise (fun a b => entOrd a b < 0 ∨ a = b) ∧ NewV σ (.c (.fz (l'.map encE))) (.c x) τ') := by
  obtain ⟨hG, hh⟩ := h
  cases hh with
  | c hh =>
  refine (sortEntries_ok l n0 h0 hn0 hx h1 hh).mono ?_
  rintro r τ' ⟨rfl, l', p1, p2, p3, p4, p5, p6⟩
  exact ⟨rfl, l', p1, p2, p6 σ hG (fun a ha => ha), .c (p3.mono fun a ha => by rw [p4]; exact ha)⟩
theorem IndexPut_ok (l : List Entry) (e : Entry) (hx : l.length ≤ 34359738368) (hk : ∀ e ∈ l, e.key.length ≤ 34359738368) (he : e.key.length ≤ 34359738368) (σ : Store) : Ok Tryz.prog 10 [.c (.fz (l.map encE)), .agg (encE e)] σ (NewV σ (.tup [.c (.fz ((PutF l e).1.map encE)), .c (.bool (PutF l e).2)])) := by
  refine Ok.run mixed c_impl_IndexPut_ok (Nat.le_of_ble_eq_true rfl) fun hS hA => ?_
  clear hA
  have c1 := areEntries_ok l hx hk
  rw [PutF]
  cases h1 : okEnts l
  · rw [h1] at c1
    repeat' first|refine yaG ?_|refine yaC (c1) ?_|(exfalso;omega)|(refine yaS ?_ ?_<;>intro _)
    exact .ret rfl (newPairE ⟨.start σ, .c .nil⟩)
  rw [h1] at c1
  have hf := okEnts_few h1
  have hkk : ∀ q ∈ l ++ [e], q.key.length ≤ 34359738368 := fun q hq => by
    rcases List.mem_append.1 hq with h | h
    · exact hk q h
    · rw [List.mem_singleton.1 h]; exact he
  have hll : (l ++ [e]).length ≤ 34359738368 := by rw [List.length_append, List.length_singleton]; omega
  have hll1 : 1 ≤ (l ++ [e]).length := by simp
  have e1 : l.map encE ++ [encE e] = (l ++ [e]).map encE := by simp
  have fin : ∀ (q : List Entry), q.Perm (l ++ [e]) → q.Pairwise (fun a b => entOrd a b < 0 ∨ a = b) → ∀ (x : Ce) (τ : Store), NewV σ (.c (.fz (q.map encE))) (.c x) τ → (okEnts q = true → NewV σ (.tup [.c (.fz ((if (true && okEnts (putF e l)) = true then (putF e l, true) else ([], false)).1.map encE)), .c (.bool (if (true && okEnts (putF e l)) = true then (putF e l, true) else ([], false)).2)]) (.tup [.c x, .c (.bool true)]) τ) ∧ (okEnts q = false → NewV σ (.tup [.c (.fz ((if (true && okEnts (putF e l)) = true then (putF e l, true) else ([], false)).1.map encE)), .c (.bool (if (true && okEnts (putF e l)) = true then (putF e l, true) else ([], false)).2)]) (.tup [.c .nils, .c (.bool false)]) τ) := fun q p1 p2 x τ hn => by
    obtain ⟨s1, s2⟩ := put_sorted p1 p2 h1
    refine ⟨fun h => ?_, fun h => ?_⟩
    · rw [← s1, h, ← s2 h]
      exact newPairE hn
    · rw [← s1, h]
      exact newPairE ⟨hn.1, .c .nil⟩
  have hqk : ∀ (q : List Entry), q.Perm (l ++ [e]) → q.length ≤ 34359738368 ∧ ∀ z ∈ q, z.key.length ≤ 34359738368 := fun q p => ⟨by rw [p.length_eq]; exact hll, fun z hz => hkk z (p.mem_iff.1 hz)⟩
  by_cases hemp : l = []
  · subst hemp
    have h0 : ∀ q ∈ ([] : List Entry) ++ [e], q.key.length = e.key.length := fun q hq => by rw [List.mem_singleton.1 hq]
    have hn0 := he
    repeat' first|apply Go.seq|apply Go.skip|apply Go.region|apply Go.nil|apply Go.block|apply Go.blk|apply Go.segs|(apply Go.exit;exact rfl)|(apply Go.cond true;exact rfl)|(apply Go.cond false;exact rfl)|apply yB|apply yC|((first|apply yD|apply yE);(first|exact yF|assumption);iterate 6 exact rfl)|((first|apply yG|apply yH|apply yI);exact rfl;(first|exact yJ|exact yK rfl rfl|exact yL rfl|exact yM rfl|exact rfl|exact aL rfl rfl rfl rfl rfl|exact aS rfl rfl rfl rfl rfl rfl rfl))|((first|apply yN|apply yO|apply yP);exact rfl)|(exfalso;omega)|(((first|apply yT|apply yU|apply yV|apply yW);exact rfl;(first|exact .d|exact .e|exact .n|((fail_if_success exact bqt);(fail_if_success exact bqf);exact .b)))<;>intro _)
    apply Go.draw
    repeat' first|apply Go.seq|apply Go.skip|apply Go.region|apply Go.nil|apply Go.block|apply Go.blk|apply Go.segs|(apply Go.exit;exact rfl)|(apply Go.cond true;exact rfl)|(apply Go.cond false;exact rfl)|apply yB|apply yC|((first|apply yD|apply yE);(first|exact yF|assumption);iterate 6 exact rfl)|((first|apply yG|apply yH|apply yI);exact rfl;(first|exact yJ|exact yK rfl rfl|exact yL rfl|exact yM rfl|exact rfl|exact aL rfl rfl rfl rfl rfl|exact aS rfl rfl rfl rfl rfl rfl rfl))|((first|apply yN|apply yO|apply yP);exact rfl)|((first|apply yQ|apply yR|apply yS);(iterate 3 exact rfl);exact c1)|(exfalso;omega)|(((first|apply yT|apply yU|apply yV|apply yW);exact rfl;(first|exact .d|exact .e|exact .n|((fail_if_success exact bqt);(fail_if_success exact bqf);exact .b)))<;>intro _)
    all_goals first
      | (exfalso; omega)
      | skip
    apply Go.draw
    repeat' first|(apply yA;exact rfl)|(apply Go.qd)|apply Qc.nil|(apply Qc.op;exact rfl;(first|exact fun _ => rfl|exact fun _ => yM rfl))|(apply Qc.no;exact rfl)|((first|apply yD|apply yE);(first|exact yF|assumption);iterate 6 exact rfl)|((first|apply yG|apply yH);exact rfl;(first|exact yJ|exact yK rfl rfl|exact yL rfl|exact yM rfl|exact rfl|exact aL rfl rfl rfl rfl rfl|exact aS rfl rfl rfl rfl rfl rfl rfl))|((first|apply yN|apply yO);exact rfl)|(exfalso;omega)|(((first|apply yT|apply yU|apply yV|apply yW);exact rfl;(first|exact .d|exact .e|exact .n|((fail_if_success exact bqt);(fail_if_success exact bqf);exact .b)))<;>intro _)
    refine Qc.call _ rfl rfl rfl (clone_ok mixed c_slices_Clone_Entry_ok (([] : List Entry).map encE) encE_len (by simp) _) ?_
    rintro r _ (⟨_, rfl, rfl⟩ | ⟨v, junk, hj, rfl, rfl⟩)
    · rw [E_E]
      repeat' first|(apply yA;exact rfl)|(apply Go.qd)|apply Qc.nil|(apply Qc.op;exact rfl;(first|exact fun _ => rfl|exact fun _ => yM rfl))|(apply Qc.no;exact rfl)|((first|apply yD|apply yE);(first|exact yF|assumption);iterate 6 exact rfl)|((first|apply yG|apply yH);exact rfl;(first|exact yJ|exact yK rfl rfl|exact yL rfl|exact yM rfl|exact rfl|exact aL rfl rfl rfl rfl rfl|exact aS rfl rfl rfl rfl rfl rfl rfl))|((first|apply yN|apply yO);exact rfl)|(exfalso;omega)|(((first|apply yT|apply yU|apply yV|apply yW);exact rfl;(first|exact .d|exact .e|exact .n|((fail_if_success exact bqt);(fail_if_success exact bqf);exact .b)))<;>intro _)
      rw [E_new]
      refine Go.freeze hS (fr' := [(30, .c (.fz ((([] : List Entry) ++ [e]).map encE)))]) (.frz rfl (.c (frz_vec (σ := σ) (k := 0) (v := 0) (ys := [encE e]) (junk := []) rfl (fun q hq x hx => old_maps (l := [e]) q (by simpa using hq) x hx))) .nil) ?_
      refine .scall _ rfl rfl rfl (copiedEntries_ok (([] : List Entry) ++ [e]) hll hkk _) ?_
      rintro r τ ⟨hg, hh⟩
      cases hh with
      | c hh =>
      repeat' first|refine yaG ?_|(exfalso;omega)|(refine yaS ?_ ?_<;>intro _)
      refine .call _ rfl rfl rfl (sorted_new h0 hn0 hll hll1 (σ := σ) ⟨(Gr.start σ).trans hg, .c hh⟩) ?_
      rintro r τ' ⟨rfl, q, p1, p2, hn⟩
      obtain ⟨f1, f2⟩ := fin q p1 p2 _ _ hn
      repeat' first|refine yaG ?_|(exfalso;omega)|(refine yaS ?_ ?_<;>intro _)
      refine Go.lcall rfl rfl rfl (areEntries_ok q (hqk q p1).1 (hqk q p1).2) (.bool _) (.own (HasV.lend hn.2) .nil) ?_
      cases h2 : okEnts q
      · repeat' first|refine yaG ?_|(exfalso;omega)|(refine yaS ?_ ?_<;>intro _)
        exact .ret rfl (f2 h2)
      · repeat' first|refine yaG ?_|(exfalso;omega)|(refine yaS ?_ ?_<;>intro _)
        exact .ret rfl (f1 h2)
    · rw [E_E]
      repeat' first|(apply yA;exact rfl)|(apply Go.qd)|apply Qc.nil|(apply Qc.op;exact rfl;(first|exact fun _ => rfl|exact fun _ => yM rfl))|(apply Qc.no;exact rfl)|((first|apply yD|apply yE);(first|exact yF|assumption);iterate 6 exact rfl)|((first|apply yG|apply yH);exact rfl;(first|exact yJ|exact yK rfl rfl|exact yL rfl|exact yM rfl|exact rfl|exact aL rfl rfl rfl rfl rfl|exact aS rfl rfl rfl rfl rfl rfl rfl))|((first|apply yN|apply yO);exact rfl)|(exfalso;omega)|(((first|apply yT|apply yU|apply yV|apply yW);exact rfl;(first|exact .d|exact .e|exact .n|((fail_if_success exact bqt);(fail_if_success exact bqf);exact .b)))<;>intro _)
      refine Go.sapp1 (k := 0) (z := encE e) rfl rfl rfl rfl rfl encE_len hj rfl (by simp) fun v' junk' hj' => ?_
      refine Go.freeze hS (fr' := [(30, .c (.fz ((([] : List Entry) ++ [e]).map encE)))]) (.frz rfl (.c (frz_vec (σ := σ) (k := 0) rfl (fun q hq x hx => old_maps (l := [e]) q (by simpa using hq) x hx))) .nil) ?_
      refine .scall _ rfl rfl rfl (copiedEntries_ok (([] : List Entry) ++ [e]) hll hkk _) ?_
      rintro r τ ⟨hg, hh⟩
      cases hh with
      | c hh =>
      repeat' first|refine yaG ?_|(exfalso;omega)|(refine yaS ?_ ?_<;>intro _)
      refine .call _ rfl rfl rfl (sorted_new h0 hn0 hll hll1 (σ := σ) ⟨(Gr.start σ).trans hg, .c hh⟩) ?_
      rintro r τ' ⟨rfl, q, p1, p2, hn⟩
      obtain ⟨f1, f2⟩ := fin q p1 p2 _ _ hn
      repeat' first|refine yaG ?_|(exfalso;omega)|(refine yaS ?_ ?_<;>intro _)
      refine Go.lcall rfl rfl rfl (areEntries_ok q (hqk q p1).1 (hqk q p1).2) (.bool _) (.own (HasV.lend hn.2) .nil) ?_
      cases h2 : okEnts q
      · repeat' first|refine yaG ?_|(exfalso;omega)|(refine yaS ?_ ?_<;>intro _)
        exact .ret rfl (f2 h2)
      · repeat' first|refine yaG ?_|(exfalso;omega)|(refine yaS ?_ ?_<;>intro _)
        exact .ret rfl (f1 h2)
  · have hpos : 0 < l.length := List.length_pos_iff.2 hemp
    by_cases hkl : l[0].key.length = e.key.length
    · obtain ⟨_, n0, hn⟩ := okEnts_sorted h1
      have h0 : ∀ q ∈ l ++ [e], q.key.length = n0 := fun q hq => by
        rcases List.mem_append.1 hq with h | h
        · exact hn q h
        · rw [List.mem_singleton.1 h, ← hkl]; exact hn _ (List.getElem_mem _)
      have hn0 : n0 ≤ 34359738368 := by rw [← h0 e (by simp)]; exact he
      repeat' first|apply Go.seq|apply Go.skip|apply Go.region|apply Go.nil|apply Go.block|apply Go.blk|apply Go.segs|(apply Go.exit;exact rfl)|(apply Go.cond true;exact rfl)|(apply Go.cond false;exact rfl)|apply yB|apply yC|((first|apply yD|apply yE);(first|exact yF|assumption);iterate 6 exact rfl)|((first|apply yG|apply yH|apply yI);exact rfl;(first|exact yJ|exact yK rfl rfl|exact yL rfl|exact yM rfl|exact rfl|exact aL rfl rfl rfl rfl rfl|exact aS rfl rfl rfl rfl rfl rfl rfl))|((first|apply yN|apply yO|apply yP);exact rfl)|(exfalso;omega)|(((first|apply yT|apply yU|apply yV|apply yW);exact rfl;(first|exact .d|exact .e|exact .n|((fail_if_success exact bqt);(fail_if_success exact bqf);exact .b)))<;>intro _)
      apply Go.draw
      repeat' first|apply Go.seq|apply Go.skip|apply Go.region|apply Go.nil|apply Go.block|apply Go.blk|apply Go.segs|(apply Go.exit;exact rfl)|(apply Go.cond true;exact rfl)|(apply Go.cond false;exact rfl)|apply yB|apply yC|((first|apply yD|apply yE);(first|exact yF|assumption);iterate 6 exact rfl)|((first|apply yG|apply yH|apply yI);exact rfl;(first|exact yJ|exact yK rfl rfl|exact yL rfl|exact yM rfl|exact rfl|exact aL rfl rfl rfl rfl rfl|exact aS rfl rfl rfl rfl rfl rfl rfl|exact yX (enc := encE) (n := 0) rfl rfl rfl hpos rfl))|((first|apply yN|apply yO|apply yP);exact rfl)|((first|apply yQ|apply yR|apply yS);(iterate 3 exact rfl);exact c1)|(exfalso;omega)|(((first|apply yT|apply yU|apply yV|apply yW);exact rfl;(first|exact .d|exact .e|exact .n|((fail_if_success exact bqt);(fail_if_success exact bqf);exact .b)))<;>intro _)
      all_goals first
        | (exfalso; omega)
        | skip
      apply Go.draw
      repeat' first|(apply yA;exact rfl)|(apply Go.qd)|apply Qc.nil|(apply Qc.op;exact rfl;(first|exact fun _ => rfl|exact fun _ => yM rfl))|(apply Qc.no;exact rfl)|((first|apply yD|apply yE);(first|exact yF|assumption);iterate 6 exact rfl)|((first|apply yG|apply yH);exact rfl;(first|exact yJ|exact yK rfl rfl|exact yL rfl|exact yM rfl|exact rfl|exact aL rfl rfl rfl rfl rfl|exact aS rfl rfl rfl rfl rfl rfl rfl))|((first|apply yN|apply yO);exact rfl)|(exfalso;omega)|(((first|apply yT|apply yU|apply yV|apply yW);exact rfl;(first|exact .d|exact .e|exact .n|((fail_if_success exact bqt);(fail_if_success exact bqf);exact .b)))<;>intro _)
      refine Qc.call _ rfl rfl rfl (clone_ok mixed c_slices_Clone_Entry_ok (l.map encE) encE_len (by simp; omega) _) ?_
      intro r τ hr
      obtain ⟨v, junk, hj, rfl, rfl⟩ := hr.made (by intro h; simp at h; exact hemp h)
      rw [E_E]
      repeat' first|(apply yA;exact rfl)|(apply Go.qd)|apply Qc.nil|(apply Qc.op;exact rfl;(first|exact fun _ => rfl|exact fun _ => yM rfl))|(apply Qc.no;exact rfl)|((first|apply yD|apply yE);(first|exact yF|assumption);iterate 6 exact rfl)|((first|apply yG|apply yH);exact rfl;(first|exact yJ|exact yK rfl rfl|exact yL rfl|exact yM rfl|exact rfl|exact aL rfl rfl rfl rfl rfl|exact aS rfl rfl rfl rfl rfl rfl rfl))|((first|apply yN|apply yO);exact rfl)|(exfalso;omega)|(((first|apply yT|apply yU|apply yV|apply yW);exact rfl;(first|exact .d|exact .e|exact .n|((fail_if_success exact bqt);(fail_if_success exact bqf);exact .b)))<;>intro _)
      refine Go.sapp1 (k := 0) (z := encE e) rfl rfl rfl rfl rfl encE_len hj rfl (by simp; omega) fun v' junk' hj' => ?_
      rw [e1]
      refine Go.freeze hS (fr' := [(30, .c (.fz ((l ++ [e]).map encE)))]) (.frz rfl (.c (frz_vec (σ := σ) (k := 0) (by rw [← e1]; rfl) old_maps)) .nil) ?_
      refine .scall _ rfl rfl rfl (copiedEntries_ok (l ++ [e]) hll hkk _) ?_
      rintro r τ ⟨hg, hh⟩
      cases hh with
      | c hh =>
      repeat' first|refine yaG ?_|(exfalso;omega)|(refine yaS ?_ ?_<;>intro _)
      refine .call _ rfl rfl rfl (sorted_new h0 hn0 hll hll1 (σ := σ) ⟨(Gr.start σ).trans hg, .c hh⟩) ?_
      rintro r τ' ⟨rfl, q, p1, p2, hn⟩
      obtain ⟨f1, f2⟩ := fin q p1 p2 _ _ hn
      repeat' first|refine yaG ?_|(exfalso;omega)|(refine yaS ?_ ?_<;>intro _)
      refine Go.lcall rfl rfl rfl (areEntries_ok q (hqk q p1).1 (hqk q p1).2) (.bool _) (.own (HasV.lend hn.2) .nil) ?_
      cases h2 : okEnts q
      · repeat' first|refine yaG ?_|(exfalso;omega)|(refine yaS ?_ ?_<;>intro _)
        exact .ret rfl (f2 h2)
      · repeat' first|refine yaG ?_|(exfalso;omega)|(refine yaS ?_ ?_<;>intro _)
        exact .ret rfl (f1 h2)
    · have hno := put_len (e := e) hpos hkl
      rw [hno]
      repeat' first|refine yaG ?_|((first|apply yG|apply yH|apply yI);exact rfl;(first|exact yX (enc := encE) (n := 0) rfl rfl rfl hpos rfl))|refine yaC (c1) ?_|(exfalso;omega)|(refine yaS ?_ ?_<;>intro _)
      all_goals first
        | (exfalso; omega)
        | exact .ret rfl (newPairE ⟨.start σ, .c .nil⟩)
        | (exfalso; simp_all; omega)
end Go.Proofs.YtdgnfdljkghpjaaGreat.Am

/- The reader that draws: arguments of IndexPut and IndexDrop; entries held against each other. -/
set_option linter.unusedVariables false
set_option linter.unusedSimpArgs false
namespace Go.Proofs.YtdgnfdljkghpjaaGreat.Am

theorem sameValsE_ok (xs ys : List Val) (hx : xs.length ≤ 34359738368) : Pure Tryz.prog 38 [.c (.fz (xs.map encV)), .c (.fz (ys.map encV))] (.c (.bool (xs == ys))) := by
  refine Pure.run mixed c_laws_sameVals_ok (Nat.le_of_ble_eq_true rfl) fun σ hS hA => ?_
  clear hS hA
  repeat' first|refine yaG ?_|(exfalso;omega)|(refine yaS ?_ ?_<;>intro _)
  · refine .ret rfl (.bool ?_)
    rw [eq_comm, beq_eq_false_iff_ne]
    rintro rfl
    simp at *
  refine Go.keep [0, 1, 5] (Go.loops (I := fun m fr τ => ∃ i : Nat, ∃ n : Int, m = xs.length - i ∧ i ≤ xs.length ∧ n = i ∧ (xs.length = ys.length ∧ (xs == ys) = (xs.drop i == ys.drop i)) ∧
    fr = [(0, .c (.fz (xs.map encV))), (1, .c (.fz (ys.map encV))), (5, .c (.int .i64 n))] ∧ τ = E σ []) ?_ _ _ _ ⟨0, _, rfl, Nat.zero_le _, rfl, ⟨by omega, rfl⟩, rfl, rfl⟩)
  rintro m fr τ ⟨i, n, rfl, hi, hn, ⟨hl, hsl⟩, rfl, rfl⟩ hrec
  by_cases hlt : i < xs.length
  · have hlt2 : i < ys.length := by omega
    have hst := sameVals_step hlt hlt2
    repeat' first|refine yaG ?_|((first|apply yG|apply yH|apply yI);exact rfl;(first|exact yX (enc := encV) rfl rfl hn hlt rfl|exact yX (enc := encV) rfl rfl hn hlt2 rfl))|(exfalso;omega)|(refine yaS ?_ ?_<;>intro _)
    · refine .ret rfl (.bool ?_)
      rw [hsl, hst]
      clear hrec
      simp_all
      intros
      simp_all
    · refine Go.keep [0, 1, 5] (hrec _ _ _ (by omega) ⟨i + 1, _, rfl, hlt, wrap_succ hn (by omega), ⟨hl, ?_⟩, rfl, rfl⟩)
      rw [hsl, hst]
      clear hrec
      simp_all
  · repeat' first|refine yaG ?_|(exfalso;omega)|(refine yaS ?_ ?_<;>intro _)
    refine .ret rfl (.bool ?_)
    rw [hsl, List.drop_eq_nil_of_le (by omega), List.drop_eq_nil_of_le (by omega)]
    rfl
theorem sameEntries_ok (a : List Entry) (ha : a.length ≤ 34359738368) (hv : ∀ x ∈ a, x.key.length ≤ 34359738368) : Pure Tryz.prog 15 [.c (.fz (a.map encE)), .c (.fz (a.map encE))] (.c (.bool true)) := by
  refine Pure.run mixed c_laws_sameEntries_ok (Nat.le_of_ble_eq_true rfl) fun σ hS hA => ?_
  clear hS hA
  repeat' first|refine yaG ?_|(exfalso;omega)|(refine yaS ?_ ?_<;>intro _)
  refine Go.keep [0, 1, 5] (Go.loops (I := fun m fr τ => ∃ (i : Nat) (k : Int), m = a.length - i ∧ i ≤ a.length ∧ k = i ∧
    fr = [(0, .c (.fz (a.map encE))), (1, .c (.fz (a.map encE))), (5, .c (.int .i64 k))] ∧ τ = E σ []) ?_ _ _ _ ⟨0, _, rfl, Nat.zero_le _, rfl, rfl, rfl⟩)
  rintro m fr τ ⟨i, k, rfl, hi, hk, rfl, rfl⟩ hrec
  by_cases hlt : i < a.length
  · have c1 := sameValsE_ok a[i].key a[i].key (hv _ (List.getElem_mem hlt))
    rw [beq_self_eq_true] at c1
    repeat' first|refine yaG ?_|((first|apply yG|apply yH|apply yI);exact rfl;(first|exact yX (enc := encE) rfl rfl hk hlt rfl))|refine yaC (c1) ?_|(exfalso;omega)|(refine yaS ?_ ?_<;>intro _)
    exact Go.keep [0, 1, 5] (hrec _ _ _ (by omega) ⟨i + 1, _, rfl, hlt, wrap_succ hk (by omega), rfl, rfl⟩)
  · repeat' first|refine yaG ?_|(exfalso;omega)|(refine yaS ?_ ?_<;>intro _)
    exact .ret rfl (.bool rfl)
theorem retv_tm {fr : Fr} {σ : Store} {l : List (Nat × List (List Ce))} {t0 t1 k1 v1 i1 j1 s1 : Nat} {g1 : Bool} {es1 : List (List Ce)} {e1 : List Ce} {x0 x1 : AV} (h0 : look fr t0 = some x0)
    (hp1 : look fr t1 = some (.c (.ptr (σ.next + k1) v1 i1 j1))) (hl1 : l[k1]? = some (v1, es1)) (he1 : es1[i1]? = some e1) (hj1 : j1 ≤ e1.length) (hx1 : takeA g1 s1 (e1.drop j1) = some x1) :
    retv fr (E σ l) [.t t0, .m t1 g1 s1] = some (.tup [x0, x1]) := by
  simp [retv, revs, RV.ev, h0, hp1, Store.at_, E_at, hl1, he1, hj1, hx1]
theorem frz_key {σ : Store} {l : List (Nat × List (List Ce))} {k v : Nat} {w : Val} {n : Int} (hl : l[k]? = some (v, [encV w])) : FrzV (E σ l) σ.next (.agg [.sl (σ.next + k) v 0 1 1, .int .i64 n]) (.agg (encE ⟨[w], n⟩)) := by
  refine .agg rfl fun j hj => ?_
  match j, hj with
  | 0, _ =>
    have h := frz_oldQ (σ := σ) (l := l) (k := k) (v := v) (N := σ.next) (ys := [encV w]) (junk := []) hl (fun e he x hx => by rw [List.mem_singleton.1 he] at hx; exact (encV_flat w x hx).old _) (Nat.le_add_right _ _)
    cases h with
    | c h => exact h
  | 1, _ => exact .same _ (.int _ _)
/-- Drawn entries, and one more. -/
def DrawE (r : AV) : Prop := ∃ (l : List Entry) (e : Entry), l.length ≤ 60 ∧ (∀ e ∈ l, e.key.length = 1) ∧ e.key.length = 1 ∧ r = .tup [.c (.fz (l.map encE)), .agg (encE e)]
theorem DrawIndexPut_ok (code : List UInt8) (hc : code.length ≤ 1048576) : Told Tryz.prog 9 [.c (.fz (code.map encB))] DrawE := by
  refine Told.run mixed c_spec_DrawIndexPut_ok (Nat.le_of_ble_eq_true rfl) fun σ hS => ?_
  clear hS
  repeat' first|refine yaN ?_|(exfalso;omega)|(refine yaS ?_ ?_<;>intro _)
  refine .call _ rfl rfl rfl (l1Open_ok code (E σ [(0, [[.nils, .int .i64 0]])])) ?_
  rintro r τ ⟨rfl, rfl⟩
  rw [rd_opened hc]
  have hr := rd_open (σ := E σ [(0, [[.nils, .int .i64 0]])]) hc
  repeat' first|refine yaN ?_|(exfalso;omega)|(refine yaS ?_ ?_<;>intro _)
  refine Go.drawn hr (Nat.zero_le _) rfl rfl rfl entries_ok ?_
  rintro _ q hq ⟨l, hl, hk, rfl⟩
  repeat' first|refine yaN ?_|(exfalso;omega)|(refine yaS ?_ ?_<;>intro _)
  refine Go.drawn hr hq rfl rfl rfl val_ok ?_
  rintro _ q2 hq2 ⟨w, _, rfl⟩
  repeat' first|refine yaN ?_|(exfalso;omega)|(refine yaS ?_ ?_<;>intro _)
  refine Go.drawn hr hq2 rfl rfl rfl (below_ok 9 (by decide) (by decide)) ?_
  rintro _ q3 hq3 ⟨a, _, _, rfl⟩
  repeat' first|refine yaN ?_|(exfalso;omega)|(refine yaS ?_ ?_<;>intro _)
  refine Go.meet (K' := [_, _]) (fun fr τ => ∃ (q : Nat) (n : Int), q ≤ code.length ∧ fr = [(3, .c (.ptr (σ.next + 0) 0 0 0)), (4, .c (.ptr ((E σ [(0, [[.nils, .int .i64 0]])]).next + 0) 0 0 0)), (5, .c (.fz (l.map encE))), (6, .c (.ptr (σ.next + 3) 0 0 0))] ∧
    τ = E (Rd.go (E (E σ [(0, [[.nils, .int .i64 0]])]) [(0, rdB code 0)]) ((E σ [(0, [[.nils, .int .i64 0]])]).next + 0) 0 code q) [(0, [encV w]), (0, [[.sl (σ.next + 2) 0 0 1 1, .int .i64 n]])]) (fun K hm => ?_) ?_
  · refine Go.drawn hr hq3 rfl rfl rfl (once_ok 12 (by decide) (by decide)) ?_
    rintro _ q4 hq4 ⟨b3, rfl⟩
    cases b3
    · repeat' first|refine yaN ?_|(exfalso;omega)|(refine yaS ?_ ?_<;>intro _)
      exact Go.keep [3, 4, 5, 6] (hm _ _ ⟨q4, _, hq4, rfl, rfl⟩)
    · repeat' first|refine yaN ?_|(exfalso;omega)|(refine yaS ?_ ?_<;>intro _)
      refine Go.drawn hr hq4 rfl rfl rfl (off_ok 1 9 (by decide) (by decide) (by decide) (by decide)) ?_
      rintro _ q5 hq5 ⟨n, rfl⟩
      repeat' first|refine yaN ?_|(exfalso;omega)|(refine yaS ?_ ?_<;>intro _)
      exact Go.keep [3, 4, 5, 6] (hm _ _ ⟨q5, n, hq5, rfl, rfl⟩)
  clear hq hq2 hq3
  rintro fr τ ⟨q, n, hq, rfl, rfl⟩
  have flat : ∀ q, E (Rd.go (E (E σ [(0, [[.nils, .int .i64 0]])]) [(0, rdB code 0)]) ((E σ [(0, [[.nils, .int .i64 0]])]).next + 0) 0 code q) [(0, [encV w]), (0, [[.sl (σ.next + 2) 0 0 1 1, .int .i64 n]])] = E σ [(0, [[.nils, .int .i64 0]]), (0, rdB code q), (0, [encV w]), (0, [[.sl (σ.next + 2) 0 0 1 1, .int .i64 n]])] := fun q => by
    rw [rd_close2, E_E]
    rfl
  have fin : ∀ (q : Nat) (fr : Fr), look fr 2 = some (.c (.fz (l.map encE))) → look fr 3 = some (.c (.ptr (σ.next + 0) 0 0 0)) → ∀ K, Go Tryz.prog σ.next c_spec_DrawIndexPut.nt c_spec_DrawIndexPut.rets (fun r τ => ∃ y, DrawE y ∧ Fin σ y r τ) (.code .ret :: K) fr (E σ [(0, [[.sl (σ.next + 2) 0 0 1 1, .int .i64 n]]), (0, rdB code q), (0, [encV w]), (0, [[.sl (σ.next + 2) 0 0 1 1, .int .i64 n]])]) := fun q fr h2 h3 K => by
    refine .ret (retv_tm (k1 := 0) h2 h3 rfl rfl (Nat.zero_le _) rfl) ⟨_, ⟨l, ⟨[w], n⟩, hl, hk, rfl, rfl⟩, _, rfl, .tup rfl fun i hi => ?_⟩
    match i, hi with
    | 0, _ => exact .c (.same _ (old_fz1 (oldEnts _)))
    | 1, _ => exact frz_key (k := 2) rfl
  cases l with
  | nil =>
    rw [flat]
    repeat' first|refine yaN ?_|(exfalso;omega)|(refine yaS ?_ ?_<;>intro _)
    exact fin q _ rfl rfl _
  | cons e0 l =>
    have hlen : (0 : Int) < ((e0 :: l).length : Int) := by rw [List.length_cons]; omega
    repeat' first|refine yaN ?_|(exfalso;omega)|(refine yaS ?_ ?_<;>intro _)
    refine Go.drawn hr hq rfl rfl rfl (once_ok 6 (by decide) (by decide)) ?_
    rintro _ q4 hq4 ⟨b3, rfl⟩
    rw [flat]
    cases b3
    · repeat' first|refine yaN ?_|(exfalso;omega)|(refine yaS ?_ ?_<;>intro _)
      exact fin q4 _ rfl rfl _
    · have hz0 : (0 : Int) = ((0 : Nat) : Int) := rfl
      have h0 : 0 < (e0 :: l).length := by simp
      repeat' first|refine yaN ?_|((first|apply yG|apply yH|apply yI);exact rfl;(first|exact yX (enc := encE) rfl rfl hz0 h0 rfl))|(exfalso;omega)|(refine yaS ?_ ?_<;>intro _)
      refine .ret (retv_tm (k1 := 0) rfl rfl rfl rfl (Nat.zero_le _) rfl) ⟨_, ⟨e0 :: l, e0, hl, hk, hk e0 (by simp), rfl⟩, _, rfl, .tup rfl fun i hi => ?_⟩
      match i, hi with
      | 0, _ => exact .c (.same _ (old_fz1 (oldEnts _)))
      | 1, _ => exact .agg rfl fun j hj => .same _ (old_encE _ e0 _ (List.getElem_mem hj))
theorem DrawIndexDrop_ok (code : List UInt8) (hc : code.length ≤ 1048576) : Told Tryz.prog 12 [.c (.fz (code.map encB))] DrawE := by
  refine Told.run mixed c_spec_DrawIndexDrop_ok (Nat.le_of_ble_eq_true rfl) fun σ hS => ?_
  clear hS
  repeat' first|refine yaN ?_|(exfalso;omega)|(refine yaS ?_ ?_<;>intro _)
  refine .call _ rfl rfl rfl (l1Open_ok code (E σ [(0, [[.nils, .int .i64 0]])])) ?_
  rintro r τ ⟨rfl, rfl⟩
  rw [rd_opened hc]
  have hr := rd_open (σ := E σ [(0, [[.nils, .int .i64 0]])]) hc
  repeat' first|refine yaN ?_|(exfalso;omega)|(refine yaS ?_ ?_<;>intro _)
  refine Go.drawn hr (Nat.zero_le _) rfl rfl rfl entries_ok ?_
  rintro _ q hq ⟨l, hl, hk, rfl⟩
  have flat : ∀ q, E (Rd.go (E (E σ [(0, [[.nils, .int .i64 0]])]) [(0, rdB code 0)]) ((E σ [(0, [[.nils, .int .i64 0]])]).next + 0) 0 code q) [] = E σ [(0, [[.nils, .int .i64 0]]), (0, rdB code q)] := fun q => by
    rw [rd_close2, E_E]
    rfl
  cases l with
  | nil =>
    repeat' first|refine yaN ?_|(exfalso;omega)|(refine yaS ?_ ?_<;>intro _)
    refine Go.drawn hr hq rfl rfl rfl val_ok ?_
    rintro _ q3 hq3 ⟨w, _, rfl⟩
    rw [flat]
    repeat' first|refine yaN ?_|(exfalso;omega)|(refine yaS ?_ ?_<;>intro _)
    refine .ret (retv_tm (k1 := 0) rfl rfl rfl rfl (Nat.zero_le _) rfl) ⟨_, ⟨[], ⟨[w], 1⟩, hl, hk, rfl, rfl⟩, _, rfl, .tup rfl fun i hi => ?_⟩
    match i, hi with
    | 0, _ => exact .c (.same _ (old_fz1 (oldEnts _)))
    | 1, _ => exact frz_key (k := 2) rfl
  | cons e0 l =>
    have hlen : (0 : Int) < ((e0 :: l).length : Int) := by rw [List.length_cons]; omega
    repeat' first|refine yaN ?_|(exfalso;omega)|(refine yaS ?_ ?_<;>intro _)
    refine Go.drawn hr hq rfl rfl rfl (once_ok 4 (by decide) (by decide)) ?_
    rintro _ q2 hq2 ⟨b3, rfl⟩
    cases b3
    · repeat' first|apply Go.seq|apply Go.skip|apply Go.region|apply Go.nil|apply Go.block|apply Go.blk|apply Go.segs|(apply Go.exit;exact rfl)|(apply Go.cond true;exact rfl)|(apply Go.cond false;exact rfl)|apply yB|apply yC|((first|apply yG|apply yH|apply yI);exact rfl;(first|exact yJ|exact yK rfl rfl|exact yL rfl|exact yM rfl|exact rfl|exact aL rfl rfl rfl rfl rfl|exact aS rfl rfl rfl rfl rfl rfl rfl))|((first|apply yN|apply yO|apply yP);exact rfl)|(exfalso;omega)|(((first|apply yT|apply yU|apply yV|apply yW);exact rfl;(first|exact .d|exact .e|exact .n|((fail_if_success exact bqt);(fail_if_success exact bqf);exact .b)))<;>intro _)
      apply Go.draw
      refine Go.qr [] rfl ?_
      repeat' first|(apply Qx.op;exact rfl;(first|exact fun _ _ _ => rfl|exact fun _ _ _ => yM rfl))
      have hml : ((e0 :: l).map encE).length = (e0 :: l).length := List.length_map _
      refine Qx.drawn hr hq2 rfl rfl rfl (below_ok (((e0 :: l).map encE).length : Int) (by omega) (by omega)) ?_
      rintro _ q3 hq3 ⟨a, ha1, ha2, rfl⟩
      have han : a = (a.toNat : Int) := by omega
      have hlt : a.toNat < (e0 :: l).length := by omega
      repeat' first|(apply Qx.op;exact rfl;(first|exact fun _ _ _ => rfl|exact fun _ _ _ => yX (enc := encE) rfl rfl han hlt rfl))
      refine .nil ?_
      rw [flat]
      repeat' first|refine yaN ?_|(exfalso;omega)|(refine yaS ?_ ?_<;>intro _)
      refine .ret (retv_tm (k1 := 0) rfl rfl rfl rfl (Nat.zero_le _) rfl) ⟨_, ⟨e0 :: l, (e0 :: l)[a.toNat], hl, hk, hk _ (List.getElem_mem hlt), rfl⟩, _, rfl, .tup rfl fun i hi => ?_⟩
      match i, hi with
      | 0, _ => exact .c (.same _ (old_fz1 (oldEnts _)))
      | 1, _ => exact .agg rfl fun j hj => .same _ (old_encE _ _ _ (List.getElem_mem hj))
    · repeat' first|refine yaN ?_|(exfalso;omega)|(refine yaS ?_ ?_<;>intro _)
      refine Go.drawn hr hq2 rfl rfl rfl val_ok ?_
      rintro _ q3 hq3 ⟨w, _, rfl⟩
      rw [flat]
      repeat' first|refine yaN ?_|(exfalso;omega)|(refine yaS ?_ ?_<;>intro _)
      refine .ret (retv_tm (k1 := 0) rfl rfl rfl rfl (Nat.zero_le _) rfl) ⟨_, ⟨e0 :: l, ⟨[w], 1⟩, hl, hk, rfl, rfl⟩, _, rfl, .tup rfl fun i hi => ?_⟩
      match i, hi with
      | 0, _ => exact .c (.same _ (old_fz1 (oldEnts _)))
      | 1, _ => exact frz_key (k := 2) rfl
end Go.Proofs.YtdgnfdljkghpjaaGreat.Am

/- An entry put in and left out: plain laws. -/
set_option linter.unusedVariables false
set_option linter.unusedSimpArgs false
namespace Go.Proofs.YtdgnfdljkghpjaaGreat.Am

def okBase (n0 : Nat) (e : Entry) : Bool := decide (0 < e.key.length) && decide (e.key.length = n0) && areVals e.key 16 && isIn e.id 1 1000000000
theorem okRest_base {n0 : Nat} : ∀ {l : List Entry} {p : Option Entry}, okRest n0 p l = true → ∀ e ∈ l, okBase n0 e = true
  | [], _, _, e, he => by cases he
  | a :: r, p, h, e, he => by
    rw [okRest_cons, Bool.and_eq_true] at h
    rcases List.mem_cons.1 he with rfl | he
    · have h1 := h.1
      rw [okOne, Bool.and_eq_true] at h1
      exact h1.1
    · exact okRest_base h.2 e he
theorem okRest_of {n0 : Nat} : ∀ {l : List Entry} {p : Option Entry}, (∀ e ∈ l, okBase n0 e = true) → l.Pairwise (fun x y => entOrd x y < 0) → (∀ e ∈ l, risen p e = true) → okRest n0 p l = true
  | [], p, _, _, _ => by cases p <;> rfl
  | a :: r, p, h1, h2, h3 => by
    rw [List.pairwise_cons] at h2
    rw [okRest_cons, okOne, Bool.and_eq_true, Bool.and_eq_true]
    refine ⟨⟨h1 a (by simp), h3 a (by simp)⟩, okRest_of (fun e he => h1 e (by simp [he])) h2.2 fun e he => ?_⟩
    simp only [risen, decide_eq_true_eq]
    exact h2.1 e he
theorem okEnts_part {l d : List Entry} (h : okEnts l = true) (hd : d.Sublist l) : okEnts d = true := by
  obtain ⟨hs, _⟩ := okEnts_sorted h
  simp only [okEnts, Bool.and_eq_true, decide_eq_true_eq] at h ⊢
  obtain ⟨h1, h2⟩ := h
  have hb := okRest_base h1
  generalize (match l with | [] => 0 | e :: _ => e.key.length) = n0 at hb
  have hlen := hd.length_le
  refine ⟨?_, by omega⟩
  cases d with
  | nil => rfl
  | cons a r =>
    have ha := hb a (hd.subset (by simp))
    simp only [okBase, Bool.and_eq_true, decide_eq_true_eq] at ha
    show okRest a.key.length none (a :: r) = true
    rw [ha.1.1.2]
    exact okRest_of (fun e he => hb e (hd.subset he)) (List.Pairwise.sublist hd hs) fun e _ => rfl
theorem without_sub (l : List Entry) (e : Entry) : (without l e).Sublist l := List.filter_sublist
theorem without_not {l : List Entry} {e : Entry} (h : e ∉ l) : without l e = l := List.filter_eq_self.2 fun x hx => by
  simp only [Bool.not_eq_true', beq_eq_false_iff_ne]
  rintro rfl
  exact h hx
theorem without_perm {l : List Entry} {e : Entry} (hn : l.Nodup) (he : e ∈ l) : l.Perm (without l e ++ [e]) := by
  obtain ⟨s, t, rfl⟩ := List.append_of_mem he
  rw [List.nodup_append] at hn
  obtain ⟨_, h2, h3⟩ := hn
  rw [List.nodup_cons] at h2
  have hs : e ∉ s := fun h => h3 e h e (by simp) rfl
  have e1 : without (s ++ e :: t) e = s ++ t := by
    have q1 := without_not hs
    have q2 := without_not h2.1
    rw [without] at q1 q2 ⊢
    rw [List.filter_append, List.filter_cons, q1, q2]
    simp
  rw [e1]
  exact List.perm_middle.trans (List.perm_append_singleton e (s ++ t)).symm
theorem drop_put {m : List Entry} {x : Entry} (h : (dropF m x).2 = true) : PutF (dropF m x).1 x = (m, true) := by
  rw [dropF] at h ⊢
  split at h
  · rename_i hc
    rw [if_pos hc]
    simp only [Bool.and_eq_true, decide_eq_true_eq] at hc
    obtain ⟨h1, h2⟩ := hc
    have hx : x ∈ m := Classical.byContradiction fun hn => h2 (by rw [without_not hn])
    have hd := okEnts_part h1 (without_sub m x)
    obtain ⟨hs, _⟩ := okEnts_sorted h1
    obtain ⟨k1, k2⟩ := put_sorted (without_perm (okEnts_nodup h1) hx) (hs.imp fun h => .inl h) hd
    have k3 := k2 h1
    show PutF (without m x) x = (m, true)
    rw [PutF, hd, ← k1, h1, ← k3]
    rfl
  · cases h
theorem put_drop {l : List Entry} {e : Entry} (h : (PutF l e).2 = true) : dropF (PutF l e).1 e = (l, true) := by
  rw [PutF] at h ⊢
  split at h
  · rename_i hc
    rw [if_pos hc]
    simp only [Bool.and_eq_true] at hc
    obtain ⟨h1, h2⟩ := hc
    have hp := putF_perm e l
    have hn := (hp.nodup_iff.1 (okEnts_nodup h2))
    have he : e ∉ l := fun hm => by
      rw [List.nodup_append] at hn
      exact hn.2.2 e hm e (by simp) rfl
    have e1 : without (putF e l) e = l := by
      have q1 : without (l.take (putPos e l)) e = l.take (putPos e l) := without_not fun h => he (List.mem_of_mem_take h)
      have q2 : without (l.drop (putPos e l)) e = l.drop (putPos e l) := without_not fun h => he (List.mem_of_mem_drop h)
      rw [without] at q1 q2 ⊢
      rw [putF, List.filter_append, List.filter_cons, q1, q2]
      simp
    have hl : (putF e l).length = l.length + 1 := by rw [hp.length_eq]; simp
    show dropF (putF e l) e = (l, true)
    rw [dropF, h2, e1, if_pos (by simp; omega)]
  · cases h
end Go.Proofs.YtdgnfdljkghpjaaGreat.Am

/- What the rows say of a text of bytes. -/
set_option linter.unusedVariables false
set_option linter.unusedSimpArgs false
namespace Go.Proofs.YtdgnfdljkghpjaaGreat.Am
open Go.RowKit Go.ChangeShapes Go.WideShapes

section
variable {H : Type} {enc : TypeId × Value → H} {W : World}
theorem Opens.isoG {P : Program} {t : TypeId} {α β : Type} {e : β → List Ce} {good : β → Prop} (h : Opens enc P W t e good) (g : β → α) {e' : α → List Ce} {good' : α → Prop} (he : ∀ b, good b → e' (g b) = e b) (hg : ∀ b, good b → good' (g b)) : Opens enc P W t e' good' := by
  constructor
  intro fuel cs x h1 h2
  obtain ⟨a, h3, hl, h4⟩ := h.op fuel cs x h1 h2
  refine ⟨g a, hg a h3, by rw [he a h3]; exact hl, fun i hi => ?_⟩
  simp only [he a h3]
  exact h4 i (by rw [he a h3] at hi; exact hi)
theorem openB : Opens enc Tryz.prog W 5 encB (fun _ => True) :=
  (Opens.int Tryz.underlying5).isoG (fun n => UInt8.ofNat n.toNat) (fun n hn => by
    have h1 : IntKind.u8.min = 0 := by decide
    have h2 : IntKind.u8.max = 255 := by decide
    simp only [Lit.wf, h1, h2, Bool.and_eq_true, decide_eq_true_eq] at hn
    have h3 : (UInt8.ofNat n.toNat).toNat = n.toNat := UInt8.toNat_ofNat_of_lt' (by show n.toNat < 256; omega)
    simp only [encB, h3, List.cons.injEq, Ce.int.injEq, true_and, and_true]
    omega) fun _ _ => trivial
theorem openBs : Opens enc Tryz.prog W 22 (fun l : List UInt8 => [.fz (l.map encB)]) (fun l => l.length ≤ 140737488351232) :=
  (Opens.slice (s := 1) Tryz.underlying22 openB (by kernel_rfl) (by decide) (fun _ => rfl)).iso id (fun _ => rfl) fun l h => Nat.le_trans (Nat.le_mul_of_pos_right _ (of_decide_eq_true (by kernel_rfl))) h.1
end
end Go.Proofs.YtdgnfdljkghpjaaGreat.Am
