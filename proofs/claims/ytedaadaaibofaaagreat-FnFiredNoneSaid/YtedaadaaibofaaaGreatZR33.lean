/- The statement of the law FnFiredNone: whatever its arguments are, it returns true, leaves what was there as it was, and ends. No condition. -/
import Derived.Test.YtedaadaaibofaaaGreatRows
import Derived.WalkKit
import Derived.ProofKit
import Derived.OpenShut
import Derived.ShutString
import Derived.ChangeOld
import Derived.Below
import Derived.SizedLaws
import Derived.Test.YtedaadaaibofaaaGreatZ1
import Derived.Test.YtedaadaaibofaaaGreatZ2
import Derived.Test.YtedaadaaibofaaaGreatZ3
import Derived.Test.YtedaadaaibofaaaGreatZ4
import Derived.Test.YtedaadaaibofaaaGreatZ5
import Derived.Test.YtedaadaaibofaaaGreatZ6
set_option maxHeartbeats 1000000
set_option linter.unusedVariables false
set_option linter.unusedSimpArgs false
namespace Go.Proofs.YtedaadaaibofaaaGreat.Am
theorem draw_dbC{s:List wc}{db:List Data}(h:dbF s db=true\/db=[]):db.length<=34359738368/\∀d∈db,wc5 34359738368 d:=by
 rcases h with h|rfl
 ·exact⟨by have:=(zi0 h).1;omega,(zi0 h).2.1⟩
 ·exact⟨gx,λd hd=>by cases hd⟩
theorem sameValsD_ok(xs:List Val)(hx:xs.length<=34359738368):Pure Tryz.prog 131 [.c (.fz (xs.map encV)),.c (.fz (xs.map encV))] (.c (.bool true)):=by
 refine yaq [] wex λG=>?_;repeat' first|refine X ?_|exact yaF|refine yaS ?_ ?_<;>intro _
 refine Go.keep [0,1,5] (Go.loops (I:=λm fr V=>∃(i:Nat) (n:Int),m=xs.length-i/\i<=xs.length/\n=i/\
  fr=[(0,.c (.fz (xs.map encV))),(1,.c (.fz (xs.map encV))),(5,.c (.int .i64 n))]/\V=E G []) ?_ _ _ _ ⟨0,_,rfl,yac _,rfl,rfl,rfl⟩)
 rintro m fr V ⟨i,n,rfl,hi,hn,rfl,rfl⟩ hrec;by_cases hlt:i<xs.length
 ·repeat' first|refine X ?_|((first|apply yG|apply yH|apply yI);exact rfl;(first|exact yax encV hn hlt))|exact yaF|refine yaS ?_ ?_<;>intro _
  all_goals first
   |(exfalso;simp_all;done)
   |exact Go.keep [0,1,5] (hrec _ _ _ O ⟨i+1,_,rfl,hlt,wb hn O,rfl,rfl⟩)
 ·repeat' first|refine X ?_|exact yaF|refine yaS ?_ ?_<;>intro _
  exact .ret rfl (.bool rfl)
theorem sameDb_ok(a:List Data)(ha:a.length<=34359738368)(hb:∀d∈a,wc5 34359738368 d):Pure Tryz.prog 47 [.c (.fz (a.map wa)),.c (.fz (a.map wa))] (.c (.bool true)):=by
 refine yaq [] jge λG=>?_;repeat' first|refine X ?_|exact yaF|refine yaS ?_ ?_<;>intro _
 refine Go.keep [0,1,5] (Go.loops (I:=λm fr V=>∃(i:Nat) (k:Int),m=a.length-i/\i<=a.length/\k=i/\
  fr=[(0,.c (.fz (a.map wa))),(1,.c (.fz (a.map wa))),(5,.c (.int .i64 k))]/\V=E G []) ?_ _ _ _ ⟨0,_,rfl,yac _,rfl,rfl,rfl⟩)
 rintro m fr V ⟨i,k,rfl,hi,hk,rfl,rfl⟩ hrec;by_cases hlt:i<a.length
 ·have hB:=hb _ (yaa hlt);repeat' first|refine X ?_|((first|apply yG|apply yH|apply yI);exact rfl;(first|exact yax wa hk hlt))|exact yaF|refine yaS ?_ ?_<;>intro _
  refine Go.keep [0,1,5,6] (Go.loops (I:=λm fr V=>∃(j:Nat) (kj:Int),m=a[i].rows.length-j/\j<=a[i].rows.length/\kj=j/\
   fr=[(0,.c (.fz (a.map wa))),(1,.c (.fz (a.map wa))),(5,.c (.int .i64 k)),(6,.c (.int .i64 kj))]/\V=E G []) ?_ _ _ _ ⟨0,_,rfl,yac _,rfl,rfl,rfl⟩)
  rintro m fr V ⟨j,kj,rfl,hj,hkj,rfl,rfl⟩ hrecj;by_cases hltj:j<a[i].rows.length
  ·have c1:=sameValsD_ok a[i].rows[j].vals (hB.2 _ (yaa hltj)).1;have hB1:=hB.1;repeat' first|refine X ?_|((first|apply yG|apply yH|apply yI);exact rfl;(first|exact yax wa hk hlt|exact yax jc hkj hltj))|refine yaC (c1) ?_|exact yaF|refine yaS ?_ ?_<;>intro _
   exact Go.keep [0,1,5,6] (hrecj _ _ _ O ⟨j+1,_,rfl,hltj,wb hkj O,rfl,rfl⟩)
  ·repeat' first|refine X ?_|((first|apply yG|apply yH|apply yI);exact rfl;(first|exact yax wa hk hlt))|exact yaF|refine yaS ?_ ?_<;>intro _
   exact Go.keep [0,1,5] (hrec _ _ _ O ⟨i+1,_,rfl,hlt,wb hk O,rfl,rfl⟩)
 ·repeat' first|refine X ?_|exact yaF|refine yaS ?_ ?_<;>intro _
  exact .ret rfl (.bool rfl)
theorem FiredNone_sound(code:List UInt8):Pure Tryz.prog 9 [.c (.fz (code.map encB))] (.c (.bool true)):=by
 refine yap [] wdj λG hS hA=>?_;clear hA;have cb:=wlg code;by_cases hc:1048576<(code.length:Int)
 ·rw[decide_eq_true hc]at cb;repeat' first|refine X ?_|refine yaC (cb) ?_|exact yaF|refine yaS ?_ ?_<;>intro _
  exact .ret rfl (.bool rfl)
 rw[decide_eq_false hc]at cb;repeat' first|refine X ?_|refine yaC (cb) ?_|exact yaF|refine yaS ?_ ?_<;>intro _
 refine Go.told rfl rfl rfl (wen code O) ?_;rintro _ ⟨s,ts,db,x,hs,⟨ht1,ht2⟩,hd,hq,rfl⟩;obtain⟨hx,hb⟩:=hs.b;obtain⟨hdl,hdb⟩:=draw_dbC hd;have c1:=NewV.pure (jdu s ts db x hx hb O ht2 hdl hdb hq);have cS:=zgx s ts db x hx hb O ht2 hdl hdb hq;obtain⟨f1,f2,_⟩:=jfx s ts db x hx hb O ht2 hdl hdb hq;have c0:=NewV.pure λG=>Lend.new (.same (.own (.c .nil) (.same (.same .nil)))) (jdu s [] db x hx hb gx (λt ht=>by cases ht) hdl hdb hq) (G:=G);have cE:=NewV.pure (wkl s db x hx hb hdl hdb hq);obtain⟨g1,g2,_⟩:=wju s db x hx hb hdl hdb hq;rw[jko]at c0;generalize ExT s ts db x=M1 at c1 cS f1 f2;generalize ExF s db x=M0 at c0 cE g1 g2;obtain⟨d1,e1,m1⟩:=M1;obtain⟨d0,e0,m0⟩:=M0;simp only at c1 cS f1 f2 c0 cE g1 g2;have cd:=sameDb_ok d1 f1 f2;have cd2:=sameDb_ok d0 g1 g2;clear cb f1 f2 g1 g2;repeat' first|refine yaN ?_|refine yaC (c1) ?_|refine yaC (cS) ?_|refine yaC (cd) ?_|refine yaC (c0) ?_|refine yaC (cE) ?_|refine yaC (cd2) ?_|exact yaF|refine yaS ?_ ?_<;>intro _
 all_goals first
  |contradiction
  |exact .ret rfl (.bool rfl)
  |(refine .ret rfl (.bool ?_);simp;done)
end Go.Proofs.YtedaadaaibofaaaGreat.Am
namespace Go.Proofs.YtedaadaaibofaaaGreat.fnFiredNone
open Go.ChangeShapes Go.WideShapes Go.ChangeAt Go.RowKit Go.Proofs.YtedaadaaibofaaaGreat.Am
open Go.ChangeMaps (open_string shut_string)
theorem own : ownKnob Tryz.prog.godebug = none := by kernel_rfl
theorem laidOut : laidOutB Tryz.prog = true := by kernel_rfl
set_option maxRecDepth 100000 in
theorem lifted (os : Os) (started : os.Started) (H : Type) (enc : TypeId × Value -> H) :
 ReturnsInHanded {} Tryz.checked os 9 .any (Rows.fnFiredNoneSpec.pre6 enc Tryz.prog Tryz.f9 Rows.fnFiredNoneRow.domain false) (Rows.fnFiredNoneSpec.post enc Tryz.prog Tryz.f9 false true false false) := by
 refine returnsInHanded_of_change_sized (C := Tryz.checked) own started (by kernel_rfl) Tryz.func9
  (ChangeSpec.witness6 (enc := enc) (C := Tryz.checked) false ⟨#[], #[.slice none 0 0], []⟩ 8 (by kernel_rfl) (by kernel_rfl) (by kernel_rfl) (by kernel_rfl)) ?_
 intro W base args ds gs before hval0 hW hcnd hsz0 _
 have hval : ∀ (j : Nat) t v, Tryz.f9.params[j]? = some t -> args[j]? = some v -> Value.okWide Tryz.prog W .any base t v := hval0
 have hW' := hW
 obtain ⟨p, q, hA0, hV, rfl, hfz, hnd⟩ := hW
 have hA : DataW.TrodAll enc Tryz.prog W 0 (λ_ => true) true Tryz.f9.params.toList args.toList ds p := hA0
 rw [Tryz.params9] at hA hval
 have hsz : (DataW.weightsEach Tryz.prog (Tryz.f9.params.toList ++ Rows.fnFiredNoneSpec.plain.varTypes Tryz.prog) (ds ++ gs)).all (· <= reachBytes) = true := hsz0
 rw [Tryz.params9] at hsz
 obtain ⟨v0, vs0, d0, ds0, p0, q0, hargs, rfl, rfl, h0, r0⟩ := trodAll_cons hA
 obtain ⟨rfl, rfl, rfl⟩ := trodAll_nil r0
 obtain rfl : args = #[v0] := by cases args; simp_all
 obtain ⟨rfl, rfl⟩ := trodVars_none hV
 obtain ⟨a0, g0, e0⟩ := zbq.c wli (zht Tryz.underlying72 (hval 0 72 v0 rfl rfl)) h0 (λn hn => of_decide_eq_true (List.all_eq_true.1 hsz _ (DataW.weights_mem_each (j := 0) (t := 72) rfl rfl n hn)))
 have k0 := h0
 have lt0 : ∀ x ∈ p0, x.block < W.heap.size := by obtain ⟨m, hm⟩ := k0; exact DataW.trod_lt m _ _ _ hm
 clear hA0 hval0 hsz0 hsz
 refine ((FiredNone_sound a0 ).calls (W := W) ⟨rfl, λi hi => ?_⟩).mono λe W' ⟨he, bel⟩ => ?_
 ·match i, hi with
  | 0, _ => exact e0
 subst he
 exact ⟨_, rfl, _, _, _, [], _, [], hW', trodAll_mk1 (shut_bool Tryz.underlying4 _), (trodAll_cons_mk (Below.trod laidOut (by kernel_rfl) (of_decide_eq_true (by kernel_rfl)) k0 bel lt0) trodAll_mk0), rfl, bel.frame _, λh => by cases h⟩
theorem spl {a b : Bool} (h : (a && b) = true) : a = true /\ b = true := by cases a <;> cases b <;> simp_all
theorem and2 {a b : Bool} (h : a = true) (k : b = true) : (a && b) = true := by rw [h, k]; rfl
theorem facts0 : (Rows.fnFiredNoneRow.wf (OpenSpec.ofChange Rows.fnFiredNoneSpec) && laidOutB Tryz.pinned.checked.prog && mapsRowed Tryz.pinned.checked.prog && Tryz.f9.params.all (Tryz.pinned.checked.prog.readableRec ·) && namedTie Tryz.pinned.checked.prog Rows.fnFiredNoneRow.named Rows.fnFiredNoneSpec.vars && (Rows.fnFiredNoneRow.stops == []) && (Tryz.pinned.checked.prog.stops == []) && (Rows.fnFiredNoneRow.knobs == []) && (Tryz.pinned.checked.prog.stopKnobs == [])) = true := by kernel_rfl
theorem facts1 : ((Rows.fnFiredNoneRow.inPlace == Tryz.pinned.checked.prog.inPlace 9) && (Rows.fnFiredNoneRow.unfollowed == Tryz.pinned.checked.prog.unfollowed 9) && (Rows.fnFiredNoneRow.recurses == Tryz.pinned.checked.prog.recurses 9) && (Rows.fnFiredNoneRow.named == Tryz.pinned.checked.prog.varsNamed 9)) = true := by kernel_rfl
theorem facts2 : ((Rows.fnFiredNoneRow.maps == (Tryz.f9.params.toList ++ Rows.fnFiredNoneSpec.plain.varTypes Tryz.pinned.checked.prog).any (Tryz.pinned.checked.prog.mapsRec ·)) && (Rows.fnFiredNoneRow.ifaces == (Tryz.f9.params.toList ++ Rows.fnFiredNoneSpec.plain.varTypes Tryz.pinned.checked.prog).any (Tryz.pinned.checked.prog.ifacesRec ·)) && (Rows.fnFiredNoneRow.mapsOut == Tryz.pinned.checked.prog.mapsAmong Tryz.f9.resultTypes.toList) && (Rows.fnFiredNoneRow.loops == (Tryz.f9.params.toList ++ Rows.fnFiredNoneSpec.plain.varTypes Tryz.pinned.checked.prog).any (Tryz.pinned.checked.prog.loopsFrom ·)) && (Rows.fnFiredNoneRow.wideKeys == (Tryz.f9.params.toList ++ Rows.fnFiredNoneSpec.plain.varTypes Tryz.pinned.checked.prog ++ Tryz.f9.resultTypes.toList).any (Tryz.pinned.checked.prog.wideKeysFrom ·)) && Rows.fnFiredNoneSpec.vars.all (Tryz.pinned.checked.prog.varReadable ·)) = true := by kernel_rfl
theorem facts3 : (Tryz.f9.resultTypes.all (λt => Tryz.pinned.checked.prog.readableRec t && decide (t < Tryz.pinned.checked.prog.types.size)) && (Rows.fnFiredNoneRow.ifacesOut == Tryz.f9.resultTypes.toList.any (Tryz.pinned.checked.prog.ifacesRec ·)) && (Rows.fnFiredNoneRow.loopsOut == Tryz.f9.resultTypes.toList.any (Tryz.pinned.checked.prog.loopsFrom ·)) && (Rows.fnFiredNoneRow.plainKeys == Tryz.pinned.checked.prog.plainKeys) && Rows.fnFiredNoneRow.shortTexts.isNone && (Tryz.pinned.checked.prog.make == some Rows.fnFiredNoneRow.make) && (Rows.fnFiredNoneRow.kinds == (if Rows.fnFiredNoneRow.domain.isEmpty then [] else Tryz.f9.params.toList.map λt => match Tryz.pinned.checked.prog.underlying t with | some (.int k) => some k | _ => none)) && (Rows.fnFiredNoneRow.pinned == Rows.fnFiredNoneRow.pinnedBy) && (Rows.fnFiredNoneRow.veiled == (Tryz.f9.params.toList ++ Rows.fnFiredNoneSpec.plain.varTypes Tryz.pinned.checked.prog ++ Tryz.f9.resultTypes.toList).any (Tryz.pinned.checked.prog.veiledRec ·)) && Rows.fnFiredNoneRow.veiledFits Tryz.pinned.checked.prog Tryz.f9.params.toList (Tryz.f9.params.toList ++ Rows.fnFiredNoneSpec.plain.varTypes Tryz.pinned.checked.prog ++ Tryz.f9.resultTypes.toList)) = true := by kernel_rfl
theorem facts4 : (Tryz.pinned.checked.prog.stopsHeard && Tryz.pinned.checked.prog.mayEnter && (Rows.fnFiredNoneRow.lifted == Tryz.pinned.checked.prog.liftsFinal)) = true := by kernel_rfl
set_option maxRecDepth 100000 in
theorem closed : joinedFacts Tryz.pinned.checked.prog 9 Tryz.f9 Rows.fnFiredNoneSpec Rows.fnFiredNoneRow = true := by
 have g := facts0
 obtain ⟨g, p8⟩ := spl g
 obtain ⟨g, p7⟩ := spl g
 obtain ⟨g, p6⟩ := spl g
 obtain ⟨g, p5⟩ := spl g
 obtain ⟨g, p4⟩ := spl g
 obtain ⟨g, p3⟩ := spl g
 obtain ⟨g, p2⟩ := spl g
 obtain ⟨g, p1⟩ := spl g
 have p0 := g
 have g := facts1
 obtain ⟨g, p12⟩ := spl g
 obtain ⟨g, p11⟩ := spl g
 obtain ⟨g, p10⟩ := spl g
 have p9 := g
 have g := facts2
 obtain ⟨g, p18⟩ := spl g
 obtain ⟨g, p17⟩ := spl g
 obtain ⟨g, p16⟩ := spl g
 obtain ⟨g, p15⟩ := spl g
 obtain ⟨g, p14⟩ := spl g
 have p13 := g
 have g := facts3
 obtain ⟨g, p31⟩ := spl g
 obtain ⟨g, p30⟩ := spl g
 obtain ⟨g, p29⟩ := spl g
 obtain ⟨g, p28⟩ := spl g
 obtain ⟨g, p27⟩ := spl g
 obtain ⟨g, p23⟩ := spl g
 obtain ⟨g, p22⟩ := spl g
 obtain ⟨g, p21⟩ := spl g
 obtain ⟨g, p20⟩ := spl g
 have p19 := g
 have g := facts4
 obtain ⟨g, p26⟩ := spl g
 obtain ⟨g, p25⟩ := spl g
 have p24 := g
 exact (and2 (and2 (and2 (and2 (and2 (and2 (and2 (and2 (and2 (and2 (and2 (and2 (and2 (and2 (and2 (and2 (and2 (and2 (and2 (and2 (and2 (and2 (and2 (and2 (and2 (and2 (and2 (and2 (and2 (and2 (and2 p0 p1) p2) p3) p4) p5) p6) p7) p8) p9) p10) p11) p12) p13) p14) p15) p16) p17) p18) p19) p20) p21) p22) p23) p24) p25) p26) p27) p28) p29) p30) p31)
theorem over : Rows.fnFiredNoneRow.holds Tryz.pinned (OpenSpec.ofChange Rows.fnFiredNoneSpec) :=
 OpenClaim.holds_of_wide 9 Tryz.f9 rfl rfl rfl rfl rfl rfl rfl ⟨rfl, rfl, rfl, rfl, rfl⟩ rfl rfl rfl rfl rfl (by kernel_rfl) Tryz.func9 closed
  (of_decide_eq_true (by kernel_rfl)) (by unfold Func.isWrapper; first | (rw [if_pos (by decide +kernel)]; kernel_rfl) | (rw [if_neg (by decide +kernel)]; exact ⟨rfl, rfl⟩))
  (λos started H enc _ => lifted os started H enc)
theorem proved : Rows.FnFiredNoneSaid := over
end Go.Proofs.YtedaadaaibofaaaGreat.fnFiredNone
namespace Go.Proofs.YtedaadaaibofaaaGreat
theorem fnFiredNone_holds : Rows.FnFiredNoneSaid := fnFiredNone.proved
#print axioms fnFiredNone_holds
end Go.Proofs.YtedaadaaibofaaaGreat
