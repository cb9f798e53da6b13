/- The statement of the law FnOneByOne: whatever its arguments are, it returns true, leaves what was there as it was, and ends. No condition. -/
import Derived.Test.YtedaadaaibofaaaGreatRows
import Derived.WalkKit
import Derived.ProofKit
import Derived.OpenShut
import Derived.ShutString
import Derived.ChangeOld
import Derived.Below
import Derived.SizedLaws
import Derived.Test.YtedaadaaibofaaaGreatV1
import Derived.Test.YtedaadaaibofaaaGreatV2
import Derived.Test.YtedaadaaibofaaaGreatV3
import Derived.Test.YtedaadaaibofaaaGreatV4
import Derived.Test.YtedaadaaibofaaaGreatV5
import Derived.Test.YtedaadaaibofaaaGreatV6
set_option maxHeartbeats 1000000
set_option linter.unusedVariables false
set_option linter.unusedSimpArgs false
namespace Go.Proofs.YtedaadaaibofaaaGreat.Am
theorem tok12_34{t:Tok}(h:bTok 12 t):bTok 34359738368 t:=yaj h gb
theorem draw_dbC{s:List wc}{db:List Data}(h:dbF s db=true\/db=[]):db.length<=34359738368/\∀d∈db,wcc 34359738368 d:=by
 rcases h with h|rfl
 ·exact⟨by have:=(whk h).1;omega,(whk h).2.1⟩
 ·exact⟨gx,λd hd=>by cases hd⟩
theorem old_intsC{n:Nat}{l:List Int}:∀y∈(AV.c (.fz (l.map encI))).all,Old n y:=λy hy=>by
 rw[List.mem_singleton.1 hy];exact zj (zcy _)
theorem old_tabsC{n:Nat}{l:List wc}:∀y∈(AV.c (.fz (l.map ja))).all,Old n y:=λy hy=>by
 rw[List.mem_singleton.1 hy];exact zj (zdd _)
theorem old_datsC{n:Nat}{l:List Data}:∀y∈(AV.c (.fz (l.map wa))).all,Old n y:=λy hy=>by
 rw[List.mem_singleton.1 hy];exact zj (z7 _)
theorem sameValsD_ok(xs:List Val)(hx:xs.length<=34359738368):Pure Tryz.prog 131 [.c (.fz (xs.map encV)),.c (.fz (xs.map encV))] (.c (.bool true)):=by
 refine yaq [] wei λG=>?_;repeat' first|refine X ?_|exact yaF|refine yaS ?_ ?_<;>intro _
 refine Go.keep [0,1,5] (Go.loops (I:=λm fr V=>∃(i:Nat) (n:Int),m=xs.length-i/\i<=xs.length/\n=i/\
  fr=[(0,.c (.fz (xs.map encV))),(1,.c (.fz (xs.map encV))),(5,.c (.int .i64 n))]/\V=E G []) ?_ _ _ _ ⟨0,_,rfl,yac _,rfl,rfl,rfl⟩)
 rintro m fr V ⟨i,n,rfl,hi,hn,rfl,rfl⟩ hrec;by_cases hlt:i<xs.length
 ·repeat' first|refine X ?_|((first|apply yG|apply yH|apply yI);exact rfl;(first|exact yax encV hn hlt))|exact yaF|refine yaS ?_ ?_<;>intro _
  all_goals first
   |(exfalso;simp_all;done)
   |exact Go.keep [0,1,5] (hrec _ _ _ O ⟨i+1,_,rfl,hlt,jc hn O,rfl,rfl⟩)
 ·repeat' first|refine X ?_|exact yaF|refine yaS ?_ ?_<;>intro _
  exact .ret rfl (.bool rfl)
theorem sameDb_ok(a:List Data)(ha:a.length<=34359738368)(hb:∀d∈a,wcc 34359738368 d):Pure Tryz.prog 47 [.c (.fz (a.map wa)),.c (.fz (a.map wa))] (.c (.bool true)):=by
 refine yaq [] jfv λG=>?_;repeat' first|refine X ?_|exact yaF|refine yaS ?_ ?_<;>intro _
 refine Go.keep [0,1,5] (Go.loops (I:=λm fr V=>∃(i:Nat) (k:Int),m=a.length-i/\i<=a.length/\k=i/\
  fr=[(0,.c (.fz (a.map wa))),(1,.c (.fz (a.map wa))),(5,.c (.int .i64 k))]/\V=E G []) ?_ _ _ _ ⟨0,_,rfl,yac _,rfl,rfl,rfl⟩)
 rintro m fr V ⟨i,k,rfl,hi,hk,rfl,rfl⟩ hrec;by_cases hlt:i<a.length
 ·have hB:=hb _ (yaa hlt);repeat' first|refine X ?_|((first|apply yG|apply yH|apply yI);exact rfl;(first|exact yax wa hk hlt))|exact yaF|refine yaS ?_ ?_<;>intro _
  refine Go.keep [0,1,5,6] (Go.loops (I:=λm fr V=>∃(j:Nat) (kj:Int),m=a[i].rows.length-j/\j<=a[i].rows.length/\kj=j/\
   fr=[(0,.c (.fz (a.map wa))),(1,.c (.fz (a.map wa))),(5,.c (.int .i64 k)),(6,.c (.int .i64 kj))]/\V=E G []) ?_ _ _ _ ⟨0,_,rfl,yac _,rfl,rfl,rfl⟩)
  rintro m fr V ⟨j,kj,rfl,hj,hkj,rfl,rfl⟩ hrecj;by_cases hltj:j<a[i].rows.length
  ·have c1:=sameValsD_ok a[i].rows[j].vals (hB.2 _ (yaa hltj)).1;have hB1:=hB.1;repeat' first|refine X ?_|((first|apply yG|apply yH|apply yI);exact rfl;(first|exact yax wa hk hlt|exact yax wb hkj hltj))|refine yaC (c1) ?_|exact yaF|refine yaS ?_ ?_<;>intro _
   exact Go.keep [0,1,5,6] (hrecj _ _ _ O ⟨j+1,_,rfl,hltj,jc hkj O,rfl,rfl⟩)
  ·repeat' first|refine X ?_|((first|apply yG|apply yH|apply yI);exact rfl;(first|exact yax wa hk hlt))|exact yaF|refine yaS ?_ ?_<;>intro _
   exact Go.keep [0,1,5] (hrec _ _ _ O ⟨i+1,_,rfl,hlt,jc hk O,rfl,rfl⟩)
 ·repeat' first|refine X ?_|exact yaF|refine yaS ?_ ?_<;>intro _
  exact .ret rfl (.bool rfl)
theorem Ignored_sound(code:List UInt8):Pure Tryz.prog 8 [.c (.fz (code.map encB))] (.c (.bool true)):=by
 refine yap [] jdx λG hS hA=>?_;clear hA;have cb:=ji2 code;by_cases hc:1048576<(code.length:Int)
 ·rw[decide_eq_true hc]at cb;repeat' first|refine X ?_|refine yaC (cb) ?_|exact yaF|refine yaS ?_ ?_<;>intro _
  exact .ret rfl (.bool rfl)
 rw[decide_eq_false hc]at cb;repeat' first|refine X ?_|refine yaC (cb) ?_|exact yaF|refine yaS ?_ ?_<;>intro _
 refine Go.told rfl rfl rfl (we4 code O) ?_;rintro _ ⟨s,db,x,hs,hd,hq,rfl⟩;obtain⟨hx,hb⟩:=hs.b;obtain⟨hdl,hdb⟩:=draw_dbC hd;have c2:=NewV.pure (jea s db (polS x 2) hx hb hdl hdb hq);have cS:=jh1 s db (polS x 2) hx hb hdl hdb hq;have c0:=NewV.pure (jea s db (polS x 0) hx hb hdl hdb hq);obtain⟨f1,f2,_⟩:=jg1 s db (polS x 2) hx hb hdl hdb hq;have hl:=zhq (s:=s) (db:=db) (x:=x);generalize ExF s db (polS x 2)=M2 at c2 cS f1 f2 hl;generalize ExF s db (polS x 0)=M0 at c0 hl;obtain⟨d2,e2,m2⟩:=M2;obtain⟨d0,e0,m0⟩:=M0;simp only at c2 cS f1 f2 hl c0;have cd:=sameDb_ok d2 f1 f2;clear cb f1 f2;by_cases h1:e2=1
 ·subst h1;repeat' first|refine yaN ?_|refine yaC (c2) ?_|refine yaC (cS) ?_|refine yaC (cd) ?_|exact yaF|refine yaS ?_ ?_<;>intro _
  all_goals first
   |contradiction
   |exact .ret rfl (.bool rfl)
   |(refine .ret rfl (.bool ?_);simp;done)
 obtain⟨l1,l2⟩:=hl h1;by_cases h0:e0=0
 ·have hp:=l1 h0;injection hp with hp1 hp2;injection hp2 with hp2 hp3;subst hp1 hp2 hp3 h0;repeat' first|refine yaN ?_|refine yaC (c2) ?_|refine yaC (cS) ?_|refine yaC (cd) ?_|refine yaC (c0) ?_|exact yaF|refine yaS ?_ ?_<;>intro _
  all_goals first
   |contradiction
   |exact .ret rfl (.bool rfl)
   |(refine .ret rfl (.bool ?_);simp;done)
 ·repeat' first|refine yaN ?_|refine yaC (c2) ?_|refine yaC (cS) ?_|refine yaC (cd) ?_|refine yaC (c0) ?_|exact yaF|refine yaS ?_ ?_<;>intro _
  all_goals first
   |contradiction
   |(refine .ret rfl (.bool ?_);have:=l2 h0;simp<;>omega)
set_option maxHeartbeats 1000000 in
theorem OneByOne_sound(code:List UInt8):Pure Tryz.prog 7 [.c (.fz (code.map encB))] (.c (.bool true)):=by
 refine yap [] jdi λG hS hA=>?_;clear hA;have cb:=ji2 code;by_cases hc:1048576<(code.length:Int)
 ·rw[decide_eq_true hc]at cb;repeat' first|refine X ?_|refine yaC (cb) ?_|exact yaF|refine yaS ?_ ?_<;>intro _
  exact .ret rfl (.bool rfl)
 rw[decide_eq_false hc]at cb;repeat' first|refine X ?_|refine yaC (cb) ?_|exact yaF|refine yaS ?_ ?_<;>intro _
 refine Go.told rfl rfl rfl (we4 code O) ?_;rintro _ ⟨s,db,x,hs,hd,hq,rfl⟩;obtain⟨hx,hb⟩:=hs.b;obtain⟨hdl,hdb⟩:=draw_dbC hd;have c2:=NewV.pure (jea s db (polS x 1) hx hb hdl hdb hq);have cS:=jh1 s db (polS x 1) hx hb hdl hdb hq;obtain⟨f1,f2,_⟩:=jg1 s db (polS x 1) hx hb hdl hdb hq;have hl:=λE h=>zki (s:=s) hb (db:=db) (x:=x) hq (E:=E) h;generalize hE:ExF s db (polS x 1)=M2 at c2 cS f1 f2;have hl:=hl M2 hE;obtain⟨d2,e2,m2⟩:=M2;simp only at c2 cS f1 f2 hl;have cd:=sameDb_ok d2 f1 f2;clear cb hE;by_cases hbad:¬x.kind=1\/e2=1\/e2=5
 ·rcases hbad with h|h|h
  ·repeat' first|refine yaN ?_|refine yaC (c2) ?_|refine yaC (cS) ?_|refine yaC (cd) ?_|exact yaF|refine yaS ?_ ?_<;>intro _
   all_goals first
    |contradiction
    |exact .ret rfl (.bool rfl)
    |(refine .ret rfl (.bool ?_);simp;done)
  ·subst h;repeat' first|refine yaN ?_|refine yaC (c2) ?_|refine yaC (cS) ?_|refine yaC (cd) ?_|exact yaF|refine yaS ?_ ?_<;>intro _
   all_goals first
    |contradiction
    |exact .ret rfl (.bool rfl)
    |(refine .ret rfl (.bool ?_);simp;done)
  ·subst h;repeat' first|refine yaN ?_|refine yaC (c2) ?_|refine yaC (cS) ?_|refine yaC (cd) ?_|exact yaF|refine yaS ?_ ?_<;>intro _
   all_goals first
    |contradiction
    |exact .ret rfl (.bool rfl)
    |(refine .ret rfl (.bool ?_);simp;done)
 have hk1:x.kind=1:=Classical.byContradiction λh=>hbad (.inl h);have h1:¬e2=1:=λh=>hbad (.inr (.inl h));have h5:¬e2=5:=λh=>hbad (.inr (.inr h));clear hbad;obtain⟨k,hks,htab,hidx,hm0,hI0,hstep,hend⟩:=hl hk1 h1 h5;have ct:=zaz s x.table hx;rw[hidx]at ct;repeat' first|refine yaN ?_|refine yaC (c2) ?_|refine yaC (cS) ?_|refine yaC (cd) ?_|refine yaC (ct) ?_|exact yaF|refine yaS ?_ ?_<;>intro _
 clear c2 cS ct hl;refine Go.keep [3,5,6,7,8,12,13,14] ?_
 refine Go.freezeN (l:=[]) (m:=[(0,[wi (polS x 1)])]) (fr':=[(3,.c (.fz (s.map ja))),(5,.c (.fp (wi (polS x 1)))),(6,.c (.fz (d2.map wa))),(7,.c (.int .i64 e2)),(8,.c (.int .i64 m2)),(12,.c (.fz (db.map wa))),(13,.c (.int .i64 (k:Int))),(14,.c (.int .i64 0))]) hS (λb hb=>by cases hb) (yag _)
  (.frz rfl (.refl old_tabsC) (.frz rfl (jjz (k:=0) (v:=0) (e:=wi (polS x 1)) rfl rfl (λj h1 h2=>.same _ (zg2 _ _ (yaa h1))) (yag _)) (.frz rfl (.refl old_datsC) (.frz rfl (.refl wo) (.frz rfl (.refl wo) (.frz rfl (.refl old_datsC) (.frz rfl (.refl wo) (.frz rfl (.refl wo) .nil)))))))) ?_
 refine Go.keep [3,5,6,7,8,12,13,14] (Go.loops (I:=λmm fr V=>∃(i:Nat) (j:Int) (now:List Data),mm=(m2-(i:Int)).toNat/\(i:Int)<=m2/\j=i/\OneI s k x (d2,e2,m2) db i now/\
  fr=[(3,.c (.fz (s.map ja))),(5,.c (.fp (wi (polS x 1)))),(6,.c (.fz (d2.map wa))),(7,.c (.int .i64 e2)),(8,.c (.int .i64 m2)),(12,.c (.fz (now.map wa))),(13,.c (.int .i64 (k:Int))),(14,.c (.int .i64 j))]/\V=E G []) ?_ _ _ _ ⟨0,_,db,rfl,hm0,rfl,hI0,rfl,rfl⟩)
 rintro mm fr V ⟨i,j,now,rfl,hi,hj,hI,rfl,rfl⟩ hrec;have hdn:=whk hI.db;have cI:=λ(h:i<x.rows.length)=>NewV.pure (zgb s now k x.rows[i].vals false hx hb O hdn.2.1 (hq.2.1.2 _ (yaa h)).1 (hq.2.1.2 _ (yaa h)).2);by_cases hlt:(i:Int)<m2
 ·obtain⟨hir,hz,hI2⟩:=hstep i now hI hlt;have cI:=cI hir;generalize InsF s now (k:Int) x.rows[i].vals false=Q at cI hz hI2;obtain⟨qd,qi,qc⟩:=Q;simp only at cI hz hI2;subst hz;have hrl:=hq.2.1.1;clear hstep hend;repeat' first|refine X ?_|((first|apply yG|apply yH|apply yI);exact rfl;(first|exact yax wb hj hir))|refine yaC (cI) ?_|exact yaF|refine yaS ?_ ?_<;>intro _
  exact Go.keep [3,5,6,7,8,12,13,14] (hrec _ _ _ O ⟨i+1,_,qd,rfl,O,jc hj O,hI2,rfl,rfl⟩)
 ·have he:(i:Int)=m2:=O;obtain⟨hdd,hfail,hdone⟩:=hend i now hI he;subst hdd he;clear hrec hstep hend;by_cases h0:e2=0
  ·have hlen:i=(polS x 1).rows.length:=hdone h0;subst h0;clear hI hI0 cI hfail hdone hdn;repeat' first|refine X ?_|refine yaC (cd) ?_|exact yaF|refine yaS ?_ ?_<;>intro _
   all_goals first
    |contradiction
    |(exfalso;simp_all;done)
    |exact .ret rfl (.bool rfl)
    |(refine .ret rfl (.bool ?_);simp;done)
  ·obtain⟨hir,hz⟩:=hfail h0;have cI:=cI hir;generalize InsF s d2 (k:Int) x.rows[i].vals false=Q at cI hz;obtain⟨qd,qi,qc⟩:=Q;simp only at cI hz;subst hz;clear hI hI0 hfail hdone hdn hq hm0 hlt hi;repeat' first|refine X ?_|((first|apply yG|apply yH|apply yI);exact rfl;(first|exact yax wb rfl hir))|refine yaC (cI) ?_|refine yaC (cd) ?_|exact yaF|refine yaS ?_ ?_<;>intro _
   all_goals first
    |contradiction
    |(exfalso;simp_all;done)
    |exact .ret rfl (.bool rfl)
    |(refine .ret rfl (.bool ?_);simp;done)
end Go.Proofs.YtedaadaaibofaaaGreat.Am
namespace Go.Proofs.YtedaadaaibofaaaGreat.fnOneByOne
open Go.ChangeShapes Go.WideShapes Go.ChangeAt Go.RowKit Go.Proofs.YtedaadaaibofaaaGreat.Am
open Go.ChangeMaps (open_string shut_string)
theorem own : ownKnob Tryz.prog.godebug = none := by kernel_rfl
theorem laidOut : laidOutB Tryz.prog = true := by kernel_rfl
set_option maxRecDepth 100000 in
theorem lifted (os : Os) (started : os.Started) (H : Type) (enc : TypeId × Value -> H) :
 ReturnsInHanded {} Tryz.checked os 7 .any (Rows.fnOneByOneSpec.pre6 enc Tryz.prog Tryz.f7 Rows.fnOneByOneRow.domain false) (Rows.fnOneByOneSpec.post enc Tryz.prog Tryz.f7 false true false false) := by
 refine returnsInHanded_of_change_sized (C := Tryz.checked) own started (by kernel_rfl) Tryz.func7
  (ChangeSpec.witness6 (enc := enc) (C := Tryz.checked) false ⟨#[], #[.slice none 0 0], []⟩ 8 (by kernel_rfl) (by kernel_rfl) (by kernel_rfl) (by kernel_rfl)) ?_
 intro W base args ds gs before hval0 hW hcnd hsz0 _
 have hval : ∀ (j : Nat) t v, Tryz.f7.params[j]? = some t -> args[j]? = some v -> Value.okWide Tryz.prog W .any base t v := hval0
 have hW' := hW
 obtain ⟨p, q, hA0, hV, rfl, hfz, hnd⟩ := hW
 have hA : DataW.TrodAll enc Tryz.prog W 0 (λ_ => true) true Tryz.f7.params.toList args.toList ds p := hA0
 rw [Tryz.params7] at hA hval
 have hsz : (DataW.weightsEach Tryz.prog (Tryz.f7.params.toList ++ Rows.fnOneByOneSpec.plain.varTypes Tryz.prog) (ds ++ gs)).all (· <= reachBytes) = true := hsz0
 rw [Tryz.params7] at hsz
 obtain ⟨v0, vs0, d0, ds0, p0, q0, hargs, rfl, rfl, h0, r0⟩ := trodAll_cons hA
 obtain ⟨rfl, rfl, rfl⟩ := trodAll_nil r0
 obtain rfl : args = #[v0] := by cases args; simp_all
 obtain ⟨rfl, rfl⟩ := trodVars_none hV
 obtain ⟨a0, g0, e0⟩ := wa6.c wjc (wcs Tryz.underlying72 (hval 0 72 v0 rfl rfl)) h0 (λn hn => of_decide_eq_true (List.all_eq_true.1 hsz _ (DataW.weights_mem_each (j := 0) (t := 72) rfl rfl n hn)))
 have k0 := h0
 have lt0 : ∀ x ∈ p0, x.block < W.heap.size := by obtain ⟨m, hm⟩ := k0; exact DataW.trod_lt m _ _ _ hm
 clear hA0 hval0 hsz0 hsz
 refine ((OneByOne_sound a0 ).calls (W := W) ⟨rfl, λi hi => ?_⟩).mono λe W' ⟨he, bel⟩ => ?_
 ·match i, hi with
  | 0, _ => exact e0
 subst he
 exact ⟨_, rfl, _, _, _, [], _, [], hW', trodAll_mk1 (shut_bool Tryz.underlying4 _), (trodAll_cons_mk (Below.trod laidOut (by kernel_rfl) (of_decide_eq_true (by kernel_rfl)) k0 bel lt0) trodAll_mk0), rfl, bel.frame _, λh => by cases h⟩
theorem spl {a b : Bool} (h : (a && b) = true) : a = true /\ b = true := by cases a <;> cases b <;> simp_all
theorem and2 {a b : Bool} (h : a = true) (k : b = true) : (a && b) = true := by rw [h, k]; rfl
theorem facts0 : (Rows.fnOneByOneRow.wf (OpenSpec.ofChange Rows.fnOneByOneSpec) && laidOutB Tryz.pinned.checked.prog && mapsRowed Tryz.pinned.checked.prog && Tryz.f7.params.all (Tryz.pinned.checked.prog.readableRec ·) && namedTie Tryz.pinned.checked.prog Rows.fnOneByOneRow.named Rows.fnOneByOneSpec.vars && (Rows.fnOneByOneRow.stops == []) && (Tryz.pinned.checked.prog.stops == []) && (Rows.fnOneByOneRow.knobs == []) && (Tryz.pinned.checked.prog.stopKnobs == [])) = true := by kernel_rfl
theorem facts1 : ((Rows.fnOneByOneRow.inPlace == Tryz.pinned.checked.prog.inPlace 7) && (Rows.fnOneByOneRow.unfollowed == Tryz.pinned.checked.prog.unfollowed 7) && (Rows.fnOneByOneRow.recurses == Tryz.pinned.checked.prog.recurses 7) && (Rows.fnOneByOneRow.named == Tryz.pinned.checked.prog.varsNamed 7)) = true := by kernel_rfl
theorem facts2 : ((Rows.fnOneByOneRow.maps == (Tryz.f7.params.toList ++ Rows.fnOneByOneSpec.plain.varTypes Tryz.pinned.checked.prog).any (Tryz.pinned.checked.prog.mapsRec ·)) && (Rows.fnOneByOneRow.ifaces == (Tryz.f7.params.toList ++ Rows.fnOneByOneSpec.plain.varTypes Tryz.pinned.checked.prog).any (Tryz.pinned.checked.prog.ifacesRec ·)) && (Rows.fnOneByOneRow.mapsOut == Tryz.pinned.checked.prog.mapsAmong Tryz.f7.resultTypes.toList) && (Rows.fnOneByOneRow.loops == (Tryz.f7.params.toList ++ Rows.fnOneByOneSpec.plain.varTypes Tryz.pinned.checked.prog).any (Tryz.pinned.checked.prog.loopsFrom ·)) && (Rows.fnOneByOneRow.wideKeys == (Tryz.f7.params.toList ++ Rows.fnOneByOneSpec.plain.varTypes Tryz.pinned.checked.prog ++ Tryz.f7.resultTypes.toList).any (Tryz.pinned.checked.prog.wideKeysFrom ·)) && Rows.fnOneByOneSpec.vars.all (Tryz.pinned.checked.prog.varReadable ·)) = true := by kernel_rfl
theorem facts3 : (Tryz.f7.resultTypes.all (λt => Tryz.pinned.checked.prog.readableRec t && decide (t < Tryz.pinned.checked.prog.types.size)) && (Rows.fnOneByOneRow.ifacesOut == Tryz.f7.resultTypes.toList.any (Tryz.pinned.checked.prog.ifacesRec ·)) && (Rows.fnOneByOneRow.loopsOut == Tryz.f7.resultTypes.toList.any (Tryz.pinned.checked.prog.loopsFrom ·)) && (Rows.fnOneByOneRow.plainKeys == Tryz.pinned.checked.prog.plainKeys) && Rows.fnOneByOneRow.shortTexts.isNone && (Tryz.pinned.checked.prog.make == some Rows.fnOneByOneRow.make) && (Rows.fnOneByOneRow.kinds == (if Rows.fnOneByOneRow.domain.isEmpty then [] else Tryz.f7.params.toList.map λt => match Tryz.pinned.checked.prog.underlying t with | some (.int k) => some k | _ => none)) && (Rows.fnOneByOneRow.pinned == Rows.fnOneByOneRow.pinnedBy) && (Rows.fnOneByOneRow.veiled == (Tryz.f7.params.toList ++ Rows.fnOneByOneSpec.plain.varTypes Tryz.pinned.checked.prog ++ Tryz.f7.resultTypes.toList).any (Tryz.pinned.checked.prog.veiledRec ·)) && Rows.fnOneByOneRow.veiledFits Tryz.pinned.checked.prog Tryz.f7.params.toList (Tryz.f7.params.toList ++ Rows.fnOneByOneSpec.plain.varTypes Tryz.pinned.checked.prog ++ Tryz.f7.resultTypes.toList)) = true := by kernel_rfl
theorem facts4 : (Tryz.pinned.checked.prog.stopsHeard && Tryz.pinned.checked.prog.mayEnter && (Rows.fnOneByOneRow.lifted == Tryz.pinned.checked.prog.liftsFinal)) = true := by kernel_rfl
set_option maxRecDepth 100000 in
theorem closed : joinedFacts Tryz.pinned.checked.prog 7 Tryz.f7 Rows.fnOneByOneSpec Rows.fnOneByOneRow = true := by
 have g := facts0
 obtain ⟨g, p8⟩ := spl g
 obtain ⟨g, p7⟩ := spl g
 obtain ⟨g, p6⟩ := spl g
 obtain ⟨g, p5⟩ := spl g
 obtain ⟨g, p4⟩ := spl g
 obtain ⟨g, p3⟩ := spl g
 obtain ⟨g, p2⟩ := spl g
 obtain ⟨g, p1⟩ := spl g
 have p0 := g
 have g := facts1
 obtain ⟨g, p12⟩ := spl g
 obtain ⟨g, p11⟩ := spl g
 obtain ⟨g, p10⟩ := spl g
 have p9 := g
 have g := facts2
 obtain ⟨g, p18⟩ := spl g
 obtain ⟨g, p17⟩ := spl g
 obtain ⟨g, p16⟩ := spl g
 obtain ⟨g, p15⟩ := spl g
 obtain ⟨g, p14⟩ := spl g
 have p13 := g
 have g := facts3
 obtain ⟨g, p31⟩ := spl g
 obtain ⟨g, p30⟩ := spl g
 obtain ⟨g, p29⟩ := spl g
 obtain ⟨g, p28⟩ := spl g
 obtain ⟨g, p27⟩ := spl g
 obtain ⟨g, p23⟩ := spl g
 obtain ⟨g, p22⟩ := spl g
 obtain ⟨g, p21⟩ := spl g
 obtain ⟨g, p20⟩ := spl g
 have p19 := g
 have g := facts4
 obtain ⟨g, p26⟩ := spl g
 obtain ⟨g, p25⟩ := spl g
 have p24 := g
 exact (and2 (and2 (and2 (and2 (and2 (and2 (and2 (and2 (and2 (and2 (and2 (and2 (and2 (and2 (and2 (and2 (and2 (and2 (and2 (and2 (and2 (and2 (and2 (and2 (and2 (and2 (and2 (and2 (and2 (and2 (and2 p0 p1) p2) p3) p4) p5) p6) p7) p8) p9) p10) p11) p12) p13) p14) p15) p16) p17) p18) p19) p20) p21) p22) p23) p24) p25) p26) p27) p28) p29) p30) p31)
theorem over : Rows.fnOneByOneRow.holds Tryz.pinned (OpenSpec.ofChange Rows.fnOneByOneSpec) :=
 OpenClaim.holds_of_wide 7 Tryz.f7 rfl rfl rfl rfl rfl rfl rfl ⟨rfl, rfl, rfl, rfl, rfl⟩ rfl rfl rfl rfl rfl (by kernel_rfl) Tryz.func7 closed
  (of_decide_eq_true (by kernel_rfl)) (by unfold Func.isWrapper; first | (rw [if_pos (by decide +kernel)]; kernel_rfl) | (rw [if_neg (by decide +kernel)]; exact ⟨rfl, rfl⟩))
  (λos started H enc _ => lifted os started H enc)
theorem proved : Rows.FnOneByOneSaid := over
end Go.Proofs.YtedaadaaibofaaaGreat.fnOneByOne
namespace Go.Proofs.YtedaadaaibofaaaGreat
theorem fnOneByOne_holds : Rows.FnOneByOneSaid := fnOneByOne.proved
#print axioms fnOneByOne_holds
end Go.Proofs.YtedaadaaibofaaaGreat
