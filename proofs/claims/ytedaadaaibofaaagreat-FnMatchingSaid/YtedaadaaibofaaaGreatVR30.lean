/- The statement of the law FnMatching: whatever its arguments are, it returns true, leaves what was there as it was, and ends. No condition. -/
import Derived.Test.YtedaadaaibofaaaGreatRows
import Derived.WalkKit
import Derived.ProofKit
import Derived.OpenShut
import Derived.ShutString
import Derived.ChangeOld
import Derived.Below
import Derived.SizedLaws
import Derived.Test.YtedaadaaibofaaaGreatV1
import Derived.Test.YtedaadaaibofaaaGreatV2
import Derived.Test.YtedaadaaibofaaaGreatV3
import Derived.Test.YtedaadaaibofaaaGreatV4
import Derived.Test.YtedaadaaibofaaaGreatV5
import Derived.Test.YtedaadaaibofaaaGreatV6
set_option maxHeartbeats 1000000
set_option linter.unusedVariables false
set_option linter.unusedSimpArgs false
namespace Go.Proofs.YtedaadaaibofaaaGreat.Am
theorem tok12_34{t:Tok}(h:bTok 12 t):bTok 34359738368 t:=yaj h gb
theorem draw_dbC{s:List wc}{db:List Data}(h:dbF s db=true\/db=[]):db.length<=34359738368/\∀d∈db,wcc 34359738368 d:=by
 rcases h with h|rfl
 ·exact⟨by have:=(whk h).1;omega,(whk h).2.1⟩
 ·exact⟨gx,λd hd=>by cases hd⟩
theorem old_intsC{n:Nat}{l:List Int}:∀y∈(AV.c (.fz (l.map encI))).all,Old n y:=λy hy=>by
 rw[List.mem_singleton.1 hy];exact zj (zcy _)
theorem old_tabsC{n:Nat}{l:List wc}:∀y∈(AV.c (.fz (l.map ja))).all,Old n y:=λy hy=>by
 rw[List.mem_singleton.1 hy];exact zj (zdd _)
theorem old_datsC{n:Nat}{l:List Data}:∀y∈(AV.c (.fz (l.map wa))).all,Old n y:=λy hy=>by
 rw[List.mem_singleton.1 hy];exact zj (z7 _)
theorem mHas_ok(xs:List Int)(n:Int)(hx:xs.length<=34359738368):Pure Tryz.prog 55 [.c (.fz (xs.map encI)),.c (.int .i64 n)] (.c (.bool (xs.any λa=>n==a))):=by
 refine yaq [] jh7 λG=>?_;repeat' first|refine X ?_|exact yaF|refine yaS ?_ ?_<;>intro _
 refine Go.keep [0,1,5] (Go.loops (I:=λm fr V=>∃i:Nat,∃k:Int,m=xs.length-i/\i<=xs.length/\k=i/\(xs.any λa=>n==a)=((xs.drop i).any λa=>n==a)/\
  fr=[(0,.c (.fz (xs.map encI))),(1,.c (.int .i64 n)),(5,.c (.int .i64 k))]/\V=E G []) ?_ _ _ _ ⟨0,_,rfl,yac _,rfl,rfl,rfl,rfl⟩)
 rintro m fr V ⟨i,k,rfl,hi,hk,hsl,rfl,rfl⟩ hrec;by_cases hlt:i<xs.length
 ·rw[yab hlt,List.any_cons]at hsl;repeat' first|refine X ?_|((first|apply yG|apply yH|apply yI);exact rfl;(first|exact yax encI hk hlt))|exact yaF|refine yaS ?_ ?_<;>intro _
  ·rename_i h;refine .ret rfl (.bool ?_);rw[hsl,h];simp
  ·rename_i h;refine Go.keep [0,1,5] (hrec _ _ _ O ⟨i+1,_,rfl,hlt,jc hk O, ?_,rfl,rfl⟩);rw[hsl,show(n==xs[i])=false from beq_eq_false_iff_ne.2 λe=>h e.symm,ybr]
 ·rw[yad O]at hsl;repeat' first|refine X ?_|exact yaF|refine yaS ?_ ?_<;>intro _
  exact .ret rfl (.bool hsl.symm)
theorem at_none(d:Data)(id:Int)(hx:d.rows.length<=60)(hno:∀r∈d.rows,r.id≠id):Pure Tryz.prog 57 [.agg (wa d),.c (.int .i64 id)] (.c (.fz [])):=by
 refine yaq [2] ziq λG=>?_;repeat' first|refine X ?_|exact yaF|refine yaS ?_ ?_<;>intro _
 refine Go.keep [1,2,5] (Go.loops (I:=λm fr V=>∃(i:Nat) (k:Int),m=d.rows.length-i/\i<=d.rows.length/\k=i/\
  fr=[(1,.c (.int .i64 id)),(2,.c (.fp (wa d))),(5,.c (.int .i64 k))]/\V=E G []) ?_ _ _ _ ⟨0,_,rfl,yac _,rfl,rfl,rfl⟩)
 rintro m fr V ⟨i,k,rfl,hi,hk,rfl,rfl⟩ hrec;by_cases hlt:i<d.rows.length
 ·have hne:=hno _ (yaa hlt);repeat' first|refine X ?_|((first|apply yG|apply yH|apply yI);exact rfl;(first|exact yax wb hk hlt))|exact yaF|refine yaS ?_ ?_<;>intro _
  all_goals first
   |contradiction
   |exact Go.keep [1,2,5] (hrec _ _ _ O ⟨i+1,_,rfl,hlt,jc hk O,rfl,rfl⟩)
 ·repeat' first|refine X ?_|exact yaF|refine yaS ?_ ?_<;>intro _
  exact .ret rfl ⟨_,rfl,.c .nil⟩
theorem frz_del{G:jb}{n:Nat}{nm:List UInt8}{w:List Tok}:FrzV G n (.agg [.int .i64 3,.str nm,.nils,.fz (w.map zg),.nils,.int .i64 0]) (.agg (wi ⟨3,nm,[],w,[],0⟩)):=.agg rfl λi hi=>by
 have hi6:i<6:=hi;have:i=0\/i=1\/i=2\/i=3\/i=4\/i=5:=O;rcases this with rfl|rfl|rfl|rfl|rfl|rfl
 ·exact .same _ (.int _ _)
 ·exact .same _ (.str _)
 ·exact .nil
 ·exact .same _ (zj (zah wdb))
 ·exact .nil
 ·exact .same _ (.int _ _)
theorem Matching_sound(code:List UInt8):Pure Tryz.prog 10 [.c (.fz (code.map encB))] (.c (.bool true)):=by
 refine yap [] wdi λG hS hA=>?_;clear hA;have cb:=ji2 code;by_cases hc:1048576<(code.length:Int)
 ·rw[decide_eq_true hc]at cb;repeat' first|refine X ?_|refine yaC (cb) ?_|exact yaF|refine yaS ?_ ?_<;>intro _
  exact .ret rfl (.bool rfl)
 rw[decide_eq_false hc]at cb;repeat' first|refine X ?_|refine yaC (cb) ?_|exact yaF|refine yaS ?_ ?_<;>intro _
 refine Go.told rfl rfl rfl (ze0 code O) ?_;rintro _ ⟨s,db,n,w,hs,hd,hw,hwb,rfl⟩;obtain⟨hx,hb⟩:=hs.b;obtain⟨hdl,hdb⟩:=draw_dbC hd;have hwb1:∀t∈w,bTok 34359738368 t:=λt ht=>tok12_34 (hwb t ht);have cI:=NewV.pure (zhj s db n w hx hb hdl hdb O hwb1);have cS:=NewV.pure (zgw s db n w hx hb hdl hdb O hwb1);have fI:=(jf7 s db n w hx hb hdl hdb O hwb1).1;have hl:=wg1 (s:=s) hb (db:=db) (n:=n) (w:=w);generalize ja3 s db n w=M at cI cS fI hl;obtain⟨l,b⟩:=M;simp only at cI cS fI hl;have cs1:=whl l l fI fI;rw[decide_eq_true rfl]at cs1
 cases b
 ·repeat' first|refine X ?_|refine yaC (cI) ?_|refine yaC (cS) ?_|refine yaC (cs1) ?_|exact yaF|refine yaS ?_ ?_<;>intro _
  exact .ret rfl (.bool rfl)
 obtain⟨k,h1,h2,rfl,hr60,hnm,hin,hex⟩:=hl rfl;have hvl:∀r∈db[k].rows,r.vals.length<=34359738368:=λr hr=>((hdb _ (yaa h2)).2 r hr).1;have hq:wd6 34359738368 ⟨3,s[k].name,[],w,[],0⟩:=⟨hnm,⟨gx,λx hx=>by cases hx⟩,⟨by show w.length<=_;omega,hwb1⟩,gx,λx hx=>by cases hx⟩;have cE:=NewV.pure (jea s db ⟨3,s[k].name,[],w,[],0⟩ hx hb hdl hdb hq);generalize ExF s db ⟨3,s[k].name,[],w,[],0⟩=E9 at cE hex;obtain⟨d9,c9,m9⟩:=E9;simp only at cE hex;repeat' first|refine X ?_|refine yaC (cI) ?_|refine yaC (cS) ?_|refine yaC (cs1) ?_|exact yaF|refine yaS ?_ ?_<;>intro _
 clear cI cS cs1 cb
 refine Go.keep [3,4,5,6,7,11] (Go.loops (I:=λm fr V=>∃(i:Nat) (j:Int),m=db[k].rows.length-i/\i<=db[k].rows.length/\j=i/\
  fr=[(3,.c (.fz (s.map ja))),(4,.c (.fz (db.map wa))),(5,.c (.int .i64 (k:Int))),(6,.c (.fz (w.map zg))),(7,.c (.fz (l.map encI))),(11,.c (.int .i64 j))]/\V=E G []) ?_ _ _ _ ⟨0,_,rfl,yac _,rfl,rfl,rfl⟩)
 rintro m fr V ⟨i,j,rfl,hi,hj,rfl,rfl⟩ hrec;by_cases hlt:i<db[k].rows.length
 ·have cH:=mHas_ok l db[k].rows[i].id fI;rw[hin _ (yaa hlt),isM]at cH;have c1:=zf4 w db[k].rows[i].vals O (hvl _ (yaa hlt));generalize wca w db[k].rows[i].vals=T at c1 cH;clear cE hex;by_cases h0:0<w.length
  ·rw[if_pos h0]at cH;have hw0:¬(w.length:Int)=0:=O;by_cases hT:T=1
   ·subst hT;rw[decide_eq_true rfl]at cH;repeat' first|refine X ?_|((first|apply yG|apply yH|apply yI);exact rfl;(first|exact yax wa rfl h2|exact yax wb hj hlt))|refine yaC (cH) ?_|refine yaC (c1) ?_|exact yaF|refine yaS ?_ ?_<;>intro _
    all_goals first
     |contradiction
     |exact Go.keep [3,4,5,6,7,11] (hrec _ _ _ O ⟨i+1,_,rfl,hlt,jc hj O,rfl,rfl⟩)
   ·rw[decide_eq_false hT]at cH;have hT2:(T==1)=false:=beq_eq_false_iff_ne.2 hT;repeat' first|refine X ?_|((first|apply yG|apply yH|apply yI);exact rfl;(first|exact yax wa rfl h2|exact yax wb hj hlt))|refine yaC (cH) ?_|refine yaC (c1) ?_|exact yaF|refine yaS ?_ ?_<;>intro _
    all_goals first
     |contradiction
     |(exfalso;simp_all;done)
     |exact Go.keep [3,4,5,6,7,11] (hrec _ _ _ O ⟨i+1,_,rfl,hlt,jc hj O,rfl,rfl⟩)
  ·rw[if_neg h0,decide_eq_true rfl]at cH;have hw0:(w.length:Int)=0:=O;repeat' first|refine X ?_|((first|apply yG|apply yH|apply yI);exact rfl;(first|exact yax wa rfl h2|exact yax wb hj hlt))|refine yaC (cH) ?_|refine yaC (c1) ?_|exact yaF|refine yaS ?_ ?_<;>intro _
   all_goals first
    |contradiction
    |exact Go.keep [3,4,5,6,7,11] (hrec _ _ _ O ⟨i+1,_,rfl,hlt,jc hj O,rfl,rfl⟩)
 clear hrec;repeat' first|refine X ?_|((first|apply yG|apply yH|apply yI);exact rfl;(first|exact yax ja rfl h1|exact yax wa rfl h2))|exact yaF|refine yaS ?_ ?_<;>intro _
 refine Go.freezeN (l:=[]) (m:=[]) (fr':=[(5,.c (.int .i64 (k:Int))),(7,.c (.fz (l.map encI))),(97,.c (.fz (s.map ja))),(98,.c (.fz (db.map wa))),(105,.agg (wi ⟨3,s[k].name,[],w,[],0⟩))]) hS (λb hb=>by cases hb) (yag _)
  (.frz rfl (.refl wo) (.frz rfl (.refl old_intsC) (.frz rfl (.refl old_tabsC) (.frz rfl (.refl old_datsC) (.frz rfl frz_del .nil))))) ?_
 by_cases h9:c9=0
 ·obtain⟨h3,h60,hno⟩:=hex h9;subst h9;repeat' first|refine X ?_|refine yaC (cE) ?_|exact yaF|refine yaS ?_ ?_<;>intro _
  refine Go.keep [5,7,13,16] (Go.loops (I:=λm fr V=>∃(i:Nat) (j:Int),m=l.length-i/\i<=l.length/\j=i/\
   fr=[(5,.c (.int .i64 (k:Int))),(7,.c (.fz (l.map encI))),(13,.c (.fz (d9.map wa))),(16,.c (.int .i64 j))]/\V=E G []) ?_ _ _ _ ⟨0,_,rfl,yac _,rfl,rfl,rfl⟩)
  rintro m fr V ⟨i2,j2,rfl,hi2,hj2,rfl,rfl⟩ hrec;by_cases hlt2:i2<l.length
  ·have ca:=at_none d9[k] l[i2] h60 (hno _ (yaa hlt2));repeat' first|refine X ?_|((first|apply yG|apply yH|apply yI);exact rfl;(first|exact yax wa rfl h3|exact yax encI hj2 hlt2))|refine yaC (ca) ?_|exact yaF|refine yaS ?_ ?_<;>intro _
   exact Go.keep [5,7,13,16] (hrec _ _ _ O ⟨i2+1,_,rfl,hlt2,jc hj2 O,rfl,rfl⟩)
  ·repeat' first|refine X ?_|exact yaF|refine yaS ?_ ?_<;>intro _
   exact .ret rfl (.bool rfl)
 ·repeat' first|refine X ?_|refine yaC (cE) ?_|exact yaF|refine yaS ?_ ?_<;>intro _
  all_goals first
   |contradiction
   |exact .ret rfl (.bool rfl)
end Go.Proofs.YtedaadaaibofaaaGreat.Am
namespace Go.Proofs.YtedaadaaibofaaaGreat.fnMatching
open Go.ChangeShapes Go.WideShapes Go.ChangeAt Go.RowKit Go.Proofs.YtedaadaaibofaaaGreat.Am
open Go.ChangeMaps (open_string shut_string)
theorem own : ownKnob Tryz.prog.godebug = none := by kernel_rfl
theorem laidOut : laidOutB Tryz.prog = true := by kernel_rfl
set_option maxRecDepth 100000 in
theorem lifted (os : Os) (started : os.Started) (H : Type) (enc : TypeId × Value -> H) :
 ReturnsInHanded {} Tryz.checked os 10 .any (Rows.fnMatchingSpec.pre6 enc Tryz.prog Tryz.f10 Rows.fnMatchingRow.domain false) (Rows.fnMatchingSpec.post enc Tryz.prog Tryz.f10 false true false false) := by
 refine returnsInHanded_of_change_sized (C := Tryz.checked) own started (by kernel_rfl) Tryz.func10
  (ChangeSpec.witness6 (enc := enc) (C := Tryz.checked) false ⟨#[], #[.slice none 0 0], []⟩ 8 (by kernel_rfl) (by kernel_rfl) (by kernel_rfl) (by kernel_rfl)) ?_
 intro W base args ds gs before hval0 hW hcnd hsz0 _
 have hval : ∀ (j : Nat) t v, Tryz.f10.params[j]? = some t -> args[j]? = some v -> Value.okWide Tryz.prog W .any base t v := hval0
 have hW' := hW
 obtain ⟨p, q, hA0, hV, rfl, hfz, hnd⟩ := hW
 have hA : DataW.TrodAll enc Tryz.prog W 0 (λ_ => true) true Tryz.f10.params.toList args.toList ds p := hA0
 rw [Tryz.params10] at hA hval
 have hsz : (DataW.weightsEach Tryz.prog (Tryz.f10.params.toList ++ Rows.fnMatchingSpec.plain.varTypes Tryz.prog) (ds ++ gs)).all (· <= reachBytes) = true := hsz0
 rw [Tryz.params10] at hsz
 obtain ⟨v0, vs0, d0, ds0, p0, q0, hargs, rfl, rfl, h0, r0⟩ := trodAll_cons hA
 obtain ⟨rfl, rfl, rfl⟩ := trodAll_nil r0
 obtain rfl : args = #[v0] := by cases args; simp_all
 obtain ⟨rfl, rfl⟩ := trodVars_none hV
 obtain ⟨a0, g0, e0⟩ := wa6.c wjc (wcs Tryz.underlying72 (hval 0 72 v0 rfl rfl)) h0 (λn hn => of_decide_eq_true (List.all_eq_true.1 hsz _ (DataW.weights_mem_each (j := 0) (t := 72) rfl rfl n hn)))
 have k0 := h0
 have lt0 : ∀ x ∈ p0, x.block < W.heap.size := by obtain ⟨m, hm⟩ := k0; exact DataW.trod_lt m _ _ _ hm
 clear hA0 hval0 hsz0 hsz
 refine ((Matching_sound a0 ).calls (W := W) ⟨rfl, λi hi => ?_⟩).mono λe W' ⟨he, bel⟩ => ?_
 ·match i, hi with
  | 0, _ => exact e0
 subst he
 exact ⟨_, rfl, _, _, _, [], _, [], hW', trodAll_mk1 (shut_bool Tryz.underlying4 _), (trodAll_cons_mk (Below.trod laidOut (by kernel_rfl) (of_decide_eq_true (by kernel_rfl)) k0 bel lt0) trodAll_mk0), rfl, bel.frame _, λh => by cases h⟩
theorem spl {a b : Bool} (h : (a && b) = true) : a = true /\ b = true := by cases a <;> cases b <;> simp_all
theorem and2 {a b : Bool} (h : a = true) (k : b = true) : (a && b) = true := by rw [h, k]; rfl
theorem facts0 : (Rows.fnMatchingRow.wf (OpenSpec.ofChange Rows.fnMatchingSpec) && laidOutB Tryz.pinned.checked.prog && mapsRowed Tryz.pinned.checked.prog && Tryz.f10.params.all (Tryz.pinned.checked.prog.readableRec ·) && namedTie Tryz.pinned.checked.prog Rows.fnMatchingRow.named Rows.fnMatchingSpec.vars && (Rows.fnMatchingRow.stops == []) && (Tryz.pinned.checked.prog.stops == []) && (Rows.fnMatchingRow.knobs == []) && (Tryz.pinned.checked.prog.stopKnobs == [])) = true := by kernel_rfl
theorem facts1 : ((Rows.fnMatchingRow.inPlace == Tryz.pinned.checked.prog.inPlace 10) && (Rows.fnMatchingRow.unfollowed == Tryz.pinned.checked.prog.unfollowed 10) && (Rows.fnMatchingRow.recurses == Tryz.pinned.checked.prog.recurses 10) && (Rows.fnMatchingRow.named == Tryz.pinned.checked.prog.varsNamed 10)) = true := by kernel_rfl
theorem facts2 : ((Rows.fnMatchingRow.maps == (Tryz.f10.params.toList ++ Rows.fnMatchingSpec.plain.varTypes Tryz.pinned.checked.prog).any (Tryz.pinned.checked.prog.mapsRec ·)) && (Rows.fnMatchingRow.ifaces == (Tryz.f10.params.toList ++ Rows.fnMatchingSpec.plain.varTypes Tryz.pinned.checked.prog).any (Tryz.pinned.checked.prog.ifacesRec ·)) && (Rows.fnMatchingRow.mapsOut == Tryz.pinned.checked.prog.mapsAmong Tryz.f10.resultTypes.toList) && (Rows.fnMatchingRow.loops == (Tryz.f10.params.toList ++ Rows.fnMatchingSpec.plain.varTypes Tryz.pinned.checked.prog).any (Tryz.pinned.checked.prog.loopsFrom ·)) && (Rows.fnMatchingRow.wideKeys == (Tryz.f10.params.toList ++ Rows.fnMatchingSpec.plain.varTypes Tryz.pinned.checked.prog ++ Tryz.f10.resultTypes.toList).any (Tryz.pinned.checked.prog.wideKeysFrom ·)) && Rows.fnMatchingSpec.vars.all (Tryz.pinned.checked.prog.varReadable ·)) = true := by kernel_rfl
theorem facts3 : (Tryz.f10.resultTypes.all (λt => Tryz.pinned.checked.prog.readableRec t && decide (t < Tryz.pinned.checked.prog.types.size)) && (Rows.fnMatchingRow.ifacesOut == Tryz.f10.resultTypes.toList.any (Tryz.pinned.checked.prog.ifacesRec ·)) && (Rows.fnMatchingRow.loopsOut == Tryz.f10.resultTypes.toList.any (Tryz.pinned.checked.prog.loopsFrom ·)) && (Rows.fnMatchingRow.plainKeys == Tryz.pinned.checked.prog.plainKeys) && Rows.fnMatchingRow.shortTexts.isNone && (Tryz.pinned.checked.prog.make == some Rows.fnMatchingRow.make) && (Rows.fnMatchingRow.kinds == (if Rows.fnMatchingRow.domain.isEmpty then [] else Tryz.f10.params.toList.map λt => match Tryz.pinned.checked.prog.underlying t with | some (.int k) => some k | _ => none)) && (Rows.fnMatchingRow.pinned == Rows.fnMatchingRow.pinnedBy) && (Rows.fnMatchingRow.veiled == (Tryz.f10.params.toList ++ Rows.fnMatchingSpec.plain.varTypes Tryz.pinned.checked.prog ++ Tryz.f10.resultTypes.toList).any (Tryz.pinned.checked.prog.veiledRec ·)) && Rows.fnMatchingRow.veiledFits Tryz.pinned.checked.prog Tryz.f10.params.toList (Tryz.f10.params.toList ++ Rows.fnMatchingSpec.plain.varTypes Tryz.pinned.checked.prog ++ Tryz.f10.resultTypes.toList)) = true := by kernel_rfl
theorem facts4 : (Tryz.pinned.checked.prog.stopsHeard && Tryz.pinned.checked.prog.mayEnter && (Rows.fnMatchingRow.lifted == Tryz.pinned.checked.prog.liftsFinal)) = true := by kernel_rfl
set_option maxRecDepth 100000 in
theorem closed : joinedFacts Tryz.pinned.checked.prog 10 Tryz.f10 Rows.fnMatchingSpec Rows.fnMatchingRow = true := by
 have g := facts0
 obtain ⟨g, p8⟩ := spl g
 obtain ⟨g, p7⟩ := spl g
 obtain ⟨g, p6⟩ := spl g
 obtain ⟨g, p5⟩ := spl g
 obtain ⟨g, p4⟩ := spl g
 obtain ⟨g, p3⟩ := spl g
 obtain ⟨g, p2⟩ := spl g
 obtain ⟨g, p1⟩ := spl g
 have p0 := g
 have g := facts1
 obtain ⟨g, p12⟩ := spl g
 obtain ⟨g, p11⟩ := spl g
 obtain ⟨g, p10⟩ := spl g
 have p9 := g
 have g := facts2
 obtain ⟨g, p18⟩ := spl g
 obtain ⟨g, p17⟩ := spl g
 obtain ⟨g, p16⟩ := spl g
 obtain ⟨g, p15⟩ := spl g
 obtain ⟨g, p14⟩ := spl g
 have p13 := g
 have g := facts3
 obtain ⟨g, p31⟩ := spl g
 obtain ⟨g, p30⟩ := spl g
 obtain ⟨g, p29⟩ := spl g
 obtain ⟨g, p28⟩ := spl g
 obtain ⟨g, p27⟩ := spl g
 obtain ⟨g, p23⟩ := spl g
 obtain ⟨g, p22⟩ := spl g
 obtain ⟨g, p21⟩ := spl g
 obtain ⟨g, p20⟩ := spl g
 have p19 := g
 have g := facts4
 obtain ⟨g, p26⟩ := spl g
 obtain ⟨g, p25⟩ := spl g
 have p24 := g
 exact (and2 (and2 (and2 (and2 (and2 (and2 (and2 (and2 (and2 (and2 (and2 (and2 (and2 (and2 (and2 (and2 (and2 (and2 (and2 (and2 (and2 (and2 (and2 (and2 (and2 (and2 (and2 (and2 (and2 (and2 (and2 p0 p1) p2) p3) p4) p5) p6) p7) p8) p9) p10) p11) p12) p13) p14) p15) p16) p17) p18) p19) p20) p21) p22) p23) p24) p25) p26) p27) p28) p29) p30) p31)
theorem over : Rows.fnMatchingRow.holds Tryz.pinned (OpenSpec.ofChange Rows.fnMatchingSpec) :=
 OpenClaim.holds_of_wide 10 Tryz.f10 rfl rfl rfl rfl rfl rfl rfl ⟨rfl, rfl, rfl, rfl, rfl⟩ rfl rfl rfl rfl rfl (by kernel_rfl) Tryz.func10 closed
  (of_decide_eq_true (by kernel_rfl)) (by unfold Func.isWrapper; first | (rw [if_pos (by decide +kernel)]; kernel_rfl) | (rw [if_neg (by decide +kernel)]; exact ⟨rfl, rfl⟩))
  (λos started H enc _ => lifted os started H enc)
theorem proved : Rows.FnMatchingSaid := over
end Go.Proofs.YtedaadaaibofaaaGreat.fnMatching
namespace Go.Proofs.YtedaadaaibofaaaGreat
theorem fnMatching_holds : Rows.FnMatchingSaid := fnMatching.proved
#print axioms fnMatching_holds
end Go.Proofs.YtedaadaaibofaaaGreat
