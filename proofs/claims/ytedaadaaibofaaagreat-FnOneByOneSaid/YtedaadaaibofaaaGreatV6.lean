/- Joined texts: Y14, N2, Y15, X9. -/
import Derived.Test.YtedaadaaibofaaaGreatV1
import Derived.Test.YtedaadaaibofaaaGreatV2
import Derived.Test.YtedaadaaibofaaaGreatV3
import Derived.Test.YtedaadaaibofaaaGreatV4
import Derived.Test.YtedaadaaibofaaaGreatV5
set_option maxHeartbeats 1000000
set_option linter.unusedVariables false
set_option linter.unusedSimpArgs false
namespace Go.Proofs.YtedaadaaibofaaaGreat.Am
def zkt(r:AV):Prop:=∃x:Stmt,wd6 34359738368 x/\r=.agg (wi x)
def z6:List Ce:=[.int .i64 0,.str [],.nils,.nils,.nils,.int .i64 0]
variable {n:Nat}
theorem jhq(l:List SetS):OldL n (l.map jq):=λe he c hc=>by
 obtain⟨a,_,rfl⟩:=List.mem_map.1 he;simp only[jq,List.mem_cons,List.not_mem_nil,or_false]at hc;rcases hc with rfl|rfl
 ·exact .int _ _
 ·exact zj (zah wdb)
theorem wjd(l:List RowD):OldL n (l.map wb):=λe he c hc=>by
 obtain⟨a,_,rfl⟩:=List.mem_map.1 he;simp only[wb,List.mem_cons,List.not_mem_nil,or_false]at hc;rcases hc with rfl|rfl
 ·exact .int _ _
 ·exact zj (zah jcn)
def StS(G:jb)(kd pol:Int)(nm:List UInt8)(rs:List RowD)(x3 x4:Ce)(ll:List (Nat×List (List Ce))):Prop:=
 (rs=[]/\ll=[(0,[z6]),(0,[[.int .i64 kd,.str nm,.nils,x3,x4,.int .i64 pol]])])\/∃v junk,Jk 2 junk/\ll=[(0,[z6]),(0,[[.int .i64 kd,.str nm,vec (G.next+2) v (rs.map wb) junk,x3,x4,.int .i64 pol]]),(v,rs.map wb++junk)]
def RowB(r:RowD):Prop:=r.vals.length<=60/\∀w∈r.vals,bV 12 w
def SetB(a:SetS):Prop:=a.expr.length<=3/\∀t∈a.expr,bTok 12 t
theorem wkh(s:List wc)(hs:SchD s):wad Tryz.prog 128 [.c (.fz (s.map ja))] zkt:=by
 refine wad.run mixed zco gz λG id v code p hr hp hc hS=>?_;have hs1:=hs.1;have hs3:=hs.2.1;repeat' first|refine X ?_|exact yaF|refine yaS ?_ ?_<;>intro _
 refine Go.drawn hr hp rfl rfl rfl (zo s.length O O) ?_;intro r q hq hz;obtain⟨k,hk,rfl⟩:=wez O hz;have hT:=hs.2.2 _ (yaa hk);have hlo:=hT.lo;have hhi:=hT.hi;have hnm:=hT.b.1;clear hT hz;repeat' first|apply Go.seq|apply Go.skip|apply Go.region|apply Go.nil|apply Go.block|apply Go.blk|apply Go.segs|(apply Go.exit;exact rfl)|(apply Go.cond true;exact rfl)|(apply Go.cond false;exact rfl)|apply yB|apply yC|((first|apply yD|apply yE);(first|exact yF|assumption);iterate 6 exact rfl)|((first|apply yG|apply yH|apply yI);exact rfl;(first|exact yJ|exact yK rfl rfl|exact yL rfl|exact yM rfl|exact rfl|exact aL rfl rfl rfl rfl rfl|exact aS rfl rfl rfl rfl rfl rfl rfl|exact yax ja rfl hk))|((first|apply yN|apply yO|apply yP);exact rfl)|exact yaF|(((first|apply yT|apply yU|apply yV|apply yW);exact rfl;(first|exact .d|exact .e|exact .n|((fail_if_success exact bqt);(fail_if_success exact bqf);exact .b)))<;>intro _)
 generalize s[k]=T at hlo hhi hnm;apply Go.draw;refine Go.qr [(0,[z6])] rfl ?_;repeat' first|(apply Qx.op;exact rfl;exactλ_ _ _=>rfl)
 refine Qx.drawn hr hq rfl rfl rfl (zo 3 gb gb) ?_;rintro _ q1 hq1 ⟨c,hc0,hc1,rfl⟩;repeat' first|(apply Qx.op;exact rfl;exactλ_ _ _=>rfl)
 refine Qx.drawn hr hq1 rfl rfl rfl (zo 5 gb gb) ?_;rintro _ q2 hq2 ⟨pol,hp0,hp1,rfl⟩;repeat' first|(apply Qx.op;exact rfl;exactλ_ _ _=>rfl)
 refine Qx.alloc rfl ⟨[],rfl⟩ ?_;refine .nil ?_;generalize hkd:IntKind.i64.wrap (1+c)=kd;repeat' first|refine X ?_|fail
 have hkc:kd=1\/kd=2\/kd=3:=by
  have:c=0\/c=1\/c=2:=O;rw[<-hkd];rcases this with rfl|rfl|rfl
  ·exact .inl rfl
  ·exact .inr (.inl rfl)
  ·exact .inr (.inr rfl)
 clear hkd
 refine Go.meet (K':=[_,_]) (λfr V=>∃(q:Nat) (rs:List RowD) (w:List Tok) (sets:List SetS) (x3 x4:Ce) (ll:List (Nat×List (List Ce))),q<=code.length/\(rs.length<=3/\∀r∈rs,RowB r)/\(NF x3 (w.map zg)/\w.length<=7/\∀t∈w,bTok 12 t)/\(NF x4 (sets.map jq)/\sets.length<=3/\∀a∈sets,SetB a)/\StS G kd pol T.name rs x3 x4 ll/\
  fr=[(0,.c (.ptr id v 0 0)),(4,.c (.ptr (G.next+0) 0 0 0)),(7,.c (.ptr (G.next+1) 0 0 0))]/\V=E (Rd.go G id v code q) ll) (λK hm=>?_) ?_
 ·rcases hkc with rfl|rfl|rfl
  ·repeat' first|refine X ?_|exact yaF|refine yaS ?_ ?_<;>intro _
   refine Go.drawn hr hq2 rfl rfl rfl (zo 3 gb gb) ?_;rintro _ q3 hq3 ⟨d,hd0,hd1,rfl⟩;have ed:IntKind.i64.wrap (1+d)=1+d:=jh O O;repeat' first|refine X ?_|exact yaF|refine yaS ?_ ?_<;>intro _
   refine Go.keep [0,4,6,7,8] (Go.loops (I:=λm fr V=>∃(d:Int) (q:Nat) (rs:List RowD) (ll:List (Nat×List (List Ce))),m=d.toNat/\q<=code.length/\(rs.length:Int)+d<=3/\0<=d/\(∀r∈rs,RowB r)/\StS G 1 pol T.name rs .nils .nils ll/\
    fr=[(0,.c (.ptr id v 0 0)),(4,.c (.ptr (G.next+0) 0 0 0)),(6,.c (.fp (ja T))),(7,.c (.ptr (G.next+1) 0 0 0)),(8,.c (.int .i64 d))]/\V=E (Rd.go G id v code q) ll) ?_ _ _ _ ⟨1+d,q3,[],_,rfl,hq3,by simp;omega,O,λt ht=>(by cases ht),.inl ⟨rfl,rfl⟩,by rw[ed];rfl,rfl⟩)
   clear hd0 hd1 ed;clear d;rintro m fr V ⟨d,q,rs,ll,rfl,hq,hrd,hd0,hrb,hQS,rfl,rfl⟩ hrec;by_cases hd:d>0
   ·have ed:IntKind.i64.wrap (d-1)=d-1:=jh O O
    have more:∀(t:RowD) (q:Nat) (ll:List (Nat×List (List Ce))) (fr:Fr) (V:jb),RowB t->q<=code.length->StS G 1 pol T.name (rs++[t]) .nils .nils ll->fr=[(0,AV.c (.ptr id v 0 0)),(4,.c (.ptr (G.next+0) 0 0 0)),(6,.c (.fp (ja T))),(7,.c (.ptr (G.next+1) 0 0 0)),(8,.c (.int .i64 (IntKind.i64.wrap (d-1))))]->V=E (Rd.go G id v code q) ll->_:=λt q ll fr V h1 h2 h3 h4 h5=>
     hrec (d-1).toNat fr V O ⟨d-1,q,rs++[t],ll,rfl,h2,by rw[yay,ybh];omega,O,λx hx=>by
      rcases List.mem_append.1 hx with hx|hx
      ·exact hrb x hx
      ·rw[List.mem_singleton.1 hx];exact h1,h3,by rw[h4,ed],h5⟩
    clear hrec;rcases hQS with⟨rfl,rfl⟩|⟨u,junk,hj,rfl⟩
    ·repeat' first|apply Go.seq|apply Go.skip|apply Go.region|apply Go.nil|apply Go.block|apply Go.blk|apply Go.segs|(apply Go.exit;exact rfl)|(apply Go.cond true;exact rfl)|(apply Go.cond false;exact rfl)|apply yB|apply yC|((first|apply yD|apply yE);(first|exact yF|assumption);iterate 6 exact rfl)|((first|apply yG|apply yH|apply yI);exact rfl;(first|exact yJ|exact yK rfl rfl|exact yL rfl|exact yM rfl|exact rfl|exact aL rfl rfl rfl rfl rfl|exact aS rfl rfl rfl rfl rfl rfl rfl))|((first|apply yN|apply yO|apply yP);exact rfl)|exact yaF|(((first|apply yT|apply yU|apply yV|apply yW);exact rfl;(first|exact .d|exact .e|exact .n|((fail_if_success exact bqt);(fail_if_success exact bqf);exact .b)))<;>intro _)
     apply Go.draw;refine Go.qr [(0,[z6]),(0,[[.int .i64 1,.str T.name,.nils,.nils,.nils,.int .i64 pol]])] rfl ?_;repeat' first|(apply Qx.op;exact rfl;(first|exactλ_ _ _=>rfl|exact weg (k:=1) rfl rfl rfl rfl rfl))
     refine Qx.drawn hr hq rfl rfl rfl (wj2 T O) ?_;rintro _ q4 hq4 ⟨vs,hvl,hvb,rfl⟩;repeat' first|(apply Qx.op;exact rfl;exactλ_ _ _=>rfl)
     refine .nil ?_;repeat' first|(apply yA;exact rfl)|apply yB|apply yC|((first|apply yD|apply yE);(first|exact yF|assumption);iterate 6 exact rfl)|((first|apply yG|apply yH|apply yI);exact rfl;(first|exact yJ|exact yK rfl rfl|exact yL rfl|exact yM rfl|exact wii rfl rfl (λe he=>by rw[List.mem_singleton.1 he];rfl) (by simp)|exact rfl|exact aL rfl rfl rfl rfl rfl|exact aS rfl rfl rfl rfl rfl rfl rfl))|((first|apply yN|apply yO|apply yP);exact rfl)|exact yaF|(((first|apply yT|apply yU|apply yV|apply yW);exact rfl;(first|exact .d|exact .e|exact .n|((fail_if_success exact bqt);(fail_if_success exact bqf);exact .b)))<;>intro _)
     exact Go.keep [0,4,6,7,8] (more (⟨0,vs⟩:RowD) q4 _ _ _ ⟨by show vs.length<=60;omega,hvb⟩ hq4 (.inr ⟨0,[],Jk.nil,rfl⟩) rfl rfl)
    ·have hbd:((rs.map wb).length+1)*32<=140737488355328:=by rw[yae];omega
     repeat' first|apply Go.seq|apply Go.skip|apply Go.region|apply Go.nil|apply Go.block|apply Go.blk|apply Go.segs|(apply Go.exit;exact rfl)|(apply Go.cond true;exact rfl)|(apply Go.cond false;exact rfl)|apply yB|apply yC|((first|apply yD|apply yE);(first|exact yF|assumption);iterate 6 exact rfl)|((first|apply yG|apply yH|apply yI);exact rfl;(first|exact yJ|exact yK rfl rfl|exact yL rfl|exact yM rfl|exact rfl|exact aL rfl rfl rfl rfl rfl|exact aS rfl rfl rfl rfl rfl rfl rfl))|((first|apply yN|apply yO|apply yP);exact rfl)|exact yaF|(((first|apply yT|apply yU|apply yV|apply yW);exact rfl;(first|exact .d|exact .e|exact .n|((fail_if_success exact bqt);(fail_if_success exact bqf);exact .b)))<;>intro _)
     apply Go.draw;refine Go.qr [(0,[z6]),(0,[[.int .i64 1,.str T.name,vec (G.next+2) u (rs.map wb) junk,.nils,.nils,.int .i64 pol]]),(u,rs.map wb++junk)] rfl ?_;repeat' first|(apply Qx.op;exact rfl;(first|exactλ_ _ _=>rfl|exact weg (k:=1) rfl rfl rfl rfl rfl))
     refine Qx.drawn hr hq rfl rfl rfl (wj2 T O) ?_;rintro _ q4 hq4 ⟨vs,hvl,hvb,rfl⟩;repeat' first|(apply Qx.op;exact rfl;exactλ_ _ _=>rfl)
     refine .nil ?_;refine Go.sapp1 (k:=2) (ys:=rs.map wb) (junk:=junk) (z:=wb (⟨0,vs⟩:RowD)) rfl rfl rfl rfl rfl zal hj rfl hbd λu' junk' hj'=>?_;rw[show rs.map wb++[wb (⟨0,vs⟩:RowD)]=(rs++[(⟨0,vs⟩:RowD)]).map wb by simp];repeat' first|refine X ?_|exact yaF|refine yaS ?_ ?_<;>intro _
     exact Go.keep [0,4,6,7,8] (more (⟨0,vs⟩:RowD) q4 _ _ _ ⟨by show vs.length<=60;omega,hvb⟩ hq4 (.inr ⟨u',junk',hj',rfl⟩) rfl rfl)
   ·clear hrec;repeat' first|refine X ?_|exact yaF|refine yaS ?_ ?_<;>intro _
    exact Go.keep [0,4,7] (hm _ _ ⟨q,rs,[],[],_,_,ll,hq,⟨O,hrb⟩,⟨.inr ⟨rfl,rfl⟩,gx,λt ht=>(by cases ht)⟩,⟨.inr ⟨rfl,rfl⟩,gx,λt ht=>(by cases ht)⟩,hQS,rfl,rfl⟩)
  ·repeat' first|refine X ?_|exact yaF|refine yaS ?_ ?_<;>intro _
   refine Go.drawn hr hq2 rfl rfl rfl (zo T.cols.length O O) ?_;rintro _ q3 hq3 ⟨c1,_,_,rfl⟩;repeat' first|refine X ?_|exact yaF|refine yaS ?_ ?_<;>intro _
   refine Go.drawn hr hq3 rfl rfl rfl (zo 5 gb gb) ?_;rintro _ q4 hq4 ⟨a,_,_,rfl⟩;repeat' first|refine X ?_|((first|apply yQ|apply yR|apply yS);(iterate 3 exact rfl);exact wak _)|((first|apply yQ|apply yR|apply yS);(iterate 3 exact rfl);exact way _)|exact yaF|refine yaS ?_ ?_<;>intro _
   refine Go.meet (K':=[_,_]) (λfr V=>∃(q:Nat) (e:List Tok),q<=code.length/\(e.length<=3/\∀t∈e,bTok 12 t)/\
    fr=[(0,.c (.ptr id v 0 0)),(4,.c (.ptr (G.next+0) 0 0 0)),(6,.c (.fp (ja T))),(7,.c (.ptr (G.next+1) 0 0 0)),(9,.c (.int .i64 c1)),(10,.c (.fz (e.map zg)))]/\V=E (Rd.go G id v code q) [(0,[z6]),(0,[[.int .i64 2,.str T.name,.nils,.nils,.nils,.int .i64 pol]])]) (λK hm=>?_) ?_
   ·refine Go.drawn hr hq4 rfl rfl rfl (zy 2 gb gb) ?_;rintro _ q5 hq5 ⟨b,rfl⟩
    cases b
    ·repeat' first|refine X ?_|exact yaF|refine yaS ?_ ?_<;>intro _
     exact Go.keep [0,4,6,7,9,10] (hm _ _ ⟨q5,[zcq (vInt a)],hq5,⟨gx,λt ht=>by rw[List.mem_singleton.1 ht];exact yac _⟩,rfl,rfl⟩)
    ·repeat' first|refine X ?_|((first|apply yQ|apply yR|apply yS);(iterate 3 exact rfl);exact jdb _)|((first|apply yQ|apply yR|apply yS);(iterate 3 exact rfl);exact wak _)|((first|apply yQ|apply yR|apply yS);(iterate 3 exact rfl);exact way _)|exact yaF|refine yaS ?_ ?_<;>intro _
     exact Go.keep [0,4,6,7,9,10] (hm _ _ ⟨q5,[tCol c1,zcq (vInt 1),⟨9,0,zf⟩],hq5,⟨gx,λt ht=>by
      simp only[List.mem_cons,List.not_mem_nil,or_false]at ht;rcases ht with rfl|rfl|rfl<;>exact yac _⟩,rfl,rfl⟩)
   ·rintro fr V ⟨q,e,hq,⟨he,heb⟩,rfl,rfl⟩;repeat' first|refine X ?_|exact yaF|refine yaS ?_ ?_<;>intro _
    refine Go.drawn hr hq rfl rfl rfl (whf T.cols.length O O) ?_;rintro _ q6 hq6 ⟨w,hw,hwb,rfl⟩;repeat' first|refine X ?_|exact yaF|refine yaS ?_ ?_<;>intro _
    exact Go.keep [0,4,7] (hm _ _ ⟨q6,[],w,[⟨c1,e⟩],_,_,_,hq6,⟨gx,λt ht=>(by cases ht)⟩,⟨.inl rfl,hw,hwb⟩,⟨.inl rfl,gx,λt ht=>by rw[List.mem_singleton.1 ht];exact⟨he,heb⟩⟩,.inl ⟨rfl,rfl⟩,rfl,rfl⟩)
  ·repeat' first|refine X ?_|exact yaF|refine yaS ?_ ?_<;>intro _
   refine Go.drawn hr hq2 rfl rfl rfl (whf T.cols.length O O) ?_;rintro _ q6 hq6 ⟨w,hw,hwb,rfl⟩;repeat' first|refine X ?_|exact yaF|refine yaS ?_ ?_<;>intro _
   exact Go.keep [0,4,7] (hm _ _ ⟨q6,[],w,[],_,_,_,hq6,⟨gx,λt ht=>(by cases ht)⟩,⟨.inl rfl,hw,hwb⟩,⟨.inr ⟨rfl,rfl⟩,gx,λt ht=>(by cases ht)⟩,.inl ⟨rfl,rfl⟩,rfl,rfl⟩)
 clear hq hq1 hq2;clear q q1 q2;rintro fr V ⟨q,rs,w,sets,x3,x4,ll,hq,⟨hrl,hrb⟩,⟨h3,hw,hwb⟩,⟨h4,hsl,hsb⟩,hQS,rfl,rfl⟩;repeat' first|refine X ?_|exact yaF|refine yaS ?_ ?_<;>intro _
 refine Go.drawn hr hq rfl rfl rfl (zo 40 gb gb) ?_;rintro _ q1 hq1 ⟨g,_,_,rfl⟩;repeat' first|refine X ?_|fail
 refine Go.meet (K':=[_,_]) (λfr V=>∃(q:Nat) (kd:Int) (nm:List UInt8) (ll:List (Nat×List (List Ce))),q<=code.length/\nm.length<=12/\StS G kd pol nm rs x3 x4 ll/\
  fr=[(4,.c (.ptr (G.next+0) 0 0 0)),(7,.c (.ptr (G.next+1) 0 0 0))]/\V=E (Rd.go G id v code q) ll) (λK hm=>?_) ?_
 ·by_cases h38:g=38
  ·subst h38;rcases hQS with⟨rfl,rfl⟩|⟨u,junk,hj,rfl⟩
   ·repeat' first|refine X ?_|exact yaF|refine yaS ?_ ?_<;>intro _
    exact Go.keep [4,7] (hm _ _ ⟨q1,kd,[120],_,hq1,gb,.inl ⟨rfl,rfl⟩,rfl,rfl⟩)
   ·repeat' first|refine X ?_|exact yaF|refine yaS ?_ ?_<;>intro _
    exact Go.keep [4,7] (hm _ _ ⟨q1,kd,[120],_,hq1,gb,.inr ⟨u,junk,hj,rfl⟩,rfl,rfl⟩)
  ·by_cases h39:g=39
   ·subst h39;repeat' first|refine X ?_|exact yaF|refine yaS ?_ ?_<;>intro _
    refine Go.drawn hr hq1 rfl rfl rfl (whv 1 3 gb gb gb gb) ?_;rintro _ q2 hq2 ⟨a,rfl⟩;rcases hQS with⟨rfl,rfl⟩|⟨u,junk,hj,rfl⟩
    ·repeat' first|refine X ?_|exact yaF|refine yaS ?_ ?_<;>intro _
     exact Go.keep [4,7] (hm _ _ ⟨q2,a,T.name,_,hq2,hnm,.inl ⟨rfl,rfl⟩,rfl,rfl⟩)
    ·repeat' first|refine X ?_|exact yaF|refine yaS ?_ ?_<;>intro _
     exact Go.keep [4,7] (hm _ _ ⟨q2,a,T.name,_,hq2,hnm,.inr ⟨u,junk,hj,rfl⟩,rfl,rfl⟩)
   ·repeat' first|refine X ?_|exact yaF|refine yaS ?_ ?_<;>intro _
    all_goals first
     |contradiction
     |exact Go.keep [4,7] (hm _ _ ⟨q1,kd,T.name,ll,hq1,hnm,hQS,rfl,rfl⟩)
 clear hQS hq hq1 hkc;clear q q1 ll kd;rintro fr V ⟨q,kd,nm,ll,hq,hn,hQS,rfl,rfl⟩;have hst:wd6 34359738368 ⟨kd,nm,rs,w,sets,pol⟩:=⟨by show nm.length<=_;omega,⟨by show rs.length<=_;omega,λr hr=>⟨by have:=(hrb r hr).1;omega,λv hv=>yaj ((hrb r hr).2 v hv) gb⟩⟩,⟨by show w.length<=_;omega,λt ht=>jjd (hwb t ht)⟩,⟨by show sets.length<=_;omega,λa ha=>⟨by have:=(hsb a ha).1;omega,λt ht=>jjd ((hsb a ha).2 t ht)⟩⟩⟩;rcases hQS with⟨rfl,rfl⟩|⟨u,junk,hj,rfl⟩
 ·repeat' first|refine X ?_|exact yaF|refine yaS ?_ ?_<;>intro _
  refine .ret (waq (k:=0) (x:=.agg [.int .i64 kd,.str nm,.nils,x3,x4,.int .i64 pol]) rfl rfl rfl (yac _) rfl) (.f hq ⟨⟨kd,nm,[],w,sets,pol⟩,hst,rfl⟩ (.agg rfl λi hi=>?_));have hi6:i<6:=hi;have:i=0\/i=1\/i=2\/i=3\/i=4\/i=5:=O;rcases this with rfl|rfl|rfl|rfl|rfl|rfl
  ·exact .same _ (.int _ _)
  ·exact .same _ (.str _)
  ·exact .nil
  ·exact h3.frz (zah wdb)
  ·exact h4.frz (jhq _)
  ·exact .same _ (.int _ _)
 ·repeat' first|refine X ?_|exact yaF|refine yaS ?_ ?_<;>intro _
  refine .ret (waq (k:=0) (x:=.agg [.int .i64 kd,.str nm,vec (G.next+2) u (rs.map wb) junk,x3,x4,.int .i64 pol]) rfl rfl rfl (yac _) rfl) (.f hq ⟨⟨kd,nm,rs,w,sets,pol⟩,hst,rfl⟩ (.agg rfl λi hi=>?_));have hi6:i<6:=hi;have:i=0\/i=1\/i=2\/i=3\/i=4\/i=5:=O;rcases this with rfl|rfl|rfl|rfl|rfl|rfl
  ·exact .same _ (.int _ _)
  ·exact .same _ (.str _)
  ·have hz:=ja5 (G:=Rd.go G id v code q) (l:=[(0,[[.int .i64 kd,.str nm,vec (G.next+2) u (rs.map wb) junk,x3,x4,.int .i64 pol]]),(0,[[.int .i64 kd,.str nm,vec (G.next+2) u (rs.map wb) junk,x3,x4,.int .i64 pol]]),(u,rs.map wb++junk)]) (k:=2) (v:=u) (N:=G.next) (ys:=rs.map wb) (junk:=junk) rfl (wjd _) (ybd _ _)
   cases hz with
   |c h=>exact h
  ·exact h3.frz (zah wdb)
  ·exact h4.frz (jhq _)
  ·exact .same _ (.int _ _)
variable {G:jb}{l:List (Nat×List (List Ce))}
theorem zje{code:List UInt8}{q:Nat}:E (Rd.go (E G [(0,rdB code 0)]) (G.next+0) 0 code q) l=E G ((0,rdB code q)::l):=by
 have:Rd.go (E G [(0,rdB code 0)]) (G.next+0) 0 code q=E G [(0,rdB code q)]:=zin gx;rw[this,E_E]
 rfl
theorem zjz{fr:Fr}{t0 t1 t2 k2 v2 i2 j2 s2:Nat}{g2:Bool}{es2:List (List Ce)}{e2:List Ce}{x0 x1 x2:AV}(h0:look fr t0=some x0)(h1:look fr t1=some x1)
 (hp2:look fr t2=some (.c (.ptr (G.next+k2) v2 i2 j2))) (hl2:l[k2]?=some (v2,es2)) (he2:es2[i2]?=some e2) (hj2:j2<=e2.length) (hx2:zbk g2 s2 (e2.drop j2)=some x2):
 retv fr (E G l) [.t t0,.t t1,.m t2 g2 s2]=some (.tup [x0,x1,x2]):=by
 simp[retv,revs,RV.ev,h0,h1,hp2,jb.at_,E_at,hl2,he2,hj2,hx2]
theorem jjz{k v N:Nat}{e cs:List Ce}(hl:l[k]?=some (v,[e]))(hc:cs.length=e.length)(h:∀j (h1:j<e.length) (h2:j<cs.length),Frz (E G l) N e[j] cs[j])(hN:N<=G.next+k):FrzV (E G l) N (.c (.ptr (G.next+k) v 0 0)) (.c (.fp cs)):=
 .c (.ptr _ _ _ _ [e] e cs hN (zdx hl) rfl O λj hj=>by
  simp only[Nat.zero_add];exact h j O hj)
def jkt(r:AV):Prop:=∃(s:List wc) (db:List Data) (x:Stmt),SchD s/\(dbF s db=true\/db=[])/\wd6 34359738368 x/\r=.tup [.c (.fz (s.map ja)),.c (.fz (db.map wa)),.agg (wi x)]
theorem zg2(x:Stmt):∀y∈wi x,Old n y:=λy hy=>by
 simp only[wi,List.mem_cons,List.not_mem_nil,or_false]at hy;rcases hy with rfl|rfl|rfl|rfl|rfl|rfl
 ·exact .int _ _
 ·exact .str _
 ·exact zj (wjd _)
 ·exact zj (zah wdb)
 ·exact zj (jhq _)
 ·exact .int _ _
theorem jje(x:Stmt):∀y∈(AV.agg (wi x)).all,Old n y:=zg2 x
theorem we4(code:List UInt8)(hc:code.length<=1048576):Told Tryz.prog 44 [.c (.fz (code.map encB))] jkt:=by
 refine Told.run mixed zc3 gz λG hS=>?_;clear hS;repeat' first|refine yaN ?_|exact yaF|refine yaS ?_ ?_<;>intro _
 refine .call _ rfl rfl rfl (wgx code (E G [(0,[z6])])) ?_;rintro r V ⟨rfl,rfl⟩;rw[zgy hc];have hr:=jhl (G:=E G [(0,[z6])]) hc;repeat' first|refine yaN ?_|exact yaF|refine yaS ?_ ?_<;>intro _
 refine Go.drawn hr (yac _) rfl rfl rfl jgu ?_;rintro _ q hq ⟨s,hs,rfl⟩;repeat' first|refine yaN ?_|exact yaF|refine yaS ?_ ?_<;>intro _
 refine Go.drawn hr hq rfl rfl rfl (zi2 s 5 gb gb hs) ?_;rintro _ q2 hq2 ⟨db,hd,rfl⟩;repeat' first|refine yaN ?_|exact yaF|refine yaS ?_ ?_<;>intro _
 refine Go.drawn hr hq2 rfl rfl rfl (wkh s hs) ?_;rintro _ q3 hq3 ⟨x,hx,rfl⟩;rw[zje,show E (E G [(0,[z6])]) [(0,rdB code q3)]=E G [(0,[z6]),(0,rdB code q3)] by rw[E_E];rfl];repeat' first|refine yaN ?_|exact yaF|refine yaS ?_ ?_<;>intro _
 refine .ret (zjz (k2:=0) (x0:=.c (.fz (s.map ja))) (x1:=.c (.fz (db.map wa))) (x2:=.agg (wi x)) rfl rfl rfl rfl rfl (yac _) rfl) ⟨_,⟨s,db,x,hs,hd,hx,rfl⟩,_,rfl,.tup rfl λi hi=>?_⟩;have:i=0\/i=1\/i=2:=by simp at hi;omega
 rcases this with rfl|rfl|rfl
 ·exact .c (.same _ (zj (zdd _)))
 ·exact .c (.same _ (zj (z7 _)))
 ·exact .refl (jje x)
theorem zij(l:List RowD):(jv l []).2=true:=by
 have h:∀(l:List RowD) (acc:List Int),∃ids,ww [] l acc=some ids:=by
  intro l
  induction l with
  |nil=>exactλacc=>⟨acc,rfl⟩
  |cons r l ih=>
   intro acc;rw[ww,if_neg (by rw[isM,if_neg gx];decide)];exact ih _
 obtain⟨ids,hi⟩:=h l [];rw[jv,hi]
section
variable {s:List wc}{db db0 now:List Data}{k:Nat}{x:Stmt}
theorem whq:∀{J:List (List Data->Res)} {now:List Data} {m:Int},(∀j∈J,∀now,0<=(j now).2)->(j4 db0 (polS x 1) J now m).2.1≠5->m<=(j4 db0 (polS x 1) J now m).2.2
 |[],_,_,_,_=>ybe _
 |j::r,now,m,hJ,h=>by
  have hr:∀j∈r,∀now,0<=(j now).2:=λj hj=>hJ j (by simp[hj]);rw[j4]at h⊢;by_cases hq:(j now).2=0
  ·rw[if_pos hq]at h⊢;have:=whq hr h;omega
  ·have hn:¬((j now).2=-1\/jd7 (polS x 1) (j now).2=true):=by
    have:=hJ j gx now;rintro(e|e)
    ·omega
    ·cases e
   rw[if_neg hq,if_neg hn]at h⊢;by_cases h5:(j now).2=5
   ·rw[if_neg λe=>e.2 h5]at h;exact absurd h5 h
   ·rw[if_pos ⟨rfl,h5⟩];exact ybe _
theorem jg2{j:List Data->Res}{r:List (List Data->Res)}{m:Int}(hJ:∀i∈j::r,∀now,0<=(i now).2)(h:(j4 db0 (polS x 1) (j::r) now m).2.1≠5):
 ((j now).2=0/\j4 db0 (polS x 1) (j::r) now m=j4 db0 (polS x 1) r (j now).1 (m+1)/\m<(j4 db0 (polS x 1) (j::r) now m).2.2)\/(¬(j now).2=0/\j4 db0 (polS x 1) (j::r) now m=(now,(j now).2,m)):=by
 have hr:∀i∈r,∀now,0<=(i now).2:=λi hi=>hJ i (by simp[hi]);have h0:=hJ j gx now;by_cases hq:(j now).2=0
 ·refine .inl ⟨hq, ?_⟩;rw[j4,if_pos hq]at h⊢;have:=whq hr h;exact⟨rfl,O⟩
 ·refine .inr ⟨hq, ?_⟩;have hn:¬((j now).2=-1\/jd7 (polS x 1) (j now).2=true):=by
   rintro(e|e)
   ·omega
   ·cases e
  rw[j4,if_neg hq,if_neg hn]at h⊢;by_cases h5:(j now).2=5
  ·rw[if_neg λe=>e.2 h5]at h;exact absurd h5 h
  ·rw[if_pos ⟨rfl,h5⟩]
theorem wjz(h:dbF s db=true)(hk:k<s.length){vals:List Val}(hf:fitF s[k] vals=true)(h0:(insF (chgF s 12) s k vals false db).2.2=0):dbF s (insF (chgF s 12) s k vals false db).1=true:=by
 have hG:=dbB h;have hk2:k<db.length:=by rw[hG.len];exact hk
 have hR:=hG.rows k hk hk2;revert h0;rw[insF];split
 ·rw[z4];split
  ·rw[insC,if_neg gb];exactλh=>by simp at h
  ·rename_i hc;have hz:zx (jm db k) (zk (tabN s k)) (zbg (jm db k)) vals=[]:=by
    simp only[Bool.not_false,Bool.and_true,decide_eq_true_eq]at hc;exact yam O
   rw[hz,wx,insC,if_pos rfl,insD];split
   ·exactλh=>by simp at h
   ·rename_i hn;rw[insE];split
    ·exactλh=>by simp at h
    ·intro _;show dbF s (db.set k ⟨jm db k++[⟨zbg (jm db k),vals⟩]⟩)=true;rw[je hk2]at hn⊢;have h1:=zea λr hr=>(hR.ids r hr).1;refine wi1 h hk hk2 (x:=⟨zbg db[k].rows,vals⟩) ?_ hf (λq hq=>ji7 hR.rise q hq) (by have:=hR.len;omega);rw[isIn,yarq,decide_eq_true_eq,decide_eq_true_eq];exact⟨h1,by show zbg db[k].rows<=_;omega⟩
 ·rename_i hc;exactλh=>absurd h hc
end
structure OneI(s:List wc)(k:Nat)(x:Stmt)(E:Ins)(db0:List Data)(i:Nat)(now:List Data):Prop where
 db:dbF s now=true
 run:j4 db0 (polS x 1) ((x.rows.drop i).map λr=>insJ s k (polS x 1) r.vals) now i=E
 le:i<=x.rows.length
theorem zki{s:List wc}(hb:∀t∈s,j6 34359738368 t){db:List Data}{x:Stmt}(hq:wd6 34359738368 x){E:Ins}(hE:ExF s db (polS x 1)=E)(h1:x.kind=1)(hc1:E.2.1≠1)(hc5:E.2.1≠5):
 ∃k:Nat,∃hk:k<s.length,whh s x.table=some s[k]/\idxA (λu:wc=>u.name==x.table) s 0=(k:Int)/\0<=E.2.2/\OneI s k x E db 0 db/\
  (∀i now,OneI s k x E db i now->(i:Int)<E.2.2->∃h:i<x.rows.length,(InsF s now k x.rows[i].vals false).2.2=0/\OneI s k x E db (i+1) (InsF s now k x.rows[i].vals false).1)/\
  (∀i now,OneI s k x E db i now->(i:Int)=E.2.2->E.1=now/\(¬E.2.1=0->∃h:i<x.rows.length,(InsF s now k x.rows[i].vals false).2.2=E.2.1)/\(E.2.1=0->i=x.rows.length)):=by
 have hq1:wd6 34359738368 (polS x 1):=hq;rw[ExF]at hE;split at hE
 ·rename_i hok;obtain⟨hdb,hl⟩:=Bool.and_eq_true_iff.1 hok;obtain⟨k,hk,hidx,hG⟩:=jhz hq1 hl;have hidx2:idxA (λu:wc=>u.name==x.table) s 0=(k:Int):=hidx;have hfit:∀(i:Nat) (h:i<x.rows.length),fitF s[k] x.rows[i].vals=true:=λi h=>hG.rows.2 _ (yaa h);have hins:∀(i:Nat) (h:i<x.rows.length) (now:List Data),dbF s now=true->InsF s now k x.rows[i].vals false=topI now (insF (chgF s 12) s k x.rows[i].vals false now):=λi h now hn=>by
   have hin:isIn (k:Int) 0 (s.length-1)=true:=by
    simp only[isIn,Bool.and_eq_true,decide_eq_true_eq];omega
   rw[InsF,hn,hin,ybf,wq hk,hfit i h]
   rfl
  have hjob:∀(i:Nat) (h:i<x.rows.length) (now:List Data),insJ s k (polS x 1) x.rows[i].vals now=((insF (chgF s 12) s k x.rows[i].vals false now).1,(insF (chgF s 12) s k x.rows[i].vals false now).2.2):=λi h now=>rfl;have hcod:∀(l:List RowD),∀j∈l.map λr=>insJ s k (polS x 1) r.vals,∀now,0<=(j now).2:=λl j hj now=>by
   obtain⟨r,_,rfl⟩:=List.mem_map.1 hj;exact wgb
  rw[hidx,ybf,jb4,hG.ins h1,if_pos (zij _),ze4,if_pos (show(polS x 1).kind=1 from h1)]at hE;have hz:=whq (hcod x.rows) (db0:=db) (now:=db) (m:=0) (x:=x) (by show(j4 db (polS x 1) (x.rows.map λr=>insJ s k (polS x 1) r.vals) db 0).2.1≠5;exactλe=>hc5 (by rw[<-hE];exact e));have hz2:0<=E.2.2:=by rw[<-hE];exact hz
  refine⟨k,hk,zdc hidx2 hk,hidx2,hz2,⟨hdb,hE,yac _⟩,λi now hI hi=>?_,λi now hI hi=>?_⟩
  ·have hr:=hI.run;by_cases hlt:i<x.rows.length
   ·refine⟨hlt, ?_⟩;rw[yab hlt,ybi]at hr;have h5:=hc5;rw[<-hr]at h5;rcases jg2 (by rw[<-ybi (f:=λr:RowD=>insJ s k (polS x 1) r.vals)];exact hcod _) h5 with⟨g1,g2,g3⟩|⟨g1,g2⟩
    ·rw[hjob i hlt now]at g1 g2;have hz:=hins i hlt now hI.db;rw[topI,if_pos g1]at hz;rw[hz];refine⟨g1,wjz hI.db hk (hfit i hlt) g1, ?_,hlt⟩;rw[g2]at hr;rw[<-hr]
     rfl
    ·rw[g2]at hr;rw[<-hr]at hi;exact absurd hi (Int.lt_irrefl _)
   ·rw[yad O]at hr;rw[<-hr]at hi;exact absurd hi (Int.lt_irrefl _)
  ·have hr:=hI.run;by_cases hlt:i<x.rows.length
   ·rw[yab hlt,ybi]at hr;have h5:=hc5;rw[<-hr]at h5;rcases jg2 (by rw[<-ybi (f:=λr:RowD=>insJ s k (polS x 1) r.vals)];exact hcod _) h5 with⟨g1,g2,g3⟩|⟨g1,g2⟩
    ·rw[hr]at g3;omega
    ·rw[g2]at hr;have hz:=hins i hlt now hI.db;rw[hjob i hlt now]at g1;rw[topI,if_neg g1]at hz;rw[<-hr];refine⟨rfl,λ_=>⟨hlt,by rw[hz];rfl⟩,λh=>absurd h g1⟩
   ·rw[yad O]at hr;rw[<-hr];refine⟨rfl,λh=>absurd rfl h,λ_=>?_⟩;have:=hI.le;omega
 ·rw[<-hE]at hc1;exact absurd rfl hc1
end Go.Proofs.YtedaadaaibofaaaGreat.Am
