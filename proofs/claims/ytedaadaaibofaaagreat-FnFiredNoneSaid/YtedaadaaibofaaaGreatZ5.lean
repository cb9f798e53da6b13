/- Joined texts: A6, A13, A7, A14, A15, A16, A8, A18, A17, A19, A20, A21, A23, A24, A25, A26, S10, A27, C2, A28, A29, A30, A31, X8, N1, C4, Y14, N2, Y15, S8, D3, D4. -/
import Derived.Test.YtedaadaaibofaaaGreatZ1
import Derived.Test.YtedaadaaibofaaaGreatZ2
import Derived.Test.YtedaadaaibofaaaGreatZ3
import Derived.Test.YtedaadaaibofaaaGreatZ4
set_option maxHeartbeats 1000000
set_option linter.unusedVariables false
set_option linter.unusedSimpArgs false
namespace Go.Proofs.YtedaadaaibofaaaGreat.Am
variable {I:Nat->Int->Prop}

set_option maxHeartbeats 4000000 in
theorem jjp{s:List wc}{run:Chg->List Data->Res}{deep:Int}(hs:SchG s)(hr:zd4 I s run (IntKind.i64.wrap (deep+1))){n:Nat}(hn:n<s.length)(y:Way)(key wth:List Val)(gone:Bool)(wv:Ce)(hw:With gone wv wth y.cols.length)(hwv:∀v∈wth,zr v=true)
 (hc:InR y.cols s[n].cols.length) (hcl:y.cols.length<=34359738368) (db:List Data) (h:DbG I s db):
 Pure Tryz.prog 365 [.c (.fz (s.map ja)),.c (.fz (db.map wa)),.c (.int .i64 (n:Int)),.agg (jds y),.c (.fz (key.map encV)),.c wv,.c (.bool gone),.c (.int .i64 deep)] (resV (zac run n y key wth gone (w8 (jp db n) y.cols key) db)):=by
 refine yap [11] jgl λG hS hA=>?_;clear hA;have hn2:n<db.length:=by rw[h.len];exact hn
 have hR:=h.rows n hn hn2;have c1:=wfd db[n] y.cols key (yai hR.len gb) hcl (λr hr2=>by rw[(hR.fit r hr2).1];exact hc);rw[we hn2];have hil:(w8 db[n].rows y.cols key).length<=60:=by
  rw[w8,yae];exact yai (ybt _ _) hR.len
 generalize w8 db[n].rows y.cols key=ids at c1 hil⊢;have hwo:∀(n:Nat),∀x∈(AV.c wv).all,Old n x:=λn=>hw.old;repeat' first|refine X ?_|((first|apply yG|apply yH|apply yI);exact rfl;(first|exact yax wa rfl hn2))|refine yaC (c1) ?_|exact yaF|refine yaS ?_ ?_<;>intro _
 clear c1
 refine Go.keep [0,1,2,4,5,6,7,11,18,19] (Go.loops (I:=λm fr V=>∃(i:Nat) (k:Int) (db':List Data),m=ids.length-i/\i<=ids.length/\k=i/\(DbG I s db'/\zac run n y key wth gone ids db=zac run n y key wth gone (ids.drop i) db')/\
  fr=[(0,.c (.fz (s.map ja))),(1,.c (.fz (db'.map wa))),(2,.c (.int .i64 (n:Int))),(4,.c (.fz (key.map encV))),(5,.c wv),(6,.c (.bool gone)),(7,.c (.int .i64 deep)),(11,.c (.fp (jds y))),(18,.c (.fz (ids.map encI))),(19,.c (.int .i64 k))]/\V=E G []) ?_ _ _ _ ⟨0,_,db,rfl,yac _,rfl,⟨h,rfl⟩,rfl,rfl⟩)
 rintro m fr V ⟨i,k,db',rfl,hi,hk,⟨hdb,hst⟩,rfl,rfl⟩ hrec;by_cases hlt:i<ids.length
 ·have hn3:n<db'.length:=by rw[hdb.len];exact hn
  have hR3:=hdb.rows n hn hn3;rw[yab hlt,zac,we hn3]at hst;have c2:=wac db'[n] ids[i] (yai hR3.len gb);rcases zj db'[n].rows ids[i]with⟨hx1,hx2⟩|⟨j,hj,hx1,hx2⟩
  ·rw[hx1]at c2;rw[hx2]at hst;repeat' first|refine X ?_|((first|apply yG|apply yH|apply yI);exact rfl;(first|exact yax encI hk hlt|exact yax wa rfl hn3))|refine yaC (c2) ?_|exact yaF|refine yaS ?_ ?_<;>intro _
   exact Go.keep [0,1,2,4,5,6,7,11,18,19] (hrec _ _ _ O ⟨i+1,_,db',rfl,hlt,wb hk O,⟨hdb,hst⟩,rfl,rfl⟩)
  ·rw[hx1]at c2;rw[hx2]at hst;simp only at hst;have hfit:=hR3.fit _ (yaa hj);have hrow:jai (jp db' n) ids[i]=some db'[n].rows[j]:=by rw[we hn3];exact hx2
   have hidx:db'[n].rows[j].id=ids[i]:=(zz hrow).2;have c3:=wbi y.cols db'[n].rows[j].vals hcl (by rw[hfit.1];exact hc);have c4:=zbi (keyF y.cols db'[n].rows[j].vals) key (by rw[wa0];exact hcl);rw[hasB]at hst
   cases hwh:zab y.cols db'[n].rows[j].vals
   ·rw[hwh,ybg,if_neg yah]at hst;rw[hwh]at c3;repeat' first|refine X ?_|((first|apply yG|apply yH|apply yI);exact rfl;(first|exact yax encI hk hlt|exact yax wa rfl hn3|exact yax jc rfl hj))|refine yaC (c2) ?_|refine yaC (c3) ?_|exact yaF|refine yaS ?_ ?_<;>intro _
    exact Go.keep [0,1,2,4,5,6,7,11,18,19] (hrec _ _ _ O ⟨i+1,_,db',rfl,hlt,wb hk O,⟨hdb,hst⟩,rfl,rfl⟩)
   ·rw[hwh,yav]at hst;rw[hwh]at c3
    cases hke:(keyF y.cols db'[n].rows[j].vals==key)
    ·rw[hke,if_neg yah]at hst;rw[hke]at c4;generalize keyF y.cols db'[n].rows[j].vals=kf at c3 c4;repeat' first|refine X ?_|((first|apply yG|apply yH|apply yI);exact rfl;(first|exact yax encI hk hlt|exact yax wa rfl hn3|exact yax jc rfl hj))|refine yaC (c2) ?_|refine yaC (c3) ?_|refine yaC (c4) ?_|exact yaF|refine yaS ?_ ?_<;>intro _
     exact Go.keep [0,1,2,4,5,6,7,11,18,19] (hrec _ _ _ O ⟨i+1,_,db',rfl,hlt,wb hk O,⟨hdb,hst⟩,rfl,rfl⟩)
    ·rw[hke,if_pos rfl]at hst;rw[hke]at c4;generalize keyF y.cols db'[n].rows[j].vals=kf at c3 c4;rw[oneF]at hst;by_cases ha0:y.act=0
     ·rw[if_pos ha0]at hst
      cases hwt:y.wait
      ·rw[hwt,if_neg yah,if_neg gb]at hst;repeat' first|refine X ?_|((first|apply yG|apply yH|apply yI);exact rfl;(first|exact yax encI hk hlt|exact yax wa rfl hn3|exact yax jc rfl hj))|refine yaC (c2) ?_|refine yaC (c3) ?_|refine yaC (c4) ?_|exact yaF|refine yaS ?_ ?_<;>intro _
       all_goals first
        |(exfalso;simp_all;done)
        |(rw[hst];exact .ret rfl (Fin.same rfl (jg ([],5) _)))
      ·rw[hwt,if_pos rfl,if_pos rfl]at hst;repeat' first|refine X ?_|((first|apply yG|apply yH|apply yI);exact rfl;(first|exact yax encI hk hlt|exact yax wa rfl hn3|exact yax jc rfl hj))|refine yaC (c2) ?_|refine yaC (c3) ?_|refine yaC (c4) ?_|exact yaF|refine yaS ?_ ?_<;>intro _
       all_goals first
        |(exfalso;simp_all;done)
        |exact Go.keep [0,1,2,4,5,6,7,11,18,19] (hrec _ _ _ O ⟨i+1,_,db',rfl,hlt,wb hk O,⟨hdb,hst⟩,rfl,rfl⟩)
     ·rw[if_neg ha0]at hst;by_cases hgo:y.act=1/\gone=true
      ·obtain⟨ha1,rfl⟩:=hgo;rw[if_pos (show y.act=1/\true=true from⟨ha1,rfl⟩)]at hst;have c5:=hr.del n db'[n].rows[j].id db' db'[n].rows[j] hdb hn (by rw[hidx];exact hrow);have hkp:=hr.keeps (.del n db'[n].rows[j].id) db' hdb hn;generalize run (.del n db'[n].rows[j].id) db'=q at c5 hst hkp;by_cases hq:q.2=0
       ·rw[if_pos hq]at hst;rw[zaf hq]at c5;have hkq:=hkp hq;repeat' first|refine X ?_|((first|apply yG|apply yH|apply yI);exact rfl;(first|exact yax encI hk hlt|exact yax wa rfl hn3|exact yax jc rfl hj))|refine yaC (c2) ?_|refine yaC (c3) ?_|refine yaC (c4) ?_|refine yaC (c5) ?_|exact yaF|refine yaS ?_ ?_<;>intro _
        exact Go.keep [0,1,2,4,5,6,7,11,18,19] (hrec _ _ _ O ⟨i+1,_,q.1,rfl,hlt,wb hk O,⟨hkq,hst⟩,rfl,rfl⟩)
       ·rw[if_neg hq]at hst;obtain⟨e,he⟩:∃e,q.2=e:=⟨_,rfl⟩;rw[he]at hst hq;rw[jab he hq]at c5;rw[hst];repeat' first|refine X ?_|((first|apply yG|apply yH|apply yI);exact rfl;(first|exact yax encI hk hlt|exact yax wa rfl hn3|exact yax jc rfl hj))|refine yaC (c2) ?_|refine yaC (c3) ?_|refine yaC (c4) ?_|refine yaC (c5) ?_|exact yaF|refine yaS ?_ ?_<;>intro _
        exact .ret rfl (Fin.same (wai hq).symm (jg ([],e) _))
      ·rw[if_neg hgo]at hst;have hgo2:y.act=1->gone=false:=λh1=>by
        cases gone
        ·rfl
        ·exact absurd ⟨h1,rfl⟩ hgo
       obtain⟨f3,f4⟩:=wd.1 hfit.2;have hco:=jbj (casc:=y.act==1) (cs:=y.cols) (w:=wth) hwv f4;have hok:jh9 s (.upd n db'[n].rows[j].id (jo (y.act==1) y.cols wth db'[n].rows[j].vals) false):=⟨hn,by rw[hco.1];exact hfit.1,wd.2 ⟨by rw[hco.1];exact f3,hco.2⟩⟩;have c5:=hr.upd n db'[n].rows[j].id (jo (y.act==1) y.cols wth db'[n].rows[j].vals) false db' hdb hok;have hkp:=hr.keeps (.upd n db'[n].rows[j].id (jo (y.act==1) y.cols wth db'[n].rows[j].vals) false) db' hdb hok;have cm:=jcc db'[n].rows[j].vals (yai f3 gb);have hcj:InR y.cols db'[n].rows[j].vals.length:=by rw[hfit.1];exact hc
       generalize run (.upd n db'[n].rows[j].id (jo (y.act==1) y.cols wth db'[n].rows[j].vals) false) db'=q at c5 hst hkp;by_cases ha1:y.act=1
       ·have hg:=hgo2 ha1;subst hg
        cases hw with
        |now hwl=>
        repeat' first|refine X ?_|((first|apply yG|apply yH|apply yI);exact rfl;(first|exact yax encI hk hlt|exact yax wa rfl hn3|exact yax jc rfl hj))|refine yaC (c2) ?_|refine yaC (c3) ?_|refine yaC (c4) ?_|exact yaF|refine yaS ?_ ?_<;>intro _
        all_goals first
         |(exfalso;simp_all;done)
         |skip
        refine .call _ rfl rfl rfl (cm.at0 G) ?_;rintro r _ ⟨v,junk,hjk,rfl,rfl⟩;repeat' first|refine X ?_|exact yaF|refine yaS ?_ ?_<;>intro _
        refine Go.keep [0,1,2,4,5,6,7,11,18,19,21,26,27] (Go.loops (I:=λm fr V=>∃(a:Nat) (ka:Int) (vs:List Val),m=y.cols.length-a/\a<=y.cols.length/\ka=a/\(vs.length=db'[n].rows[j].vals.length/\jo (y.act==1) y.cols wth db'[n].rows[j].vals=jo (y.act==1) (y.cols.drop a) (wth.drop a) vs)/\
         fr=[(0,.c (.fz (s.map ja))),(1,.c (.fz (db'.map wa))),(2,.c (.int .i64 (n:Int))),(4,.c (.fz (key.map encV))),(5,.c (.fz (wth.map encV))),(6,.c (.bool false)),(7,.c (.int .i64 deep)),(11,.c (.fp (jds y))),(18,.c (.fz (ids.map encI))),(19,.c (.int .i64 k)),(21,.c (.fp (jc db'[n].rows[j]))),(26,.c (vec (G.next+0) v (db'[n].rows[j].vals.map encV) junk)),(27,.c (.int .i64 ka))]/\V=E G [(v,vs.map encV++junk)]) ?_ _ _ _ ⟨0,_,db'[n].rows[j].vals,rfl,yac _,rfl,⟨rfl,rfl⟩,rfl,rfl⟩)
        rintro m fr V ⟨a,ka,vs,rfl,hai,hka,⟨hvl,hsc⟩,rfl,rfl⟩ hreca;by_cases hlta:a<y.cols.length
        ·clear hrec;have hltw:a<wth.length:=O;obtain⟨q1,q2⟩:=hcj _ (yaa hlta);have hcc:y.cols[a]=(y.cols[a].toNat:Int):=O;have hcv:y.cols[a].toNat<vs.length:=O;have hcm:y.cols[a].toNat<(db'[n].rows[j].vals.map encV).length:=by rw[yae];omega
         have hcv2:y.cols[a].toNat<(vs.set y.cols[a].toNat zf).length:=by rw[yasq];exact hcv
         rw[yab hlta,yab hltw,jo,if_pos (by rw[ha1];rfl),List.tail_cons,List.headD_cons]at hsc;repeat' first|refine X ?_|((first|apply yG|apply yH|apply yI);exact rfl;(first|exact yax encI hka hlta|exact jaa (k:=0) rfl rfl hcc hcm rfl (jas hcv) rfl|exact zl (k:=0) rfl rfl rfl rfl (jas hcv) rfl gz))|exact yaF|refine yaS ?_ ?_<;>intro _
         have hset1:List.set [(v,vs.map encV++junk)] 0 (v,(vs.map encV++junk).set (0+y.cols[a].toNat) (jh (encV vs[y.cols[a].toNat]) 0 [.int .i64 0,.int .i64 0,.str []]))=[(v,(vs.set y.cols[a].toNat zf).map encV++junk)]:=congrArg (λz=>[(v,z)]) (zcd hcv _ zf);rw[hset1];repeat' first|refine X ?_|((first|apply yG|apply yH|apply yI);exact rfl;(first|exact yax encI hka hlta|exact yax encV hka hltw|exact jaa (k:=0) rfl rfl hcc hcm rfl (jas hcv2) rfl|exact zl (k:=0) rfl rfl rfl rfl (jas hcv2) rfl gz))|exact yaF|refine yaS ?_ ?_<;>intro _
         refine Go.keep [0,1,2,4,5,6,7,11,18,19,21,26,27] (hreca _ _ _ O ⟨a+1,_,(vs.set y.cols[a].toNat zf).set y.cols[a].toNat wth[a],rfl,hlta,wb hka O,⟨by rw[yasq,yasq];exact hvl,by rw[hsc,List.set_set]⟩,rfl, ?_⟩);exact congrArg (E G) (congrArg (λz=>[(v,z)]) (zcd hcv2 _ wth[a]))
        ·clear hreca;rw[yad (show y.cols.length<=a by omega),jo]at hsc;rw[hsc]at c5;repeat' first|refine X ?_|exact yaF|refine yaS ?_ ?_<;>intro _
         have hvv:vec (G.next+0) v (db'[n].rows[j].vals.map encV) junk=vec (G.next+0) v (vs.map encV) junk:=by rw[vec,vec,yae,yae,hvl]
         refine Go.freezeN (l:=[]) (m:=[(v,vs.map encV++junk)]) (fr':=[(0,.c (.fz (s.map ja))),(1,.c (.fz (db'.map wa))),(2,.c (.int .i64 (n:Int))),(4,.c (.fz (key.map encV))),(5,.c (.fz (wth.map encV))),(6,.c (.bool false)),(7,.c (.int .i64 deep)),(11,.c (.fp (jds y))),(18,.c (.fz (ids.map encI))),(19,.c (.int .i64 k)),(111,.c (.fz (s.map ja))),(112,.c (.fz (db'.map wa))),(113,.c (.int .i64 (n:Int))),(115,.c (.int .i64 db'[n].rows[j].id)),(116,.c (.fz (vs.map encV))),(118,.c (.int .i64 (IntKind.i64.wrap (deep+1))))]) hS (λb hb=>by cases hb) (yaf _)
          (.frz rfl (.refl zas) (.frz rfl (.refl wbc) (.frz rfl (.refl zu) (.frz rfl (.refl z0) (.frz rfl (.refl (hwo _)) (.frz rfl (.refl zh4) (.frz rfl (.refl zu) (.frz rfl (.refl zjp) (.frz rfl (.refl jc0) (.frz rfl (.refl zu) (.frz rfl (.refl zas) (.frz rfl (.refl wbc) (.frz rfl (.refl zu) (.frz rfl (.refl zu) (.frz rfl (by rw[hvv];exact wbm (k:=0) rfl (yaf _)) (.frz rfl (.refl zu) .nil)))))))))))))))) ?_
         by_cases hq:q.2=0
         ·rw[if_pos hq]at hst;rw[zaf hq]at c5;have hkq:=hkp hq;repeat' first|refine X ?_|refine yaC (c5) ?_|exact yaF|refine yaS ?_ ?_<;>intro _
          exact Go.keep [0,1,2,4,5,6,7,11,18,19] (hrec _ _ _ O ⟨i+1,_,q.1,rfl,hlt,wb hk O,⟨hkq,hst⟩,rfl,rfl⟩)
         ·rw[if_neg hq]at hst;obtain⟨e,he⟩:∃e,q.2=e:=⟨_,rfl⟩;rw[he]at hst hq;rw[jab he hq]at c5;rw[hst];repeat' first|refine X ?_|refine yaC (c5) ?_|exact yaF|refine yaS ?_ ?_<;>intro _
          exact .ret rfl (Fin.same (wai hq).symm (jg ([],e) _))
       ·repeat' first|refine X ?_|((first|apply yG|apply yH|apply yI);exact rfl;(first|exact yax encI hk hlt|exact yax wa rfl hn3|exact yax jc rfl hj))|refine yaC (c2) ?_|refine yaC (c3) ?_|refine yaC (c4) ?_|exact yaF|refine yaS ?_ ?_<;>intro _
        all_goals first
         |(exfalso;simp_all;done)
         |skip
        refine .call _ rfl rfl rfl (cm.at0 G) ?_;rintro r _ ⟨v,junk,hjk,rfl,rfl⟩;repeat' first|refine X ?_|exact yaF|refine yaS ?_ ?_<;>intro _
        refine Go.keep [0,1,2,4,5,6,7,11,18,19,21,26,27] (Go.loops (I:=λm fr V=>∃(a:Nat) (ka:Int) (vs:List Val),m=y.cols.length-a/\a<=y.cols.length/\ka=a/\(vs.length=db'[n].rows[j].vals.length/\jo (y.act==1) y.cols wth db'[n].rows[j].vals=jo (y.act==1) (y.cols.drop a) (wth.drop a) vs)/\
         fr=[(0,.c (.fz (s.map ja))),(1,.c (.fz (db'.map wa))),(2,.c (.int .i64 (n:Int))),(4,.c (.fz (key.map encV))),(5,.c (wv)),(6,.c (.bool gone)),(7,.c (.int .i64 deep)),(11,.c (.fp (jds y))),(18,.c (.fz (ids.map encI))),(19,.c (.int .i64 k)),(21,.c (.fp (jc db'[n].rows[j]))),(26,.c (vec (G.next+0) v (db'[n].rows[j].vals.map encV) junk)),(27,.c (.int .i64 ka))]/\V=E G [(v,vs.map encV++junk)]) ?_ _ _ _ ⟨0,_,db'[n].rows[j].vals,rfl,yac _,rfl,⟨rfl,rfl⟩,rfl,rfl⟩)
        rintro m fr V ⟨a,ka,vs,rfl,hai,hka,⟨hvl,hsc⟩,rfl,rfl⟩ hreca;by_cases hlta:a<y.cols.length
        ·clear hrec;obtain⟨q1,q2⟩:=hcj _ (yaa hlta);have hcc:y.cols[a]=(y.cols[a].toNat:Int):=O;have hcv:y.cols[a].toNat<vs.length:=O;have hcm:y.cols[a].toNat<(db'[n].rows[j].vals.map encV).length:=by rw[yae];omega
         have hcv2:y.cols[a].toNat<(vs.set y.cols[a].toNat zf).length:=by rw[yasq];exact hcv
         rw[yab hlta,jo,if_neg (by rw[beq_iff_eq];exact ha1),List.tail_drop]at hsc;repeat' first|refine X ?_|((first|apply yG|apply yH|apply yI);exact rfl;(first|exact yax encI hka hlta|exact jaa (k:=0) rfl rfl hcc hcm rfl (jas hcv) rfl|exact zl (k:=0) rfl rfl rfl rfl (jas hcv) rfl gz))|exact yaF|refine yaS ?_ ?_<;>intro _
         refine Go.keep [0,1,2,4,5,6,7,11,18,19,21,26,27] (hreca _ _ _ O ⟨a+1,_,vs.set y.cols[a].toNat zf,rfl,hlta,wb hka O,⟨by rw[yasq];exact hvl,hsc⟩,rfl, ?_⟩);exact congrArg (E G) (congrArg (λz=>[(v,z)]) (zcd hcv _ zf))
        ·clear hreca;rw[yad (show y.cols.length<=a by omega),jo]at hsc;rw[hsc]at c5;repeat' first|refine X ?_|exact yaF|refine yaS ?_ ?_<;>intro _
         have hvv:vec (G.next+0) v (db'[n].rows[j].vals.map encV) junk=vec (G.next+0) v (vs.map encV) junk:=by rw[vec,vec,yae,yae,hvl]
         refine Go.freezeN (l:=[]) (m:=[(v,vs.map encV++junk)]) (fr':=[(0,.c (.fz (s.map ja))),(1,.c (.fz (db'.map wa))),(2,.c (.int .i64 (n:Int))),(4,.c (.fz (key.map encV))),(5,.c (wv)),(6,.c (.bool gone)),(7,.c (.int .i64 deep)),(11,.c (.fp (jds y))),(18,.c (.fz (ids.map encI))),(19,.c (.int .i64 k)),(111,.c (.fz (s.map ja))),(112,.c (.fz (db'.map wa))),(113,.c (.int .i64 (n:Int))),(115,.c (.int .i64 db'[n].rows[j].id)),(116,.c (.fz (vs.map encV))),(118,.c (.int .i64 (IntKind.i64.wrap (deep+1))))]) hS (λb hb=>by cases hb) (yaf _)
          (.frz rfl (.refl zas) (.frz rfl (.refl wbc) (.frz rfl (.refl zu) (.frz rfl (.refl z0) (.frz rfl (.refl (hwo _)) (.frz rfl (.refl zh4) (.frz rfl (.refl zu) (.frz rfl (.refl zjp) (.frz rfl (.refl jc0) (.frz rfl (.refl zu) (.frz rfl (.refl zas) (.frz rfl (.refl wbc) (.frz rfl (.refl zu) (.frz rfl (.refl zu) (.frz rfl (by rw[hvv];exact wbm (k:=0) rfl (yaf _)) (.frz rfl (.refl zu) .nil)))))))))))))))) ?_
         by_cases hq:q.2=0
         ·rw[if_pos hq]at hst;rw[zaf hq]at c5;have hkq:=hkp hq;repeat' first|refine X ?_|refine yaC (c5) ?_|exact yaF|refine yaS ?_ ?_<;>intro _
          exact Go.keep [0,1,2,4,5,6,7,11,18,19] (hrec _ _ _ O ⟨i+1,_,q.1,rfl,hlt,wb hk O,⟨hkq,hst⟩,rfl,rfl⟩)
         ·rw[if_neg hq]at hst;obtain⟨e,he⟩:∃e,q.2=e:=⟨_,rfl⟩;rw[he]at hst hq;rw[jab he hq]at c5;rw[hst];repeat' first|refine X ?_|refine yaC (c5) ?_|exact yaF|refine yaS ?_ ?_<;>intro _
          exact .ret rfl (Fin.same (wai hq).symm (jg ([],e) _))
 ·rw[yad O,zac]at hst;rw[hst];repeat' first|refine X ?_|exact yaF|refine yaS ?_ ?_<;>intro _
  exact .ret rfl (Fin.same rfl (jg (db',0) _))
end Go.Proofs.YtedaadaaibofaaaGreat.Am
namespace Go.Proofs.YtedaadaaibofaaaGreat.Am
variable {I:Nat->Int->Prop}

theorem jah(vals:List Val)(h0:vals≠[])(hx:vals.length<=34359738368)(G:jb):Ok Tryz.prog 85 [.c (.fz (vals.map encV))] G (Made G 3 (vals.map encV)):=
 (jj6 mixed jcl (vals.map encV) lens (by rw[yae];omega) G).mono λr V h=>by
   rcases h with⟨h,_⟩|h
   ·exact absurd (List.map_eq_nil_iff.1 h) h0
   ·exact h
set_option maxHeartbeats 4000000 in
theorem zkg{L:ChL}{n:Nat}{s:List wc}{run:Chg->List Data->Res}{deep:Int}(hs:SchG s)(hr:wf6 I L n s run (IntKind.i64.wrap (deep+1))){k:Nat}(hk:k<s.length)(r:RowD)(rv:Ce)(f:Fk)(wth:List Val)(gone:Bool)(wv:Ce)(hw:With gone wv wth f.cols.length)(hwv:∀v∈wth,zr v=true)(hw0:0<f.cols.length)(hcl:f.cols.length<=34359738368)
 (hc:InR f.cols s[k].cols.length) (db:List Data) (xs:List Ce) (V:jb) (h:wt L n s xs db V) (hdb:DbG I s db) (hrk:r∈jp db k) (hvl:Vl V r.vals rv):
 Ok Tryz.prog 372 [.c (.ptr L.c L.vc 0 0),.c (.int .i64 (k:Int)),.agg [.int .i64 r.id,rv],.agg (wal f),.c wv,.c (.int .i64 deep)] V (Done L n s (oneF run k (wct f gone) wth gone r db) V):=by
 refine Ok.run0 mixed wb9 gz λhS hA=>?_;clear hA;have hk2:k<db.length:=by rw[hdb.len];exact hk
 have hR:=hdb.at hk;have hfit:=hR.fit _ hrk;have ht:=hs.tab _ (yaa hk);have hv0:r.vals≠[]:=λh0=>by
  have h1:=hfit.1;rw[h0]at h1;have:=ht.cols0;simp at h1;omega
 obtain⟨f3,f4⟩:=wd.1 hfit.2;have cm:=Lend.made (.own hvl.frz .nil) (jah r.vals hv0 (yai f3 gb)) λe he=>(jb5 e he).2;have hcj:InR f.cols r.vals.length:=by rw[hfit.1];exact hc
 rw[oneF]
 cases hw with
 |gone=>
  show Go _ _ _ _ (Done L n s (if f.onDelete=0 then(if f.deferred=true then(db,0)else([],5))else if f.onDelete=1/\true=true then run (.del k r.id) db else run (.upd k r.id (jo (f.onDelete==1) f.cols [] r.vals) false) db) V) _ _ _;repeat' first|refine X ?_|exact yaF|refine yaS ?_ ?_<;>intro _
  refine .call _ rfl rfl rfl cm ?_;rintro q _ ⟨v,junk,hjk,rfl,rfl⟩;by_cases h0:f.onDelete=0
  ·rw[if_pos h0]
   cases hd:f.deferred
   ·rw[if_neg yah];repeat' first|refine X ?_|exact yaF|refine yaS ?_ ?_<;>intro _
    all_goals first
     |(exfalso;simp_all;done)
     |exact .ret rfl ⟨rfl,.grow h _,λh=>by cases h⟩
   ·rw[if_pos rfl];repeat' first|refine X ?_|exact yaF|refine yaS ?_ ?_<;>intro _
    all_goals first
     |(exfalso;simp_all;done)
     |exact .ret rfl ⟨rfl,.grow h _,λ_=>⟨xs,h.grow _⟩⟩
  ·rw[if_neg h0];by_cases h1:f.onDelete=1
   ·rw[if_pos ⟨h1,rfl⟩];have c5:=hr.del k r.id db xs _ (h.grow [(v,r.vals.map encV++junk)]) hdb hk;repeat' first|refine X ?_|exact yaF|refine yaS ?_ ?_<;>intro _
    refine .call _ rfl rfl rfl c5 ?_;rintro r9 V9 ⟨rfl,hk9,hq9⟩;repeat' first|refine X ?_|exact yaF|refine yaS ?_ ?_<;>intro _
    exact .ret rfl ⟨rfl,(Kept.grow h _).trans hk9,hq9⟩
   ·rw[if_neg (λhh=>h1 hh.1),beq_eq_false_iff_ne.2 h1];obtain⟨wth,hwe⟩:∃wth:List Val,wth=[]:=⟨_,rfl⟩;rw[<-hwe]at hwv⊢;have hco:=jbj (casc:=false) (cs:=f.cols) (w:=wth) hwv f4;have hok:jh9 s (.upd k r.id (jo false f.cols wth r.vals) false):=⟨hk,by rw[hco.1];exact hfit.1,wd.2 ⟨by rw[hco.1];exact f3,hco.2⟩⟩;have c5:=hr.upd k r.id (jo false f.cols wth r.vals) false db xs V h hdb hok;generalize run (.upd k r.id (jo false f.cols wth r.vals) false) db=q at c5⊢;repeat' first|refine X ?_|exact yaF|refine yaS ?_ ?_<;>intro _
    refine Go.keep [0,1,5,8,14,29,30,31] (Go.loops (I:=λm fr V'=>∃(a:Nat) (ka:Int) (vs:List Val),m=f.cols.length-a/\a<=f.cols.length/\ka=a/\(vs.length=r.vals.length/\jo (false) f.cols wth r.vals=jo (false) (f.cols.drop a) (wth.drop a) vs)/\
     fr=[(0,.c (.ptr L.c L.vc 0 0)),(1,.c (.int .i64 (k:Int))),(5,.c (.int .i64 deep)),(8,.c (.fp [.int .i64 r.id,rv])),(14,.c (vec (V.next+0) v (r.vals.map encV) junk)),(29,.c (.fz (f.cols.map encI))),(30,.c (.int .i64 (f.cols.length:Int))),(31,.c (.int .i64 ka))]/\V'=E V [(v,vs.map encV++junk)]) ?_ _ _ _ ⟨0,_,r.vals,rfl,yac _,rfl,⟨rfl,rfl⟩,rfl,rfl⟩)
    rintro m fr V' ⟨a,ka,vs,rfl,hai,hka,⟨hvl,hsc⟩,rfl,rfl⟩ hreca;by_cases hlta:a<f.cols.length
    ·obtain⟨q1,q2⟩:=hcj _ (yaa hlta);have hcc:f.cols[a]=(f.cols[a].toNat:Int):=O;have hcv:f.cols[a].toNat<vs.length:=O;have hcm:f.cols[a].toNat<(r.vals.map encV).length:=by rw[yae];omega
     rw[yab hlta,jo,if_neg yah,List.tail_drop]at hsc;repeat' first|refine X ?_|((first|apply yG|apply yH|apply yI);exact rfl;(first|exact yax encI hka hlta|exact jaa (k:=0) rfl rfl hcc hcm rfl (jas hcv) rfl|exact zl (k:=0) rfl rfl rfl rfl (jas hcv) rfl gz))|exact yaF|refine yaS ?_ ?_<;>intro _
     refine Go.keep [0,1,5,8,14,29,30,31] (hreca _ _ _ O ⟨a+1,_,vs.set f.cols[a].toNat zf,rfl,hlta,wb hka O,⟨by rw[yasq];exact hvl,hsc⟩,rfl, ?_⟩);exact congrArg (E V) (congrArg (λz=>[(v,z)]) (zcd hcv _ zf))
    ·clear hreca;rw[yad (show f.cols.length<=a by omega),jo]at hsc;rw[hsc]at c5;repeat' first|refine X ?_|exact yaF|refine yaS ?_ ?_<;>intro _
     have hvv:vec (V.next+0) v (r.vals.map encV) junk=vec (V.next+0) v (vs.map encV) junk:=by rw[vec,vec,yae,yae,hvl]
     refine Go.freezeN (l:=[]) (m:=[(v,vs.map encV++junk)]) (fr':=[(83,.c (.ptr L.c L.vc 0 0)),(84,.c (.int .i64 (k:Int))),(86,.c (.int .i64 r.id)),(87,.c (.fz (vs.map encV))),(89,.c (.int .i64 (IntKind.i64.wrap (deep+1))))]) hS (λb hb=>by cases hb) (yaf _)
      (.frz rfl (.refl (z4 h.lc)) (.frz rfl (.refl zu) (.frz rfl (.refl zu) (.frz rfl (by rw[hvv];exact wbm (k:=0) rfl (yaf _)) (.frz rfl (.refl zu) .nil))))) ?_
     rw[jc2 hS];refine .call _ rfl rfl rfl c5 ?_;rintro r9 V9 ⟨rfl,hk9,hq9⟩;repeat' first|refine X ?_|exact yaF|refine yaS ?_ ?_<;>intro _
     exact .ret rfl ⟨rfl,hk9,hq9⟩
 |now hwl=>
  show Go _ _ _ _ (Done L n s (if f.onUpdate=0 then(if f.deferred=true then(db,0)else([],5))else if f.onUpdate=1/\false=true then run (.del k r.id) db else run (.upd k r.id (jo (f.onUpdate==1) f.cols wth r.vals) false) db) V) _ _ _;obtain⟨w0,w,rfl⟩:∃w0 w,wth=w0::w:=by
   cases wth with
   |nil=>
    have h2:f.cols.length<=0:=hwl;omega
   |cons a b=>exact⟨a,b,rfl⟩
  repeat' first|refine X ?_|exact yaF|refine yaS ?_ ?_<;>intro _
  refine .call _ rfl rfl rfl cm ?_;rintro q _ ⟨v,junk,hjk,rfl,rfl⟩;by_cases h0:f.onUpdate=0
  ·rw[if_pos h0]
   cases hd:f.deferred
   ·rw[if_neg yah];repeat' first|refine X ?_|exact yaF|refine yaS ?_ ?_<;>intro _
    all_goals first
     |(exfalso;simp_all;done)
     |exact .ret rfl ⟨rfl,.grow h _,λh=>by cases h⟩
   ·rw[if_pos rfl];repeat' first|refine X ?_|exact yaF|refine yaS ?_ ?_<;>intro _
    all_goals first
     |(exfalso;simp_all;done)
     |exact .ret rfl ⟨rfl,.grow h _,λ_=>⟨xs,h.grow _⟩⟩
  ·rw[if_neg h0,if_neg (λhh=>yah hh.2)];by_cases h1:f.onUpdate=1
   ·rw[beq_iff_eq.2 h1];have hco:=jbj (casc:=true) (cs:=f.cols) (w:=w0::w) hwv f4;have hok:jh9 s (.upd k r.id (jo true f.cols (w0::w) r.vals) false):=⟨hk,by rw[hco.1];exact hfit.1,wd.2 ⟨by rw[hco.1];exact f3,hco.2⟩⟩;have c5:=hr.upd k r.id (jo true f.cols (w0::w) r.vals) false db xs V h hdb hok;generalize run (.upd k r.id (jo true f.cols (w0::w) r.vals) false) db=q at c5⊢;repeat' first|refine X ?_|exact yaF|refine yaS ?_ ?_<;>intro _
    refine Go.keep [0,1,4,5,8,14,68,69,70] (Go.loops (I:=λm fr V'=>∃(a:Nat) (ka:Int) (vs:List Val),m=f.cols.length-a/\a<=f.cols.length/\ka=a/\(vs.length=r.vals.length/\jo (true) f.cols (w0::w) r.vals=jo (true) (f.cols.drop a) ((w0::w).drop a) vs)/\
     fr=[(0,.c (.ptr L.c L.vc 0 0)),(1,.c (.int .i64 (k:Int))),(4,.c (.fz ((w0::w).map encV))),(5,.c (.int .i64 deep)),(8,.c (.fp [.int .i64 r.id,rv])),(14,.c (vec (V.next+0) v (r.vals.map encV) junk)),(68,.c (.fz (f.cols.map encI))),(69,.c (.int .i64 (f.cols.length:Int))),(70,.c (.int .i64 ka))]/\V'=E V [(v,vs.map encV++junk)]) ?_ _ _ _ ⟨0,_,r.vals,rfl,yac _,rfl,⟨rfl,rfl⟩,rfl,rfl⟩)
    rintro m fr V' ⟨a,ka,vs,rfl,hai,hka,⟨hvl,hsc⟩,rfl,rfl⟩ hreca;by_cases hlta:a<f.cols.length
    ·have hltw:a<(w0::w).length:=O;obtain⟨q1,q2⟩:=hcj _ (yaa hlta);have hcc:f.cols[a]=(f.cols[a].toNat:Int):=O;have hcv:f.cols[a].toNat<vs.length:=O;have hcm:f.cols[a].toNat<(r.vals.map encV).length:=by rw[yae];omega
     rw[yab hlta,yab hltw,jo,if_pos rfl,List.tail_cons,List.headD_cons]at hsc;repeat' first|refine X ?_|((first|apply yG|apply yH|apply yI);exact rfl;(first|exact yax encI hka hlta|exact yax encV hka hltw|exact jaa (k:=0) rfl rfl hcc hcm rfl (jas hcv) rfl|exact zl (k:=0) rfl rfl rfl rfl (jas hcv) rfl gz))|exact yaF|refine yaS ?_ ?_<;>intro _
     refine Go.keep [0,1,4,5,8,14,68,69,70] (hreca _ _ _ O ⟨a+1,_,vs.set f.cols[a].toNat (w0::w)[a],rfl,hlta,wb hka O,⟨by rw[yasq];exact hvl,hsc⟩,rfl, ?_⟩);exact congrArg (E V) (congrArg (λz=>[(v,z)]) (zcd hcv _ (w0::w)[a]))
    ·clear hreca;rw[yad (show f.cols.length<=a by omega),jo]at hsc;rw[hsc]at c5;repeat' first|refine X ?_|exact yaF|refine yaS ?_ ?_<;>intro _
     have hvv:vec (V.next+0) v (r.vals.map encV) junk=vec (V.next+0) v (vs.map encV) junk:=by rw[vec,vec,yae,yae,hvl]
     refine Go.freezeN (l:=[]) (m:=[(v,vs.map encV++junk)]) (fr':=[(83,.c (.ptr L.c L.vc 0 0)),(84,.c (.int .i64 (k:Int))),(86,.c (.int .i64 r.id)),(87,.c (.fz (vs.map encV))),(89,.c (.int .i64 (IntKind.i64.wrap (deep+1))))]) hS (λb hb=>by cases hb) (yaf _)
      (.frz rfl (.refl (z4 h.lc)) (.frz rfl (.refl zu) (.frz rfl (.refl zu) (.frz rfl (by rw[hvv];exact wbm (k:=0) rfl (yaf _)) (.frz rfl (.refl zu) .nil))))) ?_
     rw[jc2 hS];refine .call _ rfl rfl rfl c5 ?_;rintro r9 V9 ⟨rfl,hk9,hq9⟩;repeat' first|refine X ?_|exact yaF|refine yaS ?_ ?_<;>intro _
     exact .ret rfl ⟨rfl,hk9,hq9⟩
   ·rw[beq_eq_false_iff_ne.2 h1];obtain⟨wth,hwe⟩:∃wth:List Val,wth=w0::w:=⟨_,rfl⟩;have hco:=jbj (casc:=false) (cs:=f.cols) (w:=w0::w) hwv f4;have hok:jh9 s (.upd k r.id (jo false f.cols (w0::w) r.vals) false):=⟨hk,by rw[hco.1];exact hfit.1,wd.2 ⟨by rw[hco.1];exact f3,hco.2⟩⟩;have c5:=hr.upd k r.id (jo false f.cols (w0::w) r.vals) false db xs V h hdb hok;generalize run (.upd k r.id (jo false f.cols (w0::w) r.vals) false) db=q at c5⊢;rw[<-hwe]at c5;repeat' first|refine X ?_|exact yaF|refine yaS ?_ ?_<;>intro _
    refine Go.keep [0,1,5,8,14,29,30,31] (Go.loops (I:=λm fr V'=>∃(a:Nat) (ka:Int) (vs:List Val),m=f.cols.length-a/\a<=f.cols.length/\ka=a/\(vs.length=r.vals.length/\jo (false) f.cols wth r.vals=jo (false) (f.cols.drop a) (wth.drop a) vs)/\
     fr=[(0,.c (.ptr L.c L.vc 0 0)),(1,.c (.int .i64 (k:Int))),(5,.c (.int .i64 deep)),(8,.c (.fp [.int .i64 r.id,rv])),(14,.c (vec (V.next+0) v (r.vals.map encV) junk)),(29,.c (.fz (f.cols.map encI))),(30,.c (.int .i64 (f.cols.length:Int))),(31,.c (.int .i64 ka))]/\V'=E V [(v,vs.map encV++junk)]) ?_ _ _ _ ⟨0,_,r.vals,rfl,yac _,rfl,⟨rfl,rfl⟩,rfl,rfl⟩)
    rintro m fr V' ⟨a,ka,vs,rfl,hai,hka,⟨hvl,hsc⟩,rfl,rfl⟩ hreca;by_cases hlta:a<f.cols.length
    ·obtain⟨q1,q2⟩:=hcj _ (yaa hlta);have hcc:f.cols[a]=(f.cols[a].toNat:Int):=O;have hcv:f.cols[a].toNat<vs.length:=O;have hcm:f.cols[a].toNat<(r.vals.map encV).length:=by rw[yae];omega
     rw[yab hlta,jo,if_neg yah,List.tail_drop]at hsc;repeat' first|refine X ?_|((first|apply yG|apply yH|apply yI);exact rfl;(first|exact yax encI hka hlta|exact jaa (k:=0) rfl rfl hcc hcm rfl (jas hcv) rfl|exact zl (k:=0) rfl rfl rfl rfl (jas hcv) rfl gz))|exact yaF|refine yaS ?_ ?_<;>intro _
     refine Go.keep [0,1,5,8,14,29,30,31] (hreca _ _ _ O ⟨a+1,_,vs.set f.cols[a].toNat zf,rfl,hlta,wb hka O,⟨by rw[yasq];exact hvl,hsc⟩,rfl, ?_⟩);exact congrArg (E V) (congrArg (λz=>[(v,z)]) (zcd hcv _ zf))
    ·clear hreca;rw[yad (show f.cols.length<=a by omega),jo]at hsc;rw[hsc]at c5;repeat' first|refine X ?_|exact yaF|refine yaS ?_ ?_<;>intro _
     have hvv:vec (V.next+0) v (r.vals.map encV) junk=vec (V.next+0) v (vs.map encV) junk:=by rw[vec,vec,yae,yae,hvl]
     refine Go.freezeN (l:=[]) (m:=[(v,vs.map encV++junk)]) (fr':=[(83,.c (.ptr L.c L.vc 0 0)),(84,.c (.int .i64 (k:Int))),(86,.c (.int .i64 r.id)),(87,.c (.fz (vs.map encV))),(89,.c (.int .i64 (IntKind.i64.wrap (deep+1))))]) hS (λb hb=>by cases hb) (yaf _)
      (.frz rfl (.refl (z4 h.lc)) (.frz rfl (.refl zu) (.frz rfl (.refl zu) (.frz rfl (by rw[hvv];exact wbm (k:=0) rfl (yaf _)) (.frz rfl (.refl zu) .nil))))) ?_
     rw[jc2 hS];refine .call _ rfl rfl rfl c5 ?_;rintro r9 V9 ⟨rfl,hk9,hq9⟩;repeat' first|refine X ?_|exact yaF|refine yaS ?_ ?_<;>intro _
     exact .ret rfl ⟨rfl,hk9,hq9⟩
end Go.Proofs.YtedaadaaibofaaaGreat.Am
namespace Go.Proofs.YtedaadaaibofaaaGreat.Am
variable {I:Nat->Int->Prop}

theorem jcd{fr:Fr}{G:jb}{x y:Opd}{a b:List UInt8}{v:Bool}(hx:x.ev fr=some (.c (.str a)))(hy:y.ev fr=some (.c (.str b)))(h:(a !=b)=v):aop (.bin .neq x y) fr G=some (.c (.bool v),G):=by
 simp[aop,hx,hy,binA,h]
theorem jk7(f:Fk)(gone:Bool):jds (wct f gone)=[.int .i64 (if gone then f.onDelete else f.onUpdate),.bool f.deferred,.fz (f.cols.map encI)]:=rfl
set_option maxHeartbeats 4000000 in
theorem wcd{s:List wc}{run:Chg->List Data->Res}{deep:Int}(hs:SchG s)(hr:zd4 I s run (IntKind.i64.wrap (deep+1))){n:Nat}(hn:n<s.length)(key wth:List Val)(gone:Bool)(wv:Ce)(hw:With gone wv wth s[n].key.length)(hwv:∀v∈wth,zr v=true)
 (db:List Data) (h:DbG I s db):
 Pure Tryz.prog 327 [.c (.fz (s.map ja)),.c (.fz (db.map wa)),.c (.int .i64 (n:Int)),.c (.fz (key.map encV)),.c wv,.c (.bool gone),.c (.int .i64 deep)] (resV (zy run s n key wth gone db)):=by
 refine yap [] wdz λG hS hA=>?_;clear hA;have hwo:∀(n:Nat),∀x∈(AV.c wv).all,Old n x:=λn=>hw.old;have hs5:=hs.few;rw[zy,zn hn];repeat' first|refine X ?_|exact yaF|refine yaS ?_ ?_<;>intro _
 refine Go.keep [0,1,2,3,4,5,6,16] (Go.loops (I:=λm fr V=>∃(i:Nat) (k:Int) (db':List Data),m=s.length-i/\i<=s.length/\k=i/\(DbG I s db'/\zah run s[n].name key wth gone 0 s db=zah run s[n].name key wth gone i (s.drop i) db')/\
  fr=[(0,.c (.fz (s.map ja))),(1,.c (.fz (db'.map wa))),(2,.c (.int .i64 (n:Int))),(3,.c (.fz (key.map encV))),(4,.c wv),(5,.c (.bool gone)),(6,.c (.int .i64 deep)),(16,.c (.int .i64 k))]/\V=E G []) ?_ _ _ _ ⟨0,_,db,rfl,yac _,rfl,⟨h,rfl⟩,rfl,rfl⟩)
 rintro m fr V ⟨i,k,db1,rfl,hi,hk,⟨hdb1,hst⟩,rfl,rfl⟩ hrec;by_cases hlt:i<s.length
 ·rw[yab hlt,zah]at hst;have hti:=hs.tab _ (yaa hlt);have hbi:=hs.big _ (yaa hlt);have hf3:=hti.fk3;repeat' first|refine X ?_|exact yaF|refine yaS ?_ ?_<;>intro _
  refine Go.keep [0,1,2,3,4,5,6,16,17] (Go.loops (I:=λm fr V=>∃(j:Nat) (kj:Int) (db':List Data),m=s[i].fks.length-j/\j<=s[i].fks.length/\kj=j/\(DbG I s db'/\wa4 run s[n].name i key wth gone s[i].fks db1=wa4 run s[n].name i key wth gone (s[i].fks.drop j) db')/\
   fr=[(0,.c (.fz (s.map ja))),(1,.c (.fz (db'.map wa))),(2,.c (.int .i64 (n:Int))),(3,.c (.fz (key.map encV))),(4,.c wv),(5,.c (.bool gone)),(6,.c (.int .i64 deep)),(16,.c (.int .i64 k)),(17,.c (.int .i64 kj))]/\V=E G []) ?_ _ _ _ ⟨0,_,db1,rfl,yac _,rfl,⟨hdb1,rfl⟩,rfl,rfl⟩)
  rintro m fr V ⟨j,kj,db',rfl,hj,hkj,⟨hdb,hsj⟩,rfl,rfl⟩ hrecj;by_cases hltj:j<s[i].fks.length
  ·clear hrec;rw[yab hltj,wa4]at hsj;have hfm:=yaa hltj;by_cases hna:s[i].fks[j].table=s[n].name
   ·have hnb:(s[i].fks[j].table !=s[n].name)=false:=by rw[hna];exact bne_self_eq_false _
    rw[if_pos hna]at hsj;have hmt:=hs.met _ (yaa hlt) _ hfm n hn hna;have hw2:With gone wv wth (wct s[i].fks[j] gone).cols.length:=by
     rw[<-hmt]at hw;exact hw
    have c1:=jjp hs hr hlt (wct s[i].fks[j] gone) key wth gone wv hw2 hwv (hti.fk _ hfm) (hbi.2.2.2.2.2.2 _ hfm).1 db' hdb;rw[jk7,<-hk]at c1;have hkp:=zb5 (s:=s) hr.keeps hlt (y:=wct s[i].fks[j] gone) (key:=key) (wth:=wth) (gone:=gone) hwv (l:=w8 (jp db' i) (wct s[i].fks[j] gone).cols key) hdb;rw[show s[i].fks[j].cols=(wct s[i].fks[j] gone).cols from rfl]at hsj;generalize zac run i (wct s[i].fks[j] gone) key wth gone (w8 (jp db' i) (wct s[i].fks[j] gone).cols key) db'=q at c1 hsj hkp;by_cases hq:q.2=0
    ·rw[if_pos hq]at hsj;rw[zaf hq]at c1;have hkq:=hkp hq
     cases gone
     ·repeat' first|(apply yA;exact rfl)|apply yB|apply yC|((first|apply yD|apply yE);(first|exact yF|assumption);iterate 6 exact rfl)|((first|apply yG|apply yH|apply yI);exact rfl;(first|exact yJ|exact yK rfl rfl|exact yL rfl|exact yM rfl|exact jcd rfl rfl hnb|exact rfl|exact aL rfl rfl rfl rfl rfl|exact aS rfl rfl rfl rfl rfl rfl rfl|exact yax ja hk hlt|exact yax ja rfl hn|exact yax wal hkj hltj))|((first|apply yN|apply yO|apply yP);exact rfl)|((first|apply yQ|apply yR|apply yS);(iterate 3 exact rfl);exact c1)|exact yaF|(((first|apply yT|apply yU|apply yV|apply yW);exact rfl;(first|exact .d|exact .e|exact .n|((fail_if_success exact bqt);(fail_if_success exact bqf);exact .b)))<;>intro _)
      all_goals first
       |contradiction
       |skip
      exact Go.keep [0,1,2,3,4,5,6,16,17] (hrecj _ _ _ O ⟨j+1,_,q.1,rfl,hltj,wb hkj O,⟨hkq,hsj⟩,rfl,rfl⟩)
     ·repeat' first|(apply yA;exact rfl)|apply yB|apply yC|(apply yE (s:=5);(first|exact yF|assumption);iterate 6 exact rfl)|((first|apply yG|apply yH|apply yI);exact rfl;(first|exact yJ|exact yK rfl rfl|exact yL rfl|exact yM rfl|exact jcd rfl rfl hnb|exact rfl|exact aL rfl rfl rfl rfl rfl|exact aS rfl rfl rfl rfl rfl rfl rfl|exact yax ja hk hlt|exact yax ja rfl hn|exact yax wal hkj hltj))|((first|apply yN|apply yO|apply yP);exact rfl)|((first|apply yQ|apply yR|apply yS);(iterate 3 exact rfl);exact c1)|exact yaF|(((first|apply yT|apply yU|apply yV|apply yW);exact rfl;(first|exact .d|exact .e|exact .n|((fail_if_success exact bqt);(fail_if_success exact bqf);exact .b)))<;>intro _)
      all_goals first
       |contradiction
       |skip
      refine Go.freezeN (l:=[]) (m:=[(0,[[.int .i64 s[i].fks[j].onDelete,.bool s[i].fks[j].deferred,.fz (s[i].fks[j].cols.map encI)]])]) (fr':=[(0,.c (.fz (s.map ja))),(1,.c (.fz (q.1.map wa))),(2,.c (.int .i64 (n:Int))),(3,.c (.fz (key.map encV))),(4,.c wv),(5,.c (.bool true)),(6,.c (.int .i64 deep)),(16,.c (.int .i64 k)),(17,.c (.int .i64 (IntKind.i64.wrap (kj+1))))]) hS (λb hb=>by cases hb) (yaf _)
       (.frz rfl (.refl zas) (.frz rfl (.refl wbc) (.frz rfl (.refl zu) (.frz rfl (.refl z0) (.frz rfl (.refl (hwo _)) (.frz rfl (.refl zh4) (.frz rfl (.refl zu) (.frz rfl (.refl zu) (.frz rfl (.refl zu) .nil))))))))) ?_
      exact hrecj _ _ _ O ⟨j+1,_,q.1,rfl,hltj,wb hkj O,⟨hkq,hsj⟩,rfl,rfl⟩
    ·rw[if_neg hq]at hsj;obtain⟨e,he⟩:∃e,q.2=e:=⟨_,rfl⟩;rw[he]at hsj hq;rw[jab he hq]at c1;rw[hsj,if_neg hq]at hst;rw[hst]
     cases gone
     ·repeat' first|(apply yA;exact rfl)|apply yB|apply yC|((first|apply yD|apply yE);(first|exact yF|assumption);iterate 6 exact rfl)|((first|apply yG|apply yH|apply yI);exact rfl;(first|exact yJ|exact yK rfl rfl|exact yL rfl|exact yM rfl|exact jcd rfl rfl hnb|exact rfl|exact aL rfl rfl rfl rfl rfl|exact aS rfl rfl rfl rfl rfl rfl rfl|exact yax ja hk hlt|exact yax ja rfl hn|exact yax wal hkj hltj))|((first|apply yN|apply yO|apply yP);exact rfl)|((first|apply yQ|apply yR|apply yS);(iterate 3 exact rfl);exact c1)|exact yaF|(((first|apply yT|apply yU|apply yV|apply yW);exact rfl;(first|exact .d|exact .e|exact .n|((fail_if_success exact bqt);(fail_if_success exact bqf);exact .b)))<;>intro _)
      all_goals first
       |contradiction
       |exact .ret rfl (Fin.same (wai hq).symm (jg ([],e) _))
     ·repeat' first|(apply yA;exact rfl)|apply yB|apply yC|(apply yE (s:=5);(first|exact yF|assumption);iterate 6 exact rfl)|((first|apply yG|apply yH|apply yI);exact rfl;(first|exact yJ|exact yK rfl rfl|exact yL rfl|exact yM rfl|exact jcd rfl rfl hnb|exact rfl|exact aL rfl rfl rfl rfl rfl|exact aS rfl rfl rfl rfl rfl rfl rfl|exact yax ja hk hlt|exact yax ja rfl hn|exact yax wal hkj hltj))|((first|apply yN|apply yO|apply yP);exact rfl)|((first|apply yQ|apply yR|apply yS);(iterate 3 exact rfl);exact c1)|exact yaF|(((first|apply yT|apply yU|apply yV|apply yW);exact rfl;(first|exact .d|exact .e|exact .n|((fail_if_success exact bqt);(fail_if_success exact bqf);exact .b)))<;>intro _)
      all_goals first
       |contradiction
       |exact .ret rfl (Fin.same (wai hq).symm (jg ([],e) _))
   ·have hnb:(s[i].fks[j].table !=s[n].name)=true:=by rw[bne_iff_ne];exact hna
    rw[if_neg hna]at hsj;repeat' first|(apply yA;exact rfl)|apply yB|apply yC|((first|apply yD|apply yE);(first|exact yF|assumption);iterate 6 exact rfl)|((first|apply yG|apply yH|apply yI);exact rfl;(first|exact yJ|exact yK rfl rfl|exact yL rfl|exact yM rfl|exact jcd rfl rfl hnb|exact rfl|exact aL rfl rfl rfl rfl rfl|exact aS rfl rfl rfl rfl rfl rfl rfl|exact yax ja hk hlt|exact yax ja rfl hn|exact yax wal hkj hltj))|((first|apply yN|apply yO|apply yP);exact rfl)|exact yaF|(((first|apply yT|apply yU|apply yV|apply yW);exact rfl;(first|exact .d|exact .e|exact .n|((fail_if_success exact bqt);(fail_if_success exact bqf);exact .b)))<;>intro _)
    all_goals first
     |contradiction
     |skip
    exact Go.keep [0,1,2,3,4,5,6,16,17] (hrecj _ _ _ O ⟨j+1,_,db',rfl,hltj,wb hkj O,⟨hdb,hsj⟩,rfl,rfl⟩)
  ·rw[yad O,wa4]at hsj;rw[hsj,if_pos rfl]at hst;repeat' first|refine X ?_|((first|apply yG|apply yH|apply yI);exact rfl;(first|exact yax ja hk hlt))|exact yaF|refine yaS ?_ ?_<;>intro _
   exact Go.keep [0,1,2,3,4,5,6,16] (hrec _ _ _ O ⟨i+1,_,db',rfl,hlt,wb hk O,⟨hdb,hst⟩,rfl,rfl⟩)
 ·rw[yad O,zah]at hst;rw[hst];repeat' first|refine X ?_|exact yaF|refine yaS ?_ ?_<;>intro _
  exact .ret rfl (Fin.same rfl (jg (db1,0) _))
end Go.Proofs.YtedaadaaibofaaaGreat.Am
namespace Go.Proofs.YtedaadaaibofaaaGreat.Am
variable {I:Nat->Int->Prop}

theorem Qg.fcall{P:Program}{G:jb}{fr:Fr}{d:Option Nat}{f:Opd}{args:List Opd}{g:Option (Nat×Bool)}{rest:List jd}{n:Nat}{pre cap:List Ce}{vs:List AV}{r:AV}{Post:Fr->Prop}(hw:wants fr g=some true)(hf:f.ev fr=some (.c (.fn n pre cap)))(ha:evs fr args=some vs)
 (hp:Ok P n (pre.map .c++vs++cap.map .c) G (λr' G'=>r'=r/\G'=G)) (h:Qg P G rest (putA fr d r) Post):Qg P G (⟨d,.call f args,g⟩::rest) fr Post:=
 let⟨F,h1,h2⟩:=h
 ⟨F,.call hw hf ha hp h1,h2⟩
set_option maxHeartbeats 4000000 in
theorem jhj{L:ChL}{n:Nat}{s:List wc}{run:Chg->List Data->Res}{deep:Int}(hs:SchG s)(hr:wf6 I L n s run (IntKind.i64.wrap (deep+1))){k:Nat}(hk:k<s.length)(key wth:List Val)(gone:Bool)(wv:Ce)(hw:With gone wv wth s[k].key.length)(hwv:∀v∈wth,zr v=true)(hw0:0<s[k].key.length)
 (db:List Data) (xs:List Ce) (V:jb) (h:wt L n s xs db V) (hdb:DbG I s db):
 Ok Tryz.prog 345 [.c (.ptr L.c L.vc 0 0),.c (.int .i64 (k:Int)),.c (.fz (key.map encV)),.c wv,.c (.int .i64 deep)] V (Done L n s (zy run s k key wth gone db) V):=by
 refine Ok.run0 mixed zb2 gz λhS hA=>?_;clear hS hA;have hs5:=hs.few;rw[zy,zn hk];repeat' first|refine X ?_|((first|apply yG|apply yH|apply yI);exact rfl;(first|exact wbo h rfl))|exact yaF|refine yaS ?_ ?_<;>intro _
 refine Go.keep [0,1,2,3,4,22,23,24] (Go.loops (I:=λm fr V'=>∃(i:Nat) (ki:Int) (db':List Data) (xs':List Ce),m=s.length-i/\i<=s.length/\ki=i/\(DbG I s db'/\wt L n s xs' db' V'/\Kept n V V'/\zah run s[k].name key wth gone 0 s db=zah run s[k].name key wth gone i (s.drop i) db')/\
  fr=[(0,.c (.ptr L.c L.vc 0 0)),(1,.c (.int .i64 (k:Int))),(2,.c (.fz (key.map encV))),(3,.c wv),(4,.c (.int .i64 deep)),(22,.c (.fz (s.map ja))),(23,.c (.int .i64 (s.length:Int))),(24,.c (.int .i64 ki))]) ?_ _ _ _ ⟨0,_,db,xs,rfl,yac _,rfl,⟨hdb,h,.refl,rfl⟩,rfl⟩)
 rintro m fr V1 ⟨i,ki,db1,xs1,rfl,hi,hki,⟨hdb1,hH1,hk1,hst⟩,rfl⟩ hrec;by_cases hlt:i<s.length
 ·rw[yab hlt,zah]at hst;have hti:=hs.tab _ (yaa hlt);have hbi:=hs.big _ (yaa hlt);have hf3:=hti.fk3;have hn0:V.next<=V1.next:=hk1.next;subst hki;repeat' first|refine X ?_|((first|apply yG|apply yH|apply yI);exact rfl;(first|exact yax ja rfl hlt))|exact yaF|refine yaS ?_ ?_<;>intro _
  refine Go.keep [0,1,2,3,4,11,22,23,24,30,31,32] (Go.loops (I:=λm fr V'=>∃(j:Nat) (kj:Int) (db':List Data) (xs':List Ce),m=s[i].fks.length-j/\j<=s[i].fks.length/\kj=j/\(DbG I s db'/\wt L n s xs' db' V'/\Kept n V V'/\wa4 run s[k].name i key wth gone s[i].fks db1=wa4 run s[k].name i key wth gone (s[i].fks.drop j) db')/\
   fr=[(0,.c (.ptr L.c L.vc 0 0)),(1,.c (.int .i64 (k:Int))),(2,.c (.fz (key.map encV))),(3,.c wv),(4,.c (.int .i64 deep)),(11,.c (.int .i64 (i:Int))),(22,.c (.fz (s.map ja))),(23,.c (.int .i64 (s.length:Int))),(24,.c (.int .i64 (i:Int))),(30,.c (.fz (s[i].fks.map wal))),(31,.c (.int .i64 (s[i].fks.length:Int))),(32,.c (.int .i64 kj))]) ?_ _ _ _ ⟨0,_,db1,xs1,rfl,yac _,rfl,⟨hdb1,hH1,hk1,rfl⟩,rfl⟩)
  clear hn0;rintro m fr V2 ⟨j,kj,db2,xs2,rfl,hj,hkj,⟨hdb2,hH2,hk2,hsj⟩,rfl⟩ hrecj;by_cases hltj:j<s[i].fks.length
  ·clear hrec;rw[yab hltj,wa4]at hsj;have hfm:=yaa hltj;have hn0:V.next<=V2.next:=hk2.next;by_cases hna:s[i].fks[j].table=s[k].name
   ·have hnb:(s[i].fks[j].table !=s[k].name)=false:=by rw[hna];exact bne_self_eq_false _
    rw[if_pos hna]at hsj;have hmt:=hs.met _ (yaa hlt) _ hfm k hk hna;have hw2:With gone wv wth s[i].fks[j].cols.length:=by rw[hmt];exact hw
    have hfc:=hti.fk _ hfm;have hfl:=(hbi.2.2.2.2.2.2 _ hfm).1;have hn3:i<db2.length:=by rw[hdb2.len];exact hlt
    have hn4:i<xs2.length:=by rw[hH2.len];exact hn3
    have hR2:=hdb2.rows i hlt hn3;have hz:=hH2.frzR hn3 hn4;have c1:=jjo db2[i].rows s[i].fks[j].cols key (yai hR2.len gb) hfl (λr hr=>by rw[(hR2.fit r hr).1];exact hfc);rw[we hn3]at hsj;have hil:(w8 db2[i].rows s[i].fks[j].cols key).length<=60:=by
     rw[w8,yae];exact yai (ybt _ _) hR2.len
    generalize w8 db2[i].rows s[i].fks[j].cols key=ids at c1 hil hsj;repeat' first|(apply yA;exact rfl)|apply yB|apply yC|((first|apply yD|apply yE);(first|exact yF|assumption);iterate 6 exact rfl)|((first|apply yG|apply yH|apply yI);exact rfl;(first|exact yJ|exact yK rfl rfl|exact yL rfl|exact yM rfl|exact jcd rfl rfl hnb|exact rfl|exact aL rfl rfl rfl rfl rfl|exact aS rfl rfl rfl rfl rfl rfl rfl|exact yax wal hkj hltj|exact yax ja rfl hk|exact wbo hH2 rfl|exact zch hH2 rfl|exact wdr hH2 rfl rfl rfl hn3|exact zds hH2 rfl hn4))|((first|apply yN|apply yO|apply yP);exact rfl)|exact yaF|(((first|apply yT|apply yU|apply yV|apply yW);exact rfl;(first|exact .d|exact .e|exact .n|((fail_if_success exact bqt);(fail_if_success exact bqf);exact .b)))<;>intro _)
    refine Qg.fcall rfl rfl rfl (Lend.fresh (.own hz (.same (.same .nil))) c1) ?_;repeat' first|refine X ?_|exact yaF|refine yaS ?_ ?_<;>intro _
    clear c1 hz hn0
    refine Go.keep [0,1,2,3,4,11,14,22,23,24,30,31,32,58,59,60] (Go.loops (I:=λm fr V'=>∃(a:Nat) (ka:Int) (db':List Data) (xs':List Ce),m=ids.length-a/\a<=ids.length/\ka=a/\(DbG I s db'/\wt L n s xs' db' V'/\Kept n V V'/\zac run i (wct s[i].fks[j] gone) key wth gone ids db2=zac run i (wct s[i].fks[j] gone) key wth gone (ids.drop a) db')/\
     fr=[(0,.c (.ptr L.c L.vc 0 0)),(1,.c (.int .i64 (k:Int))),(2,.c (.fz (key.map encV))),(3,.c wv),(4,.c (.int .i64 deep)),(11,.c (.int .i64 (i:Int))),(14,.c (.fp (wal s[i].fks[j]))),(22,.c (.fz (s.map ja))),(23,.c (.int .i64 (s.length:Int))),(24,.c (.int .i64 (i:Int))),(30,.c (.fz (s[i].fks.map wal))),(31,.c (.int .i64 (s[i].fks.length:Int))),(32,.c (.int .i64 kj)),(58,.c (.fz (ids.map encI))),(59,.c (.int .i64 (ids.length:Int))),(60,.c (.int .i64 ka))]) ?_ _ _ _ ⟨0,_,db2,xs2,rfl,yac _,rfl,⟨hdb2,hH2,hk2,rfl⟩,rfl⟩)
    rintro m fr V3 ⟨a,ka,db3,xs3,rfl,ha,hka,⟨hdb3,hH3,hk3,hsa⟩,rfl⟩ hreca;by_cases hlta:a<ids.length
    ·clear hrecj;have hn5:i<db3.length:=by rw[hdb3.len];exact hlt
     have hn6:i<xs3.length:=by rw[hH3.len];exact hn5
     have hR3:=hdb3.rows i hlt hn5;rw[yab hlta,zac,we hn5]at hsa;have cf:=zcu hH3 hn5 hn6 ids[a] hR3.len;rcases zj db3[i].rows ids[a]with⟨hx1,hx2⟩|⟨b,hb,hx1,hx2⟩
     ·rw[hx2]at hsa;repeat' first|refine X ?_|((first|apply yG|apply yH|apply yI);exact rfl;(first|exact yax encI hka hlta))|exact yaF|refine yaS ?_ ?_<;>intro _
      refine .call _ rfl rfl rfl (cf.1 hx2) ?_;rintro r9 V9 ⟨hr9,ht9⟩;rw[hr9,ht9];clear hr9 ht9;repeat' first|refine X ?_|exact yaF|refine yaS ?_ ?_<;>intro _
      exact Go.keep [0,1,2,3,4,11,14,22,23,24,30,31,32,58,59,60] (hreca _ _ _ O ⟨a+1,_,db3,xs3,rfl,hlta,wb hka O,⟨hdb3,hH3,hk3,hsa⟩,rfl⟩)
     ·rw[hx2]at hsa;simp only at hsa;have hfit:=hR3.fit _ (yaa hb);obtain⟨lab2,ps2,id2,v2,junk2,hat,hl2⟩:=hH3.some hn5 hn6 (Nat.lt_of_le_of_lt (yac _) hb);have hfz:=hat.frz hb;have c2:=wil s[i].fks[j].cols db3[i].rows[b].vals key hfl (by rw[hfit.1];exact hfc);repeat' first|refine X ?_|((first|apply yG|apply yH|apply yI);exact rfl;(first|exact yax encI hka hlta))|exact yaF|refine yaS ?_ ?_<;>intro _
      refine .call _ rfl rfl rfl (cf.2 b hb hx1 _ _ _ _ _ hat) ?_;rintro r9 V9 ⟨hr9,ht9⟩;rw[hr9,ht9];clear hr9 ht9;rw[show(wct s[i].fks[j] gone).cols=s[i].fks[j].cols from rfl]at hsa
      cases hhb:hasB s[i].fks[j].cols key db3[i].rows[b].vals
      ·rw[hhb]at c2;rw[hhb,if_neg yah]at hsa;repeat' first|refine X ?_|((first|apply yG|apply yH|apply yI);exact rfl;(first|exact j5 rfl hat.get (hat.at hb) (yal _)))|exact yaF|refine yaS ?_ ?_<;>intro _
       refine Go.slcall rfl rfl rfl c2 (.bool _) (.same (.own hfz (.same .nil))) ?_;repeat' first|refine X ?_|exact yaF|refine yaS ?_ ?_<;>intro _
       exact Go.keep [0,1,2,3,4,11,14,22,23,24,30,31,32,58,59,60] (hreca _ _ _ O ⟨a+1,_,db3,xs3,rfl,hlta,wb hka O,⟨hdb3,hH3,hk3,hsa⟩,rfl⟩)
      ·rw[hhb]at c2;rw[hhb,if_pos rfl]at hsa;have hvl:=(hat.vl _ (yaa (by rw[hat.len];exact hb))).1;rw[hat.row hb]at hvl;have c5:=zkg hs hr hlt db3[i].rows[b] _ s[i].fks[j] wth gone wv hw2 hwv (by rw[hmt];exact hw0) hfl hfc db3 xs3 V3 hH3 hdb3 (by rw[we hn5];exact yaa hb) hvl;rw[<-congrArg RowD.id (hat.row hb)]at c5;have hkp:=jjn (I:=I) hr.keeps hlt (y:=wct s[i].fks[j] gone) (wth:=wth) (gone:=gone) (x:=db3[i].rows[b]) hdb3 hwv (by rw[we hn5];exact yaa hb);generalize oneF run i (wct s[i].fks[j] gone) wth gone db3[i].rows[b] db3=q at c5 hsa hkp;repeat' first|refine X ?_|((first|apply yG|apply yH|apply yI);exact rfl;(first|exact j5 rfl hat.get (hat.at hb) (yal _)))|exact yaF|refine yaS ?_ ?_<;>intro _
       refine Go.slcall rfl rfl rfl c2 (.bool _) (.same (.own hfz (.same .nil))) ?_;repeat' first|refine X ?_|((first|apply yG|apply yH|apply yI);exact rfl;(first|exact wbj rfl hat.get (hat.at hb) rfl))|exact yaF|refine yaS ?_ ?_<;>intro _
       refine Go.scall _ rfl rfl rfl c5 ?_;rintro r9 V9 ⟨hr9,hk9,hq9⟩;rw[hr9];clear hr9;by_cases hq:q.2=0
       ·rw[if_pos hq]at hsa;obtain⟨xs9,hH9⟩:=hq9 hq;rw[hq];repeat' first|refine X ?_|exact yaF|refine yaS ?_ ?_<;>intro _
        exact Go.keep [0,1,2,3,4,11,14,22,23,24,30,31,32,58,59,60] (hreca _ _ _ O ⟨a+1,_,q.1,xs9,rfl,hlta,wb hka O,⟨hkp hq,hH9,hk3.trans hk9,hsa⟩,rfl⟩)
       ·rw[if_neg hq]at hsa;obtain⟨e,he⟩:∃e,q.2=e:=⟨_,rfl⟩;rw[he]at hq hsa⊢;rw[hsa,if_neg hq]at hsj;rw[hsj,if_neg hq]at hst;rw[hst];repeat' first|refine X ?_|exact yaF|refine yaS ?_ ?_<;>intro _
        exact .ret rfl ⟨rfl,hk3.trans hk9,λh=>absurd h hq⟩
    ·rw[yad O,zac]at hsa;rw[hsa,if_pos rfl]at hsj;repeat' first|refine X ?_|exact yaF|refine yaS ?_ ?_<;>intro _
     exact Go.keep [0,1,2,3,4,11,22,23,24,30,31,32] (hrecj _ _ _ O ⟨j+1,_,db3,xs3,rfl,hltj,wb hkj O,⟨hdb3,hH3,hk3,hsj⟩,rfl⟩)
   ·have hnb:(s[i].fks[j].table !=s[k].name)=true:=by rw[bne_iff_ne];exact hna
    rw[if_neg hna]at hsj;repeat' first|(apply yA;exact rfl)|apply yB|apply yC|((first|apply yD|apply yE);(first|exact yF|assumption);iterate 6 exact rfl)|((first|apply yG|apply yH|apply yI);exact rfl;(first|exact yJ|exact yK rfl rfl|exact yL rfl|exact yM rfl|exact jcd rfl rfl hnb|exact rfl|exact aL rfl rfl rfl rfl rfl|exact aS rfl rfl rfl rfl rfl rfl rfl|exact yax wal hkj hltj|exact yax ja rfl hk|exact wbo hH2 rfl))|((first|apply yN|apply yO|apply yP);exact rfl)|exact yaF|(((first|apply yT|apply yU|apply yV|apply yW);exact rfl;(first|exact .d|exact .e|exact .n|((fail_if_success exact bqt);(fail_if_success exact bqf);exact .b)))<;>intro _)
    exact Go.keep [0,1,2,3,4,11,22,23,24,30,31,32] (hrecj _ _ _ O ⟨j+1,_,db2,xs2,rfl,hltj,wb hkj O,⟨hdb2,hH2,hk2,hsj⟩,rfl⟩)
  ·rw[yad O,wa4]at hsj;rw[hsj,if_pos rfl]at hst;repeat' first|refine X ?_|exact yaF|refine yaS ?_ ?_<;>intro _
   exact Go.keep [0,1,2,3,4,22,23,24] (hrec _ _ _ O ⟨i+1,_,db2,xs2,rfl,hlt,wb rfl O,⟨hdb2,hH2,hk2,hst⟩,rfl⟩)
 ·rw[yad O,zah]at hst;rw[hst];repeat' first|refine X ?_|exact yaF|refine yaS ?_ ?_<;>intro _
  exact .ret rfl ⟨rfl,hk1,λ_=>⟨xs1,hH1⟩⟩
end Go.Proofs.YtedaadaaibofaaaGreat.Am
namespace Go.Proofs.YtedaadaaibofaaaGreat.Am
variable {I:Nat->Int->Prop}

theorem Go.qxd{P:Program}{n0 nt:Nat}{rets:List RV}{R:AV->jb->Prop}{K:List AK}{fr:Fr}{α β:Type}{seg:List jd}{rest:List (List jd)}(S:α->β->jb)(I:β->Prop)(a:α)(b:β)(hi:∀a b b',S a b=S a b'->b=b')(hI:I b)(h:Qx P S I (λF a b=>Go P n0 nt rets R (.segs rest::K) F (S a b)) seg fr a b):Go P n0 nt rets R (.segs (seg::rest)::K) fr (S a b):=
 .qx S I _ a b hi hI h λ_ _ _ h=>h
theorem Ok.ext{P:Program}{f:Nat}{args:List AV}{G V:jb}{Q:AV->jb->Prop}(h:Ok P f args V Q)(e:G=V):Ok P f args G Q:=e▸h
def delF(run:Chg->List Data->Res)(s:List wc)(k:Nat)(id:Int)(db:List Data):Res:=match jai (jp db k) id with
 |none=>([],9)
 |some x=>zy run s k (keyF (tabN s k).key x.vals) [] true (db.set k ⟨z5 (jp db k) id⟩)
theorem wjp{α:Type}{p:α->Bool}:∀{l:List α} {i:Int} {j:Nat},0<=i->idxA p l i=i+(j:Int)->j<l.length->(∀x∈l.take j,p x=false)/\∀h:j<l.length,p l[j]=true
 |[],_,_,_,_,h=>by simp at h
 |a::l,i,j,hi,h,hj=>by
  rw[idxA]at h
  cases ha:p a
  ·rw[ha,if_neg yah]at h
   cases j with
   |zero=>
    exfalso;rcases zc0 p l (i+1)with⟨h1,_⟩|⟨k,hk,h1,_⟩
    ·rw[h1]at h;omega
    ·omega
   |succ j=>
    obtain⟨h1,h2⟩:=wjp (l:=l) (i:=i+1) (j:=j) O (by rw[h];omega) (by simpa using hj);refine⟨λx hx=>?_,λh=>by simpa using h2 (by simpa using h)⟩;rw[List.take_succ_cons]at hx;rcases List.mem_cons.1 hx with rfl|hx
    ·exact ha
    ·exact h1 x hx
  ·rw[ha,if_pos rfl]at h;have:j=0:=O;subst this;exact⟨λx hx=>by simp at hx,λh=>by simpa using ha⟩
theorem At.ne{L:ChL}{n k:Nat}{lab:Nat->Nat×Option Int}{V:jb}{rows:List RowD}{x:Ce}{ps:List PRow}{id v:Nat}{junk:List (List Ce)}(h:At L n k lab V rows x ps id v junk){p:PRow}(hp:p∈ps){a:Nat}(ha:idOf p.2=some a):a≠id:=λe=>by
 have h1:=((h.vl p hp).2 a ha).1;rw[e,h.own.1]at h1
 cases h1
set_option maxHeartbeats 4000000 in
theorem zi1{L:ChL}{n:Nat}{s:List wc}{run:Chg->List Data->Res}{deep:Int}(hs:SchG s)(hr:wf6 I L n s run (IntKind.i64.wrap (deep+1)))(hd:deep<=12){k:Nat}(hk:k<s.length)(id:Int)(db:List Data)(xs:List Ce)(V:jb)(h:wt L n s xs db V)(hdb:DbG I s db):
 Ok Tryz.prog 281 [.c (.ptr L.c L.vc 0 0),.c (.int .i64 (k:Int)),.c (.int .i64 id),.c (.int .i64 deep)] V (Done L n s (delF run s k id db) V):=by
 refine Ok.run0 mixed zar gz λhS hA=>?_;clear hS hA;have hk2:k<db.length:=by rw[hdb.len];exact hk
 have hk3:k<xs.length:=by rw[h.len];exact hk2
 have hR:=hdb.rows k hk hk2;have ht:=hs.tab _ (yaa hk);have cf:=zcu h hk2 hk3 id hR.len;rw[delF,we hk2,zn hk];repeat' first|refine X ?_|exact yaF|refine yaS ?_ ?_<;>intro _
 rcases zj db[k].rows id with⟨hx1,hx2⟩|⟨j,hj,hx1,hx2⟩
 ·rw[hx2];refine .call _ rfl rfl rfl (cf.1 hx2) ?_;rintro r9 V9 ⟨hr9,ht9⟩;rw[hr9,ht9];repeat' first|refine X ?_|exact yaF|refine yaS ?_ ?_<;>intro _
  exact .ret rfl ⟨rfl,.refl,λh=>by cases h⟩
 ·rw[hx2];show Go _ _ _ _ (Done L n s (zy run s k (keyF s[k].key db[k].rows[j].vals) [] true (db.set k ⟨z5 db[k].rows id⟩)) V) _ _ _;have hfit:=hR.fit _ (yaa hj);obtain⟨lab2,ps2,id2,v2,junk2,hat,hl2⟩:=h.some hk2 hk3 (Nat.lt_of_le_of_lt (yac _) hj);obtain⟨_,q1,q2,q3,q4⟩:=hat.own;have hj2:j<ps2.length:=by rw[hat.len];exact hj
  have ck:=Lend.fresh (.same (.own (hat.frz hj) .nil)) (jfd s[k].key db[k].rows[j].vals (hs.big _ (yaa hk)).2.2.1 (by rw[hfit.1];exact ht.key));have hpre:=wjp (p:=λr:RowD=>r.id==id) (l:=db[k].rows) (i:=0) (j:=j) gb (by rw[hx1];omega) hj;have hzf:=h.frzR hk2 hk3;rw[hat.x,<-hat.rows]at hzf;have hdrop:(ps2.filter λr=> !(r.1.id==id)).map (·.1)=z5 db[k].rows id:=by
   rw[z5,<-hat.rows,List.filter_map]
   rfl
  have cd:=wi0 ps2 junk2 id (by rw[hat.len];exact hR.len) id2 v2 V hat.get hat.jk hzf j hj2 (by rw[hat.rows];exact hx1) (by rw[hat.row hj];exact hpre.2 hj) (λr hr=>hpre.1 r.1 (by rw[<-hat.rows,<-List.map_take];exact List.mem_map_of_mem hr));rw[<-hat.x]at cd;have hset:DbG I s (db.set k ⟨z5 db[k].rows id⟩):=hdb.set hk (hR.drop id);refine .call _ rfl rfl rfl (cf.2 j hj hx1 _ _ _ _ _ hat) ?_;rintro r9 V9 ⟨hr9,ht9⟩;rw[hr9,ht9];clear hr9 ht9;repeat' first|apply Go.seq|apply Go.skip|apply Go.region|apply Go.nil|apply Go.block|apply Go.blk|apply Go.segs|(apply Go.exit;exact rfl)|(apply Go.cond true;exact rfl)|(apply Go.cond false;exact rfl)|apply yB|apply yC|((first|apply yD|apply yE);(first|exact yF|assumption);iterate 6 exact rfl)|((first|apply yG|apply yH|apply yI);exact rfl;(first|exact yJ|exact yK rfl rfl|exact yL rfl|exact yM rfl|exact rfl|exact aL rfl rfl rfl rfl rfl|exact aS rfl rfl rfl rfl rfl rfl rfl))|((first|apply yN|apply yO|apply yP);exact rfl)|exact yaF|(((first|apply yT|apply yU|apply yV|apply yW);exact rfl;(first|exact .d|exact .e|exact .n|((fail_if_success exact bqt);(fail_if_success exact bqf);exact .b)))<;>intro _)
  apply Go.draw;repeat' first|apply Go.seq|apply Go.skip|apply Go.region|apply Go.nil|apply Go.block|apply Go.blk|apply Go.segs|(apply Go.exit;exact rfl)|(apply Go.cond true;exact rfl)|(apply Go.cond false;exact rfl)|apply yB|apply yC|((first|apply yD|apply yE);(first|exact yF|assumption);iterate 6 exact rfl)|((first|apply yG|apply yH|apply yI);exact rfl;(first|exact yJ|exact yK rfl rfl|exact yL rfl|exact yM rfl|exact rfl|exact aL rfl rfl rfl rfl rfl|exact aS rfl rfl rfl rfl rfl rfl rfl|exact wbo h rfl|exact yax ja rfl hk|exact j5 rfl hat.get (hat.at hj) (yal _)))|((first|apply yN|apply yO|apply yP);exact rfl)|exact yaF|(((first|apply yT|apply yU|apply yV|apply yW);exact rfl;(first|exact .d|exact .e|exact .n|((fail_if_success exact bqt);(fail_if_success exact bqf);exact .b)))<;>intro _)
  refine Go.scall _ rfl rfl rfl ck ?_;rintro r9 V8 ⟨hr9,ht9⟩;rw[hr9,ht9];clear hr9 ht9;repeat' first|apply Go.seq|apply Go.skip|apply Go.region|apply Go.nil|apply Go.block|apply Go.blk|apply Go.segs|(apply Go.exit;exact rfl)|(apply Go.cond true;exact rfl)|(apply Go.cond false;exact rfl)|apply yB|apply yC|((first|apply yD|apply yE);(first|exact yF|assumption);iterate 6 exact rfl)|((first|apply yG|apply yH|apply yI);exact rfl;(first|exact yJ|exact yK rfl rfl|exact yL rfl|exact yM rfl|exact rfl|exact aL rfl rfl rfl rfl rfl|exact aS rfl rfl rfl rfl rfl rfl rfl))|((first|apply yN|apply yO|apply yP);exact rfl)|exact yaF|(((first|apply yT|apply yU|apply yV|apply yW);exact rfl;(first|exact .d|exact .e|exact .n|((fail_if_success exact bqt);(fail_if_success exact bqf);exact .b)))<;>intro _)
  apply Go.draw;have hcA:∀a,(V.put id2 a).get L.c=some (L.vc,[[.fz (s.map ja),.sl L.d L.vd 0 db.length (db.length+L.junk.length)]]):=λa=>(if_neg (Ne.symm q3)).trans h.c;have hdA:∀a,(V.put id2 a).get L.d=some (L.vd,cells xs++L.junk):=λa=>(if_neg (Ne.symm q4)).trans h.d;refine Go.ext ?_ (wgr hat.get);refine Go.qxd (λa (_:Unit)=>V.put id2 a) (λ_=>True) (v2,ps2.map encP++junk2) () (λ_ _ _ _=>rfl) trivial ?_;have o1:∀(a:Nat×List (List Ce)) (fr:Fr) (x:Opd),x.ev fr=some (.c (.ptr L.c L.vc 0 1))->aop (.load false 1 x) fr (V.put id2 a)=some (.c (.sl L.d L.vd 0 db.length (db.length+L.junk.length)),V.put id2 a):=λa fr x hx=>j5 hx (hcA a) rfl (yal _);have o2:∀(a:Nat×List (List Ce)) (fr:Fr) (x y:Opd),x.ev fr=some (.c (.sl L.d L.vd 0 db.length (db.length+L.junk.length)))->y.ev fr=some (.c (.int .i64 (k:Int)))->aop (.iaddr 1 x y) fr (V.put id2 a)=some (.c (.ptr L.d L.vd (0+k) 0),V.put id2 a):=λa fr x y hx hy=>wq hx hy rfl hk2 (hdA a) (zau hk3) rfl;have o3:∀(a:Nat×List (List Ce)) (fr:Fr) (x:Opd),x.ev fr=some (.c (.ptr L.d L.vd (0+k) 0))->aop (.load false 1 x) fr (V.put id2 a)=some (.c xs[k],V.put id2 a):=λa fr x hx=>j5 hx (hdA a) (zau hk3) (yal _);repeat' first|(apply Qx.op;exact rfl;(first|exactλa _ _=>o1 a _ _ rfl|exactλa _ _=>o2 a _ _ _ rfl rfl|exactλa _ _=>o3 a _ _ rfl|exactλ_ _ _=>rfl))
  have cd2:=cd.ext (wgr hat.get);refine Qx.call (λr a'=>∃junk',Jk 2 junk'/\r=.c (vec id2 v2 ((ps2.filter λr=> !(r.1.id==id)).map encP) junk')/\a'=(v2,(ps2.filter λr=> !(r.1.id==id)).map encP++junk')) rfl rfl rfl (λ_ _=>cd2.mono ?_) ?_
  ·rintro r V9 ⟨junk',hj',rfl,rfl⟩;exact⟨_,⟨junk',hj',rfl,rfl⟩,rfl⟩
  rintro r a' ⟨junk',hj',rfl,rfl⟩;refine .nil ?_;show Go _ _ _ _ _ _ _ (V.put id2 (v2,(ps2.filter λr=> !(r.1.id==id)).map encP++junk'));generalize hfe:(ps2.filter λr=> !(r.1.id==id))=pf at hdrop;have hne2:id2≠L.d:=q4;have hH2:wt L n s (xs.set k (vec id2 v2 (pf.map encP) junk')) (db.set k ⟨z5 db[k].rows id⟩) ((V.put id2 (v2,pf.map encP++junk')).put L.d (L.vd,(cells xs++L.junk).set (0+k) [vec id2 v2 (pf.map encP) junk'])):=by
   refine h.upd hl2 hk3 (new:=λ_=>none) (yaf _) (λa ha hne hno=>?_) ?_ ?_
   ·exact(if_neg hne).trans (if_neg λe=>hno ⟨none,by rw[e];exact hat.own⟩)
   ·rw[whi hk3];exact ja1
   ·refine .sl _ pf id2 v2 junk' hdrop ((if_neg hne2).trans ja1) hj' (.inl hat.own) λp hp=>?_;have hm:p∈ps2:=by rw[<-hfe]at hp;exact(List.mem_filter.1 hp).1
    refine⟨(hat.vl p hm).1.frame λa ha=>(if_neg ?_).trans (if_neg ?_),λa ha=>.inl ((hat.vl p hm).2 a ha)⟩
    ·exact((hat.vl p hm).2 a ha).2.2.2.2
    ·exact hat.ne hm ha
  have hK2:Kept n V ((V.put id2 (v2,pf.map encP++junk')).put L.d (L.vd,(cells xs++L.junk).set (0+k) [vec id2 v2 (pf.map encP) junk'])):=(Kept.put q1).trans (.put h.nd);repeat' first|refine X ?_|((first|apply yG|apply yH|apply yI);exact rfl;(first|exact wq rfl rfl rfl hk2 (hdA _) (zau hk3) rfl|exact wdw rfl rfl (hdA _) (zau hk3) (yal _)))|exact yaF|refine yaS ?_ ?_<;>intro _
  have cw:=jhj hs hr hk (keyF s[k].key db[k].rows[j].vals) [] true .nils .gone (λv hv=>by cases hv) (hs.key0 _ (yaa hk)) _ _ _ hH2 hset;refine .call _ rfl rfl rfl cw ?_;rintro r9 V9 ⟨hr9,hk9,hq9⟩;rw[hr9];repeat' first|refine X ?_|exact yaF|refine yaS ?_ ?_<;>intro _
  exact .ret rfl ⟨rfl,hK2.trans hk9,hq9⟩
end Go.Proofs.YtedaadaaibofaaaGreat.Am
namespace Go.Proofs.YtedaadaaibofaaaGreat.Am
variable {I:Nat->Int->Prop}

theorem whj(t:wc)(vals:List Val)(hl:vals.length=t.cols.length)(h0:vals≠[])(hc:t.cols.length<=8):Pure Tryz.prog 234 [.agg (ja t),.c (.fz (vals.map encV))] (.c (.fz ((jj t 0 vals).map encV))):=by
 refine NewV.pure λG=>Ok.run mixed jeh gz λhS hA=>?_;clear hA hS;have cm:=jah vals h0 O (E G []);repeat' first|refine X ?_|exact yaF|refine yaS ?_ ?_<;>intro _
 refine .call _ rfl rfl rfl cm ?_;rintro q V9 ⟨v,junk,hj,hq,ht⟩;rw[hq,ht,E_E];repeat' first|refine X ?_|exact yaF|refine yaS ?_ ?_<;>intro _
 refine Go.keep [2,5,10,11,12] (Go.loops (I:=λm fr V=>∃(i:Nat) (k:Int) (cur:List Val),m=vals.length-i/\i<=vals.length/\k=i/\(cur.length=vals.length/\jj t 0 vals=cur.take i++jj t i (cur.drop i))/\
  fr=[(2,.c (.fp (ja t))),(5,.c (vec (G.next+0) v (vals.map encV) junk)),(10,.c (vec (G.next+0) v (vals.map encV) junk)),(11,.c (.int .i64 ((vals.map encV).length:Int))),(12,.c (.int .i64 k))]/\V=E G [(v,cur.map encV++junk)]) ?_ _ _ _ ⟨0,_,vals,rfl,yac _,rfl,⟨rfl,gx⟩,rfl,rfl⟩)
 rintro m fr V ⟨i,k,cur,rfl,hi,hk,⟨hcl,hst⟩,rfl,rfl⟩ hrec;rw[yae]at hrec⊢;by_cases hlt:i<vals.length
 ·have hlc:i<t.cols.length:=O;have hi2:i<cur.length:=O;have him:i<(vals.map encV).length:=by rw[yae];exact hlt
  have hnn:zx t (i:Int)=t.cols[i].notNull:=by rw[zx,ybb,yag hlc]
  have hdf:wff t i=t.cols[i].dflt:=by rw[wff,yag hlc]
  rw[yab hi2,jj,hnn,hdf]at hst;have hsame:jj t 0 vals=cur.take i++cur[i]::jj t (i+1) (cur.drop (i+1))->jj t 0 vals=cur.take (i+1)++jj t (i+1) (cur.drop (i+1)):=λh=>by rw[h,yaj hi2,ybn];rfl
  have hat:((cur.map encV)++junk)[0+i]?=some (encV cur[i]):=jas hi2;have hgE:(E G [(v,cur.map encV++junk)]).get (G.next+0)=some (v,cur.map encV++junk):=by rw[E_at];rfl
  by_cases hz:cur[i].k=0
  ·cases hb:t.cols[i].notNull
   ·rw[hb,ybj,if_neg yah]at hst;repeat' first|refine X ?_|((first|apply yG|apply yH|apply yI);exact rfl;(first|exact jaa (k:=0) rfl rfl hk him rfl hat rfl|exact wbj rfl hgE hat rfl|exact yax jf hk hlc))|exact yaF|refine yaS ?_ ?_<;>intro _
    all_goals first
     |exact Go.keep [2,5,10,11,12] (hrec _ _ _ O ⟨i+1,_,cur,rfl,hlt,wb hk O,⟨hcl,hsame hst⟩,rfl,rfl⟩)
     |(exfalso;simp_all;done)
   ·rw[hb,hz,if_pos gb]at hst;repeat' first|refine X ?_|((first|apply yG|apply yH|apply yI);exact rfl;(first|exact jaa (k:=0) rfl rfl hk him rfl hat rfl|exact wbj rfl hgE hat rfl|exact yax jf hk hlc|exact zl (k:=0) rfl rfl rfl rfl hat rfl gz))|exact yaF|refine yaS ?_ ?_<;>intro _
    all_goals first
     |(refine Go.keep [2,5,10,11,12] (hrec _ _ _ O ⟨i+1,_,cur.set i t.cols[i].dflt,rfl,hlt,wb hk O,⟨by rw[yasq];exact hcl, ?_⟩,rfl, ?_⟩)
       ·rw[hst,yaj (by rw[yasq];exact hi2),List.take_set_of_le (yaf _),List.getElem_set_self,List.drop_set_of_lt (yal _),ybn]
        rfl
       ·exact congrArg (E G) (congrArg (λz=>[(v,z)]) (zcd hi2 _ t.cols[i].dflt)))
     |(exfalso;simp_all;done)
  ·rw[beq_eq_false_iff_ne.2 hz,ybg,if_neg yah]at hst;repeat' first|refine X ?_|((first|apply yG|apply yH|apply yI);exact rfl;(first|exact jaa (k:=0) rfl rfl hk him rfl hat rfl|exact wbj rfl hgE hat rfl|exact yax jf hk hlc))|exact yaF|refine yaS ?_ ?_<;>intro _
   all_goals first
    |exact Go.keep [2,5,10,11,12] (hrec _ _ _ O ⟨i+1,_,cur,rfl,hlt,wb hk O,⟨hcl,hsame hst⟩,rfl,rfl⟩)
    |(exfalso;simp_all;done)
 ·clear hrec;rw[yad O,jj,ybe,yao O]at hst;repeat' first|refine X ?_|exact yaF|refine yaS ?_ ?_<;>intro _
  refine .ret rfl ?_;rw[hst];have hvv:vec (G.next+0) v (vals.map encV) junk=vec (G.next+0) v (cur.map encV) junk:=by rw[vec,vec,yae,yae,hcl]
  rw[hvv];exact wcg zag hj
theorem zf7(t:wc)(vals:List Val)(hl:vals.length=t.cols.length)(ht:whh t)(hb:wad 34359738368 t):Pure Tryz.prog 235 [.agg (ja t),.c (.fz (vals.map encV))] (.c (.int .i64 (wb4 t vals))):=by
 refine yaq [2] jfr λG=>?_;have c1:=jiy t vals hl ht.cols8;have c2:=jhi t vals (yai ht.chk3 gb) (λc hc=>(hb.2.2.2.2.1.2 c hc).1) (by rw[hl];exact yai ht.cols8 gb);rw[wb4];generalize jav t 0 vals=a at c1⊢;generalize t.checks.any (za1 vals)=b at c2⊢
 cases a
 ·cases b
  ·repeat' first|refine X ?_|refine yaC (c1) ?_|refine yaC (c2) ?_|exact yaF|refine yaS ?_ ?_<;>intro _
   exact .ret rfl (.int rfl)
  ·repeat' first|refine X ?_|refine yaC (c1) ?_|refine yaC (c2) ?_|exact yaF|refine yaS ?_ ?_<;>intro _
   exact .ret rfl (.int rfl)
 ·repeat' first|refine X ?_|refine yaC (c1) ?_|refine yaC (c2) ?_|exact yaF|refine yaS ?_ ?_<;>intro _
  exact .ret rfl (.int rfl)
theorem ji1{l:List RowD}(hr:Rise l){j:Nat}(hj:j<l.length){x:RowD}(hx:l[j].id=x.id):setRow l x=l.set j x:=by
 refine List.ext_getElem (by rw[setRow,yae,yasq]) λi h1 h2=>?_;have hi:i<l.length:=by rw[yasq]at h2;exact h2
 rw[List.getElem_set];simp only[setRow,List.getElem_map];have h3:=List.pairwise_iff_getElem.1 hr;by_cases e:j=i
 ·subst e;rw[if_pos (beq_iff_eq.2 hx),if_pos rfl]
 ·rw[if_neg e,if_neg];intro he;have he:=beq_iff_eq.1 he;rcases Nat.lt_trichotomy i j with h|h|h
  ·have:=h3 i j hi hj h;omega
  ·omega
  ·have:=h3 j i hj hi h;omega
theorem At.set{L:ChL}{n:Nat}{s:List wc}{xs:List Ce}{db:List Data}{V:jb}(h:wt L n s xs db V){k:Nat}(hk:k<db.length)(hk2:k<xs.length){lab:Nat->Nat×Option Int}{ps:List PRow}{id2 v2:Nat}{junk2:List (List Ce)}(hat:At L n k lab V db[k].rows xs[k] ps id2 v2 junk2)
 (hl:∀i (h:i<xs.length) (h2:i<db.length),Tb V (Own L n V.next lab i) db[i].rows xs[i]) (hr:Rise db[k].rows) {j:Nat} (hj:j<db[k].rows.length) {id:Int} (hid:db[k].rows[j].id=id) (vals:List Val) {v:Nat} {junk:List (List Ce)} (hjk:Jk 3 junk):
 wt L n s xs (db.set k ⟨setRow db[k].rows ⟨id,vals⟩⟩) ((E V [(v,vals.map encV++junk)]).put id2 (v2,(ps.map encP++junk2).set (0+j) (jh (encP (ps[j]'(by rw[hat.len];exact hj))) 1 [vec (V.next+0) v (vals.map encV) junk]))):=by
 have hj2:j<ps.length:=by rw[hat.len];exact hj
 obtain⟨_,q1,q2,q3,q4⟩:=hat.own;have hps:(ps.map encP++junk2).set (0+j) (jh (encP ps[j]) 1 [vec (V.next+0) v (vals.map encV) junk])=(ps.set j (⟨id,vals⟩,vec (V.next+0) v (vals.map encV) junk)).map encP++junk2:=by
  have h1:jh (encP ps[j]) 1 [vec (V.next+0) v (vals.map encV) junk]=encP (⟨id,vals⟩,vec (V.next+0) v (vals.map encV) junk):=by
   have h2:ps[j].1.id=id:=by rw[hat.row hj];exact hid
   simp only[encP,jh,h2]
   rfl
  rw[h1,Nat.zero_add,List.set_append_left _ _ (by simpa using hj2),List.map_set]
 rw[hps];have h9:xs=xs.set k xs[k]:=(List.set_getElem_self hk2).symm;have hng:∀{a:Nat},a<V.next->a≠id2->((E V [(v,vals.map encV++junk)]).put id2 (v2,(ps.set j (⟨id,vals⟩,vec (V.next+0) v (vals.map encV) junk)).map encP++junk2)).get a=V.get a:=λha hne=>(if_neg hne).trans (E_lt ha);have hE:(E V [(v,vals.map encV++junk)]).next=V.next+1:=rfl;have main:=h.upd hl hk2 (V2:=(E V [(v,vals.map encV++junk)]).put id2 (v2,(ps.set j (⟨id,vals⟩,vec (V.next+0) v (vals.map encV) junk)).map encP++junk2)) (x:=xs[k]) (rows:=setRow db[k].rows ⟨id,vals⟩) (new:=λ_=>some id) (by show V.next<=V.next+1;omega) (λa ha hne hno=>?_) ?_ ?_
 ·rw[<-h9]at main;exact main
 ·exact hng ha λe=>hno ⟨none,by rw[e];exact hat.own⟩
 ·rw[<-h9,hng h.ld (Ne.symm q4)];exact h.d
 ·have hx:=hat.x;generalize hxx:xs[k]=x at hx⊢;subst hx;have e0:vec id2 v2 (ps.map encP) junk2=vec id2 v2 ((ps.set j (⟨id,vals⟩,vec (V.next+0) v (vals.map encV) junk)).map encP) junk2:=by simp[vec]
  rw[e0];refine .sl _ (ps.set j (⟨id,vals⟩,vec (V.next+0) v (vals.map encV) junk)) id2 v2 junk2 ?_ ja1 hat.jk (.inl hat.own) λp hp=>?_
  ·rw[ji1 hr hj hid,List.map_set,hat.rows]
  ·rcases ybm hp with hm|rfl
   ·exact⟨(hat.vl p hm).1.frame λa ha=>hng ((hat.vl p hm).2 a ha).2.2.1 (hat.ne hm ha),λa ha=>.inl ((hat.vl p hm).2 a ha)⟩
   ·refine⟨.sl vals _ v junk ((if_neg O).trans ?_) hjk,λa ha=>.inr ?_⟩
    ·rw[E_at]
     rfl
    ·cases ha;exact⟨yaf _,by show V.next+0<V.next+1;omega,rfl⟩
end Go.Proofs.YtedaadaaibofaaaGreat.Am
namespace Go.Proofs.YtedaadaaibofaaaGreat.Am
variable {I:Nat->Int->Prop}

variable {run:Chg->List Data->Res}{deep:Int}
theorem zia{s:List wc}(hs:SchG s)(hr:zd4 I s run (IntKind.i64.wrap (deep+1)))(hd:deep<=12){n:Nat}(hn:n<s.length)(id:Int)(db:List Data)(x:RowD)(h:DbG I s db)(hx:jai (jp db n) id=some x):
 Pure Tryz.prog 257 [.c (.fz (s.map ja)),.c (.fz (db.map wa)),.c (.int .i64 (n:Int)),.c (.int .i64 id),.c (.int .i64 deep)] (resV (zy run s n (keyF s[n].key x.vals) [] true (db.set n ⟨z5 (jp db n) id⟩))):=by
 refine yas jbu λG=>?_;have hn2:n<db.length:=by rw[h.len];exact hn
 have hR:=h.rows n hn hn2;have ht:=hs.tab _ (yaa hn);rw[we hn2]at hx⊢;have c1:=wac db[n] id (yai hR.len gb);rcases zj db[n].rows id with⟨_,hx2⟩|⟨j,hj,hx1,hx2⟩
 ·rw[hx2]at hx
  cases hx
 ·rw[hx2]at hx;injection hx with hx;subst hx;rw[hx1]at c1;have hfit:=hR.fit _ (yaa hj);have c2:=wbi s[n].key db[n].rows[j].vals (hs.big _ (yaa hn)).2.2.1 (by rw[hfit.1];exact ht.key);have c3:=zjo db[n] id hR.len;have c4:=zct db (n:Int) n ⟨z5 db[n].rows id⟩ rfl hn2 (by rw[h.len];exact yai hs.few gb);have hset:DbG I s (db.set n ⟨z5 db[n].rows id⟩):=h.set hn (hR.drop id);have c5:=wcd hs hr hn (keyF s[n].key db[n].rows[j].vals) [] true .nils .gone (λv hv=>by cases hv) (db.set n ⟨z5 db[n].rows id⟩) hset;generalize zy run s n (keyF s[n].key db[n].rows[j].vals) [] true (db.set n ⟨z5 db[n].rows id⟩)=q at c5⊢;generalize db.set n ⟨z5 db[n].rows id⟩=db2 at c4 c5;generalize keyF s[n].key db[n].rows[j].vals=key at c2 c5;generalize zab s[n].key db[n].rows[j].vals=wh at c2;by_cases hq:q.2=0
  ·rw[zaf hq]at c5;repeat' first|apply Go.seq|apply Go.skip|apply Go.region|apply Go.nil|apply Go.block|apply Go.blk|apply Go.segs|(apply Go.exit;exact rfl)|(apply Go.cond true;exact rfl)|(apply Go.cond false;exact rfl)|apply yB|apply yC|((first|apply yD|apply yE);(first|exact yF|assumption);iterate 6 exact rfl)|((first|apply yG|apply yH|apply yI);exact rfl;(first|exact yJ|exact yK rfl rfl|exact yL rfl|exact yM rfl|exact rfl|exact aL rfl rfl rfl rfl rfl|exact aS rfl rfl rfl rfl rfl rfl rfl))|((first|apply yN|apply yO|apply yP);exact rfl)|exact yaF|(((first|apply yT|apply yU|apply yV|apply yW);exact rfl;(first|exact .d|exact .e|exact .n|((fail_if_success exact bqt);(fail_if_success exact bqf);exact .b)))<;>intro _)
   apply Go.draw;refine Go.qkd [] ?_;repeat' first|(apply Qk.nil;show Go _ _ _ _ _ _ _ _)|(apply Qk.op;exact rfl;(first|(rintro _ ⟨_,rfl⟩;exact rfl)|(rintro _ ⟨_,rfl⟩;exact zaj rfl rfl rfl (yam rfl) rfl)|(rintro _ ⟨_,rfl⟩;exact yax wa rfl hn2)|(rintro _ ⟨_,rfl⟩;exact yax jc rfl hj)))|(apply Qk.no;exact rfl)|(apply Qk.pcall;(iterate 3 exact rfl);(first|exact c1))|(apply Qk.wop;exact rfl;exact rfl;(first|exact yJ|exact yL rfl|exact zl rfl rfl rfl rfl rfl rfl (yam rfl));exact⟨_,rfl⟩)
   repeat' first|apply Go.seq|apply Go.skip|apply Go.region|apply Go.nil|apply Go.blk|apply Go.draw|apply Go.segs|(apply Go.exit;exact rfl)|(apply Go.cond true;exact rfl)|(apply Go.cond false;exact rfl)|apply yB|apply yC|((first|apply yD|apply yE);(first|exact yF|assumption);iterate 6 exact rfl)|((first|apply yG|apply yH|apply yI);exact rfl;(first|exact yJ|exact yK rfl rfl|exact yL rfl|exact yM rfl|exact rfl|exact aL rfl rfl rfl rfl rfl|exact aS rfl rfl rfl rfl rfl rfl rfl|exact yax wa rfl hn2|exact yax ja rfl hn))|((first|apply yN|apply yO|apply yP);exact rfl)|((first|apply yQ|apply yR|apply yS);(iterate 3 exact rfl);(first|exact c2|exact c3|exact c4|exact c5))|exact yaF|(((first|apply yT|apply yU|apply yV|apply yW);exact rfl;(first|exact .d|exact .e|exact .n|((fail_if_success exact bqt);(fail_if_success exact bqf);exact .b)))<;>intro _)
   exact .ret rfl (Fin.same (zaf hq).symm (jg q _))
  ·obtain⟨e,he⟩:∃e,q.2=e:=⟨_,rfl⟩;rw[he]at hq;rw[jab he hq]at c5;repeat' first|apply Go.seq|apply Go.skip|apply Go.region|apply Go.nil|apply Go.block|apply Go.blk|apply Go.segs|(apply Go.exit;exact rfl)|(apply Go.cond true;exact rfl)|(apply Go.cond false;exact rfl)|apply yB|apply yC|((first|apply yD|apply yE);(first|exact yF|assumption);iterate 6 exact rfl)|((first|apply yG|apply yH|apply yI);exact rfl;(first|exact yJ|exact yK rfl rfl|exact yL rfl|exact yM rfl|exact rfl|exact aL rfl rfl rfl rfl rfl|exact aS rfl rfl rfl rfl rfl rfl rfl))|((first|apply yN|apply yO|apply yP);exact rfl)|exact yaF|(((first|apply yT|apply yU|apply yV|apply yW);exact rfl;(first|exact .d|exact .e|exact .n|((fail_if_success exact bqt);(fail_if_success exact bqf);exact .b)))<;>intro _)
   apply Go.draw;refine Go.qkd [] ?_;repeat' first|(apply Qk.nil;show Go _ _ _ _ _ _ _ _)|(apply Qk.op;exact rfl;(first|(rintro _ ⟨_,rfl⟩;exact rfl)|(rintro _ ⟨_,rfl⟩;exact zaj rfl rfl rfl (yam rfl) rfl)|(rintro _ ⟨_,rfl⟩;exact yax wa rfl hn2)|(rintro _ ⟨_,rfl⟩;exact yax jc rfl hj)))|(apply Qk.no;exact rfl)|(apply Qk.pcall;(iterate 3 exact rfl);(first|exact c1))|(apply Qk.wop;exact rfl;exact rfl;(first|exact yJ|exact yL rfl|exact zl rfl rfl rfl rfl rfl rfl (yam rfl));exact⟨_,rfl⟩)
   repeat' first|apply Go.seq|apply Go.skip|apply Go.region|apply Go.nil|apply Go.blk|apply Go.draw|apply Go.segs|(apply Go.exit;exact rfl)|(apply Go.cond true;exact rfl)|(apply Go.cond false;exact rfl)|apply yB|apply yC|((first|apply yD|apply yE);(first|exact yF|assumption);iterate 6 exact rfl)|((first|apply yG|apply yH|apply yI);exact rfl;(first|exact yJ|exact yK rfl rfl|exact yL rfl|exact yM rfl|exact rfl|exact aL rfl rfl rfl rfl rfl|exact aS rfl rfl rfl rfl rfl rfl rfl|exact yax wa rfl hn2|exact yax ja rfl hn))|((first|apply yN|apply yO|apply yP);exact rfl)|((first|apply yQ|apply yR|apply yS);(iterate 3 exact rfl);(first|exact c2|exact c3|exact c4|exact c5))|exact yaF|(((first|apply yT|apply yU|apply yV|apply yW);exact rfl;(first|exact .d|exact .e|exact .n|((fail_if_success exact bqt);(fail_if_success exact bqf);exact .b)))<;>intro _)
   exact .ret rfl (Fin.same (jab he hq).symm (jg q _))
set_option maxHeartbeats 4000000 in
theorem jia{s:List wc}(hs:SchG s)(hr:zd4 I s run (IntKind.i64.wrap (deep+1)))(hd:deep<=12){n:Nat}(hn:n<s.length)(id:Int)(vals0:List Val)(rep:Bool)(db:List Data)(h:DbG I s db)(hl:vals0.length=s[n].cols.length)(hv:zq vals0 16=true):
 Pure Tryz.prog 259 [.c (.fz (s.map ja)),.c (.fz (db.map wa)),.c (.int .i64 (n:Int)),.c (.int .i64 id),.c (.fz (vals0.map encV)),.c (.bool rep),.c (.int .i64 deep)] (resV (updF run s n id (if rep then jj s[n] 0 vals0 else vals0) rep db)):=by
 refine yas wbu λG=>?_;have hn2:n<db.length:=by rw[h.len];exact hn
 have ht:=hs.tab _ (yaa hn);have hb:=hs.big _ (yaa hn);have cF:=jfh s[n] vals0 hl ht.cols8;have hvv:=zf5 hs hn hl hv rep;rw[updF,zn hn]
 cases hrp:rep
 ·rw[hrp]at hvv;simp only[Bool.false_eq_true,if_false]at hvv;rw[if_neg yah];clear cF hl hv;obtain⟨vals,hve⟩:∃vals,vals=vals0:=⟨_,rfl⟩;subst hve;repeat' first|refine X ?_|((first|apply yG|apply yH|apply yI);exact rfl;(first|exact yax ja rfl hn))|exact yaF|refine yaS ?_ ?_<;>intro _
  have ca:=wd3 s[n] vals hvv.1 ht hvv.2;by_cases hab:wb4 s[n] vals=0
  ·rw[hab]at ca;rw[if_pos hab];repeat' first|refine X ?_|refine yaC (ca) ?_|exact yaF|refine yaS ?_ ?_<;>intro _
   clear ca;have cc:=jdh hs hr hn ⟨id,vals⟩ hvv.1 rep db h;have hkc:=λ(h2:(j9 run s[n] n ⟨id,vals⟩ rep db).2=0)=>jbo hr.keeps hn (t:=s[n]) (x:=⟨id,vals⟩) (rep:=rep) h h2;rw[hrp]at cc hkc;generalize j9 run s[n] n ⟨id,vals⟩ _ db=c at cc hkc⊢;by_cases hc0:c.2=0
   ·rw[zaf hc0]at cc;have hdb:=hkc hc0;have hup:∀old,jai (jp c.1 n) id=some old->upd1 run s n id vals c=upd3 s n id (upd2 run s n id vals old c.1):=λold ho=>by rw[upd1,if_pos hc0,ho]
    have hup0:jai (jp c.1 n) id=none->upd1 run s n id vals c=([],9):=λho=>by rw[upd1,if_pos hc0,ho]
    generalize upd1 run s n id vals c=U at hup hup0⊢;generalize c.1=db1 at cc hdb hup hup0;clear hkc;have hn1:n<db1.length:=by rw[hdb.len];exact hn
    have hR1:=hdb.rows n hn hn1;rw[we hn1]at hup hup0;have c1:=wac db1[n] id (yai hR1.len gb);rcases zj db1[n].rows id with⟨hx1,hx2⟩|⟨j,hj,hx1,hx2⟩
    ·rw[hx1]at c1;rw[hup0 hx2];repeat' first|refine X ?_|((first|apply yG|apply yH|apply yI);exact rfl;(first|exact yax wa rfl hn1))|refine yaC (cc) ?_|refine yaC (c1) ?_|exact yaF|refine yaS ?_ ?_<;>intro _
     exact .ret rfl (Fin.same rfl (jg ([],9) _))
    ·rw[hx1]at c1;rw[hup _ hx2];clear hup hup0;have hfit:=hR1.fit _ (yaa hj);have hidx:db1[n].rows[j].id=id:=(zz hx2).2;have c2:=wbi s[n].key db1[n].rows[j].vals hb.2.2.1 (by rw[hfit.1];exact ht.key);have c3:=wbi s[n].key vals hb.2.2.1 (by rw[hvv.1];exact ht.key);have c4:=zfi db1[n] ⟨id,vals⟩ hR1.len;rw[wfh hR1.rise ⟨_,yaa hj,hidx⟩]at c4;have c5:=zct db1 (n:Int) n ⟨setRow db1[n].rows ⟨id,vals⟩⟩ rfl hn1 (by rw[hdb.len];exact yai hs.few gb);have c6:=zbi (keyF s[n].key db1[n].rows[j].vals) (keyF s[n].key vals) (by rw[wa0];exact hb.2.2.1);have hset:DbG I s (db1.set n ⟨setRow db1[n].rows ⟨id,vals⟩⟩):=hdb.set hn (hR1.set (x:=⟨id,vals⟩) hvv);rw[upd2,zn hn,we hn1];have hkv:=zdr ht hvv.1 hvv.2;have hw:With false (.fz ((keyF s[n].key vals).map encV)) (keyF s[n].key vals) s[n].key.length:=.now (by rw[wa0];exact yaf _);generalize db1.set n ⟨setRow db1[n].rows ⟨id,vals⟩⟩=db2 at c5 hset⊢;generalize zab s[n].key db1[n].rows[j].vals=wh1 at c2;generalize zab s[n].key vals=wh2 at c3;generalize keyF s[n].key db1[n].rows[j].vals=kold at c2 c6⊢;generalize keyF s[n].key vals=knew at c3 c6 hkv hw⊢;by_cases hkk:kold=knew
     ·have hdb2:=hset;rw[show(kold==knew)=true from beq_iff_eq.2 hkk]at c6;rw[if_pos hkk,upd3,if_pos rfl];repeat' first|refine X ?_|((first|apply yG|apply yH|apply yI);exact rfl;(first|exact yax wa rfl hn1|exact yax jc rfl hj))|refine yaC (cc) ?_|refine yaC (c1) ?_|refine yaC (c2) ?_|refine yaC (c3) ?_|refine yaC (c4) ?_|refine yaC (c5) ?_|refine yaC (c6) ?_|exact yaF|refine yaS ?_ ?_<;>intro _
      clear cc c1 c2 c3 c4 c5 c6;have hn4:n<db2.length:=by rw[hdb2.len];exact hn
      have hR4:=hdb2.rows n hn hn4;have c8:=wac db2[n] id (yai hR4.len gb);rcases zj db2[n].rows id with⟨g1,g2⟩|⟨j2,hj2,g1,g2⟩
      ·have hlast:za7 s n id db2=(db2,0):=by rw[za7,we hn4,g2]
       rw[hlast];rw[g1]at c8;repeat' first|refine X ?_|((first|apply yG|apply yH|apply yI);exact rfl;(first|exact yax wa rfl hn4))|refine yaC (c8) ?_|exact yaF|refine yaS ?_ ?_<;>intro _
       exact .ret rfl (Fin.same rfl (jg (db2,0) _))
      ·have hlast:za7 s n id db2=if(s[n].fks.any λf=>zo s db2 false db2[n].rows[j2].vals f)=true then([],5)else(db2,0):=by rw[za7,we hn4,g2,zn hn]
       rw[hlast];rw[g1]at c8;have c9:=wa6 s db2 (n:Int) n db2[n].rows[j2].vals true (yai hs.few gb) rfl hn ht.fk3 (fkR hs hdb2 hn (hR4.fit _ (yaa hj2)).1);have e9:s[n].fks.any (zo s db2 (!true) db2[n].rows[j2].vals)=s[n].fks.any λf=>zo s db2 false db2[n].rows[j2].vals f:=rfl;rw[e9]at c9;generalize (s[n].fks.any λf=>zo s db2 false db2[n].rows[j2].vals f)=B at c9⊢
       cases B
       ·rw[if_neg yah];repeat' first|refine X ?_|((first|apply yG|apply yH|apply yI);exact rfl;(first|exact yax wa rfl hn4|exact yax jc rfl hj2))|refine yaC (c8) ?_|refine yaC (c9) ?_|exact yaF|refine yaS ?_ ?_<;>intro _
        exact .ret rfl (Fin.same rfl (jg (db2,0) _))
       ·rw[if_pos rfl];repeat' first|refine X ?_|((first|apply yG|apply yH|apply yI);exact rfl;(first|exact yax wa rfl hn4|exact yax jc rfl hj2))|refine yaC (c8) ?_|refine yaC (c9) ?_|exact yaF|refine yaS ?_ ?_<;>intro _
        exact .ret rfl (Fin.same rfl (jg ([],5) _))
     ·rw[show(kold==knew)=false from beq_eq_false_iff_ne.2 hkk]at c6;rw[if_neg hkk];have c7:=wcd hs hr hn kold knew false _ hw hkv db2 hset;have hkq:=λ(h4:(zy run s n kold knew false db2).2=0)=>jbc (n:=n) (key:=kold) (gone:=false) hr.keeps hkv hset h4;generalize zy run s n kold knew false db2=q at c7 hkq⊢;rw[upd3];by_cases hq:q.2=0
      ·rw[zaf hq]at c7;rw[if_pos hq];have hdb3:=hkq hq;generalize q.1=db3 at c7 hdb3⊢;repeat' first|refine X ?_|((first|apply yG|apply yH|apply yI);exact rfl;(first|exact yax wa rfl hn1|exact yax jc rfl hj))|refine yaC (cc) ?_|refine yaC (c1) ?_|refine yaC (c2) ?_|refine yaC (c3) ?_|refine yaC (c4) ?_|refine yaC (c5) ?_|refine yaC (c6) ?_|refine yaC (c7) ?_|exact yaF|refine yaS ?_ ?_<;>intro _
       clear cc c1 c2 c3 c4 c5 c6 c7;have hn4:n<db3.length:=by rw[hdb3.len];exact hn
       have hR4:=hdb3.rows n hn hn4;have c8:=wac db3[n] id (yai hR4.len gb);rcases zj db3[n].rows id with⟨g1,g2⟩|⟨j2,hj2,g1,g2⟩
       ·have hlast:za7 s n id db3=(db3,0):=by rw[za7,we hn4,g2]
        rw[hlast];rw[g1]at c8;repeat' first|refine X ?_|((first|apply yG|apply yH|apply yI);exact rfl;(first|exact yax wa rfl hn4))|refine yaC (c8) ?_|exact yaF|refine yaS ?_ ?_<;>intro _
        exact .ret rfl (Fin.same rfl (jg (db3,0) _))
       ·have hlast:za7 s n id db3=if(s[n].fks.any λf=>zo s db3 false db3[n].rows[j2].vals f)=true then([],5)else(db3,0):=by rw[za7,we hn4,g2,zn hn]
        rw[hlast];rw[g1]at c8;have c9:=wa6 s db3 (n:Int) n db3[n].rows[j2].vals true (yai hs.few gb) rfl hn ht.fk3 (fkR hs hdb3 hn (hR4.fit _ (yaa hj2)).1);have e9:s[n].fks.any (zo s db3 (!true) db3[n].rows[j2].vals)=s[n].fks.any λf=>zo s db3 false db3[n].rows[j2].vals f:=rfl;rw[e9]at c9;generalize (s[n].fks.any λf=>zo s db3 false db3[n].rows[j2].vals f)=B at c9⊢
        cases B
        ·rw[if_neg yah];repeat' first|refine X ?_|((first|apply yG|apply yH|apply yI);exact rfl;(first|exact yax wa rfl hn4|exact yax jc rfl hj2))|refine yaC (c8) ?_|refine yaC (c9) ?_|exact yaF|refine yaS ?_ ?_<;>intro _
         exact .ret rfl (Fin.same rfl (jg (db3,0) _))
        ·rw[if_pos rfl];repeat' first|refine X ?_|((first|apply yG|apply yH|apply yI);exact rfl;(first|exact yax wa rfl hn4|exact yax jc rfl hj2))|refine yaC (c8) ?_|refine yaC (c9) ?_|exact yaF|refine yaS ?_ ?_<;>intro _
         exact .ret rfl (Fin.same rfl (jg ([],5) _))
      ·obtain⟨e,he⟩:∃e,q.2=e:=⟨_,rfl⟩;rw[he]at hq;rw[jab he hq]at c7;rw[he,if_neg hq];repeat' first|refine X ?_|((first|apply yG|apply yH|apply yI);exact rfl;(first|exact yax wa rfl hn1|exact yax jc rfl hj))|refine yaC (cc) ?_|refine yaC (c1) ?_|refine yaC (c2) ?_|refine yaC (c3) ?_|refine yaC (c4) ?_|refine yaC (c5) ?_|refine yaC (c6) ?_|refine yaC (c7) ?_|exact yaF|refine yaS ?_ ?_<;>intro _
       exact .ret rfl (Fin.same (wai hq).symm (jg ([],e) _))
   ·obtain⟨e,he⟩:∃e,c.2=e:=⟨_,rfl⟩;rw[he]at hc0;rw[jab he hc0]at cc;rw[upd1,he,if_neg hc0];repeat' first|refine X ?_|refine yaC (cc) ?_|exact yaF|refine yaS ?_ ?_<;>intro _
    exact .ret rfl (Fin.same (wai hc0).symm (jg ([],e) _))
  ·rw[if_neg hab];generalize wb4 s[n] vals=e at ca hab⊢;repeat' first|refine X ?_|refine yaC (ca) ?_|exact yaF|refine yaS ?_ ?_<;>intro _
   exact .ret rfl (Fin.same (wai hab).symm (jg ([],e) _))
 ·rw[hrp]at hvv;simp only[if_true]at hvv;rw[if_pos rfl];generalize jj s[n] 0 vals0=vals at cF hvv⊢;repeat' first|refine X ?_|((first|apply yG|apply yH|apply yI);exact rfl;(first|exact yax ja rfl hn))|refine yaC (cF) ?_|exact yaF|refine yaS ?_ ?_<;>intro _
  have ca:=wd3 s[n] vals hvv.1 ht hvv.2;by_cases hab:wb4 s[n] vals=0
  ·rw[hab]at ca;rw[if_pos hab];repeat' first|refine X ?_|refine yaC (ca) ?_|exact yaF|refine yaS ?_ ?_<;>intro _
   clear ca;have cc:=jdh hs hr hn ⟨id,vals⟩ hvv.1 rep db h;have hkc:=λ(h2:(j9 run s[n] n ⟨id,vals⟩ rep db).2=0)=>jbo hr.keeps hn (t:=s[n]) (x:=⟨id,vals⟩) (rep:=rep) h h2;rw[hrp]at cc hkc;generalize j9 run s[n] n ⟨id,vals⟩ _ db=c at cc hkc⊢;by_cases hc0:c.2=0
   ·rw[zaf hc0]at cc;have hdb:=hkc hc0;have hup:∀old,jai (jp c.1 n) id=some old->upd1 run s n id vals c=upd3 s n id (upd2 run s n id vals old c.1):=λold ho=>by rw[upd1,if_pos hc0,ho]
    have hup0:jai (jp c.1 n) id=none->upd1 run s n id vals c=([],9):=λho=>by rw[upd1,if_pos hc0,ho]
    generalize upd1 run s n id vals c=U at hup hup0⊢;generalize c.1=db1 at cc hdb hup hup0;clear hkc;have hn1:n<db1.length:=by rw[hdb.len];exact hn
    have hR1:=hdb.rows n hn hn1;rw[we hn1]at hup hup0;have c1:=wac db1[n] id (yai hR1.len gb);rcases zj db1[n].rows id with⟨hx1,hx2⟩|⟨j,hj,hx1,hx2⟩
    ·rw[hx1]at c1;rw[hup0 hx2];repeat' first|refine X ?_|((first|apply yG|apply yH|apply yI);exact rfl;(first|exact yax wa rfl hn1))|refine yaC (cc) ?_|refine yaC (c1) ?_|exact yaF|refine yaS ?_ ?_<;>intro _
     exact .ret rfl (Fin.same rfl (jg ([],9) _))
    ·rw[hx1]at c1;rw[hup _ hx2];clear hup hup0;have hfit:=hR1.fit _ (yaa hj);have hidx:db1[n].rows[j].id=id:=(zz hx2).2;have c2:=wbi s[n].key db1[n].rows[j].vals hb.2.2.1 (by rw[hfit.1];exact ht.key);have c3:=wbi s[n].key vals hb.2.2.1 (by rw[hvv.1];exact ht.key);have c4:=zfi db1[n] ⟨id,vals⟩ hR1.len;rw[wfh hR1.rise ⟨_,yaa hj,hidx⟩]at c4;have c5:=zct db1 (n:Int) n ⟨setRow db1[n].rows ⟨id,vals⟩⟩ rfl hn1 (by rw[hdb.len];exact yai hs.few gb);have c6:=zbi (keyF s[n].key db1[n].rows[j].vals) (keyF s[n].key vals) (by rw[wa0];exact hb.2.2.1);have hset:DbG I s (db1.set n ⟨setRow db1[n].rows ⟨id,vals⟩⟩):=hdb.set hn (hR1.set (x:=⟨id,vals⟩) hvv);rw[upd2,zn hn,we hn1];have hkv:=zdr ht hvv.1 hvv.2;have hw:With false (.fz ((keyF s[n].key vals).map encV)) (keyF s[n].key vals) s[n].key.length:=.now (by rw[wa0];exact yaf _);generalize db1.set n ⟨setRow db1[n].rows ⟨id,vals⟩⟩=db2 at c5 hset⊢;generalize zab s[n].key db1[n].rows[j].vals=wh1 at c2;generalize zab s[n].key vals=wh2 at c3;generalize keyF s[n].key db1[n].rows[j].vals=kold at c2 c6⊢;generalize keyF s[n].key vals=knew at c3 c6 hkv hw⊢;by_cases hkk:kold=knew
     ·have hdb2:=hset;rw[show(kold==knew)=true from beq_iff_eq.2 hkk]at c6;rw[if_pos hkk,upd3,if_pos rfl];repeat' first|refine X ?_|((first|apply yG|apply yH|apply yI);exact rfl;(first|exact yax wa rfl hn1|exact yax jc rfl hj))|refine yaC (cc) ?_|refine yaC (c1) ?_|refine yaC (c2) ?_|refine yaC (c3) ?_|refine yaC (c4) ?_|refine yaC (c5) ?_|refine yaC (c6) ?_|exact yaF|refine yaS ?_ ?_<;>intro _
      clear cc c1 c2 c3 c4 c5 c6;have hn4:n<db2.length:=by rw[hdb2.len];exact hn
      have hR4:=hdb2.rows n hn hn4;have c8:=wac db2[n] id (yai hR4.len gb);rcases zj db2[n].rows id with⟨g1,g2⟩|⟨j2,hj2,g1,g2⟩
      ·have hlast:za7 s n id db2=(db2,0):=by rw[za7,we hn4,g2]
       rw[hlast];rw[g1]at c8;repeat' first|refine X ?_|((first|apply yG|apply yH|apply yI);exact rfl;(first|exact yax wa rfl hn4))|refine yaC (c8) ?_|exact yaF|refine yaS ?_ ?_<;>intro _
       exact .ret rfl (Fin.same rfl (jg (db2,0) _))
      ·have hlast:za7 s n id db2=if(s[n].fks.any λf=>zo s db2 false db2[n].rows[j2].vals f)=true then([],5)else(db2,0):=by rw[za7,we hn4,g2,zn hn]
       rw[hlast];rw[g1]at c8;have c9:=wa6 s db2 (n:Int) n db2[n].rows[j2].vals true (yai hs.few gb) rfl hn ht.fk3 (fkR hs hdb2 hn (hR4.fit _ (yaa hj2)).1);have e9:s[n].fks.any (zo s db2 (!true) db2[n].rows[j2].vals)=s[n].fks.any λf=>zo s db2 false db2[n].rows[j2].vals f:=rfl;rw[e9]at c9;generalize (s[n].fks.any λf=>zo s db2 false db2[n].rows[j2].vals f)=B at c9⊢
       cases B
       ·rw[if_neg yah];repeat' first|refine X ?_|((first|apply yG|apply yH|apply yI);exact rfl;(first|exact yax wa rfl hn4|exact yax jc rfl hj2))|refine yaC (c8) ?_|refine yaC (c9) ?_|exact yaF|refine yaS ?_ ?_<;>intro _
        exact .ret rfl (Fin.same rfl (jg (db2,0) _))
       ·rw[if_pos rfl];repeat' first|refine X ?_|((first|apply yG|apply yH|apply yI);exact rfl;(first|exact yax wa rfl hn4|exact yax jc rfl hj2))|refine yaC (c8) ?_|refine yaC (c9) ?_|exact yaF|refine yaS ?_ ?_<;>intro _
        exact .ret rfl (Fin.same rfl (jg ([],5) _))
     ·rw[show(kold==knew)=false from beq_eq_false_iff_ne.2 hkk]at c6;rw[if_neg hkk];have c7:=wcd hs hr hn kold knew false _ hw hkv db2 hset;have hkq:=λ(h4:(zy run s n kold knew false db2).2=0)=>jbc (n:=n) (key:=kold) (gone:=false) hr.keeps hkv hset h4;generalize zy run s n kold knew false db2=q at c7 hkq⊢;rw[upd3];by_cases hq:q.2=0
      ·rw[zaf hq]at c7;rw[if_pos hq];have hdb3:=hkq hq;generalize q.1=db3 at c7 hdb3⊢;repeat' first|refine X ?_|((first|apply yG|apply yH|apply yI);exact rfl;(first|exact yax wa rfl hn1|exact yax jc rfl hj))|refine yaC (cc) ?_|refine yaC (c1) ?_|refine yaC (c2) ?_|refine yaC (c3) ?_|refine yaC (c4) ?_|refine yaC (c5) ?_|refine yaC (c6) ?_|refine yaC (c7) ?_|exact yaF|refine yaS ?_ ?_<;>intro _
       clear cc c1 c2 c3 c4 c5 c6 c7;have hn4:n<db3.length:=by rw[hdb3.len];exact hn
       have hR4:=hdb3.rows n hn hn4;have c8:=wac db3[n] id (yai hR4.len gb);rcases zj db3[n].rows id with⟨g1,g2⟩|⟨j2,hj2,g1,g2⟩
       ·have hlast:za7 s n id db3=(db3,0):=by rw[za7,we hn4,g2]
        rw[hlast];rw[g1]at c8;repeat' first|refine X ?_|((first|apply yG|apply yH|apply yI);exact rfl;(first|exact yax wa rfl hn4))|refine yaC (c8) ?_|exact yaF|refine yaS ?_ ?_<;>intro _
        exact .ret rfl (Fin.same rfl (jg (db3,0) _))
       ·have hlast:za7 s n id db3=if(s[n].fks.any λf=>zo s db3 false db3[n].rows[j2].vals f)=true then([],5)else(db3,0):=by rw[za7,we hn4,g2,zn hn]
        rw[hlast];rw[g1]at c8;have c9:=wa6 s db3 (n:Int) n db3[n].rows[j2].vals true (yai hs.few gb) rfl hn ht.fk3 (fkR hs hdb3 hn (hR4.fit _ (yaa hj2)).1);have e9:s[n].fks.any (zo s db3 (!true) db3[n].rows[j2].vals)=s[n].fks.any λf=>zo s db3 false db3[n].rows[j2].vals f:=rfl;rw[e9]at c9;generalize (s[n].fks.any λf=>zo s db3 false db3[n].rows[j2].vals f)=B at c9⊢
        cases B
        ·rw[if_neg yah];repeat' first|refine X ?_|((first|apply yG|apply yH|apply yI);exact rfl;(first|exact yax wa rfl hn4|exact yax jc rfl hj2))|refine yaC (c8) ?_|refine yaC (c9) ?_|exact yaF|refine yaS ?_ ?_<;>intro _
         exact .ret rfl (Fin.same rfl (jg (db3,0) _))
        ·rw[if_pos rfl];repeat' first|refine X ?_|((first|apply yG|apply yH|apply yI);exact rfl;(first|exact yax wa rfl hn4|exact yax jc rfl hj2))|refine yaC (c8) ?_|refine yaC (c9) ?_|exact yaF|refine yaS ?_ ?_<;>intro _
         exact .ret rfl (Fin.same rfl (jg ([],5) _))
      ·obtain⟨e,he⟩:∃e,q.2=e:=⟨_,rfl⟩;rw[he]at hq;rw[jab he hq]at c7;rw[he,if_neg hq];repeat' first|refine X ?_|((first|apply yG|apply yH|apply yI);exact rfl;(first|exact yax wa rfl hn1|exact yax jc rfl hj))|refine yaC (cc) ?_|refine yaC (c1) ?_|refine yaC (c2) ?_|refine yaC (c3) ?_|refine yaC (c4) ?_|refine yaC (c5) ?_|refine yaC (c6) ?_|refine yaC (c7) ?_|exact yaF|refine yaS ?_ ?_<;>intro _
       exact .ret rfl (Fin.same (wai hq).symm (jg ([],e) _))
   ·obtain⟨e,he⟩:∃e,c.2=e:=⟨_,rfl⟩;rw[he]at hc0;rw[jab he hc0]at cc;rw[upd1,he,if_neg hc0];repeat' first|refine X ?_|refine yaC (cc) ?_|exact yaF|refine yaS ?_ ?_<;>intro _
    exact .ret rfl (Fin.same (wai hc0).symm (jg ([],e) _))
  ·rw[if_neg hab];generalize wb4 s[n] vals=e at ca hab⊢;repeat' first|refine X ?_|refine yaC (ca) ?_|exact yaF|refine yaS ?_ ?_<;>intro _
   exact .ret rfl (Fin.same (wai hab).symm (jg ([],e) _))
theorem wia{s:List wc}(hs:SchG s):∀(k:Nat) (deep:Int),-1<=deep->deep+k=13->zd4 I s (chgF s k) deep
 |0,deep,hk,hd=>by
  have hd2:deep>12:=O;refine⟨ja7 hs 0,λn id db x h hn hx=>?_,λn id vals rep db h ho=>?_⟩
  ·refine yas jbu λG=>?_;repeat' first|refine X ?_|exact yaF|refine yaS ?_ ?_<;>intro _
   exact .ret rfl (Fin.same rfl (jg ([],6) _))
  ·refine yas wbu λG=>?_;repeat' first|refine X ?_|exact yaF|refine yaS ?_ ?_<;>intro _
   exact .ret rfl (Fin.same rfl (jg ([],6) _))
 |k+1,deep,hk,hd=>by
  ·have hr:=wia hs k (IntKind.i64.wrap (deep+1)) (by rw[zk O O];omega) (by rw[zk O O];omega);refine⟨ja7 hs (k+1),λn id db x h hn hx=>?_,λn id vals rep db h ho=>?_⟩
   ·have h1:=zia hs hr O hn id db x h hx;have h2:chgF s (k+1) (.del n id) db=zy (chgF s k) s n (keyF s[n].key x.vals) [] true (db.set n ⟨z5 (jp db n) id⟩):=by rw[chgF,hx,zn hn]
    rw[h2];exact h1
   ·obtain⟨hn,hl,hv⟩:=ho;have h1:=jia hs hr O hn id vals rep db h hl hv;have h2:chgF s (k+1) (.upd n id vals rep) db=updF (chgF s k) s n id (if rep then jj s[n] 0 vals else vals) rep db:=by rw[chgF,zn hn]
    rw[h2];exact h1
end Go.Proofs.YtedaadaaibofaaaGreat.Am
namespace Go.Proofs.YtedaadaaibofaaaGreat.Am
variable {I:Nat->Int->Prop}

set_option maxHeartbeats 4000000 in
theorem zjq{L:ChL}{n:Nat}{s:List wc}{run:Chg->List Data->Res}{deep:Int}(hs:SchG s)(hr:wf6 I L n s run (IntKind.i64.wrap (deep+1)))(hd:deep<=12){k:Nat}(hk:k<s.length)(id:Int)(vals0:List Val)(rep:Bool)(db:List Data)(xs:List Ce)(V:jb)(h:wt L n s xs db V)(hdb:DbG I s db)
 (hl:vals0.length=s[k].cols.length) (hv:zq vals0 16=true):
 Ok Tryz.prog 283 [.c (.ptr L.c L.vc 0 0),.c (.int .i64 (k:Int)),.c (.int .i64 id),.c (.fz (vals0.map encV)),.c (.bool rep),.c (.int .i64 deep)] V (Done L n s (updF run s k id (if rep then jj s[k] 0 vals0 else vals0) rep db) V):=by
 refine Ok.run0 mixed jaw gz λhS hA=>?_;clear hS hA;have hk2:k<db.length:=by rw[hdb.len];exact hk
 have hk3:k<xs.length:=by rw[h.len];exact hk2
 have ht:=hs.tab _ (yaa hk);have hb:=hs.big _ (yaa hk);have hne:∀{l:List Val},l.length=s[k].cols.length->l≠[]:=λh1 h0=>by
  rw[h0]at h1;have:=ht.cols0;simp at h1;omega
 have cF:=whj s[k] vals0 hl (hne hl) ht.cols8;have hvv:=zf5 hs hk hl hv rep;rw[updF,zn hk];have hn0:V.next<=V.next:=yaf _;repeat' first|refine X ?_|fail
 refine Go.iteD rfl (λh=>absurd h O) λ_=>?_;repeat' first|refine X ?_|((first|apply yG|apply yH|apply yI);exact rfl;(first|exact wbo h rfl|exact yax ja rfl hk))
 refine Go.meet (K':=[_]) (λfr V'=>V'=V/\∃vals,vals=(if rep then jj s[k] 0 vals0 else vals0)/\fr=[(0,AV.c (.ptr L.c L.vc 0 0)),(1,.c (.int .i64 (k:Int))),(2,.c (.int .i64 id)),(3,.c (.fz (vals.map encV))),(4,.c (.bool rep)),(5,.c (.int .i64 deep)),(13,.c (.fp (ja s[k])))]) ?_ ?_
 ·intro K hrec
  cases rep
  ·repeat' first|refine X ?_|exact yaF|refine yaS ?_ ?_<;>intro _
   exact Go.keep [0,1,2,3,4,5,13] (hrec _ _ ⟨rfl,_,rfl,rfl⟩)
  ·repeat' first|refine X ?_|refine yaC (cF) ?_|exact yaF|refine yaS ?_ ?_<;>intro _
   exact Go.keep [0,1,2,3,4,5,13] (hrec _ _ ⟨rfl,_,rfl,rfl⟩)
 rintro fr V' ⟨hτ,vals,hve,rfl⟩;rw[hτ];rw[<-hve]at hvv⊢;clear cF hl hv hve hτ;have ca:=zf7 s[k] vals hvv.1 ht hb;by_cases hab:wb4 s[k] vals=0
 ·rw[hab]at ca;rw[if_pos hab];repeat' first|refine X ?_|refine yaC (ca) ?_|exact yaF|refine yaS ?_ ?_<;>intro _
  clear ca;have cc:=zim hs hr hk id vals hvv.1 rep db xs V h hdb;have hkc:=λ(h2:(j9 run s[k] k ⟨id,vals⟩ rep db).2=0)=>jbo hr.keeps hk (t:=s[k]) (x:=⟨id,vals⟩) (rep:=rep) hdb h2;generalize j9 run s[k] k ⟨id,vals⟩ rep db=c at cc hkc⊢;refine .call _ rfl rfl rfl cc ?_;rintro r9 V1 ⟨hr9,hk1,hq1⟩;rw[hr9];clear cc hr9;by_cases hc0:c.2=0
  ·obtain⟨xs1,hH1⟩:=hq1 hc0;have hdb1:=hkc hc0;have hup:∀old,jai (jp c.1 k) id=some old->upd1 run s k id vals c=upd3 s k id (upd2 run s k id vals old c.1):=λold ho=>by rw[upd1,if_pos hc0,ho]
   have hup0:jai (jp c.1 k) id=none->upd1 run s k id vals c=([],9):=λho=>by rw[upd1,if_pos hc0,ho]
   generalize upd1 run s k id vals c=U at hup hup0⊢;generalize c.1=db1 at hdb1 hup hup0 hH1;rw[hc0];clear hkc hq1;have hn1:k<db1.length:=by rw[hdb1.len];exact hk
   have hn2:k<xs1.length:=by rw[hH1.len];exact hn1
   have hR1:=hdb1.rows k hk hn1;rw[we hn1]at hup hup0;have cf:=zcu hH1 hn1 hn2 id hR1.len;repeat' first|refine X ?_|exact yaF|refine yaS ?_ ?_<;>intro _
   rcases zj db1[k].rows id with⟨hx1,hx2⟩|⟨j,hj,hx1,hx2⟩
   ·rw[hup0 hx2];refine .call _ rfl rfl rfl (cf.1 hx2) ?_;rintro r9 V9 ⟨hr9,ht9⟩;rw[hr9,ht9];repeat' first|refine X ?_|exact yaF|refine yaS ?_ ?_<;>intro _
    exact .ret rfl ⟨rfl,hk1,λh=>by cases h⟩
   ·rw[hup _ hx2];clear hup hup0;have hfit:=hR1.fit _ (yaa hj);have hidx:db1[k].rows[j].id=id:=(zz hx2).2;obtain⟨lab2,ps2,id2,v2,junk2,hat,hl2⟩:=hH1.some hn1 hn2 (Nat.lt_of_le_of_lt (yac _) hj);obtain⟨_,q1,q2,q3,q4⟩:=hat.own;have ck1:=Lend.fresh (.same (.own (hat.frz hj) .nil)) (jfd s[k].key db1[k].rows[j].vals hb.2.2.1 (by rw[hfit.1];exact ht.key));have ck2:=zep s[k].key vals hb.2.2.1 (by rw[hvv.1];exact ht.key);have c6:=wd9 (keyF s[k].key db1[k].rows[j].vals) (keyF s[k].key vals) (by rw[wa0];exact hb.2.2.1);have hkv:=zdr ht hvv.1 hvv.2;have hw:With false (.fz ((keyF s[k].key vals).map encV)) (keyF s[k].key vals) s[k].key.length:=.now (by rw[wa0];exact yaf _);have hw0:=hs.key0 _ (yaa hk);refine .call _ rfl rfl rfl (cf.2 j hj hx1 _ _ _ _ _ hat) ?_;rintro r9 V9 ⟨hr9,ht9⟩;rw[hr9,ht9];clear hr9 ht9;repeat' first|apply Go.seq|apply Go.skip|apply Go.region|apply Go.nil|apply Go.block|apply Go.blk|apply Go.segs|(apply Go.exit;exact rfl)|(apply Go.cond true;exact rfl)|(apply Go.cond false;exact rfl)|apply yB|apply yC|((first|apply yD|apply yE);(first|exact yF|assumption);iterate 6 exact rfl)|((first|apply yG|apply yH|apply yI);exact rfl;(first|exact yJ|exact yK rfl rfl|exact yL rfl|exact yM rfl|exact rfl|exact aL rfl rfl rfl rfl rfl|exact aS rfl rfl rfl rfl rfl rfl rfl))|((first|apply yN|apply yO|apply yP);exact rfl)|exact yaF|(((first|apply yT|apply yU|apply yV|apply yW);exact rfl;(first|exact .d|exact .e|exact .n|((fail_if_success exact bqt);(fail_if_success exact bqf);exact .b)))<;>intro _)
    apply Go.draw;repeat' first|apply Go.seq|apply Go.skip|apply Go.region|apply Go.nil|apply Go.block|apply Go.blk|apply Go.segs|(apply Go.exit;exact rfl)|(apply Go.cond true;exact rfl)|(apply Go.cond false;exact rfl)|apply yB|apply yC|((first|apply yD|apply yE);(first|exact yF|assumption);iterate 6 exact rfl)|((first|apply yG|apply yH|apply yI);exact rfl;(first|exact yJ|exact yK rfl rfl|exact yL rfl|exact yM rfl|exact rfl|exact aL rfl rfl rfl rfl rfl|exact aS rfl rfl rfl rfl rfl rfl rfl|exact j5 rfl hat.get (hat.at hj) (yal _)))|((first|apply yN|apply yO|apply yP);exact rfl)|exact yaF|(((first|apply yT|apply yU|apply yV|apply yW);exact rfl;(first|exact .d|exact .e|exact .n|((fail_if_success exact bqt);(fail_if_success exact bqf);exact .b)))<;>intro _)
    refine Go.scall _ rfl rfl rfl ck1 ?_;rintro r9 V9 ⟨hr9,ht9⟩;rw[hr9,ht9];clear hr9 ht9 ck1;rw[upd2,zn hk,we hn1];have hset:DbG I s (db1.set k ⟨setRow db1[k].rows ⟨id,vals⟩⟩):=hdb1.set hk (hR1.set (x:=⟨id,vals⟩) hvv);generalize zab s[k].key db1[k].rows[j].vals=wh1;generalize zab s[k].key vals=wh2 at ck2;generalize keyF s[k].key db1[k].rows[j].vals=kold at c6⊢;generalize keyF s[k].key vals=knew at c6 ck2 hkv hw⊢;repeat' first|refine X ?_|refine yaC (ck2) ?_|exact yaF|refine yaS ?_ ?_<;>intro _
    clear ck2;refine .call _ rfl rfl rfl (jah vals (hne hvv.1) (yai (wd.1 hvv.2).1 gb) V1) ?_;rintro r9 V9 ⟨v9,junk9,hj9,hr9,ht9⟩;rw[hr9,ht9];clear hr9 ht9;have hge:(E V1 [(v9,vals.map encV++junk9)]).get id2=some (v2,ps2.map encP++junk2):=(E_lt q2).trans hat.get;have hH2:=hat.set hH1 hn1 hn2 hl2 hR1.rise hj hidx vals (v:=v9) hj9;have hK2:Kept n V1 ((E V1 [(v9,vals.map encV++junk9)]).put id2 (v2,(ps2.map encP++junk2).set (0+j) (jh (encP (ps2[j]'(by rw[hat.len];exact hj))) 1 [vec (V1.next+0) v9 (vals.map encV) junk9]))):=(Kept.ofE hH1.le _).trans (.put q1);repeat' first|refine X ?_|((first|apply yG|apply yH|apply yI);exact rfl;(first|exact wdw rfl rfl hge (hat.at hj) (yal _)))|exact yaF|refine yaS ?_ ?_<;>intro _
    obtain⟨V2,hτ2⟩:∃V2,V2=(E V1 [(v9,vals.map encV++junk9)]).put id2 (v2,(ps2.map encP++junk2).set (0+j) (jh (encP (ps2[j]'(by rw[hat.len];exact hj))) 1 [vec (V1.next+0) v9 (vals.map encV) junk9])):=⟨_,rfl⟩;refine Go.ext ?_ hτ2;rw[<-hτ2]at hH2 hK2;clear hτ2 hl2 cf;generalize db1.set k ⟨setRow db1[k].rows ⟨id,vals⟩⟩=db2 at hset hH2⊢;obtain⟨U2,hU2⟩:∃U2,U2=upd3 s k id (if kold=knew then(db2,0)else zy run s k kold knew false db2):=⟨_,rfl⟩;rw[<-hU2];have hK3:=hk1.trans hK2;repeat' first|refine X ?_|refine yaC (c6) ?_|fail
    refine Go.meet (K':=[_]) (λfr V'=>∃db3 xs3,U2=za7 s k id db3/\DbG I s db3/\wt L n s xs3 db3 V'/\Kept n V V'/\fr=[(0,AV.c (.ptr L.c L.vc 0 0)),(1,.c (.int .i64 (k:Int))),(2,.c (.int .i64 id)),(13,.c (.fp (ja s[k])))]) ?_ ?_
    ·intro K hrec;by_cases hkk:kold=knew
     ·rw[show(kold==knew)=true from beq_iff_eq.2 hkk];repeat' first|refine X ?_|exact yaF|refine yaS ?_ ?_<;>intro _
      exact Go.keep [0,1,2,13] (hrec _ _ ⟨db2,xs1,by rw[hU2,upd3,if_pos hkk,if_pos rfl],hset,hH2,hK3,rfl⟩)
     ·rw[show(kold==knew)=false from beq_eq_false_iff_ne.2 hkk];rw[if_neg hkk]at hU2;have cw:=jhj hs hr hk kold knew false _ hw hkv hw0 db2 xs1 V2 hH2 hset;have hkq:=λ(h4:(zy run s k kold knew false db2).2=0)=>jbc (n:=k) (key:=kold) (gone:=false) hr.keeps hkv hset h4;generalize zy run s k kold knew false db2=q at cw hkq hU2;rw[upd3]at hU2;repeat' first|refine X ?_|exact yaF|refine yaS ?_ ?_<;>intro _
      refine .call _ rfl rfl rfl cw ?_;rintro r9 V9 ⟨hr9,hk9,hq9⟩;rw[hr9];clear hr9 cw;by_cases hq:q.2=0
      ·rw[if_pos hq]at hU2;obtain⟨xs9,hH9⟩:=hq9 hq;rw[hq];repeat' first|refine X ?_|exact yaF|refine yaS ?_ ?_<;>intro _
       exact Go.keep [0,1,2,13] (hrec _ _ ⟨q.1,xs9,hU2,hkq hq,hH9,hK3.trans hk9,rfl⟩)
      ·rw[if_neg hq]at hU2;rw[hU2];generalize q.2=e at hq⊢;repeat' first|refine X ?_|exact yaF|refine yaS ?_ ?_<;>intro _
       exact .ret rfl ⟨rfl,hK3.trans hk9,λh=>absurd h hq⟩
    rintro fr V3 ⟨db3,xs3,hUl,hdb3,hH3,hK4,rfl⟩;rw[hUl];clear hUl hU2 hK3 hH2 hset c6 hw hkv hK2 hH1 hdb1 hR1;have hn4:k<db3.length:=by rw[hdb3.len];exact hk
    have hn5:k<xs3.length:=by rw[hH3.len];exact hn4
    have hR4:=hdb3.rows k hk hn4;have cf3:=zcu hH3 hn4 hn5 id hR4.len;repeat' first|refine X ?_|exact yaF|refine yaS ?_ ?_<;>intro _
    rcases zj db3[k].rows id with⟨g1,g2⟩|⟨j2,hj2,g1,g2⟩
    ·have hlast:za7 s k id db3=(db3,0):=by rw[za7,we hn4,g2]
     rw[hlast];refine .call _ rfl rfl rfl (cf3.1 g2) ?_;rintro r9 V9 ⟨hr9,ht9⟩;rw[hr9,ht9];repeat' first|refine X ?_|exact yaF|refine yaS ?_ ?_<;>intro _
     exact .ret rfl ⟨rfl,hK4,λ_=>⟨xs3,hH3⟩⟩
    ·have hlast:za7 s k id db3=if(s[k].fks.any λf=>zo s db3 false db3[k].rows[j2].vals f)=true then([],5)else(db3,0):=by rw[za7,we hn4,g2,zn hk]
     rw[hlast];obtain⟨lab3,ps3,id3,v3,junk3,hat3,hl3⟩:=hH3.some hn4 hn5 (Nat.lt_of_le_of_lt (yac _) hj2);have c9:=wea s db3 s[k] db3[k].rows[j2].vals false (yai hs.few gb) (yai ht.fk3 gb) (fkR hs hdb3 hk (hR4.fit _ (yaa hj2)).1);have e9:s[k].fks.any (zo s db3 false db3[k].rows[j2].vals)=s[k].fks.any λf=>zo s db3 false db3[k].rows[j2].vals f:=rfl;rw[e9]at c9;generalize (s[k].fks.any λf=>zo s db3 false db3[k].rows[j2].vals f)=B at c9⊢;refine .call _ rfl rfl rfl (cf3.2 j2 hj2 g1 _ _ _ _ _ hat3) ?_;rintro r9 V9 ⟨hr9,ht9⟩;rw[hr9,ht9];clear hr9 ht9;repeat' first|refine X ?_|((first|apply yG|apply yH|apply yI);exact rfl;(first|exact wbo hH3 rfl|exact zch hH3 rfl|exact j5 rfl hat3.get (hat3.at hj2) (yal _)))|exact yaF|refine yaS ?_ ?_<;>intro _
     refine Go.slcall rfl rfl rfl c9 (.bool _) (.same (.own hH3.frz (.same (.own (hat3.frz hj2) (.same .nil))))) ?_
     cases B
     ·rw[if_neg yah];repeat' first|refine X ?_|exact yaF|refine yaS ?_ ?_<;>intro _
      exact .ret rfl ⟨rfl,hK4,λ_=>⟨xs3,hH3⟩⟩
     ·rw[if_pos rfl];repeat' first|refine X ?_|exact yaF|refine yaS ?_ ?_<;>intro _
      exact .ret rfl ⟨rfl,hK4,λh=>by cases h⟩
  ·obtain⟨e,he⟩:∃e,c.2=e:=⟨_,rfl⟩;rw[he]at hc0⊢;rw[upd1,he,if_neg hc0];repeat' first|refine X ?_|exact yaF|refine yaS ?_ ?_<;>intro _
   exact .ret rfl ⟨rfl,hk1,λh=>absurd h hc0⟩
 ·rw[if_neg hab];generalize wb4 s[k] vals=e at ca hab⊢;repeat' first|refine X ?_|refine yaC (ca) ?_|exact yaF|refine yaS ?_ ?_<;>intro _
  exact .ret rfl ⟨rfl,.refl,λh=>absurd h hab⟩
theorem jim{L:ChL}{n:Nat}{s:List wc}(hs:SchG s):∀(k:Nat) (deep:Int),-1<=deep->deep+k=13->wf6 I L n s (chgF s k) deep
 |0,deep,hk,hd=>by
  have hd2:deep>12:=O;refine⟨ja7 hs 0,λk id db xs V h hdb hk=>?_,λk id vals rep db xs V h hdb ho=>?_⟩
  ·refine Ok.run0 mixed zar gz λhS hA=>?_;clear hS hA;repeat' first|refine X ?_|exact yaF|refine yaS ?_ ?_<;>intro _
   exact .ret rfl ⟨rfl,.refl,λh=>by cases h⟩
  ·refine Ok.run0 mixed jaw gz λhS hA=>?_;clear hS hA;repeat' first|refine X ?_|exact yaF|refine yaS ?_ ?_<;>intro _
   exact .ret rfl ⟨rfl,.refl,λh=>by cases h⟩
 |k+1,deep,hk,hd=>by
  ·have hr:=jim (L:=L) (n:=n) hs k (IntKind.i64.wrap (deep+1)) (by rw[zk O O];omega) (by rw[zk O O];omega);refine⟨ja7 hs (k+1),λm id db xs V h hdb hm=>?_,λm id vals rep db xs V h hdb ho=>?_⟩
   ·have h1:=zi1 hs hr O hm id db xs V h hdb;have h2:chgF s (k+1) (.del m id) db=delF (chgF s k) s m id db:=by
     rw[chgF,delF]
     cases jai (jp db m) id<;>rfl
    rw[h2];exact h1
   ·obtain⟨hm,hl,hv⟩:=ho;have h1:=zjq hs hr O hm id vals rep db xs V h hdb hl hv;have h2:chgF s (k+1) (.upd m id vals rep) db=updF (chgF s k) s m id (if rep then jj s[m] 0 vals else vals) rep db:=by rw[chgF,zn hm]
    rw[h2];exact h1
end Go.Proofs.YtedaadaaibofaaaGreat.Am
namespace Go.Proofs.YtedaadaaibofaaaGreat.Am
def zhk(n:Nat):Ce->Ce
 |.sl id v i m c=>if n<=id then .sl id v i m c else .any
 |.ptr id v i j=>if n<=id then .ptr id v i j else .any
 |.fz _=>.any
 |.fp _=>.any
 |.fn _ _ _=>.any
 |x=>x
variable {n:Nat}{x:Ce}
theorem wi1:Tidy n (zhk n x):=by
 cases x<;>simp only[zhk]<;>(try split)<;>first|exact .sl _ _ _ _ _ (by assumption)|exact .ptr _ _ _ _ (by assumption)|exact .flat (by constructor)
theorem jkg(h:Tidy n x):zhk n x=x:=by
 cases h with
 |flat h=>cases h<;>rfl
 |sl id v i m c h=>exact if_pos h
 |ptr id v i j h=>exact if_pos h
theorem Rp.blur{C:Cx}{v:Value}(h:Rp C x v):Rp C (zhk n x) v:=by
 have h1:=h.one
 cases x<;>simp only[zhk]<;>(try split)<;>first|exact h|exact .any _ h1.1 h1.2
def wds(n:Nat)(es:List (List Ce)):List (List Ce):=es.map λe=>e.map (zhk n)
def jcu(n:Nat)(V:jb):jb:=⟨V.next,λa=>if a<n then V.get a else(V.get a).map λy=>(y.1,wds n y.2)⟩
variable {es:List (List Ce)}
theorem jjq:wds n es=[]↔es=[]:=by simp[wds]
theorem wkg(h:∀e∈es,∀x∈e,Tidy n x):wds n es=es:=by
 have h1:∀e∈es,e.map (zhk n)=e:=λe he=>by
  have:e.map (zhk n)=e.map id:=List.map_congr_left λx hx=>jkg (h e he x hx);rw[this,List.map_id]
 have:wds n es=es.map id:=List.map_congr_left h1;rw[this,List.map_id]
variable {V:jb}{v:Nat}
theorem wcu{a:Nat}(h:(jcu n V).get a=some (v,es)):∃es1,V.get a=some (v,es1)/\(es=es1\/es=wds n es1):=by
 simp only[jcu]at h;split at h
 ·exact⟨es,h,.inl rfl⟩
 ·cases hg:V.get a with
  |none=>rw[hg]at h;cases h
  |some y=>
   rw[hg]at h
   cases h;exact⟨y.2,rfl,.inr rfl⟩
theorem zi2{a:Nat}(h:V.get a=some (v,es)):∃es2,(jcu n V).get a=some (v,es2)/\(es2=es\/es2=wds n es):=by
 simp only[jcu];split
 ·exact⟨es,h,.inl rfl⟩
 ·rw[h];exact⟨_,rfl,.inr rfl⟩
theorem jd4{es1:List (List Ce)}(h:es=es1\/es=wds n es1):es=[]↔es1=[]:=by
 rcases h with rfl|rfl
 ·exact Iff.rfl
 ·exact jjq
theorem Rl.blur{C:Cx}(h:Rl C V)(n:Nat):Rl C (jcu n V):=by
 refine⟨h.F,λid v es hg=>?_,λb=>?_,λid v es id' v' es' h1 n1 h2 n2 hb=>?_,λid v es hg hne=>?_⟩
 ·obtain⟨es1,g1,g2⟩:=wcu hg;obtain⟨a1,a2,a3⟩:=h.live id v es1 g1;exact⟨a1,a2,a3.trans (jd4 g2).symm⟩
 ·rw[h.M];constructor
  ·rintro⟨id,v,es,hg,hne,hb⟩;obtain⟨es2,g1,g2⟩:=zi2 (n:=n) hg;exact⟨id,v,es2,g1,λe=>hne ((jd4 g2).1 e),hb⟩
  ·rintro⟨id,v,es,hg,hne,hb⟩;obtain⟨es1,g1,g2⟩:=wcu hg;exact⟨id,v,es1,g1,λe=>hne ((jd4 g2).2 e),hb⟩
 ·obtain⟨e1,g1,g2⟩:=wcu h1;obtain⟨e2,k1,k2⟩:=wcu h2;exact h.inj id v e1 id' v' e2 g1 (λe=>n1 ((jd4 g2).2 e)) k1 (λe=>n2 ((jd4 k2).2 e)) hb
 ·obtain⟨es1,g1,g2⟩:=wcu hg;obtain⟨cs,t,hb,hz,hl,hc⟩:=h.blk id v es1 g1 λe=>hne ((jd4 g2).2 e);rcases g2 with rfl|rfl
  ·exact⟨cs,t,hb,hz,hl,hc⟩
  ·refine⟨cs,t,hb,by simpa [wds]using hz,λi hi=>?_,λi j hi hj=>?_⟩
   ·have hi2:i<es1.length:=by simpa [wds]using hi
    have:=hl i hi2;simpa [wds]using this
   ·have hi2:i<es1.length:=by simpa [wds]using hi
    have hj2:j<es1[i].length:=by simpa [wds]using hj
    obtain⟨u,h1,h2⟩:=hc i j hi2 hj2;refine⟨u,h1, ?_⟩;have:=h2.blur (n:=n);simpa [wds]using this
variable {args:List AV}{G:jb}
theorem Ok.blur{P:Program}{f:Nat}{Q:AV->jb->Prop}(h:Ok P f args G Q)(n:Nat):Ok P f args G (λr V2=>∃V,Q r V/\OldS V/\V2=jcu n V):=by
 refine⟨h.1,λC cargs hR ha=>(h.2 C cargs hR ha).mono ?_⟩;rintro e w' ⟨D,G1,r,v,rfl,rfl,hQ,hRD,hx,hle⟩;exact⟨D,jcu n G1,r,v,rfl,rfl,⟨G1,hQ,hRD.old,rfl⟩,hRD.blur n,hx,hle⟩
variable {S:Nat->Prop}
theorem Has.blur{y:Ce}(h:Has V S y x){n:Nat}:(∀a,S a->n<=a)->Has (jcu n V) S y x:=by
 induction h with
 |c h=>exactλ_=>.c h
 |nil=>exactλ_=>.nil
 |o ys id v s cs junk T hg hS hl hs hall hj hT hd h ih=>
  intro hn;refine .o ys id v s cs junk T ?_ hS hl hs hall hj hT hd λi j hi hj=>ih i j hi hj λa ha=>hn a (hT i j a ha).1;have h1:¬id<n:=Nat.not_lt.2 (hn id hS);simp only[jcu,if_neg h1,hg,Option.map_some];rw[wkg];intro e he x hx;rcases List.mem_append.1 he with he|he
  ·obtain⟨i,hi,rfl⟩:=List.mem_iff_getElem.1 he;obtain⟨j,hj2,rfl⟩:=List.mem_iff_getElem.1 hx;exact(h i j O (by rw[<-hs i O];exact hj2)).tidy λa ha=>hn a (hT i j a ha).1
  ·exact .flat (hj e he x hx)
theorem HasV.blur{y x:AV}(h:HasV V S y x){n:Nat}:(∀a,S a->n<=a)->HasV (jcu n V) S y x:=by
 induction h with
 |c h=>exactλhn=>.c (h.blur hn)
 |agg h=>
  intro hn;obtain⟨U,h1,h2,h3,h4⟩:=h;exact .agg ⟨U,h1,h2,h3,λj hy hx=>(h4 j hy hx).blur λa ha=>hn a (h2 j a ha)⟩
 |tup U hl hU hd h ih=>exactλhn=>.tup U hl hU hd λi hy hx=>ih i hy hx λa ha=>hn a (hU i a ha)
theorem Gr.blur(h:Kept G.next G V)(ho:OldS V):Gr G (jcu G.next V):=by
 have hn:∀a,¬a<V.next->V.get a=none:=λa ha=>by
  cases hg:V.get a with
  |none=>rfl
  |some y=>exact absurd (ho a y hg).1 ha
 let l:List (Nat×List (List Ce)):=(List.range (V.next-G.next)).map λk=>((jcu G.next V).get (G.next+k)).getD (0,[])
 have hll:l.length=V.next-G.next:=by simp[l]
 have hnx:=h.next;refine⟨l, ?_,λb hb e he x hx=>?_⟩
 ·refine jb.ext (by rw[zan,hll];show V.next=_;omega) λa=>?_;by_cases h1:a<G.next
  ·rw[E_lt h1,<-h.get a h1];exact if_pos h1
  ·rw[E_ge h1];by_cases h2:a<V.next
   ·have h3:=h.full a h2 λhh=>absurd hh h1;obtain⟨k,rfl⟩:∃k,a=G.next+k:=⟨a-G.next,O⟩;have h4:k<l.length:=O;rw[Nat.add_sub_cancel_left,yag h4];simp only[l,List.getElem_map,List.getElem_range]
    cases hg:(jcu G.next V).get (G.next+k)with
    |some y=>rfl
    |none=>
     exfalso;simp only[jcu,if_neg h1]at hg
     cases hg2:V.get (G.next+k)with
     |none=>rw[hg2]at h3;cases h3
     |some y=>rw[hg2]at hg;cases hg
   ·have h3:=hn a h2;rw[List.getElem?_eq_none O];simp only[jcu,if_neg h1,h3,Option.map_none]
 ·obtain⟨k,hk,rfl⟩:=List.mem_map.1 hb
  cases hg:(jcu G.next V).get (G.next+k)with
  |none=>rw[hg]at he;cases he
  |some y=>
   rw[hg]at he;simp only[jcu,if_neg (show¬G.next+k<G.next by omega)]at hg
   cases hg2:V.get (G.next+k)with
   |none=>rw[hg2]at hg;cases hg
   |some z=>
    rw[hg2]at hg
    cases hg;obtain⟨e1,_,rfl⟩:=List.mem_map.1 he;obtain⟨x1,_,rfl⟩:=List.mem_map.1 hx;exact wi1
theorem Ok.newV{P:Program}{f:Nat}{y:AV}(h:Ok P f args G (λr V=>Kept G.next G V/\HasV V (λa=>G.next<=a/\a<V.next) y r)):Ok P f args G (NewV G y):=
 (h.blur G.next).mono λr V2 ⟨V,⟨h1,h2⟩,ho,e⟩=>by
   subst e;exact⟨.blur h1 ho,h2.blur λa ha=>ha.1⟩
theorem Vl.has{vals:List Val}(h:Vl V vals x):Has V (λa=>idOf x=some a) (.fz (vals.map encV)) x:=by
 cases h with
 |nil=>exact .nil
 |sl vals id v junk hg hj=>
  refine .o (vals.map encV) id v 3 (vals.map encV) junk (λ_ _ _=>False) hg rfl rfl (λi hi=>rfl) (λe he=>?_) (λe he x hx=>(hj e he).2 x hx) (λ_ _ _ h=>h.elim) (λ_ _ _ _ _ h=>h.elim) (λi j hi hj=>.c ((jb5 _ (yaa hi)).2 _ (yaa hj)));rcases List.mem_append.1 he with he|he
  ·exact(jb5 e he).1
  ·exact(hj e he).1
variable {rows:List RowD}
theorem Tb.has{L:ChL}{i:Nat}{lab:Nat->Nat×Option Int}(h:Tb V (Own L n V.next lab i) rows x)(hr:Rise rows):Has V (λa=>∃w,Own L n V.next lab i w a) (.fz (rows.map jc)) x:=by
 cases h with
 |sl ps id v junk hrw hg hj h0 hp=>
  subst hrw;have e0:(ps.map encP).length=((ps.map (·.1)).map jc).length:=gx;have hinj:∀j j' (h1:j<ps.length) (h2:j'<ps.length),ps[j].1.id=ps[j'].1.id->j=j':=λj j' h1 h2 he=>by
   have h3:=List.pairwise_iff_getElem.1 hr;rcases Nat.lt_trichotomy j j' with h|h|h
   ·have:=h3 j j' (by simpa using h1) (by simpa using h2) h;simp only[List.getElem_map]at this;exact absurd he (by intro e;omega)
   ·exact h
   ·have:=h3 j' j (by simpa using h2) (by simpa using h1) h;simp only[List.getElem_map]at this;exact absurd he (by intro e;omega)
  rw[vec,e0];refine .o (S:=λa=>∃w,Own L n V.next lab i w a) ((ps.map (·.1)).map jc) id v 2 (ps.map encP) junk (λj c a=>c=1/\∃hj:j<ps.length,Own L n V.next lab i (some ps[j].1.id) a) hg ⟨none,h0⟩ gx (λj hj=>?_) (λe he=>?_) (λe he x hx=>(hj e he).2 x hx) (λj c a ha=>?_) (λj c j' c' a h1 h2=>?_) (λj c hj hc=>?_)
  ·simp[encP,jc]
  ·rcases List.mem_append.1 he with he|he
   ·obtain⟨p,_,rfl⟩:=List.mem_map.1 he
    rfl
   ·exact(hj e he).1
  ·obtain⟨rfl,hj,ha⟩:=ha;refine⟨⟨_,ha⟩,λe=>?_⟩;subst e;have:=ha.1.symm.trans h0.1
   cases this
  ·obtain⟨rfl,hj,ha⟩:=h1;obtain⟨rfl,hj',ha'⟩:=h2;have:=ha.1.symm.trans ha'.1;injection this with _ h3;injection h3 with h3;exact⟨hinj j j' hj hj' h3,rfl⟩
  ·have hj2:j<ps.length:=by simpa using hj
   have e1:(ps.map encP)[j]'(by simpa using hj2)=encP ps[j]:=gx;have e2:((ps.map (·.1)).map jc)[j]'hj=jc ps[j].1:=gx;have hc2:c<2:=by rw[e2]at hc;exact hc
   simp only[e1,e2];have hc3:c=0\/c=1:=O;rcases hc3 with rfl|rfl
   ·exact .c (.int _ _)
   ·obtain⟨h1,h2⟩:=hp _ (yaa hj2);exact h1.has.mono λa ha=>⟨rfl,hj2,h2 a ha⟩
variable {s:List wc}{xs:List Ce}{db:List Data}
theorem wt.has{L:ChL}(h:wt L n s xs db V)(hr:∀d∈db,Rise d.rows):Has V (λa=>n<=a/\a<V.next/\a≠L.c) (.fz (db.map wa)) (.sl L.d L.vd 0 db.length (db.length+L.junk.length)):=by
 obtain⟨lab,hl⟩:=h.tb;have e0:db.length=(db.map wa).length:=(yae _).symm;rw[e0];refine .o (S:=λa=>n<=a/\a<V.next/\a≠L.c) (db.map wa) L.d L.vd 1 (cells xs) L.junk (λi j a=>j=0/\∃w,Own L n V.next lab i w a) h.d (show n<=L.d/\L.d<V.next/\L.d≠L.c from⟨h.nd,h.ld,Ne.symm h.cd⟩) (by simp[cells,h.len]) (λi hi=>by simp[cells,wa]) (λe he=>?_) (λe he x hx=>(h.jk e he).2 x hx) (λi j a ha=>?_) (λi j i' j' a h1 h2=>?_) (λi j hi hj=>?_)
 ·rcases List.mem_append.1 he with he|he
  ·obtain⟨x,_,rfl⟩:=List.mem_map.1 he
   rfl
  ·exact(h.jk e he).1
 ·obtain⟨_,w,hw⟩:=ha;exact⟨⟨hw.2.1,hw.2.2.1,hw.2.2.2.1⟩,hw.2.2.2.2⟩
 ·obtain⟨q1,w,hw⟩:=h1;obtain⟨q2,w',hw'⟩:=h2;have:=hw.1.symm.trans hw'.1;injection this with h3 _;exact⟨h3,O⟩
 ·have hi2:i<db.length:=by simpa using hi
  have hi3:i<xs.length:=by rw[h.len];exact hi2
  have hj0:j=0:=by
   simp[wa]at hj;exact hj
  subst hj0;have h1:=(hl i hi3 hi2).has (hr _ (yaa hi2));have e1:((db.map wa)[i]'hi)[0]'hj=.fz (db[i].rows.map jc):=by simp[wa]
  have e2:((cells xs)[i]'(by simpa [cells]using hi3))[0]'(by simp[cells])=xs[i]:=by simp[cells]
  rw[e1,e2];exact h1.mono λa ha=>⟨rfl,ha⟩
variable {junk:List (List Ce)}
theorem wim{fr:Fr}{s bytes id:Nat}{x y:Opd}{ys:List (List Ce)}{e:List Ce}(hx:x.ev fr=some (.c (vec id v ys junk)))(hy:y.ev fr=some (.c (.fz [e])))(hg:V.get id=some (v,ys++junk))(hys:∀q∈ys,q.length=s)(hj:Jk s junk)(he:e.length=s)(hb:(ys.length+1)*bytes<=140737488355328):
 ∃v' junk',Jk s junk'/\aop (.app s bytes x y) fr V=some (.c (vec id v' (ys++[e]) junk'),V.put id (v',ys++[e]++junk')):=by
 have hall1:∀q∈[e],q.length=s:=λq hq=>by rw[List.mem_singleton.1 hq];exact he
 have hall:∀q∈ys++junk,q.length=s:=λq hq=>by
  rcases List.mem_append.1 hq with hq|hq
  ·exact hys q hq
  ·exact(hj q hq).1
 by_cases c:1<=junk.length
 ·refine⟨v,junk.drop 1,λq hq=>hj q (ybp hq), ?_⟩;have e2:jh (ys++junk) (0+ys.length) [e]=ys++[e]++junk.drop 1:=by
   simp only[jh,Nat.zero_add,List.length_singleton];rw[List.take_left' rfl,List.drop_append];rw[yad O,Nat.add_sub_cancel_left];simp
  have h1:appA V s bytes (vec id v ys junk) [e]=some (vec id v (ys++[e]) (junk.drop 1),V.put id (v,ys++[e]++junk.drop 1)):=by
   unfold appA;rw[if_pos hall1];simp only[vec,hg];rw[if_pos ⟨trivial,gx,O,hall⟩,if_pos (by simp only[List.length_singleton];omega),e2];simp only[List.length_append,List.length_singleton,List.length_drop];rw[show ys.length+1+(junk.length-1)=ys.length+junk.length by omega]
  simp only[aop,hx,hy,jb.els,Option.bind_some,h1,Option.map_some]
 ·refine⟨v+1,[],Jk.nil, ?_⟩;have e3:(List.drop 0 (ys++junk)).take ys.length=ys:=by rw[List.drop_zero,List.take_left' rfl]
  have h1:appA V s bytes (vec id v ys junk) [e]=some (vec id (v+1) (ys++[e]) [],V.put id (v+1,ys++[e]++[])):=by
   unfold appA;rw[if_pos hall1];simp only[vec,hg];rw[if_pos ⟨trivial,gx,O,hall⟩,if_neg (by simp only[List.length_singleton];omega),if_pos (by simpa using hb),e3];simp
  simp only[aop,hx,hy,jb.els,Option.bind_some,h1,Option.map_some]
theorem wjq{fr:Fr}{s:Nat}{z:List Ce}:aop (.mksl false s 0 z []) fr V=some (.c (vec V.next 0 [] []),V.new (0,[])):=rfl
section
variable {P:Program}{n0 nt:Nat}{rets:List RV}{R:AV->jb->Prop}{K:List AK}{fr:Fr}{V:jb}
variable {d:Option Nat}{g:Option (Nat×Bool)}{ys:List (List Ce)}{e:List Ce}
theorem Go.appO{rest:List jd}{s bytes id:Nat}{x y:Opd}(hw:wants fr g=some true)(hx:x.ev fr=some (.c (vec id v ys junk)))(hy:y.ev fr=some (.c (.fz [e])))(hg:V.get id=some (v,ys++junk))(hys:∀q∈ys,q.length=s)(hj:Jk s junk)(he:e.length=s)(hb:(ys.length+1)*bytes<=140737488355328)
 (h:∀v' junk',Jk s junk'->Go P n0 nt rets R (.ops rest::K) (putA fr d (.c (vec id v' (ys++[e]) junk'))) (V.put id (v',ys++[e]++junk'))):Go P n0 nt rets R (.ops (⟨d,.op (.app s bytes x y),g⟩::rest)::K) fr V:=
 let⟨_,_,h1,h2⟩:=wim hx hy hg hys hj he hb
 .op hw h2 (h _ _ h1)
theorem Go.sappO{rest:List (List jd)}{s bytes id:Nat}{x y:Opd}(hw:wants fr g=some true)(hx:x.ev fr=some (.c (vec id v ys junk)))(hy:y.ev fr=some (.c (.fz [e])))(hg:V.get id=some (v,ys++junk))(hys:∀q∈ys,q.length=s)(hj:Jk s junk)(he:e.length=s)(hb:(ys.length+1)*bytes<=140737488355328)
 (h:∀v' junk',Jk s junk'->Go P n0 nt rets R (.segs rest::K) (putA fr d (.c (vec id v' (ys++[e]) junk'))) (V.put id (v',ys++[e]++junk'))):Go P n0 nt rets R (.segs ([⟨d,.op (.app s bytes x y),g⟩]::rest)::K) fr V:=
 let⟨_,_,h1,h2⟩:=wim hx hy hg hys hj he hb
 .sop hw h2 (h _ _ h1)
end
theorem jf7:cells xs++[[x]]=cells (xs++[x]):=by
 show _=List.map _ (xs++[x]);rw[yak]
 rfl
theorem Kept.new{y:Nat×List (List Ce)}(h:n<=V.next):Kept n V (V.new y):=⟨ybh _,λa ha=>if_neg O,λa ha hs=>by
 show(if a=V.next then _ else _:Option _).isSome=true;split
 ·rfl
 ·exact hs (by have:a<V.next+1:=ha;omega)⟩
structure DbT(n:Nat)(V:jb)(db:List Data)(o vo:Nat)(xs:List Ce)(junk:List (List Ce)):Prop where
 get:V.get o=some (vo,cells xs++junk)
 jk:Jk 1 junk
 len:xs.length=db.length
 no:n<=o
 lo:o<V.next
 tb:∃lab:Nat->Nat×Option Int,∀i (h:i<xs.length) (h2:i<db.length),Tb V (λw a=>lab a=(i,w)/\n<=a/\a<V.next/\a≠o) db[i].rows xs[i]
structure zjr(n:Nat)(V0 V:jb)(rows:List RowD)(m v:Nat)(ps:List PRow)(junk:List (List Ce))(new:Nat->Option Int):Prop where
 get:V.get m=some (v,ps.map encP++junk)
 jk:Jk 2 junk
 rows:ps.map (·.1)=rows
 lt:m<V.next
 vl:∀p∈ps,Vl V p.1.vals p.2/\∀a,idOf p.2=some a->m<a/\a<V.next/\new a=some p.1.id
 old:∀a,a<m->V.get a=V0.get a
 kept:Kept n V0 V
theorem zjr.push{V0:jb}{m:Nat}{ps:List PRow}{new:Nat->Option Int}(h:zjr n V0 V rows m v ps junk new)(hn:n<=m)(r:RowD){v9 v':Nat}{junk9 junk':List (List Ce)}(hj9:Jk 3 junk9)(hj:Jk 2 junk'):
 zjr n V0 ((E V [(v9,r.vals.map encV++junk9)]).put m (v',ps.map encP++[[.int .i64 r.id,vec (V.next+0) v9 (r.vals.map encV) junk9]]++junk')) (rows++[r]) m v' (ps++[(r,vec (V.next+0) v9 (r.vals.map encV) junk9)]) junk' (λa=>if a<V.next then new a else some r.id):=by
 have hlt:=h.lt;have hE:(E V [(v9,r.vals.map encV++junk9)]).next=V.next+1:=rfl;refine⟨?_,hj,by rw[yak,h.rows];rfl,by show m<V.next+1;omega,λp hp=>?_,λa ha=>(if_neg O).trans ((E_lt O).trans (h.old a ha)),h.kept.trans ((Kept.ofE O _).trans (.put hn))⟩
 ·rw[yak];exact ja1
 ·rcases List.mem_append.1 hp with hp|hp
  ·obtain⟨h1,h2⟩:=h.vl p hp;refine⟨h1.frame λa ha=>(if_neg (by have:=h2 a ha;omega)).trans (E_lt (h2 a ha).2.1),λa ha=>?_⟩;obtain⟨h3,h4,h5⟩:=h2 a ha;refine⟨h3,by show a<V.next+1;omega, ?_⟩;show(if a<V.next then new a else some r.id)=_;rw[if_pos h4];exact h5
  ·rw[List.mem_singleton.1 hp];refine⟨.sl r.vals _ v9 junk9 ((if_neg O).trans (by rw[E_at];rfl)) hj9,λa ha=>?_⟩
   cases ha;refine⟨O,by show V.next+0<V.next+1;omega, ?_⟩;show(if V.next+0<V.next then new (V.next+0)else some r.id)=_;rw[if_neg O]
theorem DbT.push{V0:jb}{o vo vo':Nat}{junk':List (List Ce)}(h:DbT n V0 db o vo xs junk){rows:List RowD}{v:Nat}{ps:List PRow}{junk2:List (List Ce)}{new:Nat->Option Int}(k:zjr n V0 V rows V0.next v ps junk2 new)(hn:n<=V0.next)(hj:Jk 1 junk'):
 DbT n (V.put o (vo',cells xs++[[vec V0.next v (ps.map encP) junk2]]++junk')) (db++[⟨rows⟩]) o vo' (xs++[vec V0.next v (ps.map encP) junk2]) junk':=by
 have hlo:=h.lo;have hlt:=k.lt;obtain⟨lab,hl⟩:=h.tb;refine⟨by rw[<-jf7];exact ja1,hj,by rw[yaqq,yaqq,h.len];rfl,h.no,by show o<V.next;omega,⟨λa=>if a<V0.next then lab a else if a=V0.next then(db.length,none)else(db.length,new a),λi hi hi2=>?_⟩⟩;by_cases e:i<db.length
 ·have e2:i<xs.length:=by rw[h.len];exact e
  rw[yarq e2,yarq e];refine(hl i e2 e).frame (λw a ha=>⟨?_,ha.2.1,by show a<V.next;have:=ha.2.2.1;omega,ha.2.2.2⟩) λw a ha=>(if_neg ha.2.2.2).trans (k.old a ha.2.2.1);show(if a<V0.next then lab a else _)=_;rw[if_pos ha.2.2.1];exact ha.1
 ·have hie:i=db.length:=by simp at hi2;omega
  subst hie;have e1:(db++[(⟨rows⟩:Data)])[db.length]'hi2=⟨rows⟩:=by rw[List.getElem_append_right (Nat.le_refl _)];simp
  have e2:(xs++[vec V0.next v (ps.map encP) junk2])[db.length]'hi=vec V0.next v (ps.map encP) junk2:=by rw[List.getElem_append_right (by rw[h.len];exact Nat.le_refl _)];simp[h.len]
  rw[e1,e2];refine .sl _ ps _ v junk2 k.rows ((if_neg O).trans k.get) k.jk ⟨?_,hn,hlt,O⟩ λp hp=>?_
  ·show(if V0.next<V0.next then _ else if V0.next=V0.next then _ else _)=_;rw[if_neg (Nat.lt_irrefl _),if_pos rfl]
  ·obtain⟨h1,h2⟩:=k.vl p hp;refine⟨h1.frame λa ha=>if_neg (by have:=h2 a ha;omega),λa ha=>?_⟩;obtain⟨h3,h4,h5⟩:=h2 a ha;refine⟨?_,O,h4,O⟩;show(if a<V0.next then _ else if a=V0.next then _ else _)=_;rw[if_neg O,if_neg O,h5]
set_option maxHeartbeats 1000000 in
theorem wdh(db:List Data)(hd:db.length<=60)(hr:∀d∈db,d.rows.length<=60/\∀r∈d.rows,r.vals≠[]/\r.vals.length<=34359738368)(G:jb):Ok Tryz.prog 186 [.c (.fz (db.map wa))] G (λr V=>∃o vo xs junk,r=.c (vec o vo (cells xs) junk)/\Kept G.next G V/\DbT G.next V db o vo xs junk):=by
 refine Ok.run0 mixed jdl gz λhS hA=>?_;clear hS hA;repeat' first|refine X ?_|((first|apply yG|apply yH|apply yI);exact rfl;(first|exact wjq))|exact yaF|refine yaS ?_ ?_<;>intro _
 refine Go.keep [3,10,11,12] (Go.loops (I:=λm fr V=>∃(i:Nat) (k:Int) (vo:Nat) (xs:List Ce) (junk:List (List Ce)),m=db.length-i/\i<=db.length/\k=i/\(Kept G.next G V/\DbT G.next V (db.take i) G.next vo xs junk)/\
  fr=[(3,.c (vec G.next vo (cells xs) junk)),(10,.c (.fz (db.map wa))),(11,.c (.int .i64 (db.length:Int))),(12,.c (.int .i64 k))]) ?_ _ _ _ ⟨0,_,0,[],[],rfl,yac _,rfl,⟨.new (yaf _),⟨if_pos rfl,Jk.nil,rfl,yaf _,yal _,⟨λ_=>(0,none),λi h=>by cases h⟩⟩⟩,rfl⟩)
 rintro m fr V ⟨i,k,vo,xs,junk,rfl,hi,hk,⟨hK,hD⟩,rfl⟩ hrec;by_cases hlt:i<db.length
 ·obtain⟨hr1,hr2⟩:=hr _ (yaa hlt);have hn0:G.next<=V.next:=hK.next;have htk:db.take (i+1)=db.take i++[⟨db[i].rows⟩]:=yaj hlt;repeat' first|refine X ?_|((first|apply yG|apply yH|apply yI);exact rfl;(first|exact yax wa hk hlt|exact wjq))|exact yaF|refine yaS ?_ ?_<;>intro _
  refine Go.keep [3,6,10,11,12,18,19,20] (Go.loops (I:=λm fr V'=>∃(j:Nat) (kj:Int) (v:Nat) (ps:List PRow) (junk2:List (List Ce)) (new:Nat->Option Int),m=db[i].rows.length-j/\j<=db[i].rows.length/\kj=j/\zjr G.next V V' (db[i].rows.take j) V.next v ps junk2 new/\
   fr=[(3,.c (vec G.next vo (cells xs) junk)),(6,.c (vec V.next v (ps.map encP) junk2)),(10,.c (.fz (db.map wa))),(11,.c (.int .i64 (db.length:Int))),(12,.c (.int .i64 k)),(18,.c (.fz (db[i].rows.map jc))),(19,.c (.int .i64 (db[i].rows.length:Int))),(20,.c (.int .i64 kj))]) ?_ _ _ _ ⟨0,_,0,[],[],λ_=>none,rfl,yac _,rfl,⟨if_pos rfl,Jk.nil,rfl,yal _,λp hp=>(by cases hp),λa ha=>if_neg O,.new hn0⟩,rfl⟩)
  rintro m fr V1 ⟨j,kj,v,ps,junk2,new,rfl,hj,hkj,hT,rfl⟩ hrecj;have hn1:V.next<=V1.next:=hT.kept.next;have hn2:G.next<=V1.next:=yai hn0 hn1;have hpl:ps.length<=60:=by
   have h1:=congrArg List.length hT.rows;rw[yae,yat]at h1;omega
  by_cases hltj:j<db[i].rows.length
  ·obtain⟨hv0,hvl⟩:=hr2 _ (yaa hltj);have cm:=jah db[i].rows[j].vals hv0 hvl V1;have htj:db[i].rows.take (j+1)=db[i].rows.take j++[db[i].rows[j]]:=yaj hltj;clear hrec hr;repeat' first|apply Go.seq|apply Go.skip|apply Go.region|apply Go.nil|apply Go.block|apply Go.blk|apply Go.segs|(apply Go.exit;exact rfl)|(apply Go.cond true;exact rfl)|(apply Go.cond false;exact rfl)|apply yB|apply yC|((first|apply yD|apply yE);(first|exact yF|assumption);iterate 6 exact rfl)|((first|apply yG|apply yH|apply yI);exact rfl;(first|exact yJ|exact yK rfl rfl|exact yL rfl|exact yM rfl|exact rfl|exact aL rfl rfl rfl rfl rfl|exact aS rfl rfl rfl rfl rfl rfl rfl|exact yax jc hkj hltj))|((first|apply yN|apply yO|apply yP);exact rfl)|exact yaF|(((first|apply yT|apply yU|apply yV|apply yW);exact rfl;(first|exact .d|exact .e|exact .n|((fail_if_success exact bqt);(fail_if_success exact bqf);exact .b)))<;>intro _)
   apply Go.draw;refine Go.qd ?_;repeat' first|(apply yA;exact rfl)|(apply Go.qd)|apply Qc.nil|(apply Qc.op;exact rfl;(first|exactλ_=>rfl|exactλ_=>yM rfl))|(apply Qc.no;exact rfl)|((first|apply yD|apply yE);(first|exact yF|assumption);iterate 6 exact rfl)|((first|apply yG|apply yH);exact rfl;(first|exact yJ|exact yK rfl rfl|exact yL rfl|exact yM rfl|exact rfl|exact aL rfl rfl rfl rfl rfl|exact aS rfl rfl rfl rfl rfl rfl rfl))|((first|apply yN|apply yO);exact rfl)|exact yaF|(((first|apply yT|apply yU|apply yV|apply yW);exact rfl;(first|exact .d|exact .e|exact .n|((fail_if_success exact bqt);(fail_if_success exact bqf);exact .b)))<;>intro _)
   refine .call _ rfl rfl rfl cm ?_;rintro r9 V9 ⟨v9,junk9,hj9,hr9,ht9⟩;rw[hr9,ht9];clear hr9 ht9 cm;repeat' first|(apply yA;exact rfl)|(apply Go.qd)|apply Qc.nil|(apply Qc.op;exact rfl;(first|exactλ_=>rfl|exactλ_=>yM rfl))|(apply Qc.no;exact rfl)|((first|apply yD|apply yE);(first|exact yF|assumption);iterate 6 exact rfl)|((first|apply yG|apply yH);exact rfl;(first|exact yJ|exact yK rfl rfl|exact yL rfl|exact yM rfl|exact rfl|exact aL rfl rfl rfl rfl rfl|exact aS rfl rfl rfl rfl rfl rfl rfl))|((first|apply yN|apply yO);exact rfl)|exact yaF|(((first|apply yT|apply yU|apply yV|apply yW);exact rfl;(first|exact .d|exact .e|exact .n|((fail_if_success exact bqt);(fail_if_success exact bqf);exact .b)))<;>intro _)
   have hg2:(E V1 [(v9,db[i].rows[j].vals.map encV++junk9)]).get V.next=some (v,ps.map encP++junk2):=(E_lt hT.lt).trans hT.get;have hbd:((ps.map encP).length+1)*32<=140737488355328:=by rw[yae];omega
   repeat' first|refine X ?_|(apply Go.sappO;exact rfl;exact rfl;exact rfl;exact hg2;exact wep;exact hT.jk;exact rfl;exact hbd;intro v' junk' hj')|exact yaF|refine yaS ?_ ?_<;>intro _
   have hfin:=hT.push hn0 db[i].rows[j] (v9:=v9) (v':=v') hj9 hj';rw[<-htj]at hfin;have e1:ps.map encP++[jh (jh [Ce.int .i64 0,Ce.nils] 0 [Ce.int .i64 db[i].rows[j].id]) 1 [vec (V1.next+0) v9 (db[i].rows[j].vals.map encV) junk9]]=(ps++[(db[i].rows[j],vec (V1.next+0) v9 (db[i].rows[j].vals.map encV) junk9)]).map encP:=by
    rw[yak]
    rfl
   have e2:ps.map encP++[[.int .i64 db[i].rows[j].id,vec (V1.next+0) v9 (db[i].rows[j].vals.map encV) junk9]]=(ps++[(db[i].rows[j],vec (V1.next+0) v9 (db[i].rows[j].vals.map encV) junk9)]).map encP:=by
    rw[yak]
    rfl
   rw[e2]at hfin;rw[e1];exact Go.keep [3,6,10,11,12,18,19,20] (hrecj _ _ _ O ⟨j+1,_,v',_,junk',_,rfl,hltj,wb hkj O,hfin,rfl⟩)
  ·have hje:j=db[i].rows.length:=O;subst hje;rw[yao (yaf _)]at hT;clear hrecj;have hxl:xs.length<=60:=by
    have:=hD.len;rw[yat]at this;omega
   have hg:V1.get G.next=some (vo,cells xs++junk):=(hT.old _ hD.lo).trans hD.get;have hcl:∀q∈cells xs,q.length=1:=λq hq=>by
    obtain⟨x,_,rfl⟩:=List.mem_map.1 hq
    rfl
   have hbd:((cells xs).length+1)*24<=140737488355328:=by rw[cells,yae];omega
   repeat' first|refine X ?_|(apply Go.appO;exact rfl;exact rfl;exact rfl;exact hg;exact hcl;exact hD.jk;exact rfl;exact hbd;intro v' junk' hj')|exact yaF|refine yaS ?_ ?_<;>intro _
   have hfin:=hD.push (vo':=v') hT hn0 hj';rw[<-htk]at hfin;have hcc:cells xs++[jh [Ce.nils] 0 [vec V.next v (ps.map encP) junk2]]=cells (xs++[vec V.next v (ps.map encP) junk2]):=jf7;have hfin2:DbT G.next (V1.put G.next (v',cells xs++[jh [Ce.nils] 0 [vec V.next v (ps.map encP) junk2]]++junk')) (db.take (i+1)) G.next v' (xs++[vec V.next v (ps.map encP) junk2]) junk':=hfin;rw[hcc]at hfin2⊢;exact Go.keep [3,10,11,12] (hrec _ _ _ O ⟨i+1,_,v',_,junk',rfl,hlt,wb hk O,⟨hK.trans (hT.kept.trans (.put (yaf _))),hfin2⟩,rfl⟩)
 ·repeat' first|refine X ?_|exact yaF|refine yaS ?_ ?_<;>intro _
  rw[yao O]at hD;exact .ret rfl ⟨_,_,_,_,rfl,hK,hD⟩
theorem zec:∀{l pre:List wc},z1 pre l=true->(∀t∈l,∀u∈pre,u.name≠t.name)/\l.Pairwise (λa b=>a.name≠b.name)
 |[],_,_=>⟨λt h=>(by cases h),.nil⟩
 |a::r,pre,h=>by
  simp only[z1,Bool.and_eq_true,Bool.not_eq_true']at h;obtain⟨⟨h1,h2⟩,h3⟩:=h;obtain⟨g1,g2⟩:=zec h3;refine⟨λt ht u hu=>?_,.cons (λt ht=>?_) g2⟩
  ·rcases List.mem_cons.1 ht with rfl|ht
   ·rw[ybs]at h2;have:=h2 u hu;intro e;exact this (beq_iff_eq.2 e)
   ·exact g1 t ht u (List.mem_append_left _ hu)
  ·exact g1 t ht a (List.mem_append_right _ (List.mem_singleton.2 rfl))
theorem wf7:∀{l pre:List Col},zao pre l=true->∀c∈l,zr c.dflt=true
 |[],_,_,c,hc=>by cases hc
 |a::r,pre,h,c,hc=>by
  simp only[zao,jd1,ze8,Bool.and_eq_true]at h;rcases List.mem_cons.1 hc with rfl|hc
  ·exact h.1.1.2.2.1
  ·exact wf7 h.2 c hc
theorem schG(h:wl s=true)(hb:∀t∈s,wad 34359738368 t):SchG s:=by
 obtain⟨h1,h2,h3⟩:=jcb.1 h;have hT:=ja6 h2;have hD:=(zec h2).2;have hM:∀t∈s,∀f∈t.fks,metF s t f=true:=λt ht f hf=>by
  rw[ybs]at h3;have h4:=h3 t ht;rw[Bool.not_eq_true,ybs]at h4;have h5:=h4 f hf;simpa using h5
 have hR:∀t∈s,∀f∈t.fks,∃n,∃hn:n<s.length,ziz s f=(n:Int)/\s[n].name=f.table/\s[n].key.length=f.cols.length:=λt ht f hf=>by
  have h4:=hM t ht f hf;rcases zc0 (λu:wc=>u.name==f.table) s 0 with⟨h5,_⟩|⟨k,hk,h5,h6⟩
  ·rw[wh5 h5]at h4
   cases h4
  ·have h7:idxA (λu:wc=>u.name==f.table) s 0=(k:Int):=by rw[h5];omega
   rw[zgp h7 hk,wgo,yau,decide_eq_true_eq]at h4;exact⟨k,hk,h7,by simpa using List.find?_some h6,h4.1⟩
 refine⟨O,λt ht=>?_,hb,λt ht f hf=>?_,λt ht f hf n hn he=>?_,wcb h,λt ht=>?_⟩
 ·have:=(jx.1 (hT t ht)).2.2.1;rw[zbs,yau,decide_eq_true_eq]at this;omega
 ·obtain⟨n,hn,h4,_⟩:=hR t ht f hf;exact⟨n,hn,h4⟩
 ·obtain⟨m,hm,_,h5,h6⟩:=hR t ht f hf;have h7:=List.pairwise_iff_getElem.1 hD;rcases Nat.lt_trichotomy n m with h|h|h
  ·exact absurd (he.symm.trans h5.symm) (h7 n m hn hm h)
  ·subst h;exact h6.symm
  ·exact absurd (h5.trans he) (h7 m n hm hn h)
 ·exact wf7 (jx.1 (hT t ht)).2.2.2.2.2.2.1
theorem dbG(h:dbF s db=true){I:Nat->Int->Prop}(hI:∀i (h:i<db.length),∀r∈db[i].rows,I i r.id):DbG I s db:=by
 obtain⟨h1,h2,h3⟩:=wbv h;refine⟨h2,λi hi hi2=>?_⟩;have h4:=h3 i hi hi2;obtain⟨h5,h6⟩:=jb4 h4;have hc:=(wcb h1 _ (yaa hi)).cols8;exact⟨h5,hI i hi2,jf4 h4,λr hr=>⟨(j6 (h6 r hr).1).1,za9 (h6 r hr).1 hc⟩⟩
variable {I:Nat->Int->Prop}
theorem jjr(hs:SchG s){db:List Data}(h:DbG I s db):db.length<=5/\(∀d∈db,wc5 34359738368 d)/\∀d∈db,Rise d.rows/\d.rows.length<=60/\∀r∈d.rows,r.vals≠[]/\r.vals.length<=8/\∀w∈r.vals,bV 12 w:=by
 have h5:=hs.few;have hl:=h.len;have key:∀d∈db,Rise d.rows/\d.rows.length<=60/\∀r∈d.rows,r.vals≠[]/\r.vals.length<=8/\∀w∈r.vals,bV 12 w:=λd hd=>by
  obtain⟨i,hi,rfl⟩:=ybr hd;have hi2:i<s.length:=O;have hr:=h.rows i hi2 hi;have ht:=hs.tab _ (yaa hi2);refine⟨hr.rise,hr.len,λr hm=>?_⟩;obtain⟨f1,f2⟩:=hr.fit r hm;have f3:=(wd.1 f2).2;have:=ht.cols0;have:=ht.cols8;refine⟨λe=>by rw[e]at f1;simp at f1;omega,O,λw hw=>?_⟩;have:=f3 w hw;simp only[zr,Bool.or_eq_true,Bool.and_eq_true,beq_iff_eq,decide_eq_true_eq]at this;rw[bV];rcases this with(⟨_,h⟩|⟨_,h⟩)|⟨_,h⟩
  ·rw[h];simp
  ·rw[h];simp
  ·omega
 refine⟨O,λd hd=>⟨by have:=(key d hd).2.1;omega,λr hr=>?_⟩,key⟩;obtain⟨_,k2,k3⟩:=(key d hd).2.2 r hr;exact⟨O,λw hw=>by have:=k3 w hw;rw[bV]at this⊢;omega⟩
def topR(db:List Data)(q:Res):List Data×Int:=if q.2=0 then(q.1,0)else(db,q.2)
theorem zgs{α:Type}{c:α->Int}{B:Nat}:∀{l:List α},(∀x∈l,c x<=B)->cntL c l<=(B*l.length:Nat)
 |[],_=>by simp[cntL]
 |a::l,h=>by
  have h1:=h a gx;have h2:=zgs (l:=l) λx hx=>h x (by simp[hx]);rw[cntL,List.length_cons,Nat.mul_succ];omega
theorem wjr(hs:SchG s){db:List Data}(h:DbG I s db):db.length<=34359738368/\(∀x∈db,wc5 34359738368 x)/\1+cntL wfb db<=34359738368:=by
 obtain⟨h1,h2,h3⟩:=jjr hs h;refine⟨O,h2, ?_⟩;have key:∀d∈db,wfb d<=(1500:Nat):=λd hd=>by
  obtain⟨_,h4,h5⟩:=h3 d hd;have hr:∀r∈d.rows,zh7 r<=(25:Nat):=λr hr=>by
   obtain⟨_,h6,_⟩:=h5 r hr;rw[zh7,cnt3];omega
  have h7:=zgs hr;have h8:25*d.rows.length<=1500:=O;rw[wfb];omega
 have h9:=zgs key;have h10:1500*db.length<=7500:=O;omega
end Go.Proofs.YtedaadaaibofaaaGreat.Am
namespace Go.Proofs.YtedaadaaibofaaaGreat.Am
variable {I:Nat->Int->Prop}

variable {V:jb}
theorem zkh{fr:Fr}{cs:List Ce}{x:Opd}(hx:x.ev fr=some (.agg cs)):aop (.box false x) fr V=some (.c (.ptr V.next 0 0 0),V.new (0,[cs])):=by
 simp[aop,hx,AV.cells]
theorem Kept.mono{n m:Nat}{V':jb}(h:Kept m V V')(hn:n<=m):Kept n V V':=⟨h.next,λa ha=>h.get a (yay ha hn),h.full⟩
variable {db:List Data}{o:Nat}{xs:List Ce}{junk:List (List Ce)}
theorem DbT.holds{n:Nat}{s:List wc}{vo:Nat}(h:DbT n V db o vo xs junk)(hn:n<=V.next):wt ⟨V.next,0,o,vo,junk⟩ n s xs db (V.new (0,[[.fz (s.map ja),vec o vo (cells xs) junk]])):=by
 have hcl:(cells xs).length=db.length:=by rw[cells,yae,h.len]
 have hlo:=h.lo;obtain⟨lab,hl⟩:=h.tb;refine⟨?_,(if_neg (Nat.ne_of_lt hlo)).trans h.get,h.jk,h.len,⟨lab,λi h1 h2=>(hl i h1 h2).frame (λw a ha=>⟨ha.1,ha.2.1,yaw ha.2.2.1,Nat.ne_of_lt ha.2.2.1,ha.2.2.2⟩) λw a ha=>if_neg (Nat.ne_of_lt ha.2.2.1)⟩,hn,h.no,by show V.next≠o;omega,yal _,yaw hlo⟩;refine(if_pos rfl).trans ?_;rw[vec,hcl]
theorem DbT.has{n:Nat}{vo:Nat}(h:DbT n V db o vo xs junk)(hn:n<=V.next)(hr:∀d∈db,Rise d.rows):Has V (λa=>n<=a/\a<V.next) (.fz (db.map wa)) (vec o vo (cells xs) junk):=by
 have hcl:(cells xs).length=db.length:=by rw[cells,yae,h.len]
 have h1:=(h.holds (s:=[]) hn).has hr;rw[vec,hcl];have hb:∀a,(n<=a/\a<V.next+1/\a≠V.next)->n<=a/\a<V.next:=λa ha=>O;exact(h1.frame λa ha=>(if_neg ha.2.2).symm).mono hb
theorem HasV.two{S:Nat->Prop}{y x:Ce}{k:IntKind}{z:Int}(h:Has V S y x):HasV V S (.tup [.c y,.c (.int k z)]) (.tup [.c x,.c (.int k z)]):=
 HasV.pair (S1:=S) (S2:=λ_=>False) (.c h) (.c (.c (.int _ _))) (λ_ h=>h) (λ_ h=>h.elim) λ_ _ h=>h
theorem ji2(s:List wc)(db:List Data)(hd:db.length<=60)(hr:∀d∈db,d.rows.length<=60/\∀r∈d.rows,r.vals≠[]/\r.vals.length<=34359738368)(hrise:∀d∈db,Rise d.rows)(f:Nat)(pre cap:List Ce)(q:Res)(hq:q.2=0->∀d∈q.1,Rise d.rows)(G:jb)
 (hf:∀L xs V,wt L G.next s xs db V->Ok Tryz.prog f (pre.map .c++[.c (.ptr L.c L.vc 0 0)]++cap.map .c) V (Done L G.next s q V)):
 Ok Tryz.prog 136 [.c (.fz (s.map ja)),.c (.fz (db.map wa)),.c (.fn f pre cap)] G (λr V=>Kept G.next G V/\∃x,r=.tup [.c x,.c (.int .i64 (topR db q).2)]/\Has V (λa=>G.next<=a/\a<V.next) (.fz ((topR db q).1.map wa)) x):=by
 refine Ok.run0 mixed zdy gz λhS hA=>?_;clear hS hA;repeat' first|refine X ?_|exact yaF|refine yaS ?_ ?_<;>intro _
 refine .call _ rfl rfl rfl (wdh db hd hr G) ?_;rintro r9 V1 ⟨o,vo,xs,junk,hr9,hK1,hD1⟩;rw[hr9];clear hr9;have hH:=hD1.holds (s:=s) hK1.next;have hK2:Kept G.next G (V1.new (0,[[.fz (s.map ja),vec o vo (cells xs) junk]])):=hK1.trans (.new hK1.next);repeat' first|refine X ?_|((first|apply yG|apply yH|apply yI);exact rfl;(first|exact zkh rfl))|exact yaF|refine yaS ?_ ?_<;>intro _
 refine .call _ rfl rfl rfl (hf _ _ _ hH) ?_;rintro r9 V2 ⟨hr9,hk2,hq2⟩;rw[hr9];have hK3:=hK2.trans hk2;by_cases h0:q.2=0
 ·obtain⟨xs2,hH2⟩:=hq2 h0;rw[topR,if_pos h0,h0];repeat' first|refine X ?_|((first|apply yG|apply yH|apply yI);exact rfl;(first|exact zch hH2 rfl))|exact yaF|refine yaS ?_ ?_<;>intro _
  exact .ret rfl ⟨hK3,_,rfl,(hH2.has (hq h0)).mono λa ha=>⟨ha.1,ha.2.1⟩⟩
 ·rw[topR,if_neg h0];generalize q.2=e at h0⊢;repeat' first|refine X ?_|exact yaF|refine yaS ?_ ?_<;>intro _
  refine .call _ rfl rfl rfl (wdh db hd hr V2) ?_;rintro r9 V3 ⟨o3,vo3,xs3,junk3,hr9,hK4,hD4⟩;rw[hr9];repeat' first|refine X ?_|exact yaF|refine yaS ?_ ?_<;>intro _
  exact .ret rfl ⟨hK3.trans (hK4.mono hK3.next),_,rfl,(hD4.has hK4.next hrise).mono λa ha=>⟨yai hK3.next ha.1,ha.2⟩⟩
end Go.Proofs.YtedaadaaibofaaaGreat.Am
namespace Go.Proofs.YtedaadaaibofaaaGreat.Am
variable {I:Nat->Int->Prop}

end Go.Proofs.YtedaadaaibofaaaGreat.Am
namespace Go.Proofs.YtedaadaaibofaaaGreat.Am
abbrev Ins:=List Data×Int×Int
def insE(s:List wc)(k:Nat)(vals:List Val)(nx:Int)(db:List Data):Ins:=if((tabN s k).fks.any λf=>zo s db false vals f)=true then([],0,5)else(db,nx,0)
def insD(s:List wc)(k:Nat)(vals:List Val)(nx:Int)(db:List Data):Ins:=if(jp db k).length=60\/nx>1000000000 then([],0,7)else insE s k vals nx (db.set k ⟨jp db k++[⟨nx,vals⟩]⟩)
def insC(s:List wc)(k:Nat)(vals:List Val)(nx:Int)(c:Res):Ins:=if c.2=0 then insD s k vals nx c.1 else([],0,c.2)
def insF(run:Chg->List Data->Res)(s:List wc)(k:Nat)(vals:List Val)(rep:Bool)(db:List Data):Ins:=
 if wb4 (tabN s k) vals=0 then insC s k vals (zcj (jp db k)) (j9 run (tabN s k) k ⟨zcj (jp db k),vals⟩ rep db)else([],0,wb4 (tabN s k) vals)
def resI(q:Ins):AV:=.tup [.c (if q.2.2=0 then .fz (q.1.map wa)else .nils),.c (.int .i64 q.2.1),.c (.int .i64 q.2.2)]
theorem zjs{e:Int}(h:e≠0):resI ([],0,e)=.tup [.c .nils,.c (.int .i64 0),.c (.int .i64 e)]:=by rw[resI,if_neg h]
theorem wc0(q:Ins)(n:Nat):∀y∈(resI q).all,Old n y:=λy hy=>by
 simp only[resI,AV.all,AV.all.allL,List.append_nil,List.mem_append,List.mem_singleton]at hy;rcases hy with rfl|rfl|rfl
 ·split
  ·exact jl (wag _)
  ·exact .nils
 ·exact .int _ _
 ·exact .int _ _
def jhk(k:Nat)(nx:Int):Nat->Int->Prop:=λj id=>1<=id/\id<=1000000000/\(j=k->id<nx)
theorem whk{x:RowD}:∀{l:List RowD},(∀r∈l,r.id<x.id)->zen x false l=l++[x]
 |[],_=>rfl
 |r::l,h=>by
  have h1:=h r gx;have h2:=whk (x:=x) (l:=l) λq hq=>h q (by simp[hq]);rw[zen,decide_eq_false O,if_neg gx,if_neg O];simp only[Bool.or_false];rw[h2]
  rfl
variable {t:wc}
theorem wdg.mono{Q Q':Int->Prop}{l:List RowD}(h:wdg Q t l)(hq:∀i,Q i->Q' i):wdg Q' t l:=⟨h.len,λr hr=>hq _ (h.ids r hr),h.rise,h.fit⟩
variable {s:List wc}{db:List Data}
theorem DbG.mono{I I':Nat->Int->Prop}(h:DbG I s db)(hI:∀k i,I k i->I' k i):DbG I' s db:=⟨h.len,λi h1 h2=>(h.rows i h1 h2).mono (hI i)⟩
def BI:Nat->Int->Prop:=λ_ id=>1<=id/\id<=1000000000
theorem jgs{l:List RowD}(h:∀r∈l,1<=r.id):1<=zcj l:=by
 by_cases h0:0<l.length
 ·have hlt:l.length-1<l.length:=O;have:=jep (l:=l) (k:=l.length-1) hlt O;have:=h _ (yaa hlt);omega
 ·have:l=[]:=yan O;subst this;exact yaz _
variable {k:Nat}{nx:Int}
theorem wdg.snoc{l:List RowD}(h:wdg (jhk k nx k) t l){x:RowD}(hx:x.id=nx)(h1:1<=nx)(h2:nx<=1000000000)(hl:l.length<60)(hf:x.vals.length=t.cols.length/\zq x.vals 16=true):wdg (BI k) t (l++[x]):=by
 refine⟨by rw[yaqq,ybf];omega,λr hr=>?_, ?_,λr hr=>?_⟩
 ·rcases List.mem_append.1 hr with hr|hr
  ·exact⟨(h.ids r hr).1,(h.ids r hr).2.1⟩
  ·rw[List.mem_singleton.1 hr,hx];exact⟨h1,h2⟩
 ·refine List.pairwise_append.2 ⟨h.rise,List.pairwise_singleton _ _,λa ha b hb=>?_⟩;rw[List.mem_singleton.1 hb,hx];exact(h.ids a ha).2.2 rfl
 ·rcases List.mem_append.1 hr with hr|hr
  ·exact h.fit r hr
  ·rw[List.mem_singleton.1 hr];exact hf
theorem DbG.next(h:DbG (jhk k nx) s db):DbG BI s db:=h.mono λ_ _ h=>⟨h.1,h.2.1⟩
theorem wk7{l:List RowD}(hr:Rise l):∀r∈l,r.id<zcj l:=λr hm=>by
 obtain⟨i,hi,rfl⟩:=ybr hm;have h1:=jep (l:=l) (k:=l.length-1) O O;rw[h1];have h2:=List.pairwise_iff_getElem.1 hr;by_cases e:i=l.length-1
 ·subst e;omega
 ·have:=h2 i (l.length-1) hi O O;omega
set_option maxHeartbeats 2000000 in
theorem jec(hs:SchG s){k:Nat}(hk:k<s.length)(vals0:List Val)(rep:Bool)(db:List Data){nx:Int}(hnx:nx=zcj (jp db k))(h:DbG (jhk k nx) s db)(hl:vals0.length=s[k].cols.length)(hv:zq vals0 16=true):
 Pure Tryz.prog 256 [.c (.fz (s.map ja)),.c (.fz (db.map wa)),.c (.int .i64 (k:Int)),.c (.fz (vals0.map encV)),.c (.bool rep)] (resI (insF (chgF s 12) s k (if rep then jj s[k] 0 vals0 else vals0) rep db)):=by
 refine yas zbu λG=>?_;have hk2:k<db.length:=by rw[h.len];exact hk
 have ht:=hs.tab _ (yaa hk);have hb:=hs.big _ (yaa hk);have hR:=h.rows k hk hk2;have cF:=jfh s[k] vals0 hl ht.cols8;have hvv:=zf5 hs hk hl hv rep;rw[we hk2]at hnx;have cn:=wf5 db[k] hR.len λr hr=>⟨(hR.ids r hr).1,(hR.ids r hr).2.1⟩;have hn9:1<=nx:=by rw[hnx];exact jgs λr hr=>(hR.ids r hr).1
 rw[<-hnx]at cn;rw[insF,zn hk,we hk2,<-hnx];repeat' first|refine X ?_|((first|apply yG|apply yH|apply yI);exact rfl;(first|exact yax ja rfl hk))
 refine Go.meet (K':=[_]) (λfr V'=>∃vals,vals=(if rep then jj s[k] 0 vals0 else vals0)/\fr=[(0,AV.c (.fz (s.map ja))),(1,.c (.fz (db.map wa))),(2,.c (.int .i64 (k:Int))),(3,.c (.fz (vals.map encV))),(4,.c (.bool rep)),(13,.c (.fp (ja s[k])))]/\V'=E G []) ?_ ?_
 ·intro K hrec
  cases rep
  ·repeat' first|refine X ?_|exact yaF|refine yaS ?_ ?_<;>intro _
   exact Go.keep [0,1,2,3,4,13] (hrec _ _ ⟨_,rfl,rfl,rfl⟩)
  ·repeat' first|refine X ?_|refine yaC (cF) ?_|exact yaF|refine yaS ?_ ?_<;>intro _
   exact Go.keep [0,1,2,3,4,13] (hrec _ _ ⟨_,rfl,rfl,rfl⟩)
 rintro fr V' ⟨vals,hve,rfl,rfl⟩;rw[<-hve]at hvv⊢;clear cF hl hv hve;have ca:=wd3 s[k] vals hvv.1 ht hvv.2;have cv:=zbo vals (yai (wd.1 hvv.2).1 gb);by_cases hab:wb4 s[k] vals=0
 ·rw[hab]at ca;rw[if_pos hab];have hr:=wia (I:=jhk k nx) hs 12 1 gb rfl;have cc:=jdh (deep:=0) hs hr hk ⟨nx,vals⟩ hvv.1 rep db h;have hkc:=λ(h2:(j9 (chgF s 12) s[k] k ⟨nx,vals⟩ rep db).2=0)=>jbo hr.keeps hk (t:=s[k]) (x:=⟨nx,vals⟩) (rep:=rep) h h2;generalize j9 (chgF s 12) s[k] k ⟨nx,vals⟩ rep db=c at cc hkc⊢;rw[insC];by_cases hc0:c.2=0
  ·rw[zaf hc0]at cc;rw[if_pos hc0];have hdb1:=hkc hc0;generalize c.1=db1 at cc hdb1⊢;have hn1:k<db1.length:=by rw[hdb1.len];exact hk
   have hR1:=hdb1.rows k hk hn1;rw[insD,we hn1];by_cases hlen:db1[k].rows.length=60
   ·rw[if_pos (.inl hlen)];repeat' first|refine X ?_|((first|apply yG|apply yH|apply yI);exact rfl;(first|exact yax wa rfl hk2|exact yax wa rfl hn1))|refine yaC (ca) ?_|refine yaC (cn) ?_|refine yaC (cv) ?_|refine yaC (cc) ?_|exact yaF|refine yaS ?_ ?_<;>intro _
    all_goals first
     |(exfalso;omega)
     |contradiction
     |skip
    exact .ret rfl (Fin.same rfl (wc0 ([],0,7) _))
   ·by_cases hbig:nx>1000000000
    ·rw[if_pos (.inr hbig)];repeat' first|refine X ?_|((first|apply yG|apply yH|apply yI);exact rfl;(first|exact yax wa rfl hk2|exact yax wa rfl hn1))|refine yaC (ca) ?_|refine yaC (cn) ?_|refine yaC (cv) ?_|refine yaC (cc) ?_|exact yaF|refine yaS ?_ ?_<;>intro _
     all_goals first
      |(exfalso;omega)
      |contradiction
      |skip
     all_goals exact .ret rfl (Fin.same rfl (wc0 ([],0,7) _))
    ·rw[if_neg (λh=>by rcases h with h|h<;>omega)];have c4:=zfi db1[k] ⟨nx,vals⟩ hR1.len;rw[whk λr hr=>(hR1.ids r hr).2.2 rfl]at c4;have c5:=zct db1 (k:Int) k ⟨db1[k].rows++[⟨nx,vals⟩]⟩ rfl hn1 (by rw[hdb1.len];exact yai hs.few gb);have hset:DbG BI s (db1.set k ⟨db1[k].rows++[⟨nx,vals⟩]⟩):=hdb1.next.set hk (hR1.snoc rfl hn9 O (by have:=hR1.len;omega) hvv);generalize db1.set k ⟨db1[k].rows++[⟨nx,vals⟩]⟩=db2 at c5 hset⊢;have c9:=wa6 s db2 (k:Int) k vals true (yai hs.few gb) rfl hk ht.fk3 (fkR hs hset hk hvv.1);have e9:s[k].fks.any (zo s db2 (!true) vals)=s[k].fks.any λf=>zo s db2 false vals f:=rfl;rw[e9]at c9;rw[insE,zn hk];generalize (s[k].fks.any λf=>zo s db2 false vals f)=B at c9⊢
     cases B
     ·rw[if_neg yah];repeat' first|refine X ?_|((first|apply yG|apply yH|apply yI);exact rfl;(first|exact yax wa rfl hk2|exact yax wa rfl hn1))|refine yaC (ca) ?_|refine yaC (cn) ?_|refine yaC (cv) ?_|refine yaC (cc) ?_|refine yaC (c4) ?_|refine yaC (c5) ?_|refine yaC (c9) ?_|exact yaF|refine yaS ?_ ?_<;>intro _
      all_goals first
       |(exfalso;omega)
       |contradiction
       |skip
      exact .ret rfl (Fin.same rfl (wc0 (db2,nx,0) _))
     ·rw[if_pos rfl];repeat' first|refine X ?_|((first|apply yG|apply yH|apply yI);exact rfl;(first|exact yax wa rfl hk2|exact yax wa rfl hn1))|refine yaC (ca) ?_|refine yaC (cn) ?_|refine yaC (cv) ?_|refine yaC (cc) ?_|refine yaC (c4) ?_|refine yaC (c5) ?_|refine yaC (c9) ?_|exact yaF|refine yaS ?_ ?_<;>intro _
      all_goals first
       |(exfalso;omega)
       |contradiction
       |skip
      exact .ret rfl (Fin.same rfl (wc0 ([],0,5) _))
  ·rw[if_neg hc0];obtain⟨e,he⟩:∃e,c.2=e:=⟨_,rfl⟩;rw[he]at hc0;rw[jab he hc0]at cc;rw[he];repeat' first|refine X ?_|((first|apply yG|apply yH|apply yI);exact rfl;(first|exact yax wa rfl hk2))|refine yaC (ca) ?_|refine yaC (cn) ?_|refine yaC (cv) ?_|refine yaC (cc) ?_|exact yaF|refine yaS ?_ ?_<;>intro _
   exact .ret rfl (Fin.same (zjs hc0).symm (wc0 ([],0,e) _))
 ·rw[if_neg hab];generalize wb4 s[k] vals=e at ca hab⊢;repeat' first|refine X ?_|refine yaC (ca) ?_|exact yaF|refine yaS ?_ ?_<;>intro _
  exact .ret rfl (Fin.same (zjs hab).symm (wc0 ([],0,e) _))
theorem zk8{s bytes v:Nat}{ys junk:List (List Ce)}{e:List Ce}(hys:∀q∈ys,q.length=s)(hj:Jk s junk)(he:e.length=s)(hb:(ys.length+1)*bytes<=140737488355328):
 ∃v' junk',Jk s junk'/\∀(id:Nat) (V:jb) (fr:Fr) (x y:Opd),x.ev fr=some (.c (vec id v ys junk))->y.ev fr=some (.c (.fz [e]))->V.get id=some (v,ys++junk)->aop (.app s bytes x y) fr V=some (.c (vec id v' (ys++[e]) junk'),V.put id (v',ys++[e]++junk')):=by
 have hall1:∀q∈[e],q.length=s:=λq hq=>by rw[List.mem_singleton.1 hq];exact he
 have hall:∀q∈ys++junk,q.length=s:=λq hq=>by
  rcases List.mem_append.1 hq with hq|hq
  ·exact hys q hq
  ·exact(hj q hq).1
 by_cases c:1<=junk.length
 ·refine⟨v,junk.drop 1,λq hq=>hj q (ybp hq),λid V fr x y hx hy hg=>?_⟩;have e2:jh (ys++junk) (0+ys.length) [e]=ys++[e]++junk.drop 1:=by
   simp only[jh,Nat.zero_add,List.length_singleton];rw[List.take_left' rfl,List.drop_append];rw[yad O,Nat.add_sub_cancel_left];simp
  have h1:appA V s bytes (vec id v ys junk) [e]=some (vec id v (ys++[e]) (junk.drop 1),V.put id (v,ys++[e]++junk.drop 1)):=by
   unfold appA;rw[if_pos hall1];simp only[vec,hg];rw[if_pos ⟨trivial,gx,O,hall⟩,if_pos (by simp only[List.length_singleton];omega),e2];simp only[List.length_append,List.length_singleton,List.length_drop];rw[show ys.length+1+(junk.length-1)=ys.length+junk.length by omega]
  simp only[aop,hx,hy,jb.els,Option.bind_some,h1,Option.map_some]
 ·refine⟨v+1,[],Jk.nil,λid V fr x y hx hy hg=>?_⟩;have e3:(List.drop 0 (ys++junk)).take ys.length=ys:=by rw[List.drop_zero,List.take_left' rfl]
  have h1:appA V s bytes (vec id v ys junk) [e]=some (vec id (v+1) (ys++[e]) [],V.put id (v+1,ys++[e]++[])):=by
   unfold appA;rw[if_pos hall1];simp only[vec,hg];rw[if_pos ⟨trivial,gx,O,hall⟩,if_neg (by simp only[List.length_singleton];omega),if_pos (by simpa using hb),e3];simp
  simp only[aop,hx,hy,jb.els,Option.bind_some,h1,Option.map_some]
variable {V:jb}{l:List (Nat×List (List Ce))}
theorem jlh{id:Nat}{b:Nat×List (List Ce)}(h:id<V.next):E ((E V []).put id b) l=(E V l).put id b:=by
 refine jb.ext (by show(E V []).next+l.length=V.next+l.length;rw[zan];rfl) λa=>?_;by_cases h1:a<V.next
 ·rw[E_lt (show a<((E V []).put id b).next from h1)];show(if a=id then some b else(E V []).get a)=(if a=id then some b else(E V l).get a);rw[E_lt h1,E_lt h1]
 ·rw[E_ge (show¬a<((E V []).put id b).next from h1)];show _=(if a=id then some b else(E V l).get a);rw[if_neg O,E_ge h1]
  rfl
variable {L:ChL}{n:Nat}
theorem jkh{xs:List Ce}(h:wt L n s xs db V){k:Nat}(hk:k<db.length)(hk2:k<xs.length)(hl:db[k].rows.length<=60)(hid:∀r∈db[k].rows,1<=r.id/\r.id<=1000000000):
 Ok Tryz.prog 236 [.c (.ptr L.c L.vc 0 0),.c (.int .i64 (k:Int))] V (λr V'=>r=.c (.int .i64 (zcj db[k].rows))/\V'=V):=by
 refine Ok.run0 mixed wch gz λhS hA=>?_;clear hS hA;obtain⟨lab,ps,id2,v2,junk2,hat,hl2⟩:=h.any hk hk2;have hpl:(ps.map encP).length=db[k].rows.length:=by rw[yae,hat.len]
 by_cases h0:0<db[k].rows.length
 ·have hlt:db[k].rows.length-1<db[k].rows.length:=O;have hz:IntKind.i64.wrap ((db[k].rows.length:Int)-1)=((db[k].rows.length-1:Nat):Int):=by rw[zk O O];omega
  have hlast:=hid _ (yaa hlt);have hnx:=jep (l:=db[k].rows) (k:=db[k].rows.length-1) hlt O;repeat' first|refine X ?_|((first|apply yG|apply yH|apply yI);exact rfl;(first|exact zch h rfl|exact wdr h rfl rfl rfl hk|exact zds h rfl hk2|exact jdr h hk hk2 rfl))|exact yaF|refine yaS ?_ ?_<;>intro _
  all_goals first
   |(exfalso;omega)
   |skip
  rw[hat.x];repeat' first|refine X ?_|((first|apply yG|apply yH|apply yI);exact rfl;(first|exact wq rfl rfl hz (by rw[hpl];exact hlt) hat.get (hat.at hlt) rfl|exact j5 rfl hat.get (hat.at hlt) (Nat.zero_lt_succ _)))|exact yaF|refine yaS ?_ ?_<;>intro _
  refine .ret rfl ⟨?_,rfl⟩;rw[hnx,<-hat.row hlt];show AV.c (.int .i64 (IntKind.i64.wrap ((ps[db[k].rows.length-1]'_).1.id+1)))=_;rw[zk (by rw[hat.row hlt];omega) (by rw[hat.row hlt];omega)]
 ·have hnil:db[k].rows=[]:=yan O;repeat' first|refine X ?_|((first|apply yG|apply yH|apply yI);exact rfl;(first|exact zch h rfl|exact wdr h rfl rfl rfl hk|exact zds h rfl hk2|exact jdr h hk hk2 rfl))|exact yaF|refine yaS ?_ ?_<;>intro _
  all_goals first
   |(exfalso;omega)
   |skip
  rw[hnil];exact .ret rfl ⟨rfl,rfl⟩
variable {vals:List Val}
theorem wi2{rows:List RowD}{keys:List (List Int)}{a b:Int}(h:∀r∈rows,r.id≠a/\r.id≠b):j4 rows keys a vals=j4 rows keys b vals:=by
 rw[j4,j4]
 congr 1
 refine List.filter_congr λr hr=>?_;obtain⟨h1,h2⟩:=h r hr;rw[beq_eq_false_iff_ne.2 h1,beq_eq_false_iff_ne.2 h2]
theorem jjs{run:Chg->List Data->Res}{a b:Int}{rep:Bool}(h:∀r∈jp db k,r.id≠a/\r.id≠b):j9 run t k ⟨a,vals⟩ rep db=j9 run t k ⟨b,vals⟩ rep db:=by
 rw[j9,j9];simp only[wi2 h]
def jlm(L:ChL)(n:Nat)(s:List wc)(q:Ins)(V:jb)(r:AV)(V':jb):Prop:=r=.tup [.c (.int .i64 q.2.2),.c (.int .i64 q.2.1)]/\Kept n V V'/\(q.2.2=0->∃xs,wt L n s xs q.1 V')
set_option maxHeartbeats 4000000 in
theorem zfj(hs:SchG s){k:Nat}(hk:k<s.length)(vals0:List Val)(rep:Bool)(db:List Data){nx:Int}(hnx:nx=zcj (jp db k))(xs:List Ce)(V:jb)(h:wt L n s xs db V)(hdb:DbG (jhk k nx) s db)(hl:vals0.length=s[k].cols.length)(hv:zq vals0 16=true):
 Ok Tryz.prog 138 [.c (.ptr L.c L.vc 0 0),.c (.int .i64 (k:Int)),.c (.fz (vals0.map encV)),.c (.bool rep)] V (jlm L n s (insF (chgF s 12) s k (if rep then jj s[k] 0 vals0 else vals0) rep db) V):=by
 refine Ok.run0 mixed wb0 gz λhS hA=>?_;clear hS hA;have hk2:k<db.length:=by rw[hdb.len];exact hk
 have hk3:k<xs.length:=by rw[h.len];exact hk2
 have ht:=hs.tab _ (yaa hk);have hb:=hs.big _ (yaa hk);have hR:=hdb.rows k hk hk2;have hne:∀{l:List Val},l.length=s[k].cols.length->l≠[]:=λh1 h0=>by
  rw[h0]at h1;have:=ht.cols0;simp at h1;omega
 have cF:=whj s[k] vals0 hl (hne hl) ht.cols8;have hvv:=zf5 hs hk hl hv rep;rw[we hk2]at hnx;have hn9:1<=nx:=by rw[hnx];exact jgs λr hr=>(hR.ids r hr).1
 rw[insF,zn hk,we hk2,<-hnx];have hn0:V.next<=V.next:=yaf _;repeat' first|refine X ?_|((first|apply yG|apply yH|apply yI);exact rfl;(first|exact wbo h rfl|exact yax ja rfl hk))
 refine Go.meet (K':=[_]) (λfr V'=>V'=V/\∃vals,vals=(if rep then jj s[k] 0 vals0 else vals0)/\fr=[(0,AV.c (.ptr L.c L.vc 0 0)),(1,.c (.int .i64 (k:Int))),(2,.c (.fz (vals.map encV))),(3,.c (.bool rep)),(10,.c (.fp (ja s[k])))]) ?_ ?_
 ·intro K hrec
  cases rep
  ·repeat' first|refine X ?_|exact yaF|refine yaS ?_ ?_<;>intro _
   exact Go.keep [0,1,2,3,10] (hrec _ _ ⟨rfl,_,rfl,rfl⟩)
  ·repeat' first|refine X ?_|refine yaC (cF) ?_|exact yaF|refine yaS ?_ ?_<;>intro _
   exact Go.keep [0,1,2,3,10] (hrec _ _ ⟨rfl,_,rfl,rfl⟩)
 rintro fr V' ⟨hτ,vals,hve,rfl⟩;rw[hτ];rw[<-hve]at hvv⊢;clear cF hl hv hve hτ;have ca:=zf7 s[k] vals hvv.1 ht hb;by_cases hab:wb4 s[k] vals=0
 ·rw[hab]at ca;rw[if_pos hab];repeat' first|refine X ?_|refine yaC (ca) ?_|exact yaF|refine yaS ?_ ?_<;>intro _
  clear ca;have cn:=jkh h hk2 hk3 hR.len λr hr=>⟨(hR.ids r hr).1,(hR.ids r hr).2.1⟩;rw[<-hnx]at cn;refine .call _ rfl rfl rfl cn ?_;rintro r9 V9 ⟨hr9,ht9⟩;rw[hr9,ht9];clear hr9 ht9 cn;have hr:=jim (I:=jhk k nx) (L:=L) (n:=n) hs 12 1 gb rfl;have cc:=zim (deep:=0) hs hr hk 0 vals hvv.1 rep db xs V h hdb;rw[jjs (b:=nx) λr hm=>by
   rw[we hk2]at hm;have h1:=hR.ids r hm;exact⟨λe=>by have:=h1.1;omega,λe=>by have:=h1.2.2 rfl;omega⟩]at cc
  have hkc:=λ(h2:(j9 (chgF s 12) s[k] k ⟨nx,vals⟩ rep db).2=0)=>jbo hr.keeps hk (t:=s[k]) (x:=⟨nx,vals⟩) (rep:=rep) hdb h2;generalize j9 (chgF s 12) s[k] k ⟨nx,vals⟩ rep db=c at cc hkc⊢;repeat' first|refine X ?_|exact yaF|refine yaS ?_ ?_<;>intro _
  refine .call _ rfl rfl rfl cc ?_;rintro r9 V1 ⟨hr9,hk1,hq1⟩;rw[hr9];clear cc hr9;rw[insC];by_cases hc0:c.2=0
  ·obtain⟨xs1,hH1⟩:=hq1 hc0;have hdb1:=hkc hc0;rw[if_pos hc0,hc0];generalize c.1=db1 at hdb1 hH1⊢;clear hkc hq1;have hn1:k<db1.length:=by rw[hdb1.len];exact hk
   have hn2:k<xs1.length:=by rw[hH1.len];exact hn1
   have hR1:=hdb1.rows k hk hn1;rw[insD,we hn1];have hlen60:=hR1.len;by_cases hlen:db1[k].rows.length=60
   ·rw[if_pos (.inl hlen)];repeat' first|refine X ?_|((first|apply yG|apply yH|apply yI);exact rfl;(first|exact zch hH1 rfl|exact wdr hH1 rfl rfl rfl hn1|exact zds hH1 rfl hn2|exact jdr hH1 hn1 hn2 rfl))|exact yaF|refine yaS ?_ ?_<;>intro _
    all_goals first
     |(exfalso;omega)
     |skip
    all_goals exact .ret rfl ⟨rfl,hk1,λh=>by cases h⟩
   ·by_cases hbig:nx>1000000000
    ·rw[if_pos (.inr hbig)];repeat' first|refine X ?_|((first|apply yG|apply yH|apply yI);exact rfl;(first|exact zch hH1 rfl|exact wdr hH1 rfl rfl rfl hn1|exact zds hH1 rfl hn2|exact jdr hH1 hn1 hn2 rfl))|exact yaF|refine yaS ?_ ?_<;>intro _
     all_goals first
      |(exfalso;omega)
      |skip
     all_goals exact .ret rfl ⟨rfl,hk1,λh=>by cases h⟩
    ·rw[if_neg (λh=>by rcases h with h|h<;>omega)];have hset:DbG BI s (db1.set k ⟨db1[k].rows++[⟨nx,vals⟩]⟩):=hdb1.next.set hk (hR1.snoc rfl hn9 O O hvv);obtain⟨lab2,ps2,id2,v2,junk2,hat,hl2⟩:=hH1.any hn1 hn2;obtain⟨_,q1,q2,q3,q4⟩:=hat.own;repeat' first|apply Go.seq|apply Go.skip|apply Go.region|apply Go.nil|apply Go.block|apply Go.blk|apply Go.segs|(apply Go.exit;exact rfl)|(apply Go.cond true;exact rfl)|(apply Go.cond false;exact rfl)|apply yB|apply yC|((first|apply yD|apply yE);(first|exact yF|assumption);iterate 6 exact rfl)|((first|apply yG|apply yH|apply yI);exact rfl;(first|exact yJ|exact yK rfl rfl|exact yL rfl|exact yM rfl|exact rfl|exact aL rfl rfl rfl rfl rfl|exact aS rfl rfl rfl rfl rfl rfl rfl|exact zch hH1 rfl|exact wdr hH1 rfl rfl rfl hn1|exact zds hH1 rfl hn2|exact jdr hH1 hn1 hn2 rfl))|((first|apply yN|apply yO|apply yP);exact rfl)|exact yaF|(((first|apply yT|apply yU|apply yV|apply yW);exact rfl;(first|exact .d|exact .e|exact .n|((fail_if_success exact bqt);(fail_if_success exact bqf);exact .b)))<;>intro _)
     all_goals first
      |(exfalso;omega)
      |skip
     apply Go.draw;refine .old λ_ hSt=>?_;have hE0:(E V1 []).put id2 (v2,ps2.map encP++junk2)=V1:=by rw[jc2 hSt,wgr hat.get]
     refine Go.ext ?_ hE0;have hcS:∀a b,((E V1 a).put id2 b).get L.c=some (L.vc,[[.fz (s.map ja),.sl L.d L.vd 0 db1.length (db1.length+L.junk.length)]]):=λa b=>(if_neg (Ne.symm q3)).trans ((E_lt hH1.lc).trans hH1.c);have hdS:∀a b,((E V1 a).put id2 b).get L.d=some (L.vd,cells xs1++L.junk):=λa b=>(if_neg (Ne.symm q4)).trans ((E_lt hH1.ld).trans hH1.d);have o1:∀(a:List (Nat×List (List Ce))) (b:Nat×List (List Ce)) (fr:Fr) (x:Opd),x.ev fr=some (.c (.ptr L.c L.vc 0 1))->aop (.load false 1 x) fr ((E V1 a).put id2 b)=some (.c (.sl L.d L.vd 0 db1.length (db1.length+L.junk.length)),(E V1 a).put id2 b):=λa b fr x hx=>j5 hx (hcS a b) rfl (yal _);have o2:∀(a:List (Nat×List (List Ce))) (b:Nat×List (List Ce)) (fr:Fr) (x y:Opd),x.ev fr=some (.c (.sl L.d L.vd 0 db1.length (db1.length+L.junk.length)))->y.ev fr=some (.c (.int .i64 (k:Int)))->aop (.iaddr 1 x y) fr ((E V1 a).put id2 b)=some (.c (.ptr L.d L.vd (0+k) 0),(E V1 a).put id2 b):=λa b fr x y hx hy=>wq hx hy rfl hn1 (hdS a b) (zau hn2) rfl;have o3:∀(a:List (Nat×List (List Ce))) (b:Nat×List (List Ce)) (fr:Fr) (x:Opd),x.ev fr=some (.c (.ptr L.d L.vd (0+k) 0))->aop (.load false 1 x) fr ((E V1 a).put id2 b)=some (.c xs1[k],(E V1 a).put id2 b):=λa b fr x hx=>j5 hx (hdS a b) (zau hn2) (yal _);refine Go.qxd (λa b=>(E V1 a).put id2 b) (λ_=>True) [] (v2,ps2.map encP++junk2) (λa b b' h=>Option.some.inj (ja1.symm.trans ((congrArg (λG=>G.get id2) h).trans ja1))) trivial ?_;repeat' first|(apply Qx.op;exact rfl;(first|exactλa b _=>o1 a b _ _ rfl|exactλa b _=>o2 a b _ _ _ rfl rfl|exactλa b _=>o3 a b _ _ rfl|exactλ_ _ _=>rfl))
     refine Qx.call (λr a'=>∃v9 junk9,Jk 3 junk9/\r=.c (vec (V1.next+0) v9 (vals.map encV) junk9)/\a'=[(v9,vals.map encV++junk9)]) rfl rfl rfl (λb _=>(jah vals (hne hvv.1) (yai (wd.1 hvv.2).1 gb) ((E V1 []).put id2 b)).mono ?_) ?_
     ·rintro r V9 ⟨v9,junk9,hj9,hr9,ht9⟩;exact⟨_,⟨v9,junk9,hj9,hr9,rfl⟩,by rw[ht9,jlh q2]⟩
     rintro r a' ⟨v9,junk9,hj9,hr9,ha9⟩;rw[hr9,ha9];have hbd:((ps2.map encP).length+1)*32<=140737488355328:=by rw[yae,hat.len];omega
     obtain⟨v',junk',hj',hap⟩:=zk8 (bytes:=32) (v:=v2) (e:=[.int .i64 nx,vec (V1.next+0) v9 (vals.map encV) junk9]) (wep (ps:=ps2)) hat.jk rfl hbd;repeat' first|(apply Qx.op;exact rfl;exactλ_ _ _=>rfl)
     refine .wop (v:=.c (vec id2 v' (ps2.map encP++[[.int .i64 nx,vec (V1.next+0) v9 (vals.map encV) junk9]]) junk')) (b':=(v',ps2.map encP++[[.int .i64 nx,vec (V1.next+0) v9 (vals.map encV) junk9]]++junk')) rfl rfl (λa=>?_) trivial ?_
     ·rw[hap id2 ((E V1 a).put id2 (v2,ps2.map encP++junk2)) _ _ _ (by rw[<-hat.x];rfl) rfl ja1,wjo]
     refine .nil ?_;have e1:ps2.map encP++[[.int .i64 nx,vec (V1.next+0) v9 (vals.map encV) junk9]]=(ps2++[((⟨nx,vals⟩:RowD),vec (V1.next+0) v9 (vals.map encV) junk9)]).map encP:=by
      rw[yak]
      rfl
     rw[e1];have hH2:wt L n s (xs1.set k (vec id2 v' ((ps2++[((⟨nx,vals⟩:RowD),vec (V1.next+0) v9 (vals.map encV) junk9)]).map encP) junk')) (db1.set k ⟨db1[k].rows++[⟨nx,vals⟩]⟩) (((E V1 [(v9,vals.map encV++junk9)]).put id2 (v',(ps2++[((⟨nx,vals⟩:RowD),vec (V1.next+0) v9 (vals.map encV) junk9)]).map encP++junk')).put L.d (L.vd,(cells xs1++L.junk).set (0+k) [vec id2 v' ((ps2++[((⟨nx,vals⟩:RowD),vec (V1.next+0) v9 (vals.map encV) junk9)]).map encP) junk'])):=by
      have hng:∀{a:Nat},a<V1.next->a≠id2->a≠L.d->(((E V1 [(v9,vals.map encV++junk9)]).put id2 (v',(ps2++[((⟨nx,vals⟩:RowD),vec (V1.next+0) v9 (vals.map encV) junk9)]).map encP++junk')).put L.d (L.vd,(cells xs1++L.junk).set (0+k) [vec id2 v' ((ps2++[((⟨nx,vals⟩:RowD),vec (V1.next+0) v9 (vals.map encV) junk9)]).map encP) junk'])).get a=V1.get a:=λha h1 h2=>(if_neg h2).trans ((if_neg h1).trans (E_lt ha));have hld:=hH1.ld;refine hH1.upd hl2 hn2 (new:=λ_=>some nx) (by show V1.next<=V1.next+1;omega) (λa ha hne hno=>hng ha (λe=>hno ⟨none,by rw[e];exact hat.own⟩) hne) ?_ ?_
      ·rw[whi hn2];exact ja1
      ·refine .sl _ _ id2 v' junk' ?_ ((if_neg q4).trans ja1) hj' (.inl hat.own) λp hp=>?_
       ·rw[yak,hat.rows]
        rfl
       ·rcases List.mem_append.1 hp with hm|hm
        ·exact⟨(hat.vl p hm).1.frame λa ha=>hng ((hat.vl p hm).2 a ha).2.2.1 (hat.ne hm ha) ((hat.vl p hm).2 a ha).2.2.2.2,λa ha=>.inl ((hat.vl p hm).2 a ha)⟩
        ·rw[List.mem_singleton.1 hm];refine⟨.sl vals _ v9 junk9 ((if_neg O).trans ((if_neg O).trans ?_)) hj9,λa ha=>.inr ?_⟩
         ·rw[E_at]
          rfl
         ·cases ha;exact⟨yaf _,by show V1.next+0<V1.next+1;omega,rfl⟩
     have hK2:Kept n V1 (((E V1 [(v9,vals.map encV++junk9)]).put id2 (v',(ps2++[((⟨nx,vals⟩:RowD),vec (V1.next+0) v9 (vals.map encV) junk9)]).map encP++junk')).put L.d (L.vd,(cells xs1++L.junk).set (0+k) [vec id2 v' ((ps2++[((⟨nx,vals⟩:RowD),vec (V1.next+0) v9 (vals.map encV) junk9)]).map encP) junk'])):=((Kept.ofE hH1.le _).trans (.put q1)).trans (.put hH1.nd);repeat' first|apply Go.seq|apply Go.skip|apply Go.region|apply Go.nil|apply Go.block|apply Go.blk|apply Go.segs|(apply Go.exit;exact rfl)|(apply Go.cond true;exact rfl)|(apply Go.cond false;exact rfl)|apply yB|apply yC|((first|apply yD|apply yE);(first|exact yF|assumption);iterate 6 exact rfl)|((first|apply yG|apply yH|apply yI);exact rfl;(first|exact yJ|exact yK rfl rfl|exact yL rfl|exact yM rfl|exact rfl|exact aL rfl rfl rfl rfl rfl|exact aS rfl rfl rfl rfl rfl rfl rfl|exact wq rfl rfl rfl hn1 (hdS _ _) (zau hn2) rfl|exact wdw rfl rfl (hdS _ _) (zau hn2) (yal _)))|((first|apply yN|apply yO|apply yP);exact rfl)|exact yaF|(((first|apply yT|apply yU|apply yV|apply yW);exact rfl;(first|exact .d|exact .e|exact .n|((fail_if_success exact bqt);(fail_if_success exact bqf);exact .b)))<;>intro _)
     obtain⟨V2,hτ2⟩:∃V2,V2=(((E V1 [(v9,vals.map encV++junk9)]).put id2 (v',(ps2++[((⟨nx,vals⟩:RowD),vec (V1.next+0) v9 (vals.map encV) junk9)]).map encP++junk')).put L.d (L.vd,(cells xs1++L.junk).set (0+k) [vec id2 v' ((ps2++[((⟨nx,vals⟩:RowD),vec (V1.next+0) v9 (vals.map encV) junk9)]).map encP) junk'])):=⟨_,rfl⟩;refine Go.ext ?_ hτ2;rw[<-hτ2]at hH2 hK2;clear hτ2 hap o1 o2 o3 hcS hdS;generalize xs1.set k (vec id2 v' ((ps2++[((⟨nx,vals⟩:RowD),vec (V1.next+0) v9 (vals.map encV) junk9)]).map encP) junk')=xs2 at hH2;generalize db1.set k ⟨db1[k].rows++[⟨nx,vals⟩]⟩=db2 at hset hH2⊢;have hK3:=hk1.trans hK2;rw[insE,zn hk];have c9:=wea s db2 s[k] vals false (yai hs.few gb) (yai ht.fk3 gb) (fkR hs hset hk hvv.1);have e9:s[k].fks.any (zo s db2 false vals)=s[k].fks.any λf=>zo s db2 false vals f:=rfl;rw[e9]at c9;generalize (s[k].fks.any λf=>zo s db2 false vals f)=B at c9⊢;repeat' first|refine X ?_|((first|apply yG|apply yH|apply yI);exact rfl;(first|exact wbo hH2 rfl|exact zch hH2 rfl))|exact yaF|refine yaS ?_ ?_<;>intro _
     refine Go.slcall rfl rfl rfl c9 (.bool _) (.same (.own hH2.frz (.same (.same (.same .nil))))) ?_
     cases B
     ·rw[if_neg yah];repeat' first|refine X ?_|exact yaF|refine yaS ?_ ?_<;>intro _
      exact .ret rfl ⟨rfl,hK3,λ_=>⟨xs2,hH2⟩⟩
     ·rw[if_pos rfl];repeat' first|refine X ?_|exact yaF|refine yaS ?_ ?_<;>intro _
      exact .ret rfl ⟨rfl,hK3,λh=>by cases h⟩
  ·rw[if_neg hc0];generalize c.2=e at hc0⊢;repeat' first|refine X ?_|exact yaF|refine yaS ?_ ?_<;>intro _
   exact .ret rfl ⟨rfl,hk1,λh=>absurd h hc0⟩
 ·rw[if_neg hab];generalize wb4 s[k] vals=e at ca hab⊢;repeat' first|refine X ?_|refine yaC (ca) ?_|exact yaF|refine yaS ?_ ?_<;>intro _
  exact .ret rfl ⟨rfl,.refl,λh=>absurd h hab⟩
theorem wjs(hs:SchG s){k:Nat}(hk:k<s.length){vals:List Val}(hvv:vals.length=s[k].cols.length/\zq vals 16=true){rep:Bool}{db:List Data}(h:DbG (jhk k (zcj (jp db k))) s db)(h0:(insF (chgF s 12) s k vals rep db).2.2=0):DbG BI s (insF (chgF s 12) s k vals rep db).1:=by
 have hn9:1<=zcj (jp db k):=jgs λr hr=>((h.at hk).ids r hr).1;revert h0;rw[insF,zn hk];split
 ·have hkc:=λ(h2:(j9 (chgF s 12) s[k] k ⟨zcj (jp db k),vals⟩ rep db).2=0)=>jbo (ja7 hs 12) hk (t:=s[k]) (x:=⟨zcj (jp db k),vals⟩) (rep:=rep) h h2;generalize j9 (chgF s 12) s[k] k ⟨zcj (jp db k),vals⟩ rep db=c at hkc⊢;rw[insC];split
  ·rename_i hc;have hdb1:=hkc hc;have hn1:k<c.1.length:=by rw[hdb1.len];exact hk
   have hR1:=hdb1.rows k hk hn1;have h60:=hR1.len;rw[insD,we hn1];split
   ·intro h
    cases h
   ·rename_i hno;rw[insE];split
    ·intro h
     cases h
    ·exactλ_=>hdb1.next.set hk (hR1.snoc rfl hn9 O O hvv)
  ·rename_i hc;exactλh=>absurd h hc
 ·rename_i hc;exactλh=>absurd h hc
theorem dbB(h:dbF s db=true):DbG BI s db:=by
 obtain⟨h1,h2,h3⟩:=wbv h;refine dbG h λi hi r hr=>?_;obtain⟨h5,h6⟩:=(jb4 (h3 i O hi)).2 r hr;simp only[isIn,Bool.and_eq_true,decide_eq_true_eq]at h6;exact h6
theorem jfj(h:DbG BI s db){k:Nat}(hk:k<s.length):DbG (jhk k (zcj (jp db k))) s db:=by
 refine⟨h.len,λi h1 h2=>?_⟩;have hR:=h.rows i h1 h2;refine⟨hR.len,λr hr=>⟨(hR.ids r hr).1,(hR.ids r hr).2,λe=>?_⟩,hR.rise,hR.fit⟩;subst e;rw[we h2];exact wk7 hR.rise r hr
theorem HasV.three{S:Nat->Prop}{y x:Ce}{k:IntKind}{z z2:Int}(h:Has V S y x):HasV V S (.tup [.c y,.c (.int k z),.c (.int k z2)]) (.tup [.c x,.c (.int k z),.c (.int k z2)]):=by
 refine .tup (λi a=>i=0/\S a) rfl (λi a ha=>ha.2) (λi i' a h1 h2=>h1.1.trans h2.1.symm) λi hy hx=>?_;have hi:i<3:=hy;have hi3:i=0\/i=1\/i=2:=O;rcases hi3 with rfl|rfl|rfl
 ·exact .c (h.mono λa ha=>⟨rfl,ha⟩)
 ·exact .c (.c (.int _ _))
 ·exact .c (.c (.int _ _))
variable {G:jb}
theorem Fin.nil3{z z2:Int}:Fin G (.tup [.c (.fz []),.c (.int .i64 z),.c (.int .i64 z2)]) (.tup [.c .nils,.c (.int .i64 z),.c (.int .i64 z2)]) (E G l):=by
 refine⟨l,rfl,.tup rfl λi hi=>?_⟩;have hi2:i<3:=hi;have hi3:i=0\/i=1\/i=2:=O;rcases hi3 with rfl|rfl|rfl
 ·exact .c .nil
 ·exact .c (.same _ (.int _ _))
 ·exact .c (.same _ (.int _ _))
theorem zdt(l:List Data)(z z2:Int)(n:Nat):∀y∈(AV.tup [.c (.fz (l.map wa)),.c (.int .i64 z),.c (.int .i64 z2)]).all,Old n y:=λy hy=>by
 simp only[AV.all,AV.all.allL,List.append_nil,List.mem_append,List.mem_singleton]at hy;rcases hy with rfl|rfl|rfl
 ·exact jl (wag _)
 ·exact .int _ _
 ·exact .int _ _
def nil?{α:Type}(l:List α):Bool:=(l.length:Int)==0
def wgs(x:Stmt):Bool:=if x.kind=1 then nil? x.wher&&nil? x.sets else if x.kind=2 then nil? x.rows else decide (x.kind=3)&&(nil? x.rows&&nil? x.sets)
def zcv(t:wc)(r:RowD):Bool:= !(r.id==0)|| !fitF t r.vals
def wc9(t:wc)(x:Stmt):Bool:= !(x.rows.any λr=>zcv t r)&&(jbn x.wher t.cols.length&&zfw x.sets t.cols.length)
def l7F(s:List wc)(x:Stmt):Bool:=match whf s x.table with
 |none=>false
 |some u=>isIn x.policy 0 4&&(wgs x&&(decide ((x.rows.length:Int)<=8)&&wc9 u x))
def zib(s:List wc)(x:Stmt):Bool:=wl s&&l7F s x
theorem zjt(x:Stmt):Pure Tryz.prog 178 [.agg (zg x)] (.c (.bool (wgs x))):=by
 refine yaq [1] zdl λG=>?_;repeat' first|refine X ?_|exact yaF|refine yaS ?_ ?_<;>intro _
 all_goals refine .ret rfl (.bool ?_)
 all_goals simp only[wgs,nil?]
 all_goals simp_all
theorem zi3(r:RowD)(t:wc)(hx:r.vals.length<=34359738368):Pure Tryz.prog 180 [.agg (jc r),.c (.fp (ja t))] (.c (.bool (zcv t r))):=by
 refine yaq [2] zez λG=>?_;repeat' first|refine X ?_|((first|apply Go.pcallB|apply Go.spcallB|apply Qg.pcallB);(iterate 3 exact rfl);exact jik t r.vals hx;intro _ _)|exact yaF|refine yaS ?_ ?_<;>intro _
 all_goals refine .ret rfl (.bool ?_)
 all_goals simp only[zcv]
 all_goals simp_all
theorem zhl(s:List wc)(x:Stmt)(hx:s.length<=34359738368)(hb:∀t∈s,wad 34359738368 t)(hq:zfb 34359738368 x):Pure Tryz.prog 80 [.c (.fz (s.map ja)),.agg (zg x)] (.c (.bool (zib s x))):=by
 refine yaq [3] jgf λG=>?_;obtain⟨q1,q2,q3,q4⟩:=hq;repeat' first|refine X ?_|fail
 refine .pcall rfl rfl rfl (jae s x.table hx) ?_;rcases zbn (p:=λu:wc=>u.name==x.table) (l:=s) (i:=0) (yaz _)with hi|⟨n,hn,hi,hp⟩
 ·have hno:zib s x=false:=by rw[zib,l7F,jbv hi];simp
  rw[hi];repeat' first|refine X ?_|((first|apply Go.pcallB|apply Go.spcallB|apply Qg.pcallB);(iterate 3 exact rfl);exact zcb s hx hb;intro _ _)|exact yaF|refine yaS ?_ ?_<;>intro _
  all_goals exact .ret rfl (.bool hno.symm)
 rw[Int.zero_add]at hi;have hyes:=za0 hi hn;have hnz:¬((n:Int)<0):=O;rw[hi];have hsat:zib s x=(wl s&&(isIn x.policy 0 4&&(wgs x&&(decide ((x.rows.length:Int)<=8)&&wc9 s[n] x)))):=by rw[zib,l7F,hyes]
 rw[hsat];clear hsat hyes hp hi;repeat' first|refine X ?_|((first|apply Go.pcallB|apply Go.spcallB|apply Qg.pcallB);(iterate 3 exact rfl);(first|exact zcb s hx hb|exact jem _ _ _|exact zjt x);intro _ _)|exact yaF|refine yaS ?_ ?_<;>intro _
 all_goals try(refine .ret rfl (.bool ?_);clear hb q1 q2 q3 q4;simp_all;done)
 all_goals try(refine .ret rfl (.bool ?_);rw[decide_eq_false (p:=(x.rows.length:Int)<=8) O];simp;done)
 rename_i c p k c2 p2 k2 c3 p3 k3 k4;have hs:=nbF p k;have hc:=zax hs _ (yaa hn);have hres:(wl s&&(isIn x.policy 0 4&&(wgs x&&(decide ((x.rows.length:Int)<=8)&&wc9 s[n] x))))=wc9 s[n] x:=by
  rw[hs,nbF p2 k2,nbF p3 k3,decide_eq_true O];simp
 rw[hres];clear hres p k p2 k2 p3 k3;repeat' first|refine X ?_|((first|apply yG|apply yH|apply yI);exact rfl;(first|exact yax ja rfl hn))|((first|apply Go.pcallB|apply Go.spcallB|apply Qg.pcallB);(iterate 3 exact rfl);(first|exact wi mixed zbg wab jc (λc=>.agg (jc c)) (λ_=>rfl) (λ_=>rfl) x.rows (λr=>zcv s[n] r) _ [] [.fp (ja s[n])] q2.1 (λj hj _=>zi3 _ _ (q2.2 _ (yaa hj)).1)|exact jf3 x.wher s[n].cols.length q3.1 O O|exact wix x.sets s[n].cols.length q4.1 q4.2 O O);intro _ _)|exact yaF|refine yaS ?_ ?_<;>intro _
 all_goals refine .ret rfl (.bool ?_)
 all_goals rw[wc9]
 all_goals clear hb q1 q2 q3 q4
 all_goals simp_all
theorem jjt(s:List wc)(x:Stmt)(hs:wl s=true)(hx:s.length<=34359738368)(hb:∀t∈s,wad 34359738368 t)(hq:zfb 34359738368 x):Pure Tryz.prog 66 [.c (.fz (s.map ja)),.agg (zg x)] (.c (.bool (l7F s x))):=by
 refine yaq [3] wge λG=>?_;obtain⟨q1,q2,q3,q4⟩:=hq;repeat' first|refine X ?_|fail
 refine .pcall rfl rfl rfl (zcq s x.table hx) ?_;rcases zbn (p:=λu:wc=>u.name==x.table) (l:=s) (i:=0) (yaz _)with hi|⟨n,hn,hi,hp⟩
 ·have hno:l7F s x=false:=by rw[l7F,jbv hi]
  rw[hi];repeat' first|refine X ?_|exact yaF|refine yaS ?_ ?_<;>intro _
  all_goals exact .ret rfl (.bool hno.symm)
 rw[Int.zero_add]at hi;have hyes:=za0 hi hn;have hnz:¬((n:Int)<0):=O;rw[hi];have hsat:l7F s x=(isIn x.policy 0 4&&(wgs x&&(decide ((x.rows.length:Int)<=8)&&wc9 s[n] x))):=by rw[l7F,hyes]
 rw[hsat];clear hsat hyes hp hi;repeat' first|refine X ?_|((first|apply Go.pcallB|apply Go.spcallB|apply Qg.pcallB);(iterate 3 exact rfl);exact zav _ _ _;intro _ _)|exact yaF|refine yaS ?_ ?_<;>intro _
 ·rename_i c p k;refine .ret rfl (.bool ?_);rw[nbT p k]
  rfl
 rename_i c p k;have hc:=zax hs _ (yaa hn);rw[nbF p k,yav];clear p k hs hb;repeat' first|refine X ?_|((first|apply yG|apply yH|apply yI);exact rfl;(first|exact yax ja rfl hn))|exact yaF|refine yaS ?_ ?_<;>intro _
 refine Go.keep [3,6,7,8] (Go.loops (I:=λm fr V=>∃i:Nat,∃k:Int,m=x.rows.length-i/\i<=x.rows.length/\k=i/\(∀j (hj:j<x.rows.length),j<i->(!zcv s[n] x.rows[j])=true)/\
  fr=[(3,.c (.fp (zg x))),(6,.c (.fp (ja s[n]))),(7,.c (.int .i64 (s[n].cols.length:Int))),(8,.c (.int .i64 k))]/\V=E G []) ?_ _ _ _ ⟨0,_,rfl,yac _,rfl,λj _ h=>absurd h O,rfl,rfl⟩)
 rintro m fr V ⟨i,k,rfl,hi2,hk,hall,rfl,rfl⟩ hrec;generalize s[n]=t at hc hall hrec⊢;clear hnz c;by_cases hlt:i<x.rows.length
 ·repeat' first|refine X ?_|((first|apply yG|apply yH|apply yI);exact rfl;(first|exact yax jc hk hlt))|((first|apply Go.pcallB|apply Go.spcallB|apply Qg.pcallB);(iterate 3 exact rfl);exact zb4 t x.rows[i].vals (q2.2 _ (yaa hlt)).1;intro _ _)|exact yaF|refine yaS ?_ ?_<;>intro _
  all_goals first
   |(have hbad:zcv t x.rows[i]=true:=(by rw[zcv];clear hrec hall;simp_all;done)
     refine .ret rfl (.bool ?_);rw[wc9,List.any_eq_true.2 ⟨x.rows[i],yaa hlt,hbad⟩];simp
     done)
   |(refine Go.keep [3,6,7,8] (hrec _ _ _ O ⟨i+1,_,rfl,hlt,wb hk O,upto (p:=λr:RowD=> !zcv t r) hall hlt ?_,rfl,rfl⟩)
     rw[zcv];clear hrec hall;simp_all
     done)
 have hrows:=wbh (p:=λr:RowD=> !zcv t r) (l:=x.rows) λj hj=>hall j hj O;have q5:=q2.1;clear hrec hall q2;simp only[Bool.not_not]at hrows;have hat:wc9 t x=(jbn x.wher t.cols.length&&zfw x.sets t.cols.length):=by rw[wc9,hrows];rfl
 rw[hat];clear hat hrows;have h0:(0:Int)<=t.cols.length:=O;have h1:(t.cols.length:Int)<=16:=O;have hw:=zks h0 h1;have hex:∀e:List Tok,e.length<=34359738368->Pure Tryz.prog 145 [.c (.fz (e.map zi)),.c (.int .i64 t.cols.length)] (.c (.bool (jao e t.cols.length))):=λe he=>je7 e _ he O O;clear hc;generalize (t.cols.length:Int)=N at*;repeat' first|refine X ?_|exact yaF|refine yaS ?_ ?_<;>intro _
 refine Go.keep [3,7,9] (Go.loops (I:=λm fr V=>∃i:Nat,∃k:Int,m=x.sets.length-i/\i<=x.sets.length/\k=i/\ja0 N [] x.sets=ja0 N (x.sets.take i) (x.sets.drop i)/\
  fr=[(3,.c (.fp (zg x))),(7,.c (.int .i64 N)),(9,.c (.int .i64 k))]/\V=E G []) ?_ _ _ _ ⟨0,_,rfl,yac _,rfl,rfl,rfl,rfl⟩)
 rintro m fr V ⟨i,k,rfl,hi,hk,hsl,rfl,rfl⟩ hrec;by_cases hlt:i<x.sets.length
 ·have hd:=yab hlt;have hstep:ja0 N [] x.sets=(jcs N x.sets[i]&& !((x.sets.take i).any λy=>y.col==x.sets[i].col)&&ja0 N (x.sets.take (i+1)) (x.sets.drop (i+1))):=by
   rw[hsl,hd,ja0,yaj hlt]
  repeat' first|refine X ?_|((first|apply yG|apply yH|apply yI);exact rfl;(first|exact yax ju hk hlt))|((first|apply Go.pcallB|apply Go.spcallB|apply Qg.pcallB);(iterate 3 exact rfl);(first|exact zav _ _ _|exact hex x.sets[i].expr (q4.2 _ (yaa hlt)).1);intro _ _)|exact yaF|refine yaS ?_ ?_<;>intro _
  all_goals try(refine .ret rfl (.bool ?_);rw[zfw,hstep,jcs,<-hw];clear hrec hsl hstep hex;simp_all;done)
  have hcol:jcs N x.sets[i]=true:=(by rw[jcs,<-hw];clear hrec hsl hstep hex;simp_all)
  refine Go.keep [3,7,9,10] (Go.loops (I:=λm fr V=>∃j:Nat,∃q:Int,m=i-j/\j<=i/\q=j/\(∀a (ha:a<x.sets.length),a<j->(x.sets[a].col==x.sets[i].col)=false)/\
   fr=[(3,.c (.fp (zg x))),(7,.c (.int .i64 N)),(9,.c (.int .i64 k)),(10,.c (.int .i64 q))]/\V=E G []) ?_ _ _ _ ⟨0,_,rfl,yac _,rfl,λj _ h=>absurd h O,rfl,rfl⟩)
  rintro m fr V ⟨j,q,rfl,hj,hq,hall,rfl,rfl⟩ hrec2;by_cases hlj:j<i
  ·have hjl:j<x.sets.length:=O;repeat' first|refine X ?_|((first|apply yG|apply yH|apply yI);exact rfl;(first|exact yax ju hq hjl|exact yax ju hk hlt))|exact yaF|refine yaS ?_ ?_<;>intro _
   ·rename_i he;have hany:((x.sets.take i).any λy=>y.col==x.sets[i].col)=true:=List.any_eq_true.2 ⟨x.sets[j],List.mem_take_iff_getElem.2 ⟨j,O,rfl⟩,by simpa using he⟩;refine .ret rfl (.bool ?_);rw[zfw,hstep,hany];simp
   ·rename_i he;refine Go.keep [3,7,9,10] (hrec2 _ _ _ O ⟨j+1,_,rfl,hlj,wb hq O,λa ha h=>?_,rfl,rfl⟩);by_cases hja:a=j
    ·subst hja;simpa using he
    ·exact hall a ha O
  ·have hany:((x.sets.take i).any λy=>y.col==x.sets[i].col)=false:=by
    rw[ybs];intro y hy;obtain⟨a,ha,rfl⟩:=List.mem_take_iff_getElem.1 hy;have:=hall a O O;simp[this]
   clear hrec2 hall;repeat' first|refine X ?_|exact yaF|refine yaS ?_ ?_<;>intro _
   refine Go.keep [3,7,9] (hrec _ _ _ O ⟨i+1,_,rfl,hlt,wb hk O, ?_,rfl,rfl⟩);rw[hstep,hcol,hany]
   rfl
 have hsets:zfw x.sets N=true:=by
  rw[zfw,hsl,yad O]
  rfl
 clear hrec hsl;rw[hsets];repeat' first|refine X ?_|((first|apply Go.pcallB|apply Go.spcallB|apply Qg.pcallB);(iterate 3 exact rfl);exact hex x.wher q3.1;intro _ _)|exact yaF|refine yaS ?_ ?_<;>intro _
 all_goals refine .ret rfl (.bool ?_)
 all_goals have hadd1:IntKind.i64.wrap ((x.wher.length:Int)+x.sets.length)=x.wher.length+x.sets.length:=zk O O
 all_goals have hadd2:IntKind.i64.wrap ((x.rows.length:Int)+x.sets.length)=x.rows.length+x.sets.length:=zk O O
 all_goals simp only[wgs,nil?,jbn,hadd1,hadd2]
 all_goals clear hadd1 hadd2 hsets hex hw q1 q3 q4 hx hn
 all_goals have p1:(0:Int)<=x.rows.length:=O
 all_goals have p2:(0:Int)<=x.wher.length:=O
 all_goals have p3:(0:Int)<=x.sets.length:=O
 all_goals generalize (x.rows.length:Int)=a at*
 all_goals generalize (x.wher.length:Int)=b at*
 all_goals generalize (x.sets.length:Int)=c at*
 all_goals rw[Bool.eq_iff_iff]
 all_goals simp_all
 all_goals omega
def wa1(t:wc)(old:List Val):List SetS->List Val->Option (List Val)
 |[],cur=>some cur
 |a::r,cur=>if((jaz a.expr old).2&&((jaz a.expr old).1.k==0||(jaz a.expr old).1.k==zc9 t a.col))=true then wa1 t old r (cur.set a.col.toNat (jaz a.expr old).1)else none
def insJ(s:List wc)(k:Nat)(x:Stmt)(vals:List Val)(db:List Data):Res:=((insF (chgF s 12) s k (if(x.policy==3)=true then jj (tabN s k) 0 vals else vals) (x.policy==3) db).1,(insF (chgF s 12) s k (if(x.policy==3)=true then jj (tabN s k) 0 vals else vals) (x.policy==3) db).2.2)
def rowJ(s:List wc)(k:Nat)(x:Stmt)(r:RowD)(db:List Data):Res:=if x.kind=3 then chgF s 13 (.del k r.id) db else match wa1 (tabN s k) r.vals x.sets r.vals with
 |none=>([],8)
 |some vals=>chgF s 13 (.upd k r.id vals (x.policy==3)) db
def idJ(s:List wc)(k:Nat)(x:Stmt)(id:Int)(db:List Data):Res:=match jai (jp db k) id with
 |none=>([],-1)
 |some r=>rowJ s k x r db
def wjt(s:List wc)(k:Nat)(x:Stmt)(db:List Data):List (List Data->Res):=if x.kind=1 then x.rows.map λr=>insJ s k x r.vals else(jv (jp db k) x.wher).1.map λid=>idJ s k x id
def ji3(x:Stmt)(c:Int):Bool:=x.policy==2&&isIn c 2 4
def za3(db0:List Data)(x:Stmt):List (List Data->Res)->List Data->Int->Ins
 |[],now,m=>(now,0,m)
 |j::r,now,m=>if(j now).2=0 then za3 db0 x r (j now).1 (m+1)else if(j now).2=-1\/ji3 x (j now).2=true then za3 db0 x r now m else if x.policy=1/\¬(j now).2=5 then(now,(j now).2,m)else(db0,(j now).2,0)
def wfj(s:List wc)(k:Nat)(x:Stmt)(db:List Data):Ins:=if(jv (jp db k) x.wher).2=true then za3 db x (wjt s k x db) db 0 else(db,8,0)
structure StG(t:wc)(x:Stmt):Prop where
 kind:x.kind=1\/x.kind=2\/x.kind=3
 ins:x.kind=1->x.wher=[]
 rows:x.rows.length<=8/\∀r∈x.rows,fitF t r.vals=true
 wher:x.wher.length<=24/\(0<x.wher.length->jao x.wher t.cols.length=true)
 sets:x.sets.length<=34359738368/\∀a∈x.sets,jcs t.cols.length a=true
theorem zfk{n:Int}:∀{l pre:List SetS},ja0 n pre l=true->∀a∈l,jcs n a=true
 |[],_,_,a,h=>by cases h
 |y::r,pre,h,a,ha=>by
  simp only[ja0,Bool.and_eq_true]at h;rcases List.mem_cons.1 ha with rfl|ha
  ·exact h.1.1
  ·exact zfk h.2 a ha
theorem wkh{α:Type}{l:List α}:nil? l=true↔l=[]:=by
 rw[nil?,beq_iff_eq];constructor
 ·intro h;exact yan O
 ·intro h;rw[h]
  rfl
variable {x:Stmt}
theorem jhl(hq:zfb 34359738368 x)(h:l7F s x=true):∃k,∃hk:k<s.length,idxA (λu:wc=>u.name==x.table) s 0=(k:Int)/\StG s[k] x:=by
 rw[l7F]at h;rcases zc0 (λu:wc=>u.name==x.table) s 0 with⟨h1,_⟩|⟨k,hk,h1,_⟩
 ·rw[jbv h1]at h
  cases h
 ·have h2:idxA (λu:wc=>u.name==x.table) s 0=(k:Int):=by rw[h1];omega
  rw[za0 h2 hk]at h;simp only[Bool.and_eq_true,decide_eq_true_eq]at h;obtain⟨h3,h4,h5,h6⟩:=h;rw[wc9,yau,yau,Bool.not_eq_true']at h6;obtain⟨h7,h8,h9⟩:=h6;have hw:x.wher=[]\/jao x.wher s[k].cols.length=true:=by
   rw[jbn,Bool.or_eq_true,beq_iff_eq]at h8;rcases h8 with h8|h8
   ·exact .inl (yan O)
   ·exact .inr h8
  refine⟨k,hk,h2, ?_, ?_,⟨O,λr hr=>?_⟩, ?_, ?_⟩
  ·rw[wgs]at h4;split at h4
   ·rename_i h;exact .inl h
   ·split at h4
    ·rename_i h;exact .inr (.inl h)
    ·rw[yau,decide_eq_true_eq]at h4;exact .inr (.inr h4.1)
  ·intro h1;rw[wgs,if_pos h1,yau]at h4;exact wkh.1 h4.1
  ·rw[ybs]at h7;have:=h7 r hr;rw[zcv]at this;simp only[Bool.or_eq_true,Bool.not_eq_true',not_or,Bool.not_eq_false]at this;exact this.2
  ·rcases hw with hw|hw
   ·rw[hw];exact⟨Nat.zero_le _,λh=>by simp at h⟩
   ·exact⟨by have:=(wbb hw).1;omega,λ_=>hw⟩
  ·exact⟨hq.2.2.2.1,zfk h9⟩
theorem zf8{row:List Val}(hr:Oks row){n:Int}:∀{e:List Tok} {a:Int} {st q:List Val},wy n a e=true->Oks st->wfv row e st=some q->Oks q
 |[],a,st,q,_,hs,h=>by injection h with h;subst h;exact hs
 |t::e,a,st,q,hx,hs,h=>by
  obtain⟨h1,h2,h3⟩:=jcr hx;rw[wfv]at h;split at h
  ·rename_i hk;exact zf8 hr h3 ((hs.take _).snoc (ze9 (λh2=>jdf h1 h2) (hs.drop _) hr hk)) h
  ·cases h
theorem zin{e:List Tok}{row:List Val}(hr:Oks row)(he:jao e row.length=true)(h:(jaz e row).2=true):zr (jaz e row).1=true:=by
 obtain⟨_,he⟩:=wbb he;rw[jaz]at h⊢;split at h
 ·rename_i v r hq;exact zf8 hr he (λv hv=>by simp at hv) hq v gx
 ·cases h
def jk8:Option (List Val)->AV
 |none=>.tup [.c .nils,.c (.bool false)]
 |some vals=>.tup [.c (.fz (vals.map encV)),.c (.bool true)]
theorem zgt:FrzV V n (.tup [.c .nils,.c (.bool false)]) (jk8 none):=by
 refine .tup rfl λj hj=>?_;have hj2:j<2:=hj;have hj3:j=0\/j=1:=O;rcases hj3 with rfl|rfl
 ·exact .c (.same _ .nils)
 ·exact .c (.same _ (.bool _))
theorem jib(t:wc)(old:List Val)(sets:List SetS)(hl:old.length=t.cols.length)(h0:old≠[])(hv:zq old 16=true)(hs:sets.length<=34359738368)(ha:∀a∈sets,jcs t.cols.length a=true):
 Pure Tryz.prog 258 [.agg (ja t),.c (.fz (old.map encV)),.c (.fz (sets.map ju))] (jk8 (wa1 t old sets old)):=by
 refine yaq [3] je1 λG=>?_;obtain⟨hv16,hvo⟩:=wd.1 hv;have cm:=(jcc old (yai hv16 gb)).at0 G;repeat' first|refine X ?_|exact yaF|refine yaS ?_ ?_<;>intro _
 refine .call _ rfl rfl rfl cm ?_;rintro q V9 ⟨v,junk,hj,hq,ht⟩;rw[hq,ht];clear hq ht cm;repeat' first|refine X ?_|exact yaF|refine yaS ?_ ?_<;>intro _
 refine Go.keep [1,2,3,8,9] (Go.loops (I:=λm fr V=>∃(i:Nat) (k:Int) (cur:List Val),m=sets.length-i/\i<=sets.length/\k=i/\(cur.length=old.length/\wa1 t old sets old=wa1 t old (sets.drop i) cur)/\
  fr=[(1,.c (.fz (old.map encV))),(2,.c (.fz (sets.map ju))),(3,.c (.fp (ja t))),(8,.c (vec (G.next+0) v (old.map encV) junk)),(9,.c (.int .i64 k))]/\V=E G [(v,cur.map encV++junk)]) ?_ _ _ _ ⟨0,_,old,rfl,yac _,rfl,⟨rfl,rfl⟩,rfl,rfl⟩)
 rintro m fr V ⟨i,k,cur,rfl,hi,hk,⟨hcl,hst⟩,rfl,rfl⟩ hrec;by_cases hlt:i<sets.length
 ·have hsa:=ha _ (yaa hlt);rw[jcs,yau]at hsa;obtain⟨hcol,hex⟩:=hsa;obtain⟨q1,q2⟩:=zjk hcol;rw[<-hl]at hex;obtain⟨he1,he2⟩:=wbb hex;have hcc:sets[i].col=(sets[i].col.toNat:Int):=O;have hct:sets[i].col.toNat<t.cols.length:=O;have hcv:sets[i].col.toNat<cur.length:=O;have hcm:sets[i].col.toNat<(old.map encV).length:=by rw[yae];omega
  have hkd:zc9 t sets[i].col=t.cols[sets[i].col.toNat].kind:=zbc hcc hct;have c1:=wfa sets[i].expr old O hv16 hvo he2;rw[yab hlt,wa1,hkd]at hst;generalize jaz sets[i].expr old=ev at c1 hst;obtain⟨w,b⟩:=ev;simp only at c1 hst
  cases b
  ·rw[ybg,if_neg yah]at hst;rw[hst];repeat' first|refine X ?_|((first|apply yG|apply yH|apply yI);exact rfl;(first|exact yax ju hk hlt|exact yax jf hcc hct))|refine yaC (c1) ?_|exact yaF|refine yaS ?_ ?_<;>intro _
   all_goals first
    |exact .ret rfl ⟨_,rfl,zgt⟩
    |(exfalso;simp_all;done)
  ·rw[yav]at hst;have hgo:wa1 t old sets old=wa1 t old (sets.drop (i+1)) (cur.set sets[i].col.toNat w)->∃(j:Nat) (kj:Int) (cur':List Val),sets.length-(i+1)=sets.length-j/\j<=sets.length/\kj=j/\(cur'.length=old.length/\wa1 t old sets old=wa1 t old (sets.drop j) cur')/\[(1,AV.c (.fz (old.map encV))),(2,.c (.fz (sets.map ju))),(3,.c (.fp (ja t))),(8,.c (vec (G.next+0) v (old.map encV) junk)),(9,.c (.int .i64 (IntKind.i64.wrap (k+1))))]=[(1,AV.c (.fz (old.map encV))),(2,.c (.fz (sets.map ju))),(3,.c (.fp (ja t))),(8,.c (vec (G.next+0) v (old.map encV) junk)),(9,.c (.int .i64 kj))]/\E G [(v,(cur.map encV++junk).set (0+sets[i].col.toNat) (jh (encV cur[sets[i].col.toNat]) 0 (encV w)))]=E G [(v,cur'.map encV++junk)]:=λh=>⟨i+1,_,_,rfl,hlt,wb hk O,⟨by rw[yasq];exact hcl,h⟩,rfl,congrArg (E G) (congrArg (λz=>[(v,z)]) (zcd hcv _ w))⟩;by_cases h0:w.k=0
   ·rw[beq_iff_eq.2 h0,Bool.true_or,if_pos rfl]at hst;repeat' first|refine X ?_|((first|apply yG|apply yH|apply yI);exact rfl;(first|exact yax ju hk hlt|exact yax jf hcc hct|exact jaa (k:=0) rfl rfl hcc hcm rfl (jas hcv) rfl|exact zl (k:=0) rfl rfl rfl rfl (jas hcv) rfl gz))|refine yaC (c1) ?_|exact yaF|refine yaS ?_ ?_<;>intro _
    all_goals first
     |exact Go.keep [1,2,3,8,9] (hrec _ _ _ O (hgo hst))
     |(exfalso;simp_all;done)
   ·by_cases h1:w.k=t.cols[sets[i].col.toNat].kind
    ·rw[beq_iff_eq.2 h1,Bool.or_true,if_pos rfl]at hst;repeat' first|refine X ?_|((first|apply yG|apply yH|apply yI);exact rfl;(first|exact yax ju hk hlt|exact yax jf hcc hct|exact jaa (k:=0) rfl rfl hcc hcm rfl (jas hcv) rfl|exact zl (k:=0) rfl rfl rfl rfl (jas hcv) rfl gz))|refine yaC (c1) ?_|exact yaF|refine yaS ?_ ?_<;>intro _
     all_goals first
      |exact Go.keep [1,2,3,8,9] (hrec _ _ _ O (hgo hst))
      |(exfalso;simp_all;done)
    ·rw[beq_eq_false_iff_ne.2 h0,beq_eq_false_iff_ne.2 h1,if_neg gx]at hst;rw[hst];repeat' first|refine X ?_|((first|apply yG|apply yH|apply yI);exact rfl;(first|exact yax ju hk hlt|exact yax jf hcc hct|exact jaa (k:=0) rfl rfl hcc hcm rfl (jas hcv) rfl|exact zl (k:=0) rfl rfl rfl rfl (jas hcv) rfl gz))|refine yaC (c1) ?_|exact yaF|refine yaS ?_ ?_<;>intro _
     all_goals first
      |exact .ret rfl ⟨_,rfl,zgt⟩
      |(exfalso;simp_all;done)
 ·clear hrec;rw[yad O,wa1]at hst;rw[hst];repeat' first|refine X ?_|exact yaF|refine yaS ?_ ?_<;>intro _
  refine .ret rfl ⟨_,rfl, ?_⟩;have hvv:vec (G.next+0) v (old.map encV) junk=vec (G.next+0) v (cur.map encV) junk:=by rw[vec,vec,yae,yae,hcl]
  rw[hvv];refine .tup rfl λj hj=>?_;have hj2:j<2:=hj;have hj3:j=0\/j=1:=O;rcases hj3 with rfl|rfl
  ·exact wav (k:=0) rfl (λe he x hx=>((jb5 e he).2 x hx).old _) (yaf _)
  ·exact .c (.same _ (.bool _))
theorem jcv{t:wc}{old:List Val}:∀{sets:List SetS} {cur vals:List Val},wa1 t old sets cur=some vals->vals.length=cur.length
 |[],cur,vals,h=>by injection h with h;rw[<-h]
 |a::r,cur,vals,h=>by
  rw[wa1]at h;split at h
  ·have:=jcv h;rwa [yasq]at this
  ·cases h
theorem wcv{t:wc}{old:List Val}(ho:Oks old){n:Int}(hn:(old.length:Int)=n):∀{sets:List SetS} {cur vals:List Val},(∀a∈sets,jcs n a=true)->(∀v∈cur,zr v=true)->wa1 t old sets cur=some vals->∀v∈vals,zr v=true
 |[],cur,vals,_,hc,h=>by injection h with h;rw[<-h];exact hc
 |a::r,cur,vals,ha,hc,h=>by
  rw[wa1]at h;split at h
  ·rename_i hk;rw[yau]at hk;have hs:=ha a gx;rw[jcs,yau,<-hn]at hs;have hw:=zin ho hs.2 hk.1;refine wcv ho hn (λa ha2=>ha a (by simp[ha2])) (λv hv=>?_) h;rcases ybm hv with hv|rfl
   ·exact hc v hv
   ·exact hw
  ·cases h
theorem wib(hs:SchG s){k:Nat}(hk:k<s.length)(x:Stmt)(hx:x.kind=1)(id:Int)(vals:List Val)(hf:fitF s[k] vals=true)(db:List Data)(h:DbG BI s db):
 Pure Tryz.prog 163 [.c (.fz (s.map ja)),.c (.fz (db.map wa)),.c (.int .i64 (k:Int)),.agg (zg x),.c (.int .i64 id),.c (.fz (vals.map encV))] (resV (insJ s k x vals db)):=by
 refine yas jcm λG=>?_;have hva:=za9 hf (hs.tab _ (yaa hk)).cols8;have hdn:=jfj h hk;have c1:=jec hs hk vals (x.policy==3) db rfl hdn (j6 hf).1 hva;rw[insJ,zn hk];generalize insF (chgF s 12) s k (if(x.policy==3)=true then jj s[k] 0 vals else vals) (x.policy==3) db=q at c1⊢;obtain⟨qd,qi,qc⟩:=q;rw[resI]at c1;simp only at c1;have hr:resV (qd,qc)=.tup [.c (if qc=0 then .fz (qd.map wa)else .nils),.c (.int .i64 qc)]:=rfl;generalize hz:(if qc=0 then Ce.fz (qd.map wa)else .nils)=z at c1 hr;have hx1:(x.kind==1)=true:=beq_iff_eq.2 hx;repeat' first|refine X ?_|refine yaC (c1) ?_|exact yaF|refine yaS ?_ ?_<;>intro _
 all_goals first
  |contradiction
  |exact .ret rfl (Fin.same hr.symm (jg _ _))
theorem zic(hs:SchG s){k:Nat}(hk:k<s.length)(x:Stmt)(hG:StG s[k] x)(hx:¬x.kind=1)(id:Int)(vals:List Val)(db:List Data)(h:DbG BI s db){r:RowD}(hr:jai (jp db k) id=some r):
 Pure Tryz.prog 163 [.c (.fz (s.map ja)),.c (.fz (db.map wa)),.c (.int .i64 (k:Int)),.agg (zg x),.c (.int .i64 id),.c (.fz (vals.map encV))] (resV (rowJ s k x r db)):=by
 refine yas jcm λG=>?_;have hk2:k<db.length:=by rw[h.len];exact hk
 have hR:=h.rows k hk hk2;have hrun:=wia (I:=BI) hs 13 0 gb rfl;have hid:r.id=id:=(zz hr).2;rw[rowJ];by_cases h3:x.kind=3
 ·rw[if_pos h3,hid];have c1:=hrun.del k id db r h hk hr;generalize chgF s 13 (.del k id) db=q at c1⊢;have hq:resV q=.tup [.c (if q.2=0 then .fz (q.1.map wa)else .nils),.c (.int .i64 q.2)]:=rfl;rw[hq]at c1;generalize (if q.2=0 then Ce.fz (q.1.map wa)else .nils)=z at c1 hq;repeat' first|refine X ?_|refine yaC (c1) ?_|exact yaF|refine yaS ?_ ?_<;>intro _
  all_goals first
   |contradiction
   |(exfalso;omega)
   |exact .ret rfl (Fin.same hq.symm (jg _ _))
 ·rw[if_neg h3];rw[we hk2]at hr;rcases zj db[k].rows id with⟨_,hx2⟩|⟨j,hj,hx1,hx2⟩
  ·rw[hx2]at hr
   cases hr
  ·rw[hx2]at hr;injection hr with hr;subst hr;have c2:=wac db[k] id (yai hR.len gb);rw[hx1]at c2;obtain⟨hfl,hfv⟩:=hR.fit _ (yaa hj);have ht:=hs.tab _ (yaa hk);have hne:db[k].rows[j].vals≠[]:=λe=>by
    rw[e]at hfl;have:=ht.cols0;simp at hfl;omega
   have c3:=jib s[k] db[k].rows[j].vals x.sets hfl hne hfv hG.sets.1 hG.sets.2;rw[zn hk,hid]
   cases hvf:wa1 s[k] db[k].rows[j].vals x.sets db[k].rows[j].vals with
   |none=>
    rw[hvf]at c3;have c3:Pure _ _ _ (.tup [.c .nils,.c (.bool false)]):=c3;repeat' first|refine X ?_|((first|apply yG|apply yH|apply yI);exact rfl;(first|exact yax ja rfl hk|exact yax wa rfl hk2|exact yax jc rfl hj))|refine yaC (c2) ?_|refine yaC (c3) ?_|exact yaF|refine yaS ?_ ?_<;>intro _
    all_goals first
     |contradiction
     |(exfalso;omega)
     |exact .ret rfl (Fin.same rfl (jg ([],8) _))
   |some nv=>
    rw[hvf]at c3;have c3:Pure _ _ _ (.tup [.c (.fz (nv.map encV)),.c (.bool true)]):=c3;have hl2:nv.length=s[k].cols.length:=(jcv hvf).trans hfl;have hok2:zq nv 16=true:=wd.2 ⟨by rw[hl2,<-hfl];exact(wd.1 hfv).1,wcv (wd.1 hfv).2 (n:=s[k].cols.length) (by rw[hfl]) hG.sets.2 (wd.1 hfv).2 hvf⟩;have c4:=hrun.upd k id nv (x.policy==3) db h ⟨hk,hl2,hok2⟩;show Go _ _ _ _ (Fin G (resV (chgF s 13 (.upd k id nv (x.policy==3)) db))) _ _ _;generalize chgF s 13 (.upd k id nv (x.policy==3)) db=q at c4⊢;have hq:resV q=.tup [.c (if q.2=0 then .fz (q.1.map wa)else .nils),.c (.int .i64 q.2)]:=rfl;rw[hq]at c4;generalize (if q.2=0 then Ce.fz (q.1.map wa)else .nils)=z at c4 hq;repeat' first|refine X ?_|((first|apply yG|apply yH|apply yI);exact rfl;(first|exact yax ja rfl hk|exact yax wa rfl hk2|exact yax jc rfl hj))|refine yaC (c2) ?_|refine yaC (c3) ?_|refine yaC (c4) ?_|exact yaF|refine yaS ?_ ?_<;>intro _
    all_goals first
     |contradiction
     |(exfalso;omega)
     |exact .ret rfl (Fin.same hq.symm (jg _ _))
theorem jfk(hs:SchG s){k:Nat}(hk:k<s.length){x:Stmt}{vals:List Val}(hf:fitF s[k] vals=true){db:List Data}(h:DbG BI s db)(h0:(insJ s k x vals db).2=0):DbG BI s (insJ s k x vals db).1:=by
 have hva:=za9 hf (hs.tab _ (yaa hk)).cols8;have:=wjs hs hk (rep:=x.policy==3) (zf5 hs hk (j6 hf).1 hva (x.policy==3)) (jfj h hk);rw[insJ,zn hk]at h0⊢;exact this h0
theorem jgt(hs:SchG s){k:Nat}(hk:k<s.length){x:Stmt}(hG:StG s[k] x){r:RowD}{db:List Data}(h:DbG BI s db)(hr:r∈jp db k)(h0:(rowJ s k x r db).2=0):DbG BI s (rowJ s k x r db).1:=by
 obtain⟨hfl,hfv⟩:=(h.at hk).fit r hr;have hkp:=ja7 (I:=BI) hs 13;revert h0;rw[rowJ];split
 ·exact hkp (.del k r.id) db h hk
 ·rw[zn hk]
  cases hvf:wa1 s[k] r.vals x.sets r.vals with
  |none=>exactλh=>by cases h
  |some nv=>
   have hl2:nv.length=s[k].cols.length:=(jcv hvf).trans hfl;have hok2:zq nv 16=true:=wd.2 ⟨by rw[hl2,<-hfl];exact(wd.1 hfv).1,wcv (wd.1 hfv).2 (n:=s[k].cols.length) (by rw[hfl]) hG.sets.2 (wd.1 hfv).2 hvf⟩;exact hkp (.upd k r.id nv (x.policy==3)) db h ⟨hk,hl2,hok2⟩
theorem wkt(hs:SchG s){k:Nat}(hk:k<s.length){x:Stmt}(hG:StG s[k] x){id:Int}{db:List Data}(h:DbG BI s db)(h0:(idJ s k x id db).2=0):DbG BI s (idJ s k x id db).1:=by
 revert h0;rw[idJ]
 cases hb:jai (jp db k) id with
 |none=>exactλh=>by cases h
 |some r=>exact jgt hs hk hG h (zz hb).1
def Cod(run:Chg->List Data->Res):Prop:=∀op db,0<=(run op db).2
section
variable {run:Chg->List Data->Res}
theorem zcw(hr:Cod run){n:Nat}:∀(l:List Int) (db:List Data),0<=(w6 run n l db).2
 |[],_=>yaz _
 |id::l,db=>by
  rw[w6];split
  ·exact zcw hr l db
  ·split
   ·exact zcw hr l _
   ·exact hr _ _
theorem jf8(hr:Cod run){t:wc}{n:Nat}{x:RowD}{rep:Bool}{db:List Data}:0<=(j9 run t n x rep db).2:=by
 rw[j9];split
 ·exact(by decide:(0:Int)<=4)
 ·exact zcw hr _ _
theorem zki(hr:Cod run){n:Nat}{y:Way}{wth:List Val}{gone:Bool}{x:RowD}{db:List Data}:0<=(oneF run n y wth gone x db).2:=by
 rw[oneF];split
 ·split
  ·exact yaz _
  ·exact(by decide:(0:Int)<=5)
 ·split
  ·exact hr _ _
  ·exact hr _ _
theorem zce(hr:Cod run){n:Nat}{y:Way}{key wth:List Val}{gone:Bool}:∀(l:List Int) (db:List Data),0<=(zac run n y key wth gone l db).2
 |[],_=>yaz _
 |id::l,db=>by
  rw[zac]
  cases jai (jp db n) id with
  |none=>exact zce hr l db
  |some x=>
   simp only;split
   ·split
    ·exact zce hr l _
    ·exact zki hr
   ·exact zce hr l db
theorem wd4(hr:Cod run){name:List UInt8}{i:Nat}{key wth:List Val}{gone:Bool}:∀(l:List Fk) (db:List Data),0<=(wa4 run name i key wth gone l db).2
 |[],_=>yaz _
 |f::l,db=>by
  rw[wa4];split
  ·split
   ·exact wd4 hr l _
   ·exact zce hr _ _
  ·exact wd4 hr l db
theorem jcw(hr:Cod run){name:List UInt8}{key wth:List Val}{gone:Bool}:∀(i:Nat) (l:List wc) (db:List Data),0<=(zah run name key wth gone i l db).2
 |_,[],_=>yaz _
 |i,t::l,db=>by
  rw[zah];split
  ·exact jcw hr _ l _
  ·exact wd4 hr _ _
theorem whl:0<=wb4 t vals:=by
 rw[wb4];split
 ·decide
 ·split<;>decide
theorem zju{id:Int}:0<=(za7 s n id db).2:=by
 rw[za7]
 cases jai (jp db n) id with
 |none=>exact yaz _
 |some y=>
  simp only;split
  ·exact(by decide:(0:Int)<=5)
  ·exact yaz _
theorem jki(hr:Cod run){s:List wc}{n:Nat}{id:Int}{vals:List Val}{rep:Bool}{db:List Data}:0<=(updF run s n id vals rep db).2:=by
 rw[updF];split
 ·rw[upd1];split
  ·cases jai (jp (j9 run (tabN s n) n ⟨id,vals⟩ rep db).1 n) id with
   |none=>exact(by decide:(0:Int)<=9)
   |some old=>
    simp only[upd3];split
    ·exact zju
    ·rw[upd2];split
     ·exact yaz _
     ·exact jcw hr _ _ _
  ·exact jf8 hr
 ·exact whl
end
theorem jdt{s:List wc}:∀k,Cod (chgF s k)
 |0,op,db=>by rw[chgF];exact(by decide:(0:Int)<=6)
 |k+1,.del n id,db=>by
  rw[chgF]
  cases jai (jp db n) id with
  |none=>exact(by decide:(0:Int)<=9)
  |some x=>exact jcw (jdt k) _ _ _
 |k+1,.upd n id vals rep,db=>by
  rw[chgF];exact jki (jdt k)
theorem zeq{rep:Bool}:0<=(insF (chgF s 12) s k vals rep db).2.2:=by
 rw[insF];split
 ·rw[insC];split
  ·rw[insD];split
   ·exact(by decide:(0:Int)<=7)
   ·rw[insE];split
    ·exact(by decide:(0:Int)<=5)
    ·exact yaz _
  ·exact jf8 (jdt 12)
 ·exact whl
theorem wki{r:RowD}:0<=(rowJ s k x r db).2:=by
 rw[rowJ];split
 ·exact jdt 13 _ _
 ·cases wa1 (tabN s k) r.vals x.sets r.vals with
  |none=>exact(by decide:(0:Int)<=8)
  |some nv=>exact jdt 13 _ _
def insV(q:Ins):AV:=.tup [.c (.fz (q.1.map wa)),.c (.int .i64 q.2.1),.c (.int .i64 q.2.2)]
theorem wb5{l:List RowD}{w:List Tok}:(jv l w).1.length<=l.length:=by
 have key:∀(l:List RowD) (acc ids:List Int),waa w l acc=some ids->ids.length<=acc.length+l.length:=by
  intro l
  induction l with
  |nil=>intro acc ids h;injection h with h;rw[<-h];simp
  |cons r l ih=>
   intro acc ids h;rw[waa]at h;split at h
   ·cases h
   ·have:=ih _ _ h;split at this
    ·simp at this⊢;omega
    ·simp at this⊢;omega
 rw[jv]
 cases h:waa w l []with
 |none=>simp
 |some ids=>simpa using key l [] ids h
set_option maxHeartbeats 1000000 in
theorem wf8(t:wc)(x:Stmt)(old:List Val)(hl:old.length=t.cols.length)(h0:old≠[])(hv:zq old 16=true)(hs:x.sets.length<=34359738368)(ha:∀a∈x.sets,jcs t.cols.length a=true):
 Pure Tryz.prog 282 [.agg (zg x),.agg (ja t),.c (.fz (old.map encV))] (jk8 (wa1 t old x.sets old)):=by
 refine yaq [3,4] je2 λG=>?_;obtain⟨hv16,hvo⟩:=wd.1 hv;have cm:=jah old h0 (yai hv16 gb) (E G []);repeat' first|refine X ?_|exact yaF|refine yaS ?_ ?_<;>intro _
 refine .call _ rfl rfl rfl cm ?_;rintro q V9 ⟨v,junk,hj,hq,ht⟩;rw[hq,ht,E_E];clear hq ht cm;repeat' first|refine X ?_|exact yaF|refine yaS ?_ ?_<;>intro _
 refine Go.keep [2,3,4,8,16,17,18] (Go.loops (I:=λm fr V=>∃(i:Nat) (k:Int) (cur:List Val),m=x.sets.length-i/\i<=x.sets.length/\k=i/\(cur.length=old.length/\wa1 t old x.sets old=wa1 t old (x.sets.drop i) cur)/\
  fr=[(2,.c (.fz (old.map encV))),(3,.c (.fp (zg x))),(4,.c (.fp (ja t))),(8,.c (vec (G.next+0) v (old.map encV) junk)),(16,.c (.fz (x.sets.map ju))),(17,.c (.int .i64 (x.sets.length:Int))),(18,.c (.int .i64 k))]/\V=E G [(v,cur.map encV++junk)]) ?_ _ _ _ ⟨0,_,old,rfl,yac _,rfl,⟨rfl,rfl⟩,rfl,rfl⟩)
 rintro m fr V ⟨i,k,cur,rfl,hi,hk,⟨hcl,hst⟩,rfl,rfl⟩ hrec;by_cases hlt:i<x.sets.length
 ·have hsa:=ha _ (yaa hlt);rw[jcs,yau]at hsa;obtain⟨hcol,hex⟩:=hsa;obtain⟨q1,q2⟩:=zjk hcol;rw[<-hl]at hex;obtain⟨he1,he2⟩:=wbb hex;have hcc:x.sets[i].col=(x.sets[i].col.toNat:Int):=O;have hct:x.sets[i].col.toNat<t.cols.length:=O;have hcv:x.sets[i].col.toNat<cur.length:=O;have hcm:x.sets[i].col.toNat<(old.map encV).length:=by rw[yae];omega
  have hkd:zc9 t x.sets[i].col=t.cols[x.sets[i].col.toNat].kind:=zbc hcc hct;have c1:=wh3 x.sets[i].expr old O (yai hv16 gb);rw[wem,jc8,hv,hex,yav,if_pos rfl]at c1;have hwo:=zin hvo hex;rw[yab hlt,wa1,hkd]at hst;generalize jaz x.sets[i].expr old=ev at c1 hst hwo;obtain⟨w,b⟩:=ev;simp only at c1 hst hwo;have c2:=wh0 w t.cols[x.sets[i].col.toNat].kind
  cases b
  ·rw[ybg,if_neg yah]at hst;rw[hst];repeat' first|refine X ?_|((first|apply yG|apply yH|apply yI);exact rfl;(first|exact yax ju hk hlt|exact yax jf hcc hct))|refine yaC (c1) ?_|refine yaC (c2) ?_|exact yaF|refine yaS ?_ ?_<;>intro _
   all_goals first
    |exact .ret rfl ⟨_,rfl,zgt⟩
    |(exfalso;simp_all;done)
  ·rw[ze8,hwo rfl,yav]at c2;rw[yav]at hst;have hgo:wa1 t old x.sets old=wa1 t old (x.sets.drop (i+1)) (cur.set x.sets[i].col.toNat w)->∃(j:Nat) (kj:Int) (cur':List Val),x.sets.length-(i+1)=x.sets.length-j/\j<=x.sets.length/\kj=j/\(cur'.length=old.length/\wa1 t old x.sets old=wa1 t old (x.sets.drop j) cur')/\[(2,AV.c (.fz (old.map encV))),(3,.c (.fp (zg x))),(4,.c (.fp (ja t))),(8,.c (vec (G.next+0) v (old.map encV) junk)),(16,.c (.fz (x.sets.map ju))),(17,.c (.int .i64 (x.sets.length:Int))),(18,.c (.int .i64 (IntKind.i64.wrap (k+1))))]=[(2,AV.c (.fz (old.map encV))),(3,.c (.fp (zg x))),(4,.c (.fp (ja t))),(8,.c (vec (G.next+0) v (old.map encV) junk)),(16,.c (.fz (x.sets.map ju))),(17,.c (.int .i64 (x.sets.length:Int))),(18,.c (.int .i64 kj))]/\E G [(v,(cur.map encV++junk).set (0+x.sets[i].col.toNat) (jh (encV cur[x.sets[i].col.toNat]) 0 (encV w)))]=E G [(v,cur'.map encV++junk)]:=λh=>⟨i+1,_,_,rfl,hlt,wb hk O,⟨by rw[yasq];exact hcl,h⟩,rfl,congrArg (E G) (congrArg (λz=>[(v,z)]) (zcd hcv _ w))⟩;generalize hbb:(w.k==0||w.k==t.cols[x.sets[i].col.toNat].kind)=bb at c2 hst
   cases bb
   ·rw[if_neg yah]at hst;rw[hst];repeat' first|refine X ?_|((first|apply yG|apply yH|apply yI);exact rfl;(first|exact yax ju hk hlt|exact yax jf hcc hct))|refine yaC (c1) ?_|refine yaC (c2) ?_|exact yaF|refine yaS ?_ ?_<;>intro _
    all_goals first
     |exact .ret rfl ⟨_,rfl,zgt⟩
     |(exfalso;simp_all;done)
   ·rw[if_pos rfl]at hst;repeat' first|refine X ?_|((first|apply yG|apply yH|apply yI);exact rfl;(first|exact yax ju hk hlt|exact yax jf hcc hct|exact jaa (k:=0) rfl rfl hcc hcm rfl (jas hcv) rfl|exact zl (k:=0) rfl rfl rfl rfl (jas hcv) rfl gz))|refine yaC (c1) ?_|refine yaC (c2) ?_|exact yaF|refine yaS ?_ ?_<;>intro _
    all_goals first
     |exact Go.keep [2,3,4,8,16,17,18] (hrec _ _ _ O (hgo hst))
     |(exfalso;simp_all;done)
 ·clear hrec;rw[yad O,wa1]at hst;rw[hst];repeat' first|refine X ?_|exact yaF|refine yaS ?_ ?_<;>intro _
  refine .ret rfl ⟨_,rfl, ?_⟩;have hvv:vec (G.next+0) v (old.map encV) junk=vec (G.next+0) v (cur.map encV) junk:=by rw[vec,vec,yae,yae,hcl]
  rw[hvv];refine .tup rfl λj hj=>?_;have hj2:j<2:=hj;have hj3:j=0\/j=1:=O;rcases hj3 with rfl|rfl
  ·exact wav (k:=0) rfl (λe he x hx=>((jb5 e he).2 x hx).old _) (yaf _)
  ·exact .c (.same _ (.bool _))
theorem zd5(a b c d:AV):Pure Tryz.prog 129 [a,b,c,d] (.c (.int .i64 0)):=by
 refine yaq [] jfo λG=>?_;repeat' first|refine X ?_|exact yaF|refine yaS ?_ ?_<;>intro _
 exact .ret rfl (.int rfl)
theorem zhm(x:Stmt)(c:Int):Pure Tryz.prog 187 [.agg (zg x),.c (.int .i64 c)] (.c (.bool (ji3 x c))):=by
 refine yaq [2] wdl λG=>?_;rw[ji3];by_cases hp:x.policy=2
 ·rw[beq_iff_eq.2 hp,yav];by_cases h2:c=2
  ·subst h2;repeat' first|refine X ?_|exact yaF|refine yaS ?_ ?_<;>intro _
   all_goals first
    |contradiction
    |exact .ret rfl (.bool rfl)
  ·by_cases h3:c=3
   ·subst h3;repeat' first|refine X ?_|exact yaF|refine yaS ?_ ?_<;>intro _
    all_goals first
     |contradiction
     |exact .ret rfl (.bool rfl)
   ·by_cases h4:c=4
    ·subst h4;repeat' first|refine X ?_|exact yaF|refine yaS ?_ ?_<;>intro _
     all_goals first
      |contradiction
      |exact .ret rfl (.bool rfl)
    ·have hf:isIn c 2 4=false:=by
      rw[isIn,Bool.and_eq_false_iff,decide_eq_false_iff_not,decide_eq_false_iff_not];omega
     rw[hf];repeat' first|refine X ?_|exact yaF|refine yaS ?_ ?_<;>intro _
     all_goals first
      |contradiction
      |(refine .ret rfl (.bool ?_);simp_all;done)
 ·rw[beq_eq_false_iff_ne.2 hp,ybg];repeat' first|refine X ?_|exact yaF|refine yaS ?_ ?_<;>intro _
  all_goals first
   |contradiction
   |(refine .ret rfl (.bool ?_);simp_all;done)
theorem zkj(hs:SchG s){k:Nat}(hk:k<s.length)(x:Stmt)(r:RowD)(hf:fitF s[k] r.vals=true)(db:List Data)(hdb:DbG BI s db)(xs:List Ce)(V:jb)(h:wt L n s xs db V):
 Ok Tryz.prog 279 [.c (.ptr L.c L.vc 0 0),.c (.fp [.int .i64 (k:Int)]),.c (.fp (jc r)),.c (.fp [.bool (x.policy==3)]),.c (.fp [.fn 129 [] []])] V (Done L n s (insJ s k x r.vals db) V):=by
 refine Ok.run0 mixed wba gz λhS hA=>?_;clear hS hA;have hva:=za9 hf (hs.tab _ (yaa hk)).cols8;have c1:=zfj hs hk r.vals (x.policy==3) db rfl xs V h (jfj hdb hk) (j6 hf).1 hva;rw[insJ,zn hk];generalize insF (chgF s 12) s k (if(x.policy==3)=true then jj s[k] 0 r.vals else r.vals) (x.policy==3) db=q at c1⊢;obtain⟨qd,qi,qc⟩:=q;repeat' first|refine X ?_|exact yaF|refine yaS ?_ ?_<;>intro _
 refine .call _ rfl rfl rfl c1 ?_;rintro r9 V2 ⟨hr9,hk2,hq2⟩;rw[hr9];simp only at hq2⊢;clear hr9 c1;by_cases h0:qc=0
 ·subst h0;repeat' first|refine X ?_|((first|apply yQ|apply yR|apply yS);(iterate 3 exact rfl);exact zd5 _ _ _ _)|exact yaF|refine yaS ?_ ?_<;>intro _
  exact .ret rfl ⟨rfl,hk2,hq2⟩
 ·repeat' first|refine X ?_|exact yaF|refine yaS ?_ ?_<;>intro _
  all_goals first
   |contradiction
   |exact .ret rfl ⟨rfl,hk2,hq2⟩
set_option maxHeartbeats 1000000 in
theorem jkj(hs:SchG s){k:Nat}(hk:k<s.length)(x:Stmt)(hG:StG s[k] x)(id:Int)(db:List Data)(hdb:DbG BI s db)(xs:List Ce)(V:jb)(h:wt L n s xs db V):
 Ok Tryz.prog 280 [.c (.ptr L.c L.vc 0 0),.c (.fp [.int .i64 (k:Int)]),.c (.fp [.int .i64 id]),.c (.fp (zg x)),.c (.fp [.fz (s.map ja)]),.c (.fp [.bool (x.policy==3)]),.c (.fp [.fn 129 [] []])] V (Done L n s (idJ s k x id db) V):=by
 refine Ok.run0 mixed zbb gz λhS hA=>?_;have hk2:k<db.length:=by rw[hdb.len];exact hk
 have hk3:k<xs.length:=by rw[h.len];exact hk2
 have hR:=hdb.rows k hk hk2;have ht:=hs.tab _ (yaa hk);have cf:=zcu h hk2 hk3 id hR.len;have hrun:=jim (I:=BI) (L:=L) (n:=n) hs 13 0 gb rfl;rw[idJ,we hk2];repeat' first|refine X ?_|exact yaF|refine yaS ?_ ?_<;>intro _
 rcases zj db[k].rows id with⟨hx1,hx2⟩|⟨j,hj,hx1,hx2⟩
 ·rw[hx2];refine .call _ rfl rfl rfl (cf.1 hx2) ?_;rintro r9 V9 ⟨hr9,ht9⟩;rw[hr9,ht9];repeat' first|refine X ?_|exact yaF|refine yaS ?_ ?_<;>intro _
  exact .ret rfl ⟨rfl,.refl,λh=>by cases h⟩
 ·rw[hx2];show Go _ _ _ _ (Done L n s (rowJ s k x db[k].rows[j] db) V) _ _ _;have hrow:jai (jp db k) id=some db[k].rows[j]:=by rw[we hk2];exact hx2
  have hid:db[k].rows[j].id=id:=(zz hrow).2;obtain⟨hfl,hfv⟩:=hR.fit _ (yaa hj);have hne:db[k].rows[j].vals≠[]:=λe=>by
   rw[e]at hfl;have:=ht.cols0;simp at hfl;omega
  obtain⟨lab2,ps2,id2,v2,junk2,hat,hl2⟩:=h.any hk2 hk3;refine .call _ rfl rfl rfl (cf.2 j hj hx1 _ _ _ _ _ hat) ?_;rintro r9 V9 ⟨hr9,ht9⟩;rw[hr9,ht9];clear hr9 ht9;have cm:=Lend.made (.own (hat.frz hj) .nil) (jah db[k].rows[j].vals hne (yai (wd.1 hfv).1 gb)) λe he=>(jb5 e he).2;repeat' first|refine X ?_|((first|apply yG|apply yH|apply yI);exact rfl;(first|exact j5 rfl hat.get (hat.at hj) (yal _)))|exact yaF|refine yaS ?_ ?_<;>intro _
  refine .call _ rfl rfl rfl cm ?_;rintro q V9 ⟨v,junk,hjk,hq9,ht9⟩;rw[hq9,ht9];clear hq9 ht9 cm;repeat' first|refine X ?_|fail
  refine Go.freezeN (l:=[]) (m:=[(v,db[k].rows[j].vals.map encV++junk)]) (fr':=[(0,.c (.ptr L.c L.vc 0 0)),(1,.c (.fp [.int .i64 (k:Int)])),(2,.c (.fp [.int .i64 id])),(3,.c (.fp (zg x))),(4,.c (.fp [.fz (s.map ja)])),(5,.c (.fp [.bool (x.policy==3)])),(6,.c (.fp [.fn 129 [] []])),(10,.c (.fz (db[k].rows[j].vals.map encV))),(11,.c (.int .i64 8)),(27,.c (.bool (x.kind==3)))]) hS (λb hb=>by cases hb) (yaf _)
   (.frz rfl (.refl (hA _ gx)) (.frz rfl (.refl (hA _ gx)) (.frz rfl (.refl (hA _ gx)) (.frz rfl (.refl (hA _ gx)) (.frz rfl (.refl (hA _ gx)) (.frz rfl (.refl (hA _ gx)) (.frz rfl (.refl (hA _ gx)) (.frz rfl (wbm (k:=0) rfl (yaf _)) (.frz rfl (.refl zu) (.frz rfl (.refl zh4) .nil)))))))))) ?_
  rw[jc2 hS];rw[rowJ];by_cases h3:x.kind=3
  ·rw[if_pos h3,hid,beq_iff_eq.2 h3];have c5:=hrun.del k id db xs V h hdb hk;generalize chgF s 13 (.del k id) db=q at c5⊢;repeat' first|refine X ?_|exact yaF|refine yaS ?_ ?_<;>intro _
   refine .call _ rfl rfl rfl c5 ?_;rintro r9 V9 ⟨hr9,hk9,hq9⟩;rw[hr9];clear hr9 c5;by_cases hq:q.2=0
   ·rw[hq];repeat' first|refine X ?_|((first|apply yQ|apply yR|apply yS);(iterate 3 exact rfl);exact zd5 _ _ _ _)|exact yaF|refine yaS ?_ ?_<;>intro _
    exact .ret rfl ⟨by rw[hq],hk9,hq9⟩
   ·generalize hqe:q.2=e at hq⊢;repeat' first|refine X ?_|exact yaF|refine yaS ?_ ?_<;>intro _
    all_goals first
     |contradiction
     |exact .ret rfl ⟨by rw[hqe],hk9,hq9⟩
  ·rw[if_neg h3,beq_eq_false_iff_ne.2 h3,zn hk];have c3:=wf8 s[k] x db[k].rows[j].vals hfl hne hfv hG.sets.1 hG.sets.2
   cases hvf:wa1 s[k] db[k].rows[j].vals x.sets db[k].rows[j].vals with
   |none=>
    rw[hvf]at c3;have c3:Pure _ _ _ (.tup [.c .nils,.c (.bool false)]):=c3;repeat' first|refine X ?_|((first|apply yG|apply yH|apply yI);exact rfl;(first|exact yax ja rfl hk))|refine yaC (c3) ?_|exact yaF|refine yaS ?_ ?_<;>intro _
    exact .ret rfl ⟨rfl,.refl,λh=>by cases h⟩
   |some nv=>
    rw[hvf]at c3;have c3:Pure _ _ _ (.tup [.c (.fz (nv.map encV)),.c (.bool true)]):=c3;have hl2':nv.length=s[k].cols.length:=(jcv hvf).trans hfl;have hok2:zq nv 16=true:=wd.2 ⟨by rw[hl2',<-hfl];exact(wd.1 hfv).1,wcv (wd.1 hfv).2 (n:=s[k].cols.length) (by rw[hfl]) hG.sets.2 (wd.1 hfv).2 hvf⟩;have c5:=hrun.upd k id nv (x.policy==3) db xs V h hdb ⟨hk,hl2',hok2⟩;rw[hid];show Go _ _ _ _ (Done L n s (chgF s 13 (.upd k id nv (x.policy==3)) db) V) _ _ _;generalize chgF s 13 (.upd k id nv (x.policy==3)) db=q at c5⊢;repeat' first|refine X ?_|((first|apply yG|apply yH|apply yI);exact rfl;(first|exact yax ja rfl hk))|refine yaC (c3) ?_|exact yaF|refine yaS ?_ ?_<;>intro _
    refine .call _ rfl rfl rfl c5 ?_;rintro r9 V9 ⟨hr9,hk9,hq9⟩;rw[hr9];clear hr9 c5;by_cases hq:q.2=0
    ·rw[hq];repeat' first|refine X ?_|((first|apply yQ|apply yR|apply yS);(iterate 3 exact rfl);exact zd5 _ _ _ _)|exact yaF|refine yaS ?_ ?_<;>intro _
     exact .ret rfl ⟨by rw[hq],hk9,hq9⟩
    ·generalize hqe:q.2=e at hq⊢;repeat' first|refine X ?_|exact yaF|refine yaS ?_ ?_<;>intro _
     all_goals first
      |contradiction
      |exact .ret rfl ⟨by rw[hqe],hk9,hq9⟩
def jd5(k:Nat)(x:Stmt)(r:RowD):Ce:=.fn 279 [] [.fp [.int .i64 (k:Int)],.fp (jc r),.fp [.bool (x.policy==3)],.fp [.fn 129 [] []]]
def wd5(s:List wc)(k:Nat)(x:Stmt)(id:Int):Ce:=.fn 280 [] [.fp [.int .i64 (k:Int)],.fp [.int .i64 id],.fp (zg x),.fp [.fz (s.map ja)],.fp [.bool (x.policy==3)],.fp [.fn 129 [] []]]
theorem jy{cs:List Ce}(h:∀c∈cs,Old n c):Old n (.fp cs):=.fp _ λj hj=>h _ (yaa hj)
theorem jin:Old n (.fp [.fn 129 [] []]):=jy λc hc=>by
 rw[List.mem_singleton.1 hc];exact .fn _ _ _ (λi hi=>absurd hi (Nat.not_lt_zero i)) λi hi=>absurd hi (Nat.not_lt_zero i)
theorem wkj{r:RowD}:Old n (jd5 k x r):=by
 refine .fn _ _ _ (λi hi=>absurd hi (Nat.not_lt_zero i)) λi hi=>?_;have h:∀c∈[Ce.fp [.int .i64 (k:Int)],.fp (jc r),.fp [.bool (x.policy==3)],.fp [.fn 129 [] []]],Old n c:=λc hc=>by
  simp only[List.mem_cons,List.not_mem_nil,or_false]at hc;rcases hc with rfl|rfl|rfl|rfl
  ·exact jy λc hc=>by rw[List.mem_singleton.1 hc];exact .int _ _
  ·refine jy λc hc=>?_;simp only[jc,List.mem_cons,List.not_mem_nil,or_false]at hc;rcases hc with rfl|rfl
   ·exact .int _ _
   ·exact z0 _ (List.mem_singleton.2 rfl)
  ·exact jy λc hc=>by rw[List.mem_singleton.1 hc];exact .bool _
  ·exact jin
 exact h _ (yaa hi)
theorem zkk{id:Int}(hx:∀c∈zg x,Old n c):Old n (wd5 s k x id):=by
 refine .fn _ _ _ (λi hi=>absurd hi (Nat.not_lt_zero i)) λi hi=>?_;have h:∀c∈[Ce.fp [.int .i64 (k:Int)],.fp [.int .i64 id],.fp (zg x),.fp [.fz (s.map ja)],.fp [.bool (x.policy==3)],.fp [.fn 129 [] []]],Old n c:=λc hc=>by
  simp only[List.mem_cons,List.not_mem_nil,or_false]at hc;rcases hc with rfl|rfl|rfl|rfl|rfl|rfl
  ·exact jy λc hc=>by rw[List.mem_singleton.1 hc];exact .int _ _
  ·exact jy λc hc=>by rw[List.mem_singleton.1 hc];exact .int _ _
  ·exact jy hx
  ·exact jy λc hc=>by rw[List.mem_singleton.1 hc];exact zas _ (List.mem_singleton.2 rfl)
  ·exact jy λc hc=>by rw[List.mem_singleton.1 hc];exact .bool _
  ·exact jin
 exact h _ (yaa hi)
theorem jeq{G V:jb}{ys junk:List (List Ce)}{v:Nat}{b:Bool}(ho:∀e∈ys,∀x∈e,Old G.next x):FrzV (E G [(v,ys++junk)]) G.next (.tup [.c (vec (G.next+0) v ys junk),.c (.bool b)]) (.tup [.c (.fz ys),.c (.bool b)]):=by
 refine .tup rfl λj hj=>?_;have hj2:j<2:=hj;have hj3:j=0\/j=1:=O;rcases hj3 with rfl|rfl
 ·exact wav (k:=0) rfl ho (yaf _)
 ·exact .c (.same _ (.bool _))
theorem jkk(x:Stmt)(hx:x.kind=1)(hidx:idxA (λu:wc=>u.name==x.table) s 0=(k:Int))(hr8:x.rows.length<=8)(hs5:s.length<=5)(db:List Data):
 Pure Tryz.prog 185 [.agg (zg x),.c (.fz (s.map ja)),.c (.fz (db.map wa)),.c (.fn 129 [] [])] (.tup [.c (.fz (x.rows.map λr=>[jd5 k x r])),.c (.bool true)]):=by
 refine yas jag λG=>?_;have c1:=jae s x.table (yai hs5 gb);rw[hidx]at c1;have hx1:(x.kind==1)=true:=beq_iff_eq.2 hx;repeat' first|refine X ?_|refine yaC (c1) ?_|exact yaF|refine yaS ?_ ?_<;>intro _
 all_goals first
  |contradiction
  |skip
 refine Go.keep [7,10,11,12,31,32,33] (Go.loops (I:=λm fr V=>∃(i:Nat) (ki:Int) (v:Nat) (junk:List (List Ce)),m=x.rows.length-i/\i<=x.rows.length/\ki=i/\Jk 1 junk/\
  fr=[(7,.c (.fp [.fn 129 [] []])),(10,.c (.fp [.int .i64 (k:Int)])),(11,.c (.fp [.bool (x.policy==3)])),(12,.c (vec (G.next+0) v ((x.rows.take i).map λr=>[jd5 k x r]) junk)),(31,.c (.fz (x.rows.map jc))),(32,.c (.int .i64 (x.rows.length:Int))),(33,.c (.int .i64 ki))]/\V=E G [(v,((x.rows.take i).map λr=>[jd5 k x r])++junk)]) ?_ _ _ _ ⟨0,_,0,[],rfl,yac _,rfl,Jk.nil,rfl,rfl⟩)
 rintro m fr V ⟨i,ki,v,junk,rfl,hi,hki,hj,rfl,rfl⟩ hrec;by_cases hlt:i<x.rows.length
 ·have hys:∀e∈(x.rows.take i).map λr=>[jd5 k x r],e.length=1:=λe he=>by
   obtain⟨a,_,rfl⟩:=List.mem_map.1 he
   rfl
  have hbd:(((x.rows.take i).map λr=>[jd5 k x r]).length+1)*8<=140737488355328:=by rw[yae,yat];omega
  have e1:((x.rows.take i).map λr=>[jd5 k x r])++[[jd5 k x x.rows[i]]]=(x.rows.take (i+1)).map λr=>[jd5 k x r]:=by rw[yaj hlt,yak];rfl
  repeat' first|refine X ?_|((first|apply yG|apply yH|apply yI);exact rfl;(first|exact yax jc hki hlt))|(apply Go.app1;exact rfl;exact rfl;exact rfl;exact rfl;exact rfl;exact hys;exact hj;exact rfl;exact hbd;intro v' junk' hj')|exact yaF|refine yaS ?_ ?_<;>intro _
  refine Go.keep [7,10,11,12,31,32,33] (hrec _ _ _ O ⟨i+1,_,v',junk',rfl,hlt,wb hki O,hj', ?_, ?_⟩)
  ·rw[<-e1];rfl
  ·rw[<-e1];rfl
 ·rw[yao O];repeat' first|refine X ?_|exact yaF|refine yaS ?_ ?_<;>intro _
  exact .ret rfl ⟨_,rfl,jeq (V:=G) λe he c hc=>by
   obtain⟨a,_,rfl⟩:=List.mem_map.1 he;rw[List.mem_singleton.1 hc];exact wkj⟩
theorem wkk(x:Stmt)(hx:¬x.kind=1)(hidx:idxA (λu:wc=>u.name==x.table) s 0=(k:Int))(hs5:s.length<=5)(hw:x.wher.length<=24)(db:List Data)(hk:k<db.length)(hl:db[k].rows.length<=60)(hv:∀r∈db[k].rows,r.vals.length<=34359738368):
 Pure Tryz.prog 185 [.agg (zg x),.c (.fz (s.map ja)),.c (.fz (db.map wa)),.c (.fn 129 [] [])] (.tup [.c (.fz ((jv db[k].rows x.wher).1.map λid=>[wd5 s k x id])),.c (.bool (jv db[k].rows x.wher).2)]):=by
 refine yar jag λG hS hA=>?_;have hxo:∀c∈zg x,Old G.next c:=λc hc=>hA (.agg (zg x)) gx c hc;clear hA hS;have c1:=jae s x.table (yai hs5 gb);rw[hidx]at c1;have c2:=NewV.pure (wfc db[k].rows x.wher (yai hl gb) hv (yai hw gb));have hml:=wb5 (l:=db[k].rows) (w:=x.wher);generalize jv db[k].rows x.wher=mf at c2 hml⊢;obtain⟨ids,b⟩:=mf;simp only at c2 hml⊢;have hx1:(x.kind==1)=false:=beq_eq_false_iff_ne.2 hx;repeat' first|refine X ?_|((first|apply yG|apply yH|apply yI);exact rfl;(first|exact yax wa rfl hk))|refine yaC (c1) ?_|refine yaC (c2) ?_|exact yaF|refine yaS ?_ ?_<;>intro _
 all_goals first
  |contradiction
  |skip
 refine Go.keep [4,5,7,10,11,12,16,54,55,56] (Go.loops (I:=λm fr V=>∃(i:Nat) (ki:Int) (v:Nat) (junk:List (List Ce)),m=ids.length-i/\i<=ids.length/\ki=i/\Jk 1 junk/\
  fr=[(4,.c (.fp (zg x))),(5,.c (.fp [.fz (s.map ja)])),(7,.c (.fp [.fn 129 [] []])),(10,.c (.fp [.int .i64 (k:Int)])),(11,.c (.fp [.bool (x.policy==3)])),(12,.c (vec (G.next+0) v ((ids.take i).map λid=>[wd5 s k x id]) junk)),(16,.c (.bool b)),(54,.c (.fz (ids.map encI))),(55,.c (.int .i64 (ids.length:Int))),(56,.c (.int .i64 ki))]/\V=E G [(v,((ids.take i).map λid=>[wd5 s k x id])++junk)]) ?_ _ _ _ ⟨0,_,0,[],rfl,yac _,rfl,Jk.nil,rfl,rfl⟩)
 rintro m fr V ⟨i,ki,v,junk,rfl,hi,hki,hj,rfl,rfl⟩ hrec;by_cases hlt:i<ids.length
 ·have hys:∀e∈(ids.take i).map λid=>[wd5 s k x id],e.length=1:=λe he=>by
   obtain⟨a,_,rfl⟩:=List.mem_map.1 he
   rfl
  have hbd:(((ids.take i).map λid=>[wd5 s k x id]).length+1)*8<=140737488355328:=by rw[yae,yat];omega
  have e1:((ids.take i).map λid=>[wd5 s k x id])++[[wd5 s k x ids[i]]]=(ids.take (i+1)).map λid=>[wd5 s k x id]:=by rw[yaj hlt,yak];rfl
  repeat' first|refine X ?_|((first|apply yG|apply yH|apply yI);exact rfl;(first|exact yax encI hki hlt))|(apply Go.app1;exact rfl;exact rfl;exact rfl;exact rfl;exact rfl;exact hys;exact hj;exact rfl;exact hbd;intro v' junk' hj')|exact yaF|refine yaS ?_ ?_<;>intro _
  refine Go.keep [4,5,7,10,11,12,16,54,55,56] (hrec _ _ _ O ⟨i+1,_,v',junk',rfl,hlt,wb hki O,hj', ?_, ?_⟩)
  ·rw[<-e1];rfl
  ·rw[<-e1];rfl
 ·rw[yao O];repeat' first|refine X ?_|exact yaF|refine yaS ?_ ?_<;>intro _
  exact .ret rfl ⟨_,rfl,jeq (V:=G) λe he c hc=>by
   obtain⟨a,_,rfl⟩:=List.mem_map.1 he;rw[List.mem_singleton.1 hc];exact zkk hxo⟩
def JobG(s:List wc)(c:Ce)(j:List Data->Res):Prop:=∃f cap,c=.fn f [] cap/\(∀now,DbG BI s now->∀(L:ChL) (n:Nat) (xs:List Ce) (V:jb),wt L n s xs now V->Ok Tryz.prog f (([]:List Ce).map .c++[.c (.ptr L.c L.vc 0 0)]++cap.map .c) V (Done L n s (j now) V))/\∀now,DbG BI s now->(j now).2=0->DbG BI s (j now).1
theorem Kept.ofGr{V':jb}(h:Gr V V')(hn:n<=V.next):Kept n V V':=by
 obtain⟨l,rfl,_⟩:=h;exact .ofE hn l
theorem wfk(hs:SchG s){now:List Data}(hn:DbG BI s now){c:Ce}{j:List Data->Res}(hj:JobG s c j)(G:jb):Ok Tryz.prog 136 [.c (.fz (s.map ja)),.c (.fz (now.map wa)),.c c] G (NewV G (.tup [.c (.fz ((topR now (j now)).1.map wa)),.c (.int .i64 (topR now (j now)).2)])):=by
 obtain⟨f,cap,rfl,hrun,hkp⟩:=hj;obtain⟨b1,b2,b3⟩:=jjr hs hn;refine Ok.newV ((ji2 s now O (λd hd=>⟨(b3 d hd).2.1,λr hr=>⟨((b3 d hd).2.2 r hr).1,by have:=((b3 d hd).2.2 r hr).2.1;omega⟩⟩) (λd hd=>(b3 d hd).1) f [] cap (j now) (λh0 d hd=>((jjr hs (hkp now hn h0)).2.2 d hd).1) G λL xs V hH=>hrun now hn L G.next xs V hH).mono ?_);rintro r V ⟨hK,x,rfl,hh⟩;exact⟨hK,.two hh⟩
theorem zbk(hs:SchG s){db:List Data}(h:DbG BI s db)(G:jb):Ok Tryz.prog 186 [.c (.fz (db.map wa))] G (λr V=>Kept G.next G V/\∃y,r=.c y/\Has V (λa=>G.next<=a/\a<V.next) (.fz (db.map wa)) y):=by
 obtain⟨b1,b2,b3⟩:=jjr hs h;refine(wdh db O (λd hd=>⟨(b3 d hd).2.1,λr hr=>⟨((b3 d hd).2.2 r hr).1,by have:=((b3 d hd).2.2 r hr).2.1;omega⟩⟩) G).mono ?_;rintro r V ⟨o,vo,xs,junk,rfl,hK,hD⟩;exact⟨hK,_,rfl,hD.has hK.next λd hd=>(b3 d hd).1⟩
set_option maxHeartbeats 4000000 in
theorem jju(hs:SchG s)(x:Stmt)(db:List Data)(hdb:DbG BI s db)(J:List (Ce×(List Data->Res)))(hJ:∀p∈J,JobG s p.1 p.2)(hJl:J.length<=60)(b:Bool)
 (hj:Pure Tryz.prog 185 [.agg (zg x),.c (.fz (s.map ja)),.c (.fz (db.map wa)),.c (.fn 129 [] [])] (.tup [.c (.fz (J.map λp=>[p.1])),.c (.bool b)])) (G:jb):
 Ok Tryz.prog 82 [.c (.fz (s.map ja)),.c (.fz (db.map wa)),.agg (zg x),.c (.fn 129 [] [])] G (NewV G (insV (if b=true then za3 db x (J.map (·.2)) db 0 else(db,8,0)))):=by
 refine Ok.newV (Ok.run0 mixed wc7 gz λhS hA=>?_);clear hS hA
 cases b
 ·rw[if_neg yah];repeat' first|refine X ?_|refine yaC (hj) ?_|exact yaF|refine yaS ?_ ?_<;>intro _
  refine .call _ rfl rfl rfl (zbk hs hdb G) ?_;rintro r9 V1 ⟨hK,y,hr9,hh⟩;rw[hr9];repeat' first|refine X ?_|exact yaF|refine yaS ?_ ?_<;>intro _
  exact .ret rfl ⟨hK,.three hh⟩
 ·rw[if_pos rfl];repeat' first|refine X ?_|refine yaC (hj) ?_|exact yaF|refine yaS ?_ ?_<;>intro _
  refine .call _ rfl rfl rfl (zbk hs hdb G) ?_;rintro r9 V1 ⟨hK1,y1,hr9,hh1⟩;rw[hr9];clear hr9 hj;repeat' first|refine X ?_|exact yaF|refine yaS ?_ ?_<;>intro _
  refine Go.keep [0,1,6,13,14,33,34,35] (Go.loops (I:=λm fr V=>∃(i:Nat) (ki:Int) (now:List Data) (mc:Nat) (km:Int) (y:Ce),m=J.length-i/\i<=J.length/\ki=i/\(DbG BI s now/\mc<=i/\km=mc/\Kept G.next G V/\Has V (λa=>G.next<=a/\a<V.next) (.fz (now.map wa)) y/\za3 db x (J.map (·.2)) db 0=za3 db x ((J.drop i).map (·.2)) now km)/\
   fr=[(0,.c (.fz (s.map ja))),(1,.c (.fz (db.map wa))),(6,.c (.fp (zg x))),(13,.c y),(14,.c (.int .i64 km)),(33,.c (.fz (J.map λp=>[p.1]))),(34,.c (.int .i64 (J.length:Int))),(35,.c (.int .i64 ki))]) ?_ _ _ _ ⟨0,_,db,0,_,y1,rfl,yac _,rfl,⟨hdb,yaf _,rfl,hK1,hh1,rfl⟩,rfl⟩)
  clear hh1 hK1;rintro m fr V ⟨i,ki,now,mc,km,y,rfl,hi,hki,⟨hnow,hmc,hkm,hK,hh,hst⟩,rfl⟩ hrec;by_cases hlt:i<J.length
  ·have hw1:IntKind.i64.wrap (km+1)=km+1:=zk O O;have hJi:=hJ _ (yaa hlt);have hkp:(J[i].2 now).2=0->DbG BI s (J[i].2 now).1:=let⟨_,_,_,_,h⟩:=hJi;h now hnow
   have cc:=Lend.new (.same (.own (HasV.c hh).lend (.same .nil))) (wfk hs hnow hJi);rw[yab hlt,ybv,za3]at hst;generalize J[i].2 now=q at cc hkp hst;have hn0:G.next<=V.next:=hK.next;repeat' first|refine X ?_|((first|apply yG|apply yH|apply yI);exact rfl;(first|exact yX (enc:=λp:Ce×(List Data->Res)=>[p.1]) rfl rfl hki hlt rfl))|exact yaF|refine yaS ?_ ?_<;>intro _
   refine .call _ rfl rfl rfl cc ?_;rintro r9 V2 hq9;obtain⟨g,hr9,gr,hg⟩:=whg (.int _ _) hq9;rw[hr9];clear hr9 hq9 cc;have hK2:=hK.trans (.ofGr gr hK.next);have hh2:=(hh.frame λa ha=>gr.lt ha.2).mono (S':=λa=>G.next<=a/\a<V2.next) λa ha=>⟨ha.1,yay ha.2 gr.next⟩;have hg2:=hg.mono (S':=λa=>G.next<=a/\a<V2.next) λa ha=>⟨yai hK.next ha.1,ha.2⟩;have hn2:G.next<=V2.next:=hK2.next;clear hg hh gr hK;by_cases hq:q.2=0
   ·rw[if_pos hq,<-hw1]at hst;rw[topR,if_pos hq]at hg2;rw[topR,if_pos hq];repeat' first|refine X ?_|exact yaF|refine yaS ?_ ?_<;>intro _
    all_goals first
     |contradiction
     |exact Go.keep [0,1,6,13,14,33,34,35] (hrec _ _ _ O ⟨i+1,_,q.1,mc+1,_,g,rfl,hlt,wb hki O,⟨hkp hq,O,wb hkm O,hK2,hg2,hst⟩,rfl⟩)
   ·obtain⟨e,he⟩:∃e,q.2=e:=⟨_,rfl⟩;rw[if_neg hq,he]at hst;rw[topR,if_neg hq,he];rw[he]at hq;clear hg2;have c4:=zhm x e;by_cases hm:e=-1
    ·rw[if_pos (.inl hm)]at hst;subst hm;repeat' first|refine X ?_|refine yaC (c4) ?_|exact yaF|refine yaS ?_ ?_<;>intro _
     all_goals first
      |contradiction
      |exact Go.keep [0,1,6,13,14,33,34,35] (hrec _ _ _ O ⟨i+1,_,now,mc,_,y,rfl,hlt,wb hki O,⟨hnow,O,hkm,hK2,hh2,hst⟩,rfl⟩)
    ·cases hp:ji3 x e
     ·rw[hp]at c4 hst;rw[if_neg (λh=>by rcases h with h|h;exact hm h;cases h)]at hst;by_cases hp1:x.policy=1/\¬e=5
      ·rw[if_pos hp1]at hst;obtain⟨hp1,h5⟩:=hp1;rw[hst];repeat' first|refine X ?_|refine yaC (c4) ?_|exact yaF|refine yaS ?_ ?_<;>intro _
       all_goals first
        |contradiction
        |exact .ret rfl ⟨hK2,.three hh2⟩
      ·rw[if_neg hp1]at hst;rw[hst];repeat' first|refine X ?_|refine yaC (c4) ?_|exact yaF|refine yaS ?_ ?_<;>intro _
       all_goals first
        |(exfalso;simp_all;done)
        |skip
       all_goals refine .call _ rfl rfl rfl (zbk hs hdb V2) ?_
       all_goals rintro r9 V3 ⟨hK3,y3,hr9,hh3⟩
       all_goals rw[hr9]
       all_goals repeat' first|refine X ?_|exact yaF|refine yaS ?_ ?_<;>intro _
       all_goals exact .ret rfl ⟨hK2.trans (hK3.mono hn2),.three (hh3.mono λa ha=>⟨yai hn2 ha.1,ha.2⟩)⟩
     ·rw[hp]at c4 hst;rw[if_pos (.inr rfl)]at hst;repeat' first|refine X ?_|refine yaC (c4) ?_|exact yaF|refine yaS ?_ ?_<;>intro _
      all_goals first
       |contradiction
       |exact Go.keep [0,1,6,13,14,33,34,35] (hrec _ _ _ O ⟨i+1,_,now,mc,_,y,rfl,hlt,wb hki O,⟨hnow,O,hkm,hK2,hh2,hst⟩,rfl⟩)
  ·rw[yad O,List.map_nil,za3]at hst;rw[hst];repeat' first|refine X ?_|exact yaF|refine yaS ?_ ?_<;>intro _
   exact .ret rfl ⟨hK,.three hh⟩
def ExF(s:List wc)(db:List Data)(x:Stmt):Ins:=if(dbF s db&&l7F s x)=true then wfj s (idxA (λu:wc=>u.name==x.table) s 0).toNat x db else([],1,0)
theorem weq{s:List wc}{db0:List Data}(h0:DbG BI s db0){x:Stmt}:∀{J:List (List Data->Res)} {now:List Data} {m:Int},(∀j∈J,∀now,DbG BI s now->(j now).2=0->DbG BI s (j now).1)->DbG BI s now->DbG BI s (za3 db0 x J now m).1
 |[],_,_,_,h=>h
 |j::r,now,m,hJ,h=>by
  have hr:∀j∈r,∀now,DbG BI s now->(j now).2=0->DbG BI s (j now).1:=λj hj=>hJ j (by simp[hj]);rw[za3];split
  ·rename_i hq;exact weq h0 hr (hJ j gx now h hq)
  ·split
   ·exact weq h0 hr h
   ·split
    ·exact h
    ·exact h0
theorem zkl(hs:SchG s){k:Nat}(hk:k<s.length){x:Stmt}(hG:StG s[k] x){db:List Data}(h:DbG BI s db):DbG BI s (wfj s k x db).1:=by
 rw[wfj];split
 ·refine weq h (λj hj now hn h0=>?_) h;rw[wjt]at hj;split at hj
  ·obtain⟨r,hr,rfl⟩:=List.mem_map.1 hj;exact jfk hs hk (hG.rows.2 r hr) hn h0
  ·obtain⟨id,hid,rfl⟩:=List.mem_map.1 hj;exact wkt hs hk hG hn h0
 ·exact h
theorem jkl(hs:SchG s){k:Nat}(hk:k<s.length)(x:Stmt)(hG:StG s[k] x)(hidx:idxA (λu:wc=>u.name==x.table) s 0=(k:Int))(db:List Data)(hdb:DbG BI s db)(G:jb):
 Ok Tryz.prog 82 [.c (.fz (s.map ja)),.c (.fz (db.map wa)),.agg (zg x),.c (.fn 129 [] [])] G (NewV G (insV (wfj s k x db))):=by
 have hk2:k<db.length:=by rw[hdb.len];exact hk
 have hR:=hdb.rows k hk hk2;by_cases hx:x.kind=1
 ·have hj:=jkk x hx hidx hG.rows.1 hs.few db;have h1:=jju hs x db hdb (x.rows.map λr=>(jd5 k x r,insJ s k x r.vals)) (λp hp=>by
   obtain⟨r,hr,rfl⟩:=List.mem_map.1 hp;refine⟨_,_,rfl,λnow hn L n xs V hH=>?_,λnow hn h0=>jfk hs hk (hG.rows.2 r hr) hn h0⟩;exact zkj hs hk x r (hG.rows.2 r hr) now hn xs V hH) (by rw[yae];have:=hG.rows.1;omega) true (by
   have e:((x.rows.map λr=>(jd5 k x r,insJ s k x r.vals)).map λp=>[p.1])=x.rows.map λr=>[jd5 k x r]:=by rw[List.map_map];rfl
   rw[e];exact hj) G
  have e2:(x.rows.map λr=>(jd5 k x r,insJ s k x r.vals)).map (·.2)=x.rows.map λr=>insJ s k x r.vals:=by rw[List.map_map];rfl
  rw[e2,if_pos rfl]at h1;have e3:wfj s k x db=za3 db x (x.rows.map λr=>insJ s k x r.vals) db 0:=by
   have hw:(jv (jp db k) x.wher).2=true:=by
    rw[hG.ins hx];have key:∀(l:List RowD) (acc:List Int),∃ids,waa [] l acc=some ids:=by
     intro l
     induction l with
     |nil=>exactλacc=>⟨acc,rfl⟩
     |cons r l ih=>
      intro acc;rw[waa];exact ih _
    obtain⟨ids,h⟩:=key (jp db k) [];rw[jv,h]
   rw[wfj,if_pos hw,wjt,if_pos hx]
  rw[e3];exact h1
 ·have hj:=wkk x hx hidx hs.few hG.wher.1 db hk2 hR.len λr hr=>yai (wd.1 (hR.fit r hr).2).1 gb;have hml:=wb5 (l:=db[k].rows) (w:=x.wher);have hl:=hR.len;have h1:=jju hs x db hdb ((jv db[k].rows x.wher).1.map λid=>(wd5 s k x id,idJ s k x id)) (λp hp=>by
   obtain⟨id,hid,rfl⟩:=List.mem_map.1 hp;refine⟨_,_,rfl,λnow hn L n xs V hH=>?_,λnow hn h0=>wkt hs hk hG hn h0⟩;exact jkj hs hk x hG id now hn xs V hH) (by rw[yae];omega) (jv db[k].rows x.wher).2 (by
   have e:(((jv db[k].rows x.wher).1.map λid=>(wd5 s k x id,idJ s k x id)).map λp=>[p.1])=(jv db[k].rows x.wher).1.map λid=>[wd5 s k x id]:=by rw[List.map_map];rfl
   rw[e];exact hj) G
  have e2:((jv db[k].rows x.wher).1.map λid=>(wd5 s k x id,idJ s k x id)).map (·.2)=(jv db[k].rows x.wher).1.map λid=>idJ s k x id:=by rw[List.map_map];rfl
  rw[e2]at h1;have e3:wfj s k x db=if(jv db[k].rows x.wher).2=true then za3 db x ((jv db[k].rows x.wher).1.map λid=>idJ s k x id) db 0 else(db,8,0):=by
   rw[wfj,wjt,if_neg hx,we hk2]
  rw[e3];exact h1
theorem wkl(s:List wc)(db:List Data)(x:Stmt)(hx:s.length<=34359738368)(hb:∀t∈s,wad 34359738368 t)(hd:db.length<=34359738368)(hdb:∀d∈db,wc5 34359738368 d)(hq:zfb 34359738368 x)(G:jb):
 Ok Tryz.prog 45 [.c (.fz (s.map ja)),.c (.fz (db.map wa)),.agg (zg x)] G (NewV G (.tup [.c (.fz ((ExF s db x).1.map wa)),.c (.int .i64 (ExF s db x).2.1),.c (.int .i64 (ExF s db x).2.2)])):=by
 refine Ok.newV (Ok.run0 mixed wfn gz λhS hA=>?_);clear hS hA;have c1:=jjj s db hx hb hd hdb;have c2:=zhl s x hx hb hq;rw[ExF]
 cases h1:dbF s db
 ·rw[h1]at c1;rw[ybg,if_neg yah];repeat' first|refine X ?_|refine yaC (c1) ?_|refine yaC (c2) ?_|exact yaF|refine yaS ?_ ?_<;>intro _
  exact .ret rfl ⟨.refl,.three .nil⟩
 ·rw[h1]at c1;have hsc:=(wbv h1).1;rw[zib,hsc,yav]at c2;rw[yav]
  cases h2:l7F s x
  ·rw[h2]at c2;rw[if_neg yah];repeat' first|refine X ?_|refine yaC (c1) ?_|refine yaC (c2) ?_|exact yaF|refine yaS ?_ ?_<;>intro _
   exact .ret rfl ⟨.refl,.three .nil⟩
  ·rw[h2]at c2;rw[if_pos rfl];have hs:=schG hsc hb;obtain⟨k,hk,hidx,hG⟩:=jhl hq h2;rw[hidx,ybb];have c3:=jkl hs hk x hG hidx db (dbB h1) G;rw[insV]at c3;generalize wfj s k x db=q at c3⊢;repeat' first|refine X ?_|refine yaC (c1) ?_|refine yaC (c2) ?_|exact yaF|refine yaS ?_ ?_<;>intro _
   refine .call _ rfl rfl rfl c3 ?_;rintro r9 V2 hq9;obtain⟨g,hr9,gr,hg⟩:=zhh (.int _ _) (.int _ _) hq9;rw[hr9];repeat' first|refine X ?_|exact yaF|refine yaS ?_ ?_<;>intro _
   exact .ret rfl ⟨.ofGr gr (yaf _),.three hg⟩
theorem wju(s:List wc)(db:List Data)(x:Stmt)(hx:s.length<=34359738368)(hb:∀t∈s,wad 34359738368 t)(hd:db.length<=34359738368)(hdb:∀d∈db,wc5 34359738368 d)(hq:zfb 34359738368 x):
 (ExF s db x).1.length<=34359738368/\(∀y∈(ExF s db x).1,wc5 34359738368 y)/\1+cntL wfb (ExF s db x).1<=34359738368:=by
 rw[ExF];split
 ·rename_i h0;rw[yau]at h0;obtain⟨h1,h2⟩:=h0;have hs:=schG (wbv h1).1 hb;obtain⟨k,hk,hidx,hG⟩:=jhl hq h2;rw[hidx,ybb];exact wjr hs (zkl hs hk hG (dbB h1))
 ·exact⟨yac _,λx hx=>(by cases hx),gb⟩
section
variable {s:List wc}{db db0 now:List Data}{k:Nat}{x:Stmt}
end
variable {fr:Fr}{bytes:Nat}{y:Opd}{zs:List (List Ce)}
theorem zd6{s:Nat}{x:Opd}(hx:x.ev fr=some (.c .nils))(hy:y.ev fr=some (.c (.fz zs)))(hzs:∀e∈zs,e.length=s)(hb:zs.length*bytes<=140737488355328):
 aop (.app s bytes x y) fr (E G l)=some (.c (vec (G.next+l.length) 0 zs []),E G (l++[(0,zs++[])])):=by
 have h:appA (E G l) s bytes .nils zs=some (.sl (E G l).next 0 0 zs.length zs.length,(E G l).new (0,zs)):=by
  unfold appA;rw[if_pos hzs];exact if_pos hb
 simp only[aop,hx,hy,jb.els,Option.bind_some,h,Option.map_some,ji8,zan,vec,List.append_nil,List.length_nil,Nat.add_zero]
theorem win(l:List Term):OldL n (l.map zt):=λe he c hc=>by
 obtain⟨a,_,rfl⟩:=List.mem_map.1 he;simp only[zt,List.mem_cons,List.not_mem_nil,or_false]at hc;subst hc;exact jl (j8 wb3)
theorem zio{l:List Term}:∀e∈l.map zt,e.length=1:=λe he=>by
 obtain⟨a,_,rfl⟩:=List.mem_map.1 he
 rfl
theorem wgt{t:Tok}(h:bTok 12 t):bTok 34359738368 t:=yai h gb
def zkm(t:Term):Prop:=t.expr.length<=7/\∀x∈t.expr,bTok 12 x
def jd6:AFn:=⟨95,[.m 4 true 6],(.seq (.region [oP 4 (.alloc [.int .i64 0,.str [],.nils,.nils,.nils,.int .i64 0])]) (.seq (.region [oM 11 0,oM 12 1,oP 13 (.len false (.t 12)),oC 14 229 [(.t 11),(.t 13)],oM 5 14]) (.seq (.region [oM 15 1,oM 16 5,oP 17 (.iaddr 6 (.t 15) (.t 16)),oP 18 (.load true 6 (.t 17)),oP 6 (.alloc [.str [],.nils,.nils,.nils,.nils,.nils]),⟨none,.op (.store 6 (.t 6) (.t 18)),none⟩]) (.seq (.draw [[oM 19 0,oC 20 229 [(.t 19),(kI 3)],oP 21 (.bin .add (kI 1) (.t 20)),oP 22 (.faddr 0 (.t 6)),oP 23 (.load false 1 (.t 22)),oM 24 0,oC 25 229 [(.t 24),(kI 5)],oP 26 (.build [.int .i64 0,.str [],.nils,.nils,.nils,.int .i64 0] [(0,1,(.t 21)),(1,1,(.t 23)),(5,1,(.t 25))]),oP 7 (.alloc [.int .i64 0,.str [],.nils,.nils,.nils,.int .i64 0])],[⟨none,.op (.store 6 (.t 7) (.t 26)),none⟩]]) (.seq (.seq (.region [oP 27 (.faddr 0 (.t 7)),oP 28 (.load false 1 (.t 27))]) (.block 0 (.seq (.region [oP 36 (.bin .eql (.t 28) (kI 1)),oM 35 36]) (.cond (.t 35) (.seq (.region [oM 37 0,oC 38 229 [(.t 37),(kI 3)],oP 39 (.bin .add (kI 1) (.t 38)),oM 8 39]) (.block 1 (.loop (.seq (.seq (.region [oM 40 8,oP 41 (.bin .gtr (.t 40) (kI 0))]) (.cond (.t 41) .skip (.exit 1))) (.seq (.block 2 (.draw [[oP 44 (.faddr 2 (.t 7)),oP 45 (.load false 1 (.t 44)),oM 46 0,oP 47 (.load true 6 (.t 6)),oC 48 231 [(.t 46),(.t 47)],oP 49 (.build [.int .i64 0,.nils] [(1,1,(.t 48))]),oP 50 (.mksl true 2 1 [.int .i64 0,.nils] [(0,(.t 49))])],[oP 51 (.app 2 32 (.t 45) (.t 50))],[oP 52 (.faddr 2 (.t 7))],[⟨none,.op (.store 1 (.t 52) (.t 51)),none⟩]])) (.region [oM 42 8,oP 43 (.bin .sub (.t 42) (kI 1)),oM 8 43])))))) (.seq (.region [oP 54 (.bin .eql (.t 28) (kI 2)),oM 53 54]) (.cond (.t 53) (.seq (.region [oM 55 0,oP 56 (.faddr 1 (.t 6)),oP 57 (.load false 1 (.t 56)),oP 58 (.len false (.t 57)),oC 59 229 [(.t 55),(.t 58)],oM 9 59]) (.seq (.region [oM 60 0,oC 61 229 [(.t 60),(kI 5)],oC 62 224 [(.t 61)],oC 63 227 [(.t 62)],oP 64 (.mksl true 5 1 [.int .i64 0,.int .i64 0,.int .i64 0,.int .i64 0,.str []] [(0,(.t 63))]),oM 10 64]) (.seq (.seq (.region [oM 65 0,oC 66 225 [(.t 65),(kI 2)]]) (.cond (.t 66) (.region [oM 67 9,oC 68 226 [(.t 67)],oC 69 224 [(kI 1)],oC 70 227 [(.t 69)],oP 71 (.build [.int .i64 0,.int .i64 0,.int .i64 0,.int .i64 0,.str []] [(0,1,(kI 9))]),oP 72 (.mksl true 5 3 [.int .i64 0,.int .i64 0,.int .i64 0,.int .i64 0,.str []] [(0,(.t 68)),(1,(.t 70)),(2,(.t 71))]),oM 10 72]) .skip)) (.seq (.region [oM 73 9,oM 74 10,oP 75 (.build [.int .i64 0,.nils] [(0,1,(.t 73)),(1,1,(.t 74))]),oP 76 (.mksl true 2 1 [.int .i64 0,.nils] [(0,(.t 75))]),oP 77 (.faddr 4 (.t 7)),⟨none,.op (.store 1 (.t 77) (.t 76)),none⟩]) (.region [oM 78 0,oP 79 (.faddr 1 (.t 6)),oP 80 (.load false 1 (.t 79)),oP 81 (.len false (.t 80)),oC 82 141 [(.t 78),(.t 81)],oP 83 (.faddr 3 (.t 7)),⟨none,.op (.store 1 (.t 83) (.t 82)),none⟩]))))) (.region [oM 29 0,oP 30 (.faddr 1 (.t 6)),oP 31 (.load false 1 (.t 30)),oP 32 (.len false (.t 31)),oC 33 141 [(.t 29),(.t 32)],oP 34 (.faddr 3 (.t 7)),⟨none,.op (.store 1 (.t 34) (.t 33)),none⟩]))))))) (.seq (.seq (.region [oM 84 0,oC 85 229 [(.t 84),(kI 40)]]) (.block 3 (.seq (.region [oP 87 (.bin .eql (.t 85) (kI 38)),oM 86 87]) (.cond (.t 86) (.region [oP 88 (.faddr 1 (.t 7)),⟨none,.op (.store 1 (.t 88) (.k (.str [120]))),none⟩]) (.seq (.region [oP 90 (.bin .eql (.t 85) (kI 39)),oM 89 90]) (.cond (.t 89) (.region [oM 91 0,oC 92 230 [(.t 91),(kI 1),(kI 3)],oP 93 (.faddr 0 (.t 7)),⟨none,.op (.store 1 (.t 93) (.t 92)),none⟩]) .skip)))))) (.seq (.region [oP 94 (.load true 6 (.t 7)),⟨none,.op (.store 6 (.t 4) (.t 94)),none⟩]) .ret)))))))⟩
theorem jc6:ze Tryz.prog [50,64,72,76] 128=some jd6:=yak9
def wlm(r:AV):Prop:=∃x:Stmt,zfb 34359738368 x/\r=.agg (zg x)
def z6:List Ce:=[.int .i64 0,.str [],.nils,.nils,.nils,.int .i64 0]
theorem jic(l:List SetS):OldL n (l.map ju):=λe he c hc=>by
 obtain⟨a,_,rfl⟩:=List.mem_map.1 he;simp only[ju,List.mem_cons,List.not_mem_nil,or_false]at hc;rcases hc with rfl|rfl
 ·exact .int _ _
 ·exact jl (j8 wb3)
theorem zjv(l:List RowD):OldL n (l.map jc):=λe he c hc=>by
 obtain⟨a,_,rfl⟩:=List.mem_map.1 he;simp only[jc,List.mem_cons,List.not_mem_nil,or_false]at hc;rcases hc with rfl|rfl
 ·exact .int _ _
 ·exact jl (j8 jc5)
def StS(G:jb)(kd pol:Int)(nm:List UInt8)(rs:List RowD)(x3 x4:Ce)(ll:List (Nat×List (List Ce))):Prop:=
 (rs=[]/\ll=[(0,[z6]),(0,[[.int .i64 kd,.str nm,.nils,x3,x4,.int .i64 pol]])])\/∃v junk,Jk 2 junk/\ll=[(0,[z6]),(0,[[.int .i64 kd,.str nm,vec (G.next+2) v (rs.map jc) junk,x3,x4,.int .i64 pol]]),(v,rs.map jc++junk)]
def RowB(r:RowD):Prop:=r.vals.length<=60/\∀w∈r.vals,bV 12 w
def SetB(a:SetS):Prop:=a.expr.length<=3/\∀t∈a.expr,bTok 12 t
theorem wk8(s:List wc)(hs:SchD s):jal Tryz.prog 128 [.c (.fz (s.map ja))] wlm:=by
 refine jal.run mixed jc6 gz λG id v code p hr hp hc hS=>?_;have hs1:=hs.1;have hs3:=hs.2.1;repeat' first|refine X ?_|exact yaF|refine yaS ?_ ?_<;>intro _
 refine Go.drawn hr hp rfl rfl rfl (jm s.length O O) ?_;intro r q hq hz;obtain⟨k,hk,rfl⟩:=jct O hz;have hT:=hs.2.2 _ (yaa hk);have hlo:=hT.lo;have hhi:=hT.hi;have hnm:=hT.b.1;clear hT hz;repeat' first|apply Go.seq|apply Go.skip|apply Go.region|apply Go.nil|apply Go.block|apply Go.blk|apply Go.segs|(apply Go.exit;exact rfl)|(apply Go.cond true;exact rfl)|(apply Go.cond false;exact rfl)|apply yB|apply yC|((first|apply yD|apply yE);(first|exact yF|assumption);iterate 6 exact rfl)|((first|apply yG|apply yH|apply yI);exact rfl;(first|exact yJ|exact yK rfl rfl|exact yL rfl|exact yM rfl|exact rfl|exact aL rfl rfl rfl rfl rfl|exact aS rfl rfl rfl rfl rfl rfl rfl|exact yax ja rfl hk))|((first|apply yN|apply yO|apply yP);exact rfl)|exact yaF|(((first|apply yT|apply yU|apply yV|apply yW);exact rfl;(first|exact .d|exact .e|exact .n|((fail_if_success exact bqt);(fail_if_success exact bqf);exact .b)))<;>intro _)
 generalize s[k]=T at hlo hhi hnm;apply Go.draw;refine Go.qr [(0,[z6])] rfl ?_;repeat' first|(apply Qx.op;exact rfl;exactλ_ _ _=>rfl)
 refine Qx.drawn hr hq rfl rfl rfl (jm 3 gb gb) ?_;rintro _ q1 hq1 ⟨c,hc0,hc1,rfl⟩;repeat' first|(apply Qx.op;exact rfl;exactλ_ _ _=>rfl)
 refine Qx.drawn hr hq1 rfl rfl rfl (jm 5 gb gb) ?_;rintro _ q2 hq2 ⟨pol,hp0,hp1,rfl⟩;repeat' first|(apply Qx.op;exact rfl;exactλ_ _ _=>rfl)
 refine Qx.alloc rfl ⟨[],rfl⟩ ?_;refine .nil ?_;generalize hkd:IntKind.i64.wrap (1+c)=kd;repeat' first|refine X ?_|fail
 have hkc:kd=1\/kd=2\/kd=3:=by
  have:c=0\/c=1\/c=2:=O;rw[<-hkd];rcases this with rfl|rfl|rfl
  ·exact .inl rfl
  ·exact .inr (.inl rfl)
  ·exact .inr (.inr rfl)
 clear hkd
 refine Go.meet (K':=[_,_]) (λfr V=>∃(q:Nat) (rs:List RowD) (w:List Tok) (sets:List SetS) (x3 x4:Ce) (ll:List (Nat×List (List Ce))),q<=code.length/\(rs.length<=3/\∀r∈rs,RowB r)/\(NF x3 (w.map zi)/\w.length<=7/\∀t∈w,bTok 12 t)/\(NF x4 (sets.map ju)/\sets.length<=3/\∀a∈sets,SetB a)/\StS G kd pol T.name rs x3 x4 ll/\
  fr=[(0,.c (.ptr id v 0 0)),(4,.c (.ptr (G.next+0) 0 0 0)),(7,.c (.ptr (G.next+1) 0 0 0))]/\V=E (Rd.go G id v code q) ll) (λK hm=>?_) ?_
 ·rcases hkc with rfl|rfl|rfl
  ·repeat' first|refine X ?_|exact yaF|refine yaS ?_ ?_<;>intro _
   refine Go.drawn hr hq2 rfl rfl rfl (jm 3 gb gb) ?_;rintro _ q3 hq3 ⟨d,hd0,hd1,rfl⟩;have ed:IntKind.i64.wrap (1+d)=1+d:=zk O O;repeat' first|refine X ?_|exact yaF|refine yaS ?_ ?_<;>intro _
   refine Go.keep [0,4,6,7,8] (Go.loops (I:=λm fr V=>∃(d:Int) (q:Nat) (rs:List RowD) (ll:List (Nat×List (List Ce))),m=d.toNat/\q<=code.length/\(rs.length:Int)+d<=3/\0<=d/\(∀r∈rs,RowB r)/\StS G 1 pol T.name rs .nils .nils ll/\
    fr=[(0,.c (.ptr id v 0 0)),(4,.c (.ptr (G.next+0) 0 0 0)),(6,.c (.fp (ja T))),(7,.c (.ptr (G.next+1) 0 0 0)),(8,.c (.int .i64 d))]/\V=E (Rd.go G id v code q) ll) ?_ _ _ _ ⟨1+d,q3,[],_,rfl,hq3,by simp;omega,O,λt ht=>(by cases ht),.inl ⟨rfl,rfl⟩,by rw[ed];rfl,rfl⟩)
   clear hd0 hd1 ed;clear d;rintro m fr V ⟨d,q,rs,ll,rfl,hq,hrd,hd0,hrb,hQS,rfl,rfl⟩ hrec;by_cases hd:d>0
   ·have ed:IntKind.i64.wrap (d-1)=d-1:=zk O O
    have more:∀(t:RowD) (q:Nat) (ll:List (Nat×List (List Ce))) (fr:Fr) (V:jb),RowB t->q<=code.length->StS G 1 pol T.name (rs++[t]) .nils .nils ll->fr=[(0,AV.c (.ptr id v 0 0)),(4,.c (.ptr (G.next+0) 0 0 0)),(6,.c (.fp (ja T))),(7,.c (.ptr (G.next+1) 0 0 0)),(8,.c (.int .i64 (IntKind.i64.wrap (d-1))))]->V=E (Rd.go G id v code q) ll->_:=λt q ll fr V h1 h2 h3 h4 h5=>
     hrec (d-1).toNat fr V O ⟨d-1,q,rs++[t],ll,rfl,h2,by rw[yaqq,ybf];omega,O,λx hx=>by
      rcases List.mem_append.1 hx with hx|hx
      ·exact hrb x hx
      ·rw[List.mem_singleton.1 hx];exact h1,h3,by rw[h4,ed],h5⟩
    clear hrec;rcases hQS with⟨rfl,rfl⟩|⟨u,junk,hj,rfl⟩
    ·repeat' first|apply Go.seq|apply Go.skip|apply Go.region|apply Go.nil|apply Go.block|apply Go.blk|apply Go.segs|(apply Go.exit;exact rfl)|(apply Go.cond true;exact rfl)|(apply Go.cond false;exact rfl)|apply yB|apply yC|((first|apply yD|apply yE);(first|exact yF|assumption);iterate 6 exact rfl)|((first|apply yG|apply yH|apply yI);exact rfl;(first|exact yJ|exact yK rfl rfl|exact yL rfl|exact yM rfl|exact rfl|exact aL rfl rfl rfl rfl rfl|exact aS rfl rfl rfl rfl rfl rfl rfl))|((first|apply yN|apply yO|apply yP);exact rfl)|exact yaF|(((first|apply yT|apply yU|apply yV|apply yW);exact rfl;(first|exact .d|exact .e|exact .n|((fail_if_success exact bqt);(fail_if_success exact bqf);exact .b)))<;>intro _)
     apply Go.draw;refine Go.qr [(0,[z6]),(0,[[.int .i64 1,.str T.name,.nils,.nils,.nils,.int .i64 pol]])] rfl ?_;repeat' first|(apply Qx.op;exact rfl;(first|exactλ_ _ _=>rfl|exact wck (k:=1) rfl rfl rfl rfl rfl))
     refine Qx.drawn hr hq rfl rfl rfl (jkt T O) ?_;rintro _ q4 hq4 ⟨vs,hvl,hvb,rfl⟩;repeat' first|(apply Qx.op;exact rfl;exactλ_ _ _=>rfl)
     refine .nil ?_;repeat' first|(apply yA;exact rfl)|apply yB|apply yC|((first|apply yD|apply yE);(first|exact yF|assumption);iterate 6 exact rfl)|((first|apply yG|apply yH|apply yI);exact rfl;(first|exact yJ|exact yK rfl rfl|exact yL rfl|exact yM rfl|exact zd6 rfl rfl (λe he=>by rw[List.mem_singleton.1 he];rfl) (by simp)|exact rfl|exact aL rfl rfl rfl rfl rfl|exact aS rfl rfl rfl rfl rfl rfl rfl))|((first|apply yN|apply yO|apply yP);exact rfl)|exact yaF|(((first|apply yT|apply yU|apply yV|apply yW);exact rfl;(first|exact .d|exact .e|exact .n|((fail_if_success exact bqt);(fail_if_success exact bqf);exact .b)))<;>intro _)
     exact Go.keep [0,4,6,7,8] (more (⟨0,vs⟩:RowD) q4 _ _ _ ⟨by show vs.length<=60;omega,hvb⟩ hq4 (.inr ⟨0,[],Jk.nil,rfl⟩) rfl rfl)
    ·have hbd:((rs.map jc).length+1)*32<=140737488355328:=by rw[yae];omega
     repeat' first|apply Go.seq|apply Go.skip|apply Go.region|apply Go.nil|apply Go.block|apply Go.blk|apply Go.segs|(apply Go.exit;exact rfl)|(apply Go.cond true;exact rfl)|(apply Go.cond false;exact rfl)|apply yB|apply yC|((first|apply yD|apply yE);(first|exact yF|assumption);iterate 6 exact rfl)|((first|apply yG|apply yH|apply yI);exact rfl;(first|exact yJ|exact yK rfl rfl|exact yL rfl|exact yM rfl|exact rfl|exact aL rfl rfl rfl rfl rfl|exact aS rfl rfl rfl rfl rfl rfl rfl))|((first|apply yN|apply yO|apply yP);exact rfl)|exact yaF|(((first|apply yT|apply yU|apply yV|apply yW);exact rfl;(first|exact .d|exact .e|exact .n|((fail_if_success exact bqt);(fail_if_success exact bqf);exact .b)))<;>intro _)
     apply Go.draw;refine Go.qr [(0,[z6]),(0,[[.int .i64 1,.str T.name,vec (G.next+2) u (rs.map jc) junk,.nils,.nils,.int .i64 pol]]),(u,rs.map jc++junk)] rfl ?_;repeat' first|(apply Qx.op;exact rfl;(first|exactλ_ _ _=>rfl|exact wck (k:=1) rfl rfl rfl rfl rfl))
     refine Qx.drawn hr hq rfl rfl rfl (jkt T O) ?_;rintro _ q4 hq4 ⟨vs,hvl,hvb,rfl⟩;repeat' first|(apply Qx.op;exact rfl;exactλ_ _ _=>rfl)
     refine .nil ?_;refine Go.sapp1 (k:=2) (ys:=rs.map jc) (junk:=junk) (z:=jc (⟨0,vs⟩:RowD)) rfl rfl rfl rfl rfl wat hj rfl hbd λu' junk' hj'=>?_;rw[show rs.map jc++[jc (⟨0,vs⟩:RowD)]=(rs++[(⟨0,vs⟩:RowD)]).map jc by simp];repeat' first|refine X ?_|exact yaF|refine yaS ?_ ?_<;>intro _
     exact Go.keep [0,4,6,7,8] (more (⟨0,vs⟩:RowD) q4 _ _ _ ⟨by show vs.length<=60;omega,hvb⟩ hq4 (.inr ⟨u',junk',hj',rfl⟩) rfl rfl)
   ·clear hrec;repeat' first|refine X ?_|exact yaF|refine yaS ?_ ?_<;>intro _
    exact Go.keep [0,4,7] (hm _ _ ⟨q,rs,[],[],_,_,ll,hq,⟨O,hrb⟩,⟨.inr ⟨rfl,rfl⟩,gx,λt ht=>(by cases ht)⟩,⟨.inr ⟨rfl,rfl⟩,gx,λt ht=>(by cases ht)⟩,hQS,rfl,rfl⟩)
  ·repeat' first|refine X ?_|exact yaF|refine yaS ?_ ?_<;>intro _
   refine Go.drawn hr hq2 rfl rfl rfl (jm T.cols.length O O) ?_;rintro _ q3 hq3 ⟨c1,_,_,rfl⟩;repeat' first|refine X ?_|exact yaF|refine yaS ?_ ?_<;>intro _
   refine Go.drawn hr hq3 rfl rfl rfl (jm 5 gb gb) ?_;rintro _ q4 hq4 ⟨a,_,_,rfl⟩;repeat' first|refine X ?_|((first|apply yQ|apply yR|apply yS);(iterate 3 exact rfl);exact jak _)|((first|apply yQ|apply yR|apply yS);(iterate 3 exact rfl);exact zaa _)|exact yaF|refine yaS ?_ ?_<;>intro _
   refine Go.meet (K':=[_,_]) (λfr V=>∃(q:Nat) (e:List Tok),q<=code.length/\(e.length<=3/\∀t∈e,bTok 12 t)/\
    fr=[(0,.c (.ptr id v 0 0)),(4,.c (.ptr (G.next+0) 0 0 0)),(6,.c (.fp (ja T))),(7,.c (.ptr (G.next+1) 0 0 0)),(9,.c (.int .i64 c1)),(10,.c (.fz (e.map zi)))]/\V=E (Rd.go G id v code q) [(0,[z6]),(0,[[.int .i64 2,.str T.name,.nils,.nils,.nils,.int .i64 pol]])]) (λK hm=>?_) ?_
   ·refine Go.drawn hr hq4 rfl rfl rfl (z3 2 gb gb) ?_;rintro _ q5 hq5 ⟨b,rfl⟩
    cases b
    ·repeat' first|refine X ?_|exact yaF|refine yaS ?_ ?_<;>intro _
     exact Go.keep [0,4,6,7,9,10] (hm _ _ ⟨q5,[zaq (vInt a)],hq5,⟨gx,λt ht=>by rw[List.mem_singleton.1 ht];exact yac _⟩,rfl,rfl⟩)
    ·repeat' first|refine X ?_|((first|apply yQ|apply yR|apply yS);(iterate 3 exact rfl);exact zcz _)|((first|apply yQ|apply yR|apply yS);(iterate 3 exact rfl);exact jak _)|((first|apply yQ|apply yR|apply yS);(iterate 3 exact rfl);exact zaa _)|exact yaF|refine yaS ?_ ?_<;>intro _
     exact Go.keep [0,4,6,7,9,10] (hm _ _ ⟨q5,[tCol c1,zaq (vInt 1),⟨9,0,zf⟩],hq5,⟨gx,λt ht=>by
      simp only[List.mem_cons,List.not_mem_nil,or_false]at ht;rcases ht with rfl|rfl|rfl<;>exact yac _⟩,rfl,rfl⟩)
   ·rintro fr V ⟨q,e,hq,⟨he,heb⟩,rfl,rfl⟩;repeat' first|refine X ?_|exact yaF|refine yaS ?_ ?_<;>intro _
    refine Go.drawn hr hq rfl rfl rfl (jh4 T.cols.length O O) ?_;rintro _ q6 hq6 ⟨w,hw,hwb,rfl⟩;repeat' first|refine X ?_|exact yaF|refine yaS ?_ ?_<;>intro _
    exact Go.keep [0,4,7] (hm _ _ ⟨q6,[],w,[⟨c1,e⟩],_,_,_,hq6,⟨gx,λt ht=>(by cases ht)⟩,⟨.inl rfl,hw,hwb⟩,⟨.inl rfl,gx,λt ht=>by rw[List.mem_singleton.1 ht];exact⟨he,heb⟩⟩,.inl ⟨rfl,rfl⟩,rfl,rfl⟩)
  ·repeat' first|refine X ?_|exact yaF|refine yaS ?_ ?_<;>intro _
   refine Go.drawn hr hq2 rfl rfl rfl (jh4 T.cols.length O O) ?_;rintro _ q6 hq6 ⟨w,hw,hwb,rfl⟩;repeat' first|refine X ?_|exact yaF|refine yaS ?_ ?_<;>intro _
   exact Go.keep [0,4,7] (hm _ _ ⟨q6,[],w,[],_,_,_,hq6,⟨gx,λt ht=>(by cases ht)⟩,⟨.inl rfl,hw,hwb⟩,⟨.inr ⟨rfl,rfl⟩,gx,λt ht=>(by cases ht)⟩,.inl ⟨rfl,rfl⟩,rfl,rfl⟩)
 clear hq hq1 hq2;clear q q1 q2;rintro fr V ⟨q,rs,w,sets,x3,x4,ll,hq,⟨hrl,hrb⟩,⟨h3,hw,hwb⟩,⟨h4,hsl,hsb⟩,hQS,rfl,rfl⟩;repeat' first|refine X ?_|exact yaF|refine yaS ?_ ?_<;>intro _
 refine Go.drawn hr hq rfl rfl rfl (jm 40 gb gb) ?_;rintro _ q1 hq1 ⟨g,_,_,rfl⟩;repeat' first|refine X ?_|fail
 refine Go.meet (K':=[_,_]) (λfr V=>∃(q:Nat) (kd:Int) (nm:List UInt8) (ll:List (Nat×List (List Ce))),q<=code.length/\nm.length<=12/\StS G kd pol nm rs x3 x4 ll/\
  fr=[(4,.c (.ptr (G.next+0) 0 0 0)),(7,.c (.ptr (G.next+1) 0 0 0))]/\V=E (Rd.go G id v code q) ll) (λK hm=>?_) ?_
 ·by_cases h38:g=38
  ·subst h38;rcases hQS with⟨rfl,rfl⟩|⟨u,junk,hj,rfl⟩
   ·repeat' first|refine X ?_|exact yaF|refine yaS ?_ ?_<;>intro _
    exact Go.keep [4,7] (hm _ _ ⟨q1,kd,[120],_,hq1,gb,.inl ⟨rfl,rfl⟩,rfl,rfl⟩)
   ·repeat' first|refine X ?_|exact yaF|refine yaS ?_ ?_<;>intro _
    exact Go.keep [4,7] (hm _ _ ⟨q1,kd,[120],_,hq1,gb,.inr ⟨u,junk,hj,rfl⟩,rfl,rfl⟩)
  ·by_cases h39:g=39
   ·subst h39;repeat' first|refine X ?_|exact yaF|refine yaS ?_ ?_<;>intro _
    refine Go.drawn hr hq1 rfl rfl rfl (wkr 1 3 gb gb gb gb) ?_;rintro _ q2 hq2 ⟨a,rfl⟩;rcases hQS with⟨rfl,rfl⟩|⟨u,junk,hj,rfl⟩
    ·repeat' first|refine X ?_|exact yaF|refine yaS ?_ ?_<;>intro _
     exact Go.keep [4,7] (hm _ _ ⟨q2,a,T.name,_,hq2,hnm,.inl ⟨rfl,rfl⟩,rfl,rfl⟩)
    ·repeat' first|refine X ?_|exact yaF|refine yaS ?_ ?_<;>intro _
     exact Go.keep [4,7] (hm _ _ ⟨q2,a,T.name,_,hq2,hnm,.inr ⟨u,junk,hj,rfl⟩,rfl,rfl⟩)
   ·repeat' first|refine X ?_|exact yaF|refine yaS ?_ ?_<;>intro _
    all_goals first
     |contradiction
     |exact Go.keep [4,7] (hm _ _ ⟨q1,kd,T.name,ll,hq1,hnm,hQS,rfl,rfl⟩)
 clear hQS hq hq1 hkc;clear q q1 ll kd;rintro fr V ⟨q,kd,nm,ll,hq,hn,hQS,rfl,rfl⟩;have hst:zfb 34359738368 ⟨kd,nm,rs,w,sets,pol⟩:=⟨by show nm.length<=_;omega,⟨by show rs.length<=_;omega,λr hr=>⟨by have:=(hrb r hr).1;omega,λv hv=>yai ((hrb r hr).2 v hv) gb⟩⟩,⟨by show w.length<=_;omega,λt ht=>wgt (hwb t ht)⟩,⟨by show sets.length<=_;omega,λa ha=>⟨by have:=(hsb a ha).1;omega,λt ht=>wgt ((hsb a ha).2 t ht)⟩⟩⟩;rcases hQS with⟨rfl,rfl⟩|⟨u,junk,hj,rfl⟩
 ·repeat' first|refine X ?_|exact yaF|refine yaS ?_ ?_<;>intro _
  refine .ret (zay (k:=0) (x:=.agg [.int .i64 kd,.str nm,.nils,x3,x4,.int .i64 pol]) rfl rfl rfl (yac _) rfl) (.f hq ⟨⟨kd,nm,[],w,sets,pol⟩,hst,rfl⟩ (.agg rfl λi hi=>?_));have hi6:i<6:=hi;have:i=0\/i=1\/i=2\/i=3\/i=4\/i=5:=O;rcases this with rfl|rfl|rfl|rfl|rfl|rfl
  ·exact .same _ (.int _ _)
  ·exact .same _ (.str _)
  ·exact .nil
  ·exact h3.frz (j8 wb3)
  ·exact h4.frz (jic _)
  ·exact .same _ (.int _ _)
 ·repeat' first|refine X ?_|exact yaF|refine yaS ?_ ?_<;>intro _
  refine .ret (zay (k:=0) (x:=.agg [.int .i64 kd,.str nm,vec (G.next+2) u (rs.map jc) junk,x3,x4,.int .i64 pol]) rfl rfl rfl (yac _) rfl) (.f hq ⟨⟨kd,nm,rs,w,sets,pol⟩,hst,rfl⟩ (.agg rfl λi hi=>?_));have hi6:i<6:=hi;have:i=0\/i=1\/i=2\/i=3\/i=4\/i=5:=O;rcases this with rfl|rfl|rfl|rfl|rfl|rfl
  ·exact .same _ (.int _ _)
  ·exact .same _ (.str _)
  ·have hz:=wav (G:=Rd.go G id v code q) (l:=[(0,[[.int .i64 kd,.str nm,vec (G.next+2) u (rs.map jc) junk,x3,x4,.int .i64 pol]]),(0,[[.int .i64 kd,.str nm,vec (G.next+2) u (rs.map jc) junk,x3,x4,.int .i64 pol]]),(u,rs.map jc++junk)]) (k:=2) (v:=u) (N:=G.next) (ys:=rs.map jc) (junk:=junk) rfl (zjv _) (ybc _ _)
   cases hz with
   |c h=>exact h
  ·exact h3.frz (j8 wb3)
  ·exact h4.frz (jic _)
  ·exact .same _ (.int _ _)
theorem jjv{code:List UInt8}{q:Nat}:E (Rd.go (E G [(0,rdB code 0)]) (G.next+0) 0 code q) l=E G ((0,rdB code q)::l):=by
 have:Rd.go (E G [(0,rdB code 0)]) (G.next+0) 0 code q=E G [(0,rdB code q)]:=wi8 gx;rw[this,E_E]
 rfl
theorem wjv(x:Stmt):∀y∈zg x,Old n y:=λy hy=>by
 simp only[zg,List.mem_cons,List.not_mem_nil,or_false]at hy;rcases hy with rfl|rfl|rfl|rfl|rfl|rfl
 ·exact .int _ _
 ·exact .str _
 ·exact jl (zjv _)
 ·exact jl (j8 wb3)
 ·exact jl (jic _)
 ·exact .int _ _
theorem zjw(x:Stmt):∀y∈(AV.agg (zg x)).all,Old n y:=wjv x
def wec(u v:wc)(x:je):Bool:=jbn x.when_ (2*u.cols.length)&&(decide ((x.terms.length:Int)=v.cols.length)&&zf3 x.terms (2*u.cols.length))
def zbp(s:List wc)(x:je):Bool:=match whf s x.table,whf s x.into with
 |some u,some v=>isIn x.event 1 3&&wec u v x
 |_,_=>false
def wj(s:List wc)(l:List je):Bool:=wl s&&(decide ((l.length:Int)<=6)&& !(l.any λx=> !zbp s x))
theorem zk9(h:k<=8):IntKind.i64.wrap (2*(k:Int))=2*k:=zk O O
theorem jhm(s:List wc)(x:je)(hs:wl s=true)(hx:s.length<=34359738368)(hq:jap 34359738368 x):Pure Tryz.prog 184 [.c (.fz (s.map ja)),.agg (zd x)] (.c (.bool (zbp s x))):=by
 refine yaq [3] zef λG=>?_;obtain⟨q1,q2,q3,q4⟩:=hq;have c1:=jae s x.table hx;have c2:=jae s x.into hx;rcases zbn (p:=λu:wc=>u.name==x.table) (l:=s) (i:=0) (yaz _)with hi|⟨n,hn,hi,hp⟩
 ·have hno:zbp s x=false:=by rw[zbp,jbv hi]
  rw[hi]at c1;repeat' first|refine X ?_|refine yaC (c1) ?_|((first|apply Go.pcallI|apply Go.spcallI|apply Qg.pcallI);(iterate 3 exact rfl);exact c2;intro _ _)|exact yaF|refine yaS ?_ ?_<;>intro _
  exact .ret rfl (.bool hno.symm)
 rw[Int.zero_add]at hi;have hyes:=za0 hi hn;have hnz:¬((n:Int)<0):=O;rw[hi]at c1;rcases zbn (p:=λu:wc=>u.name==x.into) (l:=s) (i:=0) (yaz _)with hj|⟨m,hm,hj,hr⟩
 ·have hno:zbp s x=false:=by rw[zbp,jbv hj,hyes]
  rw[hj]at c2;repeat' first|refine X ?_|refine yaC (c1) ?_|refine yaC (c2) ?_|exact yaF|refine yaS ?_ ?_<;>intro _
  all_goals exact .ret rfl (.bool hno.symm)
 rw[Int.zero_add]at hj;have hyes2:=za0 hj hm;have hmz:¬((m:Int)<0):=O;rw[hj]at c2;have hc:=zax hs _ (yaa hn);have hw:=zk9 hc.2;have hres:zbp s x=(isIn x.event 1 3&&wec s[n] s[m] x):=by rw[zbp,hyes,hyes2]
 rw[hres];repeat' first|refine X ?_|((first|apply yG|apply yH|apply yI);exact rfl;(first|exact yax ja rfl hn|exact yax ja rfl hm))|refine yaC (c1) ?_|refine yaC (c2) ?_|((first|apply Go.pcallB|apply Go.spcallB|apply Qg.pcallB);(iterate 3 exact rfl);(first|exact jem _ _ _|exact jh6 x.terms (IntKind.i64.wrap (2*(s[n].cols.length:Int))) q4.1 q4.2 O O|exact jf3 x.when_ (IntKind.i64.wrap (2*(s[n].cols.length:Int))) q2.1 O O);intro _ _)|exact yaF|refine yaS ?_ ?_<;>intro _
 ·rename_i b p k;refine .ret rfl (.bool ?_);rw[nbT p k]
  rfl
 all_goals refine .ret rfl (.bool ?_)
 all_goals rw[wec,<-hw]
 all_goals clear c1 c2
 all_goals simp_all
theorem wfw(s:List wc)(x:je)(hs:wl s=true)(hx:s.length<=34359738368)(hq:jap 34359738368 x):Pure Tryz.prog 183 [.agg (zd x),.c (.fp [.fz (s.map ja)])] (.c (.bool (!zbp s x))):=by
 refine yaq [2] zdc λG=>?_;repeat' first|refine X ?_|refine yaC (jhm s x hs hx hq) ?_|exact yaF|refine yaS ?_ ?_<;>intro _
 exact .ret rfl (.bool rfl)
theorem zgu(s:List wc)(l:List je)(hx:s.length<=34359738368)(hb:∀t∈s,wad 34359738368 t)(hl:l.length<=34359738368)(hq:∀x∈l,jap 34359738368 x):Pure Tryz.prog 81 [.c (.fz (s.map ja)),.c (.fz (l.map zd))] (.c (.bool (wj s l))):=by
 refine yaq [2] wdx λG=>?_;have c1:=zcb s hx hb
 cases hs:wl s
 ·rw[hs]at c1;repeat' first|refine X ?_|refine yaC (c1) ?_|exact yaF|refine yaS ?_ ?_<;>intro _
  refine .ret rfl (.bool ?_);rw[wj,hs]
  rfl
 rw[hs]at c1;repeat' first|refine X ?_|refine yaC (c1) ?_|((first|apply Go.pcallB|apply Go.spcallB|apply Qg.pcallB);(iterate 3 exact rfl);exact wi mixed ja2 jbd zd (λu=>.agg (zd u)) (λ_=>rfl) (λ_=>rfl) l (λx=> !zbp s x) _ [] [.fp [.fz (s.map ja)]] hl (λj hj _=>wfw s _ hs hx (hq _ (yaa hj)));intro _ _)|exact yaF|refine yaS ?_ ?_<;>intro _
 all_goals refine .ret rfl (.bool ?_)
 all_goals rw[wj,hs]
 all_goals clear c1
 ·rename_i h b hb;rw[decide_eq_true O,hb];simp
 ·rw[decide_eq_false O]
  rfl
theorem jkm(s:List wc)(x:je)(hs:wl s=true)(hx:s.length<=34359738368)(hq:jap 34359738368 x):Pure Tryz.prog 158 [.c (.fz (s.map ja)),.agg (zd x)] (.c (.bool (zbp s x))):=by
 refine yaq [3] zg5 λG=>?_;obtain⟨q1,q2,q3,q4⟩:=hq;have c1:=zcq s x.table hx;have c2:=zcq s x.into hx;rcases zbn (p:=λu:wc=>u.name==x.table) (l:=s) (i:=0) (yaz _)with hi|⟨n,hn,hi,hp⟩
 ·have hno:zbp s x=false:=by rw[zbp,jbv hi]
  rw[hi]at c1;repeat' first|refine X ?_|refine yaC (c1) ?_|((first|apply Go.pcallI|apply Go.spcallI|apply Qg.pcallI);(iterate 3 exact rfl);exact c2;intro _ _)|exact yaF|refine yaS ?_ ?_<;>intro _
  exact .ret rfl (.bool hno.symm)
 rw[Int.zero_add]at hi;have hyes:=za0 hi hn;have hnz:¬((n:Int)<0):=O;rw[hi]at c1;rcases zbn (p:=λu:wc=>u.name==x.into) (l:=s) (i:=0) (yaz _)with hj|⟨m,hm,hj,hr⟩
 ·have hno:zbp s x=false:=by rw[zbp,jbv hj,hyes]
  rw[hj]at c2;repeat' first|refine X ?_|refine yaC (c1) ?_|refine yaC (c2) ?_|exact yaF|refine yaS ?_ ?_<;>intro _
  all_goals exact .ret rfl (.bool hno.symm)
 rw[Int.zero_add]at hj;have hyes2:=za0 hj hm;have hmz:¬((m:Int)<0):=O;rw[hj]at c2;have hc:=zax hs _ (yaa hn);have hw:=zk9 hc.2;have hres:zbp s x=(isIn x.event 1 3&&wec s[n] s[m] x):=by rw[zbp,hyes,hyes2]
 rw[hres];repeat' first|refine X ?_|((first|apply yG|apply yH|apply yI);exact rfl;(first|exact yax ja rfl hn|exact yax ja rfl hm))|refine yaC (c1) ?_|refine yaC (c2) ?_|((first|apply Go.pcallB|apply Go.spcallB|apply Qg.pcallB);(iterate 3 exact rfl);exact zav _ _ _;intro _ _)|exact yaF|refine yaS ?_ ?_<;>intro _
 ·rename_i b p k;refine .ret rfl (.bool ?_);rw[nbT p k]
  rfl
 ·rename_i b p k h;refine .ret rfl (.bool ?_);rw[wec,decide_eq_false h];simp
 rename_i b p k hlen;have hlen:(x.terms.length:Int)=s[m].cols.length:=O;have hres2:(isIn x.event 1 3&&wec s[n] s[m] x)=(jbn x.when_ (IntKind.i64.wrap (2*s[n].cols.length))&&zf3 x.terms (IntKind.i64.wrap (2*s[n].cols.length))):=by
  rw[nbF p k,wec,decide_eq_true hlen,hw];simp
 rw[hres2];clear hres hres2 p hyes hyes2 hi hj hp hr c1 c2 hlen hnz hmz;have hex:∀e:List Tok,e.length<=34359738368->Pure Tryz.prog 145 [.c (.fz (e.map zi)),.c (.int .i64 (IntKind.i64.wrap (2*s[n].cols.length)))] (.c (.bool (jao e (IntKind.i64.wrap (2*s[n].cols.length))))):=λe he=>je7 e _ he O O;clear k
 refine Go.keep [3,7,8] (Go.loops (I:=λm fr V=>∃i:Nat,∃k:Int,m=x.terms.length-i/\i<=x.terms.length/\k=i/\(∀j (hj:j<x.terms.length),j<i->jao x.terms[j].expr (IntKind.i64.wrap (2*s[n].cols.length))=true)/\
  fr=[(3,.c (.fp (zd x))),(7,.c (.int .i64 (IntKind.i64.wrap (2*s[n].cols.length)))),(8,.c (.int .i64 k))]/\V=E G []) ?_ _ _ _ ⟨0,_,rfl,yac _,rfl,λj _ h=>absurd h O,rfl,rfl⟩)
 rintro m' fr V ⟨i,k,rfl,hi2,hk,hall,rfl,rfl⟩ hrec;generalize IntKind.i64.wrap (2*(s[n].cols.length:Int))=W at hex hall hrec⊢;by_cases hlt:i<x.terms.length
 ·repeat' first|refine X ?_|((first|apply yG|apply yH|apply yI);exact rfl;(first|exact yax zt hk hlt))|((first|apply Go.pcallB|apply Go.spcallB|apply Qg.pcallB);(iterate 3 exact rfl);exact hex x.terms[i].expr (q4.2 _ (yaa hlt)).1;intro _ _)|exact yaF|refine yaS ?_ ?_<;>intro _
  ·rename_i c p k4;refine .ret rfl (.bool ?_);rw[zf3,jf1 (p:=λx:Term=>jao x.expr W) hlt (nbT p k4)];simp
  ·rename_i c p k4;exact Go.keep [3,7,8] (hrec _ _ _ O ⟨i+1,_,rfl,hlt,wb hk O,upto (p:=λx:Term=>jao x.expr W) hall hlt (nbF p k4),rfl,rfl⟩)
 have hterms:=wbh (p:=λx:Term=>jao x.expr W) (l:=x.terms) λj hj=>hall j hj O;clear hrec hall;rw[zf3,hterms];repeat' first|refine X ?_|((first|apply Go.pcallB|apply Go.spcallB|apply Qg.pcallB);(iterate 3 exact rfl);exact hex x.when_ q2.1;intro _ _)|exact yaF|refine yaS ?_ ?_<;>intro _
 all_goals refine .ret rfl (.bool ?_)
 ·rename_i h;rw[jbn,h]
  rfl
 ·rename_i h b hb;rw[jbn,hb,beq_eq_false_iff_ne.2 h];simp
theorem zfx(s:List wc)(l:List je)(hx:s.length<=34359738368)(hb:∀t∈s,wad 34359738368 t)(hl:l.length<=34359738368)(hq:∀x∈l,jap 34359738368 x):Pure Tryz.prog 64 [.c (.fz (s.map ja)),.c (.fz (l.map zd))] (.c (.bool (wj s l))):=by
 refine yaq [] zdx λG=>?_;have c1:=zcs s hx hb
 cases hs:wl s
 ·rw[hs]at c1;repeat' first|refine X ?_|exact yaF|refine yaS ?_ ?_<;>intro _
  refine Go.keep [0,1,5] (Go.loops (I:=λm fr V=>fr=[(0,.c (.fz (s.map ja))),(1,.c (.fz (l.map zd))),(5,.c (.int .i64 0))]/\V=E G []) ?_ 0 _ _ ⟨rfl,rfl⟩);rintro m' fr V ⟨rfl,rfl⟩ hrec;repeat' first|refine X ?_|refine yaC (c1) ?_|exact yaF|refine yaS ?_ ?_<;>intro _
  refine .ret rfl (.bool ?_);rw[wj,hs]
  rfl
 rw[hs]at c1;repeat' first|refine X ?_|exact yaF|refine yaS ?_ ?_<;>intro _
 refine Go.keep [0,1,5] (Go.loops (I:=λm fr V=>∃i:Nat,∃k:Int,m=l.length-i/\i<=l.length/\k=i/\(∀j (hj:j<l.length),j<i->zbp s l[j]=true)/\
  fr=[(0,.c (.fz (s.map ja))),(1,.c (.fz (l.map zd))),(5,.c (.int .i64 k))]/\V=E G []) ?_ _ _ _ ⟨0,_,rfl,yac _,rfl,λj _ h=>absurd h O,rfl,rfl⟩)
 rintro m' fr V ⟨i,k,rfl,hi2,hk,hall,rfl,rfl⟩ hrec;by_cases hlt:i<l.length
 ·repeat' first|refine X ?_|((first|apply yG|apply yH|apply yI);exact rfl;(first|exact yax zd hk hlt))|refine yaC (c1) ?_|((first|apply Go.pcallB|apply Go.spcallB|apply Qg.pcallB);(iterate 3 exact rfl);exact jkm s l[i] hs hx (hq _ (yaa hlt));intro _ _)|exact yaF|refine yaS ?_ ?_<;>intro _
  ·rename_i c p k4;refine .ret rfl (.bool ?_);rw[wj,jf1 (p:=λx:je=>zbp s x) hlt (nbT p k4)];simp
  ·rename_i c p k4;exact Go.keep [0,1,5] (hrec _ _ _ O ⟨i+1,_,rfl,hlt,wb hk O,upto (p:=λx:je=>zbp s x) hall hlt (nbF p k4),rfl,rfl⟩)
 have hterms:=wbh (p:=λx:je=>zbp s x) (l:=l) λj hj=>hall j hj O;clear hrec hall;repeat' first|refine X ?_|refine yaC (c1) ?_|exact yaF|refine yaS ?_ ?_<;>intro _
 refine .ret rfl (.bool ?_);rw[wj,hs,hterms];simp
theorem jio{s v i m c:Nat}{x:Opd}{u:Ce}{es:List (List Ce)}(hx:x.ev fr=some (.c (.sl (G.next+k) v i m c)))(hy:y.ev fr=some (.c u))(hu:(E G l).els u=some zs)(hl:l[k]?=some (v,es))(hi:i+m<=es.length)(hes:∀e∈es,e.length=s)(hzs:∀e∈zs,e.length=s)(hz:zs.length<=m):
 aop (.copy s x y) fr (E G l)=some (.c (.int .i64 zs.length),E G (l.set k (v,jh es i zs))):=by
 have hk:k<l.length:=(List.getElem?_eq_some_iff.1 hl).1;simp only[aop,hx,hy,jck hl,hu];rw[if_pos ⟨trivial,hi,hes,hzs,hz⟩,wi8 hk]
variable {z:List Ce}
theorem jgu{c:Nat}(hl:l[k]?=some (0,List.replicate n z)):(E G l).els (.sl (G.next+k) 0 0 n c)=some (List.replicate n z):=by
 simp only[jb.els,jck hl,List.length_replicate,Nat.zero_add,Nat.le_refl,and_self,if_true,List.drop_zero];rw[yao gx]
def wgu(n:Nat):List Val:=List.replicate n zf
def half(n:Nat)(l:List Val):List Val:=if l=[]then wgu n else l
def zat(n:Nat)(old now:List Val):List Val:=half n old++half n now
theorem zfl(n:Nat):(wgu n).map encV=List.replicate n [Ce.int .i64 0,.int .i64 0,.str []]:=by
 rw[wgu,List.map_replicate]
 rfl
theorem zbw(n:Nat):half n []=wgu n:=rfl
theorem jbp(n:Nat){l:List Val}(h:l≠[]):half n l=l:=by rw[half,if_neg h]
theorem jjw{l:List Val}(h:l≠[]):¬((l.length:Int)=0):=by
 cases l with
 |nil=>exact absurd rfl h
 |cons a l=>simp only[List.length_cons];omega
theorem jfl{v:Nat}{ys:List Val}{junk:List (List Ce)}(e:zs=ys.map encV)(hl:l[0]?=some (v,zs++junk)):Fin G (.c (.fz (ys.map encV))) (.c (vec (G.next+0) v zs junk)) (E G l):=
 ⟨l,rfl,by subst e;exact wbm (k:=0) hl (yaf _)⟩
theorem wic(n:Nat)(old now:List Val)(hn:n<=8)(ho:old.length<=8)(hw:now.length<=8):Pure Tryz.prog 191 [.c (.int .i64 (n:Int)),.c (.fz (old.map encV)),.c (.fz (now.map encV))] (.c (.fz ((zat n old now).map encV))):=by
 refine yaq [] whw λG=>?_;have hmk:32*n<=140737488355328:=O;have hrl:∀e∈List.replicate n [Ce.int .i64 0,.int .i64 0,.str []],e.length=3:=λe he=>by rw[ybo he];rfl
 have hlo:(old.map encV).length=old.length:=yae _;have hlw:(now.map encV).length=now.length:=yae _;have hlr:(List.replicate n [Ce.int IntKind.i64 0,.int .i64 0,.str []]).length=n:=ybi;by_cases h1:old=[]
 ·subst h1;by_cases h2:now=[]
  ·subst h2;repeat' first|refine X ?_|((first|apply yG|apply yH|apply yI);exact rfl;(first|exact zw rfl rfl hmk))|exact yaF|refine yaS ?_ ?_<;>intro _
   apply Go.loop;repeat' first|refine X ?_|((first|apply yG|apply yH|apply yI);exact rfl;(first|exact zw rfl rfl hmk))|exact yaF|refine yaS ?_ ?_<;>intro _
   refine Go.app (k:=0) (ys:=[]) (junk:=[]) (zs:=List.replicate n [Ce.int .i64 0,.int .i64 0,.str []]) rfl rfl rfl (jgu (k:=1) rfl) rfl (λe he=>by simp at he) Jk.nil hrl gq λv1 j1 hj1=>?_;repeat' first|refine X ?_|exact yaF|refine yaS ?_ ?_<;>intro _
   apply Go.lp;repeat' first|refine X ?_|((first|apply yG|apply yH|apply yI);exact rfl;(first|exact zw rfl rfl hmk))|exact yaF|refine yaS ?_ ?_<;>intro _
   refine Go.app (k:=0) (ys:=[]++List.replicate n [Ce.int .i64 0,.int .i64 0,.str []]) (junk:=j1) (zs:=List.replicate n [Ce.int .i64 0,.int .i64 0,.str []]) rfl rfl rfl (jgu (k:=2) rfl) rfl hrl hj1 hrl gq λv2 j2 hj2=>?_;repeat' first|refine X ?_|exact yaF|refine yaS ?_ ?_<;>intro _
   apply Go.lp;repeat' first|refine X ?_|exact yaF|refine yaS ?_ ?_<;>intro _
   refine .ret rfl (jfl ?_ rfl);simp only[zat,zbw,zbw,List.map_append,List.nil_append,zfl]
  ·have hw0:=jjw h2;repeat' first|refine X ?_|((first|apply yG|apply yH|apply yI);exact rfl;(first|exact zw rfl rfl hmk))|exact yaF|refine yaS ?_ ?_<;>intro _
   apply Go.loop;repeat' first|refine X ?_|((first|apply yG|apply yH|apply yI);exact rfl;(first|exact zw rfl rfl hmk))|exact yaF|refine yaS ?_ ?_<;>intro _
   refine Go.app (k:=0) (ys:=[]) (junk:=[]) (zs:=List.replicate n [Ce.int .i64 0,.int .i64 0,.str []]) rfl rfl rfl (jgu (k:=1) rfl) rfl (λe he=>by simp at he) Jk.nil hrl gq λv1 j1 hj1=>?_;repeat' first|refine X ?_|exact yaF|refine yaS ?_ ?_<;>intro _
   apply Go.lp;repeat' first|refine X ?_|((first|apply yG|apply yH|apply yI);exact rfl;(first|exact zw rfl rfl hmk))|exact yaF|refine yaS ?_ ?_<;>intro _
   refine Go.app (k:=0) (ys:=[]++List.replicate n [Ce.int .i64 0,.int .i64 0,.str []]) (junk:=j1) (zs:=now.map encV) rfl rfl rfl rfl rfl hrl hj1 lens gq λv2 j2 hj2=>?_;repeat' first|refine X ?_|exact yaF|refine yaS ?_ ?_<;>intro _
   apply Go.lp;repeat' first|refine X ?_|exact yaF|refine yaS ?_ ?_<;>intro _
   refine .ret rfl (jfl ?_ rfl);simp only[zat,zbw,jbp n h2,List.map_append,List.nil_append,zfl]
 ·have ho0:=jjw h1;by_cases h2:now=[]
  ·subst h2;repeat' first|refine X ?_|((first|apply yG|apply yH|apply yI);exact rfl;(first|exact zw rfl rfl hmk))|exact yaF|refine yaS ?_ ?_<;>intro _
   apply Go.loop;repeat' first|refine X ?_|((first|apply yG|apply yH|apply yI);exact rfl;(first|exact zw rfl rfl hmk))|exact yaF|refine yaS ?_ ?_<;>intro _
   refine Go.app (k:=0) (ys:=[]) (junk:=[]) (zs:=old.map encV) rfl rfl rfl rfl rfl (λe he=>by simp at he) Jk.nil lens gq λv1 j1 hj1=>?_;repeat' first|refine X ?_|exact yaF|refine yaS ?_ ?_<;>intro _
   apply Go.lp;repeat' first|refine X ?_|((first|apply yG|apply yH|apply yI);exact rfl;(first|exact zw rfl rfl hmk))|exact yaF|refine yaS ?_ ?_<;>intro _
   refine Go.app (k:=0) (ys:=[]++old.map encV) (junk:=j1) (zs:=List.replicate n [Ce.int .i64 0,.int .i64 0,.str []]) rfl rfl rfl (jgu (k:=1) rfl) rfl lens hj1 hrl gq λv2 j2 hj2=>?_;repeat' first|refine X ?_|exact yaF|refine yaS ?_ ?_<;>intro _
   apply Go.lp;repeat' first|refine X ?_|exact yaF|refine yaS ?_ ?_<;>intro _
   refine .ret rfl (jfl ?_ rfl);simp only[zat,jbp n h1,zbw,List.map_append,List.nil_append,zfl]
  ·have hw0:=jjw h2;repeat' first|refine X ?_|((first|apply yG|apply yH|apply yI);exact rfl;(first|exact zw rfl rfl hmk))|exact yaF|refine yaS ?_ ?_<;>intro _
   apply Go.loop;repeat' first|refine X ?_|((first|apply yG|apply yH|apply yI);exact rfl;(first|exact zw rfl rfl hmk))|exact yaF|refine yaS ?_ ?_<;>intro _
   refine Go.app (k:=0) (ys:=[]) (junk:=[]) (zs:=old.map encV) rfl rfl rfl rfl rfl (λe he=>by simp at he) Jk.nil lens gq λv1 j1 hj1=>?_;repeat' first|refine X ?_|exact yaF|refine yaS ?_ ?_<;>intro _
   apply Go.lp;repeat' first|refine X ?_|((first|apply yG|apply yH|apply yI);exact rfl;(first|exact zw rfl rfl hmk))|exact yaF|refine yaS ?_ ?_<;>intro _
   refine Go.app (k:=0) (ys:=[]++old.map encV) (junk:=j1) (zs:=now.map encV) rfl rfl rfl rfl rfl lens hj1 lens gq λv2 j2 hj2=>?_;repeat' first|refine X ?_|exact yaF|refine yaS ?_ ?_<;>intro _
   apply Go.lp;repeat' first|refine X ?_|exact yaF|refine yaS ?_ ?_<;>intro _
   refine .ret rfl (jfl ?_ rfl);simp only[zat,jbp n h1,jbp n h2,List.map_append,List.nil_append]
theorem whm{s:Nat}{q:Int}{x:Opd}(hx:x.ev fr=some (.c (.int .i64 q)))(hy:y.ev fr=some (.c (.int .i64 q)))(hq:q=(n:Int))(hb:bytes*n<=140737488355328):
 aop (.mkslice s bytes z x y) fr (E G l)=some (.c (.sl (G.next+l.length) 0 0 n n),E G (l++[(0,List.replicate n z)])):=by
 subst hq;exact zw hx hy hb
variable {N:Nat}{old:List Val}
theorem zid(hz:z=encV zf)(ho:old=[]\/old.length=N):jh (List.replicate (2*N) z) 0 (old.map encV)=(half N old).map encV++List.replicate N z:=by
 subst hz;rw[jh,List.take_zero,ybl,ybk,yae,List.drop_replicate];by_cases h:old=[]
 ·subst h;rw[zbw,wgu,List.map_replicate,List.map_nil,ybl,List.replicate_append_replicate,List.length_nil]
  congr 1
  omega
 ·rcases ho with ho|ho
  ·exact absurd ho h
  ·rw[jbp N h,ho]
   congr 2
   omega
theorem ja9(ho:old=[]\/old.length=N):(half N old).length=N:=by
 rcases ho with ho|ho
 ·subst ho;simp[zbw,wgu]
 ·by_cases h:old=[]
  ·subst h;simp[zbw,wgu]
  ·rw[jbp N h,ho]
theorem zhn{now:List Val}(hz:z=encV zf)(ho:old=[]\/old.length=N)(hw:now=[]\/now.length=N):jh ((half N old).map encV++List.replicate N z) (0+N) (now.map encV)=(zat N old now).map encV:=by
 subst hz;have hl:((half N old).map encV).length=N:=by rw[yae,ja9 ho]
 rw[jh,ybk,List.take_left' hl,zat,yak,yae,ybn]
 congr 1
 rw[List.drop_append,yad O,hl,ybl,List.drop_replicate];by_cases h:now=[]
 ·subst h;rw[zbw,wgu,List.map_replicate,List.map_nil,ybl,List.length_nil]
  congr 1
  omega
 ·rcases hw with hw|hw
  ·exact absurd hw h
  ·rw[jbp N h,hw,show N-(N+N-N)=0 by omega];simp
theorem jhn(t:wc)(old now:List Val)(hc:t.cols.length<=8)(ho:old=[]\/old.length=t.cols.length)(hw:now=[]\/now.length=t.cols.length):Pure Tryz.prog 261 [.agg (ja t),.c (.fz (old.map encV)),.c (.fz (now.map encV))] (.c (.fz ((zat t.cols.length old now).map encV))):=by
 refine yaq [3] wgi λG=>?_;generalize hN:t.cols.length=N at*;have hq:IntKind.i64.wrap (2*(t.cols.length:Int))=((2*N:Nat):Int):=by rw[zk9 O,hN];omega
 have hmk:32*(2*N)<=140737488355328:=O;have hrl:∀e∈List.replicate (2*N) [Ce.int .i64 0,.int .i64 0,.str []],e.length=3:=λe he=>by rw[ybo he];rfl
 have hrl2:∀e∈(half N old).map encV++List.replicate N [Ce.int .i64 0,.int .i64 0,.str []],e.length=3:=λe he=>(List.mem_append.1 he).elim (lens e) λh=>by rw[ybo h];rfl
 have hlo:(old.map encV).length<=2*N:=by
  rw[yae];rcases ho with rfl|ho
  ·simp
  ·omega
 have hlw:(now.map encV).length<=2*N-N:=by
  rw[yae];rcases hw with rfl|hw
  ·simp
  ·omega
 have e1:=zid (z:=[Ce.int .i64 0,.int .i64 0,.str []]) rfl ho;have e2:=zhn (z:=[Ce.int .i64 0,.int .i64 0,.str []]) rfl ho hw;have hl1:((half N old).map encV++List.replicate N [Ce.int .i64 0,.int .i64 0,.str []]).length=2*N:=by rw[yaqq,yae,ja9 ho,ybi];omega
 repeat' first|refine X ?_|((first|apply yG|apply yH|apply yI);exact rfl;(first|exact whm rfl rfl hq hmk))|exact yaF|refine yaS ?_ ?_<;>intro _
 refine Go.op rfl (jio (k:=0) (zs:=old.map encV) rfl rfl rfl rfl gx hrl lens hlo) ?_;rw[show(([]++[(0,List.replicate (2*N) [Ce.int .i64 0,.int .i64 0,.str []])]:List (Nat×List (List Ce))).set 0 (0,jh (List.replicate (2*N) [Ce.int .i64 0,.int .i64 0,.str []]) 0 (old.map encV)))=[(0,(half N old).map encV++List.replicate N [Ce.int .i64 0,.int .i64 0,.str []])] by rw[<-e1];rfl];have hNi:(t.cols.length:Int)=(N:Int):=O;repeat' first|refine X ?_|((first|apply yG|apply yH|apply yI);exact rfl;(first|exact zck (l:=N) (h:=2*N) (m:=2*N) rfl rfl rfl rfl (zex hNi) rfl rfl (jck (k:=0) rfl) hrl2 O (yaf _) (yaf _)))|exact yaF|refine yaS ?_ ?_<;>intro _
 refine Go.op rfl (jio (k:=0) (i:=0+N) (m:=2*N-N) (zs:=now.map encV) rfl rfl rfl rfl (by rw[hl1];omega) hrl2 lens hlw) ?_;repeat' first|refine X ?_|exact yaF|refine yaS ?_ ?_<;>intro _
 have hlen:((zat N old now).map encV).length=2*N:=by rw[yae,zat,yaqq,ja9 ho,ja9 hw];omega
 refine .ret (v:=.c (.sl (G.next+0) 0 0 (2*N) (2*N))) rfl ?_;have hv:Ce.sl (G.next+0) 0 0 (2*N) (2*N)=vec (G.next+0) 0 ((zat N old now).map encV) []:=by rw[vec,hlen];rfl
 rw[hv];refine jfl rfl ?_;rw[ybe,<-e2]
 rfl
def za2(p:je->Bool):List je->Int->List Int->List Int
 |[],_,acc=>acc
 |x::l,i,acc=>za2 p l (i+1) (if p x then acc++[i]else acc)
def wao(t:wc)(ev:Int)(vals:List Val)(x:je):Bool:=x.table==t.name&&(x.event==ev&&((x.when_.length:Int)==0||wb2 x.when_ vals==1))
def jac(t:wc)(l:List je)(ev:Int)(old now:List Val):List Int:=za2 (wao t ev (zat t.cols.length old now)) l 0 []
theorem zgv(s:List wc)(l:List je)(n:Int)(m:Nat)(ev:Int)(old now:List Val)(hn:n=(m:Int))(hm:m<s.length)(hc:s[m].cols.length<=8)(hx:l.length<=1048576)(hb:∀x∈l,x.when_.length<=34359738368)(ho:old.length<=8)(hw:now.length<=8)(G:jb):
 Ok Tryz.prog 190 [.c (.fz (s.map ja)),.c (.fz (l.map zd)),.c (.int .i64 n),.c (.int .i64 ev),.c (.fz (old.map encV)),.c (.fz (now.map encV))] G (NewV G (.c (.fz ((jac s[m] l ev old now).map encI)))):=by
 refine Ok.run mixed wez gz λhS hA=>?_;clear hS hA;have cs:=wic s[m].cols.length old now hc ho hw;have hbl:(zat s[m].cols.length old now).length<=34359738368:=by
  have:∀q:List Val,q.length<=8->(half s[m].cols.length q).length<=8:=λq h=>by
   rw[half];split
   ·rw[wgu,ybi];exact hc
   ·exact h
  have h1:=this old ho;have h2:=this now hw;rw[zat,yaqq];omega
 rw[jac];generalize zat s[m].cols.length old now=vals at cs hbl⊢;repeat' first|refine X ?_|((first|apply yG|apply yH|apply yI);exact rfl;(first|exact yax ja hn hm))|refine yaC (cs) ?_|exact yaF|refine yaS ?_ ?_<;>intro _
 refine Go.keep [0,2,3,13,14,27,28,29] (Go.loops (I:=λq fr V=>∃(i:Nat) (k:Int) (ids:List Int) (v:Nat) (junk:List (List Ce)),q=l.length-i/\i<=l.length/\k=i/\Jk 1 junk/\(ids.length<=i/\za2 (wao s[m] ev vals) l 0 []=za2 (wao s[m] ev vals) (l.drop i) k ids)/\
  fr=[(0,.c (.fz (s.map ja))),(2,.c (.int .i64 n)),(3,.c (.int .i64 ev)),(13,.c (vec (G.next+0) v (ids.map encI) junk)),(14,.c (.fz (vals.map encV))),(27,.c (.fz (l.map zd))),(28,.c (.int .i64 (l.length:Int))),(29,.c (.int .i64 k))]/\V=E G [(v,ids.map encI++junk)]) ?_ _ _ _ ⟨0,_,[],0,[],rfl,yac _,rfl,Jk.nil,⟨yac _,rfl⟩,rfl,rfl⟩)
 rintro q fr V ⟨i,k,ids,v,junk,rfl,hi,hk,hj,⟨hil,hs⟩,rfl,rfl⟩ hrec;clear cs;by_cases hlt:i<l.length
 ·have hwb:=hb _ (yaa hlt);rw[yab hlt,za2]at hs;have hkk:IntKind.i64.wrap (k+1)=k+1:=zk O O;have hbd:((ids.map encI).length+1)*8<=140737488355328:=by rw[yae];omega
  have hz1:∀e∈ids.map encI,e.length=1:=λe he=>(wak e he).1;have e1:ids.map encI++[encI k]=(ids++[k]).map encI:=gx;have c1:=zgn l[i].when_ vals hwb hbl
  cases hf:wao s[m] ev vals l[i]
  ·rw[hf,if_neg yah]at hs;simp only[wao]at hf;repeat' first|refine X ?_|((first|apply yG|apply yH|apply yI);exact rfl;(first|exact yax zd hk hlt|exact yax ja hn hm))|(apply Go.app1;exact rfl;exact rfl;exact rfl;exact rfl;exact rfl;exact hz1;exact hj;exact rfl;exact hbd;intro v' junk' hj')|refine yaC (c1) ?_|exact yaF|refine yaS ?_ ?_<;>intro _
   all_goals first
    |exact Go.keep [0,2,3,13,14,27,28,29] (hrec _ _ _ O ⟨i+1,_,ids,v,junk,rfl,hlt,wb hk O,hj,⟨O,by rw[hkk];exact hs⟩,rfl,rfl⟩)
    |(exfalso;clear hrec hs;simp_all;done)
  ·rw[hf,if_pos rfl]at hs;simp only[wao]at hf;repeat' first|refine X ?_|((first|apply yG|apply yH|apply yI);exact rfl;(first|exact yax zd hk hlt|exact yax ja hn hm))|(apply Go.app1;exact rfl;exact rfl;exact rfl;exact rfl;exact rfl;exact hz1;exact hj;exact rfl;exact hbd;intro v' junk' hj')|refine yaC (c1) ?_|exact yaF|refine yaS ?_ ?_<;>intro _
   all_goals first
    |(refine Go.keep [0,2,3,13,14,27,28,29] (hrec _ _ _ O ⟨i+1,_,ids++[k],v',junk',rfl,hlt,wb hk O,hj',⟨by simp;omega,by rw[hkk];exact hs⟩, ?_, ?_⟩)<;>(rw[<-e1];rfl))
    |(exfalso;clear hrec hs;simp_all;done)
 ·repeat' first|refine X ?_|exact yaF|refine yaS ?_ ?_<;>intro _
  refine .ret rfl ?_;rw[yad O,za2]at hs;rw[hs];exact wcg wak hj
end Go.Proofs.YtedaadaaibofaaaGreat.Am
